/-
  AbsHeap2: copy, clear, bytes as a string, calls; and all operations together.
-/
import Derived.Test.YtlgnboohmahbaaaGreatDoorAbsMap
import Derived.Laws.BytesString
import Derived.Laws.BytesArg
import Derived.Lib.ConvBytes
set_option linter.unusedVariables false
set_option linter.unusedSimpArgs false
set_option linter.constructorNameAsVariable false
namespace Go.Abs
open Go
variable {O:Type} {RO:O → Loc → (Nat → Option Obj) → Prop} {P:Program} {ρ:cl} {fp:Fp} {σ:AH O} {w:World} {n:Nat} {e:Env} {a:Act} {R:Type}
variable {G:List (Nat × Sm O)} {ty:TypeId} {nid:Nat} {K:AV → AH O → Option R} {r:R}
theorem VX {c:Call} (fB:c.callee=.builtin .copy) (h:fe P G (.call c) ty e σ nid K=some r) (he:aH n ρ e a) (aC:Rel RO P ρ fp σ w):Goal RO P (.call c) ty a nid ρ fp σ w K r:=by
 simp only [fe,fB] at h
 split at h
 ·rename_i sa k sa' m t t' hv ht
  obtain ⟨u1,u2,ha,r1,r2⟩:=LK (wz he c.args) hv
  have hts:c.argTypes = #[t,t']:=by apply Array.ext';rw [ht]
  split at h
  ·rename_i el hu
   obtain ⟨inf,lQ,hA⟩:=dW h
   clear h hv
   have hZ:∀ {u:Value} {w':World},(Builtin.copy_ #[t,t'] ty #[u1,u2]).run P w=.ok u w' → ∀ o:Oper,o.op=.call c → o.type=ty → (execOp a.eval o).run P w=.ok (.value u) w':=by
    intro u w' hr o ho DE
    subst DE
    simp only [execOp,ho,resolve,fB,Sem.run_bind,Sem.run_pure,Result.andThen_ok,invoke,builtin,hts,ha,hr]
   obtain ⟨A1,ak1,e1,Xl,_⟩:=r1.Ik
   obtain ⟨A2,apA,e2,YE,_⟩:=r2.Ik
   cases hk:Nat.beq (min m k) 0 with
   |true=>
    rw [hk] at hA
    have hk:=Nat.eq_of_beq_eq_true hk
    refine ⟨_,_,hA,dR.value (hZ (u:=.int .i64 0) (w':=w) ?_) (.i _ _) (aO.refl aC)⟩
    have hk':Nat.min m k=0:=hk
    rw [e1,e2]
    cases A1<;>cases A2<;>simp [Builtin.copy_,run_underlying hu,Builtin.lenOf,hk',sizeOf,typeInfo,lQ,Builtin.firstCells,loadCells,loadCellsFrom,storeCells,goInt]
   |false=>
    simp only [hk,cond_false] at hA
    obtain ⟨cs,Gj,hA⟩:=Option.bind_eq_some_iff.1 hA
    obtain ⟨aj,lP,h⟩:=Option.bind_eq_some_iff.1 hA
    have Xm:min m k≠0:=fun e=>by rw [e] at hk;cases hk
    unfold AH.bC at Gj
    unfold AH.VE at lP
    clear e1 e2
    generalize GC:u1=uu1 at r1
    generalize hu2:u2=uu2 at r2
    cases r1 with
    |SN=>cases lP
    |Og=>cases lP
    |QK=>simp at Xm
    |YB _ _ _ _ c1 L1 YF p1 p2 p3=>
     cases r2 with
     |SN=>simp at Xm
     |Og=>simp at Xm
     |QK=>simp at Xm
     |YB _ _ _ _ c2 L2 S5 q1 q2 q3=>
      obtain ⟨us,k1,k2,k3,k4⟩:=eN aC S5 Gj
      obtain ⟨fp',w',fy,hp⟩:=oQ (S:=fun b=>b<σ.next ∧ (aM (.call c)=true → b≠nid)) aC YF lP k1 k2
      have we:=run_loadCells_list (P:=P) w _ us (fun j u hj=>by rw [iG];exact k4 j u hj)
      refine ⟨_,_,h,dR.value (hZ (u:=.int .i64 (min m k:Nat)) (w':=w') ?_) (.i _ _) hp⟩
      rw [GC,hu2]
      have wB:Nat.min m k=min m k:=rfl
      rw [k3] at we
      simp [Builtin.copy_,run_underlying hu,Builtin.lenOf,sizeOf,typeInfo,lQ,Builtin.firstCells,wB,we,fy,goInt]
     |sl _ _ _ c2 L2 S5 q1 q2 q3=>
      obtain ⟨us,k1,k2,k3,k4⟩:=eN aC S5 Gj
      obtain ⟨fp',w',fy,hp⟩:=oQ (S:=fun b=>b<σ.next ∧ (aM (.call c)=true → b≠nid)) aC YF lP k1 k2
      have we:=run_loadCells_list (P:=P) w _ us (fun j u hj=>by rw [iG];exact k4 j u hj)
      refine ⟨_,_,h,dR.value (hZ (u:=.int .i64 (min m k:Nat)) (w':=w') ?_) (.i _ _) hp⟩
      rw [GC,hu2]
      have wB:Nat.min m k=min m k:=rfl
      rw [k3] at we
      simp [Builtin.copy_,run_underlying hu,Builtin.lenOf,sizeOf,typeInfo,lQ,Builtin.firstCells,wB,we,fy,goInt]
    |sl _ _ _ c1 L1 YF p1 p2 p3=>
     cases r2 with
     |SN=>simp at Xm
     |Og=>simp at Xm
     |QK=>simp at Xm
     |YB _ _ _ _ c2 L2 S5 q1 q2 q3=>
      obtain ⟨us,k1,k2,k3,k4⟩:=eN aC S5 Gj
      obtain ⟨fp',w',fy,hp⟩:=oQ (S:=fun b=>b<σ.next ∧ (aM (.call c)=true → b≠nid)) aC YF lP k1 k2
      have we:=run_loadCells_list (P:=P) w _ us (fun j u hj=>by rw [iG];exact k4 j u hj)
      refine ⟨_,_,h,dR.value (hZ (u:=.int .i64 (min m k:Nat)) (w':=w') ?_) (.i _ _) hp⟩
      rw [GC,hu2]
      have wB:Nat.min m k=min m k:=rfl
      rw [k3] at we
      simp [Builtin.copy_,run_underlying hu,Builtin.lenOf,sizeOf,typeInfo,lQ,Builtin.firstCells,wB,we,fy,goInt]
     |sl _ _ _ c2 L2 S5 q1 q2 q3=>
      obtain ⟨us,k1,k2,k3,k4⟩:=eN aC S5 Gj
      obtain ⟨fp',w',fy,hp⟩:=oQ (S:=fun b=>b<σ.next ∧ (aM (.call c)=true → b≠nid)) aC YF lP k1 k2
      have we:=run_loadCells_list (P:=P) w _ us (fun j u hj=>by rw [iG];exact k4 j u hj)
      refine ⟨_,_,h,dR.value (hZ (u:=.int .i64 (min m k:Nat)) (w':=w') ?_) (.i _ _) hp⟩
      rw [GC,hu2]
      have wB:Nat.min m k=min m k:=rfl
      rw [k3] at we
      simp [Builtin.copy_,run_underlying hu,Builtin.lenOf,sizeOf,typeInfo,lQ,Builtin.firstCells,wB,we,fy,goInt]
  ·cases h
 ·cases h
theorem Ev {z:List AV} {v:Value} (hz:aL ρ z v.cells.toList) (ho:z.all AV.aZ=true) (m:Nat):aL ρ ((List.replicate m z).flatten) (Builtin.zeroCells v.cells m).toList ∧ ((List.replicate m z).flatten).all AV.aZ=true:=by
 have hl:=hz.length
 simp only [Array.length_toList] at hl
 have:=Fe hz ho m
 rw [hl] at this
 exact ⟨this,(wy hz ho m _ (Nat.le_refl _)).1⟩
theorem Te {c:Call} (fB:c.callee=.builtin .clear) (h:fe P G (.call c) ty e σ nid K=some r) (he:aH n ρ e a) (aC:Rel RO P ρ fp σ w):Goal RO P (.call c) ty a nid ρ fp σ w K r:=by
 simp only [fe,fB] at h
 split at h
 ·rename_i sa k t hv ht
  obtain ⟨u1,ha,r1⟩:=adu (wz he c.args) hv
  have hts:c.argTypes = #[t]:=by apply Array.ext';rw [ht]
  split at h
  ·rename_i el hu
   have hZ:∀ {u:Value} {w':World},(Builtin.clear_ #[t] ty #[u1]).run P w=.ok u w' → ∀ o:Oper,o.op=.call c → o.type=ty → (execOp a.eval o).run P w=.ok (.value u) w':=by
    intro u w' hr o ho DE
    subst DE
    simp only [execOp,ho,resolve,fB,Sem.run_bind,Sem.run_pure,Result.andThen_ok,invoke,builtin,hts,ha,hr]
   obtain ⟨A1,ak1,e1,Xl,_⟩:=r1.Ik
   cases hk:Nat.beq k 0 with
   |true=>
    rw [hk] at h
    have hk:=Nat.eq_of_beq_eq_true hk
    subst hk
    refine ⟨_,_,h,dR.value (hZ (u:=.tuple #[]) (w':=w) ?_) (.aS [] [] .nil) (aO.refl aC)⟩
    rw [e1]
    cases A1<;>simp [Builtin.clear_,run_underlying hu]
   |false=>
    have hk0:k≠0:=fun e=>by rw [e] at hk;cases hk
    simp only [hk,cond_false] at h
    split at h
    ·rename_i z hz
     obtain ⟨i,v,hi,hvz,-,g1,g2,g3,g4,g5⟩:=lh (ρ:=ρ) hz
     obtain ⟨aj,lP,hQ⟩:=Option.bind_eq_some_iff.1 h
     unfold AH.VE at lP
     clear e1 h
     generalize GC:u1=uu1 at r1
     cases r1 with
     |SN=>exact absurd rfl hk0
     |Og=>exact absurd rfl hk0
     |QK=>exact absurd rfl hk0
     |YB _ _ _ _ c1 L1 YF p1 p2 p3=>
      obtain ⟨z1,z2⟩:=Ev g4 g1 k
      obtain ⟨fp',w',fy,hp⟩:=oQ (S:=fun b=>b<σ.next ∧ (aM (.call c)=true → b≠nid)) aC YF lP z1 z2
      refine ⟨_,_,hQ,dR.value (hZ (u:=.tuple #[]) (w':=w') ?_) (.aS [] [] .nil) hp⟩
      rw [GC]
      cases k with
      |zero=>exact absurd rfl hk0
      |succ k=>simp [Builtin.clear_,run_underlying hu,zeroValue,typeInfo,hi,hvz,fy]
     |sl _ _ _ c1 L1 YF p1 p2 p3=>
      obtain ⟨z1,z2⟩:=Ev g4 g1 k
      obtain ⟨fp',w',fy,hp⟩:=oQ (S:=fun b=>b<σ.next ∧ (aM (.call c)=true → b≠nid)) aC YF lP z1 z2
      refine ⟨_,_,hQ,dR.value (hZ (u:=.tuple #[]) (w':=w') ?_) (.aS [] [] .nil) hp⟩
      rw [GC]
      cases k with
      |zero=>exact absurd rfl hk0
      |succ k=>simp [Builtin.clear_,run_underlying hu,zeroValue,typeInfo,hi,hvz,fy]
    ·cases h
  ·cases h
 ·cases h
theorem yk:∀ (cs:List AV) (us:List Value) (l:List UInt8),dO cs=some l → aL ρ cs us → ∃ ns:List Int,us=ns.map (Value.int .u8) ∧ l=ns.map fun n=>UInt8.ofNat n.toNat
 |[],us,l,h,hr=>by cases hr;simp [dO] at h;exact ⟨[],rfl,by simp [h]⟩
 |c::cs,us,l,h,hr=>by
  cases hr with
  |cons _ u _ us h1 h2=>
   unfold dO at h
   split at h
   ·rename_i h';cases h'
   ·rename_i m r' h'
    cases h'
    simp only [Option.map_eq_some_iff] at h
    obtain ⟨l',Xj,rfl⟩:=h
    obtain ⟨ns,e1,e2⟩:=yk cs us l' Xj h2
    exact ⟨m::ns,by rw [h1.eK,e1];rfl,by rw [e2];rfl⟩
   ·cases h
theorem aO.agW {S:Nat → Prop} {w':World} (h:Rel RO P ρ fp σ w) (hk:∀ B:Nat,B<w.heap.size → w'.heap[B]? = w.heap[B]?) (hs:w.heap.size ≤ w'.heap.size) (k1:w'.os=w.os) (k2:w'.tape=w.tape) (k3:w'.output=w.output) (us:List Value) (hc:∀ i u,us[i]? = some u → w'.cell? ⟨w.heap.size,i,none⟩=some u):
  ∃ aR:cl,(∀ i u,us[i]? = some u → aR.fz w.heap.size i=some u) ∧ aO RO P S ρ fp σ w aR fp σ w':=by
 have hw:=h.world hk hs
 let aR:cl:=⟨ρ.loc,fun B O=>if B=w.heap.size then us[O]? else ρ.fz B O⟩
 have old:∀ B O u,ρ.fz B O=some u → B<w.heap.size:=fun B O u hu=>wC (h.fz B O u hu).1
 have hle:ρ.le aR:=⟨fun _ _ hb=>hb,fun B O u hu=>by
  have:=old B O u hu
  show (if B=w.heap.size then us[O]? else ρ.fz B O)=some u
  rw [if_neg (by omega)];exact hu⟩
 refine ⟨aR,fun i u hu=>by show (if w.heap.size=w.heap.size then us[i]? else _)=some u;rw [if_pos rfl];exact hu,⟨⟨hw.next,fun b x L hx hL=>(hw.ai b x L hx hL).mono hle,hw.dead,hw.has,hw.nT,fun B O u hu=>?_⟩,⟨k1,k2,k3,hs,fun B hB _=>hk B hB⟩,fun b B _ hb=>⟨b,hb⟩,fun B O u hu hB=>?_,hle,fun _ _=>rfl,fun _ _ _ hb=>hb,Nat.le_refl _⟩⟩
 ·have hu:(if B=w.heap.size then us[O]? else ρ.fz B O)=some u:=hu
  by_cases e:B=w.heap.size
  ·subst e
   rw [if_pos rfl] at hu
   refine ⟨hc O u hu,fun c=>?_⟩
   cases hx:fp c w.heap.size with
   |none=>rfl
   |some o=>exact absurd (h.size (b:=c) (B:=w.heap.size) (by simp [hx])) (Nat.lt_irrefl _)
  ·rw [if_neg e] at hu
   exact hw.fz B O u hu
 ·have hu:(if B=w.heap.size then us[O]? else ρ.fz B O)=some u:=hu
  rw [if_neg (by omega)] at hu
  exact .inr ⟨O,u,hu⟩
theorem VY {src dst:TypeId} {x:Operand} (h:fe P G (.convert src dst x) ty e σ nid K=some r) (he:aH n ρ e a) (aC:Rel RO P ρ fp σ w):Goal RO P (.convert src dst x) ty a nid ρ fp σ w K r:=by
 simp only [fe] at h
 have hx:=he.ev x
 split at h
 ·rename_i sa m yj
  rw [yj] at hx
  split at h
  ·rename_i el hu hd
   split at h
   ·rename_i Eo
    have hZ:∀ {u:Value} {uu:Value},a.eval x=uu → (convert src dst uu).run P w=.ok u w → ∀ o:Oper,o.op=.convert src dst x → o.type=ty → (execOp a.eval o).run P w=.ok (.value u) w:=by
     intro u uu e1 hr o ho DE
     simp only [execOp,ho,e1,Sem.run_bind,hr,Result.andThen_ok,Sem.run_pure]
    obtain ⟨cs,Gj,hQ⟩:=Option.bind_eq_some_iff.1 h
    clear h
    obtain ⟨l,hl,h⟩:=Option.bind_eq_some_iff.1 hQ
    clear hQ
    unfold AH.bC at Gj
    clear yj
    generalize Vj:a.eval x=ux at hx
    cases hx with
    |QK _ _ _ A=>
     have:cs=[]:=by
      simp only [Nat.zero_mul] at Gj
      exact Tb Gj
     subst this
     simp [dO] at hl;subst hl
     refine ⟨_,_,by assumption,dR.value (hZ Vj (u:=.string ⟨#[]⟩) ?_) (.s ⟨#[]⟩) (aO.refl aC)⟩
     rw [run_convert_bytes_string w src dst el _ 0 0 hu Eo hd]
     exact run_bytesToString w A 0 0 [] (by simp [loadCells,loadCellsFrom])
    |sl _ _ _ cap L hL h1 h2 h3=>
     obtain ⟨us,k1,k2,k3,k4⟩:=eN aC hL Gj
     obtain ⟨ns,e1,e2⟩:=yk cs us l hl k1
     have we:=run_loadCells_list (P:=P) w _ us (fun j u hj=>by rw [iG];exact k4 j u hj)
     rw [k3,e1,Nat.mul_one] at we
     refine ⟨_,_,by assumption,dR.value (hZ Vj (u:=.string (ns.foldl (fun r n=>r.push (UInt8.ofNat n.toNat)) ByteArray.empty)) ?_) ?_ (aO.refl aC)⟩
     ·rw [run_convert_bytes_string w src dst el _ m cap hu Eo hd]
      exact run_bytesToString w _ m cap ns we
     ·rw [foldl_push_bytes,e2]
      have:=aI.s (ρ:=ρ) ⟨ByteArray.empty.data++(ns.map fun n=>UInt8.ofNat n.toNat).toArray⟩
      simpa using this
    |YB _ _ _ _ cap L hL h0 h1 h2=>
     obtain ⟨us,k1,k2,k3,k4⟩:=eN aC hL Gj
     obtain ⟨ns,e1,e2⟩:=yk cs us l hl k1
     have we:=run_loadCells_list (P:=P) w _ us (fun j u hj=>by rw [iG];exact k4 j u hj)
     rw [k3,e1,Nat.mul_one] at we
     refine ⟨_,_,by assumption,dR.value (hZ Vj (u:=.string (ns.foldl (fun r n=>r.push (UInt8.ofNat n.toNat)) ByteArray.empty)) ?_) ?_ (aO.refl aC)⟩
     ·rw [run_convert_bytes_string w src dst el _ m cap hu Eo hd]
      exact run_bytesToString w _ m cap ns we
     ·rw [foldl_push_bytes,e2]
      have:=aI.s (ρ:=ρ) ⟨ByteArray.empty.data++(ns.map fun n=>UInt8.ofNat n.toNat).toArray⟩
      simpa using this
    |SN=>
     cases Gj
     simp [dO] at hl;subst hl
     refine ⟨_,_,by assumption,dR.value (hZ Vj (u:=.string ⟨#[]⟩) ?_) (.s ⟨#[]⟩) (aO.refl aC)⟩
     rw [run_convert_bytes_string w src dst el _ 0 0 hu Eo hd]
     simp [Conv.bytesToString];rfl
    |Og A=>
     cases Gj
     simp [dO] at hl;subst hl
     refine ⟨_,_,by assumption,dR.value (hZ Vj (u:=.string ⟨#[]⟩) ?_) (.s ⟨#[]⟩) (aO.refl aC)⟩
     rw [run_convert_bytes_string w src dst el _ 0 0 hu Eo hd]
     exact run_bytesToString w A 0 0 [] (by simp [loadCells,loadCellsFrom])
   ·cases h
  ·cases h
 ·rename_i l yj
  rw [yj] at hx
  split at h
  ·rename_i d0 el hs hd
   split at h
   ·rename_i Eo
    obtain ⟨hc,h⟩:=aD h
    have hc:=Nat.le_of_ble_eq_true hc
    obtain ⟨s,ux,rfl⟩:=hx.wA
    have qX:s.data.toList.length=s.size:=by simp
    rw [qX] at hc
    have Vg:=grownCap_ge w s.size 0 el
    have hcm:=grownCap_le_maxLen w s.size 0 el (by unfold maxLen;omega)
    let us:List Value:=s.data.toList.map fun c=>Value.int .u8 c.toNat
    obtain ⟨aR,q1,q2⟩:=aO.agW (S:=fun b=>b<σ.next ∧ (aM (.convert src dst x)=true → b≠nid)) aC (w':=Lib.bytesWorld w el s) (fun B hB=>Lib.bytesWorld_at_old w el s B hB) (by rw [Lib.bytesWorld_size];omega) rfl rfl rfl us (fun i u hu=>by
     have hi:=(List.getElem?_eq_some_iff.1 hu).1
     simp only [us,List.length_map,qX] at hi
     rw [Lib.bytesWorld_cell w el s i hi,← hu]
     simp only [us,List.getElem?_map]
     rw [List.getElem?_eq_getElem (by rw [qX];exact hi)]
     simp [List.getD,hi])
    refine ⟨_,_,h,dR.value (u:=.slice (some ⟨w.heap.size,0,none⟩) s.size (grownCap w s.size 0 el)) (w':=Lib.bytesWorld w el s) (fun o ho DE=>?_) ?_ q2⟩
    ·simp only [execOp,ho,ux,Sem.run_bind,Lib.run_convert_string_bytes w src dst el s hs hd Eo,Result.andThen_ok,Sem.run_pure]
    ·have rel:∀ l:List UInt8,aL aR (l.map fun c=>AV.i .u8 c.toNat) (l.map fun c=>Value.int .u8 c.toNat):=fun l=>by
      induction l with
      |nil=>exact .nil
      |cons c l ih=>exact .cons _ _ _ _ (.i _ _) ih
     have:=aI.sl (.f (s.data.toList.map fun c=>AV.i .u8 c.toNat)) 0 s.data.toList.length (grownCap w s.size 0 el) ⟨w.heap.size,0,grownCap w s.size 0 el,1⟩ (.f _ us _ (rel _) (List.all_eq_true.2 fun v hv=>by obtain ⟨c,_,rfl⟩:=List.mem_map.1 hv;rfl) (fun i u hu=>by rw [Nat.zero_add];exact q1 i u hu)) (by rw [qX];exact Vg) hcm (by simp)
     rw [qX] at this ⊢
     exact this
   ·cases h
  ·exact dR.LI aC he h
 ·exact dR.LI aC he h
theorem Fa (hG:dJ RO P G) {f:Nat} {xs:List AV} {σ:AH O} {v:AV × AH O} (h:Gt G f xs σ=some v):(f<wo ∧ aa P f ∧ ae RO P f (Gt G f)) ∨ (f<wo ∧ rM P f (Gt G f)) ∨ (f=wo ∧ nV RO P (Gt G f)) ∨ ∃ c,f=c+Kl ∧ aa P c ∧ ae RO P c (Gt G f):=by
 induction G with
 |nil=>cases h
 |cons g G ih=>
  obtain ⟨g,s⟩:=g
  unfold Gt at h ⊢
  cases hgf:Nat.beq g f with
  |true=>
   have:=Nat.eq_of_beq_eq_true hgf
   subst this
   simp only [hgf,cond_true] at h ⊢
   exact hG g s (by simp)
  |false=>
   simp only [hgf,cond_false] at h ⊢
   exact ih (fun f s hm=>hG f s (by simp [hm])) h
theorem Tf (hG:dJ RO P G) {c:Call} {f:Operand} (fB:c.callee=.value f) (h:fe P G (.call c) ty e σ nid K=some r) (he:aH n ρ e a) (aC:Rel RO P ρ fp σ w):Goal RO P (.call c) ty a nid ρ fp σ w K r:=by
 simp only [fe,fB] at h
 have hx:=he.ev f
 split at h
 ·rename_i x yj
  rw [yj] at hx
  simp only [Option.bind_eq_some_iff] at h
  obtain ⟨⟨v,aj⟩,hc,h⟩:=h
  have h:=wD h
  unfold JA at hc
  split at hc
  ·rename_i g fi ca
   obtain ⟨hyk,hc⟩:Nat.ble wo g=false ∧ Gt G g (fi++c.args.toList.map (Abs.ev e)++ca) σ=some (v,aj):=by
    cases hb:Nat.ble wo g with
    |true=>rw [hb] at hc;cases hc
    |false=>rw [hb] at hc;exact ⟨rfl,hc⟩
   obtain ⟨QI,QJ,uf,h1,h2⟩:=hx.VR
   have hargs:aL ρ (fi++c.args.toList.map (Abs.ev e)++ca) (QI.toArray++c.args.map a.eval++QJ.toArray).toList:=by
    simp only [Array.toList_append]
    exact (h1.append (wz he c.args)).append h2
   rcases Fa hG hc with ⟨_,ahZ,hs⟩ |⟨_,YG⟩ |⟨e,_⟩ |⟨c',e,_⟩
   ·refine ⟨v,aj,h,fun ro o next Q ho DE hk=>?_⟩
    have fy:(execOp a.eval o).run P w=.ok (.enter g (QI.toArray++c.args.map a.eval++QJ.toArray)) w:=by
     simp only [execOp,ho,resolve,fB,uf,Deferred.ofValue,Sem.run_bind,Sem.run_pure,Result.andThen_ok,invoke]
     exact ahZ _ w
    refine kx (fun c hc=>by rw [ho] at hc;cases hc) fy ?_
    refine ⟨fun h=>(Bool.false_ne_true h).elim,Fb.2 ?_⟩
    refine (hs _ σ v aj hc ρ fp w _ hargs aC).mono ?_
    rintro x w' ⟨aR,fp',u,rfl,hu,hp⟩
    exact hk u w' aR fp' hu (hp.mono fun b hb=>hb.1) (fun _ h2=>by simp [turns,fB] at h2)
   ·obtain ⟨rfl,hu⟩:=YG _ _ _ _ hc
    obtain ⟨u,GC,hu2⟩:=hu ρ _ hargs
    refine ⟨v,_,h,dR.value (fun o ho DE=>?_) GC (aO.refl aC) (fun _ h2=>by simp [turns,fB] at h2)⟩
    simp only [execOp,ho,resolve,fB,uf,Deferred.ofValue,Sem.run_bind,Sem.run_pure,Result.andThen_ok,invoke]
    exact hu2 w
   ·subst e;simp at hyk
   ·subst e;have:=Nat.ble_eq_true_of_le (show wo ≤ c'+Kl by show 1000000 ≤ c'+2000000;omega);rw [hyk] at this;cases this
  ·rename_i b q1 q2
   obtain ⟨L,hL,uf⟩:=hx.ah5
   rcases Fa hG hc with ⟨h0,_⟩ |⟨h0,_⟩ |⟨_,hy⟩ |⟨c',h0,_⟩
   ·exact absurd h0 (Nat.lt_irrefl _)
   ·exact absurd h0 (Nat.lt_irrefl _)
   rotate_left
   ·exact absurd h0 (by show ¬ 1000000=c'+2000000;omega)
   ·refine ⟨v,aj,h,fun ro o next Q ho DE hk=>?_⟩
    have hargs:aL ρ (c.args.toList.map (Abs.ev e)) (c.args.map a.eval).toList:=wz he c.args
    obtain ⟨r,hr,qX,ah6⟩:=hy b 0 _ σ v aj hc ρ fp w (c.args.map a.eval) L hL hargs aC
    have fy:(execOp a.eval o).run P w=.ok (.round L.B r.fn ((r.params.zip (c.args.map a.eval)).foldl (fun tmps (t,a)=>tmps.setIfInBounds t a) r.tmps) r.assign r.body) w:=by
     simp only [execOp,ho,resolve,fB,uf,Deferred.ofValue,Sem.run_bind,Sem.run_pure,Result.andThen_ok,invoke]
     simpa using run_yield hr qX
    refine kx (fun c hc=>by rw [ho] at hc;cases hc) fy ?_
    refine ⟨fun h=>(Bool.false_ne_true h).elim,RoundIn.mono (show RoundIn (Fw ro) 0 P L.B r.fn _ r.assign r.body w _ from ah6) ?_⟩
    rintro x w' ⟨aR,fp',u,rfl,hu,hp⟩
    exact hk u w' aR fp' hu (hp.mono fun b hb=>hb.1) (fun _ h2=>by simp [turns,fB] at h2)
  ·cases hc
 ·cases h
theorem aaB (hG:dJ RO P G) {op:Op} (h:fe P G op ty e σ nid K=some r) (he:aH n ρ e a) (aC:Rel RO P ρ fp σ w) (hn:aM op=true → nid<σ.next ∧ ρ nid=none):
  Goal RO P op ty a nid ρ fp σ w K r:=by
 cases op
 case alloc=>obtain ⟨a1,a3⟩:=hn rfl;exact S8 h aC a1 a3
 case box=>obtain ⟨a1,a3⟩:=hn rfl;exact Yy h he aC a1 a3
 case buildSlice=>obtain ⟨a1,a3⟩:=hn rfl;exact Ih h he aC a1 a3
 case makeSlice=>obtain ⟨a1,a3⟩:=hn rfl;exact Kp h he aC a1 a3
 case makeMap=>obtain ⟨a1,a3⟩:=hn rfl;exact Om h he aC a1 a3
 case range=>obtain ⟨a1,a3⟩:=hn rfl;exact Tg h he aC a1 a3
 case entry=>exact Th h he aC
 case lookup=>exact QR h he aC
 case mapUpdate=>exact Kr h he aC
 case load=>exact VV h he aC
 case store=>exact Ta h he aC
 case convert=>exact VY h he aC
 case call c=>
  cases fB:c.callee with
  |value f=>exact Tf hG fB h he aC
  |invoke x m=>
   have h':=h
   simp only [fe,fB] at h'
   exact dR.LI aC he h'
  |builtin b=>
   cases b
   case append=>
    obtain ⟨a1,a3⟩:=hn (by cases c;simp only at fB;subst fB;rfl)
    exact QQ fB h he aC a1 a3
   case copy=>exact VX fB h he aC
   case clear=>exact Te fB h he aC
   case delete=>exact QS fB h he aC
   all_goals
    have h':=h
    simp only [fe,fB] at h'
    exact dR.LI aC he h'
 all_goals exact dR.LI aC he h
end Go.Abs
