/-
  AbsHeap: the operations upon the heap, held against the model's own.
-/
import Derived.Test.YtlgnboohmahbaaaGreatDoorAbsPure2
import Derived.CallsIn
import Derived.RangeFuncIn
set_option linter.unusedVariables false
set_option linter.unusedSimpArgs false
set_option linter.constructorNameAsVariable false
namespace Go.Abs
open Go
variable {O:Type} {RO:O → Loc → (Nat → Option Obj) → Prop} {P:Program} {ρ:cl} {fp:Fp} {σ:AH O} {w:World} {n:Nat} {e:Env} {a:Act} {R:Type}
def Fw (ro:Option Nat):Fence:={Fence.wide with round:=ro}
theorem Fb {ro:Option Nat} {k:Nat} {f:FuncId} {args:Array Value} {w:World} {R:Ending → World → Prop}:CallsIn (Fw ro) k P f args w R ↔ Calls P f args w R:=callsIn_wide (n:=k)
def ae (RO:O → Loc → (Nat → Option Obj) → Prop) (P:Program) (f:FuncId) (s:Sm O):Prop:=
 ∀ xs σ v aj,s xs σ=some (v,aj) → ∀ ρ fp w (args:Array Value),aL ρ xs args.toList → Rel RO P ρ fp σ w →
  Calls P f args w fun x w'=>∃ aR fp' u,x=.returned u ∧ aI aR v u ∧ aO RO P (· < σ.next) ρ fp σ w aR fp' aj w'
def aa (P:Program) (f:FuncId):Prop:=∀ (args:Array Value) (w:World),(callFunc f args).run P w=.ok (.enter f args) w
def rM (P:Program) (f:FuncId) (s:Sm O):Prop:=
 ∀ xs σ v aj,s xs σ=some (v,aj) → aj=σ ∧ ∀ ρ (args:Array Value),aL ρ xs args.toList → ∃ u,aI ρ v u ∧ ∀ w,(callFunc f args).run P w=.ok (.value u) w
def nV (RO:O → Loc → (Nat → Option Obj) → Prop) (P:Program) (s:Sm O):Prop:=
 ∀ b o ys σ v aj,s (.p (some (.n b,o))::ys) σ=some (v,aj) → ∀ ρ fp w (args:Array Value) L,ρ b=some L → aL ρ ys args.toList → Rel RO P ρ fp σ w →
  ∃ r:Loop,w.heap[L.B]? = some (.loop r) ∧ args.size=r.params.size ∧
   RoundIn (Fw none) 0 P L.B r.fn ((r.params.zip args).foldl (fun tmps (t,a)=>tmps.setIfInBounds t a) r.tmps) r.assign r.body w fun x w'=>∃ aR fp' u,x=.returned u ∧ aI aR v u ∧ aO RO P (· < σ.next) ρ fp σ w aR fp' aj w'
def dJ (RO:O → Loc → (Nat → Option Obj) → Prop) (P:Program) (G:List (Nat × Sm O)):Prop:=∀ f s,(f,s)∈G → (f<wo ∧ aa P f ∧ ae RO P f s) ∨ (f<wo ∧ rM P f s) ∨ (f=wo ∧ nV RO P s) ∨ ∃ c,f=c+Kl ∧ aa P c ∧ ae RO P c s
def dR (RO:O → Loc → (Nat → Option Obj) → Prop) (P:Program) (op:Op) (ty:TypeId) (a:Act) (nid:Nat) (ρ:cl) (fp:Fp) (σ:AH O) (w:World) (v:AV) (aj:AH O):Prop:=
 ∀ (ro:Option Nat) (o:Oper) (next:Act → World → Prop) (Q:Exit → Act → World → Prop),o.op=op → o.type=ty →
  (∀ u w' aR fp',aI aR v u → aO RO P (fun b=>b<σ.next ∧ (aM op=true → b≠nid)) ρ fp σ w aR fp' aj w' → (aM op=true → turns op=false → ∃ L,aR nid=some L ∧ w.heap.size ≤ L.B) → next (a.put o.dst u) w') → o.wpIn (Fw ro) 0 P a w next Q
theorem kx {ro:Option Nat} {o:Oper} {next:Act → World → Prop} {Q:Exit → Act → World → Prop} {x:Result Next} (hd:∀ c,o.op≠.defer c) (hr:(execOp a.eval o).run P w=x) (h:o.uponIn (Fw ro) 0 P a next Q x):o.wpIn (Fw ro) 0 P a w next Q:=
 ⟨fun _ _=>trivial,by rw [Oper.semAt_eq _ _ _ hd,hr];exact h⟩
theorem jY {o:Oper} {x:Result Next} (hr:(execOp a.eval o).run P w=x) (hx:(∃ u w',x=.ok (.value u) w') ∨ ∃ w',x=.ok .skip w'):∀ c,o.op≠.defer c:=fun c hc=>by
 simp only [execOp,hc,Sem.run_bind] at hr
 cases adt:(resolve a.eval c o.type).run P w with
 |ok d w1=>
  rw [adt] at hr
  simp only [Result.andThen_ok,Sem.run_pure] at hr
  subst hr
  rcases hx with ⟨_,_,h⟩ |⟨_,h⟩<;>cases h
 |halt y w1=>
  rw [adt] at hr
  simp only [Result.andThen] at hr
  subst hr
  rcases hx with ⟨_,_,h⟩ |⟨_,h⟩<;>cases h
theorem dR.value {op:Op} {ty:TypeId} {nid:Nat} {v:AV} {aj:AH O} {u:Value} {w':World} {aR:cl} {fp':Fp}
  (hr:∀ o:Oper,o.op=op → o.type=ty → (execOp a.eval o).run P w=.ok (.value u) w') (hv:aI aR v u)
  (hp:aO RO P (fun b=>b<σ.next ∧ (aM op=true → b≠nid)) ρ fp σ w aR fp' aj w')
  (hf:aM op=true → turns op=false → ∃ L,aR nid=some L ∧ w.heap.size ≤ L.B:=by (intro h1 h2;simp_all [aM,turns];done)):dR RO P op ty a nid ρ fp σ w v aj:=fun ro o next Q ho DE h=>
 kx (jY (hr o ho DE) (.inl ⟨_,_,rfl⟩)) (hr o ho DE) (h u w' aR fp' hv hp hf)
theorem S7 {op:Op} {ty:TypeId} {e:Env} {R:Type} {K:AV → Option R} {r:R} (h:bG P op ty e K=some r):aM op=false:=by
 cases op<;>first |rfl |(simp only [bG] at h;cases h;done) |skip
 case call c=>
  obtain ⟨cal,as_,ts⟩:=c
  cases cal with
  |builtin b=>cases b<;>first |rfl |(simp only [bG] at h;cases h;done)
  |value=>rfl
  |invoke=>rfl
theorem dR.LI {op:Op} {ty:TypeId} {nid:Nat} {K:AV → AH O → Option R} {r:R} (aC:Rel RO P ρ fp σ w) (he:aH n ρ e a) (h:bG P op ty e (fun v=>K v σ)=some r):
  ∃ v aj,K v aj=some r ∧ dR RO P op ty a nid ρ fp σ w v aj:=by
 obtain ⟨v,u,hk,hv,hy⟩:=VU h he
 exact ⟨v,σ,hk,dR.value (fun o ho _=>hy o w ho) hv (aO.refl aC) (fun h1=>by rw [S7 h] at h1;cases h1)⟩
theorem dR.QN {op:Op} {ty:TypeId} {nid:Nat} (ha:aM op=true) (aC:Rel RO P ρ fp σ w) (hn:nid<σ.next) (h1:ρ nid=none) (el:TypeId) (cs:List AV) (arr:Array Value)
  (hl:cs.length ≤ arr.size) (hc:∀ (i:Nat) (v:AV),cs[i]? = some v → v.aZ=true ∧ ∃ u,arr[i]? = some u ∧ aI ρ v u) (hB:Ep P el=true → arr.size=cs.length) (v:AV) (u:Value)
  (hv:∀ aR:cl,aR nid=some ⟨w.heap.size,0,arr.size,Lt P el⟩ → aI aR v u)
  (hr:∀ o:Oper,o.op=op → o.type=ty → (execOp a.eval o).run P w=.ok (.value u) (w.alloc (.cells arr el))):dR RO P op ty a nid ρ fp σ w v (σ.put nid (.cells true el cs)):=by
 obtain ⟨aR,fp',h2,h3⟩:=aO.alloc aC hn h1 el cs arr hl hc hB
 exact dR.value hr (hv aR h2) (h3.mono fun b hb=>hb.2 ha) (fun _ _=>⟨_,h2,Nat.le_refl _⟩)
theorem uZ {cs:List AV} {arr:Array Value} (h:aL ρ cs arr.toList) (ho:cs.all AV.aZ=true) (i:Nat) (v:AV) (hv:cs[i]? = some v):v.aZ=true ∧ ∃ u,arr[i]? = some u ∧ aI ρ v u:=by
 obtain ⟨u,hu,hr⟩:=h.get hv
 exact ⟨List.all_eq_true.1 ho v (List.mem_of_getElem? hv),u,by simpa using hu,hr⟩
abbrev Goal (RO:O → Loc → (Nat → Option Obj) → Prop) (P:Program) (op:Op) (ty:TypeId) (a:Act) (nid:Nat) (ρ:cl) (fp:Fp) (σ:AH O) (w:World) (K:AV → AH O → Option R) (r:R):Prop:=
 ∃ v aj,K v aj=some r ∧ dR RO P op ty a nid ρ fp σ w v aj
variable {G:List (Nat × Sm O)} {ty:TypeId} {nid:Nat} {K:AV → AH O → Option R} {r:R}
theorem S8 {t:TypeId} (h:fe P G (.alloc t) ty e σ nid K=some r) (aC:Rel RO P ρ fp σ w) (hn:nid<σ.next) (h1:ρ nid=none):
  Goal RO P (.alloc t) ty a nid ρ fp σ w K r:=by
 simp only [fe] at h
 split at h
 ·rename_i cs hz
  obtain ⟨i,v,hi,hv,-,g1,g2,g3,g4,g5⟩:=lh (ρ:=ρ) hz
  refine ⟨_,_,h,dR.QN rfl aC hn h1 t cs v.cells (by omega) (uZ g4 g1) (fun _=>by omega) _ (.pointer (some ⟨w.heap.size,0,none⟩)) (fun aR hρ=>?_) (fun o ho _=>?_)⟩
  ·exact .p (.n nid) 0 _ (.n _ _ hρ)
  ·simp [execOp,ho,Instr.alloc,zeroValue,typeInfo,hi,hv,newVar,newRow]
 ·cases h
theorem Yy {t:TypeId} {x:Operand} (h:fe P G (.box t x) ty e σ nid K=some r) (he:aH n ρ e a) (aC:Rel RO P ρ fp σ w) (hn:nid<σ.next) (h1:ρ nid=none):
  Goal RO P (.box t x) ty a nid ρ fp σ w K r:=by
 simp only [fe] at h
 obtain ⟨ho,h⟩:=aD h
 obtain ⟨hc,Ib⟩:=(he.ev x).cells ho
 have hl:=hc.length
 refine ⟨_,_,h,dR.QN rfl aC hn h1 t _ (a.eval x).cells (by simp at hl;omega) (uZ hc ho) (fun _=>by simp at hl;omega) _ (.pointer (some ⟨w.heap.size,0,none⟩)) (fun aR hρ=>?_) (fun o ho _=>?_)⟩
 ·exact .p (.n nid) 0 _ (.n _ _ hρ)
 ·simp [execOp,ho,Instr.box,newVar,newRow]
theorem S9 {α:Type}:∀ (n:Nat) (z:List α) (j:Nat),j<n*z.length → ((List.replicate n z).flatten)[j]? = z[j % z.length]?
 |0,z,j,h=>by simp at h
 |n+1,z,j,h=>by
  simp only [List.replicate_succ,List.flatten_cons]
  by_cases hj:j<z.length
  ·rw [List.getElem?_append_left hj,Nat.mod_eq_of_lt hj]
  ·rw [List.getElem?_append_right (by omega),S9 n z (j - z.length) (by rw [Nat.add_mul] at h;omega)]
   congr 1
   conv=>rhs;rw [show j=(j - z.length)+z.length by omega]
   rw [Nat.add_mod_right]
theorem GA {α:Type} (n:Nat) (z:List α):((List.replicate n z).flatten).length=n*z.length:=by simp [List.length_flatten]
theorem wy {z:List AV} {v:Value} (hz:aL ρ z v.cells.toList) (ho:z.all AV.aZ=true) (m k:Nat) (hk:m*z.length ≤ k):
  (((List.replicate m z).flatten).all AV.aZ=true) ∧ ∀ (j:Nat) (x:AV),((List.replicate m z).flatten)[j]? = some x → x.aZ=true ∧ ∃ u,((Array.range k).map (v.cells[· % v.cells.size]!))[j]? = some u ∧ aI ρ x u:=by
 have hl:=hz.length
 simp only [Array.length_toList] at hl
 have key:∀ (j:Nat) (x:AV),((List.replicate m z).flatten)[j]? = some x → x.aZ=true ∧ ∃ u,((Array.range k).map (v.cells[· % v.cells.size]!))[j]? = some u ∧ aI ρ x u:=by
  intro j x hx
  have hj:j<m*z.length:=by have:=(List.getElem?_eq_some_iff.1 hx).1;rwa [GA] at this
  rw [S9 m z j hj] at hx
  obtain ⟨u,hu,hr⟩:=hz.get hx
  refine ⟨List.all_eq_true.1 ho x (List.mem_of_getElem? hx),u,?_,hr⟩
  rw [hl] at hu
  have VC:v.cells[j % v.cells.size]? = some u:=by simpa using hu
  have bS:=(Array.getElem?_eq_some_iff.1 VC).1
  simp only [Array.getElem?_map]
  rw [Array.getElem?_range,if_pos (by omega)]
  simp only [Option.map_some]
  rw [getElem!_pos v.cells _ bS]
  exact congrArg some (Array.getElem?_eq_some_iff.1 VC).2
 refine ⟨List.all_eq_true.2 fun x hx=>?_,key⟩
 obtain ⟨j,hj⟩:=List.getElem?_of_mem hx
 exact (key j x hj).1
theorem Fe {z:List AV} {v:Value} (hz:aL ρ z v.cells.toList) (ho:z.all AV.aZ=true) (m:Nat):
  aL ρ ((List.replicate m z).flatten) ((Array.range (m*z.length)).map (v.cells[· % v.cells.size]!)).toList:=
 .Ff (by rw [GA];simp) fun j x u hx hu=>by
  obtain ⟨_,u',h1,h2⟩:=(wy hz ho m (m*z.length) (Nat.le_refl _)).2 j x hx
  have:((Array.range (m*z.length)).map (v.cells[· % v.cells.size]!))[j]? = some u:=by rw [← Array.getElem?_toList];exact hu
  rw [h1] at this;cases this;exact h2
theorem GB (place:Nat → Option (Nat × Nat)):∀ (parts:List (Nat × AV)) (z cs:List AV),Er place z parts=some cs → cs.length=z.length
 |[],z,cs,h=>by simp only [Er,Option.some.injEq] at h;rw [h]
 |(i,v)::ps,z,cs,h=>by
  simp only [Er] at h
  split at h
  ·cases h
  ·rename_i off size hp
   obtain ⟨hc,h⟩:=aD h
   simp only [Bool.and_eq_true] at hc
   have h1:v.cells.length=size:=Nat.eq_of_beq_eq_true hc.1.1
   have h2:off+size ≤ z.length:=Nat.le_of_ble_eq_true hc.1.2
   rw [GB place ps _ cs h]
   simp;omega
theorem Ih {t:TypeId} {m:Nat} {parts:Array (Nat × Operand)} (h:fe P G (.buildSlice t m parts) ty e σ nid K=some r) (he:aH n ρ e a) (aC:Rel RO P ρ fp σ w) (hn:nid<σ.next) (h1:ρ nid=none):
  Goal RO P (.buildSlice t m parts) ty a nid ρ fp σ w K r:=by
 simp only [fe] at h
 split at h
 ·rename_i el hu
  split at h
  ·rename_i z hz
   obtain ⟨i,v,hi,hv,-,g1,g2,g3,g4,g5⟩:=lh (ρ:=ρ) hz
   obtain ⟨hle,h⟩:=aD h
   simp only [Bool.and_eq_true] at hle
   obtain ⟨hle,hm⟩:=hle
   have hle:=Nat.le_of_ble_eq_true hle
   have hm:=Nat.le_of_ble_eq_true hm
   split at h
   ·rename_i cs hf
    obtain ⟨qm,VD,hr,ho⟩:=yi (ρ:=ρ) _ _ (parts.toList.map fun x=>(x.1,a.eval x.2)) _ cs ((Array.range (m*z.length)).map (v.cells[· % v.cells.size]!)) hf (by simp) (Dn he _) (Fe g4 g1 m) (wy g4 g1 m _ (Nat.le_refl _)).1
    have hl:=hr.length
    simp only [Array.length_toList] at hl
    have qX:qm.size=m*z.length:=by rw [← hl,GB _ _ _ _ hf,GA]
    refine ⟨_,_,h,dR.QN rfl aC hn h1 el cs qm (by omega) (uZ hr ho) (fun _=>by omega) _ (.slice (some ⟨w.heap.size,0,none⟩) m m) (fun aR hρ=>?_) (fun o Gw _=>?_)⟩
    ·have HZ:z.length=Lt P el:=by simp [Lt,hi,g2]
     rw [HZ]
     exact .sl (.n nid) 0 m m _ (.n _ _ hρ) (Nat.le_refl _) (by simp only [maxLen];omega) (by simp [qX,HZ])
    ·rw [g2] at hle VD
     have akW:¬ (m*i.size > 16777216):=by omega
     have e:(parts.toList.map fun x=>(x.1,a.eval x.2))=(List.map (fun x=>match x with |(i,x)=>(i,a.eval x)) parts.toList):=rfl
     have fin:∀ z:Array Value,(m*i.size=0 ∨ z=v.cells) → (Instr.fill (fun j=>some (j*i.size,i.size)) ((Array.range (m*i.size)).map (z[· % z.size]!)) (parts.map fun (i,x)=>(i,a.eval x)).toList)=some qm:=by
      intro z hz'
      rcases hz' with h0 |rfl
      ·have r0:Array.range 0 = #[]:=rfl
       rw [← VD,h0,r0,Array.map_empty,Array.map_empty];simp
      ·rw [← VD];simp
     by_cases h0:m*i.size=0
     ·have:=fin #[] (.inl h0)
      simp only [execOp,Gw,Instr.buildSlice,Sem.run_bind,run_underlying hu,Result.andThen_ok,sizeOf,typeInfo,run_program,hi,Sem.run_pure,if_neg akW,if_pos h0]
      simp only [this];rfl
     ·have:=fin v.cells (.inr rfl)
      simp only [execOp,Gw,Instr.buildSlice,Sem.run_bind,run_underlying hu,Result.andThen_ok,sizeOf,typeInfo,zeroValue,run_program,hi,hv,Sem.run_pure,if_neg akW,if_neg h0]
      simp only [this];rfl
   ·cases h
  ·cases h
 ·cases h
theorem Kp {t:TypeId} {x y:Operand} (h:fe P G (.makeSlice t x y) ty e σ nid K=some r) (he:aH n ρ e a) (aC:Rel RO P ρ fp σ w) (hn:nid<σ.next) (h1:ρ nid=none):
  Goal RO P (.makeSlice t x y) ty a nid ρ fp σ w K r:=by
 simp only [fe] at h
 split at h
 ·rename_i el k1 l k2 c hu hx hy
  have ux:=he.ev x
  have uy:=he.ev y
  rw [hx] at ux;rw [hy] at uy
  replace ux:=ux.eK;replace uy:=uy.eK
  obtain ⟨hc,h⟩:=aD h
  simp only [Bool.and_eq_true,decide_eq_true_eq,Bool.not_eq_true'] at hc
  obtain ⟨Yz,⟨⟨c1,c2⟩,c3⟩,c4⟩:=hc
  split at h
  ·rename_i z hz
   obtain ⟨i,v,hi,hv,-,g1,g2,g3,g4,g5⟩:=lh (ρ:=ρ) hz
   have hb:bytesOf P el=i.bytes:=by simp [bytesOf,hi]
   rw [hb] at c3
   have hzr:=wy g4 g1 l.toNat (c.toNat*i.size) (by rw [g2];exact Nat.mul_le_mul_right _ (by omega))
   have HZ:z.length=Lt P el:=by simp [Lt,hi,g2]
   refine ⟨_,_,h,dR.QN rfl aC hn h1 el _ ((Array.range (c.toNat*i.size)).map (v.cells[· % v.cells.size]!)) ?_ hzr.2 (fun q=>by rw [Yz] at q;cases q) _ (.slice (some ⟨w.heap.size,0,none⟩) l.toNat c.toNat) (fun aR hρ=>?_) (fun o Gw _=>?_)⟩
   ·rw [GA,g2];simp;exact Nat.mul_le_mul_right _ (by omega)
   ·rw [HZ]
    refine .sl (.n nid) 0 _ _ _ (.n _ _ hρ) (by omega) (by simp only [maxLen];omega) ?_
    simp [← HZ,g2]
   ·have w1:IntKind.i64.wrap l=l:=by
     have h1:(2 ^ IntKind.i64.bits:Int)=18446744073709551616:=by decide
     simp only [IntKind.wrap,h1]
     rw [Int.emod_eq_of_lt (by omega) (by omega),if_neg (by simp [IntKind.signed,IntKind.bits];omega)]
    have w2:IntKind.i64.wrap c=c:=by
     have h1:(2 ^ IntKind.i64.bits:Int)=18446744073709551616:=by decide
     simp only [IntKind.wrap,h1]
     rw [Int.emod_eq_of_lt (by omega) (by omega),if_neg (by simp [IntKind.signed,IntKind.bits];omega)]
    have nb:¬ ((i.bytes:Int)*c > 2 ^ 48):=by
     rw [Int.mul_comm]
     have:(2 ^ 48:Int)=281474976710656:=by decide
     omega
    have nl:¬ l<0:=by omega
    have nc:¬ c<0:=by omega
    have nlc:¬ l > c:=by omega
    have fin:∀ zz:Array Value,(c.toNat*i.size=0 ∨ zz=v.cells) → ((Array.range (c.toNat*i.size)).map (zz[· % zz.size]!))=((Array.range (c.toNat*i.size)).map (v.cells[· % v.cells.size]!)):=by
     intro zz hz'
     rcases hz' with e0 |rfl
     ·have r0:Array.range 0 = #[]:=rfl
      rw [e0,r0,Array.map_empty,Array.map_empty]
     ·rfl
    simp only [execOp,Gw,Instr.makeSlice,Sem.run_bind,run_underlying hu,Result.andThen_ok,ux,uy,asInt,asIntOf,Sem.run_pure,typeInfo,run_program,hi,w1,w2]
    have cnd:((decide (c<0) || decide ((i.bytes:Int)*c > 2 ^ 48)) || decide (l<0) || decide (l > c))=false:=by simp [nl,nc,nlc];simpa using nb
    rw [if_neg (by rw [cnd];simp)]
    by_cases e0:c.toNat*i.size=0
    ·simp only [run_askRoom,Result.andThen_ok,sizeOf,typeInfo,Sem.run_bind,run_program,hi,Sem.run_pure,if_pos e0,fin #[] (.inl e0)];rfl
    ·simp only [run_askRoom,Result.andThen_ok,sizeOf,typeInfo,zeroValue,hv,Sem.run_bind,run_program,hi,Sem.run_pure,if_neg e0];rfl
  ·cases h
 ·cases h
theorem iG (L:Loc) (o j:Nat):(⟨L.B,L.O+o,none⟩:Addr).add j=⟨L.B,L.O+(o+j),none⟩:=by
 unfold Addr.add;split<;>simp_all;omega
theorem JC (aC:Rel RO P ρ fp σ w) {b:jJ} {L:Loc} (hL:pL ρ b L):∀ (ls:List jK) (o:Nat) (K:List AV → Option R) (r:R),zD σ b ls o K=some r →
  ∃ (vs:List AV) (us:List Value),K vs=some r ∧ aL ρ vs us ∧ vs.all AV.aZ=true ∧ us.length=ls.length ∧ (∀ j u,us[j]? = some u → w.cell? ⟨L.B,L.O+(o+j),none⟩=some u) ∧ (∀ j v,vs[j]? = some v → σ.ld b (o+j)=some v)
 |[],o,K,r,h=>⟨[],[],h,.nil,rfl,rfl,by simp,by simp⟩
 |l::ls,o,K,r,h=>by
  simp only [zD,Option.bind_eq_some_iff] at h
  obtain ⟨v,hv,h⟩:=h
  have h:=eQ h
  obtain ⟨_,h⟩:=aD h
  obtain ⟨vs,us,h1,h2,h3,h4,h5,h6⟩:=JC aC hL ls (o+1) _ r h
  obtain ⟨g1,u,g2,g3⟩:=aC.ld hv hL
  refine ⟨v::vs,u::us,h1,.cons _ _ _ _ g3 h2,by simp [g1,h3],by simp [h4],fun j u' hj=>?_,fun j v' hj=>?_⟩
  ·cases j with
   |zero=>simp at hj;subst hj;exact g2
   |succ j=>simp at hj;have:=h5 j u' hj;rw [show o+(j+1)=o+1+j by omega];exact this
  ·cases j with
   |zero=>simp at hj;subst hj;exact hv
   |succ j=>simp at hj;have:=h6 j v' hj;rw [show o+(j+1)=o+1+j by omega];exact this
theorem JD (aC:Rel RO P ρ fp σ w) {b:jJ} {o:Nat} {L:Loc} (hL:pL ρ b L) {t:TypeId} (DE:Yh P t=true) {K:AV → Option R} {r:R} (h:loadT σ b o (Ag P t) K=some r):
  ∃ v u,K v=some r ∧ aI ρ v u ∧ v.cells.all AV.aZ=true ∧ (loadVar t ⟨L.B,L.O+o,none⟩).run P w=.ok u w ∧ (∀ j x,v.cells[j]? = some x → σ.ld b (o+j)=some x):=by
 unfold Yh at DE
 split at DE
 ·rename_i i d hi hd
  cases hT:Ag P t with
  |one l=>
   rw [hT] at h
   simp only [loadT,Option.bind_eq_some_iff] at h
   obtain ⟨v,hv,h⟩:=h
   obtain ⟨g1,u,g2,g3⟩:=aC.ld hv hL
   obtain ⟨_,_,hc⟩:=g3.one g1
   refine ⟨v,u,(aD (eQ h)).2,g3,by simp [hc,g1],?_,fun j x hj=>?_⟩
   ·simp [loadVar,LJ hT ⟨d,hd⟩,g2]
   ·rw [hc] at hj
    cases j with
    |zero=>simp at hj;subst hj;exact hv
    |succ j=>simp at hj
  |agg ls=>
   rw [hT] at h DE
   simp only [loadT] at h
   have hl:ls.length=i.size:=Nat.eq_of_beq_eq_true DE
   obtain ⟨vs,us,h1,h2,h3,h4,h5,h6⟩:=JC aC hL ls o _ r h
   refine ⟨_,_,h1,.agg vs us h2 h3,h3,?_,h6⟩
   have we:=run_loadCells_list (P:=P) w ⟨L.B,L.O+o,none⟩ us (fun j u hj=>by rw [iG];exact h5 j u hj)
   simp only [loadVar,Sem.run_bind,Pp hT,Result.andThen_ok,if_true,sizeOf,typeInfo,run_program,hi,Sem.run_pure]
   rw [← hl,← h4,we];rfl
  |aS ts=>rw [hT] at DE;cases DE
 ·cases DE
theorem VV {t:TypeId} {x:Operand} (h:fe P G (.load t x) ty e σ nid K=some r) (he:aH n ρ e a) (aC:Rel RO P ρ fp σ w):Goal RO P (.load t x) ty a nid ρ fp σ w K r:=by
 simp only [fe] at h
 have hx:=he.ev x
 obtain ⟨b,o,yj,h⟩:=nS h
 rw [yj] at hx
 obtain ⟨L,hL,ux⟩:=hx.Eu
 obtain ⟨DE,h⟩:=aD h
 obtain ⟨v,u,hk,hr,_,fy,_⟩:=JD aC hL DE h
 refine ⟨v,σ,hk,dR.value (fun o' ho _=>?_) hr (aO.refl aC)⟩
 simp [execOp,ho,ux,Instr.loadAt,Instr.sureAddr,fy]
theorem Fg {α:Type} (cs vs:List α) (o i:Nat) (h:o+vs.length ≤ cs.length):(cs.take o++vs++cs.drop (o+vs.length))[i]? = if i<o then cs[i]? else if i<o+vs.length then vs[i - o]? else cs[i]? := by
 rw [List.append_assoc]
 by_cases h1:i<o
 ·rw [List.getElem?_append_left (by simp;omega),List.getElem?_take,if_pos h1,if_pos h1]
 ·rw [List.getElem?_append_right (by simp;omega),if_neg h1]
  have:i - (cs.take o).length=i - o:=by simp;omega
  rw [this]
  by_cases h2:i<o+vs.length
  ·rw [List.getElem?_append_left (by omega),if_pos h2]
  ·rw [List.getElem?_append_right (by omega),if_neg h2,List.getElem?_drop];congr 1;omega
theorem oQ {S:Nat → Prop} (aC:Rel RO P ρ fp σ w) {b:jJ} {o:Nat} {L:Loc} (hL:pL ρ b L) {vs:List AV} {us:List Value} {aj:AH O} (h:σ.st b o vs=some aj) (hv:aL ρ vs us) (ho:vs.all AV.aZ=true):
  ∃ fp' w',(storeCells ⟨L.B,L.O+o,none⟩ us).run P w=.ok () w' ∧ aO RO P S ρ fp σ w ρ fp' aj w':=by
 cases hL with
 |f=>simp only [AH.st] at h;cases h
 |n b L hL=>
 simp only [AH.st] at h
 split at h
 ·rename_i el cs hb
  obtain ⟨hle,h⟩:=aD h
  have hle:=Nat.le_of_ble_eq_true hle
  cases h
  obtain ⟨arr,_,h2,h3,h4,h5,h6⟩:=aC.own hb hL
  have hl:=hv.length
  have h1:∀ v∈us,v.oneCell'=true:=fun u hu=>by
   obtain ⟨j,hj⟩:=List.getElem?_of_mem hu
   obtain ⟨v,tp,hr⟩:=hv.get' hj
   exact (hr.one (List.all_eq_true.1 ho v (List.mem_of_getElem? tp))).1
  have lP:=run_storeCells_at P L.B (L.O+o) el us 0 arr w h2 (by omega) h1
  obtain ⟨fp',hp⟩:=aO.set (S:=S) aC hb hL h2 (cs.take o++vs++cs.drop (o+vs.length)) (arr.toList.take (L.O+o+0)++us++arr.toList.drop (L.O+o+0+us.length)).toArray
   (
    by simp;omega) (by simp;omega) (fun i v hi=>by
    rw [Fg _ _ _ _ hle] at hi
    have e:(arr.toList.take (L.O+o+0)++us++arr.toList.drop (L.O+o+0+us.length)).toArray[L.O+i]? = if L.O+i<L.O+o then arr[L.O+i]? else if L.O+i<L.O+o+us.length then us[L.O+i - (L.O+o)]? else arr[L.O+i]? := by
     have:=Fg arr.toList us (L.O+o) (L.O+i) (by simp;omega)
     simpa using this
    rw [e]
    by_cases c1:i<o
    ·rw [if_pos c1] at hi
     rw [if_pos (by omega)]
     exact h6 i v hi
    ·rw [if_neg c1] at hi
     rw [if_neg (by omega)]
     by_cases c2:i<o+vs.length
     ·rw [if_pos c2] at hi
      rw [if_pos (by omega),show L.O+i - (L.O+o)=i - o by omega]
      obtain ⟨u,hu,hr⟩:=hv.get hi
      exact ⟨List.all_eq_true.1 ho v (List.mem_of_getElem? hi),u,hu,hr⟩
     ·rw [if_neg c2] at hi
      rw [if_neg (by omega)]
      exact h6 i v hi) (by simp;omega)
  exact ⟨fp',_,lP,hp⟩
 ·cases h
theorem Ta {t:TypeId} {x y:Operand} (h:fe P G (.store t x y) ty e σ nid K=some r) (he:aH n ρ e a) (aC:Rel RO P ρ fp σ w):Goal RO P (.store t x y) ty a nid ρ fp σ w K r:=by
 simp only [fe] at h
 have hx:=he.ev x
 obtain ⟨b,o,yj,h⟩:=nS h
 rw [yj] at hx
 obtain ⟨L,hL,ux⟩:=hx.Eu
 obtain ⟨i,hi,h⟩:=dW h
 obtain ⟨hc,h⟩:=aD h
 simp only [Bool.and_eq_true] at hc
 have hlen:=Nat.eq_of_beq_eq_true hc.1
 simp only [Option.bind_eq_some_iff] at h
 obtain ⟨aj,lP,h⟩:=h
 obtain ⟨hv,h1⟩:=(he.ev y).cells hc.2
 obtain ⟨fp',w',fy,hp⟩:=oQ (S:=fun b=>b<σ.next ∧ (aM (.store t x y)=true → b≠nid)) aC hL lP hv hc.2
 refine ⟨_,aj,h,fun ro o' next Q ho _ hk=>?_⟩
 have qX:(a.eval y).cells.size=i.size:=by have:=hv.length;simp at this;omega
 have:(execOp a.eval o').run P w=.ok .skip w':=by
  simp [execOp,ho,ux,Instr.storeAt,Instr.sureAddr,storeVar,sizeOf,typeInfo,hi,qX,fy]
 exact kx (jY this (.inr ⟨_,rfl⟩)) this (hk _ _ _ _ (.u _) hp (fun h=>by cases h))
theorem eN (aC:Rel RO P ρ fp σ w) {b:jJ} {o m:Nat} {L:Loc} (hL:pL ρ b L) {cs:List AV} (h:σ.O8 b o m=some cs):
  ∃ us:List Value,aL ρ cs us ∧ cs.all AV.aZ=true ∧ us.length=m ∧ ∀ j u,us[j]? = some u → w.cell? ⟨L.B,L.O+(o+j),none⟩=some u:=by
 have hds:∃ ds:List AV,(bif Nat.ble (o+m) ds.length then some ((ds.drop o).take m) else none)=some cs ∧ ∀ j,σ.ld b j=ds[j]? := by
  cases b with
  |n b=>
   simp only [AH.O8] at h
   split at h
   ·rename_i ow el ds hb
    exact ⟨ds,h,fun j=>by simp only [AH.ld,hb]⟩
   ·cases h
  |f ds=>exact ⟨ds,h,fun j=>rfl⟩
 obtain ⟨ds,h,hb⟩:=hds
 ·obtain ⟨hle,h⟩:=aD h
  have hle:=Nat.le_of_ble_eq_true hle
  cases h
  have we:∀ j v,((ds.drop o).take m)[j]? = some v → σ.ld b (o+j)=some v:=by
   intro j v hj
   rw [List.getElem?_take] at hj
   split at hj
   ·rw [List.getElem?_drop] at hj
    rw [hb];exact hj
   ·cases hj
  have key:∀ j,j<m → ∃ v u,((ds.drop o).take m)[j]? = some v ∧ v.aZ=true ∧ w.cell? ⟨L.B,L.O+(o+j),none⟩=some u ∧ aI ρ v u:=by
   intro j hj
   have hlen:j<((ds.drop o).take m).length:=by simp;omega
   have hv:=List.getElem?_eq_getElem hlen
   obtain ⟨g1,u,g2,g3⟩:=aC.ld (we j _ hv) hL
   exact ⟨_,u,hv,g1,g2,g3⟩
  refine ⟨(List.range m).map fun j=>(w.cell? ⟨L.B,L.O+(o+j),none⟩).getD undef,?_,?_,by simp,?_⟩
  ·refine .Ff (by simp;omega) fun j v u hv hu=>?_
   have hj:j<m:=by have:=(List.getElem?_eq_some_iff.1 hv).1;simp at this;omega
   obtain ⟨v',u',k1,k2,k3,k4⟩:=key j hj
   rw [k1] at hv;cases hv
   simp only [List.getElem?_map,List.getElem?_range hj,Option.map_some,k3,Option.getD_some,Option.some.injEq] at hu
   rw [← hu];exact k4
  ·refine List.all_eq_true.2 fun v hv=>?_
   obtain ⟨j,hj⟩:=List.getElem?_of_mem hv
   have hjm:j<m:=by have:=(List.getElem?_eq_some_iff.1 hj).1;simp at this;omega
   obtain ⟨v',u',k1,k2,k3,k4⟩:=key j hjm
   rw [k1] at hj;cases hj;exact k2
  ·intro j u hu
   have hj:j<m:=by have:=(List.getElem?_eq_some_iff.1 hu).1;simp at this;omega
   obtain ⟨v',u',k1,k2,k3,k4⟩:=key j hj
   simp only [List.getElem?_map,List.getElem?_range hj,Option.map_some,k3,Option.getD_some,Option.some.injEq] at hu
   rw [← hu];exact k3
theorem Ii {w w':World} (h:w'.heap=w.heap) (x:Addr):w'.cell? x=w.cell? x:=by simp [World.cell?,h]
theorem Tb {b:jJ} {o:Nat} {cs:List AV} (h:σ.O8 b o 0=some cs):cs=[]:=by
 cases b with
 |n b=>
  simp only [AH.O8] at h
  split at h
  ·obtain ⟨_,h⟩:=aD h;simpa using h.symm
  ·cases h
 |f cs=>
  simp only [AH.O8] at h
  obtain ⟨_,h⟩:=aD h;simpa using h.symm
theorem YA (aC:Rel RO P ρ fp σ w) {sa:SA} {m es:Nat} {cs:List AV}
  (h:σ.bC sa m es=some cs) {u:Value} (hu:aI ρ (.sl sa m) u):
  ∃ A c,u=.slice A m c ∧ ∃ us:List Value,aL ρ cs us ∧ cs.all AV.aZ=true ∧ us.length=m*es ∧ (∀ x∈us,x.oneCell'=true) ∧ ∀ w',w'.heap=w.heap → (Builtin.firstCells es m u).run P w'=.ok us.toArray w':=by
 have fin:∀ {us:List Value},aL ρ cs us → cs.all AV.aZ=true → ∀ x∈us,x.oneCell'=true:=fun {us} hr ho x hx=>by
  obtain ⟨j,hj⟩:=List.getElem?_of_mem hx
  obtain ⟨v,tp,hr⟩:=hr.get' hj
  exact (hr.one (List.all_eq_true.1 ho v (List.mem_of_getElem? tp))).1
 unfold AH.bC at h
 cases hu with
 |SN=>
  cases h
  exact ⟨none,0,rfl,[],.nil,rfl,by simp,by simp,fun w' _=>by simp [Builtin.firstCells]⟩
 |Og A=>
  cases h
  exact ⟨some A,0,rfl,[],.nil,rfl,by simp,by simp,fun w' _=>by simp [Builtin.firstCells,loadCells,loadCellsFrom]⟩
 |QK b o N8 A=>
  simp only [Nat.zero_mul] at h
  have:cs=[]:=Tb h
  subst this
  exact ⟨some A,0,rfl,[],.nil,rfl,by simp,by simp,fun w' _=>by simp [Builtin.firstCells,loadCells,loadCellsFrom]⟩
 |sl b o _ cap L hL h1 h2 h3=>
  obtain ⟨us,k1,k2,k3,k4⟩:=eN aC hL h
  refine ⟨_,cap,rfl,us,k1,k2,k3,fin k1 k2,fun w' hw=>?_⟩
  exact run_firstCells_some w' es m _ m cap us k3 fun j u hj=>by rw [iG,Ii hw];exact k4 j u hj
 |YB b o _ _ cap L hL h0 h1 h2=>
  obtain ⟨us,k1,k2,k3,k4⟩:=eN aC hL h
  refine ⟨_,cap,rfl,us,k1,k2,k3,fin k1 k2,fun w' hw=>?_⟩
  exact run_firstCells_some w' es m _ m cap us k3 fun j u hj=>by rw [iG,Ii hw];exact k4 j u hj
theorem aay {t t' el:TypeId} (ht:P.underlying t=some (.slice el)) {d':TypeDesc} (Km:P.underlying t'=some d') (xZ:∀ k,d'≠.int k) {i:TypeInfo} (hi:P.info? el=some i) (ty:TypeId) {A A':Option Addr} {k cap m c:Nat} {us:List Value}
  (hf:(Builtin.firstCells i.size m (.slice A' m c)).run P w=.ok us.toArray w) (Tc:k+m ≤ cap):
  (
   Builtin.append_ #[t,t'] ty #[.slice A k cap,.slice A' m c]).run P w=match A with
   |none=>.ok (.slice none (k+m) cap) w
   |some x=>((storeCells (x.add (k*i.size)) us).run P w).andThen fun _ w'=>.ok (.slice (some x) (k+m) cap) w':=by
 have hz:(match d' with |.int _=>true |_=>false)=false:=by cases d'<;>first |rfl |(exact absurd rfl (xZ _))
 cases A<;>simp [Builtin.append_,run_underlying ht,run_underlying Km,sizeOf,typeInfo,hi,Builtin.lenOf,Tc,hf,hz]
theorem aaz {t t' el:TypeId} (ht:P.underlying t=some (.slice el)) {d':TypeDesc} (Km:P.underlying t'=some d') (xZ:∀ k,d'≠.int k) {i:TypeInfo} (hi:P.info? el=some i) {z:Value} (hz:i.zero=some z) (ty:TypeId) {A A':Option Addr} {k cap m c:Nat} {pQ us:List Value}
  (hf:(Builtin.firstCells i.size m (.slice A' m c)).run P w.drew=.ok us.toArray w.drew) (ho:(Builtin.firstCells i.size k (.slice A k cap)).run P w.drew=.ok pQ.toArray w.drew) (hg:cap<k+m)
  (QO:k+m ≤ 9223372036854775807) (YC:Builtin.nextslicecap (k+m) cap*i.bytes ≤ 281474976710656):
  (
   Builtin.append_ #[t,t'] ty #[.slice A k cap,.slice A' m c]).run P w=
   .ok (.slice (some ⟨w.heap.size,0,none⟩) (k+m) (grownCap w (k+m) cap el)) (w.drew.alloc (.cells (pQ++us++(Builtin.zeroCells z.cells (grownCap w (k+m) cap el - (k+m))).toList).toArray el)):=by
 have hzz:(match d' with |.int _=>true |_=>false)=false:=by cases d'<;>first |rfl |(exact absurd rfl (xZ _))
 have hn:¬ (k+m ≤ cap):=by omega
 have QP:¬ (9223372036854775807<((k:Int)+(m:Int))):=by omega
 have VW:¬ (281474976710656<Builtin.nextslicecap (k+m) cap*i.bytes):=by omega
 simp [Builtin.append_,run_underlying ht,run_underlying Km,sizeOf,typeInfo,zeroValue,hi,hz,Builtin.lenOf,hn,QP,VW,Question.forced,hf,ho,newRow,grownCap,hzz]
 congr 2
 apply Array.ext'
 simp
theorem aO.ghost {S:Nat → Prop} (aC:Rel RO P ρ fp σ w) (hn:nid<σ.next) (h1:ρ nid=none) (x:oM O) (hS:¬ S nid):aO RO P S ρ fp σ w ρ fp (σ.put nid x) w:=by
 have hb:∀ q,q≠nid → (σ.put nid x).ai q=σ.ai q:=fun q hq=>by simp [hq]
 refine ⟨⟨?_,?_,?_,aC.has,aC.nT,aC.fz⟩,.refl _ _,fun b B _ hb=>⟨b,hb⟩,fun _ o u hu _=>.inr ⟨o,u,hu⟩,cl.le_refl _,fun _ _=>rfl,fun b hSb _ h0=>by
  have:b≠nid:=fun e=>hS (e▸hSb)
  rw [hb b this];exact h0,Nat.le_refl _⟩
 ·intro b oP
  have apw:σ.next ≤ b:=oP
  rw [hb b (by omega)];exact aC.next b apw
 ·intro b y L hy hL
  have:b≠nid:=fun e=>by rw [e,h1] at hL;cases hL
  rw [hb b this] at hy
  exact aC.ai b y L hy hL
 ·intro b oP
  by_cases qY:b=nid
  ·rw [qY];exact aC.dead nid (.inr h1)
  ·rw [hb b qY] at oP;exact aC.dead b oP
theorem LK {vs:List AV} {us:Array Value} (h:aL ρ vs us.toList) {x y:AV} (hv:vs=[x,y]):∃ u1 u2,us = #[u1,u2] ∧ aI ρ x u1 ∧ aI ρ y u2:=by
 subst hv
 have hl:=h.length
 obtain ⟨u1,g1,r1⟩:=h.get (j:=0) (by rfl)
 obtain ⟨u2,g2,r2⟩:=h.get (j:=1) (by rfl)
 refine ⟨u1,u2,?_,r1,r2⟩
 apply Array.ext'
 obtain ⟨l⟩:=us
 simp only at hl g1 g2 ⊢
 match l,hl,g1,g2 with
 |[a,b],_,g1,g2=>simp at g1 g2;simp [g1,g2]
theorem adu {vs:List AV} {us:Array Value} (h:aL ρ vs us.toList) {x:AV} (hv:vs=[x]):∃ u1,us = #[u1] ∧ aI ρ x u1:=by
 subst hv
 have hl:=h.length
 obtain ⟨u1,g1,r1⟩:=h.get (j:=0) (by rfl)
 refine ⟨u1,?_,r1⟩
 apply Array.ext'
 obtain ⟨l⟩:=us
 simp only at hl g1 ⊢
 match l,hl,g1 with
 |[a],_,g1=>simp at g1;simp [g1]
theorem wz (he:aH n ρ e a) (xs:Array Operand):aL ρ (xs.toList.map (Abs.ev e)) (xs.map a.eval).toList:=by
 have:=he.evs xs.toList
 simpa using this
theorem Kq (z:Array Value) (n:Nat):(Builtin.zeroCells z n).size=n*z.size:=by simp [Builtin.zeroCells]
structure BG (P:Program) (w:World) (t t' ty el:TypeId) (i:TypeInfo) (z u2:Value) (m:Nat) (us:List Value):Prop where
 room:∀ A k cap,k+m ≤ cap → (Builtin.append_ #[t,t'] ty #[.slice A k cap,u2]).run P w=match A with
   |none=>.ok (.slice none (k+m) cap) w
   |some x=>((storeCells (x.add (k*i.size)) us).run P w).andThen fun _ w'=>.ok (.slice (some x) (k+m) cap) w'
 grow:∀ A k cap (pQ:List Value),(Builtin.firstCells i.size k (.slice A k cap)).run P w.drew=.ok pQ.toArray w.drew → cap<k+m → k+m ≤ 9223372036854775807 → Builtin.nextslicecap (k+m) cap*i.bytes ≤ 281474976710656 →
  (
   Builtin.append_ #[t,t'] ty #[.slice A k cap,u2]).run P w=
   .ok (.slice (some ⟨w.heap.size,0,none⟩) (k+m) (grownCap w (k+m) cap el)) (w.drew.alloc (.cells (pQ++us++(Builtin.zeroCells z.cells (grownCap w (k+m) cap el - (k+m))).toList).toArray el))
theorem Td {c:Call} (fB:c.callee=.builtin .append) (aC:Rel RO P ρ fp σ w) (hn:nid<σ.next) (h1:ρ nid=none) {u1 u2:Value} {sa:SA} {k m el:Nat} {t t':TypeId} (ha:c.args.map a.eval = #[u1,u2]) (hts:c.argTypes = #[t,t']) (r1:aI ρ (.sl sa k) u1)
  {inf:TypeInfo} {v:Value} {new:List AV} {us:List Value} {vv:AV} {ah2:AH O} (lQ:P.info? el=some inf) (g3:v.cells.size=inf.size) (src:BG P w t t' ty el inf v u2 m us)
  (s1:aL ρ new us) (s2:new.all AV.aZ=true) (s3:us.length=m*inf.size) (s4:∀ x∈us,x.oneCell'=true)
  (Yz:Ep P el=false) (hle:(k+m)*(inf.bytes+1) ≤ 35184372088832) (oR:σ.bP nid el inf.size sa k m new=some (vv,ah2)) (h:K vv ah2=some r):
  Goal RO P (.call c) ty a nid ρ fp σ w K r:=by
 have tM:aM (.call c)=true:=by cases c;simp only at fB;subst fB;rfl
 have HZ:Lt P el=inf.size:=by simp [Lt,lQ]
 have hlen:=s1.length
 unfold AH.bP at oR
 have hkm:k+m ≤ 35184372088832:=by
  have:(k+m)*1 ≤ (k+m)*(inf.bytes+1):=Nat.mul_le_mul_left _ (by omega)
  omega
 have ah3:(k+m)*inf.bytes ≤ 140737488355328:=by
  have:(k+m)*inf.bytes ≤ (k+m)*(inf.bytes+1):=Nat.mul_le_mul_left _ (by omega)
  omega
 have hZ:∀ {u:Value} {w':World},(Builtin.append_ #[t,t'] ty #[u1,u2]).run P w=.ok u w' → ∀ o:Oper,o.op=.call c → o.type=ty → (execOp a.eval o).run P w=.ok (.value u) w':=by
  intro u w' hr o ho DE
  subst DE
  simp only [execOp,ho,resolve,fB,Sem.run_bind,Sem.run_pure,Result.andThen_ok,invoke,builtin,hts,ha,hr]
 have grow:∀ (A:Option Addr) (cap:Nat) (pQ:List Value) (ov:List AV),u1=.slice A k cap → cap<k+m → aL ρ ov pQ → ov.all AV.aZ=true → pQ.length=k*inf.size →
   (∀ w',w'.heap=w.heap → (Builtin.firstCells inf.size k (.slice A k cap)).run P w'=.ok pQ.toArray w') →
   ∀ aJ Oa,aO RO P (fun b=>b<σ.next ∧ (aM (.call c)=true → b≠nid)) ρ fp σ w ρ Oa aJ w → aJ.next=σ.next →
   dR RO P (.call c) ty a nid ρ fp σ w (.sl (.loc (.n nid) 0 inf.size) (k+m)) (aJ.put nid (.cells true el (ov++new))):=by
  intro A cap pQ ov GC adx Xk ho2 ho3 hfo aJ Oa N7 hnx
  have hr:=src.grow A k cap pQ (hfo w.drew rfl) adx (by omega) (growslice_fits (by omega) ah3)
  have Vg:=grownCap_ge w (k+m) cap el
  have hcm:=grownCap_le_maxLen w (k+m) cap el (by simp only [maxLen];omega)
  have hd:=aO.drew (S:=fun b=>b<σ.next ∧ (aM (.call c)=true → b≠nid)) N7.rel
  have hlo:=Xk.length
  obtain ⟨aR,fp',q1,q2⟩:=aO.alloc (nid:=nid) hd.rel (by omega) h1 el (ov++new) (pQ++us++(Builtin.zeroCells v.cells (grownCap w (k+m) cap el - (k+m))).toList).toArray
   (
    by simp;omega) (fun j x hj=>by
    obtain ⟨u,w1,w2⟩:=(Xk.append s1).get hj
    refine ⟨?_,u,?_,w2⟩
    ·exact List.all_eq_true.1 (by simp [ho2,s2]) x (List.mem_of_getElem? hj)
    ·have hj':=(List.getElem?_eq_some_iff.1 w1).1
     simp only [List.getElem?_toArray]
     rw [List.getElem?_append_left hj'];exact w1) (fun q=>by rw [Yz] at q;cases q)
  refine dR.value (hZ (by rw [GC];exact hr)) ?_ (N7.trans (hd.trans (q2.mono fun b hb=>hb.2 tM)))
  rw [← HZ]
  refine .sl (.n nid) 0 _ _ _ (.n _ _ q1) Vg hcm ?_
  simp [Kq,HZ,ho3,s3,g3,← Nat.add_mul]
  rw [show k+(m+(grownCap w (k+m) cap el - (k+m)))=grownCap w (k+m) cap el by omega]
  exact Nat.le_refl _
 have empty:∀ (A:Option Addr),u1=.slice A 0 0 → k=0 → m≠0 → ∀ aJ Oa,aO RO P (fun b=>b<σ.next ∧ (aM (.call c)=true → b≠nid)) ρ fp σ w ρ Oa aJ w → aJ.next=σ.next →
   dR RO P (.call c) ty a nid ρ fp σ w (.sl (.loc (.n nid) 0 inf.size) (k+m)) (aJ.put nid (.cells true el ([]++new))):=by
  intro A hA hk hm aJ Oa N7 hnx
  refine grow A 0 [] [] (by rw [hA,hk]) (by omega) .nil rfl (by simp [hk]) (fun w' _=>?_) aJ Oa N7 hnx
  rw [hk]
  cases A<;>simp [Builtin.firstCells,loadCells,loadCellsFrom]
 cases sa with
 |ar=>cases oR
 |loc b o N8=>
  cases b with
  |f cs=>cases oR
  |n b=>
  simp only at oR
  split at oR
  ·rename_i el1 cs YD
   have hc2:=(aD oR).1
   have apx:=(aD oR).2
   cases apx
   simp only [Bool.and_eq_true] at hc2
   have Eo:=Nat.eq_of_beq_eq_true hc2.1
   have YC:=Nat.le_of_ble_eq_true hc2.2
   subst Eo
   obtain ⟨Oa,N7⟩:=aO.kill (S:=fun b=>b<σ.next ∧ (aM (.call c)=true → b≠nid)) aC b
   generalize GC:u1=uu at r1
   cases r1 with
   |QK _ _ _ A=>
    by_cases hm:m=0
    ·subst hm
     refine ⟨_,_,h,dR.value (hZ (u:=.slice (some A) 0 0) (w':=w) ?_) (.QK _ _ _ A) (N7.trans (aO.ghost N7.rel hn h1 _ (fun hS=>hS.2 tM rfl)))⟩
     rw [GC]
     have:=src.room (some A) 0 0 (by omega)
     rw [this]
     have:us=[]:=List.eq_nil_of_length_eq_zero (by simpa using s3)
     subst this
     simp [storeCells]
    ·have:=empty (some A) GC rfl hm (σ.kill b) Oa N7 rfl
     refine ⟨_,_,h,?_⟩
     simpa using this
   |sl _ _ _ cap L hL q1 q2 q3=>
    have hL:=hL.tQ
    obtain ⟨arr,p1,p2,p3,p4,p5,p6⟩:=aC.own YD hL
    rw [HZ] at p5
    rw [p5] at q3
    have agV:∀ j x,((cs.drop o).take (k*inf.size))[j]? = some x → cs[o+j]? = some x:=by
     intro j x hj
     rw [List.getElem?_take] at hj
     split at hj
     ·rwa [List.getElem?_drop] at hj
     ·cases hj
    have apy:((cs.drop o).take (k*inf.size)).length=k*inf.size:=by simp;omega
    have hkc:k*inf.size ≤ cap*inf.size:=Nat.mul_le_mul_right _ q1
    by_cases Tc:k+m ≤ cap
    ·
     have auQ:k*inf.size+m*inf.size ≤ cap*inf.size:=by rw [← Nat.add_mul];exact Nat.mul_le_mul_right _ Tc
     have hr:=src.room (some ⟨L.B,L.O+o,none⟩) k cap Tc
     have lP:=run_storeCells_at P L.B (L.O+(o+k*inf.size)) el1 us 0 arr w p2 (by omega) s4
     simp only [iG,lP,Result.andThen_ok] at hr
     obtain ⟨aR,fp',m1,m2⟩:=aO.move (nid:=nid) aC YD hL p2 hn h1 o (by omega) ((cs.drop o).take (k*inf.size)++new) (arr.toList.take (L.O+(o+k*inf.size)+0)++us++arr.toList.drop (L.O+(o+k*inf.size)+0+us.length)).toArray
      (
       by simp;omega) (by simp;omega) (fun j x hj=>by
       have e:(arr.toList.take (L.O+(o+k*inf.size)+0)++us++arr.toList.drop (L.O+(o+k*inf.size)+0+us.length)).toArray[L.O+o+j]? = if L.O+o+j<L.O+(o+k*inf.size) then arr[L.O+o+j]? else if L.O+o+j<L.O+(o+k*inf.size)+us.length then us[L.O+o+j - (L.O+(o+k*inf.size))]? else arr[L.O+o+j]? := by
        have:=Fg arr.toList us (L.O+(o+k*inf.size)) (L.O+o+j) (by simp;omega)
        simpa using this
       rw [e]
       by_cases c1:j<k*inf.size
       ·rw [List.getElem?_append_left (by omega)] at hj
        rw [if_pos (by omega)]
        obtain ⟨x1,u,x2,x3⟩:=p6 _ _ (agV j x hj)
        exact ⟨x1,u,by rw [← x2];congr 1;omega,x3⟩
       ·rw [List.getElem?_append_right (by omega),apy] at hj
        obtain ⟨u,x2,x3⟩:=s1.get hj
        have hj2:=(List.getElem?_eq_some_iff.1 x2).1
        rw [if_neg (by omega),if_pos (by omega)]
        exact ⟨List.all_eq_true.1 s2 x (List.mem_of_getElem? hj),u,by rw [← x2];congr 1;omega,x3⟩) Yz
     refine ⟨_,_,h,dR.value (hZ (by rw [GC];exact hr)) ?_ (m2.mono fun b hb=>hb.2 tM)⟩
     have:aI aR (.sl (.loc (.n nid) 0 L.es) (k+m)) (.slice (some ⟨L.B,L.O+o+0,none⟩) (k+m) cap):=.sl (.n nid) 0 _ _ _ (.n _ _ m1) Tc q2 (by simp [p5];omega)
     rw [p5] at this;exact this
    ·
     have hold:∃ pQ:List Value,aL ρ ((cs.drop o).take (k*inf.size)) pQ ∧ pQ.length=k*inf.size ∧ ∀ w',w'.heap=w.heap → (Builtin.firstCells inf.size k (.slice (some ⟨L.B,L.O+o,none⟩) k cap)).run P w'=.ok pQ.toArray w':=by
      have hN:σ.O8 (.n b) o (k*inf.size)=some ((cs.drop o).take (k*inf.size)):=by
       have oP:Nat.ble (o+k*inf.size) cs.length=true:=hc2.2
       simp only [AH.O8,YD,oP,cond_true]
      obtain ⟨pQ,k1,k2,k3,k4⟩:=eN aC (.n _ _ hL) hN
      exact ⟨pQ,k1,k3,fun w' hw=>run_firstCells_some w' inf.size k _ k cap pQ k3 fun j u hj=>by rw [iG,Ii hw];exact k4 j u hj⟩
     obtain ⟨pQ,o1,o2,o3⟩:=hold
     refine ⟨_,_,h,grow _ cap pQ _ GC (by omega) o1 ?_ o2 o3 _ Oa N7 rfl⟩
     refine List.all_eq_true.2 fun x hx=>?_
     obtain ⟨j,hj⟩:=List.getElem?_of_mem hx
     exact (p6 _ _ (agV j x hj)).1
  ·cases oR
 |nil=>
  simp only at oR
  have hk:=(aD oR).1
  replace oR:=(aD oR).2
  have hk:=Nat.eq_of_beq_eq_true hk
  subst hk
  cases hm:Nat.beq m 0 with
  |true=>
   simp only [hm,cond_true] at oR
   cases oR
   have hm:=Nat.eq_of_beq_eq_true hm
   subst hm
   generalize GC:u1=uu at r1
   cases r1
   refine ⟨_,_,h,dR.value (hZ (u:=.slice none 0 0) (w':=w) ?_) .SN (aO.refl aC)⟩
   rw [GC,src.room (none) 0 0 (by omega)]
  |false=>
   simp only [hm,cond_false] at oR
   cases oR
   generalize GC:u1=uu at r1
   cases r1
   have:=empty none GC rfl (fun e=>by rw [e] at hm;cases hm) σ fp (aO.refl aC) rfl
   exact ⟨_,_,h,by simpa using this⟩
 |z=>
  simp only at oR
  have hk:=(aD oR).1
  replace oR:=(aD oR).2
  have hk:=Nat.eq_of_beq_eq_true hk
  subst hk
  cases hm:Nat.beq m 0 with
  |true=>
   simp only [hm,cond_true] at oR
   cases oR
   have hm:=Nat.eq_of_beq_eq_true hm
   subst hm
   generalize GC:u1=uu at r1
   cases r1 with
   |Og A=>
    refine ⟨_,_,h,dR.value (hZ (u:=.slice (some A) 0 0) (w':=w) ?_) (.Og A) (aO.refl aC)⟩
    rw [GC,src.room (some A) 0 0 (by omega)]
    have:us=[]:=List.eq_nil_of_length_eq_zero (by simpa using s3)
    subst this
    simp [storeCells]
  |false=>
   simp only [hm,cond_false] at oR
   cases oR
   generalize GC:u1=uu at r1
   cases r1 with
   |Og A=>
    have:=empty (some A) GC rfl (fun e=>by rw [e] at hm;cases hm) σ fp (aO.refl aC) rfl
    exact ⟨_,_,h,by simpa using this⟩
theorem BG.slice {w:World} {t t' el el':TypeId} (ht:P.underlying t=some (.slice el)) (Km:P.underlying t'=some (.slice el')) {i:TypeInfo} (hi:P.info? el=some i) {z:Value} (hz:i.zero=some z) (ty:TypeId) {A':Option Addr} {m c:Nat} {us:List Value}
  (hf:∀ w',w'.heap=w.heap → (Builtin.firstCells i.size m (.slice A' m c)).run P w'=.ok us.toArray w'):BG P w t t' ty el i z (.slice A' m c) m us:=
 ⟨fun A k cap hr=>aay ht Km (by simp) hi ty (hf w rfl) hr,fun A k cap pQ ho h1 h2 h3=>aaz ht Km (by simp) hi hz ty (hf w.drew rfl) ho h1 h2 h3⟩
theorem BG.string {w:World} {t t' el:TypeId} (ht:P.underlying t=some (.slice el)) (Km:P.underlying t'=some .string) {i:TypeInfo} (hi:P.info? el=some i) {z:Value} (hz:i.zero=some z) (ty:TypeId) (s:ByteArray):
  BG P w t t' ty el i z (.string s) s.size (s.data.toList.map fun b=>.int .u8 b.toNat):=by
 have hf:∀ w',(Builtin.firstCells i.size s.size (.string s)).run P w'=.ok (s.data.toList.map fun b=>Value.int .u8 b.toNat).toArray w':=fun w'=>by
  simp only [Builtin.firstCells,Sem.run_pure]
  congr 1
  apply Array.ext'
  simp
 generalize (s.data.toList.map fun b=>Value.int .u8 b.toNat)=us at hf
 refine ⟨fun A k cap hr=>?_,fun A k cap pQ ho hg QO YC=>?_⟩
 ·cases A<;>simp [Builtin.append_,run_underlying ht,run_underlying Km,sizeOf,typeInfo,hi,Builtin.lenOf,hr,hf]
 ·have hn:¬ (k+s.size ≤ cap):=by omega
  have QP:¬ (9223372036854775807<((k:Int)+(s.size:Int))):=by omega
  have VW:¬ (281474976710656<Builtin.nextslicecap (k+s.size) cap*i.bytes):=by omega
  simp [Builtin.append_,run_underlying ht,run_underlying Km,sizeOf,typeInfo,zeroValue,hi,hz,Builtin.lenOf,hn,QP,VW,Question.forced,hf,ho,newRow,grownCap]
  try (congr 2;apply Array.ext';simp)
theorem BG.akX {w:World} {t t' el:TypeId} {kd:IntKind} (ht:P.underlying t=some (.slice el)) (Km:P.underlying t'=some (.int kd)) {i:TypeInfo} (hi:P.info? el=some i) {z:Value} (hz:i.zero=some z) (ty:TypeId) {k':IntKind} {l:Int} (h0:0 ≤ l)
  (hb:l.toNat*(i.bytes+1) ≤ 35184372088832) (hzs:z.cells.size=i.size):
  BG P w t t' ty el i z (.int k' l) l.toNat (Builtin.zeroCells z.cells l.toNat).toList:=by
 have hl:l.toNat ≤ 35184372088832:=Nat.le_trans (Nat.le_mul_of_pos_right _ (Nat.succ_pos _)) hb
 have hw:IntKind.i64.wrap l=l:=by
  have:l<9223372036854775808:=by omega
  unfold IntKind.wrap;simp [IntKind.signed,IntKind.bits];omega
 have hlb:¬ (281474976710656<l*i.bytes):=by
  have h2:l.toNat*i.bytes ≤ l.toNat*(i.bytes+1):=Nat.mul_le_mul_left _ (by omega)
  have h3:l*i.bytes=((l.toNat*i.bytes:Nat):Int):=by rw [Int.natCast_mul,Int.toNat_of_nonneg h0]
  omega
 have Ve:¬ l<0:=by omega
 have hz0:l.toNat*i.size=0 → Builtin.zeroCells z.cells l.toNat = #[]:=fun h=>by
  apply Array.eq_empty_of_size_eq_zero;simp [Builtin.zeroCells,hzs,h]
 have hai:∀ w':World,(asInt (.int k' l)).run P w'=.ok l w':=fun w'=>by simp [asInt,asIntOf]
 by_cases hz1:l.toNat*i.size=0
 ·rw [hz0 hz1]
  refine ⟨fun A k cap hr=>?_,fun A k cap pQ ho hg QO YC=>?_⟩
  ·cases A<;>simp [Builtin.append_,run_underlying ht,run_underlying Km,sizeOf,typeInfo,zeroValue,hi,hz,hai,hw,Ve,hlb,hr,hz1]
  ·have hn:¬ (k+l.toNat ≤ cap):=by omega
   have QP:¬ (9223372036854775807<((k:Int)+max l 0)):=by omega
   have VW:¬ (281474976710656<Builtin.nextslicecap (k+l.toNat) cap*i.bytes):=by omega
   simp [Builtin.append_,run_underlying ht,run_underlying Km,sizeOf,typeInfo,zeroValue,hi,hz,hai,hw,Ve,hlb,hn,QP,VW,Question.forced,ho,newRow,grownCap,hz1]
   try (congr 2;apply Array.ext';simp)
 ·refine ⟨fun A k cap hr=>?_,fun A k cap pQ ho hg QO YC=>?_⟩
  ·cases A<;>simp [Builtin.append_,run_underlying ht,run_underlying Km,sizeOf,typeInfo,zeroValue,hi,hz,hai,hw,Ve,hlb,hr,hz1]
  ·have hn:¬ (k+l.toNat ≤ cap):=by omega
   have QP:¬ (9223372036854775807<((k:Int)+max l 0)):=by omega
   have VW:¬ (281474976710656<Builtin.nextslicecap (k+l.toNat) cap*i.bytes):=by omega
   simp [Builtin.append_,run_underlying ht,run_underlying Km,sizeOf,typeInfo,zeroValue,hi,hz,hai,hw,Ve,hlb,hn,QP,VW,Question.forced,ho,newRow,grownCap,hz1]
   try (congr 2;apply Array.ext';simp)
theorem LM:∀ l:List UInt8,aL ρ (l.map fun c=>(.i .u8 c.toNat:AV)) (l.map fun b=>Value.int .u8 b.toNat)
 |[]=>.nil
 |c::l=>.cons _ _ _ _ (.i _ _) (LM l)
theorem QQ {c:Call} (fB:c.callee=.builtin .append) (h:fe P G (.call c) ty e σ nid K=some r) (he:aH n ρ e a) (aC:Rel RO P ρ fp σ w) (hn:nid<σ.next) (h1:ρ nid=none):
  Goal RO P (.call c) ty a nid ρ fp σ w K r:=by
 simp only [fe,fB] at h
 split at h
 ·rename_i sa k v2 t t' hv ht
  obtain ⟨u1,u2,ha,r1,r2⟩:=LK (wz he c.args) hv
  have hts:c.argTypes = #[t,t']:=by apply Array.ext';rw [ht]
  split at h
  ·rename_i el d' hu VC
   split at h
   ·cases h
   ·rename_i z hz
    obtain ⟨inf,lQ,hA⟩:=dW h
    clear h
    obtain ⟨i,v,hi,hvz,-,g1,g2,g3,g4,g5⟩:=lh (ρ:=ρ) hz
    obtain rfl:inf=i:=by rw [lQ] at hi;cases hi;rfl
    obtain ⟨hzl,hA⟩:=aD hA
    have hb:bytesOf P el=inf.bytes:=by simp [bytesOf,lQ]
    have fin:∀ {m:Nat} {new:List AV} {us:List Value},((k+m)*(inf.bytes+1) ≤ 35184372088832 → BG P w t t' ty el inf v u2 m us) → aL ρ new us → new.all AV.aZ=true → us.length=m*inf.size → (∀ x∈us,x.oneCell'=true) →
      (bif !Ep P el && Nat.ble ((k+m)*(bytesOf P el+1)) 35184372088832 then (σ.bP nid el inf.size sa k m new).bind fun r=>nQ .sl r.1 fun v=>K v r.2 else none)=some r → Goal RO P (.call c) ty a nid ρ fp σ w K r:=by
     intro m new us q1 q2 q3 q4 q5 h
     obtain ⟨hc,h⟩:=aD h
     obtain ⟨⟨vv,ah2⟩,oR,h⟩:=Option.bind_eq_some_iff.1 h
     rw [hb] at hc
     simp only [Bool.and_eq_true,Bool.not_eq_true'] at hc
     obtain ⟨Yz,hc⟩:=hc
     have h:=eQ h
     exact Td fB aC hn h1 ha hts r1 lQ g3 (q1 (Nat.le_of_ble_eq_true hc)) q2 q3 q4 q5 Yz (Nat.le_of_ble_eq_true hc) oR h
    have akZ:∀ {us:List Value} {cs:List AV},aL ρ cs us → cs.all AV.aZ=true → ∀ x∈us,x.oneCell'=true:=fun {us cs} hr ho x hx=>by
     obtain ⟨j,hj⟩:=List.getElem?_of_mem hx
     obtain ⟨v,tp,hr⟩:=hr.get' hj
     exact (hr.one (List.all_eq_true.1 ho v (List.mem_of_getElem? tp))).1
    unfold aai at hA
    split at hA
    ·rename_i el' sa' m
     obtain ⟨new,Ij,hB⟩:=Option.bind_eq_some_iff.1 hA
     obtain ⟨A',c',rfl,us,s1,s2,s3,s4,s5⟩:=YA aC Ij r2
     exact fin (fun _=>BG.slice hu VC lQ hvz ty s5) s1 s2 s3 s4 hB
    ·rename_i l _
     obtain ⟨h1s,hA⟩:=aD hA
     have h1s:=Nat.eq_of_beq_eq_true h1s
     obtain ⟨s,rfl,hs⟩:=r2.wA
     have hvr:aL ρ (l.map fun c=>(.i .u8 c.toNat:AV)) (s.data.toList.map fun b=>Value.int .u8 b.toNat):=by
      rw [hs]
      exact LM l
     have ho:(l.map fun c=>(.i .u8 c.toNat:AV)).all AV.aZ=true:=by simp [AV.aZ]
     have qX:s.size=l.length:=by rw [← hs];rfl
     rw [← qX] at hA
     exact fin (fun _=>BG.string hu VC lQ hvz ty s) hvr ho (by simp [hs,qX,h1s]) (akZ hvr ho) hA
    ·rename_i k' l _
     obtain ⟨h0,hA⟩:=aD hA
     have h0:0 ≤ l:=by simpa using h0
     have:=r2.eK
     subst this
     have hzr:=wy g4 g1 l.toNat (l.toNat*inf.size) (by rw [g2];exact Nat.le_refl _)
     have hzs:(Builtin.zeroCells v.cells l.toNat)=(Array.range (l.toNat*inf.size)).map (v.cells[· % v.cells.size]!):=by simp [Builtin.zeroCells,g3]
     have hvr:aL ρ ((List.replicate l.toNat z).flatten) (Builtin.zeroCells v.cells l.toNat).toList:=by
      have:=Fe g4 g1 l.toNat
      rw [g2] at this;rw [hzs];exact this
     have ho:=hzr.1
     refine fin (fun hle=>BG.akX hu VC lQ hvz ty h0 ?_ g3) hvr ho ?_ (akZ hvr ho) hA
     ·exact Nat.le_trans (Nat.mul_le_mul_right _ (by omega)) hle
     ·rw [hzs];simp
    ·cases hA
  ·cases h
 ·cases h
end Go.Abs
