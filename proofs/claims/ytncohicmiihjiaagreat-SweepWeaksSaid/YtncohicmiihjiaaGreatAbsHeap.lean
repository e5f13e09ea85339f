/-
  AbsHeap: the operations upon the heap, held against the model's own.
-/
import Derived.Test.YtncohicmiihjiaaGreatAbsPure2
import Derived.CallsIn
import Derived.RangeFuncIn
set_option linter.unusedVariables false
set_option linter.unusedSimpArgs false
set_option linter.constructorNameAsVariable false
namespace Go.Abs
open Go
variable {O:Type} {RO:O->Loc->(Nat->Option Obj)->Prop} {P:Program} {ρ:bX} {fp:Fp} {J:AH O} {w:World} {n:Nat} {e:Env} {a:Act} {R:Type}
def Fw (ro:Option Nat):Fence:={Fence.wide with round:=ro}
theorem oB {ro:Option Nat} {k:Nat} {f:FuncId} {args:Array Value} {w:World} {R:Ending->World->Prop}:CallsIn (Fw ro) k P f args w R ↔ Calls P f args w R:=callsIn_wide (n:=k)
def ai (RO:O->Loc->(Nat->Option Obj)->Prop) (P:Program) (f:FuncId) (s:Sm O):Prop:=
 ∀ xs J v J',s xs J=some (v,J')->∀ ρ fp w (args:Array Value),aL ρ xs args.toList->Rel RO P ρ fp J w->
  Calls P f args w fun x w'=>∃ aQ fp' u,x=.returned u/\aK aQ v u/\aS RO P (· < J.next) ρ fp J w aQ fp' J' w'
def ag (P:Program) (f:FuncId):Prop:=∀ (args:Array Value) (w:World),(callFunc f args).run P w=.ok (.enter f args) w
def me (P:Program) (f:FuncId) (s:Sm O):Prop:=
 ∀ xs J v J',s xs J=some (v,J')->J'=J/\∀ ρ (args:Array Value),aL ρ xs args.toList->∃ u,aK ρ v u/\∀ w,(callFunc f args).run P w=.ok (.value u) w
def gr (RO:O->Loc->(Nat->Option Obj)->Prop) (P:Program) (s:Sm O):Prop:=
 ∀ b o ys J v J',s (.p (some (.n b,o))::ys) J=some (v,J')->∀ ρ fp w (args:Array Value) L,ρ b=some L->aL ρ ys args.toList->Rel RO P ρ fp J w->
  ∃ r:Loop,w.heap[L.B]? = some (.loop r)/\args.size=r.params.size/\
   RoundIn (Fw none) 0 P L.B r.fn ((r.params.zip args).foldl (fun tmps (t,a)=>tmps.setIfInBounds t a) r.tmps) r.assign r.body w fun x w'=>∃ aQ fp' u,x=.returned u/\aK aQ v u/\aS RO P (· < J.next) ρ fp J w aQ fp' J' w'
def cS (RO:O->Loc->(Nat->Option Obj)->Prop) (P:Program) (G:List (Nat × Sm O)):Prop:=∀ f s,(f,s)∈G->(f<jK/\ag P f/\ai RO P f s) ∨ (f<jK/\me P f s) ∨ (f=jK/\gr RO P s) ∨ ∃ c,f=c+sI/\ag P c/\ai RO P c s
def ej (RO:O->Loc->(Nat->Option Obj)->Prop) (P:Program) (op:Op) (ty:TypeId) (a:Act) (nid:Nat) (ρ:bX) (fp:Fp) (J:AH O) (w:World) (v:AV) (J':AH O):Prop:=
 ∀ (ro:Option Nat) (o:Oper) (next:Act->World->Prop) (Q:Exit->Act->World->Prop),o.op=op->o.type=ty->
  (∀ u w' aQ fp',aK aQ v u->aS RO P (fun b=>b<J.next/\(aM op=true->b≠nid)) ρ fp J w aQ fp' J' w'->(aM op=true->turns op=false->∃ L,aQ nid=some L/\w.heap.size<=L.B)->next (a.put o.dst u) w')->o.wpIn (Fw ro) 0 P a w next Q
theorem mV {ro:Option Nat} {o:Oper} {next:Act->World->Prop} {Q:Exit->Act->World->Prop} {x:Result Next} (hd:∀ c,o.op≠.defer c) (hr:(execOp a.eval o).run P w=x) (h:o.uponIn (Fw ro) 0 P a next Q x):o.wpIn (Fw ro) 0 P a w next Q:=
 ⟨fun _ _=>trivial,by rw [Oper.semAt_eq _ _ _ hd,hr];exact h⟩
theorem pK {o:Oper} {x:Result Next} (hr:(execOp a.eval o).run P w=x) (hx:(∃ u w',x=.ok (.value u) w') ∨ ∃ w',x=.ok .skip w'):∀ c,o.op≠.defer c:=fun c hc=>by
 simp only [execOp,hc,Sem.run_bind] at hr
 cases MN:(resolve a.eval c o.type).run P w with
 |ok d w1=>
  rw [MN] at hr
  simp only [Result.andThen_ok,Sem.run_pure] at hr
  subst hr
  rcases hx with ⟨_,_,h⟩ |⟨_,h⟩<;>cases h
 |halt y w1=>
  rw [MN] at hr
  simp only [Result.andThen] at hr
  subst hr
  rcases hx with ⟨_,_,h⟩ |⟨_,h⟩<;>cases h
theorem ej.value {op:Op} {ty:TypeId} {nid:Nat} {v:AV} {J':AH O} {u:Value} {w':World} {aQ:bX} {fp':Fp}
  (hr:∀ o:Oper,o.op=op->o.type=ty->(execOp a.eval o).run P w=.ok (.value u) w') (hv:aK aQ v u)
  (hp:aS RO P (fun b=>b<J.next/\(aM op=true->b≠nid)) ρ fp J w aQ fp' J' w')
  (hf:aM op=true->turns op=false->∃ L,aQ nid=some L/\w.heap.size<=L.B:=by (intro h1 h2;simp_all [aM,turns];done)):ej RO P op ty a nid ρ fp J w v J':=fun ro o next Q ho nP h=>
 mV (pK (hr o ho nP) (.inl ⟨_,_,rfl⟩)) (hr o ho nP) (h u w' aQ fp' hv hp hf)
theorem Ad {op:Op} {ty:TypeId} {e:Env} {R:Type} {K:AV->Option R} {r:R} (h:bB P op ty e K=some r):aM op=false:=by
 cases op<;>first |rfl |(simp only [bB] at h;cases h;done) |skip
 case call c=>
  obtain ⟨RC,MI,ts⟩:=c
  cases RC with
  |builtin b=>cases b<;>first |rfl |(simp only [bB] at h;cases h;done)
  |value=>rfl
  |invoke=>rfl
theorem ej.yp {op:Op} {ty:TypeId} {nid:Nat} {K:AV->AH O->Option R} {r:R} (aC:Rel RO P ρ fp J w) (he:aJ n ρ e a) (h:bB P op ty e (fun v=>K v J)=some r):
  ∃ v J',K v J'=some r/\ej RO P op ty a nid ρ fp J w v J':=by
 obtain ⟨v,u,hk,hv,hy⟩:=Ci h he
 exact ⟨v,J,hk,ej.value (fun o ho _=>hy o w ho) hv (aS.refl aC) (fun h1=>by rw [Ad h] at h1;cases h1)⟩
theorem ej.yq {op:Op} {ty:TypeId} {nid:Nat} (ha:aM op=true) (aC:Rel RO P ρ fp J w) (hn:nid<J.next) (h1:ρ nid=none) (el:TypeId) (cs:List AV) (arr:Array Value)
  (hl:cs.length<=arr.size) (hc:∀ (i:Nat) (v:AV),cs[i]? = some v->v.aR=true/\∃ u,arr[i]? = some u/\aK ρ v u) (v:AV) (u:Value)
  (hv:∀ aQ:bX,aQ nid=some ⟨w.heap.size,0,arr.size,tL P el⟩->aK aQ v u)
  (hr:∀ o:Oper,o.op=op->o.type=ty->(execOp a.eval o).run P w=.ok (.value u) (w.alloc (.cells arr el))):ej RO P op ty a nid ρ fp J w v (J.put nid (.cells true el cs)):=by
 obtain ⟨aQ,fp',h2,h3⟩:=aS.alloc aC hn h1 el cs arr hl hc
 exact ej.value hr (hv aQ h2) (h3.mono fun b hb=>hb.2 ha) (fun _ _=>⟨_,h2,Nat.le_refl _⟩)
theorem jL {cs:List AV} {arr:Array Value} (h:aL ρ cs arr.toList) (ho:cs.all AV.aR=true) (i:Nat) (v:AV) (hv:cs[i]? = some v):v.aR=true/\∃ u,arr[i]? = some u/\aK ρ v u:=by
 obtain ⟨u,hu,hr⟩:=h.get hv
 exact ⟨List.all_eq_true.1 ho v (List.mem_of_getElem? hv),u,by simpa using hu,hr⟩
abbrev Goal (RO:O->Loc->(Nat->Option Obj)->Prop) (P:Program) (op:Op) (ty:TypeId) (a:Act) (nid:Nat) (ρ:bX) (fp:Fp) (J:AH O) (w:World) (K:AV->AH O->Option R) (r:R):Prop:=
 ∃ v J',K v J'=some r/\ej RO P op ty a nid ρ fp J w v J'
variable {G:List (Nat × Sm O)} {ty:TypeId} {nid:Nat} {K:AV->AH O->Option R} {r:R}
theorem Ae {t:TypeId} (h:dX P G (.alloc t) ty e J nid K=some r) (aC:Rel RO P ρ fp J w) (hn:nid<J.next) (h1:ρ nid=none):
  Goal RO P (.alloc t) ty a nid ρ fp J w K r:=by
 simp only [dX] at h
 split at h
 ·rename_i cs hz
  obtain ⟨i,v,hi,hv,-,g1,g2,g3,g4,g5⟩:=fK (ρ:=ρ) hz
  refine ⟨_,_,h,ej.yq rfl aC hn h1 t cs v.cells (by omega) (jL g4 g1) _ (.pointer (some ⟨w.heap.size,0,none⟩)) (fun aQ RJ=>?_) (fun o ho _=>?_)⟩
  ·exact .p (.n nid) 0 _ (.n _ _ RJ)
  ·simp [execOp,ho,Instr.alloc,zeroValue,typeInfo,hi,hv,newVar,newRow]
 ·cases h
theorem FO {t:TypeId} {x:Operand} (h:dX P G (.box t x) ty e J nid K=some r) (he:aJ n ρ e a) (aC:Rel RO P ρ fp J w) (hn:nid<J.next) (h1:ρ nid=none):
  Goal RO P (.box t x) ty a nid ρ fp J w K r:=by
 simp only [dX] at h
 obtain ⟨ho,h⟩:=aG h
 obtain ⟨hc,qP⟩:=(he.ev x).cells ho
 have hl:=hc.length
 refine ⟨_,_,h,ej.yq rfl aC hn h1 t _ (a.eval x).cells (by simp at hl;omega) (jL hc ho) _ (.pointer (some ⟨w.heap.size,0,none⟩)) (fun aQ RJ=>?_) (fun o ho _=>?_)⟩
 ·exact .p (.n nid) 0 _ (.n _ _ RJ)
 ·simp [execOp,ho,Instr.box,newVar,newRow]
theorem Af {α:Type}:∀ (n:Nat) (z:List α) (j:Nat),j<n*z.length->((List.replicate n z).flatten)[j]? = z[j % z.length]?
 |0,z,j,h=>by simp at h
 |n+1,z,j,h=>by
  simp only [List.replicate_succ,List.flatten_cons]
  by_cases hj:j<z.length
  ·rw [List.getElem?_append_left hj,Nat.mod_eq_of_lt hj]
  ·rw [List.getElem?_append_right (by omega),Af n z (j - z.length) (by rw [Nat.add_mul] at h;omega)]
   congr 1
   conv=>rhs;rw [show j=(j - z.length)+z.length by omega]
   rw [Nat.add_mod_right]
theorem pM {α:Type} (n:Nat) (z:List α):((List.replicate n z).flatten).length=n*z.length:=by simp [List.length_flatten]
theorem jZ {z:List AV} {v:Value} (hz:aL ρ z v.cells.toList) (ho:z.all AV.aR=true) (m k:Nat) (hk:m*z.length<=k):
  (((List.replicate m z).flatten).all AV.aR=true)/\∀ (j:Nat) (x:AV),((List.replicate m z).flatten)[j]? = some x->x.aR=true/\∃ u,((Array.range k).map (v.cells[· % v.cells.size]!))[j]? = some u/\aK ρ x u:=by
 have hl:=hz.length
 simp only [Array.length_toList] at hl
 have key:∀ (j:Nat) (x:AV),((List.replicate m z).flatten)[j]? = some x->x.aR=true/\∃ u,((Array.range k).map (v.cells[· % v.cells.size]!))[j]? = some u/\aK ρ x u:=by
  intro j x hx
  have hj:j<m*z.length:=by have:=(List.getElem?_eq_some_iff.1 hx).1;rwa [pM] at this
  rw [Af m z j hj] at hx
  obtain ⟨u,hu,hr⟩:=hz.get hx
  refine ⟨List.all_eq_true.1 ho x (List.mem_of_getElem? hx),u,?_,hr⟩
  rw [hl] at hu
  have DR:v.cells[j % v.cells.size]? = some u:=by simpa using hu
  have bp:=(Array.getElem?_eq_some_iff.1 DR).1
  simp only [Array.getElem?_map]
  rw [Array.getElem?_range,if_pos (by omega)]
  simp only [Option.map_some]
  rw [getElem!_pos v.cells _ bp]
  exact congrArg some (Array.getElem?_eq_some_iff.1 DR).2
 refine ⟨List.all_eq_true.2 fun x hx=>?_,key⟩
 obtain ⟨j,hj⟩:=List.getElem?_of_mem hx
 exact (key j x hj).1
theorem oC {z:List AV} {v:Value} (hz:aL ρ z v.cells.toList) (ho:z.all AV.aR=true) (m:Nat):
  aL ρ ((List.replicate m z).flatten) ((Array.range (m*z.length)).map (v.cells[· % v.cells.size]!)).toList:=
 .oE (by rw [pM];simp) fun j x u hx hu=>by
  obtain ⟨_,u',h1,h2⟩:=(jZ hz ho m (m*z.length) (Nat.le_refl _)).2 j x hx
  have:((Array.range (m*z.length)).map (v.cells[· % v.cells.size]!))[j]? = some u:=by rw [<-Array.getElem?_toList];exact hu
  rw [h1] at this;cases this;exact h2
theorem pO (place:Nat->Option (Nat × Nat)):∀ (parts:List (Nat × AV)) (z cs:List AV),nM place z parts=some cs->cs.length=z.length
 |[],z,cs,h=>by simp only [nM,Option.some.injEq] at h;rw [h]
 |(i,v)::ps,z,cs,h=>by
  simp only [nM] at h
  split at h
  ·cases h
  ·rename_i off size hp
   obtain ⟨hc,h⟩:=aG h
   simp only [Bool.and_eq_true] at hc
   have h1:v.cells.length=size:=Nat.eq_of_beq_eq_true hc.1.1
   have h2:off+size<=z.length:=Nat.le_of_ble_eq_true hc.1.2
   rw [pO place ps _ cs h]
   simp;omega
theorem qS {t:TypeId} {m:Nat} {parts:Array (Nat × Operand)} (h:dX P G (.buildSlice t m parts) ty e J nid K=some r) (he:aJ n ρ e a) (aC:Rel RO P ρ fp J w) (hn:nid<J.next) (h1:ρ nid=none):
  Goal RO P (.buildSlice t m parts) ty a nid ρ fp J w K r:=by
 simp only [dX] at h
 split at h
 ·rename_i el hu
  split at h
  ·rename_i z hz
   obtain ⟨i,v,hi,hv,-,g1,g2,g3,g4,g5⟩:=fK (ρ:=ρ) hz
   obtain ⟨hle,h⟩:=aG h
   simp only [Bool.and_eq_true] at hle
   obtain ⟨hle,hm⟩:=hle
   have hle:=Nat.le_of_ble_eq_true hle
   have hm:=Nat.le_of_ble_eq_true hm
   split at h
   ·rename_i cs hf
    obtain ⟨iI,LP,hr,ho⟩:=kH (ρ:=ρ) _ _ (parts.toList.map fun x=>(x.1,a.eval x.2)) _ cs ((Array.range (m*z.length)).map (v.cells[· % v.cells.size]!)) hf (by simp) (mW he _) (oC g4 g1 m) (jZ g4 g1 m _ (Nat.le_refl _)).1
    have hl:=hr.length
    simp only [Array.length_toList] at hl
    have kA:iI.size=m*z.length:=by rw [<-hl,pO _ _ _ _ hf,pM]
    refine ⟨_,_,h,ej.yq rfl aC hn h1 el cs iI (by omega) (jL hr ho) _ (.slice (some ⟨w.heap.size,0,none⟩) m m) (fun aQ RJ=>?_) (fun o nN _=>?_)⟩
    ·have vA:z.length=tL P el:=by simp [tL,hi,g2]
     rw [vA]
     exact .sl (.n nid) 0 m m _ (.n _ _ RJ) (Nat.le_refl _) (by simp only [maxLen];omega) (by simp [kA,vA])
    ·rw [g2] at hle LP
     have Ws:¬ (m*i.size > 16777216):=by omega
     have e:(parts.toList.map fun x=>(x.1,a.eval x.2))=(List.map (fun x=>match x with |(i,x)=>(i,a.eval x)) parts.toList):=rfl
     have fin:∀ z:Array Value,(m*i.size=0 ∨ z=v.cells)->(Instr.fill (fun j=>some (j*i.size,i.size)) ((Array.range (m*i.size)).map (z[· % z.size]!)) (parts.map fun (i,x)=>(i,a.eval x)).toList)=some iI:=by
      intro z Wt
      rcases Wt with h0 |rfl
      ·have r0:Array.range 0 = #[]:=rfl
       rw [<-LP,h0,r0,Array.map_empty,Array.map_empty];simp
      ·rw [<-LP];simp
     by_cases h0:m*i.size=0
     ·have:=fin #[] (.inl h0)
      simp only [execOp,nN,Instr.buildSlice,Sem.run_bind,run_underlying hu,Result.andThen_ok,sizeOf,typeInfo,run_program,hi,Sem.run_pure,if_neg Ws,if_pos h0]
      simp only [this];rfl
     ·have:=fin v.cells (.inr rfl)
      simp only [execOp,nN,Instr.buildSlice,Sem.run_bind,run_underlying hu,Result.andThen_ok,sizeOf,typeInfo,zeroValue,run_program,hi,hv,Sem.run_pure,if_neg Ws,if_neg h0]
      simp only [this];rfl
   ·cases h
  ·cases h
 ·cases h
theorem sJ {t:TypeId} {x y:Operand} (h:dX P G (.makeSlice t x y) ty e J nid K=some r) (he:aJ n ρ e a) (aC:Rel RO P ρ fp J w) (hn:nid<J.next) (h1:ρ nid=none):
  Goal RO P (.makeSlice t x y) ty a nid ρ fp J w K r:=by
 simp only [dX] at h
 split at h
 ·rename_i el k1 l k2 c hu hx hy
  have ux:=he.ev x
  have uy:=he.ev y
  rw [hx] at ux;rw [hy] at uy
  replace ux:=ux.dJ;replace uy:=uy.dJ
  obtain ⟨hc,h⟩:=aG h
  simp only [Bool.and_eq_true,decide_eq_true_eq] at hc
  obtain ⟨⟨⟨c1,c2⟩,c3⟩,c4⟩:=hc
  split at h
  ·rename_i z hz
   obtain ⟨i,v,hi,hv,-,g1,g2,g3,g4,g5⟩:=fK (ρ:=ρ) hz
   have hb:bytesOf P el=i.bytes:=by simp [bytesOf,hi]
   rw [hb] at c3
   have hzr:=jZ g4 g1 l.toNat (c.toNat*i.size) (by rw [g2];exact Nat.mul_le_mul_right _ (by omega))
   have vA:z.length=tL P el:=by simp [tL,hi,g2]
   refine ⟨_,_,h,ej.yq rfl aC hn h1 el _ ((Array.range (c.toNat*i.size)).map (v.cells[· % v.cells.size]!)) ?_ hzr.2 _ (.slice (some ⟨w.heap.size,0,none⟩) l.toNat c.toNat) (fun aQ RJ=>?_) (fun o nN _=>?_)⟩
   ·rw [pM,g2];simp;exact Nat.mul_le_mul_right _ (by omega)
   ·rw [vA]
    refine .sl (.n nid) 0 _ _ _ (.n _ _ RJ) (by omega) (by simp only [maxLen];omega) ?_
    simp [<-vA,g2]
   ·have w1:IntKind.i64.wrap l=l:=by
     have h1:(2 ^ IntKind.i64.bits:Int)=18446744073709551616:=by decide
     simp only [IntKind.wrap,h1]
     rw [Int.emod_eq_of_lt (by omega) (by omega),if_neg (by simp [IntKind.signed,IntKind.bits];omega)]
    have w2:IntKind.i64.wrap c=c:=by
     have h1:(2 ^ IntKind.i64.bits:Int)=18446744073709551616:=by decide
     simp only [IntKind.wrap,h1]
     rw [Int.emod_eq_of_lt (by omega) (by omega),if_neg (by simp [IntKind.signed,IntKind.bits];omega)]
    have nb:¬ ((i.bytes:Int)*c > 2 ^ 48):=by
     rw [Int.mul_comm]
     have:(2 ^ 48:Int)=281474976710656:=by decide
     omega
    have nl:¬ l<0:=by omega
    have nc:¬ c<0:=by omega
    have nlc:¬ l > c:=by omega
    have fin:∀ zz:Array Value,(c.toNat*i.size=0 ∨ zz=v.cells)->((Array.range (c.toNat*i.size)).map (zz[· % zz.size]!))=((Array.range (c.toNat*i.size)).map (v.cells[· % v.cells.size]!)):=by
     intro zz Wt
     rcases Wt with e0 |rfl
     ·have r0:Array.range 0 = #[]:=rfl
      rw [e0,r0,Array.map_empty,Array.map_empty]
     ·rfl
    simp only [execOp,nN,Instr.makeSlice,Sem.run_bind,run_underlying hu,Result.andThen_ok,ux,uy,asInt,asIntOf,Sem.run_pure,typeInfo,run_program,hi,w1,w2]
    have cnd:((decide (c<0) || decide ((i.bytes:Int)*c > 2 ^ 48)) || decide (l<0) || decide (l > c))=false:=by simp [nl,nc,nlc];simpa using nb
    rw [if_neg (by rw [cnd];simp)]
    by_cases e0:c.toNat*i.size=0
    ·simp only [run_askRoom,Result.andThen_ok,sizeOf,typeInfo,Sem.run_bind,run_program,hi,Sem.run_pure,if_pos e0,fin #[] (.inl e0)];rfl
    ·simp only [run_askRoom,Result.andThen_ok,sizeOf,typeInfo,zeroValue,hv,Sem.run_bind,run_program,hi,Sem.run_pure,if_neg e0];rfl
  ·cases h
 ·cases h
theorem j7 (L:Loc) (o j:Nat):(⟨L.B,L.O+o,none⟩:Addr).add j=⟨L.B,L.O+(o+j),none⟩:=by
 unfold Addr.add;split<;>simp_all;omega
theorem sg (aC:Rel RO P ρ fp J w) {b:fH} {L:Loc} (hL:iZ ρ b L):∀ (ls:List fm) (o:Nat) (K:List AV->Option R) (r:R),ly J b ls o K=some r->
  ∃ (vs:List AV) (us:List Value),K vs=some r/\aL ρ vs us/\vs.all AV.aR=true/\us.length=ls.length/\(∀ j u,us[j]? = some u->w.cell? ⟨L.B,L.O+(o+j),none⟩=some u)/\(∀ j v,vs[j]? = some v->J.ld b (o+j)=some v)
 |[],o,K,r,h=>⟨[],[],h,.nil,rfl,rfl,by simp,by simp⟩
 |l::ls,o,K,r,h=>by
  simp only [ly,Option.bind_eq_some_iff] at h
  obtain ⟨v,hv,h⟩:=h
  have h:=dB h
  obtain ⟨_,h⟩:=aG h
  obtain ⟨vs,us,h1,h2,h3,h4,h5,h6⟩:=sg aC hL ls (o+1) _ r h
  obtain ⟨g1,u,g2,g3⟩:=aC.ld hv hL
  refine ⟨v::vs,u::us,h1,.cons _ _ _ _ g3 h2,by simp [g1,h3],by simp [h4],fun j u' hj=>?_,fun j v' hj=>?_⟩
  ·cases j with
   |zero=>simp at hj;subst hj;exact g2
   |succ j=>simp at hj;have:=h5 j u' hj;rw [show o+(j+1)=o+1+j by omega];exact this
  ·cases j with
   |zero=>simp at hj;subst hj;exact hv
   |succ j=>simp at hj;have:=h6 j v' hj;rw [show o+(j+1)=o+1+j by omega];exact this
theorem si (aC:Rel RO P ρ fp J w) {b:fH} {o:Nat} {L:Loc} (hL:iZ ρ b L) {t:TypeId} (nP:Fz P t=true) {K:AV->Option R} {r:R} (h:loadT J b o (lD P t) K=some r):
  ∃ v u,K v=some r/\aK ρ v u/\v.cells.all AV.aR=true/\(loadVar t ⟨L.B,L.O+o,none⟩).run P w=.ok u w/\(∀ j x,v.cells[j]? = some x->J.ld b (o+j)=some x):=by
 unfold Fz at nP
 split at nP
 ·rename_i i d hi hd
  cases hT:lD P t with
  |one l=>
   rw [hT] at h
   simp only [loadT,Option.bind_eq_some_iff] at h
   obtain ⟨v,hv,h⟩:=h
   obtain ⟨g1,u,g2,g3⟩:=aC.ld hv hL
   obtain ⟨_,_,hc⟩:=g3.one g1
   refine ⟨v,u,(aG (dB h)).2,g3,by simp [hc,g1],?_,fun j x hj=>?_⟩
   ·simp [loadVar,ub hT ⟨d,hd⟩,g2]
   ·rw [hc] at hj
    cases j with
    |zero=>simp at hj;subst hj;exact hv
    |succ j=>simp at hj
  |agg ls=>
   rw [hT] at h nP
   simp only [loadT] at h
   have hl:ls.length=i.size:=Nat.eq_of_beq_eq_true nP
   obtain ⟨vs,us,h1,h2,h3,h4,h5,h6⟩:=sg aC hL ls o _ r h
   refine ⟨_,_,h1,.agg vs us h2 h3,h3,?_,h6⟩
   have vH:=run_loadCells_list (P:=P) w ⟨L.B,L.O+o,none⟩ us (fun j u hj=>by rw [j7];exact h5 j u hj)
   simp only [loadVar,Sem.run_bind,wK hT,Result.andThen_ok,if_true,sizeOf,typeInfo,run_program,hi,Sem.run_pure]
   rw [<-hl,<-h4,vH];rfl
  |aB ts=>rw [hT] at nP;cases nP
 ·cases nP
theorem Cj {t:TypeId} {x:Operand} (h:dX P G (.load t x) ty e J nid K=some r) (he:aJ n ρ e a) (aC:Rel RO P ρ fp J w):Goal RO P (.load t x) ty a nid ρ fp J w K r:=by
 simp only [dX] at h
 have hx:=he.ev x
 obtain ⟨b,o,lF,h⟩:=gn h
 rw [lF] at hx
 obtain ⟨L,hL,ux⟩:=hx.wL
 obtain ⟨nP,h⟩:=aG h
 obtain ⟨v,u,hk,hr,_,jM,_⟩:=si aC hL nP h
 refine ⟨v,J,hk,ej.value (fun o' ho _=>?_) hr (aS.refl aC)⟩
 simp [execOp,ho,ux,Instr.loadAt,Instr.sureAddr,jM]
theorem oG {α:Type} (cs vs:List α) (o i:Nat) (h:o+vs.length<=cs.length):(cs.take o++vs++cs.drop (o+vs.length))[i]? = if i<o then cs[i]? else if i<o+vs.length then vs[i - o]? else cs[i]? := by
 rw [List.append_assoc]
 by_cases h1:i<o
 ·rw [List.getElem?_append_left (by simp;omega),List.getElem?_take,if_pos h1,if_pos h1]
 ·rw [List.getElem?_append_right (by simp;omega),if_neg h1]
  have:i - (cs.take o).length=i - o:=by simp;omega
  rw [this]
  by_cases h2:i<o+vs.length
  ·rw [List.getElem?_append_left (by omega),if_pos h2]
  ·rw [List.getElem?_append_right (by omega),if_neg h2,List.getElem?_drop];congr 1;omega
theorem ud {S:Nat->Prop} (aC:Rel RO P ρ fp J w) {b:fH} {o:Nat} {L:Loc} (hL:iZ ρ b L) {vs:List AV} {us:List Value} {J':AH O} (h:J.st b o vs=some J') (hv:aL ρ vs us) (ho:vs.all AV.aR=true):
  ∃ fp' w',(storeCells ⟨L.B,L.O+o,none⟩ us).run P w=.ok () w'/\aS RO P S ρ fp J w ρ fp' J' w':=by
 cases hL with
 |f=>simp only [AH.st] at h;cases h
 |n b L hL=>
 simp only [AH.st] at h
 split at h
 ·rename_i el cs hb
  obtain ⟨hle,h⟩:=aG h
  have hle:=Nat.le_of_ble_eq_true hle
  cases h
  obtain ⟨arr,_,h2,h3,h4,h5,h6⟩:=aC.own hb hL
  have hl:=hv.length
  have h1:∀ v∈us,v.oneCell'=true:=fun u hu=>by
   obtain ⟨j,hj⟩:=List.getElem?_of_mem hu
   obtain ⟨v,iD,hr⟩:=hv.get' hj
   exact (hr.one (List.all_eq_true.1 ho v (List.mem_of_getElem? iD))).1
  have jD:=run_storeCells_at P L.B (L.O+o) el us 0 arr w h2 (by omega) h1
  obtain ⟨fp',hp⟩:=aS.set (S:=S) aC hb hL h2 (cs.take o++vs++cs.drop (o+vs.length)) (arr.toList.take (L.O+o+0)++us++arr.toList.drop (L.O+o+0+us.length)).toArray
   (
    by simp;omega) (by simp;omega) (fun i v hi=>by
    rw [oG _ _ _ _ hle] at hi
    have e:(arr.toList.take (L.O+o+0)++us++arr.toList.drop (L.O+o+0+us.length)).toArray[L.O+i]? = if L.O+i<L.O+o then arr[L.O+i]? else if L.O+i<L.O+o+us.length then us[L.O+i - (L.O+o)]? else arr[L.O+i]? := by
     have:=oG arr.toList us (L.O+o) (L.O+i) (by simp;omega)
     simpa using this
    rw [e]
    by_cases c1:i<o
    ·rw [if_pos c1] at hi
     rw [if_pos (by omega)]
     exact h6 i v hi
    ·rw [if_neg c1] at hi
     rw [if_neg (by omega)]
     by_cases c2:i<o+vs.length
     ·rw [if_pos c2] at hi
      rw [if_pos (by omega),show L.O+i - (L.O+o)=i - o by omega]
      obtain ⟨u,hu,hr⟩:=hv.get hi
      exact ⟨List.all_eq_true.1 ho v (List.mem_of_getElem? hi),u,hu,hr⟩
     ·rw [if_neg c2] at hi
      rw [if_neg (by omega)]
      exact h6 i v hi)
  exact ⟨fp',_,jD,hp⟩
 ·cases h
theorem Ag {t:TypeId} {x y:Operand} (h:dX P G (.store t x y) ty e J nid K=some r) (he:aJ n ρ e a) (aC:Rel RO P ρ fp J w):Goal RO P (.store t x y) ty a nid ρ fp J w K r:=by
 simp only [dX] at h
 have hx:=he.ev x
 obtain ⟨b,o,lF,h⟩:=gn h
 rw [lF] at hx
 obtain ⟨L,hL,ux⟩:=hx.wL
 obtain ⟨i,hi,h⟩:=dC h
 obtain ⟨hc,h⟩:=aG h
 simp only [Bool.and_eq_true] at hc
 have hlen:=Nat.eq_of_beq_eq_true hc.1
 simp only [Option.bind_eq_some_iff] at h
 obtain ⟨J',jD,h⟩:=h
 obtain ⟨hv,h1⟩:=(he.ev y).cells hc.2
 obtain ⟨fp',w',jM,hp⟩:=ud (S:=fun b=>b<J.next/\(aM (.store t x y)=true->b≠nid)) aC hL jD hv hc.2
 refine ⟨_,J',h,fun ro o' next Q ho _ hk=>?_⟩
 have kA:(a.eval y).cells.size=i.size:=by have:=hv.length;simp at this;omega
 have:(execOp a.eval o').run P w=.ok .skip w':=by
  simp [execOp,ho,ux,Instr.storeAt,Instr.sureAddr,storeVar,sizeOf,typeInfo,hi,kA,jM]
 exact mV (pK this (.inr ⟨_,rfl⟩)) this (hk _ _ _ _ (.u _) hp (fun h=>by cases h))
theorem mX (aC:Rel RO P ρ fp J w) {b:fH} {o m:Nat} {L:Loc} (hL:iZ ρ b L) {cs:List AV} (h:J.Bu b o m=some cs):
  ∃ us:List Value,aL ρ cs us/\cs.all AV.aR=true/\us.length=m/\∀ j u,us[j]? = some u->w.cell? ⟨L.B,L.O+(o+j),none⟩=some u:=by
 have hds:∃ ds:List AV,(bif Nat.ble (o+m) ds.length then some ((ds.drop o).take m) else none)=some cs/\∀ j,J.ld b j=ds[j]? := by
  cases b with
  |n b=>
   simp only [AH.Bu] at h
   split at h
   ·rename_i ow el ds hb
    exact ⟨ds,h,fun j=>by simp only [AH.ld,hb]⟩
   ·cases h
  |f ds=>exact ⟨ds,h,fun j=>rfl⟩
 obtain ⟨ds,h,hb⟩:=hds
 ·obtain ⟨hle,h⟩:=aG h
  have hle:=Nat.le_of_ble_eq_true hle
  cases h
  have vH:∀ j v,((ds.drop o).take m)[j]? = some v->J.ld b (o+j)=some v:=by
   intro j v hj
   rw [List.getElem?_take] at hj
   split at hj
   ·rw [List.getElem?_drop] at hj
    rw [hb];exact hj
   ·cases hj
  have key:∀ j,j<m->∃ v u,((ds.drop o).take m)[j]? = some v/\v.aR=true/\w.cell? ⟨L.B,L.O+(o+j),none⟩=some u/\aK ρ v u:=by
   intro j hj
   have hlen:j<((ds.drop o).take m).length:=by simp;omega
   have hv:=List.getElem?_eq_getElem hlen
   obtain ⟨g1,u,g2,g3⟩:=aC.ld (vH j _ hv) hL
   exact ⟨_,u,hv,g1,g2,g3⟩
  refine ⟨(List.range m).map fun j=>(w.cell? ⟨L.B,L.O+(o+j),none⟩).getD undef,?_,?_,by simp,?_⟩
  ·refine .oE (by simp;omega) fun j v u hv hu=>?_
   have hj:j<m:=by have:=(List.getElem?_eq_some_iff.1 hv).1;simp at this;omega
   obtain ⟨v',u',k1,k2,k3,k4⟩:=key j hj
   rw [k1] at hv;cases hv
   simp only [List.getElem?_map,List.getElem?_range hj,Option.map_some,k3,Option.getD_some,Option.some.injEq] at hu
   rw [<-hu];exact k4
  ·refine List.all_eq_true.2 fun v hv=>?_
   obtain ⟨j,hj⟩:=List.getElem?_of_mem hv
   have hjm:j<m:=by have:=(List.getElem?_eq_some_iff.1 hj).1;simp at this;omega
   obtain ⟨v',u',k1,k2,k3,k4⟩:=key j hjm
   rw [k1] at hj;cases hj;exact k2
  ·intro j u hu
   have hj:j<m:=by have:=(List.getElem?_eq_some_iff.1 hu).1;simp at this;omega
   obtain ⟨v',u',k1,k2,k3,k4⟩:=key j hj
   simp only [List.getElem?_map,List.getElem?_range hj,Option.map_some,k3,Option.getD_some,Option.some.injEq] at hu
   rw [<-hu];exact k3
theorem wM {w w':World} (h:w'.heap=w.heap) (x:Addr):w'.cell? x=w.cell? x:=by simp [World.cell?,h]
theorem Ah {b:fH} {o:Nat} {cs:List AV} (h:J.Bu b o 0=some cs):cs=[]:=by
 cases b with
 |n b=>
  simp only [AH.Bu] at h
  split at h
  ·obtain ⟨_,h⟩:=aG h;simpa using h.symm
  ·cases h
 |f cs=>
  simp only [AH.Bu] at h
  obtain ⟨_,h⟩:=aG h;simpa using h.symm
theorem FP (aC:Rel RO P ρ fp J w) {sa:SA} {m es:Nat} {cs:List AV}
  (h:J.bT sa m es=some cs) {u:Value} (hu:aK ρ (.sl sa m) u):
  ∃ A c,u=.slice A m c/\∃ us:List Value,aL ρ cs us/\cs.all AV.aR=true/\us.length=m*es/\(∀ x∈us,x.oneCell'=true)/\∀ w',w'.heap=w.heap->(Builtin.firstCells es m u).run P w'=.ok us.toArray w':=by
 have fin:∀ {us:List Value},aL ρ cs us->cs.all AV.aR=true->∀ x∈us,x.oneCell'=true:=fun {us} hr ho x hx=>by
  obtain ⟨j,hj⟩:=List.getElem?_of_mem hx
  obtain ⟨v,iD,hr⟩:=hr.get' hj
  exact (hr.one (List.all_eq_true.1 ho v (List.mem_of_getElem? iD))).1
 unfold AH.bT at h
 cases hu with
 |B1=>
  cases h
  exact ⟨none,0,rfl,[],.nil,rfl,by simp,by simp,fun w' _=>by simp [Builtin.firstCells]⟩
 |zD A=>
  cases h
  exact ⟨some A,0,rfl,[],.nil,rfl,by simp,by simp,fun w' _=>by simp [Builtin.firstCells,loadCells,loadCellsFrom]⟩
 |Bz b o vj A=>
  simp only [Nat.zero_mul] at h
  have:cs=[]:=Ah h
  subst this
  exact ⟨some A,0,rfl,[],.nil,rfl,by simp,by simp,fun w' _=>by simp [Builtin.firstCells,loadCells,loadCellsFrom]⟩
 |sl b o _ cap L hL h1 h2 h3=>
  obtain ⟨us,k1,k2,k3,k4⟩:=mX aC hL h
  refine ⟨_,cap,rfl,us,k1,k2,k3,fin k1 k2,fun w' hw=>?_⟩
  exact run_firstCells_some w' es m _ m cap us k3 fun j u hj=>by rw [j7,wM hw];exact k4 j u hj
theorem Ij {t t' el:TypeId} (ht:P.underlying t=some (.slice el)) {d':TypeDesc} (pd:P.underlying t'=some d') (vD:∀ k,d'≠.int k) {i:TypeInfo} (hi:P.info? el=some i) (ty:TypeId) {A A':Option Addr} {k cap m c:Nat} {us:List Value}
  (hf:(Builtin.firstCells i.size m (.slice A' m c)).run P w=.ok us.toArray w) (pP:k+m<=cap):
  (
   Builtin.append_ #[t,t'] ty #[.slice A k cap,.slice A' m c]).run P w=match A with
   |none=>.ok (.slice none (k+m) cap) w
   |some x=>((storeCells (x.add (k*i.size)) us).run P w).andThen fun _ w'=>.ok (.slice (some x) (k+m) cap) w':=by
 have hz:(match d' with |.int _=>true |_=>false)=false:=by cases d'<;>first |rfl |(exact absurd rfl (vD _))
 cases A<;>simp [Builtin.append_,run_underlying ht,run_underlying pd,sizeOf,typeInfo,hi,Builtin.lenOf,pP,hf,hz]
theorem Ik {t t' el:TypeId} (ht:P.underlying t=some (.slice el)) {d':TypeDesc} (pd:P.underlying t'=some d') (vD:∀ k,d'≠.int k) {i:TypeInfo} (hi:P.info? el=some i) {z:Value} (hz:i.zero=some z) (ty:TypeId) {A A':Option Addr} {k cap m c:Nat} {gY us:List Value}
  (hf:(Builtin.firstCells i.size m (.slice A' m c)).run P w.drew=.ok us.toArray w.drew) (ho:(Builtin.firstCells i.size k (.slice A k cap)).run P w.drew=.ok gY.toArray w.drew) (hg:cap<k+m)
  (Hn:k+m<=9223372036854775807) (Ai:Builtin.nextslicecap (k+m) cap*i.bytes<=281474976710656):
  (
   Builtin.append_ #[t,t'] ty #[.slice A k cap,.slice A' m c]).run P w=
   .ok (.slice (some ⟨w.heap.size,0,none⟩) (k+m) (grownCap w (k+m) cap el)) (w.drew.alloc (.cells (gY++us++(Builtin.zeroCells z.cells (grownCap w (k+m) cap el - (k+m))).toList).toArray el)):=by
 have Uu:(match d' with |.int _=>true |_=>false)=false:=by cases d'<;>first |rfl |(exact absurd rfl (vD _))
 have hn:¬ (k+m<=cap):=by omega
 have Ck:¬ (9223372036854775807<((k:Int)+(m:Int))):=by omega
 have Cl:¬ (281474976710656<Builtin.nextslicecap (k+m) cap*i.bytes):=by omega
 simp [Builtin.append_,run_underlying ht,run_underlying pd,sizeOf,typeInfo,zeroValue,hi,hz,Builtin.lenOf,hn,Ck,Cl,Question.forced,hf,ho,newRow,grownCap,Uu]
 congr 2
 apply Array.ext'
 simp
theorem aS.ghost {S:Nat->Prop} (aC:Rel RO P ρ fp J w) (hn:nid<J.next) (h1:ρ nid=none) (x:eY O) (hS:¬ S nid):aS RO P S ρ fp J w ρ fp (J.put nid x) w:=by
 have hb:∀ q,q≠nid->(J.put nid x).aa q=J.aa q:=fun q hq=>by simp [hq]
 refine ⟨⟨?_,?_,?_,aC.has,aC.iH,aC.fz⟩,.refl _ _,fun b B _ hb=>⟨b,hb⟩,fun _ o u hu _=>.inr ⟨o,u,hu⟩,bX.le_refl _,fun _ _=>rfl,fun b hSb _ h0=>by
  have:b≠nid:=fun e=>hS (e▸hSb)
  rw [hb b this];exact h0,Nat.le_refl _⟩
 ·intro b dI
  have afM:J.next<=b:=dI
  rw [hb b (by omega)];exact aC.next b afM
 ·intro b y L hy hL
  have:b≠nid:=fun e=>by rw [e,h1] at hL;cases hL
  rw [hb b this] at hy
  exact aC.aa b y L hy hL
 ·intro b dI
  by_cases gK:b=nid
  ·rw [gK];exact aC.dead nid (.inr h1)
  ·rw [hb b gK] at dI;exact aC.dead b dI
theorem ue {vs:List AV} {us:Array Value} (h:aL ρ vs us.toList) {x y:AV} (hv:vs=[x,y]):∃ u1 u2,us = #[u1,u2]/\aK ρ x u1/\aK ρ y u2:=by
 subst hv
 have hl:=h.length
 obtain ⟨u1,g1,r1⟩:=h.get (j:=0) (by rfl)
 obtain ⟨u2,g2,r2⟩:=h.get (j:=1) (by rfl)
 refine ⟨u1,u2,?_,r1,r2⟩
 apply Array.ext'
 obtain ⟨l⟩:=us
 simp only at hl g1 g2 ⊢
 match l,hl,g1,g2 with
 |[a,b],_,g1,g2=>simp at g1 g2;simp [g1,g2]
theorem MO {vs:List AV} {us:Array Value} (h:aL ρ vs us.toList) {x:AV} (hv:vs=[x]):∃ u1,us = #[u1]/\aK ρ x u1:=by
 subst hv
 have hl:=h.length
 obtain ⟨u1,g1,r1⟩:=h.get (j:=0) (by rfl)
 refine ⟨u1,?_,r1⟩
 apply Array.ext'
 obtain ⟨l⟩:=us
 simp only at hl g1 ⊢
 match l,hl,g1 with
 |[a],_,g1=>simp at g1;simp [g1]
theorem j8 (he:aJ n ρ e a) (xs:Array Operand):aL ρ (xs.toList.map (Abs.ev e)) (xs.map a.eval).toList:=by
 have:=he.evs xs.toList
 simpa using this
theorem sK (z:Array Value) (n:Nat):(Builtin.zeroCells z n).size=n*z.size:=by simp [Builtin.zeroCells]
structure mh (P:Program) (w:World) (t t' ty el:TypeId) (i:TypeInfo) (z u2:Value) (m:Nat) (us:List Value):Prop where
 room:∀ A k cap,k+m<=cap->(Builtin.append_ #[t,t'] ty #[.slice A k cap,u2]).run P w=match A with
   |none=>.ok (.slice none (k+m) cap) w
   |some x=>((storeCells (x.add (k*i.size)) us).run P w).andThen fun _ w'=>.ok (.slice (some x) (k+m) cap) w'
 grow:∀ A k cap (gY:List Value),(Builtin.firstCells i.size k (.slice A k cap)).run P w.drew=.ok gY.toArray w.drew->cap<k+m->k+m<=9223372036854775807->Builtin.nextslicecap (k+m) cap*i.bytes<=281474976710656->
  (
   Builtin.append_ #[t,t'] ty #[.slice A k cap,u2]).run P w=
   .ok (.slice (some ⟨w.heap.size,0,none⟩) (k+m) (grownCap w (k+m) cap el)) (w.drew.alloc (.cells (gY++us++(Builtin.zeroCells z.cells (grownCap w (k+m) cap el - (k+m))).toList).toArray el))
theorem Aj {c:Call} (dU:c.callee=.builtin .append) (aC:Rel RO P ρ fp J w) (hn:nid<J.next) (h1:ρ nid=none) {u1 u2:Value} {sa:SA} {k m el:Nat} {t t':TypeId} (ha:c.args.map a.eval = #[u1,u2]) (MP:c.argTypes = #[t,t']) (r1:aK ρ (.sl sa k) u1)
  {inf:TypeInfo} {v:Value} {new:List AV} {us:List Value} {vv:AV} {JJ:AH O} (iJ:P.info? el=some inf) (g3:v.cells.size=inf.size) (src:mh P w t t' ty el inf v u2 m us)
  (s1:aL ρ new us) (s2:new.all AV.aR=true) (s3:us.length=m*inf.size) (s4:∀ x∈us,x.oneCell'=true)
  (hle:(k+m)*(inf.bytes+1)<=35184372088832) (gZ:J.cF nid el inf.size sa k m new=some (vv,JJ)) (h:K vv JJ=some r):
  Goal RO P (.call c) ty a nid ρ fp J w K r:=by
 have eT:aM (.call c)=true:=by cases c;simp only at dU;subst dU;rfl
 have vA:tL P el=inf.size:=by simp [tL,iJ]
 have hlen:=s1.length
 unfold AH.cF at gZ
 have wN:k+m<=35184372088832:=by
  have:(k+m)*1<=(k+m)*(inf.bytes+1):=Nat.mul_le_mul_left _ (by omega)
  omega
 have RK:(k+m)*inf.bytes<=140737488355328:=by
  have:(k+m)*inf.bytes<=(k+m)*(inf.bytes+1):=Nat.mul_le_mul_left _ (by omega)
  omega
 have fT:∀ {u:Value} {w':World},(Builtin.append_ #[t,t'] ty #[u1,u2]).run P w=.ok u w'->∀ o:Oper,o.op=.call c->o.type=ty->(execOp a.eval o).run P w=.ok (.value u) w':=by
  intro u w' hr o ho nP
  subst nP
  simp only [execOp,ho,resolve,dU,Sem.run_bind,Sem.run_pure,Result.andThen_ok,invoke,builtin,MP,ha,hr]
 have grow:∀ (A:Option Addr) (cap:Nat) (gY:List Value) (ov:List AV),u1=.slice A k cap->cap<k+m->aL ρ ov gY->ov.all AV.aR=true->gY.length=k*inf.size->
   (∀ w',w'.heap=w.heap->(Builtin.firstCells inf.size k (.slice A k cap)).run P w'=.ok gY.toArray w')->
   ∀ J1 wJ,aS RO P (fun b=>b<J.next/\(aM (.call c)=true->b≠nid)) ρ fp J w ρ wJ J1 w->J1.next=J.next->
   ej RO P (.call c) ty a nid ρ fp J w (.sl (.loc (.n nid) 0 inf.size) (k+m)) (J1.put nid (.cells true el (ov++new))):=by
  intro A cap gY ov wO afN Uv Wu ho3 hfo J1 wJ wv tf
  have hr:=src.grow A k cap gY (hfo w.drew rfl) afN (by omega) (growslice_fits (by omega) RK)
  have hge:=grownCap_ge w (k+m) cap el
  have hcm:=grownCap_le_maxLen w (k+m) cap el (by simp only [maxLen];omega)
  have hd:=aS.drew (S:=fun b=>b<J.next/\(aM (.call c)=true->b≠nid)) wv.rel
  have Uw:=Uv.length
  obtain ⟨aQ,fp',q1,q2⟩:=aS.alloc (nid:=nid) hd.rel (by omega) h1 el (ov++new) (gY++us++(Builtin.zeroCells v.cells (grownCap w (k+m) cap el - (k+m))).toList).toArray
   (
    by simp;omega) (fun j x hj=>by
    obtain ⟨u,w1,w2⟩:=(Uv.append s1).get hj
    refine ⟨?_,u,?_,w2⟩
    ·exact List.all_eq_true.1 (by simp [Wu,s2]) x (List.mem_of_getElem? hj)
    ·have qH:=(List.getElem?_eq_some_iff.1 w1).1
     simp only [List.getElem?_toArray]
     rw [List.getElem?_append_left qH];exact w1)
  refine ej.value (fT (by rw [wO];exact hr)) ?_ (wv.trans (hd.trans (q2.mono fun b hb=>hb.2 eT)))
  rw [<-vA]
  refine .sl (.n nid) 0 _ _ _ (.n _ _ q1) hge hcm ?_
  simp [sK,vA,ho3,s3,g3,<-Nat.add_mul]
  rw [show k+(m+(grownCap w (k+m) cap el - (k+m)))=grownCap w (k+m) cap el by omega]
  exact Nat.le_refl _
 have empty:∀ (A:Option Addr),u1=.slice A 0 0->k=0->m≠0->∀ J1 wJ,aS RO P (fun b=>b<J.next/\(aM (.call c)=true->b≠nid)) ρ fp J w ρ wJ J1 w->J1.next=J.next->
   ej RO P (.call c) ty a nid ρ fp J w (.sl (.loc (.n nid) 0 inf.size) (k+m)) (J1.put nid (.cells true el ([]++new))):=by
  intro A hA hk hm J1 wJ wv tf
  refine grow A 0 [] [] (by rw [hA,hk]) (by omega) .nil rfl (by simp [hk]) (fun w' _=>?_) J1 wJ wv tf
  rw [hk]
  cases A<;>simp [Builtin.firstCells,loadCells,loadCellsFrom]
 cases sa with
 |loc b o vj=>
  cases b with
  |f cs=>cases gZ
  |n b=>
  simp only at gZ
  split at gZ
  ·rename_i Cm cs FQ
   have PR:=(aG gZ).1
   have afO:=(aG gZ).2
   cases afO
   simp only [Bool.and_eq_true] at PR
   have vi:=Nat.eq_of_beq_eq_true PR.1
   have Ai:=Nat.le_of_ble_eq_true PR.2
   subst vi
   obtain ⟨wJ,wv⟩:=aS.kill (S:=fun b=>b<J.next/\(aM (.call c)=true->b≠nid)) aC b
   generalize wO:u1=uu at r1
   cases r1 with
   |Bz _ _ _ A=>
    by_cases hm:m=0
    ·subst hm
     refine ⟨_,_,h,ej.value (fT (u:=.slice (some A) 0 0) (w':=w) ?_) (.Bz _ _ _ A) (wv.trans (aS.ghost wv.rel hn h1 _ (fun hS=>hS.2 eT rfl)))⟩
     rw [wO]
     have:=src.room (some A) 0 0 (by omega)
     rw [this]
     have:us=[]:=List.eq_nil_of_length_eq_zero (by simpa using s3)
     subst this
     simp [storeCells]
    ·have:=empty (some A) wO rfl hm (J.kill b) wJ wv rfl
     refine ⟨_,_,h,?_⟩
     simpa using this
   |sl _ _ _ cap L hL q1 q2 q3=>
    have hL:=hL.Ac
    obtain ⟨arr,p1,p2,p3,p4,p5,p6⟩:=aC.own FQ hL
    rw [vA] at p5
    rw [p5] at q3
    have PT:∀ j x,((cs.drop o).take (k*inf.size))[j]? = some x->cs[o+j]? = some x:=by
     intro j x hj
     rw [List.getElem?_take] at hj
     split at hj
     ·rwa [List.getElem?_drop] at hj
     ·cases hj
    have afP:((cs.drop o).take (k*inf.size)).length=k*inf.size:=by simp;omega
    have hkc:k*inf.size<=cap*inf.size:=Nat.mul_le_mul_right _ q1
    by_cases pP:k+m<=cap
    ·
     have aqn:k*inf.size+m*inf.size<=cap*inf.size:=by rw [<-Nat.add_mul];exact Nat.mul_le_mul_right _ pP
     have hr:=src.room (some ⟨L.B,L.O+o,none⟩) k cap pP
     have jD:=run_storeCells_at P L.B (L.O+(o+k*inf.size)) Cm us 0 arr w p2 (by omega) s4
     simp only [j7,jD,Result.andThen_ok] at hr
     obtain ⟨aQ,fp',m1,m2⟩:=aS.move (nid:=nid) aC FQ hL p2 hn h1 o (by omega) ((cs.drop o).take (k*inf.size)++new) (arr.toList.take (L.O+(o+k*inf.size)+0)++us++arr.toList.drop (L.O+(o+k*inf.size)+0+us.length)).toArray
      (
       by simp;omega) (by simp;omega) (fun j x hj=>by
       have e:(arr.toList.take (L.O+(o+k*inf.size)+0)++us++arr.toList.drop (L.O+(o+k*inf.size)+0+us.length)).toArray[L.O+o+j]? = if L.O+o+j<L.O+(o+k*inf.size) then arr[L.O+o+j]? else if L.O+o+j<L.O+(o+k*inf.size)+us.length then us[L.O+o+j - (L.O+(o+k*inf.size))]? else arr[L.O+o+j]? := by
        have:=oG arr.toList us (L.O+(o+k*inf.size)) (L.O+o+j) (by simp;omega)
        simpa using this
       rw [e]
       by_cases c1:j<k*inf.size
       ·rw [List.getElem?_append_left (by omega)] at hj
        rw [if_pos (by omega)]
        obtain ⟨x1,u,x2,x3⟩:=p6 _ _ (PT j x hj)
        exact ⟨x1,u,by rw [<-x2];congr 1;omega,x3⟩
       ·rw [List.getElem?_append_right (by omega),afP] at hj
        obtain ⟨u,x2,x3⟩:=s1.get hj
        have Ho:=(List.getElem?_eq_some_iff.1 x2).1
        rw [if_neg (by omega),if_pos (by omega)]
        exact ⟨List.all_eq_true.1 s2 x (List.mem_of_getElem? hj),u,by rw [<-x2];congr 1;omega,x3⟩)
     refine ⟨_,_,h,ej.value (fT (by rw [wO];exact hr)) ?_ (m2.mono fun b hb=>hb.2 eT)⟩
     have:aK aQ (.sl (.loc (.n nid) 0 L.es) (k+m)) (.slice (some ⟨L.B,L.O+o+0,none⟩) (k+m) cap):=.sl (.n nid) 0 _ _ _ (.n _ _ m1) pP q2 (by simp [p5];omega)
     rw [p5] at this;exact this
    ·
     have hold:∃ gY:List Value,aL ρ ((cs.drop o).take (k*inf.size)) gY/\gY.length=k*inf.size/\∀ w',w'.heap=w.heap->(Builtin.firstCells inf.size k (.slice (some ⟨L.B,L.O+o,none⟩) k cap)).run P w'=.ok gY.toArray w':=by
      have hN:J.Bu (.n b) o (k*inf.size)=some ((cs.drop o).take (k*inf.size)):=by
       have dI:Nat.ble (o+k*inf.size) cs.length=true:=PR.2
       simp only [AH.Bu,FQ,dI,cond_true]
      obtain ⟨gY,k1,k2,k3,k4⟩:=mX aC (.n _ _ hL) hN
      exact ⟨gY,k1,k3,fun w' hw=>run_firstCells_some w' inf.size k _ k cap gY k3 fun j u hj=>by rw [j7,wM hw];exact k4 j u hj⟩
     obtain ⟨gY,o1,o2,o3⟩:=hold
     refine ⟨_,_,h,grow _ cap gY _ wO (by omega) o1 ?_ o2 o3 _ wJ wv rfl⟩
     refine List.all_eq_true.2 fun x hx=>?_
     obtain ⟨j,hj⟩:=List.getElem?_of_mem hx
     exact (p6 _ _ (PT j x hj)).1
  ·cases gZ
 |nil=>
  simp only at gZ
  have hk:=(aG gZ).1
  replace gZ:=(aG gZ).2
  have hk:=Nat.eq_of_beq_eq_true hk
  subst hk
  cases hm:Nat.beq m 0 with
  |true=>
   simp only [hm,cond_true] at gZ
   cases gZ
   have hm:=Nat.eq_of_beq_eq_true hm
   subst hm
   generalize wO:u1=uu at r1
   cases r1
   refine ⟨_,_,h,ej.value (fT (u:=.slice none 0 0) (w':=w) ?_) .B1 (aS.refl aC)⟩
   rw [wO,src.room (none) 0 0 (by omega)]
  |false=>
   simp only [hm,cond_false] at gZ
   cases gZ
   generalize wO:u1=uu at r1
   cases r1
   have:=empty none wO rfl (fun e=>by rw [e] at hm;cases hm) J fp (aS.refl aC) rfl
   exact ⟨_,_,h,by simpa using this⟩
 |z=>
  simp only at gZ
  have hk:=(aG gZ).1
  replace gZ:=(aG gZ).2
  have hk:=Nat.eq_of_beq_eq_true hk
  subst hk
  cases hm:Nat.beq m 0 with
  |true=>
   simp only [hm,cond_true] at gZ
   cases gZ
   have hm:=Nat.eq_of_beq_eq_true hm
   subst hm
   generalize wO:u1=uu at r1
   cases r1 with
   |zD A=>
    refine ⟨_,_,h,ej.value (fT (u:=.slice (some A) 0 0) (w':=w) ?_) (.zD A) (aS.refl aC)⟩
    rw [wO,src.room (some A) 0 0 (by omega)]
    have:us=[]:=List.eq_nil_of_length_eq_zero (by simpa using s3)
    subst this
    simp [storeCells]
  |false=>
   simp only [hm,cond_false] at gZ
   cases gZ
   generalize wO:u1=uu at r1
   cases r1 with
   |zD A=>
    have:=empty (some A) wO rfl (fun e=>by rw [e] at hm;cases hm) J fp (aS.refl aC) rfl
    exact ⟨_,_,h,by simpa using this⟩
theorem mh.slice {w:World} {t t' el DT:TypeId} (ht:P.underlying t=some (.slice el)) (pd:P.underlying t'=some (.slice DT)) {i:TypeInfo} (hi:P.info? el=some i) {z:Value} (hz:i.zero=some z) (ty:TypeId) {A':Option Addr} {m c:Nat} {us:List Value}
  (hf:∀ w',w'.heap=w.heap->(Builtin.firstCells i.size m (.slice A' m c)).run P w'=.ok us.toArray w'):mh P w t t' ty el i z (.slice A' m c) m us:=
 ⟨fun A k cap hr=>Ij ht pd (by simp) hi ty (hf w rfl) hr,fun A k cap gY ho h1 h2 h3=>Ik ht pd (by simp) hi hz ty (hf w.drew rfl) ho h1 h2 h3⟩
theorem mh.string {w:World} {t t' el:TypeId} (ht:P.underlying t=some (.slice el)) (pd:P.underlying t'=some .string) {i:TypeInfo} (hi:P.info? el=some i) {z:Value} (hz:i.zero=some z) (ty:TypeId) (s:ByteArray):
  mh P w t t' ty el i z (.string s) s.size (s.data.toList.map fun b=>.int .u8 b.toNat):=by
 have hf:∀ w',(Builtin.firstCells i.size s.size (.string s)).run P w'=.ok (s.data.toList.map fun b=>Value.int .u8 b.toNat).toArray w':=fun w'=>by
  simp only [Builtin.firstCells,Sem.run_pure]
  congr 1
  apply Array.ext'
  simp
 generalize (s.data.toList.map fun b=>Value.int .u8 b.toNat)=us at hf
 refine ⟨fun A k cap hr=>?_,fun A k cap gY ho hg Hn Ai=>?_⟩
 ·cases A<;>simp [Builtin.append_,run_underlying ht,run_underlying pd,sizeOf,typeInfo,hi,Builtin.lenOf,hr,hf]
 ·have hn:¬ (k+s.size<=cap):=by omega
  have Ck:¬ (9223372036854775807<((k:Int)+(s.size:Int))):=by omega
  have Cl:¬ (281474976710656<Builtin.nextslicecap (k+s.size) cap*i.bytes):=by omega
  simp [Builtin.append_,run_underlying ht,run_underlying pd,sizeOf,typeInfo,zeroValue,hi,hz,Builtin.lenOf,hn,Ck,Cl,Question.forced,hf,ho,newRow,grownCap]
  try (congr 2;apply Array.ext';simp)
theorem mh.Wv {w:World} {t t' el:TypeId} {kd:IntKind} (ht:P.underlying t=some (.slice el)) (pd:P.underlying t'=some (.int kd)) {i:TypeInfo} (hi:P.info? el=some i) {z:Value} (hz:i.zero=some z) (ty:TypeId) {k':IntKind} {l:Int} (h0:0<=l)
  (hb:l.toNat*(i.bytes+1)<=35184372088832) (hzs:z.cells.size=i.size):
  mh P w t t' ty el i z (.int k' l) l.toNat (Builtin.zeroCells z.cells l.toNat).toList:=by
 have hl:l.toNat<=35184372088832:=Nat.le_trans (Nat.le_mul_of_pos_right _ (Nat.succ_pos _)) hb
 have hw:IntKind.i64.wrap l=l:=by
  have:l<9223372036854775808:=by omega
  unfold IntKind.wrap;simp [IntKind.signed,IntKind.bits];omega
 have Ux:¬ (281474976710656<l*i.bytes):=by
  have h2:l.toNat*i.bytes<=l.toNat*(i.bytes+1):=Nat.mul_le_mul_left _ (by omega)
  have h3:l*i.bytes=((l.toNat*i.bytes:Nat):Int):=by rw [Int.natCast_mul,Int.toNat_of_nonneg h0]
  omega
 have Cd:¬ l<0:=by omega
 have hz0:l.toNat*i.size=0->Builtin.zeroCells z.cells l.toNat = #[]:=fun h=>by
  apply Array.eq_empty_of_size_eq_zero;simp [Builtin.zeroCells,hzs,h]
 have hai:∀ w':World,(asInt (.int k' l)).run P w'=.ok l w':=fun w'=>by simp [asInt,asIntOf]
 by_cases MQ:l.toNat*i.size=0
 ·rw [hz0 MQ]
  refine ⟨fun A k cap hr=>?_,fun A k cap gY ho hg Hn Ai=>?_⟩
  ·cases A<;>simp [Builtin.append_,run_underlying ht,run_underlying pd,sizeOf,typeInfo,zeroValue,hi,hz,hai,hw,Cd,Ux,hr,MQ]
  ·have hn:¬ (k+l.toNat<=cap):=by omega
   have Ck:¬ (9223372036854775807<((k:Int)+max l 0)):=by omega
   have Cl:¬ (281474976710656<Builtin.nextslicecap (k+l.toNat) cap*i.bytes):=by omega
   simp [Builtin.append_,run_underlying ht,run_underlying pd,sizeOf,typeInfo,zeroValue,hi,hz,hai,hw,Cd,Ux,hn,Ck,Cl,Question.forced,ho,newRow,grownCap,MQ]
   try (congr 2;apply Array.ext';simp)
 ·refine ⟨fun A k cap hr=>?_,fun A k cap gY ho hg Hn Ai=>?_⟩
  ·cases A<;>simp [Builtin.append_,run_underlying ht,run_underlying pd,sizeOf,typeInfo,zeroValue,hi,hz,hai,hw,Cd,Ux,hr,MQ]
  ·have hn:¬ (k+l.toNat<=cap):=by omega
   have Ck:¬ (9223372036854775807<((k:Int)+max l 0)):=by omega
   have Cl:¬ (281474976710656<Builtin.nextslicecap (k+l.toNat) cap*i.bytes):=by omega
   simp [Builtin.append_,run_underlying ht,run_underlying pd,sizeOf,typeInfo,zeroValue,hi,hz,hai,hw,Cd,Ux,hn,Ck,Cl,Question.forced,ho,newRow,grownCap,MQ]
   try (congr 2;apply Array.ext';simp)
theorem ug:∀ l:List UInt8,aL ρ (l.map fun c=>(.i .u8 c.toNat:AV)) (l.map fun b=>Value.int .u8 b.toNat)
 |[]=>.nil
 |c::l=>.cons _ _ _ _ (.i _ _) (ug l)
theorem yr {c:Call} (dU:c.callee=.builtin .append) (h:dX P G (.call c) ty e J nid K=some r) (he:aJ n ρ e a) (aC:Rel RO P ρ fp J w) (hn:nid<J.next) (h1:ρ nid=none):
  Goal RO P (.call c) ty a nid ρ fp J w K r:=by
 simp only [dX,dU] at h
 split at h
 ·rename_i sa k v2 t t' hv ht
  obtain ⟨u1,u2,ha,r1,r2⟩:=ue (j8 he c.args) hv
  have MP:c.argTypes = #[t,t']:=by apply Array.ext';rw [ht]
  split at h
  ·rename_i el d' hu DR
   split at h
   ·cases h
   ·rename_i z hz
    obtain ⟨inf,iJ,hA⟩:=dC h
    clear h
    obtain ⟨i,v,hi,Ww,-,g1,g2,g3,g4,g5⟩:=fK (ρ:=ρ) hz
    obtain rfl:inf=i:=by rw [iJ] at hi;cases hi;rfl
    obtain ⟨RL,hA⟩:=aG hA
    have hb:bytesOf P el=inf.bytes:=by simp [bytesOf,iJ]
    have fin:∀ {m:Nat} {new:List AV} {us:List Value},((k+m)*(inf.bytes+1)<=35184372088832->mh P w t t' ty el inf v u2 m us)->aL ρ new us->new.all AV.aR=true->us.length=m*inf.size->(∀ x∈us,x.oneCell'=true)->
      (bif Nat.ble ((k+m)*(bytesOf P el+1)) 35184372088832 then (J.cF nid el inf.size sa k m new).bind fun r=>gm .sl r.1 fun v=>K v r.2 else none)=some r->Goal RO P (.call c) ty a nid ρ fp J w K r:=by
     intro m new us q1 q2 q3 q4 q5 h
     obtain ⟨hc,h⟩:=aG h
     obtain ⟨⟨vv,JJ⟩,gZ,h⟩:=Option.bind_eq_some_iff.1 h
     rw [hb] at hc
     have h:=dB h
     exact Aj dU aC hn h1 ha MP r1 iJ g3 (q1 (Nat.le_of_ble_eq_true hc)) q2 q3 q4 q5 (Nat.le_of_ble_eq_true hc) gZ h
    have Wx:∀ {us:List Value} {cs:List AV},aL ρ cs us->cs.all AV.aR=true->∀ x∈us,x.oneCell'=true:=fun {us cs} hr ho x hx=>by
     obtain ⟨j,hj⟩:=List.getElem?_of_mem hx
     obtain ⟨v,iD,hr⟩:=hr.get' hj
     exact (hr.one (List.all_eq_true.1 ho v (List.mem_of_getElem? iD))).1
    unfold HW at hA
    split at hA
    ·rename_i DT Uy m
     obtain ⟨new,nC,hB⟩:=Option.bind_eq_some_iff.1 hA
     obtain ⟨A',c',rfl,us,s1,s2,s3,s4,s5⟩:=FP aC nC r2
     exact fin (fun _=>mh.slice hu DR iJ Ww ty s5) s1 s2 s3 s4 hB
    ·rename_i l _
     obtain ⟨h1s,hA⟩:=aG hA
     have h1s:=Nat.eq_of_beq_eq_true h1s
     obtain ⟨s,rfl,hs⟩:=r2.uh
     have Wy:aL ρ (l.map fun c=>(.i .u8 c.toNat:AV)) (s.data.toList.map fun b=>Value.int .u8 b.toNat):=by
      rw [hs]
      exact ug l
     have ho:(l.map fun c=>(.i .u8 c.toNat:AV)).all AV.aR=true:=by simp [AV.aR]
     have kA:s.size=l.length:=by rw [<-hs];rfl
     rw [<-kA] at hA
     exact fin (fun _=>mh.string hu DR iJ Ww ty s) Wy ho (by simp [hs,kA,h1s]) (Wx Wy ho) hA
    ·rename_i k' l _
     obtain ⟨h0,hA⟩:=aG hA
     have h0:0<=l:=by simpa using h0
     have:=r2.dJ
     subst this
     have hzr:=jZ g4 g1 l.toNat (l.toNat*inf.size) (by rw [g2];exact Nat.le_refl _)
     have hzs:(Builtin.zeroCells v.cells l.toNat)=(Array.range (l.toNat*inf.size)).map (v.cells[· % v.cells.size]!):=by simp [Builtin.zeroCells,g3]
     have Wy:aL ρ ((List.replicate l.toNat z).flatten) (Builtin.zeroCells v.cells l.toNat).toList:=by
      have:=oC g4 g1 l.toNat
      rw [g2] at this;rw [hzs];exact this
     have ho:=hzr.1
     refine fin (fun hle=>mh.Wv hu DR iJ Ww ty h0 ?_ g3) Wy ho ?_ (Wx Wy ho) hA
     ·exact Nat.le_trans (Nat.mul_le_mul_right _ (by omega)) hle
     ·rw [hzs];simp
    ·cases hA
  ·cases h
 ·cases h
end Go.Abs
