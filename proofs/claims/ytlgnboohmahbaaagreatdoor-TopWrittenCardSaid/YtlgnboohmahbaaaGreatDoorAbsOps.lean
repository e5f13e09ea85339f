/-
  AbsOps: each operation that only reckons, held against the model's own.
-/
import Derived.Test.YtlgnboohmahbaaaGreatDoorAbsRel
import Derived.Laws.Tables
import Derived.Laws.Entries
import Derived.Laws.Slices
import Derived.Laws.Strings
set_option linter.unusedVariables false
set_option linter.unusedSimpArgs false
set_option linter.constructorNameAsVariable false
namespace Go.Abs
open Go
variable {ρ:cl}
theorem aI.Pk {x:Bool} {u:Value} (h:aI ρ (.b x) u):u=.bool x:=by cases h;rfl
theorem aI.eK {k:IntKind} {n:Int} {u:Value} (h:aI ρ (.i k n) u):u=.int k n:=by cases h;rfl
theorem aI.wA {l:List UInt8} {u:Value} (h:aI ρ (.s l) u):∃ s:ByteArray,u=.string s ∧ s.data.toList=l:=by cases h;exact ⟨_,rfl,rfl⟩
theorem aI.Eu {b:jJ} {o:Nat} {u:Value} (h:aI ρ (.p (some (b,o))) u):∃ L,pL ρ b L ∧ u=.pointer (some ⟨L.B,L.O+o,none⟩):=by cases h;exact ⟨_,‹_›,rfl⟩
theorem aI.aaK {a:Option (jJ × Nat)} {u:Value} (h:aI ρ (.p a) u):∃ a',u=.pointer a' ∧ a.isNone=a'.isNone:=by cases h<;>exact ⟨_,rfl,rfl⟩
theorem aI.Ik {a:SA} {n:Nat} {u:Value} (h:aI ρ (.sl a n) u):∃ a' cap,u=.slice a' n cap ∧ a.isNil=a'.isNone ∧ n ≤ cap:=by
 cases h<;>first |exact ⟨_,_,rfl,rfl,Nat.le_refl _⟩ |exact ⟨_,_,rfl,rfl,‹_›⟩
theorem aI.VR {g:FuncId} {fi ca:List AV} {u:Value} (h:aI ρ (.fn (some (.func g,fi,ca))) u):∃ QI QJ:List Value,u=.func (.func g) QI.toArray QJ.toArray ∧ aL ρ fi QI ∧ aL ρ ca QJ:=by
 cases h with
 |fn _ _ _ QI QJ hf h1 h2=>exact ⟨QI,QJ,rfl,h1,h2⟩
theorem aI.ah9 {q:Fn × List AV × List AV} {u:Value} (h:aI ρ (.fn (some q)) u):∃ f a b,u=.func f a b:=by
 cases h<;>exact ⟨_,_,_,rfl⟩
theorem aI.ah5 {b:Nat} {fi ca:List AV} {u:Value} (h:aI ρ (.fn (some (.yield b,fi,ca))) u):∃ L,ρ b=some L ∧ u=.func (.yield L.B) #[] #[]:=by
 cases h with
 |yl _ L h=>exact ⟨L,h.tQ,rfl⟩
 |fn _ _ _ _ _ hf _ _=>exact absurd rfl (hf b)
theorem aI.adG {u:Value} (h:aI ρ (.fn none) u):u=.nilFunc:=by cases h;rfl
theorem aI.aaL {c:Option Nat} {u:Value} (h:aI ρ (.mp c) u):∃ c',u=.map c' ∧ c.isNone=c'.isNone:=by cases h<;>exact ⟨_,rfl,rfl⟩
theorem aI.QL {cs:List AV} {u:Value} (h:aI ρ (.agg cs) u):∃ vs:List Value,u=.agg vs.toArray ∧ aL ρ cs vs ∧ cs.all AV.aZ=true:=by cases h;exact ⟨_,rfl,‹_›,‹_›⟩
theorem aI.QM {cs:List AV} {u:Value} (h:aI ρ (.aS cs) u):∃ vs:List Value,u=.tuple vs.toArray ∧ aL ρ cs vs:=by cases h;exact ⟨_,rfl,‹_›⟩
theorem LP (v:Value):aI ρ (EY v) v:=by
 unfold EY
 split<;>first |exact .b _ |exact .i _ _ |exact .s _ |exact .pn |exact .SN |exact .mpn |exact .fnn |exact .DC |exact .u _
theorem Ip (v:Value):aI ρ (Bv v) v:=by
 unfold Bv
 split
 ·rename_i cs
  cases h:(cs.toList.map EY).all AV.aZ with
  |false=>exact .u _
  |true=>
   have:aI ρ (.agg (cs.toList.map EY)) (.agg cs.toList.toArray):=by
    refine .agg _ _ (.Ff (by simp) fun j x u hx hu=>?_) h
    simp only [List.getElem?_map] at hx
    rw [hu] at hx
    simp at hx;subst hx
    exact LP u
   simpa using this
 ·exact LP v
structure aH (n:Nat) (ρ:cl) (e:Env) (a:Act):Prop where
 size:a.tmps.size=n
 get:∀ t,aI ρ (e t) (a.tmps.getD t undef)
theorem aH.mono {n:Nat} {ρ aR:cl} {e:Env} {a:Act} (h:aH n ρ e a) (hl:ρ.le aR):aH n aR e a:=⟨h.size,fun t=>(h.get t).mono hl⟩
theorem Env.tN (e:Env) (d t:Nat) (v:AV):(e.set d v) t=if t=d then v else e t:=by
 simp only [Env.set]
 by_cases h:t=d
 ·subst h;simp
 ·have:Nat.beq t d=false:=by cases hh:Nat.beq t d with |false=>rfl |true=>exact absurd (Nat.eq_of_beq_eq_true hh) h
  simp [this,h]
theorem aH.put {n:Nat} {ρ:cl} {e:Env} {a:Act} (h:aH n ρ e a) {d:Option Nat} (hd:∀ x,d=some x → x<n) {v:AV} {u:Value} (hv:aI ρ v u):aH n ρ (e.put d v) (a.put d u):=by
 cases d with
 |none=>exact h
 |some d=>
  refine ⟨by simp [Act.put,h.size],fun t=>?_⟩
  simp only [Env.put,Env.tN,Act.put]
  have xZ:=hd d rfl
  by_cases ht:t=d
  ·subst ht;simp [h.size,xZ];exact hv
  ·have:=h.get t
   simp only [ht,if_false]
   simp only [Array.getD_eq_getD_getElem?,Array.getElem?_setIfInBounds,Ne.symm ht,if_false] at this ⊢
   exact this
section pure
variable {n:Nat} {e:Env} {a:Act} {P:Program} {R:Type}
theorem aH.ev (h:aH n ρ e a) (x:Operand):aI ρ (ev e x) (a.eval x):=by
 cases x with
 |tmp t=>exact h.get t
 |const v=>exact Ip v
 |global g=>exact .u _
 |func f=>exact .fn _ [] [] [] [] (fun l h=>by cases h) .nil .nil
theorem aH.evs (h:aH n ρ e a) (xs:List Operand):aL ρ (xs.map (Abs.ev e)) (xs.map a.eval):=by
 induction xs with
 |nil=>exact .nil
 |cons x xs ih=>exact .cons _ _ _ _ (h.ev x) ih
def Yld (P:Program) (op:Op) (a:Act) (u:Value):Prop:=∀ (o:Oper) (w:World),o.op=op → (execOp a.eval o).run P w=.ok (.value u) w
theorem aaM (x:Operand):Yld P (.move x) a (a.eval x):=fun o w ho=>by simp [execOp,ho]
theorem V8 (x:Operand):Yld P (.assign x) a (a.eval x):=fun o w ho=>by simp [execOp,ho]
theorem V9 {c x y:Operand} {ty:TypeId} {K:AV → Option R} {r:R} (h:bG P (.pick c x y) ty e K=some r) (he:aH n ρ e a):∃ v u,K v=some r ∧ aI ρ v u ∧ Yld P (.pick c x y) a u:=by
 have hc:=he.ev c
 have hx:=he.ev x
 have hy:=he.ev y
 simp only [bG] at h
 split at h
 ·rename_i t ht
  rw [ht] at hc
  have Ib:=hc.Pk
  have yl:Yld P (.pick c x y) a (if t then a.eval x else a.eval y):=fun o w ho=>by
   simp only [execOp,ho,Ib]
   cases t<;>simp [asBool]
  split at h
  ·rename_i x1 y1 QT hy1
   rw [QT] at hx;rw [hy1] at hy
   refine ⟨_,_,h,?_,yl⟩
   cases t
   ·simpa using hy
   ·simpa using hx
  ·refine ⟨bif t then Abs.ev e x else Abs.ev e y,_,?_,?_,yl⟩
   ·cases t<;>simpa using h
   ·cases t
    ·simpa using hy
    ·simpa using hx
 ·cases h
theorem lh {t:TypeId} {z:List AV} (h:zeroOf P t=some z):∃ i v,P.info? t=some i ∧ i.zero=some v ∧ z=(Bv v).cells ∧ z.all AV.aZ=true ∧ z.length=i.size ∧ v.cells.size=i.size ∧ aL ρ z v.cells.toList ∧ (∀ x∈v.cells.toList,x.oneCell'=true):=by
 unfold zeroOf at h
 split at h
 ·rename_i i hi
  split at h
  ·rename_i v hv
   cases hc:((Bv v).cells.all AV.aZ && Nat.beq (Bv v).cells.length i.size) with
   |false=>rw [hc] at h;cases h
   |true=>
    rw [hc] at h
    cases h
    simp only [Bool.and_eq_true] at hc
    obtain ⟨h1,h2⟩:=hc
    obtain ⟨h3,h4⟩:=(Ip (ρ:=ρ) v).cells h1
    have h5:(Bv v).cells.length=i.size:=Nat.eq_of_beq_eq_true h2
    exact ⟨i,v,hi,hv,rfl,h1,h5,by have:=h3.length;simp at this;omega,h3,h4⟩
  ·cases h
 ·cases h
theorem PA (cs:Array Value):∀ (l:List Value) (off k:Nat) (acc:Array Value),off+k+l.length ≤ acc.size →
  ((l.zipIdx k).foldl (fun (cs:Array Value) (x:Value × Nat)=>cs.setIfInBounds (off+x.2) x.1) acc).toList=acc.toList.take (off+k)++l++acc.toList.drop (off+k+l.length)
 |[],off,k,acc,h=>by simp
 |v::l,off,k,acc,h=>by
  simp only [List.zipIdx_cons,List.foldl_cons]
  rw [PA cs l off (k+1) _ (by simp at h ⊢;omega)]
  have:=list_seg_step acc.toList (off+k) v l (by simp at h ⊢;omega)
  simpa [Array.toList_setIfInBounds,Nat.add_assoc] using this
theorem yi (place:Nat → Option (Nat × Nat)):∀ (parts:List (Nat × AV)) (Wa:List (Nat × Value)) (z cs:List AV) (z':Array Value),
  Er place z parts=some cs → parts.map (·.1)=Wa.map (·.1) → aL ρ (parts.map (·.2)) (Wa.map (·.2)) → aL ρ z z'.toList → z.all AV.aZ=true →
  ∃ qm:Array Value,Instr.fill place z' Wa=some qm ∧ aL ρ cs qm.toList ∧ cs.all AV.aZ=true
 |[],[],z,cs,z',h,_,_,hz,ho=>by
  simp only [Er,Option.some.injEq] at h
  subst h
  exact ⟨z',rfl,hz,ho⟩
 |[],_::_,_,_,_,_,h,_,_,_=>by simp at h
 |_::_,[],_,_,_,_,h,_,_,_=>by simp at h
 |(i,v)::ps,(i',u)::ps',z,cs,z',h,hi,hv,hz,ho=>by
  simp only [List.map_cons,List.cons.injEq] at hi
  obtain ⟨hi1,hi2⟩:=hi
  subst hi1
  simp only [List.map_cons] at hv
  cases hv with
  |cons _ _ _ _ hv1 hv2=>
   simp only [Er] at h
   split at h
   ·cases h
   ·rename_i off size hp
    cases hc:(Nat.beq v.cells.length size && Nat.ble (off+size) z.length && v.cells.all AV.aZ) with
    |false=>rw [hc] at h;cases h
    |true=>
     rw [hc] at h
     simp only [Bool.and_eq_true] at hc
     obtain ⟨⟨h1,h2⟩,h3⟩:=hc
     have h1:v.cells.length=size:=Nat.eq_of_beq_eq_true h1
     have h2:off+size ≤ z.length:=Nat.le_of_ble_eq_true h2
     obtain ⟨hc1,hc2⟩:=hv1.cells h3
     have hl1:=hc1.length
     have hl2:=hz.length
     simp only [Array.length_toList] at hl1 hl2
     have Ps:=PA u.cells u.cells.toList off 0 z' (by simp;omega)
     have Ij:aL ρ (z.take off++v.cells++z.drop (off+size)) ((u.cells.zipIdx.foldl (fun cs (c,j)=>cs.setIfInBounds (off+j) c) z').toList):=by
      have e:(u.cells.zipIdx.foldl (fun cs (c,j)=>cs.setIfInBounds (off+j) c) z').toList=z'.toList.take off++u.cells.toList++z'.toList.drop (off+u.cells.size):=by
       rw [← Array.foldl_toList,Array.toList_zipIdx]
       simpa using Ps
      rw [e]
      have:u.cells.size=size:=by omega
      rw [this]
      exact ((hz.take off).append hc1).append (hz.drop _)
     have apL:(z.take off++v.cells++z.drop (off+size)).all AV.aZ=true:=by
      simp only [List.all_append,Bool.and_eq_true]
      refine ⟨⟨List.all_eq_true.2 fun x hx=>List.all_eq_true.1 ho x (List.mem_of_mem_take hx),h3⟩,List.all_eq_true.2 fun x hx=>List.all_eq_true.1 ho x (List.mem_of_mem_drop hx)⟩
     obtain ⟨qm,hf,hr,hoo⟩:=yi place ps ps' _ cs _ h hi2 hv2 Ij apL
     refine ⟨qm,?_,hr,hoo⟩
     simp only [Instr.fill,hp]
     rw [if_neg (by simp;omega)]
     exact hf
end pure
end Go.Abs
