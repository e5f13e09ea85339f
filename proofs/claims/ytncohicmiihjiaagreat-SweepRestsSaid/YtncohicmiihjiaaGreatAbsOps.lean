/-
  AbsOps: each operation that only reckons, held against the model's own.
-/
import Derived.Test.YtncohicmiihjiaaGreatAbsRel
import Derived.Laws.Tables
import Derived.Laws.Entries
import Derived.Laws.Slices
import Derived.Laws.Strings
set_option linter.unusedVariables false
set_option linter.unusedSimpArgs false
set_option linter.constructorNameAsVariable false
namespace Go.Abs
open Go
variable {ρ:bT}
theorem aK.wI {x:Bool} {u:Value} (h:aK ρ (.b x) u):u=.bool x:=by cases h;rfl
theorem aK.dK {k:IntKind} {n:Int} {u:Value} (h:aK ρ (.i k n) u):u=.int k n:=by cases h;rfl
theorem aK.ug {l:List UInt8} {u:Value} (h:aK ρ (.s l) u):∃ s:ByteArray,u=.string s/\s.data.toList=l:=by cases h;exact ⟨_,rfl,rfl⟩
theorem aK.wN {b:fJ} {o:Nat} {u:Value} (h:aK ρ (.p (some (b,o))) u):∃ L,iT ρ b L/\u=.pointer (some ⟨L.B,L.O+o,none⟩):=by cases h;exact ⟨_,‹_›,rfl⟩
theorem aK.IT {a:Option (fJ × Nat)} {u:Value} (h:aK ρ (.p a) u):∃ a',u=.pointer a'/\a.isNone=a'.isNone:=by cases h<;>exact ⟨_,rfl,rfl⟩
theorem aK.qL {a:SA} {n:Nat} {u:Value} (h:aK ρ (.sl a n) u):∃ a' cap,u=.slice a' n cap/\a.isNil=a'.isNone/\n<=cap:=by
 cases h<;>first |exact ⟨_,_,rfl,rfl,Nat.le_refl _⟩ |exact ⟨_,_,rfl,rfl,‹_›⟩
theorem aK.Cv {g:FuncId} {fi ca:List AV} {u:Value} (h:aK ρ (.fn (some (.func g,fi,ca))) u):∃ yj yk:List Value,u=.func (.func g) yj.toArray yk.toArray/\aL ρ fi yj/\aL ρ ca yk:=by
 cases h with
 |fn _ _ _ yj yk hf h1 h2=>exact ⟨yj,yk,rfl,h1,h2⟩
theorem aK.SI {q:Fn × List AV × List AV} {u:Value} (h:aK ρ (.fn (some q)) u):∃ f a b,u=.func f a b:=by
 cases h<;>exact ⟨_,_,_,rfl⟩
theorem aK.SE {b:Nat} {fi ca:List AV} {u:Value} (h:aK ρ (.fn (some (.yield b,fi,ca))) u):∃ L,ρ b=some L/\u=.func (.yield L.B) #[] #[]:=by
 cases h with
 |yl _ L h=>exact ⟨L,h.nN,rfl⟩
 |fn _ _ _ _ _ hf _ _=>exact absurd rfl (hf b)
theorem aK.NG {u:Value} (h:aK ρ (.fn none) u):u=.nilFunc:=by cases h;rfl
theorem aK.IU {c:Option Nat} {u:Value} (h:aK ρ (.mp c) u):∃ c',u=.map c'/\c.isNone=c'.isNone:=by cases h<;>exact ⟨_,rfl,rfl⟩
theorem aK.ym {cs:List AV} {u:Value} (h:aK ρ (.agg cs) u):∃ vs:List Value,u=.agg vs.toArray/\aL ρ cs vs/\cs.all AV.aU=true:=by cases h;exact ⟨_,rfl,‹_›,‹_›⟩
theorem aK.yn {cs:List AV} {u:Value} (h:aK ρ (.aG cs) u):∃ vs:List Value,u=.tuple vs.toArray/\aL ρ cs vs:=by cases h;exact ⟨_,rfl,‹_›⟩
theorem ur (v:Value):aK ρ (nU v) v:=by
 unfold nU
 split<;>first |exact .b _ |exact .i _ _ |exact .s _ |exact .pn |exact .Cj |exact .mpn |exact .fnn |exact .zY |exact .u _
theorem qP (v:Value):aK ρ (lQ v) v:=by
 unfold lQ
 split
 ·rename_i cs
  cases h:(cs.toList.map nU).all AV.aU with
  |false=>exact .u _
  |true=>
   have:aK ρ (.agg (cs.toList.map nU)) (.agg cs.toList.toArray):=by
    refine .agg _ _ (.og (by simp) fun j x u hx hu=>?_) h
    simp only [List.getElem?_map] at hx
    rw [hu] at hx
    simp at hx;subst hx
    exact ur u
   simpa using this
 ·exact ur v
structure aC (n:Nat) (ρ:bT) (e:Env) (a:Act):Prop where
 size:a.tmps.size=n
 get:∀ t,aK ρ (e t) (a.tmps.getD t undef)
theorem aC.mono {n:Nat} {ρ aQ:bT} {e:Env} {a:Act} (h:aC n ρ e a) (hl:ρ.le aQ):aC n aQ e a:=⟨h.size,fun t=>(h.get t).mono hl⟩
theorem Env.jw (e:Env) (d t:Nat) (v:AV):(e.set d v) t=if t=d then v else e t:=by
 simp only [Env.set]
 by_cases h:t=d
 ·subst h;simp
 ·have:Nat.beq t d=false:=by cases hh:Nat.beq t d with |false=>rfl |true=>exact absurd (Nat.eq_of_beq_eq_true hh) h
  simp [this,h]
theorem aC.put {n:Nat} {ρ:bT} {e:Env} {a:Act} (h:aC n ρ e a) {d:Option Nat} (hd:∀ x,d=some x->x<n) {v:AV} {u:Value} (hv:aK ρ v u):aC n ρ (e.put d v) (a.put d u):=by
 cases d with
 |none=>exact h
 |some d=>
  refine ⟨by simp [Act.put,h.size],fun t=>?_⟩
  simp only [Env.put,Env.jw,Act.put]
  have kC:=hd d rfl
  by_cases ht:t=d
  ·subst ht;simp [h.size,kC];exact hv
  ·have:=h.get t
   simp only [ht,if_false]
   simp only [Array.getD_eq_getD_getElem?,Array.getElem?_setIfInBounds,Ne.symm ht,if_false] at this ⊢
   exact this
section pure
variable {n:Nat} {e:Env} {a:Act} {P:Program} {R:Type}
theorem aC.ev (h:aC n ρ e a) (x:Operand):aK ρ (ev e x) (a.eval x):=by
 cases x with
 |tmp t=>exact h.get t
 |const v=>exact qP v
 |global g=>exact .u _
 |func f=>exact .fn _ [] [] [] [] (fun l h=>by cases h) .nil .nil
theorem aC.evs (h:aC n ρ e a) (xs:List Operand):aL ρ (xs.map (Abs.ev e)) (xs.map a.eval):=by
 induction xs with
 |nil=>exact .nil
 |cons x xs ih=>exact .cons _ _ _ _ (h.ev x) ih
def NH (P:Program) (op:Op) (a:Act) (u:Value):Prop:=∀ (o:Oper) (w:World),o.op=op->(execOp a.eval o).run P w=.ok (.value u) w
theorem IV (x:Operand):NH P (.move x) a (a.eval x):=fun o w ho=>by simp [execOp,ho]
theorem CO (x:Operand):NH P (.assign x) a (a.eval x):=fun o w ho=>by simp [execOp,ho]
theorem CP {c x y:Operand} {ty:TypeId} {K:AV->Option R} {r:R} (h:bc P (.pick c x y) ty e K=some r) (he:aC n ρ e a):∃ v u,K v=some r/\aK ρ v u/\NH P (.pick c x y) a u:=by
 have hc:=he.ev c
 have hx:=he.ev x
 have hy:=he.ev y
 simp only [bc] at h
 split at h
 ·rename_i t ht
  rw [ht] at hc
  have qF:=hc.wI
  have yl:NH P (.pick c x y) a (if t then a.eval x else a.eval y):=fun o w ho=>by
   simp only [execOp,ho,qF]
   cases t<;>simp [asBool]
  split at h
  ·rename_i x1 y1 Mp w9
   rw [Mp] at hx;rw [w9] at hy
   refine ⟨_,_,h,?_,yl⟩
   cases t
   ·simpa using hy
   ·simpa using hx
  ·refine ⟨bif t then Abs.ev e x else Abs.ev e y,_,?_,?_,yl⟩
   ·cases t<;>simpa using h
   ·cases t
    ·simpa using hy
    ·simpa using hx
 ·cases h
theorem fL {t:TypeId} {z:List AV} (h:zeroOf P t=some z):∃ i v,P.info? t=some i/\i.zero=some v/\z=(lQ v).cells/\z.all AV.aU=true/\z.length=i.size/\v.cells.size=i.size/\aL ρ z v.cells.toList/\(∀ x∈v.cells.toList,x.oneCell'=true):=by
 unfold zeroOf at h
 split at h
 ·rename_i i hi
  split at h
  ·rename_i v hv
   cases hc:((lQ v).cells.all AV.aU && Nat.beq (lQ v).cells.length i.size) with
   |false=>rw [hc] at h;cases h
   |true=>
    rw [hc] at h
    cases h
    simp only [Bool.and_eq_true] at hc
    obtain ⟨h1,h2⟩:=hc
    obtain ⟨h3,h4⟩:=(qP (ρ:=ρ) v).cells h1
    have h5:(lQ v).cells.length=i.size:=Nat.eq_of_beq_eq_true h2
    exact ⟨i,v,hi,hv,rfl,h1,h5,by have:=h3.length;simp at this;omega,h3,h4⟩
  ·cases h
 ·cases h
theorem xa (cs:Array Value):∀ (l:List Value) (off k:Nat) (acc:Array Value),off+k+l.length<=acc.size->
  ((l.zipIdx k).foldl (fun (cs:Array Value) (x:Value × Nat)=>cs.setIfInBounds (off+x.2) x.1) acc).toList=acc.toList.take (off+k)++l++acc.toList.drop (off+k+l.length)
 |[],off,k,acc,h=>by simp
 |v::l,off,k,acc,h=>by
  simp only [List.zipIdx_cons,List.foldl_cons]
  rw [xa cs l off (k+1) _ (by simp at h ⊢;omega)]
  have:=list_seg_step acc.toList (off+k) v l (by simp at h ⊢;omega)
  simpa [Array.toList_setIfInBounds,Nat.add_assoc] using this
theorem kF (place:Nat->Option (Nat × Nat)):∀ (parts:List (Nat × AV)) (CQ:List (Nat × Value)) (z cs:List AV) (z':Array Value),
  nI place z parts=some cs->parts.map (·.1)=CQ.map (·.1)->aL ρ (parts.map (·.2)) (CQ.map (·.2))->aL ρ z z'.toList->z.all AV.aU=true->
  ∃ iG:Array Value,Instr.fill place z' CQ=some iG/\aL ρ cs iG.toList/\cs.all AV.aU=true
 |[],[],z,cs,z',h,_,_,hz,ho=>by
  simp only [nI,Option.some.injEq] at h
  subst h
  exact ⟨z',rfl,hz,ho⟩
 |[],_::_,_,_,_,_,h,_,_,_=>by simp at h
 |_::_,[],_,_,_,_,h,_,_,_=>by simp at h
 |(i,v)::ps,(i',u)::ps',z,cs,z',h,hi,hv,hz,ho=>by
  simp only [List.map_cons,List.cons.injEq] at hi
  obtain ⟨Mq,HE⟩:=hi
  subst Mq
  simp only [List.map_cons] at hv
  cases hv with
  |cons _ _ _ _ hv1 hv2=>
   simp only [nI] at h
   split at h
   ·cases h
   ·rename_i off size hp
    cases hc:(Nat.beq v.cells.length size && Nat.ble (off+size) z.length && v.cells.all AV.aU) with
    |false=>rw [hc] at h;cases h
    |true=>
     rw [hc] at h
     simp only [Bool.and_eq_true] at hc
     obtain ⟨⟨h1,h2⟩,h3⟩:=hc
     have h1:v.cells.length=size:=Nat.eq_of_beq_eq_true h1
     have h2:off+size<=z.length:=Nat.le_of_ble_eq_true h2
     obtain ⟨hc1,Vm⟩:=hv1.cells h3
     have Vr:=hc1.length
     have AE:=hz.length
     simp only [Array.length_toList] at Vr AE
     have wU:=xa u.cells u.cells.toList off 0 z' (by simp;omega)
     have lE:aL ρ (z.take off++v.cells++z.drop (off+size)) ((u.cells.zipIdx.foldl (fun cs (c,j)=>cs.setIfInBounds (off+j) c) z').toList):=by
      have e:(u.cells.zipIdx.foldl (fun cs (c,j)=>cs.setIfInBounds (off+j) c) z').toList=z'.toList.take off++u.cells.toList++z'.toList.drop (off+u.cells.size):=by
       rw [<-Array.foldl_toList,Array.toList_zipIdx]
       simpa using wU
      rw [e]
      have:u.cells.size=size:=by omega
      rw [this]
      exact ((hz.take off).append hc1).append (hz.drop _)
     have agt:(z.take off++v.cells++z.drop (off+size)).all AV.aU=true:=by
      simp only [List.all_append,Bool.and_eq_true]
      refine ⟨⟨List.all_eq_true.2 fun x hx=>List.all_eq_true.1 ho x (List.mem_of_mem_take hx),h3⟩,List.all_eq_true.2 fun x hx=>List.all_eq_true.1 ho x (List.mem_of_mem_drop hx)⟩
     obtain ⟨iG,hf,hr,hoo⟩:=kF place ps ps' _ cs _ h HE hv2 lE agt
     refine ⟨iG,?_,hr,hoo⟩
     simp only [Instr.fill,hp]
     rw [if_neg (by simp;omega)]
     exact hf
end pure
end Go.Abs
