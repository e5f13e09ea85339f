/-
  AbsOps: each operation that only reckons, held against the model's own.
-/
import Derived.Test.YtncohicmiihjiaaGreatAbsRel
import Derived.Laws.Tables
import Derived.Laws.Entries
import Derived.Laws.Slices
import Derived.Laws.Strings
set_option linter.unusedVariables false
set_option linter.unusedSimpArgs false
set_option linter.constructorNameAsVariable false
namespace Go.Abs
open Go
variable {ρ:bX}
theorem aK.wH {x:Bool} {u:Value} (h:aK ρ (.b x) u):u=.bool x:=by cases h;rfl
theorem aK.dJ {k:IntKind} {n:Int} {u:Value} (h:aK ρ (.i k n) u):u=.int k n:=by cases h;rfl
theorem aK.uh {l:List UInt8} {u:Value} (h:aK ρ (.s l) u):∃ s:ByteArray,u=.string s/\s.data.toList=l:=by cases h;exact ⟨_,rfl,rfl⟩
theorem aK.wL {b:fH} {o:Nat} {u:Value} (h:aK ρ (.p (some (b,o))) u):∃ L,iZ ρ b L/\u=.pointer (some ⟨L.B,L.O+o,none⟩):=by cases h;exact ⟨_,‹_›,rfl⟩
theorem aK.Iv {a:Option (fH × Nat)} {u:Value} (h:aK ρ (.p a) u):∃ a',u=.pointer a'/\a.isNone=a'.isNone:=by cases h<;>exact ⟨_,rfl,rfl⟩
theorem aK.qT {a:SA} {n:Nat} {u:Value} (h:aK ρ (.sl a n) u):∃ a' cap,u=.slice a' n cap/\a.isNil=a'.isNone/\n<=cap:=by
 cases h<;>first |exact ⟨_,_,rfl,rfl,Nat.le_refl _⟩ |exact ⟨_,_,rfl,rfl,‹_›⟩
theorem aK.Cf {g:FuncId} {fi ca:List AV} {u:Value} (h:aK ρ (.fn (some (.func g,fi,ca))) u):∃ yi yj:List Value,u=.func (.func g) yi.toArray yj.toArray/\aL ρ fi yi/\aL ρ ca yj:=by
 cases h with
 |fn _ _ _ yi yj hf h1 h2=>exact ⟨yi,yj,rfl,h1,h2⟩
theorem aK.RP {q:Fn × List AV × List AV} {u:Value} (h:aK ρ (.fn (some q)) u):∃ f a b,u=.func f a b:=by
 cases h<;>exact ⟨_,_,_,rfl⟩
theorem aK.RM {b:Nat} {fi ca:List AV} {u:Value} (h:aK ρ (.fn (some (.yield b,fi,ca))) u):∃ L,ρ b=some L/\u=.func (.yield L.B) #[] #[]:=by
 cases h with
 |yl _ L h=>exact ⟨L,h.Ac,rfl⟩
 |fn _ _ _ _ _ hf _ _=>exact absurd rfl (hf b)
theorem aK.MU {u:Value} (h:aK ρ (.fn none) u):u=.nilFunc:=by cases h;rfl
theorem aK.Iw {c:Option Nat} {u:Value} (h:aK ρ (.mp c) u):∃ c',u=.map c'/\c.isNone=c'.isNone:=by cases h<;>exact ⟨_,rfl,rfl⟩
theorem aK.yn {cs:List AV} {u:Value} (h:aK ρ (.agg cs) u):∃ vs:List Value,u=.agg vs.toArray/\aL ρ cs vs/\cs.all AV.aR=true:=by cases h;exact ⟨_,rfl,‹_›,‹_›⟩
theorem aK.yo {cs:List AV} {u:Value} (h:aK ρ (.aB cs) u):∃ vs:List Value,u=.tuple vs.toArray/\aL ρ cs vs:=by cases h;exact ⟨_,rfl,‹_›⟩
theorem uv (v:Value):aK ρ (oc v) v:=by
 unfold oc
 split<;>first |exact .b _ |exact .i _ _ |exact .s _ |exact .pn |exact .B1 |exact .mpn |exact .fnn |exact .zT |exact .u _
theorem qV (v:Value):aK ρ (lP v) v:=by
 unfold lP
 split
 ·rename_i cs
  cases h:(cs.toList.map oc).all AV.aR with
  |false=>exact .u _
  |true=>
   have:aK ρ (.agg (cs.toList.map oc)) (.agg cs.toList.toArray):=by
    refine .agg _ _ (.oE (by simp) fun j x u hx hu=>?_) h
    simp only [List.getElem?_map] at hx
    rw [hu] at hx
    simp at hx;subst hx
    exact uv u
   simpa using this
 ·exact uv v
structure aJ (n:Nat) (ρ:bX) (e:Env) (a:Act):Prop where
 size:a.tmps.size=n
 get:∀ t,aK ρ (e t) (a.tmps.getD t undef)
theorem aJ.mono {n:Nat} {ρ aQ:bX} {e:Env} {a:Act} (h:aJ n ρ e a) (hl:ρ.le aQ):aJ n aQ e a:=⟨h.size,fun t=>(h.get t).mono hl⟩
theorem Env.kE (e:Env) (d t:Nat) (v:AV):(e.set d v) t=if t=d then v else e t:=by
 simp only [Env.set]
 by_cases h:t=d
 ·subst h;simp
 ·have:Nat.beq t d=false:=by cases hh:Nat.beq t d with |false=>rfl |true=>exact absurd (Nat.eq_of_beq_eq_true hh) h
  simp [this,h]
theorem aJ.put {n:Nat} {ρ:bX} {e:Env} {a:Act} (h:aJ n ρ e a) {d:Option Nat} (hd:∀ x,d=some x->x<n) {v:AV} {u:Value} (hv:aK ρ v u):aJ n ρ (e.put d v) (a.put d u):=by
 cases d with
 |none=>exact h
 |some d=>
  refine ⟨by simp [Act.put,h.size],fun t=>?_⟩
  simp only [Env.put,Env.kE,Act.put]
  have vD:=hd d rfl
  by_cases ht:t=d
  ·subst ht;simp [h.size,vD];exact hv
  ·have:=h.get t
   simp only [ht,if_false]
   simp only [Array.getD_eq_getD_getElem?,Array.getElem?_setIfInBounds,Ne.symm ht,if_false] at this ⊢
   exact this
section pure
variable {n:Nat} {e:Env} {a:Act} {P:Program} {R:Type}
theorem aJ.ev (h:aJ n ρ e a) (x:Operand):aK ρ (ev e x) (a.eval x):=by
 cases x with
 |tmp t=>exact h.get t
 |const v=>exact qV v
 |global g=>exact .u _
 |func f=>exact .fn _ [] [] [] [] (fun l h=>by cases h) .nil .nil
theorem aJ.evs (h:aJ n ρ e a) (xs:List Operand):aL ρ (xs.map (Abs.ev e)) (xs.map a.eval):=by
 induction xs with
 |nil=>exact .nil
 |cons x xs ih=>exact .cons _ _ _ _ (h.ev x) ih
def MV (P:Program) (op:Op) (a:Act) (u:Value):Prop:=∀ (o:Oper) (w:World),o.op=op->(execOp a.eval o).run P w=.ok (.value u) w
theorem Ix (x:Operand):MV P (.move x) a (a.eval x):=fun o w ho=>by simp [execOp,ho]
theorem Ct (x:Operand):MV P (.assign x) a (a.eval x):=fun o w ho=>by simp [execOp,ho]
theorem Cu {c x y:Operand} {ty:TypeId} {K:AV->Option R} {r:R} (h:bB P (.pick c x y) ty e K=some r) (he:aJ n ρ e a):∃ v u,K v=some r/\aK ρ v u/\MV P (.pick c x y) a u:=by
 have hc:=he.ev c
 have hx:=he.ev x
 have hy:=he.ev y
 simp only [bB] at h
 split at h
 ·rename_i t ht
  rw [ht] at hc
  have qP:=hc.wH
  have yl:MV P (.pick c x y) a (if t then a.eval x else a.eval y):=fun o w ho=>by
   simp only [execOp,ho,qP]
   cases t<;>simp [asBool]
  split at h
  ·rename_i x1 y1 LU wV
   rw [LU] at hx;rw [wV] at hy
   refine ⟨_,_,h,?_,yl⟩
   cases t
   ·simpa using hy
   ·simpa using hx
  ·refine ⟨bif t then Abs.ev e x else Abs.ev e y,_,?_,?_,yl⟩
   ·cases t<;>simpa using h
   ·cases t
    ·simpa using hy
    ·simpa using hx
 ·cases h
theorem fK {t:TypeId} {z:List AV} (h:zeroOf P t=some z):∃ i v,P.info? t=some i/\i.zero=some v/\z=(lP v).cells/\z.all AV.aR=true/\z.length=i.size/\v.cells.size=i.size/\aL ρ z v.cells.toList/\(∀ x∈v.cells.toList,x.oneCell'=true):=by
 unfold zeroOf at h
 split at h
 ·rename_i i hi
  split at h
  ·rename_i v hv
   cases hc:((lP v).cells.all AV.aR && Nat.beq (lP v).cells.length i.size) with
   |false=>rw [hc] at h;cases h
   |true=>
    rw [hc] at h
    cases h
    simp only [Bool.and_eq_true] at hc
    obtain ⟨h1,h2⟩:=hc
    obtain ⟨h3,h4⟩:=(qV (ρ:=ρ) v).cells h1
    have h5:(lP v).cells.length=i.size:=Nat.eq_of_beq_eq_true h2
    exact ⟨i,v,hi,hv,rfl,h1,h5,by have:=h3.length;simp at this;omega,h3,h4⟩
  ·cases h
 ·cases h
theorem wW (cs:Array Value):∀ (l:List Value) (off k:Nat) (acc:Array Value),off+k+l.length<=acc.size->
  ((l.zipIdx k).foldl (fun (cs:Array Value) (x:Value × Nat)=>cs.setIfInBounds (off+x.2) x.1) acc).toList=acc.toList.take (off+k)++l++acc.toList.drop (off+k+l.length)
 |[],off,k,acc,h=>by simp
 |v::l,off,k,acc,h=>by
  simp only [List.zipIdx_cons,List.foldl_cons]
  rw [wW cs l off (k+1) _ (by simp at h ⊢;omega)]
  have:=list_seg_step acc.toList (off+k) v l (by simp at h ⊢;omega)
  simpa [Array.toList_setIfInBounds,Nat.add_assoc] using this
theorem kH (place:Nat->Option (Nat × Nat)):∀ (parts:List (Nat × AV)) (Cv:List (Nat × Value)) (z cs:List AV) (z':Array Value),
  nM place z parts=some cs->parts.map (·.1)=Cv.map (·.1)->aL ρ (parts.map (·.2)) (Cv.map (·.2))->aL ρ z z'.toList->z.all AV.aR=true->
  ∃ iI:Array Value,Instr.fill place z' Cv=some iI/\aL ρ cs iI.toList/\cs.all AV.aR=true
 |[],[],z,cs,z',h,_,_,hz,ho=>by
  simp only [nM,Option.some.injEq] at h
  subst h
  exact ⟨z',rfl,hz,ho⟩
 |[],_::_,_,_,_,_,h,_,_,_=>by simp at h
 |_::_,[],_,_,_,_,h,_,_,_=>by simp at h
 |(i,v)::ps,(i',u)::ps',z,cs,z',h,hi,hv,hz,ho=>by
  simp only [List.map_cons,List.cons.injEq] at hi
  obtain ⟨Hq,MW⟩:=hi
  subst Hq
  simp only [List.map_cons] at hv
  cases hv with
  |cons _ _ _ _ hv1 hv2=>
   simp only [nM] at h
   split at h
   ·cases h
   ·rename_i off size hp
    cases hc:(Nat.beq v.cells.length size && Nat.ble (off+size) z.length && v.cells.all AV.aR) with
    |false=>rw [hc] at h;cases h
    |true=>
     rw [hc] at h
     simp only [Bool.and_eq_true] at hc
     obtain ⟨⟨h1,h2⟩,h3⟩:=hc
     have h1:v.cells.length=size:=Nat.eq_of_beq_eq_true h1
     have h2:off+size<=z.length:=Nat.le_of_ble_eq_true h2
     obtain ⟨hc1,PR⟩:=hv1.cells h3
     have UB:=hc1.length
     have Cw:=hz.length
     simp only [Array.length_toList] at UB Cw
     have WC:=wW u.cells u.cells.toList off 0 z' (by simp;omega)
     have nC:aL ρ (z.take off++v.cells++z.drop (off+size)) ((u.cells.zipIdx.foldl (fun cs (c,j)=>cs.setIfInBounds (off+j) c) z').toList):=by
      have e:(u.cells.zipIdx.foldl (fun cs (c,j)=>cs.setIfInBounds (off+j) c) z').toList=z'.toList.take off++u.cells.toList++z'.toList.drop (off+u.cells.size):=by
       rw [<-Array.foldl_toList,Array.toList_zipIdx]
       simpa using WC
      rw [e]
      have:u.cells.size=size:=by omega
      rw [this]
      exact ((hz.take off).append hc1).append (hz.drop _)
     have af1:(z.take off++v.cells++z.drop (off+size)).all AV.aR=true:=by
      simp only [List.all_append,Bool.and_eq_true]
      refine ⟨⟨List.all_eq_true.2 fun x hx=>List.all_eq_true.1 ho x (List.mem_of_mem_take hx),h3⟩,List.all_eq_true.2 fun x hx=>List.all_eq_true.1 ho x (List.mem_of_mem_drop hx)⟩
     obtain ⟨iI,hf,hr,hoo⟩:=kH place ps ps' _ cs _ h MW hv2 nC af1
     refine ⟨iI,?_,hr,hoo⟩
     simp only [Instr.fill,hp]
     rw [if_neg (by simp;omega)]
     exact hf
end pure
end Go.Abs
