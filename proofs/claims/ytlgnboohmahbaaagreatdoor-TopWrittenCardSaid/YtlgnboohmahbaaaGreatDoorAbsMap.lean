/-
  AbsMap: operations upon maps whose keys are numbers.
-/
import Derived.Test.YtlgnboohmahbaaaGreatDoorAbsHeap
import Derived.MapKept
import Derived.Laws.IdiomRangeMap
set_option linter.unusedVariables false
set_option linter.unusedSimpArgs false
set_option linter.constructorNameAsVariable false
namespace Go.Abs
open Go
variable {O:Type} {RO:O → Loc → (Nat → Option Obj) → Prop} {P:Program} {ρ:cl} {fp:Fp} {σ:AH O} {w:World} {n:Nat} {e:Env} {a:Act}
 {G:List (Nat × Sm O)} {ty:TypeId} {nid:Nat} {R:Type} {K:AV → AH O → Option R} {r:R}
theorem cn.len {ρ:cl}:∀ {es:List (AV × AV)} {xs:List MapEntry},cn ρ es xs → xs.length=es.length
 |[],[],_=>rfl
 |_::es,_::xs,⟨_,_,c⟩=>by simp [cn.len c]
 |[],_::_,h=>h.elim
 |_::_,[],h=>h.elim
theorem cn.app {ρ:cl} {q:AV × AV} {x:MapEntry} (h1:aI ρ q.1 x.key) (h2:aI ρ q.2 x.val):∀ {es:List (AV × AV)} {xs:List MapEntry},cn ρ es xs → cn ρ (es++[q]) (xs++[x])
 |[],[],_=>⟨h1,h2,trivial⟩
 |_::_,_::_,⟨a,b,c⟩=>⟨a,b,cn.app h1 h2 c⟩
 |[],_::_,h=>h.elim
 |_::_,[],h=>h.elim
theorem cn.set {ρ:cl} {q:AV × AV} {x:MapEntry} (h1:aI ρ q.1 x.key) (h2:aI ρ q.2 x.val):∀ {es:List (AV × AV)} {xs:List MapEntry} (i:Nat),cn ρ es xs → cn ρ (es.set i q) (xs.set i x)
 |[],[],_,_=>trivial
 |_::_,_::_,0,⟨_,_,c⟩=>⟨h1,h2,c⟩
 |_::_,_::_,i+1,⟨a,b,c⟩=>⟨a,b,cn.set h1 h2 i c⟩
 |[],_::_,_,h=>h.elim
 |_::_,[],_,h=>h.elim
theorem cn.erase {ρ:cl}:∀ {es:List (AV × AV)} {xs:List MapEntry} (i:Nat),cn ρ es xs → cn ρ (es.eraseIdx i) (xs.eraseIdx i)
 |[],[],_,_=>trivial
 |_::_,_::_,0,⟨_,_,c⟩=>c
 |_::_,_::_,i+1,⟨a,b,c⟩=>⟨a,b,cn.erase i c⟩
 |[],_::_,_,h=>h.elim
 |_::_,[],_,h=>h.elim
theorem Pt {α β:Type} (f:α → β):∀ (l:List α) (i:Nat),(l.eraseIdx i).map f=(l.map f).eraseIdx i
 |[],_=>rfl
 |_::_,0=>rfl
 |_::l,i+1=>by simp [Pt f l i]
theorem yn {ρ:cl} {k:IntKind} {m:Int}:∀ (es:List (AV × AV)) (xs:List MapEntry) (i:Nat) (q:Option (Nat × AV)),Lu k m es=some q → cn ρ es xs →
  match q with
  |none=>Instr.findNow (.int k) (.int k m) xs i=some none
  |some (j,v)=>∃ x:MapEntry,Instr.findNow (.int k) (.int k m) xs i=some (some (i+j,x.val)) ∧ xs[j]? = some x ∧ x.key=.int k m ∧ aI ρ v x.val
 |[],[],_,_,h,_=>by cases h;rfl
 |[],_::_,_,_,_,h=>h.elim
 |_::_,[],_,_,_,h=>h.elim
 |(key,v)::es,x::xs,i,q,h,⟨h1,h2,h3⟩=>by
  cases key
  case i k' m'=>
   simp only [Lu] at h
   split at h
   ·rename_i hk
    subst hk
    have hx:=h1.eK
    cases hb:m == m' with
    |true=>
     rw [hb] at h
     cases h
     have:m=m':=by simpa using hb
     subst this
     exact ⟨x,by simp [Instr.findNow,Instr.sameNow,hx],rfl,hx,h2⟩
    |false=>
     rw [hb] at h
     simp only [cond_false] at h
     obtain ⟨q',hq,h⟩:=Option.map_eq_some_iff.1 h
     subst h
     have ih:=yn es xs (i+1) q' hq h3
     have hs:Instr.findNow (.int k) (.int k m) (x::xs) i=Instr.findNow (.int k) (.int k m) xs (i+1):=by
      simp [Instr.findNow,Instr.sameNow,hx,hb]
     cases q' with
     |none=>simp only [Option.map_none];rw [hs];exact ih
     |some p=>
      obtain ⟨j,u⟩:=p
      obtain ⟨y,y1,y2,y3,y4⟩:=ih
      exact ⟨y,by rw [hs,y1,show i+1+j=i+(j+1) by omega],by simpa using y2,y3,y4⟩
   ·cases h
  all_goals (simp only [Lu] at h;cases h)
theorem BH {kt:TypeId} {v:AV} {u:Value} {q:IntKind × Int} (h:Lw P kt v=some q) (hv:aI ρ v u):P.underlying kt=some (.int q.1) ∧ v=.i q.1 q.2 ∧ u=.int q.1 q.2:=by
 unfold Lw at h
 split at h
 ·rename_i k k' m hu
  split at h
  ·rename_i hk
   subst hk
   cases h
   exact ⟨hu,rfl,hv.eK⟩
  ·cases h
 ·cases h
theorem Io (aC:Rel RO P ρ fp σ w) {v:AV} {u:Value} {es:List (AV × AV)} (h:Lv σ v=some es) (hv:aI ρ v u):
  (v=.mp none ∧ u=.map none ∧ es=[]) ∨ ∃ b L arr clock,v=.mp (some b) ∧ u=.map (some L.B) ∧ ρ b=some L ∧ (∃ st,σ.ai b=some (.map es st clock) ∧ iE σ b=(st,clock) ∧ arr.toList.map (·.born)=st ∧ (∀ s∈st,s<clock) ∧ st.Nodup) ∧ fp b=one L.B (.map arr clock) ∧ w.heap[L.B]? = some (.map arr clock) ∧ cn ρ es arr.toList:=by
 unfold Lv at h
 split at h
 ·cases h
  cases hv
  exact .inl ⟨rfl,rfl,rfl⟩
 ·rename_i b
  split at h
  ·rename_i N8 st clock hb
   cases h
   cases hv with
   |mp _ L hL=>
    have hL:=hL.tQ
    obtain ⟨arr,g1,g2,g3⟩:=aC.ai _ _ _ hb hL
    exact .inr ⟨b,L,arr,clock,rfl,rfl,hL,⟨st,hb,by simp [iE,hb],g3⟩,g1,aC.has _ _ _ (by rw [g1];exact bp _ _),g2⟩
  ·cases h
 ·cases h
theorem Pu {v:AV} {r:Option Nat} (h:AV.VI v=some r):v=.mp r:=by
 cases v<;>simp [AV.VI] at h
 rw [h]
theorem Om {t:TypeId} {x:Option Operand} (h:fe P G (.makeMap t x) ty e σ nid K=some r) (he:aH n ρ e a) (aC:Rel RO P ρ fp σ w) (hn:nid<σ.next) (h1:ρ nid=none):
  Goal RO P (.makeMap t x) ty a nid ρ fp σ w K r:=by
 simp only [fe] at h
 split at h
 ·rename_i kt et hu
  obtain ⟨hc,h⟩:=aD h
  obtain ⟨aR,fp',h2,h3⟩:=aO.VS (RO:=RO) (P:=P) (ob:=.map #[] 0) (x0:=.map [] [] 0) (L0:=⟨w.heap.size,0,0,0⟩) aC hn h1 (fun aR _ w'=>⟨#[],rfl,trivial,rfl,by simp,by simp⟩)
  refine ⟨_,_,h,dR.value (u:=.map (some w.heap.size)) (w':=w.alloc (.map #[] 0)) (fun o ho _=>?_) (.mp nid _ (.n _ _ h2)) (h3.mono fun b hb=>hb.2 rfl)⟩
  cases x with
  |none=>simp only [execOp,ho,Option.map_none];rfl
  |some y=>
   simp only at hc
   split at hc
   ·rename_i k m hy
    have hyu:=he.ev y
    rw [hy] at hyu
    have:=hyu.eK
    simp [execOp,ho,Instr.makeMap,run_underlying hu,this,asInt,newObj,Sem.run]
    rfl
   ·cases hc
 ·cases h
theorem Dp {r:Nat} {o:Obj}:w.putObj r o={w with heap:=w.heap.setIfInBounds r o}:=rfl
theorem Kr {t:TypeId} {m x y:Operand} (h:fe P G (.mapUpdate t m x y) ty e σ nid K=some r) (he:aH n ρ e a) (aC:Rel RO P ρ fp σ w):Goal RO P (.mapUpdate t m x y) ty a nid ρ fp σ w K r:=by
 simp only [fe] at h
 split at h
 ·rename_i kt et hu
  obtain ⟨q,hq,h⟩:=Option.bind_eq_some_iff.1 h
  obtain ⟨mo,hmo,h⟩:=Option.bind_eq_some_iff.1 h
  obtain ⟨b,hmb,h⟩:=Option.bind_eq_some_iff.1 h;rw [hmb] at hmo
  have hm:=Pu hmo
  obtain ⟨es,HZ,h⟩:=Option.bind_eq_some_iff.1 h
  obtain ⟨f,hf,h⟩:=Option.bind_eq_some_iff.1 h
  obtain ⟨hk,hx,ux⟩:=BH hq (he.ev x)
  have hmu:=he.ev m
  rw [hm] at hmu
  rcases Io aC HZ hmu with ⟨e1,_⟩ |⟨b',L,arr,clock,e1,um,hL,⟨st,hb,lP,st1,st2,st3⟩,g1,g2,g3⟩
  ·cases e1
  cases e1
  have hy:=he.ev y
  have sp:=yn es arr.toList 0 f hf g3
  have run:∀ (Fh:Array MapEntry) (V6:Nat),(Instr.mapUpdate t (.map (some L.B)) (.int q.1 q.2) (a.eval y)).run P w=.ok () (w.putObj L.B (.map Fh V6)) → ∀ o':Oper,o'.op=.mapUpdate t m x y → (execOp a.eval o').run P w=.ok .skip (w.putObj L.B (.map Fh V6)):=fun Fh V6 hr o' ho=>by
   simp [execOp,ho,um,ux,hr]
  match f,sp,h with
  |some (i,v),sp,h=>
   obtain ⟨z,z1,z2,z3,z4⟩:=sp
   rw [Nat.zero_add] at z1
   have hi:arr[i]? = some z:=by simpa using z2
   obtain ⟨fp',hp⟩:=aO.S6 (S:=fun b=>b<σ.next ∧ (aM (.mapUpdate t m x y)=true → b≠nid)) (x1:=aaj σ b (some (i,v)) es (.i q.1 q.2) (Abs.ev e y)) (ob':=.map (arr.modify i fun e=>{e with key:=.int q.1 q.2,val:=a.eval y}) clock) aC hb hL g1 (fun w'=>by
    simp only [aaj,lP,adl]
    refine ⟨_,rfl,?_,?_,st2,st3⟩
    rotate_left
    ·rw [← st1]
     apply List.ext_getElem?
     intro j
     rw [List.getElem?_map,List.getElem?_map,Array.getElem?_toList,Array.getElem?_toList,Array.getElem?_modify]
     by_cases hj:i=j
     ·subst hj
      rw [if_pos rfl,hi];rfl
     ·rw [if_neg hj]
    have:=g3.set (q:=(.i q.1 q.2,Abs.ev e y)) (x:={z with key:=.int q.1 q.2,val:=a.eval y}) (.i _ _) hy i
    have e2:(arr.modify i fun e=>{e with key:=.int q.1 q.2,val:=a.eval y}).toList=arr.toList.set i {z with key:=.int q.1 q.2,val:=a.eval y}:=by
     apply List.ext_getElem?
     intro j
     rw [Array.getElem?_toList,Array.getElem?_modify,List.getElem?_set,Array.length_toList]
     by_cases hj:i=j
     ·subst hj
      rw [if_pos rfl,if_pos rfl,hi,if_pos (Array.getElem?_eq_some_iff.1 hi).1];rfl
     ·rw [if_neg hj,if_neg hj];simp
    rw [e2];exact this)
   refine ⟨_,_,h,fun ro o' next Q ho _ Xq=>?_⟩
   have hr:=run (arr.modify i fun e=>{e with key:=.int q.1 q.2,val:=a.eval y}) clock (by
    simp only [Instr.mapUpdate,Sem.run_bind,run_underlying hu,Result.andThen_ok,MapKept.run_getObj_map g2,MapKept.run_checkKey (n:=9999) hk (show MapKept.IsKey (.int q.1) (.int q.1 q.2) from rfl),MapKept.run_findKey hk z1,hi,Option.map_some,Option.getD_some,z3]
    simp [Instr.keyThatStays,Instr.sameBits,MapKept.run_setObj_map _ g2,Dp]) o' ho
   exact kx (jY hr (.inr ⟨_,rfl⟩)) hr (Xq _ _ _ _ (.u _) hp (fun h=>by cases h))
  |none,sp,h=>
   obtain ⟨fp',hp⟩:=aO.S6 (S:=fun b=>b<σ.next ∧ (aM (.mapUpdate t m x y)=true → b≠nid)) (x1:=aaj σ b none es (.i q.1 q.2) (Abs.ev e y)) (ob':=.map (arr.push {key:=.int q.1 q.2,val:=a.eval y,born:=clock}) (clock+1)) aC hb hL g1 (fun w'=>by
    simp only [aaj,lP,adl]
    refine ⟨_,rfl,?_,?_,?_,?_⟩
    ·rw [Array.toList_push]
     exact g3.app (q:=(.i q.1 q.2,Abs.ev e y)) (x:={key:=.int q.1 q.2,val:=a.eval y,born:=clock}) (.i _ _) hy
    ·rw [Array.toList_push,List.map_append,st1];rfl
    ·intro s hs
     rcases List.mem_append.1 hs with hs |hs
     ·have:=st2 s hs;omega
     ·simp only [List.mem_singleton] at hs;omega
    ·refine List.nodup_append.2 ⟨st3,by simp,fun x hx y hy e=>?_⟩
     simp only [List.mem_singleton] at hy
     have:=st2 x hx;omega)
   refine ⟨_,_,h,fun ro o' next Q ho _ Xq=>?_⟩
   have hr:=run (arr.push {key:=.int q.1 q.2,val:=a.eval y,born:=clock}) (clock+1) (by
    simp only [Instr.mapUpdate,Sem.run_bind,run_underlying hu,Result.andThen_ok,MapKept.run_getObj_map g2,MapKept.run_checkKey (n:=9999) hk (show MapKept.IsKey (.int q.1) (.int q.1 q.2) from rfl),MapKept.run_findKey hk sp,MapKept.run_setObj_map _ g2,Dp]) o' ho
   exact kx (jY hr (.inr ⟨_,rfl⟩)) hr (Xq _ _ _ _ (.u _) hp (fun h=>by cases h))
 ·cases h
theorem cn.get {ρ:cl}:∀ {es:List (AV × AV)} {xs:List MapEntry},cn ρ es xs → ∀ {i:Nat} {q:AV × AV},es[i]? = some q → ∃ x,xs[i]? = some x ∧ aI ρ q.1 x.key ∧ aI ρ q.2 x.val
 |[],[],_,i,q,h=>by simp at h
 |_::_,x::_,⟨a,b,_⟩,0,_,h=>by simp at h;subst h;exact ⟨x,by simp,a,b⟩
 |_::_,_::_,⟨_,_,c⟩,i+1,_,h=>by simp at h;simpa using cn.get c h
 |[],_::_,h,_,_,_=>h.elim
 |_::_,[],h,_,_,_=>h.elim
theorem Tg {t:TypeId} {x:Operand} (h:fe P G (.range t x) ty e σ nid K=some r) (he:aH n ρ e a) (aC:Rel RO P ρ fp σ w) (hn:nid<σ.next) (h1:ρ nid=none):
  Goal RO P (.range t x) ty a nid ρ fp σ w K r:=by
 simp only [fe] at h
 split at h
 ·rename_i kt et hu
  obtain ⟨⟨m,st,c⟩,hq,h⟩:=Option.bind_eq_some_iff.1 h
  obtain ⟨hx,es,hm⟩:Abs.ev e x=.mp (some m) ∧ ∃ es,σ.ai m=some (.map es st c):=by
   unfold VK at hq
   split at hq
   ·rename_i m' hm'
    split at hq
    ·rename_i es Z0 c' hb
     simp only [Option.some.injEq,Prod.mk.injEq] at hq
     obtain ⟨rfl,rfl,rfl⟩:=hq
     exact ⟨hm',es,hb⟩
    ·cases hq
   ·cases hq
  ·have hv:=he.ev x
   rw [hx] at hv
   obtain ⟨L,hL,ux⟩:∃ L,ρ m=some L ∧ a.eval x=.map (some L.B):=by
    generalize a.eval x=u at hv
    cases hv with
    |mp _ L hL=>exact ⟨L,hL.tQ,rfl⟩
   obtain ⟨arr,g1,g2⟩:=aC.ai _ _ _ hm hL
   have g3:w.heap[L.B]? = some (.map arr c):=aC.has _ _ _ (by rw [g1];exact bp _ _)
   obtain ⟨aR,fp',h2,h3⟩:=aO.VS (RO:=RO) (P:=P) (ob:=.mapIter (some L.B) c #[] c) (x0:=.iter m [] st c) (L0:=⟨w.heap.size,0,0,0⟩) aC hn h1 (fun aR hle w'=>⟨rfl,L,hle.l _ _ hL,rfl⟩)
   exact ⟨_,_,h,dR.value (u:=.pointer (some ⟨w.heap.size,0,none⟩)) (w':=w.alloc (.mapIter (some L.B) c #[] c)) (fun o ho _=>by
    simp [execOp,ho,ux,run_range_map w t kt et L.B arr c hu g3]) (.p (.n nid) 0 _ (.n _ _ h2)) (h3.mono fun b hb=>hb.2 rfl)⟩
 ·cases h
theorem Th {x:Operand} (h:fe P G (.entry x) ty e σ nid K=some r) (he:aH n ρ e a) (aC:Rel RO P ρ fp σ w):Goal RO P (.entry x) ty a nid ρ fp σ w K r:=by
 simp only [fe] at h
 obtain ⟨q,hq,h⟩:=Option.bind_eq_some_iff.1 h
 unfold ahO at hq
 split at hq
 ·rename_i b hx
  split at hq
  ·rename_i m idx st c hb
   split at hq
   ·rename_i es Z0 c' hm
    obtain ⟨hc,LF⟩:=aD hq
    clear hq
    simp only [Bool.and_eq_true] at hc
    obtain rfl:Z0=st:=eq_of_beq hc.1
    obtain rfl:c'=c:=Nat.eq_of_beq_eq_true hc.2
    obtain ⟨i,hi,hq⟩:=Option.bind_eq_some_iff.1 LF
    have hv:=he.ev x
    rw [hx] at hv
    obtain ⟨L,hL,ux⟩:∃ L,ρ b=some L ∧ a.eval x=.pointer (some ⟨L.B,L.O+0,none⟩):=by
     generalize a.eval x=u at hv
     cases hv with
     |p _ _ L hL=>exact ⟨L,hL.tQ,rfl⟩
    obtain ⟨M,hM⟩:∃ M,ρ m=some M:=by
     obtain ⟨_,M,k1,_⟩:=aC.ai _ _ _ hb hL
     exact ⟨M,k1⟩
    obtain ⟨k0,M',k1,k2⟩:=aC.ai _ _ _ hb hL
    rw [hM] at k1;cases k1
    obtain ⟨arr,g1,g2,g3,g4,g5⟩:=aC.ai _ _ _ hm hM
    have Yt:w.heap[L.B]? = some (.mapIter (some M.B) c' (idx.map (Z0.getD · 0)).toArray c'):=aC.has _ _ _ (by rw [k2];exact bp _ _)
    have hw2:w.heap[M.B]? = some (.map arr c'):=aC.has _ _ _ (by rw [g1];exact bp _ _)
    obtain ⟨y,y1,y2,y3⟩:=g2.get hq
    have lP:Z0[i]? = some y.born:=by rw [← g3,List.getElem?_map,y1];rfl
    have YD:(idx.map (Z0.getD · 0)).toArray.back? = some y.born:=by
     rw [List.back?_toArray,List.getLast?_map,hi]
     simp [List.getD_eq_getElem?_getD,lP]
    have hf:arr.find? (·.born == y.born)=some y:=by
     rw [← Array.find?_toList]
     exact find_born y arr.toList (by rw [g3];exact g5) (List.mem_of_getElem? y1)
    refine ⟨_,_,h,dR.value (u:=.tuple #[y.key,y.val]) (w':=w) (fun o ho _=>?_) (.aS [_,_] [_,_] (.cons _ _ _ _ y2 (.cons _ _ _ _ y3 .nil))) (aO.refl aC)⟩
    have:(Instr.entry (.pointer (some ⟨L.B,0,none⟩))).run P w=.ok (.tuple #[y.key,y.val]) w:=by
     simp only [Instr.entry,getObj,Sem.run_bind,Sem.run,Yt,hw2,Result.andThen,YD,bne_self_eq_false,Bool.false_eq_true,if_false,hf]
     rfl
    simp [execOp,ho,ux,k0,this]
   ·cases hq
  ·cases hq
 ·cases hq
theorem V7 {t:TypeId} {v:AV} (h:zeroV P t=some v):∃ u,(zeroValue t).run P w=.ok u w ∧ ∀ ρ:cl,aI ρ v u:=by
 unfold zeroV at h
 split at h
 ·rename_i i hi
  obtain ⟨z,hz,rfl⟩:=Option.map_eq_some_iff.1 h
  exact ⟨z,by simp [zeroValue,typeInfo,hi,hz],fun ρ=>Ip z⟩
 ·cases h
theorem LN {t kt et:TypeId} (hu:P.underlying t=some (.map kt et)) {k:IntKind} {m:Int} (hk:P.underlying kt=some (.int k)) {u:Value} {arr:Array MapEntry}
  (hx:(u=.map none ∧ arr = #[]) ∨ ∃ b clock,u=.map (some b) ∧ w.heap[b]? = some (.map arr clock)) {ok:Bool} {q:Option (Nat × Value)} (hf:Instr.findNow (.int k) (.int k m) arr.toList 0=some q)
  {z:Value} {b:Bool} (hz:match q with |some (_,v)=>z=v ∧ b=true |none=>(zeroValue et).run P w=.ok z w ∧ b=false):
  (Instr.lookup t u (.int k m) ok).run P w=.ok (if ok then .tuple #[z,.bool b] else z) w:=by
 have key:MapKept.IsKey (.int k) (.int k m):=rfl
 rcases hx with ⟨rfl,rfl⟩ |⟨B,clock,rfl,hB⟩
 ·simp only [Instr.lookup,Sem.run_bind,run_underlying hu,Result.andThen_ok,Sem.run_pure,MapKept.run_checkKey (n:=9999) hk key,MapKept.run_findKey hk hf]
  cases q with
  |none=>obtain ⟨h1,rfl⟩:=hz;simp only [Sem.run_bind,h1,Result.andThen_ok,Sem.run_pure]<;>rfl
  |some p=>obtain ⟨rfl,rfl⟩:=hz;simp only [Sem.run_pure,Result.andThen_ok]<;>rfl
 ·simp only [Instr.lookup,Sem.run_bind,run_underlying hu,Result.andThen_ok,Sem.run_pure,MapKept.run_getObj_map hB,MapKept.run_checkKey (n:=9999) hk key,MapKept.run_findKey hk hf]
  cases q with
  |none=>obtain ⟨h1,rfl⟩:=hz;simp only [Sem.run_bind,h1,Result.andThen_ok,Sem.run_pure]<;>rfl
  |some p=>obtain ⟨rfl,rfl⟩:=hz;simp only [Sem.run_pure,Result.andThen_ok]<;>rfl
theorem QR {t:TypeId} {x ix:Operand} {ok:Bool} (h:fe P G (.lookup t x ix ok) ty e σ nid K=some r) (he:aH n ρ e a) (aC:Rel RO P ρ fp σ w):Goal RO P (.lookup t x ix ok) ty a nid ρ fp σ w K r:=by
 simp only [fe] at h
 split at h
 ·rename_i kt et hu
  obtain ⟨q,hq,h⟩:=Option.bind_eq_some_iff.1 h
  obtain ⟨es,HZ,h⟩:=Option.bind_eq_some_iff.1 h
  obtain ⟨f,hf,h⟩:=Option.bind_eq_some_iff.1 h
  obtain ⟨hk,hx,ux⟩:=BH hq (he.ev ix)
  obtain ⟨arr,hu2,g3⟩:∃ arr:Array MapEntry,((a.eval x=.map none ∧ arr = #[]) ∨ ∃ b clock,a.eval x=.map (some b) ∧ w.heap[b]? = some (.map arr clock)) ∧ cn ρ es arr.toList:=by
   rcases Io aC HZ (he.ev x) with ⟨_,um,rfl⟩ |⟨b',L,arr,clock,_,um,hL,_,g1,g2,g3⟩
   ·exact ⟨#[],.inl ⟨um,rfl⟩,trivial⟩
   ·exact ⟨arr,.inr ⟨_,_,um,g2⟩,g3⟩
  have sp:=yn es arr.toList 0 f hf g3
  have run:∀ (u:Value),(Instr.lookup t (a.eval x) (.int q.1 q.2) ok).run P w=.ok u w → ∀ o':Oper,o'.op=.lookup t x ix ok → (execOp a.eval o').run P w=.ok (.value u) w:=fun u hr o' ho=>by
   simp [execOp,ho,ux,hr]
  obtain ⟨zv,hzv,h⟩:=Option.bind_eq_some_iff.1 h
  have h:=wD h
  have pair:∀ (v:AV) (u:Value) (b:Bool),aI ρ v u → aI ρ (bif ok then .aS [v,.b b] else v) (if ok then .tuple #[u,.bool b] else u):=fun v u b hv=>by
   cases ok with
   |true=>exact .aS [v,.b b] [u,.bool b] (.cons _ _ _ _ hv (.cons _ _ _ _ (.b _) .nil))
   |false=>exact hv
  match f,sp,h with
  |some (i,v),sp,h=>
   obtain ⟨z,z1,z2,z3,z4⟩:=sp
   exact ⟨_,_,h,dR.value (fun o ho _=>run _ (LN hu hk hu2 z1 ⟨rfl,rfl⟩) o ho) (pair v z.val true z4) (aO.refl aC)⟩
  |none,sp,h=>
   obtain ⟨u,hu3,hv⟩:=V7 (w:=w) hzv
   exact ⟨_,_,h,dR.value (fun o ho _=>run _ (LN hu hk hu2 sp ⟨hu3,rfl⟩) o ho) (pair zv u false (hv ρ)) (aO.refl aC)⟩
 ·cases h
theorem QS {c:Call} (fB:c.callee=.builtin .delete) (h:fe P G (.call c) ty e σ nid K=some r) (he:aH n ρ e a) (aC:Rel RO P ρ fp σ w):Goal RO P (.call c) ty a nid ρ fp σ w K r:=by
 simp only [fe,fB] at h
 split at h
 ·rename_i mv x t t' hv ht
  obtain ⟨u1,u2,ha,r1,r2⟩:=LK (wz he c.args) hv
  have hts:c.argTypes = #[t,t']:=by apply Array.ext';rw [ht]
  split at h
  ·rename_i kt et hu
   obtain ⟨q,hq,h⟩:=Option.bind_eq_some_iff.1 h
   obtain ⟨mo,hmo,h⟩:=Option.bind_eq_some_iff.1 h
   obtain ⟨b,hmb,h⟩:=Option.bind_eq_some_iff.1 h;rw [hmb] at hmo
   have hm:=Pu hmo
   rw [hm] at r1
   obtain ⟨es,HZ,h⟩:=Option.bind_eq_some_iff.1 h
   obtain ⟨f,hf,h⟩:=Option.bind_eq_some_iff.1 h
   obtain ⟨hk,hx,ux⟩:=BH hq r2
   rcases Io aC HZ r1 with ⟨e1,_⟩ |⟨b',L,arr,clock,e1,um,hL,⟨st,hb,lP,st1,st2,st3⟩,g1,g2,g3⟩
   ·cases e1
   cases e1
   have sp:=yn es arr.toList 0 f hf g3
   have hZ:∀ {u:Value} {w':World},(Builtin.delete_ #[t,t'] ty #[u1,u2]).run P w=.ok u w' → ∀ o:Oper,o.op=.call c → o.type=ty → (execOp a.eval o).run P w=.ok (.value u) w':=by
    intro u w' hr o ho DE
    subst DE
    simp only [execOp,ho,resolve,fB,Sem.run_bind,Sem.run_pure,Result.andThen_ok,invoke,builtin,hts,ha,hr]
   have key:MapKept.IsKey (.int q.1) (.int q.1 q.2):=rfl
   match f,sp,h with
   |some (i,v),sp,h=>
    obtain ⟨z,z1,z2,z3,z4⟩:=sp
    rw [Nat.zero_add] at z1
    obtain ⟨fp',hp⟩:=aO.S6 (S:=fun b=>b<σ.next ∧ (aM (.call c)=true → b≠nid)) (x1:=aak σ b (some (i,v)) es) (ob':=.map (arr.eraseIdxIfInBounds i) clock) aC hb hL g1 (fun w'=>by
     simp only [aak,lP,adm]
     have hi:i<arr.size:=by have:=(List.getElem?_eq_some_iff.1 z2).1;simpa using this
     have:(arr.eraseIdxIfInBounds i).toList=arr.toList.eraseIdx i:=by
      unfold Array.eraseIdxIfInBounds
      rw [dif_pos hi,Array.toList_eraseIdx]
     refine ⟨_,rfl,by rw [this];exact g3.erase i,?_,fun s hs=>st2 s (List.mem_of_mem_eraseIdx hs),st3.sublist (List.eraseIdx_sublist _ _)⟩
     rw [this,← st1]
     exact Pt _ _ _)
    refine ⟨_,_,h,dR.value (hZ (u:=.tuple #[]) ?_) (.aS [] [] .nil) hp⟩
    rw [um,ux]
    simp [Builtin.delete_,run_underlying hu,MapKept.run_getObj_map g2,MapKept.run_checkKey (n:=9999) hk key,MapKept.run_findKey hk z1,MapKept.run_setObj_map _ g2,Dp]
   |none,sp,h=>
    obtain ⟨fp',hp⟩:=aO.S6 (S:=fun b=>b<σ.next ∧ (aM (.call c)=true → b≠nid)) (x1:=aak σ b none es) (ob':=.map arr clock) aC hb hL g1 (fun w'=>by simp only [aak,lP,adm];exact ⟨_,rfl,g3,st1,st2,st3⟩)
    refine ⟨_,_,h,dR.value (hZ (u:=.tuple #[]) ?_) (.aS [] [] .nil) hp⟩
    rw [um,ux]
    simp [Builtin.delete_,run_underlying hu,MapKept.run_getObj_map g2,MapKept.run_checkKey (n:=9999) hk key,MapKept.run_findKey hk sp,MapKept.run_setObj_map _ g2,Dp]
  ·cases h
 ·cases h
end Go.Abs
