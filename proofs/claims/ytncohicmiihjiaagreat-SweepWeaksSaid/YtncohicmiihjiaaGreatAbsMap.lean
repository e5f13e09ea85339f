/-
  AbsMap: operations upon maps whose keys are numbers.
-/
import Derived.Test.YtncohicmiihjiaaGreatAbsHeap
import Derived.MapKept
set_option linter.unusedVariables false
set_option linter.unusedSimpArgs false
set_option linter.constructorNameAsVariable false
namespace Go.Abs
open Go
variable {O:Type} {RO:O->Loc->(Nat->Option Obj)->Prop} {P:Program} {ρ:bX} {fp:Fp} {J:AH O} {w:World} {n:Nat} {e:Env} {a:Act}
 {G:List (Nat × Sm O)} {ty:TypeId} {nid:Nat} {R:Type} {K:AV->AH O->Option R} {r:R}
theorem ct.len {ρ:bX}:∀ {es:List (AV × AV)} {xs:List MapEntry},ct ρ es xs->xs.length=es.length
 |[],[],_=>rfl
 |_::es,_::xs,⟨_,_,c⟩=>by simp [ct.len c]
 |[],_::_,h=>h.elim
 |_::_,[],h=>h.elim
theorem ct.app {ρ:bX} {q:AV × AV} {x:MapEntry} (h1:aK ρ q.1 x.key) (h2:aK ρ q.2 x.val):∀ {es:List (AV × AV)} {xs:List MapEntry},ct ρ es xs->ct ρ (es++[q]) (xs++[x])
 |[],[],_=>⟨h1,h2,trivial⟩
 |_::_,_::_,⟨a,b,c⟩=>⟨a,b,ct.app h1 h2 c⟩
 |[],_::_,h=>h.elim
 |_::_,[],h=>h.elim
theorem ct.set {ρ:bX} {q:AV × AV} {x:MapEntry} (h1:aK ρ q.1 x.key) (h2:aK ρ q.2 x.val):∀ {es:List (AV × AV)} {xs:List MapEntry} (i:Nat),ct ρ es xs->ct ρ (es.set i q) (xs.set i x)
 |[],[],_,_=>trivial
 |_::_,_::_,0,⟨_,_,c⟩=>⟨h1,h2,c⟩
 |_::_,_::_,i+1,⟨a,b,c⟩=>⟨a,b,ct.set h1 h2 i c⟩
 |[],_::_,_,h=>h.elim
 |_::_,[],_,h=>h.elim
theorem ct.erase {ρ:bX}:∀ {es:List (AV × AV)} {xs:List MapEntry} (i:Nat),ct ρ es xs->ct ρ (es.eraseIdx i) (xs.eraseIdx i)
 |[],[],_,_=>trivial
 |_::_,_::_,0,⟨_,_,c⟩=>c
 |_::_,_::_,i+1,⟨a,b,c⟩=>⟨a,b,ct.erase i c⟩
 |[],_::_,_,h=>h.elim
 |_::_,[],_,h=>h.elim
theorem kI {ρ:bX} {k:IntKind} {m:Int}:∀ (es:List (AV × AV)) (xs:List MapEntry) (i:Nat) (q:Option (Nat × AV)),tM k m es=some q->ct ρ es xs->
  match q with
  |none=>Instr.findNow (.int k) (.int k m) xs i=some none
  |some (j,v)=>∃ x:MapEntry,Instr.findNow (.int k) (.int k m) xs i=some (some (i+j,x.val))/\xs[j]? = some x/\x.key=.int k m/\aK ρ v x.val
 |[],[],_,_,h,_=>by cases h;rfl
 |[],_::_,_,_,_,h=>h.elim
 |_::_,[],_,_,_,h=>h.elim
 |(key,v)::es,x::xs,i,q,h,⟨h1,h2,h3⟩=>by
  cases key
  case i k' m'=>
   simp only [tM] at h
   split at h
   ·rename_i hk
    subst hk
    have hx:=h1.dJ
    cases hb:m == m' with
    |true=>
     rw [hb] at h
     cases h
     have:m=m':=by simpa using hb
     subst this
     exact ⟨x,by simp [Instr.findNow,Instr.sameNow,hx],rfl,hx,h2⟩
    |false=>
     rw [hb] at h
     simp only [cond_false] at h
     obtain ⟨q',hq,h⟩:=Option.map_eq_some_iff.1 h
     subst h
     have ih:=kI es xs (i+1) q' hq h3
     have hs:Instr.findNow (.int k) (.int k m) (x::xs) i=Instr.findNow (.int k) (.int k m) xs (i+1):=by
      simp [Instr.findNow,Instr.sameNow,hx,hb]
     cases q' with
     |none=>simp only [Option.map_none];rw [hs];exact ih
     |some p=>
      obtain ⟨j,u⟩:=p
      obtain ⟨y,y1,y2,y3,y4⟩:=ih
      exact ⟨y,by rw [hs,y1,show i+1+j=i+(j+1) by omega],by simpa using y2,y3,y4⟩
   ·cases h
  all_goals (simp only [tM] at h;cases h)
theorem mj {kt:TypeId} {v:AV} {u:Value} {q:IntKind × Int} (h:tO P kt v=some q) (hv:aK ρ v u):P.underlying kt=some (.int q.1)/\v=.i q.1 q.2/\u=.int q.1 q.2:=by
 unfold tO at h
 split at h
 ·rename_i k k' m hu
  split at h
  ·rename_i hk
   subst hk
   cases h
   exact ⟨hu,rfl,hv.dJ⟩
  ·cases h
 ·cases h
theorem qU (aC:Rel RO P ρ fp J w) {v:AV} {u:Value} {es:List (AV × AV)} (h:tN J v=some es) (hv:aK ρ v u):
  (v=.mp none/\u=.map none/\es=[]) ∨ ∃ b L arr clock,v=.mp (some b)/\u=.map (some L.B)/\ρ b=some L/\J.aa b=some (.map es)/\fp b=one L.B (.map arr clock)/\w.heap[L.B]? = some (.map arr clock)/\ct ρ es arr.toList:=by
 unfold tN at h
 split at h
 ·cases h
  cases hv
  exact .inl ⟨rfl,rfl,rfl⟩
 ·rename_i b
  split at h
  ·rename_i vj hb
   cases h
   cases hv with
   |mp _ L hL=>
    have hL:=hL.Ac
    obtain ⟨arr,clock,g1,g2⟩:=aC.aa _ _ _ hb hL
    exact .inr ⟨b,L,arr,clock,rfl,rfl,hL,hb,g1,aC.has _ _ _ (by rw [g1];exact bO _ _),g2⟩
  ·cases h
 ·cases h
theorem wQ {v:AV} {r:Option Nat} (h:AV.Fx v=some r):v=.mp r:=by
 cases v<;>simp [AV.Fx] at h
 rw [h]
theorem vK {t:TypeId} {x:Option Operand} (h:dX P G (.makeMap t x) ty e J nid K=some r) (he:aJ n ρ e a) (aC:Rel RO P ρ fp J w) (hn:nid<J.next) (h1:ρ nid=none):
  Goal RO P (.makeMap t x) ty a nid ρ fp J w K r:=by
 simp only [dX] at h
 split at h
 ·rename_i kt et hu
  obtain ⟨hc,h⟩:=aG h
  obtain ⟨aQ,fp',h2,h3⟩:=aS.Ii (RO:=RO) (P:=P) (ob:=.map #[] 0) (x0:=.map []) (L0:=⟨w.heap.size,0,0,0⟩) aC hn h1 (fun aQ _ w'=>⟨#[],0,rfl,trivial⟩)
  refine ⟨_,_,h,ej.value (u:=.map (some w.heap.size)) (w':=w.alloc (.map #[] 0)) (fun o ho _=>?_) (.mp nid _ (.n _ _ h2)) (h3.mono fun b hb=>hb.2 rfl)⟩
  cases x with
  |none=>simp only [execOp,ho,Option.map_none];rfl
  |some y=>
   simp only at hc
   split at hc
   ·rename_i k m hy
    have hyu:=he.ev y
    rw [hy] at hyu
    have:=hyu.dJ
    simp [execOp,ho,Instr.makeMap,run_underlying hu,this,asInt,newObj,Sem.run]
    rfl
   ·cases hc
 ·cases h
theorem mY {r:Nat} {o:Obj}:w.putObj r o={w with heap:=w.heap.setIfInBounds r o}:=rfl
theorem sL {t:TypeId} {m x y:Operand} (h:dX P G (.mapUpdate t m x y) ty e J nid K=some r) (he:aJ n ρ e a) (aC:Rel RO P ρ fp J w):Goal RO P (.mapUpdate t m x y) ty a nid ρ fp J w K r:=by
 simp only [dX] at h
 split at h
 ·rename_i kt et hu
  obtain ⟨q,hq,h⟩:=Option.bind_eq_some_iff.1 h
  obtain ⟨mo,WB,h⟩:=Option.bind_eq_some_iff.1 h
  obtain ⟨b,hmb,h⟩:=Option.bind_eq_some_iff.1 h;rw [hmb] at WB
  have hm:=wQ WB
  obtain ⟨es,vA,h⟩:=Option.bind_eq_some_iff.1 h
  obtain ⟨f,hf,h⟩:=Option.bind_eq_some_iff.1 h
  obtain ⟨hk,hx,ux⟩:=mj hq (he.ev x)
  have hmu:=he.ev m
  rw [hm] at hmu
  rcases qU aC vA hmu with ⟨e1,_⟩ |⟨b',L,arr,clock,e1,um,hL,hb,g1,g2,g3⟩
  ·cases e1
  cases e1
  have hy:=he.ev y
  have sp:=kI es arr.toList 0 f hf g3
  have run:∀ (oH:Array MapEntry) (Cr:Nat),(Instr.mapUpdate t (.map (some L.B)) (.int q.1 q.2) (a.eval y)).run P w=.ok () (w.putObj L.B (.map oH Cr))->∀ o':Oper,o'.op=.mapUpdate t m x y->(execOp a.eval o').run P w=.ok .skip (w.putObj L.B (.map oH Cr)):=fun oH Cr hr o' ho=>by
   simp [execOp,ho,um,ux,hr]
  match f,sp,h with
  |some (i,v),sp,h=>
   obtain ⟨z,z1,z2,z3,z4⟩:=sp
   rw [Nat.zero_add] at z1
   have hi:arr[i]? = some z:=by simpa using z2
   obtain ⟨fp',hp⟩:=aS.ym (S:=fun b=>b<J.next/\(aM (.mapUpdate t m x y)=true->b≠nid)) (x1:=.map (es.set i (.i q.1 q.2,Abs.ev e y))) (ob':=.map (arr.modify i fun e=>{e with key:=.int q.1 q.2,val:=a.eval y}) clock) aC hb hL g1 (fun w'=>⟨_,_,rfl,by
    have:=g3.set (q:=(.i q.1 q.2,Abs.ev e y)) (x:={z with key:=.int q.1 q.2,val:=a.eval y}) (.i _ _) hy i
    have e2:(arr.modify i fun e=>{e with key:=.int q.1 q.2,val:=a.eval y}).toList=arr.toList.set i {z with key:=.int q.1 q.2,val:=a.eval y}:=by
     apply List.ext_getElem?
     intro j
     rw [Array.getElem?_toList,Array.getElem?_modify,List.getElem?_set,Array.length_toList]
     by_cases hj:i=j
     ·subst hj
      rw [if_pos rfl,if_pos rfl,hi,if_pos (Array.getElem?_eq_some_iff.1 hi).1];rfl
     ·rw [if_neg hj,if_neg hj];simp
    rw [e2];exact this⟩)
   refine ⟨_,_,h,fun ro o' next Q ho _ wR=>?_⟩
   have hr:=run (arr.modify i fun e=>{e with key:=.int q.1 q.2,val:=a.eval y}) clock (by
    simp only [Instr.mapUpdate,Sem.run_bind,run_underlying hu,Result.andThen_ok,MapKept.run_getObj_map g2,MapKept.run_checkKey (n:=9999) hk (show MapKept.IsKey (.int q.1) (.int q.1 q.2) from rfl),MapKept.run_findKey hk z1,hi,Option.map_some,Option.getD_some,z3]
    simp [Instr.keyThatStays,Instr.sameBits,MapKept.run_setObj_map _ g2,mY]) o' ho
   exact mV (pK hr (.inr ⟨_,rfl⟩)) hr (wR _ _ _ _ (.u _) hp (fun h=>by cases h))
  |none,sp,h=>
   obtain ⟨fp',hp⟩:=aS.ym (S:=fun b=>b<J.next/\(aM (.mapUpdate t m x y)=true->b≠nid)) (x1:=.map (es++[(.i q.1 q.2,Abs.ev e y)])) (ob':=.map (arr.push {key:=.int q.1 q.2,val:=a.eval y,born:=clock}) (clock+1)) aC hb hL g1 (fun w'=>⟨_,_,rfl,by
    rw [Array.toList_push]
    exact g3.app (q:=(.i q.1 q.2,Abs.ev e y)) (x:={key:=.int q.1 q.2,val:=a.eval y,born:=clock}) (.i _ _) hy⟩)
   refine ⟨_,_,h,fun ro o' next Q ho _ wR=>?_⟩
   have hr:=run (arr.push {key:=.int q.1 q.2,val:=a.eval y,born:=clock}) (clock+1) (by
    simp only [Instr.mapUpdate,Sem.run_bind,run_underlying hu,Result.andThen_ok,MapKept.run_getObj_map g2,MapKept.run_checkKey (n:=9999) hk (show MapKept.IsKey (.int q.1) (.int q.1 q.2) from rfl),MapKept.run_findKey hk sp,MapKept.run_setObj_map _ g2,mY]) o' ho
   exact mV (pK hr (.inr ⟨_,rfl⟩)) hr (wR _ _ _ _ (.u _) hp (fun h=>by cases h))
 ·cases h
theorem Cs {t:TypeId} {v:AV} (h:zeroV P t=some v):∃ u,(zeroValue t).run P w=.ok u w/\∀ ρ:bX,aK ρ v u:=by
 unfold zeroV at h
 split at h
 ·rename_i i hi
  obtain ⟨z,hz,rfl⟩:=Option.map_eq_some_iff.1 h
  exact ⟨z,by simp [zeroValue,typeInfo,hi,hz],fun ρ=>qV z⟩
 ·cases h
theorem uj {t kt et:TypeId} (hu:P.underlying t=some (.map kt et)) {k:IntKind} {m:Int} (hk:P.underlying kt=some (.int k)) {u:Value} {arr:Array MapEntry}
  (hx:(u=.map none/\arr = #[]) ∨ ∃ b clock,u=.map (some b)/\w.heap[b]? = some (.map arr clock)) {ok:Bool} {q:Option (Nat × Value)} (hf:Instr.findNow (.int k) (.int k m) arr.toList 0=some q)
  {z:Value} {b:Bool} (hz:match q with |some (_,v)=>z=v/\b=true |none=>(zeroValue et).run P w=.ok z w/\b=false):
  (Instr.lookup t u (.int k m) ok).run P w=.ok (if ok then .tuple #[z,.bool b] else z) w:=by
 have key:MapKept.IsKey (.int k) (.int k m):=rfl
 rcases hx with ⟨rfl,rfl⟩ |⟨B,clock,rfl,hB⟩
 ·simp only [Instr.lookup,Sem.run_bind,run_underlying hu,Result.andThen_ok,Sem.run_pure,MapKept.run_checkKey (n:=9999) hk key,MapKept.run_findKey hk hf]
  cases q with
  |none=>obtain ⟨h1,rfl⟩:=hz;simp only [Sem.run_bind,h1,Result.andThen_ok,Sem.run_pure]<;>rfl
  |some p=>obtain ⟨rfl,rfl⟩:=hz;simp only [Sem.run_pure,Result.andThen_ok]<;>rfl
 ·simp only [Instr.lookup,Sem.run_bind,run_underlying hu,Result.andThen_ok,Sem.run_pure,MapKept.run_getObj_map hB,MapKept.run_checkKey (n:=9999) hk key,MapKept.run_findKey hk hf]
  cases q with
  |none=>obtain ⟨h1,rfl⟩:=hz;simp only [Sem.run_bind,h1,Result.andThen_ok,Sem.run_pure]<;>rfl
  |some p=>obtain ⟨rfl,rfl⟩:=hz;simp only [Sem.run_pure,Result.andThen_ok]<;>rfl
theorem yu {t:TypeId} {x ix:Operand} {ok:Bool} (h:dX P G (.lookup t x ix ok) ty e J nid K=some r) (he:aJ n ρ e a) (aC:Rel RO P ρ fp J w):Goal RO P (.lookup t x ix ok) ty a nid ρ fp J w K r:=by
 simp only [dX] at h
 split at h
 ·rename_i kt et hu
  obtain ⟨q,hq,h⟩:=Option.bind_eq_some_iff.1 h
  obtain ⟨es,vA,h⟩:=Option.bind_eq_some_iff.1 h
  obtain ⟨f,hf,h⟩:=Option.bind_eq_some_iff.1 h
  obtain ⟨hk,hx,ux⟩:=mj hq (he.ev ix)
  obtain ⟨arr,UA,g3⟩:∃ arr:Array MapEntry,((a.eval x=.map none/\arr = #[]) ∨ ∃ b clock,a.eval x=.map (some b)/\w.heap[b]? = some (.map arr clock))/\ct ρ es arr.toList:=by
   rcases qU aC vA (he.ev x) with ⟨_,um,rfl⟩ |⟨b',L,arr,clock,_,um,hL,hb,g1,g2,g3⟩
   ·exact ⟨#[],.inl ⟨um,rfl⟩,trivial⟩
   ·exact ⟨arr,.inr ⟨_,_,um,g2⟩,g3⟩
  have sp:=kI es arr.toList 0 f hf g3
  have run:∀ (u:Value),(Instr.lookup t (a.eval x) (.int q.1 q.2) ok).run P w=.ok u w->∀ o':Oper,o'.op=.lookup t x ix ok->(execOp a.eval o').run P w=.ok (.value u) w:=fun u hr o' ho=>by
   simp [execOp,ho,ux,hr]
  obtain ⟨zv,hzv,h⟩:=Option.bind_eq_some_iff.1 h
  have h:=j9 h
  have pair:∀ (v:AV) (u:Value) (b:Bool),aK ρ v u->aK ρ (bif ok then .aB [v,.b b] else v) (if ok then .tuple #[u,.bool b] else u):=fun v u b hv=>by
   cases ok with
   |true=>exact .aB [v,.b b] [u,.bool b] (.cons _ _ _ _ hv (.cons _ _ _ _ (.b _) .nil))
   |false=>exact hv
  match f,sp,h with
  |some (i,v),sp,h=>
   obtain ⟨z,z1,z2,z3,z4⟩:=sp
   exact ⟨_,_,h,ej.value (fun o ho _=>run _ (uj hu hk UA z1 ⟨rfl,rfl⟩) o ho) (pair v z.val true z4) (aS.refl aC)⟩
  |none,sp,h=>
   obtain ⟨u,hu3,hv⟩:=Cs (w:=w) hzv
   exact ⟨_,_,h,ej.value (fun o ho _=>run _ (uj hu hk UA sp ⟨hu3,rfl⟩) o ho) (pair zv u false (hv ρ)) (aS.refl aC)⟩
 ·cases h
theorem yv {c:Call} (dU:c.callee=.builtin .delete) (h:dX P G (.call c) ty e J nid K=some r) (he:aJ n ρ e a) (aC:Rel RO P ρ fp J w):Goal RO P (.call c) ty a nid ρ fp J w K r:=by
 simp only [dX,dU] at h
 split at h
 ·rename_i mv x t t' hv ht
  obtain ⟨u1,u2,ha,r1,r2⟩:=ue (j8 he c.args) hv
  have MP:c.argTypes = #[t,t']:=by apply Array.ext';rw [ht]
  split at h
  ·rename_i kt et hu
   obtain ⟨q,hq,h⟩:=Option.bind_eq_some_iff.1 h
   obtain ⟨mo,WB,h⟩:=Option.bind_eq_some_iff.1 h
   obtain ⟨b,hmb,h⟩:=Option.bind_eq_some_iff.1 h;rw [hmb] at WB
   have hm:=wQ WB
   rw [hm] at r1
   obtain ⟨es,vA,h⟩:=Option.bind_eq_some_iff.1 h
   obtain ⟨f,hf,h⟩:=Option.bind_eq_some_iff.1 h
   obtain ⟨hk,hx,ux⟩:=mj hq r2
   rcases qU aC vA r1 with ⟨e1,_⟩ |⟨b',L,arr,clock,e1,um,hL,hb,g1,g2,g3⟩
   ·cases e1
   cases e1
   have sp:=kI es arr.toList 0 f hf g3
   have fT:∀ {u:Value} {w':World},(Builtin.delete_ #[t,t'] ty #[u1,u2]).run P w=.ok u w'->∀ o:Oper,o.op=.call c->o.type=ty->(execOp a.eval o).run P w=.ok (.value u) w':=by
    intro u w' hr o ho nP
    subst nP
    simp only [execOp,ho,resolve,dU,Sem.run_bind,Sem.run_pure,Result.andThen_ok,invoke,builtin,MP,ha,hr]
   have key:MapKept.IsKey (.int q.1) (.int q.1 q.2):=rfl
   match f,sp,h with
   |some (i,v),sp,h=>
    obtain ⟨z,z1,z2,z3,z4⟩:=sp
    rw [Nat.zero_add] at z1
    obtain ⟨fp',hp⟩:=aS.ym (S:=fun b=>b<J.next/\(aM (.call c)=true->b≠nid)) (x1:=.map (es.eraseIdx i)) (ob':=.map (arr.eraseIdxIfInBounds i) clock) aC hb hL g1 (fun w'=>⟨_,_,rfl,by
     have hi:i<arr.size:=by have:=(List.getElem?_eq_some_iff.1 z2).1;simpa using this
     have:(arr.eraseIdxIfInBounds i).toList=arr.toList.eraseIdx i:=by
      unfold Array.eraseIdxIfInBounds
      rw [dif_pos hi,Array.toList_eraseIdx]
     rw [this];exact g3.erase i⟩)
    refine ⟨_,_,h,ej.value (fT (u:=.tuple #[]) ?_) (.aB [] [] .nil) hp⟩
    rw [um,ux]
    simp [Builtin.delete_,run_underlying hu,MapKept.run_getObj_map g2,MapKept.run_checkKey (n:=9999) hk key,MapKept.run_findKey hk z1,MapKept.run_setObj_map _ g2,mY]
   |none,sp,h=>
    obtain ⟨fp',hp⟩:=aS.ym (S:=fun b=>b<J.next/\(aM (.call c)=true->b≠nid)) (x1:=.map es) (ob':=.map arr clock) aC hb hL g1 (fun w'=>⟨_,_,rfl,g3⟩)
    refine ⟨_,_,h,ej.value (fT (u:=.tuple #[]) ?_) (.aB [] [] .nil) hp⟩
    rw [um,ux]
    simp [Builtin.delete_,run_underlying hu,MapKept.run_getObj_map g2,MapKept.run_checkKey (n:=9999) hk key,MapKept.run_findKey hk sp,MapKept.run_setObj_map _ g2,mY]
  ·cases h
 ·cases h
end Go.Abs
