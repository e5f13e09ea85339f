/-
  AbsIter: a loop over a map.
-/
import Derived.Test.YtlgnboohmahbaaaGreatDoorAbsExec0
set_option linter.unusedVariables false
set_option linter.unusedSimpArgs false
set_option linter.constructorNameAsVariable false
namespace Go.Abs
open Go
variable {O:Type} {RO:O → Loc → (Nat → Option Obj) → Prop} {P:Program} {G:List (Nat × Sm O)} {n:Nat}
section
variable {S:Type} {f:Nat → List Nat → S → Option S}
theorem Il:∀ (p q d:List Nat) (s:S),zE f (p++q) d s=(zE f p d s).bind (zE f q (d++p))
 |[],q,d,s=>by simp [zE]
 |i::p,q,d,s=>by
  simp only [List.cons_append,zE]
  cases f i d s with
  |none=>rfl
  |some s'=>simp only [Option.bind_some];rw [Il p q (d++[i]) s'];simp [List.append_assoc]
theorem VZ {n:Nat} (h:n ≤ 1) {p:List Nat} (hp:p.Perm (List.range n)):p=List.range n:=by
 match n,h with
 |0,_=>simpa using hp
 |1,_=>exact List.perm_singleton.1 hp
theorem ym {n:Nat} {s t:S} (h:Dj f n s=some t):∀ p:List Nat,p.Perm (List.range n) → zE f p [] s=some t:=by
 intro p hp
 unfold Dj at h
 cases hb:Nat.ble n 1 with
 |true=>
  rw [hb] at h
  rw [VZ (Nat.le_of_ble_eq_true hb) hp]
  exact h
 |false=>
  rw [hb] at h
  simp only [cond_false] at h
  split at h
  ·rename_i hh
   cases h
   exact Classical.choose_spec hh p hp
  ·cases h
def V0 (n:Nat) (d:List Nat):List Nat:=(List.range n).filter fun i => !d.elem i
theorem JE {n:Nat} {d:List Nat} (hd:d.Nodup) (hn:∀ i∈d,i<n):(d++V0 n d).Perm (List.range n):=by
 refine (List.perm_ext_iff_of_nodup ?_ List.nodup_range).2 fun i=>?_
 ·refine List.nodup_append.2 ⟨hd,List.nodup_range.filter _,fun a ha b hb e=>?_⟩
  subst e
  simp [V0] at hb
  exact hb.2 ha
 ·simp only [List.mem_append,V0,List.mem_filter,List.mem_range]
  constructor
  ·rintro (h |h)
   ·exact hn i h
   ·exact h.1
  ·intro h
   by_cases hi:i∈d
   ·exact .inl hi
   ·exact .inr ⟨h,by simpa using hi⟩
theorem Ti {n:Nat} {s t:S} (h:Dj f n s=some t) {d:List Nat} (hd:d.Nodup) (hn:∀ i∈d,i<n):∃ s',zE f d [] s=some s':=by
 have:=ym h _ (JE hd hn)
 rw [Il] at this
 obtain ⟨s',h1,_⟩:=Option.bind_eq_some_iff.1 this
 exact ⟨s',h1⟩
end
theorem Tj {w:World} {r bm c:Nat} {seen:Array Nat} {arr:Array MapEntry} (ty:TypeId) (hr:w.heap[r]? = some (.mapIter (some bm) c seen c)) (hm:w.heap[bm]? = some (.map arr c)) (hold:∀ x∈arr.toList,x.born<c):
  ((∀ x∈arr.toList,x.born∈seen.toList) ∧ (Instr.next (.pointer (some ⟨r,0,none⟩)) false ty).run P w=.ok (.tuple #[.bool false]) w) ∨
  ∃ (i:Nat) (x:MapEntry),arr[i]? = some x ∧ x.born∉seen.toList ∧ ∃ w1:World,(w1=w ∨ w1=w.drew) ∧ (Instr.next (.pointer (some ⟨r,0,none⟩)) false ty).run P w=.ok (.tuple #[.bool true,x.key,x.val]) (w1.putObj r (.mapIter (some bm) c (seen.push x.born) c)):=by
 have bS:r<w.heap.size:=(Array.getElem?_eq_some_iff.1 hr).1
 simp only [Instr.next,getObj,Sem.run_bind,Sem.run,hr,hm,Result.andThen,next_test_false seen arr c c hold (Nat.le_refl _),Bool.false_eq_true,if_false]
 have VT:∀ x∈(Array.filter (fun e => !seen.contains e.born) arr).toList,x∈arr.toList ∧ x.born∉seen.toList:=fun x hx=>by
  simp at hx ⊢;exact hx
 have hall:Array.filter (fun e => !seen.contains e.born) arr = #[] → ∀ x∈arr.toList,x.born∈seen.toList:=fun h x hx=>by
  rw [Array.filter_eq_empty_iff] at h
  have:=h x (by simpa using hx)
  simpa using this
 generalize Array.filter (fun e => !seen.contains e.born) arr=L at VT hall ⊢
 have e1:L.filter (fun x=>decide (x.born<c))=L:=Array.filter_eq_self.2 (fun x hx=>by simpa using hold x (VT x (by simpa using hx)).1)
 have e2:L.filter (fun x=>decide (x.born ≥ c)) = #[]:=by
  rw [Array.filter_eq_empty_iff]
  intro x hx
  have:=hold x (VT x (by simpa using hx)).1
  simp;omega
 simp only [e1,e2,Array.append_empty]
 by_cases h0:L.size=0
 ·left
  have:L = #[]:=Array.eq_empty_of_size_eq_zero h0
  subst this
  refine ⟨hall rfl,?_⟩
  simp [choose,Sem.run,Question.forced]
 ·right
  have jL:L.isEmpty=false:=by simp [Array.isEmpty,h0]
  simp only [jL,Bool.false_eq_true,if_false,Array.empty_append,Array.size_map]
  have hch:∃ (j:Nat) (w1:World),j<L.size ∧ (w1=w ∨ w1=w.drew) ∧ (choose (Question.mapNext L.size)).run P w=.ok j w1:=by
   by_cases hf:L.size ≤ 1
   ·exact ⟨0,w,by omega,.inl rfl,by simp [choose,Sem.run,Question.forced,hf]⟩
   ·exact ⟨_,w.drew,Nat.mod_lt _ (by omega),.inr rfl,by
     simp only [choose,Sem.run,Question.forced,decide_eq_true_eq,hf,if_false,Question.cut]
     rfl⟩
  obtain ⟨j,w1,hj,tM,fy⟩:=hch
  have hLj:L[j]∈L.toList:=by simp
  obtain ⟨i,hi⟩:=List.getElem?_of_mem (VT _ hLj).1
  refine ⟨i,L[j],by simpa using hi,(VT _ hLj).2,w1,tM,?_⟩
  have Z4:w1.heap[r]? = some (.mapIter (some bm) c seen c):=by rcases tM with rfl |rfl<;>exact hr
  have apD:∀ (o':Obj),(∃ a b s d,o'=.mapIter a b s d) → (setObj r o').run P w1=.ok () (w1.putObj r o'):=fun o' ho=>by
   obtain ⟨_,_,_,_,rfl⟩:=ho
   simp only [setObj,Sem.run,Z4]
   rfl
  simp only [fy,Array.getElem?_map,Array.getElem?_eq_getElem hj,Option.map_some,Sem.run_bind,apD _ ⟨_,_,_,_,rfl⟩,Result.andThen]
  rfl
theorem AH.Xo {σ:AH O} {b:Nat} {x y:oM O}:(σ.put b x).put b y=σ.put b y:=by
 simp only [AH.put,AH.mk.injEq,and_true]
 funext q
 cases Nat.beq q b<;>rfl
theorem AH.S3 {σ:AH O} {b:Nat} {x:oM O} (h:σ.ai b=some x):σ.put b x=σ:=by
 have:(fun q=>bif Nat.beq q b then some x else σ.ai q)=σ.ai:=by
  funext q
  cases hb:Nat.beq q b with
  |true=>rw [Nat.eq_of_beq_eq_true hb,h];rfl
  |false=>rfl
 show (⟨_,σ.next⟩:AH O)=σ
 rw [this]
theorem AH.Tk {σ:AH O} {b:Nat} {x:oM O}:(σ.put b x).kill b=σ.kill b:=by
 simp only [AH.put,AH.kill,AH.mk.injEq,and_true]
 funext q
 cases Nat.beq q b<;>rfl
theorem Pr {l:List Nat} (h:l.Nodup) {i j:Nat} (hi:i<l.length) (hj:j<l.length) (e:l[i]=l[j]):i=j:=by
 have hp:=List.pairwise_iff_getElem.1 h
 rcases Nat.lt_trichotomy i j with k |k |k
 ·exact absurd e (hp i j hi hj k)
 ·exact k
 ·exact absurd e.symm (hp j i hj hi k)
theorem AH.V3 {σ:AH O} {b q:Nat} {x:oM O} (h:q≠b):(σ.put b x).ai q=σ.ai q:=by
 show (bif Nat.beq q b then some x else σ.ai q)=_
 cases hb:Nat.beq q b with
 |true=>exact absurd (Nat.eq_of_beq_eq_true hb) h
 |false=>rfl
theorem Pm {ops:List Oper} {d:Bool} {mo:Operand} {ca cb:Code} {it tn tm out:Nat} (h:adn ops d mo ca cb=some (it,tn,tm,out)):
  d=false ∧ ∃ o1 o2:Oper,ops=[o1,o2] ∧ mo=.tmp tm ∧ ca=.skip ∧ cb=.exit out ∧ o1.op=.next (.tmp it) false ∧ o1.dst=some tn ∧ o1.guard=none ∧ o2.op=.extract (.tmp tn) 0 ∧ o2.dst=some tm ∧ o2.guard=none ∧ tn≠tm:=by
 unfold adn at h
 split at h
 ·rename_i o1 o2 q auU
  split at h
  ·rename_i h1 h2 h3 h4 h5 h6
   obtain ⟨hc,h⟩:=aD h
   simp only [Bool.and_eq_true,Bool.not_eq_true'] at hc
   simp only [Option.some.injEq,Prod.mk.injEq] at h
   obtain ⟨rfl,rfl,rfl,rfl⟩:=h
   have k1:=Nat.eq_of_beq_eq_true hc.1.1
   have k2:=Nat.eq_of_beq_eq_true hc.1.2
   subst k1 k2
   exact ⟨rfl,o1,o2,rfl,rfl,rfl,rfl,h1,h2,h3,h4,h5,h6,fun e=>by rw [e] at hc;simp at hc⟩
  ·cases h
 ·cases h
theorem Ig {σ:AH O} {b m c:Nat} {idx st:List Nat} {u:Unit} (h:VL σ b m idx st c=some u):σ.ai b=some (.iter m idx st c) ∧ ∃ es,σ.ai m=some (.map es st c):=by
 unfold VL at h
 split at h
 ·rename_i m' akE Z0 c' hb
  split at h
  ·rename_i es akF c'' hm
   obtain ⟨hc,_⟩:=aD h
   simp only [Bool.and_eq_true] at hc
   have h1:=Nat.eq_of_beq_eq_true hc.1.1.1.1.1
   have h2:=eq_of_beq hc.1.1.1.1.2
   have h3:=eq_of_beq hc.1.1.1.2
   have h4:=Nat.eq_of_beq_eq_true hc.1.1.2
   have h5:=eq_of_beq hc.1.2
   have h6:=Nat.eq_of_beq_eq_true hc.2
   subst h1 h2 h3 h4 h5 h6
   exact ⟨hb,es,hm⟩
  ·cases h
 ·cases h
theorem Ys {ro:Option Nat} {SQ:Nat} {ops:Array Oper} {mo:Operand} {ca cb body:Code} {it tn tm out:Nat} (hlm:adn ops.toList false mo ca cb=some (it,tn,tm,out))
  (hd:rK n (.seq (.region SQ ops false) (.seq (.cond mo ca cb) body))=true) (hit:it∉aF (.seq (.region SQ ops false) (.seq (.cond mo ca cb) body)))
  {e:Env} {σ:AH O} {b m c:Nat} {st:List Nat} (heb:e it=.p (some (.n b,0))) (hbm:b≠m)
  {f:Nat → List Nat → List AV × AH O → Option (List AV × AH O)} {head:List (Nat × Ty)}
  (
   Po:∀ (i:Nat) (dn:List Nat) (Vh:AH O) (S':List AV × AH O) (e1:Env),f i dn (ei head e1,Vh)=some S' → ∃ (e' e2:Env) (aP:AH O),(∀ t,e' t=e1 t ∨ e' t=.u ∨ (t∉aF (.seq (.region SQ ops false) (.seq (.cond mo ca cb) body)) ∧ e' t=e t)) ∧
   BE RO P n ro body (Vh.put b (.iter m (dn++[i]) st c)) ((e'.set tn .u).set tm (.b true)) .norm e2 aP ∧ VL aP b m (dn++[i]) st c=some () ∧ S'=(ei head e2,aP.put b (.iter m [] st c)))
  (aau:∀ s∈head,s.1≠tn ∧ s.1≠tm) {t:List AV × AH O} (ht:Dj f st.length (ei head e,σ)=some t)
  {yc:cl} {fp0:Fp} {a0:Act} {w0:World} (he0:aH n yc e a0) {L:Loc} (hL:yc b=some L)
  {Q:Exit → Act → World → Prop} (hQ:∀ a' w' aR fp' e1,ei head e1=t.1 → aH n aR e1 a' → (∀ B0,Marks B0 fp0 w0 a0.defers → Marks B0 fp' w' a'.defers) → (∀ t,t∉aF (.seq (.region SQ ops false) (.seq (.cond mo ca cb) body)) → a'.tmps.getD t undef=a0.tmps.getD t undef) →
   aO RO P (· < σ.next) yc fp0 σ w0 aR fp' (t.2.kill b) w' → Q (.exit out) a' w'):
  ∀ (rem:Nat) (dn:List Nat),dn.Nodup → (∀ i∈dn,i<st.length) → rem+dn.length=st.length →
   ∀ (Vh:AH O) (e1:Env),zE f dn [] (ei head e,σ)=some (ei head e1,Vh) → (∃ es,Vh.ai m=some (.map es st c)) →
   ∀ (ρ:cl) (fp:Fp) (a:Act) (w:World),aH n ρ e1 a → (∀ B0,Marks B0 fp0 w0 a0.defers → Marks B0 fp w a.defers) → (∀ t,t∉aF (.seq (.region SQ ops false) (.seq (.cond mo ca cb) body)) → a.tmps.getD t undef=a0.tmps.getD t undef) →
   aO RO P (· < σ.next) yc fp0 σ w0 ρ fp (Vh.put b (.iter m dn st c)) w → Code.roundsIn (Fw ro) 0 P (.seq (.region SQ ops false) (.seq (.cond mo ca cb) body)) Q (rem+1) a w:=by
 obtain ⟨-,o1,o2,eo,rfl,rfl,rfl,p1,p2,p3,q1,q2,q3,jL⟩:=Pm hlm
 have ak3:ops = #[o1,o2]:=by apply Array.ext';rw [eo]
 have htn:tn<n:=tO hd tn (by simp [aF,dstsOf,eo,p2])
 have htm:tm<n:=tO hd tm (by simp [aF,dstsOf,eo,q2])
 have hwn:∀ q,q∉aF (.seq (.region SQ ops false) (.seq (.cond (.tmp tm) .skip (.exit out)) body)) → q≠tn ∧ q≠tm:=fun q hq=>by
  constructor
  ·intro e;exact hq (by simp [aF,dstsOf,eo,p2,e])
  ·intro e;exact hq (by simp [aF,dstsOf,eo,q2,e])
 have hwb:∀ q,q∉aF (.seq (.region SQ ops false) (.seq (.cond (.tmp tm) .skip (.exit out)) body)) → q∉aF body:=fun q hq h=>hq (by simp [aF,h])
 have agY:∀ (e1:Env) (u v:AV),ei head ((e1.put (some tn) u).put (some tm) v)=ei head e1:=fun e1 u v=>List.map_congr_left fun q hq=>by
  obtain ⟨h1,h2⟩:=aau q hq
  simp only [Env.put,Env.tN,if_neg h1,if_neg h2]
 have V4:∀ (a:Act) (u v:Value) (q:Nat),q∉aF (.seq (.region SQ ops false) (.seq (.cond (.tmp tm) .skip (.exit out)) body)) → ((a.put (some tn) u).put (some tm) v).tmps.getD q undef=a.tmps.getD q undef:=fun a u v q hq=>by
  rw [wv (fun d xZ=>by cases xZ;exact (hwn q hq).2),wv (fun d xZ=>by cases xZ;exact (hwn q hq).1)]
 intro rem
 induction rem with
 |zero=>
  intro dn hnd bS hlen Vh e1 Ps aaC ρ fp a w he Xm tP lR
  have Kn:(Vh.put b (.iter m dn st c)).ai b=some (.iter m dn st c):=by simp [AH.put]
  have hLb:ρ b=some L:=lR.le.l _ _ hL
  obtain ⟨hO,M,hM,Tl⟩:=lR.rel.ai _ _ _ Kn hLb
  obtain ⟨es,HZ⟩:=aaC
  have aaD:(Vh.put b (.iter m dn st c)).ai m=some (.map es st c):=by rw [AH.V3 (Ne.symm hbm)];exact HZ
  obtain ⟨arr,g1,g2,g3,g4,g5⟩:=lR.rel.ai _ _ _ aaD hM
  have Yt:=lR.rel.has b L.B _ (by rw [Tl];exact bp _ _)
  have hw2:=lR.rel.has m M.B _ (by rw [g1];exact bp _ _)
  have hev:a.eval (.tmp it)=.pointer (some ⟨L.B,0,none⟩):=by
   have h1:=he0.get it
   rw [heb] at h1
   have h2:a.tmps.getD it undef=a0.tmps.getD it undef:=tP it hit
   show a.tmps.getD it undef=_
   rw [h2]
   generalize a0.tmps.getD it undef=u at h1
   cases h1 with
   |p _ _ L' SD=>have:=SD.tQ;rw [hL] at this;cases this;rw [hO]
  have lP:∀ (i:Nat) (x:MapEntry),arr[i]? = some x → st[i]? = some x.born:=fun i x hx=>by rw [← g3,List.getElem?_map,Array.getElem?_toList,hx];rfl
  have qX:arr.size=st.length:=by rw [← g3];simp
  rw [roundsIn_succ]
  refine wpIn_seq (wpIn_region ?_)
  subst ak3
  simp only [List.size_toArray,List.length_cons,List.length_nil,Nat.reduceAdd,List.range,List.range.loop,wpOpsIn,List.getElem?_toArray,List.getElem?_cons_zero,List.getElem?_cons_succ,Region.wanted,p3,q3,if_true]
  have YG:∀ (u:Value) (more:Bool) (us:List Value),u=.tuple (Value.bool more::us).toArray → ∀ w':World,(execOp (a.put (some tn) u).eval o2).run P w'=.ok (.value (.bool more)) w':=fun u more us hu w'=>by
   have ev2:(a.put (some tn) u).eval (.tmp tn)=u:=by
    show (a.tmps.setIfInBounds tn u).getD tn undef=u
    simp [Array.getD,show tn<a.tmps.size by rw [he.size];exact htn]
   have hx:(Instr.extract u 0).run P w'=.ok (.bool more) w':=by subst hu;rfl
   simp [execOp,q1,ev2,hx]
  have Xp:∀ (u:Value) (more:Bool),((a.put (some tn) u).put (some tm) (.bool more)).eval (.tmp tm)=.bool more:=fun u more=>by
   show ((a.tmps.setIfInBounds tn u).setIfInBounds tm (.bool more)).getD tm undef=_
   simp [Array.getD,show tm<a.tmps.size by rw [he.size];exact htm]
  rcases Tj (P:=P) o1.type Yt hw2 (fun x hx=>g4 x.born (by rw [← g3];exact List.mem_map.2 ⟨x,hx,rfl⟩)) with ⟨hall,fy⟩ |⟨i,x,hix,Ij,w1,ak6,fy⟩
  ·
   have Z4:(execOp a.eval o1).run P w=.ok (.value (.tuple #[.bool false])) w:=by simp [execOp,p1,hev,fy]
   refine kx (jY Z4 (.inl ⟨_,_,rfl⟩)) Z4 ?_
   rw [Oper.uponIn_value,p2]
   have hr2:=YG (.tuple #[.bool false]) false [] rfl w
   refine kx (jY hr2 (.inl ⟨_,_,rfl⟩)) hr2 ?_
   rw [Oper.uponIn_value,q2]
   refine wpIn_seq (wpIn_cond_false (Xp _ false) (wpIn_exit ?_))
   have aaE:dn.Perm (List.range st.length):=by
    refine (List.perm_ext_iff_of_nodup hnd List.nodup_range).2 fun i=>?_
    simp only [List.mem_range]
    refine ⟨bS i,fun hi=>?_⟩
    have hx:arr[i]? = some arr[i]:=by rw [Array.getElem?_eq_getElem (by omega)]
    have h1:=hall _ (show arr[i]∈arr.toList by simp)
    simp only [List.mem_map] at h1
    obtain ⟨j,hj,hj2⟩:=h1
    have h2:=lP i _ hx
    have hjl:=bS j hj
    rw [List.getD_eq_getElem?_getD,List.getElem?_eq_getElem hjl] at hj2
    simp only [Option.getD_some] at hj2
    have h3:=(List.getElem?_eq_some_iff.1 h2).2
    have h4:i=j:=Pr g5 hi hjl (h3.trans hj2.symm)
    rw [h4];exact hj
   have V5:=ym ht dn aaE
   rw [Ps] at V5
   cases V5
   obtain ⟨SC,hk⟩:=aO.kill (S:=(· < σ.next)) lR.rel b
   rw [AH.Tk] at hk
   refine hQ _ _ ρ SC ((e1.put (some tn) .u).put (some tm) .u) (agY e1 _ _) ?_ ?_ (fun q hq=>(V4 a _ _ q hq).trans (tP q hq)) (lR.trans hk)
   ·exact (he.put (fun d xZ=>by cases xZ;exact htn) (.u _)).put (fun d xZ=>by cases xZ;exact htm) (.u _)
   ·exact fun B0 hB=>(Xm B0 hB).post hk
  ·
   have ah7:i<st.length:=by have:=(Array.getElem?_eq_some_iff.1 hix).1;omega
   have ah8:i∉dn:=fun h=>Ij (by
    have h2:=lP i x hix
    simp only [List.mem_map]
    exact ⟨i,h,by rw [List.getD_eq_getElem?_getD,h2];rfl⟩)
   have adC:(dn++[i]).Nodup:=List.nodup_append.2 ⟨hnd,by simp,fun a ha b hb e=>by simp at hb;subst hb;subst e;exact ah8 ha⟩
   have YI:∀ j∈dn++[i],j<st.length:=fun j hj=>by
    rcases List.mem_append.1 hj with h |h
    ·exact bS j h
    ·simp at h;subst h;exact ah7
   have:=(JE adC YI).length_eq
   simp at this
   omega
 |succ rem ih=>
  intro dn hnd bS hlen Vh e1 Ps aaC ρ fp a w he Xm tP lR
  have Kn:(Vh.put b (.iter m dn st c)).ai b=some (.iter m dn st c):=by simp [AH.put]
  have hLb:ρ b=some L:=lR.le.l _ _ hL
  obtain ⟨hO,M,hM,Tl⟩:=lR.rel.ai _ _ _ Kn hLb
  obtain ⟨es,HZ⟩:=aaC
  have aaD:(Vh.put b (.iter m dn st c)).ai m=some (.map es st c):=by rw [AH.V3 (Ne.symm hbm)];exact HZ
  obtain ⟨arr,g1,g2,g3,g4,g5⟩:=lR.rel.ai _ _ _ aaD hM
  have Yt:=lR.rel.has b L.B _ (by rw [Tl];exact bp _ _)
  have hw2:=lR.rel.has m M.B _ (by rw [g1];exact bp _ _)
  have hev:a.eval (.tmp it)=.pointer (some ⟨L.B,0,none⟩):=by
   have h1:=he0.get it
   rw [heb] at h1
   have h2:a.tmps.getD it undef=a0.tmps.getD it undef:=tP it hit
   show a.tmps.getD it undef=_
   rw [h2]
   generalize a0.tmps.getD it undef=u at h1
   cases h1 with
   |p _ _ L' SD=>have:=SD.tQ;rw [hL] at this;cases this;rw [hO]
  have lP:∀ (i:Nat) (x:MapEntry),arr[i]? = some x → st[i]? = some x.born:=fun i x hx=>by rw [← g3,List.getElem?_map,Array.getElem?_toList,hx];rfl
  have qX:arr.size=st.length:=by rw [← g3];simp
  rw [roundsIn_succ]
  refine wpIn_seq (wpIn_region ?_)
  subst ak3
  simp only [List.size_toArray,List.length_cons,List.length_nil,Nat.reduceAdd,List.range,List.range.loop,wpOpsIn,List.getElem?_toArray,List.getElem?_cons_zero,List.getElem?_cons_succ,Region.wanted,p3,q3,if_true]
  have YG:∀ (u:Value) (more:Bool) (us:List Value),u=.tuple (Value.bool more::us).toArray → ∀ w':World,(execOp (a.put (some tn) u).eval o2).run P w'=.ok (.value (.bool more)) w':=fun u more us hu w'=>by
   have ev2:(a.put (some tn) u).eval (.tmp tn)=u:=by
    show (a.tmps.setIfInBounds tn u).getD tn undef=u
    simp [Array.getD,show tn<a.tmps.size by rw [he.size];exact htn]
   have hx:(Instr.extract u 0).run P w'=.ok (.bool more) w':=by subst hu;rfl
   simp [execOp,q1,ev2,hx]
  have Xp:∀ (u:Value) (more:Bool),((a.put (some tn) u).put (some tm) (.bool more)).eval (.tmp tm)=.bool more:=fun u more=>by
   show ((a.tmps.setIfInBounds tn u).setIfInBounds tm (.bool more)).getD tm undef=_
   simp [Array.getD,show tm<a.tmps.size by rw [he.size];exact htm]
  rcases Tj (P:=P) o1.type Yt hw2 (fun x hx=>g4 x.born (by rw [← g3];exact List.mem_map.2 ⟨x,hx,rfl⟩)) with ⟨hall,fy⟩ |⟨i,x,hix,Ij,w1,ak6,fy⟩
  ·
   have Z4:(execOp a.eval o1).run P w=.ok (.value (.tuple #[.bool false])) w:=by simp [execOp,p1,hev,fy]
   refine kx (jY Z4 (.inl ⟨_,_,rfl⟩)) Z4 ?_
   rw [Oper.uponIn_value,p2]
   have hr2:=YG (.tuple #[.bool false]) false [] rfl w
   refine kx (jY hr2 (.inl ⟨_,_,rfl⟩)) hr2 ?_
   rw [Oper.uponIn_value,q2]
   refine wpIn_seq (wpIn_cond_false (Xp _ false) (wpIn_exit ?_))
   have aaE:dn.Perm (List.range st.length):=by
    refine (List.perm_ext_iff_of_nodup hnd List.nodup_range).2 fun i=>?_
    simp only [List.mem_range]
    refine ⟨bS i,fun hi=>?_⟩
    have hx:arr[i]? = some arr[i]:=by rw [Array.getElem?_eq_getElem (by omega)]
    have h1:=hall _ (show arr[i]∈arr.toList by simp)
    simp only [List.mem_map] at h1
    obtain ⟨j,hj,hj2⟩:=h1
    have h2:=lP i _ hx
    have hjl:=bS j hj
    rw [List.getD_eq_getElem?_getD,List.getElem?_eq_getElem hjl] at hj2
    simp only [Option.getD_some] at hj2
    have h3:=(List.getElem?_eq_some_iff.1 h2).2
    have h4:i=j:=Pr g5 hi hjl (h3.trans hj2.symm)
    rw [h4];exact hj
   have V5:=ym ht dn aaE
   rw [Ps] at V5
   cases V5
   obtain ⟨SC,hk⟩:=aO.kill (S:=(· < σ.next)) lR.rel b
   rw [AH.Tk] at hk
   refine hQ _ _ ρ SC ((e1.put (some tn) .u).put (some tm) .u) (agY e1 _ _) ?_ ?_ (fun q hq=>(V4 a _ _ q hq).trans (tP q hq)) (lR.trans hk)
   ·exact (he.put (fun d xZ=>by cases xZ;exact htn) (.u _)).put (fun d xZ=>by cases xZ;exact htm) (.u _)
   ·exact fun B0 hB=>(Xm B0 hB).post hk
  ·
   have ah7:i<st.length:=by have:=(Array.getElem?_eq_some_iff.1 hix).1;omega
   have ah8:i∉dn:=fun h=>Ij (by
    have h2:=lP i x hix
    simp only [List.mem_map]
    exact ⟨i,h,by rw [List.getD_eq_getElem?_getD,h2];rfl⟩)
   have adC:(dn++[i]).Nodup:=List.nodup_append.2 ⟨hnd,by simp,fun a ha b hb e=>by simp at hb;subst hb;subst e;exact ah8 ha⟩
   have YI:∀ j∈dn++[i],j<st.length:=fun j hj=>by
    rcases List.mem_append.1 hj with h |h
    ·exact bS j h
    ·simp at h;subst h;exact ah7
   obtain ⟨S',hS'⟩:=Ti ht adC YI
   have hS2:=hS'
   rw [Il,Ps] at hS2
   simp only [Option.bind_some,List.nil_append,zE] at hS2
   obtain ⟨S'',hS2,hS3⟩:=Option.bind_eq_some_iff.1 hS2
   cases hS3
   obtain ⟨e',e2,aP,k1,k2,k3,rfl⟩:=Po i dn Vh S' e1 hS2
   obtain ⟨j1,es2,j2⟩:=Ig k3
   have hd1:aO RO P (· < σ.next) ρ fp (Vh.put b (.iter m dn st c)) w ρ fp (Vh.put b (.iter m dn st c)) w1:=by
    rcases ak6 with rfl |rfl
    ·exact aO.refl lR.rel
    ·exact aO.drew lR.rel
   obtain ⟨Oa,N7⟩:=aO.S6 (S:=(· < σ.next)) hd1.rel Kn hLb Tl (x1:=.iter m (dn++[i]) st c) (ob':=.mapIter (some M.B) c ((dn.map (st.getD · 0)).toArray.push x.born) c) (fun w'=>⟨hO,M,hM,by
    have h2:=lP i x hix
    simp [List.getD_eq_getElem?_getD,h2]⟩)
   rw [AH.Xo] at N7
   have Z4:(execOp a.eval o1).run P w=.ok (.value (.tuple #[.bool true,x.key,x.val])) (w1.putObj L.B (.mapIter (some M.B) c ((dn.map (st.getD · 0)).toArray.push x.born) c)):=by simp [execOp,p1,hev,fy]
   refine kx (jY Z4 (.inl ⟨_,_,rfl⟩)) Z4 ?_
   rw [Oper.uponIn_value,p2]
   have hr2:=YG (.tuple #[.bool true,x.key,x.val]) true [x.key,x.val] rfl (w1.putObj L.B (.mapIter (some M.B) c ((dn.map (st.getD · 0)).toArray.push x.born) c))
   refine kx (jY hr2 (.inl ⟨_,_,rfl⟩)) hr2 ?_
   rw [Oper.uponIn_value,q2]
   refine wpIn_seq (wpIn_cond_true (Xp _ true) (wpIn_skip ?_))
   have hT:=lR.trans (hd1.trans N7)
   have hee:aH n ρ e' a:=he0.join lR.le he tP k1
   have apF:aH n ρ ((e'.set tn .u).set tm (.b true)) ((a.put (some tn) (.tuple #[.bool true,x.key,x.val])).put (some tm) (.bool true)):=
    aH.put (d:=some tm) (aH.put (d:=some tn) hee (fun d xZ=>by cases xZ;exact htn) (.u _)) (fun d xZ=>by cases xZ;exact htm) (.b _)
   refine k2 ρ Oa _ _ apF hT.rel _ fun a' w' aR fp' l1 l2 l3 l4=>?_
   have hT2:=hT.trans (l4.mono fun q hq=>Nat.lt_of_lt_of_le hq hT.next)
   refine ih (dn++[i]) adC YI (by simp;omega) (aP.put b (.iter m [] st c)) e2 hS' ⟨es2,by rw [AH.V3 (Ne.symm hbm)];exact j2⟩ aR fp' a' w' l1 (fun B0 hB=>l2 B0 (((Xm B0 hB).post hd1).post N7)) (fun q hq=>?_) ?_
   ·rw [l3 q (hwb q hq),V4 a _ _ q hq];exact tP q hq
   ·rw [AH.Xo,AH.S3 j1];exact hT2
end Go.Abs
