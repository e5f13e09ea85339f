/-
  AbsIter: a loop over a map.
-/
import Derived.Test.YtncohicmiihjiaaGreatAbsExec0
set_option linter.unusedVariables false
set_option linter.unusedSimpArgs false
set_option linter.constructorNameAsVariable false
namespace Go.Abs
open Go
variable {O:Type} {RO:O->Loc->(Nat->Option Obj)->Prop} {P:Program} {G:List (Nat × Sm O)} {n:Nat}
section
variable {S:Type} {f:Nat->List Nat->S->Option S}
theorem qM:∀ (p q d:List Nat) (s:S),lh f (p++q) d s=(lh f p d s).bind (lh f q (d++p))
 |[],q,d,s=>by simp [lh]
 |i::p,q,d,s=>by
  simp only [List.cons_append,lh]
  cases f i d s with
  |none=>rfl
  |some s'=>simp only [Option.bind_some];rw [qM p q (d++[i]) s'];simp [List.append_assoc]
theorem CH {n:Nat} (h:n<=1) {p:List Nat} (hp:p.Perm (List.range n)):p=List.range n:=by
 match n,h with
 |0,_=>simpa using hp
 |1,_=>exact List.perm_singleton.1 hp
theorem kG {n:Nat} {s t:S} (h:pj f n s=some t):∀ p:List Nat,p.Perm (List.range n)->lh f p [] s=some t:=by
 intro p hp
 unfold pj at h
 cases hb:Nat.ble n 1 with
 |true=>
  rw [hb] at h
  rw [CH (Nat.le_of_ble_eq_true hb) hp]
  exact h
 |false=>
  rw [hb] at h
  simp only [cond_false] at h
  split at h
  ·rename_i hh
   cases h
   exact Classical.choose_spec hh p hp
  ·cases h
def CI (n:Nat) (d:List Nat):List Nat:=(List.range n).filter fun i => !d.elem i
theorem rU {n:Nat} {d:List Nat} (hd:d.Nodup) (hn:∀ i∈d,i<n):(d++CI n d).Perm (List.range n):=by
 refine (List.perm_ext_iff_of_nodup ?_ List.nodup_range).2 fun i=>?_
 ·refine List.nodup_append.2 ⟨hd,List.nodup_range.filter _,fun a ha b hb e=>?_⟩
  subst e
  simp [CI] at hb
  exact hb.2 ha
 ·simp only [List.mem_append,CI,List.mem_filter,List.mem_range]
  constructor
  ·rintro (h |h)
   ·exact hn i h
   ·exact h.1
  ·intro h
   by_cases hi:i∈d
   ·exact .inl hi
   ·exact .inr ⟨h,by simpa using hi⟩
theorem Aw {n:Nat} {s t:S} (h:pj f n s=some t) {d:List Nat} (hd:d.Nodup) (hn:∀ i∈d,i<n):∃ s',lh f d [] s=some s':=by
 have:=kG h _ (rU hd hn)
 rw [qM] at this
 obtain ⟨s',h1,_⟩:=Option.bind_eq_some_iff.1 this
 exact ⟨s',h1⟩
end
theorem Ax {w:World} {r bm c:Nat} {seen:Array Nat} {arr:Array MapEntry} (ty:TypeId) (hr:w.heap[r]? = some (.mapIter (some bm) c seen c)) (hm:w.heap[bm]? = some (.map arr c)) (hold:∀ x∈arr.toList,x.born<c):
  ((∀ x∈arr.toList,x.born∈seen.toList)/\(Instr.next (.pointer (some ⟨r,0,none⟩)) false ty).run P w=.ok (.tuple #[.bool false]) w) ∨
  ∃ (i:Nat) (x:MapEntry),arr[i]? = some x/\x.born∉seen.toList/\∃ w1:World,(w1=w ∨ w1=w.drew)/\(Instr.next (.pointer (some ⟨r,0,none⟩)) false ty).run P w=.ok (.tuple #[.bool true,x.key,x.val]) (w1.putObj r (.mapIter (some bm) c (seen.push x.born) c)):=by
 have aY:r<w.heap.size:=(Array.getElem?_eq_some_iff.1 hr).1
 simp only [Instr.next,getObj,Sem.run_bind,Sem.run,hr,hm,Result.andThen,next_test_false seen arr c c hold (Nat.le_refl _),Bool.false_eq_true,if_false]
 have Cx:∀ x∈(Array.filter (fun e => !seen.contains e.born) arr).toList,x∈arr.toList/\x.born∉seen.toList:=fun x hx=>by
  simp at hx ⊢;exact hx
 have lP:Array.filter (fun e => !seen.contains e.born) arr = #[]->∀ x∈arr.toList,x.born∈seen.toList:=fun h x hx=>by
  rw [Array.filter_eq_empty_iff] at h
  have:=h x (by simpa using hx)
  simpa using this
 generalize Array.filter (fun e => !seen.contains e.born) arr=L at Cx lP ⊢
 have e1:L.filter (fun x=>decide (x.born<c))=L:=Array.filter_eq_self.2 (fun x hx=>by simpa using hold x (Cx x (by simpa using hx)).1)
 have e2:L.filter (fun x=>decide (x.born>=c)) = #[]:=by
  rw [Array.filter_eq_empty_iff]
  intro x hx
  have:=hold x (Cx x (by simpa using hx)).1
  simp;omega
 simp only [e1,e2,Array.append_empty]
 by_cases h0:L.size=0
 ·left
  have:L = #[]:=Array.eq_empty_of_size_eq_zero h0
  subst this
  refine ⟨lP rfl,?_⟩
  simp [choose,Sem.run,Question.forced]
 ·right
  have cJ:L.isEmpty=false:=by simp [Array.isEmpty,h0]
  simp only [cJ,Bool.false_eq_true,if_false,Array.empty_append,Array.size_map]
  have BU:∃ (j:Nat) (w1:World),j<L.size/\(w1=w ∨ w1=w.drew)/\(choose (Question.mapNext L.size)).run P w=.ok j w1:=by
   by_cases hf:L.size<=1
   ·exact ⟨0,w,by omega,.inl rfl,by simp [choose,Sem.run,Question.forced,hf]⟩
   ·exact ⟨_,w.drew,Nat.mod_lt _ (by omega),.inr rfl,by
     simp only [choose,Sem.run,Question.forced,decide_eq_true_eq,hf,if_false,Question.cut]
     rfl⟩
  obtain ⟨j,w1,hj,eI,fN⟩:=BU
  have hLj:L[j]∈L.toList:=by simp
  obtain ⟨i,hi⟩:=List.getElem?_of_mem (Cx _ hLj).1
  refine ⟨i,L[j],by simpa using hi,(Cx _ hLj).2,w1,eI,?_⟩
  have CJ:w1.heap[r]? = some (.mapIter (some bm) c seen c):=by rcases eI with rfl |rfl<;>exact hr
  have Ay:∀ (o':Obj),(∃ a b s d,o'=.mapIter a b s d)->(setObj r o').run P w1=.ok () (w1.putObj r o'):=fun o' ho=>by
   obtain ⟨_,_,_,_,rfl⟩:=ho
   simp only [setObj,Sem.run,CJ]
   rfl
  simp only [fN,Array.getElem?_map,Array.getElem?_eq_getElem hj,Option.map_some,Sem.run_bind,Ay _ ⟨_,_,_,_,rfl⟩,Result.andThen]
  rfl
theorem AH.Ek {J:AH O} {b:Nat} {x y:dL O}:(J.put b x).put b y=J.put b y:=by
 simp only [AH.put,AH.mk.injEq,and_true]
 funext q
 cases Nat.beq q b<;>rfl
theorem AH.me {J:AH O} {b:Nat} {x:dL O} (h:J.aa b=some x):J.put b x=J:=by
 have:(fun q=>bif Nat.beq q b then some x else J.aa q)=J.aa:=by
  funext q
  cases hb:Nat.beq q b with
  |true=>rw [Nat.eq_of_beq_eq_true hb,h];rfl
  |false=>rfl
 show (⟨_,J.next⟩:AH O)=J
 rw [this]
theorem AH.Az {J:AH O} {b:Nat} {x:dL O}:(J.put b x).kill b=J.kill b:=by
 simp only [AH.put,AH.kill,AH.mk.injEq,and_true]
 funext q
 cases Nat.beq q b<;>rfl
theorem wT {l:List Nat} (h:l.Nodup) {i j:Nat} (hi:i<l.length) (hj:j<l.length) (e:l[i]=l[j]):i=j:=by
 have hp:=List.pairwise_iff_getElem.1 h
 rcases Nat.lt_trichotomy i j with k |k |k
 ·exact absurd e (hp i j hi hj k)
 ·exact k
 ·exact absurd e.symm (hp j i hj hi k)
theorem AH.CK {J:AH O} {b q:Nat} {x:dL O} (h:q≠b):(J.put b x).aa q=J.aa q:=by
 show (bif Nat.beq q b then some x else J.aa q)=_
 cases hb:Nat.beq q b with
 |true=>exact absurd (Nat.eq_of_beq_eq_true hb) h
 |false=>rfl
theorem wJ {ops:List Oper} {d:Bool} {mo:Operand} {ca cb:Code} {it tn tm out:Nat} (h:Nk ops d mo ca cb=some (it,tn,tm,out)):
  d=false/\∃ o1 o2:Oper,ops=[o1,o2]/\mo=.tmp tm/\ca=.skip/\cb=.exit out/\o1.op=.next (.tmp it) false/\o1.dst=some tn/\o1.guard=none/\o2.op=.extract (.tmp tn) 0/\o2.dst=some tm/\o2.guard=none/\tn≠tm:=by
 unfold Nk at h
 split at h
 ·rename_i o1 o2 q aqQ
  split at h
  ·rename_i h1 h2 h3 h4 h5 h6
   obtain ⟨hc,h⟩:=aF h
   simp only [Bool.and_eq_true,Bool.not_eq_true'] at hc
   simp only [Option.some.injEq,Prod.mk.injEq] at h
   obtain ⟨rfl,rfl,rfl,rfl⟩:=h
   have k1:=Nat.eq_of_beq_eq_true hc.1.1
   have k2:=Nat.eq_of_beq_eq_true hc.1.2
   subst k1 k2
   exact ⟨rfl,o1,o2,rfl,rfl,rfl,rfl,h1,h2,h3,h4,h5,h6,fun e=>by rw [e] at hc;simp at hc⟩
  ·cases h
 ·cases h
theorem qI {J:AH O} {b m c:Nat} {idx st:List Nat} {u:Unit} (h:Is J b m idx st c=some u):J.aa b=some (.iter m idx st c)/\∃ es,J.aa m=some (.map es st c):=by
 unfold Is at h
 split at h
 ·rename_i m' WX Hz c' hb
  split at h
  ·rename_i es WY c'' hm
   obtain ⟨hc,_⟩:=aF h
   simp only [Bool.and_eq_true] at hc
   have h1:=Nat.eq_of_beq_eq_true hc.1.1.1.1.1
   have h2:=eq_of_beq hc.1.1.1.1.2
   have h3:=eq_of_beq hc.1.1.1.2
   have h4:=Nat.eq_of_beq_eq_true hc.1.1.2
   have h5:=eq_of_beq hc.1.2
   have h6:=Nat.eq_of_beq_eq_true hc.2
   subst h1 h2 h3 h4 h5 h6
   exact ⟨hb,es,hm⟩
  ·cases h
 ·cases h
theorem FY {ro:Option Nat} {z9:Nat} {ops:Array Oper} {mo:Operand} {ca cb body:Code} {it tn tm out:Nat} (hlm:Nk ops.toList false mo ca cb=some (it,tn,tm,out))
  (hd:jE n (.seq (.region z9 ops false) (.seq (.cond mo ca cb) body))=true) (FX:it∉aB (.seq (.region z9 ops false) (.seq (.cond mo ca cb) body)))
  {e:Env} {J:AH O} {b m c:Nat} {st:List Nat} (Qz:e it=.p (some (.n b,0))) (W8:b≠m)
  {f:Nat->List Nat->List AV × AH O->Option (List AV × AH O)} {head:List (Nat × Ty)}
  (
   wL:∀ (i:Nat) (dn:List Nat) (Jr:AH O) (S':List AV × AH O) (e1:Env),f i dn (cW head e1,Jr)=some S'->∃ (e' e2:Env) (J2:AH O),(∀ t,e' t=e1 t ∨ e' t=.u ∨ (t∉aB (.seq (.region z9 ops false) (.seq (.cond mo ca cb) body))/\e' t=e t))/\
   md RO P n ro body (Jr.put b (.iter m (dn++[i]) st c)) ((e'.set tn .u).set tm (.b true)) .norm e2 J2/\Is J2 b m (dn++[i]) st c=some ()/\S'=(cW head e2,J2.put b (.iter m [] st c)))
  (IC:∀ s∈head,s.1≠tn/\s.1≠tm) {t:List AV × AH O} (ht:pj f st.length (cW head e,J)=some t)
  {kB:bT} {fp0:Fp} {a0:Act} {w0:World} (BQ:aC n kB e a0) {L:Loc} (hL:kB b=some L)
  {Q:Exit->Act->World->Prop} (hQ:∀ a' w' aQ fp' e1,cW head e1=t.1->aC n aQ e1 a'->(∀ B0,Marks B0 fp0 w0 a0.defers->Marks B0 fp' w' a'.defers)->(∀ t,t∉aB (.seq (.region z9 ops false) (.seq (.cond mo ca cb) body))->a'.tmps.getD t undef=a0.tmps.getD t undef)->
   aR RO P (· < J.next) kB fp0 J w0 aQ fp' (t.2.kill b) w'->Q (.exit out) a' w'):
  ∀ (rem:Nat) (dn:List Nat),dn.Nodup->(∀ i∈dn,i<st.length)->rem+dn.length=st.length->
   ∀ (Jr:AH O) (e1:Env),lh f dn [] (cW head e,J)=some (cW head e1,Jr)->(∃ es,Jr.aa m=some (.map es st c))->
   ∀ (ρ:bT) (fp:Fp) (a:Act) (w:World),aC n ρ e1 a->(∀ B0,Marks B0 fp0 w0 a0.defers->Marks B0 fp w a.defers)->(∀ t,t∉aB (.seq (.region z9 ops false) (.seq (.cond mo ca cb) body))->a.tmps.getD t undef=a0.tmps.getD t undef)->
   aR RO P (· < J.next) kB fp0 J w0 ρ fp (Jr.put b (.iter m dn st c)) w->Code.roundsIn (Fw ro) 0 P (.seq (.region z9 ops false) (.seq (.cond mo ca cb) body)) Q (rem+1) a w:=by
 obtain ⟨-,o1,o2,eo,rfl,rfl,rfl,p1,p2,p3,q1,q2,q3,cJ⟩:=wJ hlm
 have Xp:ops = #[o1,o2]:=by apply Array.ext';rw [eo]
 have Xq:tn<n:=jx hd tn (by simp [aB,kz,eo,p2])
 have Xr:tm<n:=jx hd tm (by simp [aB,kz,eo,q2])
 have hwn:∀ q,q∉aB (.seq (.region z9 ops false) (.seq (.cond (.tmp tm) .skip (.exit out)) body))->q≠tn/\q≠tm:=fun q hq=>by
  constructor
  ·intro e;exact hq (by simp [aB,kz,eo,p2,e])
  ·intro e;exact hq (by simp [aB,kz,eo,q2,e])
 have SG:∀ q,q∉aB (.seq (.region z9 ops false) (.seq (.cond (.tmp tm) .skip (.exit out)) body))->q∉aB body:=fun q hq h=>hq (by simp [aB,h])
 have QF:∀ (e1:Env) (u v:AV),cW head ((e1.put (some tn) u).put (some tm) v)=cW head e1:=fun e1 u v=>List.map_congr_left fun q hq=>by
  obtain ⟨h1,h2⟩:=IC q hq
  simp only [Env.put,Env.jw,if_neg h1,if_neg h2]
 have CL:∀ (a:Act) (u v:Value) (q:Nat),q∉aB (.seq (.region z9 ops false) (.seq (.cond (.tmp tm) .skip (.exit out)) body))->((a.put (some tn) u).put (some tm) v).tmps.getD q undef=a.tmps.getD q undef:=fun a u v q hq=>by
  rw [jS (fun d kC=>by cases kC;exact (hwn q hq).2),jS (fun d kC=>by cases kC;exact (hwn q hq).1)]
 intro rem
 induction rem with
 |zero=>
  intro dn hnd aY hlen Jr e1 wU oq ρ fp a w he Ej jy fT
  have vH:(Jr.put b (.iter m dn st c)).aa b=some (.iter m dn st c):=by simp [AH.put]
  have hLb:ρ b=some L:=fT.le.l _ _ hL
  obtain ⟨hO,M,hM,Ny⟩:=fT.rel.aa _ _ _ vH hLb
  obtain ⟨es,qt⟩:=oq
  have IK:(Jr.put b (.iter m dn st c)).aa m=some (.map es st c):=by rw [AH.CK (Ne.symm W8)];exact qt
  obtain ⟨arr,g1,g2,g3,g4,g5⟩:=fT.rel.aa _ _ _ IK hM
  have sV:=fT.rel.has b L.B _ (by rw [Ny];exact bq _ _)
  have HD:=fT.rel.has m M.B _ (by rw [g1];exact bq _ _)
  have HB:a.eval (.tmp it)=.pointer (some ⟨L.B,0,none⟩):=by
   have h1:=BQ.get it
   rw [Qz] at h1
   have h2:a.tmps.getD it undef=a0.tmps.getD it undef:=jy it FX
   show a.tmps.getD it undef=_
   rw [h2]
   generalize a0.tmps.getD it undef=u at h1
   cases h1 with
   |p _ _ L' zC=>have:=zC.nN;rw [hL] at this;cases this;rw [hO]
  have gh:∀ (i:Nat) (x:MapEntry),arr[i]? = some x->st[i]? = some x.born:=fun i x hx=>by rw [<-g3,List.getElem?_map,Array.getElem?_toList,hx];rfl
  have jM:arr.size=st.length:=by rw [<-g3];simp
  rw [roundsIn_succ]
  refine wpIn_seq (wpIn_region ?_)
  subst Xp
  simp only [List.size_toArray,List.length_cons,List.length_nil,Nat.reduceAdd,List.range,List.range.loop,wpOpsIn,List.getElem?_toArray,List.getElem?_cons_zero,List.getElem?_cons_succ,Region.wanted,p3,q3,if_true]
  have F6:∀ (u:Value) (more:Bool) (us:List Value),u=.tuple (Value.bool more::us).toArray->∀ w':World,(execOp (a.put (some tn) u).eval o2).run P w'=.ok (.value (.bool more)) w':=fun u more us hu w'=>by
   have ev2:(a.put (some tn) u).eval (.tmp tn)=u:=by
    show (a.tmps.setIfInBounds tn u).getD tn undef=u
    simp [Array.getD,show tn<a.tmps.size by rw [he.size];exact Xq]
   have hx:(Instr.extract u 0).run P w'=.ok (.bool more) w':=by subst hu;rfl
   simp [execOp,q1,ev2,hx]
  have El:∀ (u:Value) (more:Bool),((a.put (some tn) u).put (some tm) (.bool more)).eval (.tmp tm)=.bool more:=fun u more=>by
   show ((a.tmps.setIfInBounds tn u).setIfInBounds tm (.bool more)).getD tm undef=_
   simp [Array.getD,show tm<a.tmps.size by rw [he.size];exact Xr]
  rcases Ax (P:=P) o1.type sV HD (fun x hx=>g4 x.born (by rw [<-g3];exact List.mem_map.2 ⟨x,hx,rfl⟩)) with ⟨lP,fN⟩ |⟨i,x,Vq,lE,w1,Xs,fN⟩
  ·
   have CJ:(execOp a.eval o1).run P w=.ok (.value (.tuple #[.bool false])) w:=by simp [execOp,p1,HB,fN]
   refine fC (fv CJ (.inl ⟨_,_,rfl⟩)) CJ ?_
   rw [Oper.uponIn_value,p2]
   have Mo:=F6 (.tuple #[.bool false]) false [] rfl w
   refine fC (fv Mo (.inl ⟨_,_,rfl⟩)) Mo ?_
   rw [Oper.uponIn_value,q2]
   refine wpIn_seq (wpIn_cond_false (El _ false) (wpIn_exit ?_))
   have IL:dn.Perm (List.range st.length):=by
    refine (List.perm_ext_iff_of_nodup hnd List.nodup_range).2 fun i=>?_
    simp only [List.mem_range]
    refine ⟨aY i,fun hi=>?_⟩
    have hx:arr[i]? = some arr[i]:=by rw [Array.getElem?_eq_getElem (by omega)]
    have h1:=lP _ (show arr[i]∈arr.toList by simp)
    simp only [List.mem_map] at h1
    obtain ⟨j,hj,wR⟩:=h1
    have h2:=gh i _ hx
    have AA:=aY j hj
    rw [List.getD_eq_getElem?_getD,List.getElem?_eq_getElem AA] at wR
    simp only [Option.getD_some] at wR
    have h3:=(List.getElem?_eq_some_iff.1 h2).2
    have h4:i=j:=wT g5 hi AA (h3.trans wR.symm)
    rw [h4];exact hj
   have qN:=kG ht dn IL
   rw [wU] at qN
   cases qN
   obtain ⟨BS,hk⟩:=aR.kill (S:=(· < J.next)) fT.rel b
   rw [AH.Az] at hk
   refine hQ _ _ ρ BS ((e1.put (some tn) .u).put (some tm) .u) (QF e1 _ _) ?_ ?_ (fun q hq=>(CL a _ _ q hq).trans (jy q hq)) (fT.trans hk)
   ·exact (he.put (fun d kC=>by cases kC;exact Xq) (.u _)).put (fun d kC=>by cases kC;exact Xr) (.u _)
   ·exact fun B0 hB=>(Ej B0 hB).post hk
  ·
   have Nz:i<st.length:=by have:=(Array.getElem?_eq_some_iff.1 Vq).1;omega
   have SH:i∉dn:=fun h=>lE (by
    have h2:=gh i x Vq
    simp only [List.mem_map]
    exact ⟨i,h,by rw [List.getD_eq_getElem?_getD,h2];rfl⟩)
   have NA:(dn++[i]).Nodup:=List.nodup_append.2 ⟨hnd,by simp,fun a ha b hb e=>by simp at hb;subst hb;subst e;exact SH ha⟩
   have AB:∀ j∈dn++[i],j<st.length:=fun j hj=>by
    rcases List.mem_append.1 hj with h |h
    ·exact aY j h
    ·simp at h;subst h;exact Nz
   have:=(rU NA AB).length_eq
   simp at this
   omega
 |succ rem ih=>
  intro dn hnd aY hlen Jr e1 wU oq ρ fp a w he Ej jy fT
  have vH:(Jr.put b (.iter m dn st c)).aa b=some (.iter m dn st c):=by simp [AH.put]
  have hLb:ρ b=some L:=fT.le.l _ _ hL
  obtain ⟨hO,M,hM,Ny⟩:=fT.rel.aa _ _ _ vH hLb
  obtain ⟨es,qt⟩:=oq
  have IK:(Jr.put b (.iter m dn st c)).aa m=some (.map es st c):=by rw [AH.CK (Ne.symm W8)];exact qt
  obtain ⟨arr,g1,g2,g3,g4,g5⟩:=fT.rel.aa _ _ _ IK hM
  have sV:=fT.rel.has b L.B _ (by rw [Ny];exact bq _ _)
  have HD:=fT.rel.has m M.B _ (by rw [g1];exact bq _ _)
  have HB:a.eval (.tmp it)=.pointer (some ⟨L.B,0,none⟩):=by
   have h1:=BQ.get it
   rw [Qz] at h1
   have h2:a.tmps.getD it undef=a0.tmps.getD it undef:=jy it FX
   show a.tmps.getD it undef=_
   rw [h2]
   generalize a0.tmps.getD it undef=u at h1
   cases h1 with
   |p _ _ L' zC=>have:=zC.nN;rw [hL] at this;cases this;rw [hO]
  have gh:∀ (i:Nat) (x:MapEntry),arr[i]? = some x->st[i]? = some x.born:=fun i x hx=>by rw [<-g3,List.getElem?_map,Array.getElem?_toList,hx];rfl
  have jM:arr.size=st.length:=by rw [<-g3];simp
  rw [roundsIn_succ]
  refine wpIn_seq (wpIn_region ?_)
  subst Xp
  simp only [List.size_toArray,List.length_cons,List.length_nil,Nat.reduceAdd,List.range,List.range.loop,wpOpsIn,List.getElem?_toArray,List.getElem?_cons_zero,List.getElem?_cons_succ,Region.wanted,p3,q3,if_true]
  have F6:∀ (u:Value) (more:Bool) (us:List Value),u=.tuple (Value.bool more::us).toArray->∀ w':World,(execOp (a.put (some tn) u).eval o2).run P w'=.ok (.value (.bool more)) w':=fun u more us hu w'=>by
   have ev2:(a.put (some tn) u).eval (.tmp tn)=u:=by
    show (a.tmps.setIfInBounds tn u).getD tn undef=u
    simp [Array.getD,show tn<a.tmps.size by rw [he.size];exact Xq]
   have hx:(Instr.extract u 0).run P w'=.ok (.bool more) w':=by subst hu;rfl
   simp [execOp,q1,ev2,hx]
  have El:∀ (u:Value) (more:Bool),((a.put (some tn) u).put (some tm) (.bool more)).eval (.tmp tm)=.bool more:=fun u more=>by
   show ((a.tmps.setIfInBounds tn u).setIfInBounds tm (.bool more)).getD tm undef=_
   simp [Array.getD,show tm<a.tmps.size by rw [he.size];exact Xr]
  rcases Ax (P:=P) o1.type sV HD (fun x hx=>g4 x.born (by rw [<-g3];exact List.mem_map.2 ⟨x,hx,rfl⟩)) with ⟨lP,fN⟩ |⟨i,x,Vq,lE,w1,Xs,fN⟩
  ·
   have CJ:(execOp a.eval o1).run P w=.ok (.value (.tuple #[.bool false])) w:=by simp [execOp,p1,HB,fN]
   refine fC (fv CJ (.inl ⟨_,_,rfl⟩)) CJ ?_
   rw [Oper.uponIn_value,p2]
   have Mo:=F6 (.tuple #[.bool false]) false [] rfl w
   refine fC (fv Mo (.inl ⟨_,_,rfl⟩)) Mo ?_
   rw [Oper.uponIn_value,q2]
   refine wpIn_seq (wpIn_cond_false (El _ false) (wpIn_exit ?_))
   have IL:dn.Perm (List.range st.length):=by
    refine (List.perm_ext_iff_of_nodup hnd List.nodup_range).2 fun i=>?_
    simp only [List.mem_range]
    refine ⟨aY i,fun hi=>?_⟩
    have hx:arr[i]? = some arr[i]:=by rw [Array.getElem?_eq_getElem (by omega)]
    have h1:=lP _ (show arr[i]∈arr.toList by simp)
    simp only [List.mem_map] at h1
    obtain ⟨j,hj,wR⟩:=h1
    have h2:=gh i _ hx
    have AA:=aY j hj
    rw [List.getD_eq_getElem?_getD,List.getElem?_eq_getElem AA] at wR
    simp only [Option.getD_some] at wR
    have h3:=(List.getElem?_eq_some_iff.1 h2).2
    have h4:i=j:=wT g5 hi AA (h3.trans wR.symm)
    rw [h4];exact hj
   have qN:=kG ht dn IL
   rw [wU] at qN
   cases qN
   obtain ⟨BS,hk⟩:=aR.kill (S:=(· < J.next)) fT.rel b
   rw [AH.Az] at hk
   refine hQ _ _ ρ BS ((e1.put (some tn) .u).put (some tm) .u) (QF e1 _ _) ?_ ?_ (fun q hq=>(CL a _ _ q hq).trans (jy q hq)) (fT.trans hk)
   ·exact (he.put (fun d kC=>by cases kC;exact Xq) (.u _)).put (fun d kC=>by cases kC;exact Xr) (.u _)
   ·exact fun B0 hB=>(Ej B0 hB).post hk
  ·
   have Nz:i<st.length:=by have:=(Array.getElem?_eq_some_iff.1 Vq).1;omega
   have SH:i∉dn:=fun h=>lE (by
    have h2:=gh i x Vq
    simp only [List.mem_map]
    exact ⟨i,h,by rw [List.getD_eq_getElem?_getD,h2];rfl⟩)
   have NA:(dn++[i]).Nodup:=List.nodup_append.2 ⟨hnd,by simp,fun a ha b hb e=>by simp at hb;subst hb;subst e;exact SH ha⟩
   have AB:∀ j∈dn++[i],j<st.length:=fun j hj=>by
    rcases List.mem_append.1 hj with h |h
    ·exact aY j h
    ·simp at h;subst h;exact Nz
   obtain ⟨S',hS'⟩:=Aw ht NA AB
   have Xt:=hS'
   rw [qM,wU] at Xt
   simp only [Option.bind_some,List.nil_append,lh] at Xt
   obtain ⟨S'',Xt,hS3⟩:=Option.bind_eq_some_iff.1 Xt
   cases hS3
   obtain ⟨e',e2,J2,k1,k2,k3,rfl⟩:=wL i dn Jr S' e1 Xt
   obtain ⟨j1,es2,j2⟩:=qI k3
   have Nr:aR RO P (· < J.next) ρ fp (Jr.put b (.iter m dn st c)) w ρ fp (Jr.put b (.iter m dn st c)) w1:=by
    rcases Xs with rfl |rfl
    ·exact aR.refl fT.rel
    ·exact aR.drew fT.rel
   obtain ⟨vL,sT⟩:=aR.Aj (S:=(· < J.next)) Nr.rel vH hLb Ny (x1:=.iter m (dn++[i]) st c) (ob':=.mapIter (some M.B) c ((dn.map (st.getD · 0)).toArray.push x.born) c) (fun w'=>⟨hO,M,hM,by
    have h2:=gh i x Vq
    simp [List.getD_eq_getElem?_getD,h2]⟩)
   rw [AH.Ek] at sT
   have CJ:(execOp a.eval o1).run P w=.ok (.value (.tuple #[.bool true,x.key,x.val])) (w1.putObj L.B (.mapIter (some M.B) c ((dn.map (st.getD · 0)).toArray.push x.born) c)):=by simp [execOp,p1,HB,fN]
   refine fC (fv CJ (.inl ⟨_,_,rfl⟩)) CJ ?_
   rw [Oper.uponIn_value,p2]
   have Mo:=F6 (.tuple #[.bool true,x.key,x.val]) true [x.key,x.val] rfl (w1.putObj L.B (.mapIter (some M.B) c ((dn.map (st.getD · 0)).toArray.push x.born) c))
   refine fC (fv Mo (.inl ⟨_,_,rfl⟩)) Mo ?_
   rw [Oper.uponIn_value,q2]
   refine wpIn_seq (wpIn_cond_true (El _ true) (wpIn_skip ?_))
   have hT:=fT.trans (Nr.trans sT)
   have hee:aC n ρ e' a:=BQ.join fT.le he jy k1
   have agm:aC n ρ ((e'.set tn .u).set tm (.b true)) ((a.put (some tn) (.tuple #[.bool true,x.key,x.val])).put (some tm) (.bool true)):=
    aC.put (d:=some tm) (aC.put (d:=some tn) hee (fun d kC=>by cases kC;exact Xq) (.u _)) (fun d kC=>by cases kC;exact Xr) (.b _)
   refine k2 ρ vL _ _ agm hT.rel _ fun a' w' aQ fp' l1 l2 l3 l4=>?_
   have hT2:=hT.trans (l4.mono fun q hq=>Nat.lt_of_lt_of_le hq hT.next)
   refine ih (dn++[i]) NA AB (by simp;omega) (J2.put b (.iter m [] st c)) e2 hS' ⟨es2,by rw [AH.CK (Ne.symm W8)];exact j2⟩ aQ fp' a' w' l1 (fun B0 hB=>l2 B0 (((Ej B0 hB).post Nr).post sT)) (fun q hq=>?_) ?_
   ·rw [l3 q (SG q hq),CL a _ _ q hq];exact jy q hq
   ·rw [AH.Ek,AH.me j1];exact hT2
end Go.Abs
