/-
  Layers above the pool: what a call costs and leaves alone; pools alike; large objects: their state. No conditions.
-/
import Derived.Test.YtncohicmiihjiaaGreatM10
set_option linter.unusedVariables false
set_option linter.unusedSimpArgs false
set_option linter.constructorNameAsVariable false
set_option linter.unusedSimpArgs false
set_option linter.unusedVariables false
set_option linter.unusedSectionVars false
set_option maxHeartbeats 1000000
namespace Go.Abs.Tryz
open Go Go.Abs
variable {O:Type}
theorem JV:∀ (n:Nat) (l:List Nat),l.Nodup->(∀ x∈l,x<n)->l.length<=n:=by
 intro n
 induction n with
 |zero=>intro l _ hx;cases l with |nil=>simp |cons a l=>exact absurd (hx a List.mem_cons_self) (by omega)
 |succ n ih=>
  intro l hn hx
  by_cases hm:n∈l
  ·have h1:=ih (l.erase n) (hn.erase n) fun x Ey=>by
    have:=hx x (List.mem_of_mem_erase Ey)
    have db:x≠n:=fun e=>by subst e;exact (List.Nodup.not_mem_erase hn) Ey
    omega
   rw [List.length_erase_of_mem hm] at h1;omega
  ·have:=ih l hn fun x Ey=>by
    have:=hx x Ey
    have db:x≠n:=fun e=>hm (e▸Ey)
    omega
   omega
structure dp (Y:List Int) (M M':ah) (k dh dc:Int):Prop where
 r:M.met.r<=M'.met.r
 w:M.met.w<=M'.met.w
 k:M'.met.r+M'.met.w<=M.met.r+M.met.w+k
 held:M'.met.held=M.met.held+dh
 count:M'.count=M.count+dc
 dv:∀ y∈Y,ak M'.sp y=ak M.sp y
theorem dp.refl (Y:List Int) (M:ah):dp Y M M 0 0 0:=⟨by omega,by omega,by omega,by omega,by omega,fun _ _=>rfl⟩
theorem dp.trans {Y:List Int} {M M' Gi:ah} {k a c k' a' c':Int} (h:dp Y M M' k a c) (g:dp Y M' Gi k' a' c'):dp Y M Gi (k+k') (a+a') (c+c'):=
 ⟨by have:=h.r;have:=g.r;omega,by have:=h.w;have:=g.w;omega,by have:=h.k;have:=g.k;omega,by have:=h.held;have:=g.held;omega,by have:=h.count;have:=g.count;omega,fun y hy=>(g.dv y hy).trans (h.dv y hy)⟩
theorem dp.as {Y:List Int} {M M':ah} {k a c k' a' c':Int} (h:dp Y M M' k a c) (h1:k<=k') (h2:a=a') (h3:c=c'):dp Y M M' k' a' c':=by
 subst h2;subst h3;exact ⟨h.r,h.w,by have:=h.k;omega,h.held,h.count,h.dv⟩
theorem dp.mono {Y Z:List Int} {M M':ah} {k a c:Int} (h:dp Y M M' k a c) (hs:∀ y∈Z,y∈Y):dp Z M M' k a c:=⟨h.r,h.w,h.k,h.held,h.count,fun y hy=>h.dv y (hs y hy)⟩
theorem dp.JW {Y:List Int} {M M':ah} {id:Int} {w w':List Int} {dr dw:Int} (jv:M.ok) (XS:M'.ok) (hw:ak M.sp id=some w) (h:fE M M' id w' dr dw) (h0:0<=dr) (h1:0<=dw) (hY:id∉Y):dp Y M M' (dr+dw) ((w'.length:Int) - w.length) 0:=by
 obtain ⟨i0,hi⟩:=aF hw
 have hs:(M.sp.map fun s=>s.2.length)[id.toNat]? = some w.length:=by rw [List.getElem?_map,hi];rfl
 have e1:=tm (x:=w'.length) hs
 have e2:=kO (p:=fun s:Bool × List Int=>s.1) (x:=(true,w')) hi
 have e3:=jv.held
 have e4:=XS.held
 have e5:=jv.count
 have e6:=XS.count
 rw [h.sp] at e4 e6
 rw [List.map_set] at e4
 simp only at e4
 simp only [if_true] at e2
 have hr:=h.r
 have UL:=h.w
 refine ⟨by omega,by omega,by omega,?_,?_,fun y hy=>h.other i0 fun e=>hY (e▸hy)⟩
 ·rw [e4,e3];omega
 ·rw [e5,e6];omega
theorem ah.ok.Sx {M:ah} (jv:M.ok) {n:Int} (h1:0<=n) (h2:n<=4194304) (h3:M.count<262144) {Y:List Int} (hY:∀ y∈Y,ak M.sp y≠none):dp Y M (M.iv (ff M.sp) n) 0 n 1:=by
 refine ⟨by simp [ah.iv,fX.hold],by simp [ah.iv,fX.hold],by simp [ah.iv,fX.hold],by simp [ah.iv,fX.hold],by simp [ah.iv],fun y hy=>?_⟩
 cases hw:ak M.sp y with
 |none=>exact absurd hw (hY y hy)
 |some w=>exact (rK hw).1
structure Alike (S S':ao):Prop where
 id:S'.id=S.id
 words:S'.words=S.words
 room:S'.room=S.room
 free:S'.free=S.free
 taken:S'.taken=S.taken
 len:S'.E.length=S.E.length
 at_:∀ (i:Nat) (e:PE),S.E[i]? = some e->∃ e',S'.E[i]? = some e'/\e'.tk=e.tk/\e'.gen=e.gen
theorem Alike.refl (S:ao):Alike S S:=⟨rfl,rfl,rfl,rfl,rfl,rfl,fun i e h=>⟨e,h,rfl,rfl⟩⟩
theorem Alike.trans {S S' S'':ao} (h:Alike S S') (g:Alike S' S''):Alike S S'':=
 ⟨g.id.trans h.id,g.words.trans h.words,g.room.trans h.room,g.free.trans h.free,g.taken.trans h.taken,g.len.trans h.len,fun i e he=>by
  obtain ⟨e1,a1,a2,a3⟩:=h.at_ i e he
  obtain ⟨e2,b1,b2,b3⟩:=g.at_ i e1 a1
  exact ⟨e2,b1,b2.trans a2,b3.trans a3⟩⟩
theorem Alike.back {S S':ao} (h:Alike S S') {i:Nat} {e':PE} (he:S'.E[i]? = some e'):∃ e,S.E[i]? = some e/\e'.tk=e.tk/\e'.gen=e.gen:=by
 have hi:=(List.getElem?_eq_some_iff.1 he).1
 rw [h.len] at hi
 obtain ⟨e2,a1,a2,a3⟩:=h.at_ i _ (List.getElem?_eq_getElem hi)
 rw [he] at a1;cases a1
 exact ⟨_,List.getElem?_eq_getElem hi,a2,a3⟩
theorem Alike.same {S:ao} {E':List PE} {nx pv:Nat} (h:cE nx pv S.E E'):Alike S {S with E:=E'}:=
 ⟨rfl,rfl,rfl,rfl,rfl,h.len,fun i e he=>by obtain ⟨y,a,b,c,_⟩:=h.at_ i e he;exact ⟨y,a,b,c⟩⟩
theorem Alike.set {S:ao} {i:Nat} {e:PE} {ws:List Int} (he:S.E[i]? = some e):Alike S {S with E:=S.E.set i {e with ws:=ws}}:=
 ⟨rfl,rfl,rfl,rfl,rfl,by simp,fun j x hx=>by
  show ∃ e',(S.E.set i _)[j]? = some e'/\_
  rw [List.getElem?_set]
  by_cases hj:i=j
  ·subst hj
   rw [he] at hx;cases hx
   simp [(List.getElem?_eq_some_iff.1 he).1]
  ·rw [if_neg hj];exact ⟨x,hx,rfl,rfl⟩⟩
def ao.dq (S:ao):Nat × ao:=
 match S.free with
 |[]=>(S.E.length,{S with room:=S.more,E:=S.E++[PE.fresh S.words],taken:=S.taken+1})
 |f::r=>(f - 1,{S with E:=S.E.set (f - 1) ⟨true,((S.E[f - 1]?).map PE.gen).getD 0,List.replicate S.words 0⟩,free:=r,taken:=S.taken+1})
theorem ND {J:AH O} {pb mb:Nat} {M:ah} {S:ao} {w:List Int} {X:List Nat} (h:aN J pb mb M S w X) (hc:M.calm) (hE:S.E.length<1048576) (hR:S.more*(S.words+1)<=4194304) (hm:M.met.r+100<85070591730234615865843651857942052864/\M.met.w+100<85070591730234615865843651857942052864):
  Ok (Nu [.p (some (.n pb,0))] J) fun q=>∃ g,q.1=.aB [.i .i64 (((S.dq.1:Nat):Int)+1),.i .i64 0]/\XD S S.dq.2 S.dq.1 g/\∃ M' w' dr dw,aN q.2 pb mb M' S.dq.2 w' X/\fE M M' S.id w' dr dw/\0<=dr/\dr<=2/\1<=dw/\dr+dw<=3+S.words/\aw X J q.2:=by
 cases hf:S.free with
 |nil=>
  have e0:S.dq=(S.E.length,{S with room:=S.more,E:=S.E++[PE.fresh S.words],taken:=S.taken+1}):=by unfold ao.dq;rw [hf]
  rw [e0]
  refine (xh h hc hf hE hR hm.2).mono fun q ⟨g1,M',w',g2,g3,g4⟩=>⟨0,g1,⟨rfl,rfl,?_,fun j hj=>?_,fun e he=>?_,fun _=>rfl,?_,rfl,.inr rfl,fun j r e=>(by rw [hf] at e;cases e),.inl ⟨hf,rfl,hf,rfl,by simp⟩⟩,M',w',0,1,g2,g3,by omega,by omega,by omega,by omega,g4⟩
  ·show (S.E++[PE.fresh S.words])[S.E.length]? = _
   simp [PE.fresh]
  ·show (S.E++[PE.fresh S.words])[j]? = _
   rcases Nat.lt_or_ge j S.E.length with g |g
   ·rw [List.getElem?_append_left g]
   ·rw [List.getElem?_eq_none (by simp;omega),List.getElem?_eq_none (by omega)]
  ·have:=(List.getElem?_eq_some_iff.1 he).1;simp only at this;omega
  ·simp
 |cons j r=>
  have Hx:=h.p.ch
  rw [hf] at Hx
  obtain ⟨⟨e,h1,_⟩,_⟩:=Hx
  obtain ⟨i,rfl⟩:∃ i,j=i+1:=⟨j - 1,by omega⟩
  obtain ⟨e,he,gj,g⟩:=xi h hc hf hm
  have hi:=(List.getElem?_eq_some_iff.1 he).1
  have e0:S.dq=(i,{S with E:=S.E.set i ⟨true,e.gen,List.replicate S.words 0⟩,free:=r,taken:=S.taken+1}):=by unfold ao.dq;rw [hf];simp [he]
  rw [e0]
  refine g.mono fun q ⟨g1,M',w',g2,g3,g4⟩=>⟨e.gen,g1,⟨rfl,rfl,?_,fun j hj=>?_,fun e' lU=>?_,fun hn=>?_,?_,rfl,.inl rfl,fun j' r' e=>(by rw [hf] at e;cases e;rfl),.inr ⟨hf,rfl,by simp⟩⟩,M',w',2,1+S.words,g2,g3,by omega,by omega,by omega,by omega,g4⟩
  ·show (S.E.set i _)[i]? = _
   rw [List.getElem?_set];simp [hi]
  ·show (S.E.set i _)[j]? = _
   rw [List.getElem?_set,if_neg (fun e=>hj e.symm)]
  ·rw [he] at lU;cases lU;exact ⟨gj,rfl⟩
  ·rw [he] at hn;cases hn
  ·simp
theorem Alike.more {S S':ao} (h:Alike S S'):S'.more=S.more:=by unfold ao.more;rw [h.len,h.room]
theorem Alike.dq {S S':ao} (h:Alike S S'):S'.dq.1=S.dq.1/\Alike S.dq.2 S'.dq.2:=by
 unfold ao.dq
 rw [h.free]
 cases hf:S.free with
 |nil=>
  refine ⟨h.len,⟨h.id,h.words,h.more,rfl,by simp [h.taken],by simp [h.len],fun i e he=>?_⟩⟩
  show ∃ e',(S'.E++[PE.fresh S'.words])[i]? = some e'/\_
  have he:(S.E++[PE.fresh S.words])[i]? = some e:=he
  rcases Nat.lt_or_ge i S.E.length with g |g
  ·rw [List.getElem?_append_left g] at he
   rw [List.getElem?_append_left (by rw [h.len];exact g)]
   exact h.at_ i e he
  ·rw [List.getElem?_append_right g] at he
   rw [List.getElem?_append_right (by rw [h.len];exact g),h.len]
   cases hk:i - S.E.length with
   |zero=>rw [hk] at he;simp at he;subst he;exact ⟨_,rfl,rfl,rfl⟩
   |succ k=>rw [hk] at he;simp at he
 |cons f r=>
  refine ⟨rfl,⟨h.id,h.words,h.room,rfl,by simp [h.taken],by simp [h.len],fun i e he=>?_⟩⟩
  show ∃ e',(S'.E.set (f - 1) _)[i]? = some e'/\_
  have he:(S.E.set (f - 1) ⟨true,((S.E[f - 1]?).map PE.gen).getD 0,List.replicate S.words 0⟩)[i]? = some e:=he
  rw [List.getElem?_set] at he ⊢
  by_cases hj:f - 1=i
  ·subst hj
   rw [if_pos rfl] at he ⊢
   by_cases hl:f - 1<S.E.length
   ·rw [if_pos hl] at he
    rw [if_pos (by rw [h.len];exact hl)]
    cases he
    obtain ⟨e',a,b,c⟩:=h.at_ _ _ (List.getElem?_eq_getElem hl)
    exact ⟨_,rfl,rfl,by simp only;rw [a,List.getElem?_eq_getElem hl];simp [c]⟩
   ·rw [if_neg hl] at he;cases he
  ·rw [if_neg hj] at he ⊢
   exact h.at_ i e he
structure aP where
 H:List Nat
 W:List Nat
 ep:Int
 last:Int
 words:Int
 ob:Nat->Option (List Int)
def aP.cells (L:aP) (pb mb:Nat):List AV:=
 [.p (some (.n mb,0)),.p (some (.n pb,0)),.i .i64 (rz L.H:Int),.i .i64 (kB L.H:Int),.i .i64 (L.H.length:Int),.i .i64 (rz L.W:Int),.i .i64 (kB L.W:Int),.i .i64 (L.W.length:Int),.i .u64 L.ep,.i .i64 L.last,.i .i64 L.words]
def aP.len (L:aP) (i:Nat):Nat:=((L.ob i).getD []).length
def v5 (E:List PE) (j:Nat):Option (Int × Int × Int):=(E[j]?).bind fun e=>if e.tk=true then (e.ws[0]?).bind fun a=>(e.ws[1]?).bind fun b=>(e.ws[4]?).bind fun c=>some (a,b,c) else none
theorem NF {E:List PE} {j:Nat} {a b c:Int} (h:v5 E j=some (a,b,c)):∃ e,E[j]? = some e/\e.tk=true/\e.ws[0]? = some a/\e.ws[1]? = some b/\e.ws[4]? = some c:=by
 unfold v5 at h
 obtain ⟨e,he,h⟩:=Option.bind_eq_some_iff.1 h
 split at h
 ·rename_i ht
  obtain ⟨a',h1,h⟩:=Option.bind_eq_some_iff.1 h
  obtain ⟨b',h2,h⟩:=Option.bind_eq_some_iff.1 h
  obtain ⟨c',h3,h⟩:=Option.bind_eq_some_iff.1 h
  cases h
  exact ⟨e,he,ht,h1,h2,h3⟩
 ·cases h
theorem Ez {E:List PE} {j:Nat} {a b c:Int} {e:PE} (he:E[j]? = some e) (ht:e.tk=true) (h1:e.ws[0]? = some a) (h2:e.ws[1]? = some b) (h3:e.ws[4]? = some c):v5 E j=some (a,b,c):=by
 unfold v5;rw [he];simp [ht,h1,h2,h3]
theorem tq {E E':List PE} (hs:cE 2 3 E E'):v5 E'=v5 E:=by
 funext j
 cases hj:E[j]? with
 |none=>
  have:E'[j]? = none:=List.getElem?_eq_none (by rw [hs.len];exact List.getElem?_eq_none_iff.1 hj)
  simp [v5,hj,this]
 |some x=>
  obtain ⟨y,g1,g2,g3,g4⟩:=hs.at_ j x hj
  simp only [v5,hj,g1,Option.bind_some,g2,g4 0 (by decide) (by decide),g4 1 (by decide) (by decide),g4 4 (by decide) (by decide)]
theorem JX {E:List PE} {i:Nat} {e:PE} (hi:i<E.length):v5 (E.set i e)=fun j=>if j=i then v5 [e] 0 else v5 E j:=by
 funext j
 by_cases hj:j=i
 ·subst hj;simp [v5,hi]
 ·rw [if_neg hj];unfold v5;rw [List.getElem?_set,if_neg (fun e=>hj e.symm)]
structure fQ (M:ah) (V:Nat->Option (Int × Int × Int)) (oO:Int) (ob:Nat->Option (List Int)) (ep:Int) (H:List Nat) (Y:List Int):Prop where
 Gj:∀ i,ob i=none->V i=none
 at_:∀ (i:Nat) (ws:List Int),ob i=some ws->∃ sp mk,V i=some (sp,(ws.length:Int),mk)/\0<=mk/\mk<=ep/\(mk=ep ↔ i∈H)/\ak M.sp sp=some ws/\sp≠oO/\sp∉Y
 apart:∀ (i j:Nat) (x a b c d:Int),V i=some (x,a,b)->V j=some (x,c,d)->i=j
 others:∀ y∈Y,ak M.sp y≠none/\y≠oO
structure bK (J:AH O) (lb pb mb:Nat) (M:ah) (S:ao) (w:List Int) (L:aP) (X:List Nat) (Y:List Int):Prop where
 p:aN J pb mb M S w (lb::X)
 b:∃ el,J.aa lb=some (.cells true el (L.cells pb mb))
 nx:lb∉X
 gS:S.words=5
 lH:bz S.E 2 3 L.H
 lW:bz S.E 2 3 L.W
 zH:∀ i∈L.H,i∉L.W
 all:∀ i,L.ob i≠none->i∈L.H ∨ i∈L.W
 o:fQ M (v5 S.E) S.id L.ob L.ep L.H Y
 ep:0<=L.ep/\L.ep<4611686018427387904
 last:0<=L.last/\L.last<=4611686018427387904
 sum:L.words=((((L.H++L.W).map L.len).sum:Nat):Int)
theorem fQ.mem {M M':ah} {V:Nat->Option (Int × Int × Int)} {oO:Int} {ob:Nat->Option (List Int)} {ep:Int} {H:List Nat} {Y:List Int} (h:fQ M V oO ob ep H Y) (hw:∀ y v,y≠oO->ak M.sp y=some v->ak M'.sp y=some v):fQ M' V oO ob ep H Y:=
 ⟨h.Gj,fun i ws ho=>by
  obtain ⟨sp,mk,a1,a2,a3,a4,a5,a6,a7⟩:=h.at_ i ws ho
  exact ⟨sp,mk,a1,a2,a3,a4,hw sp ws a6 a5,a6,a7⟩,h.apart,fun y hy=>⟨by
  obtain ⟨g1,g2⟩:=h.others y hy
  cases hv:ak M.sp y with
  |none=>exact absurd hv g1
  |some v=>rw [hw y v g2 hv];simp,(h.others y hy).2⟩⟩
theorem fE.qI {M M':ah} {id:Int} {w w':List Int} {dr dw:Int} (hw:ak M.sp id=some w) (h:fE M M' id w' dr dw):∀ y v,y≠id->ak M.sp y=some v->ak M'.sp y=some v:=fun y v hy hv=>(h.other (aF hw).1 hy).trans hv
section
variable {J:AH O} {lb pb mb:Nat} {M:ah} {S:ao} {w:List Int} {L:aP} {X:List Nat} {Y:List Int} (h:bK J lb pb mb M S w L X Y)
include h
theorem bK.lt:lb<J.next:=h.p.mi.lt _ (by simp)
theorem bK.lX:∀ b∈X,b<J.next:=fun b hb=>h.p.mi.lt _ (by simp [hb])
theorem bK.Qu:S.id∉Y:=fun hm=>(h.o.others _ hm).2 rfl
theorem bK.wl:w.length=S.room*6:=by have:=h.p.p.len;rw [h.gS] at this;exact this
theorem bK.room:S.room*6<=4194304:=by have:=h.p.mi.uO h.p.now;rw [h.wl] at this;exact this
theorem bK.el:S.E.length<=699050:=by have:=h.p.p.made;have:=h.room;omega
theorem bK.at {i:Nat} {ws:List Int} (ho:L.ob i=some ws):∃ e sp mk,S.E[i]? = some e/\e.tk=true/\e.ws[0]? = some sp/\e.ws[1]? = some (ws.length:Int)/\e.ws[4]? = some mk/\0<=mk/\mk<=L.ep/\(mk=L.ep ↔ i∈L.H)/\ak M.sp sp=some ws/\sp≠S.id/\sp∉Y:=by
 obtain ⟨sp,mk,a1,a2,a3,a4,a5,a6,a7⟩:=h.o.at_ i ws ho
 obtain ⟨e,b1,b2,b3,b4,b5⟩:=NF a1
 exact ⟨e,sp,mk,b1,b2,b3,b4,b5,a2,a3,a4,a5,a6,a7⟩
theorem bK.tkn {i:Nat} {e:PE} (he:S.E[i]? = some e) (ht:e.tk=true):∃ ws,L.ob i=some ws:=by
 cases ho:L.ob i with
 |some ws=>exact ⟨ws,rfl⟩
 |none=>
  have hl:=h.p.p.wl e (List.mem_of_getElem? he)
  rw [h.gS] at hl
  have:=h.o.Gj i ho
  rw [Ez he ht (List.getElem?_eq_getElem (show 0<e.ws.length by omega)) (List.getElem?_eq_getElem (show 1<e.ws.length by omega)) (List.getElem?_eq_getElem (show 4<e.ws.length by omega))] at this
  cases this
theorem bK.mem {i:Nat} (hi:i∈L.H ∨ i∈L.W):∃ e ws,S.E[i]? = some e/\e.tk=true/\L.ob i=some ws:=by
 have key:∃ e,S.E[i]? = some e/\e.tk=true:=by
  rcases hi with hi |hi
  ·obtain ⟨j,hj⟩:=List.getElem?_of_mem hi
   obtain ⟨e,he,hl⟩:=h.lH.at_ j i hj
   exact ⟨e,he,hl.tk⟩
  ·obtain ⟨j,hj⟩:=List.getElem?_of_mem hi
   obtain ⟨e,he,hl⟩:=h.lW.at_ j i hj
   exact ⟨e,he,hl.tk⟩
 obtain ⟨e,he,ht⟩:=key
 obtain ⟨ws,ho⟩:=h.tkn he ht
 exact ⟨e,ws,he,ht,ho⟩
theorem bK.nd:(L.H++L.W).Nodup:=List.nodup_append.2 ⟨h.lH.nd,h.lW.nd,fun a ha b hb e=>h.zH a ha (e▸hb)⟩
theorem bK.hw:L.H.length+L.W.length<=699050:=by
 have h2:=JV S.E.length (L.H++L.W) h.nd fun x hx=>by
  obtain ⟨e,_,he,_⟩:=h.mem (List.mem_append.1 hx)
  exact (List.getElem?_eq_some_iff.1 he).1
 have:=h.el
 simp only [List.length_append] at h2
 omega
theorem bK.ol {i:Nat} {ws:List Int} (ho:L.ob i=some ws):ws.length<=4194304:=by
 obtain ⟨e,sp,mk,_,_,_,_,_,_,_,_,a7,_⟩:=h.at ho
 exact h.p.mi.uO a7
theorem bK.wb:0<=L.words/\L.words<=2932031007040:=by
 have h1:=h.sum
 have h2:=JY (l:=(L.H++L.W).map L.len) (c:=4194304) fun x hx=>by
  obtain ⟨i,hi,rfl⟩:=List.mem_map.1 hx
  obtain ⟨e,ws,he,_,ho⟩:=h.mem (List.mem_append.1 hi)
  unfold aP.len
  rw [ho]
  exact h.ol ho
 have h3:=h.hw
 simp only [List.length_map,List.length_append] at h2
 omega
theorem bK.re {J':AH O} {M':ah} {w':List Int} (hp:aN J' pb mb M' S w' (lb::X)) (hb:J'.aa lb=J.aa lb) (hw:∀ y v,y≠S.id->ak M.sp y=some v->ak M'.sp y=some v):bK J' lb pb mb M' S w' L X Y:=
 {h with p:=hp,b:=by obtain ⟨el,e⟩:=h.b;exact ⟨el,hb.trans e⟩,o:=h.o.mem hw}
theorem bK.read {J':AH O} {M':ah} {dr:Int} (hp:aN J' pb mb M' S w (lb::X)) (hk:aw (lb::X) J J') (hq:fE M M' S.id w dr 0):bK J' lb pb mb M' S w L X Y:=h.re hp hk.head (hq.qI h.p.now)
theorem bK.beh {M':ah} {w':List Int} {dr dw:Int} (hq:fE M M' S.id w' dr dw) (jv:M'.ok) (h0:0<=dr) (h1:0<=dw) (hl:w'.length=w.length):dp Y M M' (dr+dw) 0 0:=by
 have:=dp.JW h.p.mi.ok jv h.p.now hq h0 h1 h.Qu
 rw [hl,Int.sub_self] at this
 exact this
theorem bK.ext {J':AH O} (he:Ext J J'):bK J' lb pb mb M S w L X Y:={h with p:=h.p.ext he,b:=by obtain ⟨el,e⟩:=h.b;exact ⟨el,(he.aa _ h.lt).trans e⟩}
theorem bK.bF {J':AH O} {K Z:List Nat} (hc:ei K J J') (hl:∀ b∈K,b∈X ∨ J.next<=b) (hY:∀ b∈Z,b∈X ∨ (J.next<=b/\b<J'.next)):bK J' lb pb mb M S w L Z Y:=
 {h with
  p:=h.p.bF hc (fun b hb=>by
   rcases hl b hb with g |g
   ·exact .inl (by simp [g])
   ·exact .inr g) (fun b hb=>by
   rcases List.mem_cons.1 hb with rfl |hb
   ·exact .inl (by simp)
   ·rcases hY b hb with g |g
    ·exact .inl (by simp [g])
    ·exact .inr g)
  b:=by
   obtain ⟨el,e⟩:=h.b
   refine ⟨el,(hc.aa _ h.lt fun hm=>?_).trans e⟩
   rcases hl _ hm with g |g
   ·exact h.nx g
   ·have:=h.lt;omega
  nx:=fun hm=>by
   rcases hY _ hm with g |g
   ·exact h.nx g
   ·have:=h.lt;omega}
end
end Go.Abs.Tryz
namespace Go.Abs.Tryz
open Go Go.Abs
variable {O:Type}
def ah.cT (M:ah) (k:Int):Prop:=M.met.r+k<85070591730234615865843651857942052864/\M.met.w+k<85070591730234615865843651857942052864
theorem ah.cT.calm {M:ah} {k:Int} (h:M.cT k) (h0:0<=k):M.calm:=⟨by have:=h.1;omega,by have:=h.2;omega⟩
theorem dp.cT {Y:List Int} {M M':ah} {k a c d:Int} (h:dp Y M M' k a c) (hf:M.cT (k+d)):M'.cT d:=by
 have:=h.r;have:=h.w;have:=h.k;have:=hf.1;have:=hf.2
 exact ⟨by omega,by omega⟩
theorem ah.cT.less {M:ah} {k d:Int} (h:M.cT k) (hd:d<=k):M.cT d:=⟨by have:=h.1;omega,by have:=h.2;omega⟩
theorem JZ {l:EA} {sp at_:Int} {ws:List Int} (h:ak l sp=some ws):bH l sp at_ 1=if 0<=at_/\at_<ws.length then 0 else 11:=by
 unfold bH
 rw [h]
 simp only
 by_cases hc:0<=at_/\at_<ws.length
 ·rw [if_pos hc,if_neg (by omega)]
 ·rw [if_neg hc,if_pos (by omega)]
theorem uU {M:ah} {sp at_:Int} {ws:List Int} (h:ak M.sp sp=some ws):M.jH sp at_=if 0<=at_/\at_<ws.length then (M.rd 1,ws.getD at_.toNat 0,0) else (M,0,11):=by
 unfold ah.jH
 rw [JZ h,h]
 by_cases hc:0<=at_/\at_<ws.length
 ·rw [if_pos hc,if_pos hc];rfl
 ·rw [if_neg hc,if_neg hc];rfl
theorem na {M:ah} {sp at_ x:Int} {ws:List Int} (h:ak M.sp sp=some ws):M.jk sp at_ x=if 0<=at_/\at_<ws.length then ((M.wr 1).put sp.toNat (ws.set at_.toNat x),0) else (M,11):=by
 unfold ah.jk
 rw [JZ h,h]
 by_cases hc:0<=at_/\at_<ws.length
 ·rw [if_pos hc,if_pos hc];rfl
 ·rw [if_neg hc,if_neg hc];rfl
theorem CY {J:AH O} {mb:Nat} {M:ah} {X:List Nat} (h:bu J mb M X) (hc:M.calm) {id at_:Int} (ha : -9223372036854775808<=at_/\at_<=9223372036854775807):
  Ok (yN [.p (some (.n mb,0)),.i .i64 id,.i .i64 at_] J) fun r=>r.1=.aB [.i .u64 (M.jH id at_).2.1,.i .i64 (M.jH id at_).2.2]/\bu r.2 mb (M.jH id at_).1 X/\aw X J r.2:=by
 have key:∀ F,bI J mb F M->Ok (yN [.p (some (.n mb,0)),.i .i64 id,.i .i64 at_] J) fun r=>r.1=.aB [.i .u64 (M.jH id at_).2.1,.i .i64 (M.jH id at_).2.2]/\eM J mb F (M.jH id at_).1 r.2:=fun F hF=>Qv hF h.ok hc ha
 have hh:=h
 obtain ⟨F,g1,_⟩:=hh
 obtain ⟨r,e,p1,_⟩:=key F g1
 refine ⟨r,e,p1,?_⟩
 exact h.behind (F:=F) (J':=r.2) fun F hF=>by
  obtain ⟨r',e',_,b⟩:=key F hF
  rw [e] at e';cases e';exact b
theorem tu {J:AH O} {mb:Nat} {M:ah} {X:List Nat} (h:bu J mb M X) (hc:M.calm) {id at_ x:Int} (ha : -9223372036854775808<=at_/\at_<=9223372036854775807):
  Ok (yO [.p (some (.n mb,0)),.i .i64 id,.i .i64 at_,.i .u64 x] J) fun r=>r.1=.i .i64 (M.jk id at_ x).2/\bu r.2 mb (M.jk id at_ x).1 X/\aw X J r.2:=by
 have key:∀ F,bI J mb F M->Ok (yO [.p (some (.n mb,0)),.i .i64 id,.i .i64 at_,.i .u64 x] J) fun r=>r.1=.i .i64 (M.jk id at_ x).2/\eM J mb F (M.jk id at_ x).1 r.2:=fun F hF=>Ka hF h.ok hc ha
 have hh:=h
 obtain ⟨F,g1,_⟩:=hh
 obtain ⟨r,e,p1,_⟩:=key F g1
 refine ⟨r,e,p1,?_⟩
 exact h.behind (F:=F) (J':=r.2) fun F hF=>by
  obtain ⟨r',e',_,b⟩:=key F hF
  rw [e] at e';cases e';exact b
theorem tv {M:ah} (jv:M.ok) {sp:Int} {ws:List Int} (h:ak M.sp sp=some ws):0<=sp/\sp<262144:=by
 obtain ⟨h0,h1⟩:=aF h
 have:=(List.getElem?_eq_some_iff.1 h1).1
 have:=jv.bW
 omega
theorem dp.rd {Y:List Int} {M:ah}:dp Y M (M.rd 1) 1 0 0:=⟨by simp only [ah.rd];omega,by simp only [ah.rd];omega,by simp only [ah.rd];omega,by simp only [ah.rd];omega,by simp only [ah.rd];omega,fun _ _=>rfl⟩
theorem dp.wrp {Y:List Int} {M:ah} {id:Int} {w:List Int} (h0:0<=id) (hY:id∉Y):dp Y M ((M.wr 1).put id.toNat w) 1 0 0:=
 ⟨by simp only [ah.wr,ah.put];omega,by simp only [ah.wr,ah.put];omega,by simp only [ah.wr,ah.put];omega,by simp only [ah.wr,ah.put];omega,by simp only [ah.wr,ah.put];omega,fun y hy=>cL (fun e=>hY (e▸hy)) h0⟩
theorem NG {J:AH O} {mb:Nat} {M:ah} {X:List Nat} {Y:List Int} (h:bu J mb M X) (hf:M.calm) (je:M.count<262144) (hY:∀ y∈Y,ak M.sp y≠none):
  Ok (qb0 [.p (some (.n mb,0))] J) fun r=>∃ lb pb M' S,r.1=.aB [.p (some (.n lb,0)),.i .i64 0]/\bK r.2 lb pb mb M' S [] ⟨[],[],0,0,0,fun _=>none⟩ X Y/\S=⟨ff M.sp,5,0,[],[],0⟩/\M'=M.iv (ff M.sp) 0/\dp Y M M' 0 0 1/\aw X J r.2:=by
 (unfold qb0 qbz;refine bZ ?_)
 refine Ok.step (Eu h hf je (n:=5) (by decide)) fun r ⟨pb,g1,g2,g3,g4⟩=>?_
 obtain ⟨q,J1⟩:=r
 simp only at g1 g2 g4
 subst g1
 have e0:((0:Int) != 0)=false:=rfl
 refine cw e0 ?_
 have XT:∀ b∈X,b<J1.next:=fun b hb=>g2.mi.lt _ (by simp [hb])
 have hbh:dp Y M (M.iv (ff M.sp) 0) 0 0 1:=h.ok.Sx (by decide) (by decide) je hY
 have db:J1.next∉X:=fun hm=>by have:=XT _ hm;omega
 refine U.2 ⟨J1.next,pb,_,_,rfl,⟨g2.bF (L:=[J1.next]) ⟨by simp,fun b hb hm=>by exact hU⟩ (fun b hb=>.inr (by simp at hb;omega)) (fun b hb=>?_),⟨_,aH⟩,db,rfl,bz.nil _ _ _,bz.nil _ _ _,fun i hi=>by simp at hi,fun i hi=>absurd rfl hi,⟨fun i _=>rfl,fun i ws ho=>by simp at ho,fun i j x a b c d hi=>by simp [v5] at hi,fun y hy=>⟨by rw [hbh.dv y hy];exact hY y hy,fun e=>?_⟩⟩,by decide,by decide,rfl⟩,rfl,rfl,hbh,g4.trans ⟨by simp,fun b hb=>by have:=XT b hb;exact hU⟩⟩
 ·rcases List.mem_cons.1 hb with rfl |hb
  ·exact .inr (by simp)
  ·exact .inl hb
 ·have:=hY y hy
  cases hw:ak M.sp y with
  |none=>exact this hw
  |some ws=>exact (rK (n:=0) hw).2 e
theorem qc {J:AH O} {lb pb mb:Nat} {M:ah} {S:ao} {w:List Int} {X:List Nat} (hp:aN J pb mb M S w (lb::X)) (hw:S.words=5) {el:TypeId} {a:AV} {cs:List AV} (tc:J.aa lb=some (.cells true el (a::.p (some (.n pb,0))::cs))):
  Ok (NH [.p (some (.n lb,0))] J) fun r=>r.1=fL S mb 2 3/\Ext J r.2:=by
 have bp:=hp.mi.lt lb (by simp)
 (unfold NH qhm;refine cw tc ?_)
 generalize hJ:(J.az 1).put J.next (.cells true _ _)=J1
 obtain ⟨E1,b1,n1⟩:=boxed hJ
 clear hJ
 have pt:=rB (hp.ext E1) (nx:=2) (pv:=3) (by omega) (by omega)
 rw [show ((2:Nat):Int)=2 from rfl,show ((3:Nat):Int)=3 from rfl] at pt
 refine Ok.step pt fun r ⟨g1,g2⟩=>?_
 obtain ⟨q,J2⟩:=r
 simp only [fL] at g1 g2
 subst g1
 have b2:J2.aa J.next=_:=(g2.aa _ (by omega)).trans b1
 have n2:=g2.next
 refine cw b2 ?_
 exact U.2 ⟨rfl,(E1.trans g2).put (Nat.le_refl _) _⟩
section
variable {J:AH O} {lb pb mb:Nat} {M:ah} {S:ao} {w:List Int} {L:aP} {X:List Nat} {Y:List Int} (h:bK J lb pb mb M S w L X Y)
include h
theorem xn:Ok (NH [.p (some (.n lb,0))] J) fun r=>r.1=fL S mb 2 3/\Ext J r.2:=by
 obtain ⟨el,tc⟩:=h.b
 simp only [aP.cells] at tc
 exact qc h.p h.gS tc
variable (hf:M.cT 1000)
include hf
theorem tz {i:Nat} {ws:List Int} (ho:L.ob i=some ws) {e:PE} (he:S.E[i]? = some e) {k:Nat} (hk:k<5) {x:Int} (hx:e.ws[k]? = some x):
  Ok (BF [.p (some (.n pb,0)),.i .i64 ((i:Int)+1),.i .i64 (k:Int)] J) fun r=>r.1=.aB [.i .u64 x,.i .i64 0]/\∃ M',bK r.2 lb pb mb M' S w L X Y/\fE M M' S.id w 2 0/\aw (lb::X) J r.2:=by
 have hc:=hf.calm (by decide)
 obtain ⟨e',sp,mk,lU,gj,_⟩:=h.at ho
 rw [he] at lU;cases lU
 refine (yI h.p hc he gj (by rw [h.gS];exact hk) (by have:=hf.1;omega)).mono fun r ⟨g1,M',g2,g3,g4⟩=>⟨?_,M',h.read g2 g4 g3,g3,g4⟩
 rw [g1,List.getD_eq_getElem?_getD,hx];rfl
theorem bK.Gk {M':ah} (g3:fE M M' S.id w 2 0) (jv:M'.ok):dp Y M M' 2 0 0:=(h.beh g3 jv (by decide) (by decide) rfl).as (by decide) rfl rfl
omit hf in
theorem bK.wrote {J':AH O} {M':ah} {i:Nat} {e:PE} {ws ws':List Int} {sp:Int} (he:S.E[i]? = some e) (ho:L.ob i=some ws) (Bt:e.ws[0]? = some sp) (hl:ws'.length=ws.length)
  (hw:ak M'.sp sp=some ws') (Gl:∀ y,y≠sp->ak M'.sp y=ak M.sp y) (hm:bu J' mb M' (pb::lb::X)) (hk:aw (pb::lb::X) J J'):
  bK J' lb pb mb M' S w {L with ob:=fun j=>if j=i then some ws' else L.ob j} X Y:=by
 obtain ⟨e',sp',mk,lU,gj,a1,a2,a3,a4,a5,a6,a7,a8,a9⟩:=h.at ho
 rw [he] at lU;cases lU
 rw [Bt] at a1;cases a1
 have hlen:∀ j,(aP.len {L with ob:=fun j=>if j=i then some ws' else L.ob j} j)=L.len j:=fun j=>by
  unfold aP.len
  simp only
  by_cases hj:j=i
  ·subst hj;rw [if_pos rfl,ho];exact hl
  ·rw [if_neg hj]
 have hv:v5 S.E i=some (sp,(ws.length:Int),mk):=Ez he gj Bt a2 a3
 refine {h with p:={h.p with mi:=hm,b:=hk.head.trans h.p.b,now:=(Gl _ (Ne.symm a8)).trans h.p.now},b:=by obtain ⟨el,hb⟩:=h.b;exact ⟨el,hk.tail.head.trans hb⟩,all:=fun j hj=>?_,o:=⟨fun j hj=>?_,fun j vs hj=>?_,h.o.apart,fun y hy=>⟨?_,(h.o.others y hy).2⟩⟩,sum:=?_}
 ·simp only at hj
  by_cases bV:j=i
  ·subst bV;exact h.all j (by rw [ho];simp)
  ·rw [if_neg bV] at hj;exact h.all j hj
 ·simp only at hj
  by_cases bV:j=i
  ·rw [if_pos bV] at hj;cases hj
  ·rw [if_neg bV] at hj;exact h.o.Gj j hj
 ·simp only at hj
  by_cases bV:j=i
  ·subst bV
   rw [if_pos rfl] at hj;cases hj
   exact ⟨sp,mk,by rw [hl];exact hv,a4,a5,a6,hw,a8,a9⟩
  ·rw [if_neg bV] at hj
   obtain ⟨sq,mq,c1,c4,c5,c6,c7,c8,c9⟩:=h.o.at_ j vs hj
   refine ⟨sq,mq,c1,c4,c5,c6,(Gl sq fun e0=>bV ?_).trans c7,c8,c9⟩
   subst e0
   exact h.o.apart j i _ _ _ _ _ c1 hv
 ·rw [Gl y fun e0=>a9 (e0▸hy)];exact (h.o.others y hy).1
 ·rw [h.sum]
  congr 2
  exact List.map_congr_left fun j _=>(hlen j).symm
theorem Gm {i:Nat} {ws:List Int} (ho:L.ob i=some ws) {at_ x:Int} (ha:0<=at_/\at_<ws.length):
  Ok (Qw [.p (some (.n lb,0)),.i .i64 ((i:Int)+1),.i .i64 at_,.i .u64 x] J) fun r=>r.1=.i .i64 0/\∃ M',bK r.2 lb pb mb M' S w {L with ob:=fun j=>if j=i then some (ws.set at_.toNat x) else L.ob j} X Y/\dp Y M M' 3 0 0/\aw X J r.2:=by
 obtain ⟨el,hb⟩:=h.b
 simp only [aP.cells] at hb
 obtain ⟨e,sp,mk,he,gj,a1,a2,a3,a4,a5,a6,a7,a8,a9⟩:=h.at ho
 have hs:=tv h.p.mi.ok a7
 have hl:=h.p.mi.uO a7
 (unfold Qw qi5;refine cw hb ?_)
 have g:=tz h hf ho he (k:=0) (by decide) a1
 rw [show ((0:Nat):Int)=0 from rfl] at g
 refine Ok.step g fun r ⟨g1,M1,g2,g3,g4⟩=>?_
 obtain ⟨q,J1⟩:=r
 simp only at g1 g2 g4
 subst g1
 have e0:((0:Int) != 0)=false:=rfl
 obtain ⟨Cm,cK⟩:=g2.b
 simp only [aP.cells] at cK
 refine gh e0 cK ?_
 have b1:=h.Gk hf g3 g2.p.mi.ok
 have Sv:M1.cT 998:=b1.cT (hf.less (by decide))
 have wr:=tu g2.p.mi (Sv.calm (by decide)) (id:=sp) (at_:=at_) (x:=x) (by omega)
 have Sy:ak M1.sp sp=some ws:=g3.qI h.p.now sp ws a8 a7
 rw [na Sy,if_pos ha] at wr
 refine Ok.step wr fun r ⟨k1,k2,k3⟩=>?_
 obtain ⟨q,J2⟩:=r
 simp only at k1 k2 k3
 subst k1
 refine bZ ?_
 have UK:ak ((M1.wr 1).put sp.toNat (ws.set at_.toNat x)).sp sp=some (ws.set at_.toNat x):=by
  obtain ⟨h0,h1⟩:=aF Sy
  refine cU h0 ?_
  show (M1.sp.set sp.toNat _)[sp.toNat]? = _
  rw [List.getElem?_set];simp [(List.getElem?_eq_some_iff.1 h1).1]
 exact U.2 ⟨rfl,_,g2.wrote he ho a1 (by simp) UK (fun y hy=>cL hy hs.1) k2 k3,(b1.trans (dp.wrp hs.1 a9)).as (by decide) rfl rfl,g4.tail.trans k3.tail.tail⟩
theorem oQ {i:Nat} {ws:List Int} (ho:L.ob i=some ws):
  Ok (XU [.p (some (.n lb,0)),.i .i64 ((i:Int)+1)] J) fun r=>r.1=.aB [.b (decide (i∈L.H)),.i .i64 0]/\∃ M',bK r.2 lb pb mb M' S w L X Y/\fE M M' S.id w 2 0/\aw (lb::X) J r.2:=by
 obtain ⟨el,hb⟩:=h.b
 simp only [aP.cells] at hb
 obtain ⟨e,sp,mk,he,gj,a1,a2,a3,a4,a5,a6,a7,a8,a9⟩:=h.at ho
 (unfold XU qps;refine cw hb ?_)
 have g:=tz h hf ho he (k:=4) (by decide) a3
 rw [show ((4:Nat):Int)=4 from rfl] at g
 refine Ok.step g fun r ⟨g1,M',g2,g3,g4⟩=>?_
 obtain ⟨q,J1⟩:=r
 simp only at g1 g2 g4
 subst g1
 have e0:((0:Int) == 0)=true:=rfl
 obtain ⟨Cm,cK⟩:=g2.b
 simp only [aP.cells] at cK
 have em:(mk == L.ep)=decide (i∈L.H):=by
  rw [Bool.eq_iff_iff];simp [a6]
 refine jE e0 cK em ?_
 exact U.2 ⟨rfl,M',g2,g3,g4⟩
end
end Go.Abs.Tryz
namespace Go.Abs.Tryz
open Go Go.Abs
variable {O:Type}
theorem fQ.add {M M':ah} {V V':Nat->Option (Int × Int × Int)} {oO:Int} {ob:Nat->Option (List Int)} {ep:Int} {H:List Nat} {Y:List Int} (h:fQ M V oO ob ep H Y) {i:Nat} (hi:ob i=none) {sp:Int} {n:Nat} (h0:0<=ep)
  (hV:∀ j,V' j=if j=i then some (sp,(n:Int),ep) else V j) (hw:∀ y v,y≠oO->ak M.sp y=some v->ak M'.sp y=some v) (Bt:ak M'.sp sp=some (List.replicate n 0)) (db:sp≠oO) (hY:sp∉Y) (F6:∀ y v,ak M.sp y=some v->y≠sp):
  fQ M' V' oO (fun j=>if j=i then some (List.replicate n 0) else ob j) ep (H++[i]) Y:=by
 have cT:∀ (j:Nat) (x a b:Int),V j=some (x,a,b)->x≠sp:=fun j x a b hj=>by
  cases ho:ob j with
  |none=>rw [h.Gj j ho] at hj;cases hj
  |some ws=>
   obtain ⟨sq,mk,c1,_,_,_,c7,_⟩:=h.at_ j ws ho
   rw [c1] at hj;cases hj
   exact F6 _ _ c7
 refine ⟨fun j hj=>?_,fun j ws hj=>?_,fun j k x a b c d hj hk=>?_,(h.mem hw).others⟩
 ·by_cases bV:j=i
  ·rw [if_pos bV] at hj;cases hj
  ·rw [if_neg bV] at hj
   rw [hV,if_neg bV];exact h.Gj j hj
 ·by_cases bV:j=i
  ·rw [if_pos bV] at hj;cases hj
   refine ⟨sp,ep,by rw [hV,if_pos bV];simp,h0,Int.le_refl _,?_,Bt,db,hY⟩
   simp [bV]
  ·rw [if_neg bV] at hj
   obtain ⟨sq,mk,c1,c4,c5,c6,c7,c8,c9⟩:=h.at_ j ws hj
   refine ⟨sq,mk,by rw [hV,if_neg bV];exact c1,c4,c5,?_,hw _ _ c8 c7,c8,c9⟩
   rw [c6];simp [bV]
 ·rw [hV] at hj hk
  by_cases bV:j=i
  ·by_cases th:k=i
   ·rw [bV,th]
   ·rw [if_pos bV] at hj;cases hj
    rw [if_neg th] at hk
    exact absurd rfl (cT _ _ _ _ hk)
  ·rw [if_neg bV] at hj
   by_cases th:k=i
   ·rw [if_pos th] at hk;cases hk
    exact absurd rfl (cT _ _ _ _ hj)
   ·rw [if_neg th] at hk
    exact h.apart _ _ _ _ _ _ _ hj hk
theorem xo {L L':aP} {l:List Nat} (h:∀ j∈l,L'.ob j=L.ob j):(l.map L'.len).sum=(l.map L.len).sum:=by
 congr 1
 exact List.map_congr_left fun j hj=>by unfold aP.len;rw [h j hj]
theorem Sz {J:AH O} {mb:Nat} {M:ah} {X:List Nat} (h:bu J mb M X) (hc:M.calm) {n:Int}:
  Ok (AN [.p (some (.n mb,0)),.i .i64 n] J) fun r=>r.1=.aB [.i .i64 (M.mG n).2.1,.i .i64 (M.mG n).2.2]/\bu r.2 mb (M.mG n).1 X/\aw X J r.2:=by
 have key:∀ F,bI J mb F M->Ok (AN [.p (some (.n mb,0)),.i .i64 n] J) fun r=>r.1=.aB [.i .i64 (M.mG n).2.1,.i .i64 (M.mG n).2.2]/\eM J mb F (M.mG n).1 r.2:=fun F hF=>Qx hF h.ok hc
 have hh:=h
 obtain ⟨F,g1,_⟩:=hh
 obtain ⟨r,e,p1,_⟩:=key F g1
 refine ⟨r,e,p1,?_⟩
 exact h.behind (F:=F) (J':=r.2) fun F hF=>by
  obtain ⟨r',e',_,b⟩:=key F hF
  rw [e] at e';cases e';exact b
section
variable {J:AH O} {lb pb mb:Nat} {M:ah} {S:ao} {w:List Int} {L:aP} {X:List Nat} {Y:List Int} (h:bK J lb pb mb M S w L X Y) (hf:M.cT 1000)
include h hf
theorem NI {n:Int} (h1:1<=n) (h2:n<=4194304) (je:M.count<262144) (hR:S.more*6<=4194304):
  Ok (qiw [.p (some (.n lb,0)),.i .i64 n] J) fun r=>r.1=.aB [.i .i64 (((S.dq.1:Nat):Int)+1),.i .i64 0]/\L.ob S.dq.1=none/\∃ M' S' w',bK r.2 lb pb mb M' S' w' {L with H:=L.H++[S.dq.1],words:=L.words+n,ob:=fun j=>if j=S.dq.1 then some (List.replicate n.toNat 0) else L.ob j} X Y/\Alike S.dq.2 S'/\dp Y M M' 24 (n+6*((S.dq.2.room:Int) - S.room)) 1/\aw X J r.2:=by
 obtain ⟨el,hb⟩:=h.b
 simp only [aP.cells] at hb
 have hc:=hf.calm (by decide)
 have e0:((0:Int) != 0)=false:=rfl
 have h5:=h.gS
 have vi:=h.el
 have hhw:=h.hw
 have hwb:=h.wb
 have hep:=h.ep
 (unfold qiw qiv;refine cw hb ?_)
 refine Ok.step (Ev h.p.mi hc (n:=n) (by omega) h2 je) fun r ⟨g1,g2,g3⟩=>?_
 obtain ⟨q,J1⟩:=r
 simp only at g1 g2 g3
 subst g1
 have b1:dp Y M (M.iv (ff M.sp) n) 0 n 1:=h.p.mi.ok.Sx (by omega) h2 je (fun y hy=>(h.o.others y hy).1)
 have w1:∀ y v,ak M.sp y=some v->ak (M.iv (ff M.sp) n).sp y=some v/\y≠ff M.sp:=fun y v hv=>rK hv
 have CZ:ak (M.iv (ff M.sp) n).sp (ff M.sp)=some (List.replicate n.toNat 0):=ry
 generalize arR:((ff M.sp:Nat):Int)=sp at*
 generalize M.iv (ff M.sp) n=M1 at*
 have Bt:=tv g2.ok CZ
 have p1:aN J1 pb mb M1 S w (lb::X):={h.p with mi:=g2,b:=g3.head.trans h.p.b,now:=(w1 _ _ h.p.now).1}
 have cK:J1.aa lb=_:=g3.tail.head.trans hb
 have f1:M1.cT 1000:=b1.cT (hf.less (by decide))
 refine gh e0 cK ?_
 refine Ok.step (ND p1 (f1.calm (by decide)) (by omega) (by rw [h.gS];exact hR) ⟨by have:=f1.1;omega,by have:=f1.2;omega⟩) fun r ⟨g,k1,t,M2,w2,dr,dw,p2,q2,d1,d2,d3,d4,W8⟩=>?_
 obtain ⟨q,J2⟩:=r
 simp only at k1 p2 W8
 subst k1
 have hte:=p2.p.len
 generalize S.dq.1=i at*
 generalize S.dq.2=S1 at*
 have jT:S1.id=S.id:=t.id
 have yk:S1.words=5:=t.words.trans h.gS
 have Kb:S1.E[i]? = some ⟨true,g,[0,0,0,0,0]⟩:=by rw [t.now,h.gS];rfl
 have Hq:=(List.getElem?_eq_some_iff.1 Kb).1
 have NJ:L.ob i=none:=by
  cases ho:L.ob i with
  |none=>rfl
  |some ws=>
   obtain ⟨e,sq,mk,he,gj,_⟩:=h.at ho
   have:=(t.was e he).1
   rw [gj] at this;cases this
 have hiH:i∉L.H:=fun hm=>by obtain ⟨e,ws,_,_,ho⟩:=h.mem (.inl hm);rw [NJ] at ho;cases ho
 have SB:i∉L.W:=fun hm=>by obtain ⟨e,ws,_,_,ho⟩:=h.mem (.inr hm);rw [NJ] at ho;cases ho
 have Il:bz S1.E 2 3 L.H:=h.lH.other fun j hj=>t.other j fun e=>hiH (e▸hj)
 have hW1:bz S1.E 2 3 L.W:=h.lW.other fun j hj=>t.other j fun e=>SB (e▸hj)
 have fv:J2.aa lb=_:=W8.head.trans cK
 have c2:=dp.JW p1.mi.ok p2.mi.ok p1.now q2 d1 (by omega) h.Qu
 have f2:M2.cT 990:=c2.cT (f1.less (by omega))
 refine gh e0 fv ?_
 have ps:=m9 p2 (f2.calm (by decide)) (k:=0) (x:=sp) Kb rfl (by omega) (by have:=f2.1;omega)
 rw [show ((0:Nat):Int)=0 from rfl] at ps
 refine Ok.step ps fun r ⟨s1,M3,w3,p3,q3,mF⟩=>?_
 obtain ⟨q,J3⟩:=r
 simp only [List.set_cons_zero,List.set_cons_succ] at s1 p3 mF
 subst s1
 have mz:J3.aa lb=_:=mF.head.trans fv
 have c3:=dp.JW p2.mi.ok p3.mi.ok p2.now q3 (by decide) (by decide) (jT▸h.Qu)
 have f3:M3.cT 980:=c3.cT (f2.less (by decide))
 have XV:(S1.E.set i ⟨true,g,[sp,0,0,0,0]⟩)[i]? = some ⟨true,g,[sp,0,0,0,0]⟩:=by rw [List.getElem?_set];simp [Hq]
 refine cw mz ?_
 have ps:=m9 p3 (f3.calm (by decide)) (k:=1) (x:=n) XV rfl (by show 1<S1.words;omega) (by have:=f3.1;omega)
 rw [show ((1:Nat):Int)=1 from rfl] at ps
 refine Ok.step ps fun r ⟨s1,M4,w4,p4,q4,uR⟩=>?_
 obtain ⟨q,J4⟩:=r
 simp only [List.set_cons_zero,List.set_cons_succ,List.set_set] at s1 p4 uR
 subst s1
 have Et:J4.aa lb=_:=uR.head.trans mz
 have c4:=dp.JW p3.mi.ok p4.mi.ok p3.now q4 (by decide) (by decide) (jT▸h.Qu)
 have f4:M4.cT 970:=c4.cT (f3.less (by decide))
 have XW:(S1.E.set i ⟨true,g,[sp,n,0,0,0]⟩)[i]? = some ⟨true,g,[sp,n,0,0,0]⟩:=by rw [List.getElem?_set];simp [Hq]
 refine cw Et ?_
 have ps:=m9 p4 (f4.calm (by decide)) (k:=4) (x:=L.ep) XW rfl (by show 4<S1.words;omega) (by have:=f4.1;omega)
 rw [show ((4:Nat):Int)=4 from rfl] at ps
 refine Ok.step ps fun r ⟨s1,M5,w5,p5,q5,BG⟩=>?_
 obtain ⟨q,J5⟩:=r
 simp only [List.set_cons_zero,List.set_cons_succ,List.set_set] at s1 p5 BG
 subst s1
 have yP:J5.aa lb=_:=BG.head.trans Et
 have c5:=dp.JW p4.mi.ok p5.mi.ok p4.now q5 (by decide) (by decide) (jT▸h.Qu)
 have f5:M5.cT 960:=c5.cT (f4.less (by decide))
 have XX:(S1.E.set i ⟨true,g,[sp,n,0,0,L.ep]⟩)[i]? = some ⟨true,g,[sp,n,0,0,L.ep]⟩:=by rw [List.getElem?_set];simp [Hq]
 have XY:∀ j,j≠i->(S1.E.set i (⟨true,g,[sp,n,0,0,L.ep]⟩:PE))[j]? = S1.E[j]? := fun j hj=>by rw [List.getElem?_set,if_neg (fun e:i=j=>hj e.symm)]
 have hL5:bz (S1.E.set i ⟨true,g,[sp,n,0,0,L.ep]⟩) 2 3 L.H:=Il.other fun j hj=>XY j fun e=>hiH (e▸hj)
 have hW5:bz (S1.E.set i ⟨true,g,[sp,n,0,0,L.ep]⟩) 2 3 L.W:=hW1.other fun j hj=>XY j fun e=>SB (e▸hj)
 refine cw yP ?_
 refine Ok.step (qc p5 yk yP) fun r ⟨g1,g6⟩=>?_
 obtain ⟨q,J6⟩:=r
 simp only [fL] at g1 g6
 subst g1
 have ahS:lb<J5.next:=p5.mi.lt _ (by simp)
 have U4:J6.aa lb=_:=(g6.aa _ ahS).trans yP
 refine cw U4 ?_
 have tp:=rH (p5.ext g6) (nx:=2) (pv:=3) (by show 2<S1.words;omega) (by show 3<S1.words;omega) (by decide) hL5 ⟨by have:=f5.1;omega,by have:=f5.2;omega⟩ (by omega) hiH XX rfl
 simp only [fL,sw] at tp
 refine Ok.step tp fun r ⟨s1,M7,w7,E7,dw7,p7,sb7,l7,q7,z1,z2,kp7,fr7⟩=>?_
 obtain ⟨q,J7⟩:=r
 simp only at s1 p7 kp7
 subst s1
 have hb7:J7.aa lb=_:=kp7.head.trans U4
 have arW:=p7.mi.lt lb (by simp)
 have c7:=dp.JW (p5.ext g6).mi.ok p7.mi.ok (p5.ext g6).now q7 (by decide) (by omega) (jT▸h.Qu)
 refine cw hb7 ?_
 have amS:w7.length=S1.room*6:=by have:=p7.p.len;simp only at this;rw [yk] at this;exact this
 have hpx:=p7.nx
 have hv7:v5 E7=fun j=>if j=i then some (sp,((n.toNat:Nat):Int),L.ep) else v5 S.E j:=by
  rw [tq sb7]
  funext j
  rw [JX Hq]
  by_cases hj:j=i
  ·subst hj;simp only [↓reduceIte];rw [Int.toNat_of_nonneg (by omega)];rfl
  ·simp only [if_neg hj]
   unfold v5;rw [t.other j hj]
 have al:Alike S1 {S1 with E:=E7}:=(Alike.set (S:=S1) (ws:=[sp,n,0,0,L.ep]) Kb).trans (Alike.same (S:={S1 with E:=S1.E.set i ⟨true,g,[sp,n,0,0,L.ep]⟩}) sb7)
 have w71:∀ y v,y≠S.id->ak M1.sp y=some v->ak M7.sp y=some v:=fun y v hy hv=>by
  have wV:y≠S1.id:=by rw [jT];exact hy
  exact q7.qI (p5.ext g6).now y v wV (q5.qI p4.now y v wV (q4.qI p3.now y v wV (q3.qI p2.now y v wV (q2.qI p1.now y v hy hv))))
 have spn:sp≠S.id:=fun e=>(w1 _ _ h.p.now).2 e.symm
 have bt:=(((((b1.trans c2).trans c3).trans c4).trans c5).trans c7)
 refine U.2 ⟨rfl,NJ,M7,_,w7,⟨p7.bF (L:=[lb]) ⟨by simp,fun b hb hm=>by simp at hm;exact hU⟩ (fun b hb=>by simp at hb;subst hb;exact .inl (by simp)) fun b hb=>.inl hb,⟨_,aH⟩,h.nx,yk,l7,hW5.other fun j hj=>fr7 j (fun hm=>h.zH j hm hj) (fun e=>SB (e▸hj)),fun j hj XZ=>?_,fun j hj=>?_,?_,h.ep,h.last,?_⟩,al,bt.as (by omega) ?_ rfl,?_⟩
 ·rcases List.mem_append.1 hj with hj |hj
  ·exact h.zH j hj XZ
  ·simp at hj;subst hj;exact SB XZ
 ·simp only at hj
  by_cases bV:j=i
  ·exact .inl (by simp [bV])
  ·rw [if_neg bV] at hj
   rcases h.all j hj with g |g
   ·exact .inl (by simp [g])
   ·exact .inr g
 ·show fQ M7 (v5 E7) S1.id _ _ _ _
  rw [jT]
  exact h.o.add NJ hep.1 (fun j=>by rw [hv7]) (fun y v hy hv=>w71 y v hy (w1 y v hv).1) (w71 sp _ spn CZ) spn (fun hm=>by
   obtain ⟨g,_⟩:=h.o.others sp hm
   cases hv:ak M.sp sp with
   |none=>exact g hv
   |some v=>exact (w1 _ _ hv).2 rfl) (fun y v hv=>(w1 y v hv).2)
 ·have hs:=h.sum
  have e1:=xo (L:=L) (L':={L with H:=L.H++[i],words:=L.words+n,ob:=fun j=>if j=i then some (List.replicate n.toNat 0) else L.ob j}) (l:=L.H) (fun j hj=>if_neg (fun e:j=i=>hiH (e▸hj)))
  have e2:=xo (L:=L) (L':={L with H:=L.H++[i],words:=L.words+n,ob:=fun j=>if j=i then some (List.replicate n.toNat 0) else L.ob j}) (l:=L.W) (fun j hj=>if_neg (fun e:j=i=>SB (e▸hj)))
  have e3:aP.len {L with H:=L.H++[i],words:=L.words+n,ob:=fun j=>if j=i then some (List.replicate n.toNat 0) else L.ob j} i=n.toNat:=by unfold aP.len;simp
  simp only [List.map_append,List.sum_append,List.map_cons,List.map_nil,List.sum_cons,List.sum_nil] at hs ⊢
  omega
 ·have:=h.wl
  have e2:=p2.p.len
  have e3:=p3.p.len
  have e4:=p4.p.len
  have e5:=p5.p.len
  simp only at e2 e3 e4 e5
  rw [yk] at e2 e3 e4 e5
  omega
 ·exact ((((((g3.tail.tail.trans W8.tail).trans mF.tail).trans uR.tail).trans BG.tail).trans ⟨g6.next,fun b hb=>g6.aa b (p5.mi.lt b (by simp [hb]))⟩).trans kp7.tail).trans (aw.put h.nx _)
end
end Go.Abs.Tryz
namespace Go.Abs.Tryz
open Go Go.Abs
variable {O:Type}
theorem fQ.begin {M:ah} {V:Nat->Option (Int × Int × Int)} {oO:Int} {ob:Nat->Option (List Int)} {ep:Int} {H:List Nat} {Y:List Int} (h:fQ M V oO ob ep H Y):fQ M V oO ob (ep+1) [] Y:=
 ⟨h.Gj,fun i ws ho=>by
  obtain ⟨sp,mk,a1,a2,a3,a4,a5,a6,a7⟩:=h.at_ i ws ho
  exact ⟨sp,mk,a1,a2,by omega,⟨fun e=>by omega,fun hm=>by cases hm⟩,a5,a6,a7⟩,h.apart,h.others⟩
theorem fQ.mark {M:ah} {V V':Nat->Option (Int × Int × Int)} {oO:Int} {ob:Nat->Option (List Int)} {ep:Int} {H:List Nat} {Y:List Int} (h:fQ M V oO ob ep H Y) {i:Nat} {ws:List Int} (ho:ob i=some ws) {sp mk:Int} (h0:0<=ep) (hi:V i=some (sp,(ws.length:Int),mk))
  (hV:∀ j,V' j=if j=i then some (sp,(ws.length:Int),ep) else V j):fQ M V' oO ob ep (H++[i]) Y:=by
 have back:∀ (j:Nat) (x a b:Int),V' j=some (x,a,b)->∃ a' b',V j=some (x,a',b'):=fun j x a b hj=>by
  rw [hV] at hj
  split at hj
  ·rename_i e;subst e;cases hj;exact ⟨_,_,hi⟩
  ·exact ⟨_,_,hj⟩
 refine ⟨fun j hj=>?_,fun j vs hj=>?_,fun j k x a b c d hj hk=>?_,h.others⟩
 ·rw [hV,if_neg (fun e=>by subst e;rw [ho] at hj;cases hj)];exact h.Gj j hj
 ·obtain ⟨sq,mq,c1,c4,c5,c6,c7,c8,c9⟩:=h.at_ j vs hj
  by_cases bV:j=i
  ·subst bV
   rw [ho] at hj;cases hj
   rw [hi] at c1
   simp only [Option.some.injEq,Prod.mk.injEq] at c1
   obtain ⟨rfl,_,rfl⟩:=c1
   exact ⟨sp,ep,by rw [hV,if_pos rfl],h0,Int.le_refl _,by simp,c7,c8,c9⟩
  ·exact ⟨sq,mq,by rw [hV,if_neg bV];exact c1,c4,c5,by rw [c6];simp [bV],c7,c8,c9⟩
 ·obtain ⟨a',b',g1⟩:=back j x a b hj
  obtain ⟨c',d',g2⟩:=back k x c d hk
  exact h.apart _ _ _ _ _ _ _ g1 g2
theorem eE:∀ {W:List Nat} {d i:Nat},W.Nodup->W[d]? = some i->W.eraseIdx d=W.filter (fun j=>j != i)
 |[],d,i,_,h=>by simp at h
 |a::W,0,i,hn,h=>by
  simp at h;subst h
  have:=List.nodup_cons.1 hn
  simp only [List.eraseIdx_cons_zero]
  rw [List.filter_cons_of_neg (by simp)]
  exact (List.filter_eq_self.2 fun x hx=>by simp;exact fun e=>this.1 (e▸hx)).symm
 |a::W,d+1,i,hn,h=>by
  have hn:=List.nodup_cons.1 hn
  have hm:=List.mem_of_getElem? (show W[d]? = some i by simpa using h)
  rw [List.eraseIdx_cons_succ,List.filter_cons_of_pos (by simp;exact fun e=>hn.1 (e▸hm)),eE hn.2 (by simpa using h)]
theorem xp {f:Nat->Nat}:∀ {W:List Nat} {d i:Nat},W[d]? = some i->((W.eraseIdx d).map f).sum+f i=(W.map f).sum
 |[],d,i,h=>by simp at h
 |a::W,0,i,h=>by simp at h;subst h;simp;omega
 |a::W,d+1,i,h=>by
  simp only [List.eraseIdx_cons_succ,List.map_cons,List.sum_cons]
  have:=xp (f:=f) (W:=W) (d:=d) (i:=i) (by simpa using h)
  omega
theorem rL {J J1:AH O} {b:Nat} {x:eY O} (h:J.put b x=J1):J1.aa b=some x/\J1.next=J.next/\∀ q,q≠b->J1.aa q=J.aa q:=by
 subst h;exact ⟨aH,rfl,fun q hq=>aA hq⟩
theorem NK {H:List Nat} (h:0<H.length):rz H=pid H 1:=by
 cases H with
 |nil=>simp at h
 |cons a r=>rfl
section
variable {J:AH O} {lb pb mb:Nat} {M:ah} {S:ao} {w:List Int} {L:aP} {X:List Nat} {Y:List Int} (h:bK J lb pb mb M S w L X Y) (hf:M.cT 1000)
include h hf
omit hf in
theorem bK.mid {J':AH O} {M':ah} {E':List PE} {w':List Int} {dr dw:Int} (hp:aN J' pb mb M' {S with E:=E'} w' (lb::X)) (hq:fE M M' S.id w' dr dw) (h0:0<=dr) (h1:0<=dw) (hs:cE 2 3 S.E E'):dp Y M M' (dr+dw) 0 0:=by
 refine h.beh hq hp.mi.ok h0 h1 ?_
 have:=hp.p.len
 simp only at this
 rw [this,h.gS,h.wl]
theorem Gn (hep:L.ep+1<4611686018427387904):
  Ok (qnu [.p (some (.n lb,0))] J) fun r=>r.1=.aB []/\∃ M' S' w',bK r.2 lb pb mb M' S' w' {L with H:=[],W:=L.W++L.H,ep:=L.ep+1,last:=0} X Y/\Alike S S'/\dp Y M M' 2 0 0/\aw X J r.2:=by
 obtain ⟨el,hb⟩:=h.b
 simp only [aP.cells] at hb
 have vi:=h.el
 have hhw:=h.hw
 have X0:=h.ep
 (unfold qnu qnt;refine cw hb ?_)
 generalize hJ:J.put lb (.cells true el _)=J1
 obtain ⟨cK,n1,_⟩:=rL hJ
 have k1:aw X J J1:=by rw [<-hJ];exact aw.put h.nx _
 have p1:aN J1 pb mb M S w (lb::X):=by
  rw [<-hJ]
  exact h.p.bF (L:=[lb]) ⟨by simp,fun b hb hm=>by simp at hm;exact hU⟩ (fun b hb=>by simp at hb;subst hb;exact .inl (by simp)) fun b hb=>.inl hb
 clear hJ
 refine Ok.step (qc p1 h.gS cK) fun r ⟨g1,g2⟩=>?_
 obtain ⟨q,J2⟩:=r
 simp only [fL] at g1 g2
 subst g1
 have JC:=p1.mi.lt lb (by simp)
 have fv:J2.aa lb=_:=(g2.aa _ JC).trans cK
 refine cw fv ?_
 have tj:=JN (p1.ext g2) (nx:=2) (pv:=3) (by rw [h.gS];decide) (by rw [h.gS];decide) (by decide) h.lW h.lH (fun i hi hm=>h.zH i hm hi) ⟨by have:=hf.1;omega,by have:=hf.2;omega⟩ (by omega) (by omega)
 simp only [fL,sw] at tj
 refine Ok.step tj fun r ⟨s1,M3,w3,E3,dw3,p3,Qy,l3,q3,z1,z2,mF,fr3⟩=>?_
 obtain ⟨q,J3⟩:=r
 simp only at s1 p3 mF
 subst s1
 have mz:J3.aa lb=_:=mF.head.trans fv
 refine cw mz ?_
 refine U.2 ⟨rfl,M3,_,w3,⟨p3.bF (L:=[lb]) ⟨by simp,fun b hb hm=>by simp at hm;exact hU⟩ (fun b hb=>by simp at hb;subst hb;exact .inl (by simp)) fun b hb=>.inl hb,⟨_,aH⟩,h.nx,h.gS,bz.nil _ _ _,l3,fun i hi=>by simp at hi,fun j hj=>?_,?_,⟨by simp only;omega,by simp only;omega⟩,by simp only;omega,?_⟩,Alike.same Qy,(h.mid p3 q3 (by decide) z1 Qy).as (by omega) rfl rfl,?_⟩
 ·exact .inr (List.mem_append.2 ((h.all j hj).symm))
 ·show fQ M3 (v5 E3) S.id _ _ _ _
  rw [tq Qy]
  exact (h.o.begin).mem (q3.qI h.p.now)
 ·have hs:=h.sum
  show L.words=(((([]++(L.W++L.H)).map L.len).sum:Nat):Int)
  simp only [List.nil_append,List.map_append,List.sum_append] at hs ⊢
  omega
 ·exact ((k1.trans ⟨g2.next,fun b hb=>g2.aa b (p1.mi.lt b (by simp [hb]))⟩).trans mF.tail).trans (aw.put h.nx _)
theorem Gp {i:Nat} (hi:i∈L.H):
  Ok (U5 [.p (some (.n lb,0)),.i .i64 ((i:Int)+1)] J) fun r=>r.1=.aB [.b false,.i .i64 0]/\∃ M',bK r.2 lb pb mb M' S w L X Y/\dp Y M M' 2 0 0/\aw X J r.2:=by
 obtain ⟨e,ws,_,_,ho⟩:=h.mem (.inl hi)
 have g:=oQ h hf ho
 rw [decide_eq_true hi] at g
 (unfold U5 qp7;refine bZ ?_)
 refine Ok.step g fun r ⟨g1,M',g2,g3,g4⟩=>?_
 obtain ⟨q,J1⟩:=r
 simp only at g1 g2 g4
 subst g1
 refine bZ ?_
 exact U.2 ⟨rfl,M',g2,h.Gk hf g3 g2.p.mi.ok,g4.tail⟩
theorem Kc {i:Nat} {ws:List Int} (ho:L.ob i=some ws) (hi:i∉L.H):
  Ok (U5 [.p (some (.n lb,0)),.i .i64 ((i:Int)+1)] J) fun r=>r.1=.aB [.b true,.i .i64 0]/\∃ M' S' w',bK r.2 lb pb mb M' S' w' {L with H:=L.H++[i],W:=L.W.filter (fun j=>j != i)} X Y/\Alike S S'/\dp Y M M' 12 0 0/\aw X J r.2:=by
 have g:=oQ h hf ho
 rw [decide_eq_false hi] at g
 have e0:((0:Int) != 0)=false:=rfl
 have SB:i∈L.W:=(h.all i (by rw [ho];simp)).resolve_left hi
 obtain ⟨d,hd⟩:=List.getElem?_of_mem SB
 have vi:=h.el
 have hhw:=h.hw
 have X0:=h.ep
 (unfold U5 qp7;refine bZ ?_)
 refine Ok.step g fun r ⟨g1,M1,p1,q1,k1⟩=>?_
 obtain ⟨q,J1⟩:=r
 simp only at g1 p1 k1
 subst g1
 have c1:=h.Gk hf q1 p1.p.mi.ok
 have f1:M1.cT 998:=c1.cT (hf.less (by decide))
 obtain ⟨el,cK⟩:=p1.b
 simp only [aP.cells] at cK
 refine gh e0 cK ?_
 refine Ok.step (qc p1.p h.gS cK) fun r ⟨g1,g2⟩=>?_
 obtain ⟨q,J2⟩:=r
 simp only [fL] at g1 g2
 subst g1
 have fv:J2.aa lb=_:=(g2.aa _ p1.lt).trans cK
 refine cw fv ?_
 have td:=Gg (p1.p.ext g2) (nx:=2) (pv:=3) (by rw [h.gS];decide) (by rw [h.gS];decide) (by decide) h.lW ⟨by have:=f1.1;omega,by have:=f1.2;omega⟩ (by omega) hd
 simp only [fL,sw] at td
 refine Ok.step td fun r ⟨s1,M3,w3,E3,dw3,p3,Qy,l3,q3,z1,z2,mF,fr3⟩=>?_
 obtain ⟨q,J3⟩:=r
 simp only at s1 p3 mF
 subst s1
 have mz:J3.aa lb=_:=mF.head.trans fv
 have c3:=p1.mid p3 q3 (by decide) z1 Qy
 have f3:M3.cT 990:=c3.cT (f1.less (by omega))
 refine cw mz ?_
 generalize hJ:J3.put lb (.cells true el _)=J4
 obtain ⟨Et,_,_⟩:=rL hJ
 have k4:aw X J3 J4:=by rw [<-hJ];exact aw.put h.nx _
 have p4:aN J4 pb mb M3 {S with E:=E3} w3 (lb::X):=by
  rw [<-hJ]
  exact p3.bF (L:=[lb]) ⟨by simp,fun b hb hm=>by simp at hm;exact hU⟩ (fun b hb=>by simp at hb;subst hb;exact .inl (by simp)) fun b hb=>.inl hb
 clear hJ
 refine Ok.step (qc p4 h.gS Et) fun r ⟨g1,g5⟩=>?_
 obtain ⟨q,J5⟩:=r
 simp only [fL] at g1 g5
 subst g1
 have Si:=p4.mi.lt lb (by simp)
 have yP:J5.aa lb=_:=(g5.aa _ Si).trans Et
 refine cw yP ?_
 obtain ⟨e,sp,mk,he,gj,a1,a2,a3,a4,a5,a6,a7,a8,a9⟩:=h.at ho
 obtain ⟨e3,Sn,ht3,hg3,hk3⟩:=Qy.at_ i e he
 have lH3:bz E3 2 3 L.H:=h.lH.other fun j hj=>fr3 j fun hm=>h.zH j hj hm
 have hWd:∀ j∈L.W.eraseIdx d,j∈L.W/\j≠i:=fun j hj=>by
  rw [eE h.lW.nd hd] at hj
  obtain ⟨g1,g2⟩:=List.mem_filter.1 hj
  exact ⟨g1,by simpa using g2⟩
 have tp:=rH (p4.ext g5) (nx:=2) (pv:=3) (by show 2<S.words;rw [h.gS];decide) (by show 3<S.words;rw [h.gS];decide) (by decide) lH3 ⟨by have:=f3.1;omega,by have:=f3.2;omega⟩ (by omega) hi Sn (ht3.trans gj)
 simp only [fL,sw] at tp
 refine Ok.step tp fun r ⟨s1,M6,w6,E6,dw6,p6,XJ,l6,q6,y1,y2,HA,fr6⟩=>?_
 obtain ⟨q,J6⟩:=r
 simp only at s1 p6 HA
 subst s1
 have U4:J6.aa lb=_:=HA.head.trans yP
 have c6:dp Y M3 M6 (0+dw6) 0 0:=by
  have:=dp.JW p4.mi.ok p6.mi.ok p4.now q6 (by decide) (by omega) h.Qu
  have l1:=p4.p.len
  have l2:=p6.p.len
  simp only at l1 l2
  rw [l1,l2,Int.sub_self] at this
  exact this
 have f6:M6.cT 980:=c6.cT (f3.less (by omega))
 refine cw U4 ?_
 generalize hJ:J6.put lb (.cells true el _)=J7
 obtain ⟨hb7,_,_⟩:=rL hJ
 have k7:aw X J6 J7:=by rw [<-hJ];exact aw.put h.nx _
 have p7:aN J7 pb mb M6 {S with E:=E6} w6 (lb::X):=by
  rw [<-hJ]
  exact p6.bF (L:=[lb]) ⟨by simp,fun b hb hm=>by simp at hm;exact hU⟩ (fun b hb=>by simp at hb;subst hb;exact .inl (by simp)) fun b hb=>.inl hb
 clear hJ
 obtain ⟨e6,U6,ht6,hg6,hk6⟩:=XJ.at_ i e3 Sn
 have hi6:=(List.getElem?_eq_some_iff.1 U6).1
 have ps:=m9 p7 (f6.calm (by decide)) (k:=4) (x:=L.ep) U6 (ht6.trans (ht3.trans gj)) (by show 4<S.words;rw [h.gS];decide) (by have:=f6.1;omega)
 rw [show ((4:Nat):Int)=4 from rfl] at ps
 refine Ok.step ps fun r ⟨s1,M8,w8,p8,q8,kp8⟩=>?_
 obtain ⟨q,J8⟩:=r
 simp only at s1 p8 kp8
 subst s1
 have hb8:J8.aa lb=_:=kp8.head.trans hb7
 have c8:dp Y M6 M8 2 0 0:=by
  have:=dp.JW p7.mi.ok p8.mi.ok p7.now q8 (by decide) (by decide) h.Qu
  have l1:=p7.p.len
  have l2:=p8.p.len
  simp only at l1 l2
  rw [l1,l2,Int.sub_self] at this
  exact this.as (by decide) rfl rfl
 refine bZ ?_
 have hv8:v5 (E6.set i {e6 with ws:=e6.ws.set 4 L.ep})=fun j=>if j=i then some (sp,(ws.length:Int),L.ep) else v5 S.E j:=by
  rw [JX hi6]
  funext j
  by_cases hj:j=i
  ·subst hj
   rw [if_pos rfl,if_pos rfl]
   have l6':e6.ws.length=5:=by have:=p6.p.wl e6 (List.mem_of_getElem? U6);simp only at this;rw [this];exact h.gS
   refine Ez (e:={e6 with ws:=e6.ws.set 4 L.ep}) rfl (ht6.trans (ht3.trans gj)) ?_ ?_ ?_
   ·simp only;rw [List.getElem?_set,if_neg (by decide),hk6 0 (by decide) (by decide),hk3 0 (by decide) (by decide)];exact a1
   ·simp only;rw [List.getElem?_set,if_neg (by decide),hk6 1 (by decide) (by decide),hk3 1 (by decide) (by decide)];exact a2
   ·simp only;rw [List.getElem?_set,if_pos rfl,if_pos (by omega)]
  ·rw [if_neg hj,if_neg hj,tq XJ,tq Qy]
 have lW6:bz E6 2 3 (L.W.eraseIdx d):=l3.other fun j hj=>fr6 j (fun hm=>h.zH j hm (hWd j hj).1) (hWd j hj).2
 have ahY:∀ y v,y≠S.id->ak M.sp y=some v->ak M8.sp y=some v:=fun y v hy hv=>
  q8.qI p7.now y v hy (q6.qI p4.now y v hy (q3.qI p1.p.now y v hy (q1.qI h.p.now y v hy hv)))
 refine U.2 ⟨rfl,M8,_,w8,⟨p8,⟨_,hb8.trans (by rw [<-eE h.lW.nd hd];rfl)⟩,h.nx,h.gS,l6.words U6 (by decide) (by decide),?_,fun j hj XZ=>?_,fun j hj=>?_,?_,h.ep,h.last,?_⟩,((Alike.same Qy).trans (Alike.same (S:={S with E:=E3}) XJ)).trans (Alike.set (S:={S with E:=E6}) U6),(((c1.trans c3).trans c6).trans c8).as (by omega) rfl rfl,?_⟩
 ·simp only
  rw [<-eE h.lW.nd hd]
  exact lW6.words U6 (by decide) (by decide)
 ·simp only at hj XZ
  obtain ⟨g1,g2⟩:=List.mem_filter.1 XZ
  rcases List.mem_append.1 hj with hj |hj
  ·exact h.zH j hj g1
  ·simp at hj;subst hj;simp at g2
 ·simp only at hj ⊢
  rcases h.all j hj with g |g
  ·exact .inl (by simp [g])
  ·by_cases bV:j=i
   ·exact .inl (by simp [bV])
   ·exact .inr (List.mem_filter.2 ⟨g,by simpa using bV⟩)
 ·show fQ M8 (v5 (E6.set i {e6 with ws:=e6.ws.set 4 L.ep})) S.id _ _ _ _
  exact (h.o.mark ho X0.1 (Ez he gj a1 a2 a3) fun j=>by rw [hv8]).mem ahY
 ·have hs:=h.sum
  show L.words=(((((L.H++[i])++L.W.filter (fun j=>j != i)).map L.len).sum:Nat):Int)
  have vn:((L.W.filter fun j=>j != i).map L.len).sum+L.len i=(L.W.map L.len).sum:=by
   rw [<-eE h.lW.nd hd];exact xp hd
  simp only [List.map_append,List.sum_append,List.map_cons,List.map_nil,List.sum_cons,List.sum_nil] at hs ⊢
  omega
 ·exact (((((((k1.tail.trans ⟨g2.next,fun b hb=>g2.aa b (p1.p.mi.lt b (by simp [hb]))⟩).trans mF.tail).trans k4).trans ⟨g5.next,fun b hb=>g5.aa b (p4.mi.lt b (by simp [hb]))⟩).trans HA.tail).trans k7).trans kp8.tail)
theorem Kd {t:Nat} (ht:t<L.H.length) (hl:L.last=(pid L.H t:Int)):
  Ok (Qz [.p (some (.n lb,0))] J) fun r=>r.1=.aB [.i .i64 (pid L.H (t+1):Int),.b true]/\∃ M',bK r.2 lb pb mb M' S w {L with last:=(pid L.H (t+1):Int)} X Y/\dp Y M M' 1 0 0/\aw X J r.2:=by
 obtain ⟨el,hb⟩:=h.b
 simp only [aP.cells] at hb
 have hi:=List.getElem?_eq_getElem ht
 have wv:pid L.H (t+1)=L.H[t]+1:=ji hi
 have db:((pid L.H (t+1):Int) == 0)=false:=beq_eq_false_iff_ne.2 (by omega)
 obtain ⟨s1,s2,s3⟩:=h.lH.small (B:=699050) h.el
 cases t with
 |zero=>
  have e0:((L.last:Int) == 0)=true:=by rw [hl];rfl
  have eh:(rz L.H:Int)=(pid L.H (0+1):Int):=by rw [NK ht]
  (unfold Qz U7;refine gh hb e0 ?_)
  rw [eh]
  refine gh db hb ?_
  refine U.2 ⟨rfl,M,{h with p:=h.p.bF (L:=[lb]) ⟨by simp,fun b hb hm=>by simp at hm;exact hU⟩ (fun b hb=>by simp at hb;subst hb;exact .inl (by simp)) (fun b hb=>.inl hb),b:=⟨_,aH.trans (by rw [aP.cells,eh])⟩,last:=⟨by simp only;omega,by have:=(s3 1).2;simp only;omega⟩},(dp.refl Y M).as (by decide) rfl rfl,aw.put h.nx _⟩
 |succ t=>
  have SC:=List.getElem?_eq_getElem (show t<L.H.length by omega)
  have e0:((L.last:Int) == 0)=false:=beq_eq_false_iff_ne.2 (by rw [hl,ji SC];omega)
  have Cm:L.last=(L.H[t]:Int)+1:=by rw [hl,ji SC];simp
  obtain ⟨e,he,JE⟩:=h.lH.at_ t _ SC
  have hn:nid L.H t=L.H[t+1]+1:=pZ hi
  have We:=(s3 t).1
  (unfold Qz U7;refine gh hb e0 ?_)
  refine Ok.step (xn h) fun r ⟨g1,g2⟩=>?_
  obtain ⟨q,J1⟩:=r
  simp only [fL] at g1 g2
  subst g1
  have cK:J1.aa lb=_:=(g2.aa _ h.lt).trans hb
  refine cw cK ?_
  have ta:=rI (h.p.ext g2) (nx:=2) (pv:=3) (by rw [h.gS];decide) (by rw [h.gS];decide) (by decide) (hf.calm (by decide)) he JE.n (by omega)
  simp only [fL] at ta
  rw [<-Cm] at ta
  refine Ok.step ta fun r ⟨k1,M2,p2,q2,k2⟩=>?_
  obtain ⟨q,J2⟩:=r
  simp only at k1 p2 k2
  subst k1
  have fv:J2.aa lb=_:=k2.head.trans cK
  have en:(nid L.H t:Int)=(pid L.H (t+1+1):Int):=by rw [hn,wv]
  rw [en]
  refine gh db fv ?_
  have r2:=h.read p2 ⟨by have:=g2.next;have:=k2.next;omega,fun b hb=>(k2.aa b hb).trans (g2.aa b (h.p.mi.lt b (List.mem_cons_of_mem _ hb)))⟩ q2
  refine U.2 ⟨rfl,M2,{r2 with p:=p2.bF (L:=[lb]) ⟨by simp,fun b hb hm=>by simp at hm;exact hU⟩ (fun b hb=>by simp at hb;subst hb;exact .inl (by simp)) (fun b hb=>.inl hb),b:=⟨_,aH⟩,last:=⟨by simp only;omega,by have:=(s3 (t+1+1)).2;simp only;omega⟩},(h.beh q2 p2.mi.ok (by decide) (by decide) rfl).as (by decide) rfl rfl,(aw.trans ⟨g2.next,fun b hb=>g2.aa b (h.lX b hb)⟩ k2.tail).trans (aw.put h.nx _)⟩
theorem Ke (hl:L.last=(pid L.H L.H.length:Int)):
  Ok (Qz [.p (some (.n lb,0))] J) fun r=>r.1=.aB [.i .i64 0,.b false]/\∃ M',bK r.2 lb pb mb M' S w L X Y/\dp Y M M' 1 0 0/\aw X J r.2:=by
 obtain ⟨el,hb⟩:=h.b
 simp only [aP.cells] at hb
 have z0:((0:Int) == 0)=true:=rfl
 rcases Nat.eq_zero_or_pos L.H.length with hz |hz
 ·have hH:=List.eq_nil_of_length_eq_zero hz
  have e0:((L.last:Int) == 0)=true:=by rw [hl,hH];rfl
  have eh:(rz L.H:Int)=0:=by rw [hH];rfl
  (unfold Qz U7;refine gh hb e0 ?_)
  exact U.2 ⟨rfl,M,h,(dp.refl Y M).as (by decide) rfl rfl,aw.refl _ _⟩
 ·obtain ⟨t,Nl⟩:∃ t,L.H.length=t+1:=⟨L.H.length - 1,by omega⟩
  have SC:=List.getElem?_eq_getElem (show t<L.H.length by omega)
  rw [Nl] at hl
  have e0:((L.last:Int) == 0)=false:=beq_eq_false_iff_ne.2 (by rw [hl,ji SC];omega)
  have Cm:L.last=(L.H[t]:Int)+1:=by rw [hl,ji SC];simp
  obtain ⟨e,he,JE⟩:=h.lH.at_ t _ SC
  have hn:nid L.H t=0:=uQ (by omega)
  have hln:=JE.n
  rw [hn] at hln
  (unfold Qz U7;refine gh hb e0 ?_)
  refine Ok.step (xn h) fun r ⟨g1,g2⟩=>?_
  obtain ⟨q,J1⟩:=r
  simp only [fL] at g1 g2
  subst g1
  have cK:J1.aa lb=_:=(g2.aa _ h.lt).trans hb
  refine cw cK ?_
  have ta:=rI (h.p.ext g2) (nx:=2) (pv:=3) (by rw [h.gS];decide) (by rw [h.gS];decide) (by decide) (hf.calm (by decide)) he hln (by omega)
  simp only [fL] at ta
  rw [<-Cm,show ((0:Nat):Int)=0 from rfl] at ta
  refine Ok.step ta fun r ⟨k1,M2,p2,q2,k2⟩=>?_
  obtain ⟨q,J2⟩:=r
  simp only at k1 p2 k2
  subst k1
  refine cw z0 ?_
  have r2:=h.read p2 ⟨by have:=g2.next;have:=k2.next;omega,fun b hb=>(k2.aa b hb).trans (g2.aa b (h.p.mi.lt b (List.mem_cons_of_mem _ hb)))⟩ q2
  exact U.2 ⟨rfl,M2,r2,(h.beh q2 p2.mi.ok (by decide) (by decide) rfl).as (by decide) rfl rfl,aw.trans ⟨g2.next,fun b hb=>g2.aa b (h.lX b hb)⟩ k2.tail⟩
end
end Go.Abs.Tryz
namespace Go.Abs.Tryz
open Go Go.Abs
variable {O:Type}
theorem fQ.gone {M M':ah} {V V':Nat->Option (Int × Int × Int)} {oO:Int} {ob ob':Nat->Option (List Int)} {ep:Int} {H:List Nat} {Y:List Int} (h:fQ M V oO ob ep H Y) {i:Nat} {ws:List Int} (ho:ob i=some ws) {sp:Int} {n mk:Int} (hi:V i=some (sp,n,mk))
  (hV:∀ j,V' j=if j=i then none else V j) (Qq:∀ j,ob' j=if j=i then none else ob j) (hw:∀ y v,y≠oO->y≠sp->ak M.sp y=some v->ak M'.sp y=some v):fQ M' V' oO ob' ep H Y:=by
 have hsY:sp∉Y:=by
  obtain ⟨sq,mq,c1,_,_,_,_,_,c9⟩:=h.at_ i ws ho
  rw [hi] at c1;cases c1;exact c9
 refine ⟨fun j hj=>?_,fun j vs hj=>?_,fun j k x a b c d hj hk=>?_,fun y hy=>⟨?_,(h.others y hy).2⟩⟩
 ·rw [hV];rw [Qq] at hj
  by_cases bV:j=i
  ·rw [if_pos bV]
  ·rw [if_neg bV] at hj ⊢;exact h.Gj j hj
 ·rw [Qq] at hj
  by_cases bV:j=i
  ·rw [if_pos bV] at hj;cases hj
  ·rw [if_neg bV] at hj
   obtain ⟨sq,mq,c1,c4,c5,c6,c7,c8,c9⟩:=h.at_ j vs hj
   refine ⟨sq,mq,by rw [hV,if_neg bV];exact c1,c4,c5,c6,hw _ _ c8 (fun e=>bV ?_) c7,c8,c9⟩
   subst e
   exact h.apart _ _ _ _ _ _ _ c1 hi
 ·rw [hV] at hj hk
  split at hj
  ·cases hj
  ·split at hk
   ·cases hk
   ·exact h.apart _ _ _ _ _ _ _ hj hk
 ·obtain ⟨g1,g2⟩:=h.others y hy
  cases hv:ak M.sp y with
  |none=>exact absurd hv g1
  |some v=>rw [hw y v g2 (fun e=>hsY (e▸hy)) hv];simp
section
variable {J:AH O} {lb pb mb:Nat} {M:ah} {S:ao} {w:List Int} {L:aP} {X:List Nat} {Y:List Int} (h:bK J lb pb mb M S w L X Y) (hf:M.cT 20000000)
include h hf
end
end Go.Abs.Tryz
