/-
  Layers above the pool: what a call costs and leaves alone; pools alike; large objects: their state. No conditions.
-/
import Derived.Test.YtncohicmiihjiaaGreatM10
set_option linter.unusedVariables false
set_option linter.unusedSimpArgs false
set_option linter.constructorNameAsVariable false
set_option linter.unusedSimpArgs false
set_option linter.unusedVariables false
set_option linter.unusedSectionVars false
set_option maxHeartbeats 1000000
namespace Go.Abs.Tryz
open Go Go.Abs
variable {O:Type}
theorem Ks:∀ (n:Nat) (l:List Nat),l.Nodup->(∀ x∈l,x<n)->l.length<=n:=by
 intro n
 induction n with
 |zero=>intro l _ hx;cases l with |nil=>simp |cons a l=>exact absurd (hx a List.mem_cons_self) (by omega)
 |succ n ih=>
  intro l hn hx
  by_cases hm:n∈l
  ·have h1:=ih (l.erase n) (hn.erase n) fun x Q8=>by
    have:=hx x (List.mem_of_mem_erase Q8)
    have cJ:x≠n:=fun e=>by subst e;exact (List.Nodup.not_mem_erase hn) Q8
    omega
   rw [List.length_erase_of_mem hm] at h1;omega
  ·have:=ih l hn fun x Q8=>by
    have:=hx x Q8
    have cJ:x≠n:=fun e=>hm (e▸Q8)
    omega
   omega
structure cz (Y:List Int) (M M':ae) (k dh dc:Int):Prop where
 r:M.met.r<=M'.met.r
 w:M.met.w<=M'.met.w
 k:M'.met.r+M'.met.w<=M.met.r+M.met.w+k
 held:M'.met.held=M.met.held+dh
 count:M'.count=M.count+dc
 dV:∀ y∈Y,aj M'.sp y=aj M.sp y
theorem cz.refl (Y:List Int) (M:ae):cz Y M M 0 0 0:=⟨by omega,by omega,by omega,by omega,by omega,fun _ _=>rfl⟩
theorem cz.trans {Y:List Int} {M M' Rb:ae} {k a c k' a' c':Int} (h:cz Y M M' k a c) (g:cz Y M' Rb k' a' c'):cz Y M Rb (k+k') (a+a') (c+c'):=
 ⟨by have:=h.r;have:=g.r;omega,by have:=h.w;have:=g.w;omega,by have:=h.k;have:=g.k;omega,by have:=h.held;have:=g.held;omega,by have:=h.count;have:=g.count;omega,fun y hy=>(g.dV y hy).trans (h.dV y hy)⟩
theorem cz.as {Y:List Int} {M M':ae} {k a c k' a' c':Int} (h:cz Y M M' k a c) (h1:k<=k') (h2:a=a') (h3:c=c'):cz Y M M' k' a' c':=by
 subst h2;subst h3;exact ⟨h.r,h.w,by have:=h.k;omega,h.held,h.count,h.dV⟩
theorem cz.mono {Y Z:List Int} {M M':ae} {k a c:Int} (h:cz Y M M' k a c) (hs:∀ y∈Z,y∈Y):cz Z M M' k a c:=⟨h.r,h.w,h.k,h.held,h.count,fun y hy=>h.dV y (hs y hy)⟩
theorem cz.HO {Y:List Int} {M M':ae} {id:Int} {w w':List Int} {dr dw:Int} (jr:M.ok) (YW:M'.ok) (hw:aj M.sp id=some w) (h:iu M M' id w' dr dw) (h0:0<=dr) (h1:0<=dw) (hY:id∉Y):cz Y M M' (dr+dw) ((w'.length:Int) - w.length) 0:=by
 obtain ⟨i0,hi⟩:=aI hw
 have hs:(M.sp.map fun s=>s.2.length)[id.toNat]? = some w.length:=by rw [List.getElem?_map,hi];rfl
 have e1:=pQ (x:=w'.length) hs
 have e2:=iJ (p:=fun s:Bool × List Int=>s.1) (x:=(true,w')) hi
 have e3:=jr.held
 have e4:=YW.held
 have e5:=jr.count
 have e6:=YW.count
 rw [h.sp] at e4 e6
 rw [List.map_set] at e4
 simp only at e4
 simp only [if_true] at e2
 have hr:=h.r
 have HD:=h.w
 refine ⟨by omega,by omega,by omega,?_,?_,fun y hy=>h.other i0 fun e=>hY (e▸hy)⟩
 ·rw [e4,e3];omega
 ·rw [e5,e6];omega
theorem ae.ok.TH {M:ae} (jr:M.ok) {n:Int} (h1:0<=n) (h2:n<=4194304) (h3:M.count<262144) {Y:List Int} (hY:∀ y∈Y,aj M.sp y≠none):cz Y M (M.lI (ff M.sp) n) 0 n 1:=by
 refine ⟨by simp [ae.lI,dZ.hold],by simp [ae.lI,dZ.hold],by simp [ae.lI,dZ.hold],by simp [ae.lI,dZ.hold],by simp [ae.lI],fun y hy=>?_⟩
 cases hw:aj M.sp y with
 |none=>exact absurd hw (hY y hy)
 |some w=>exact (rp hw).1
theorem qZ {M:ae} {id y:Int} {w:List Int} (h0:0<=id) (cJ:y≠id):aj (M.close id.toNat w).sp y=aj M.sp y:=cg cJ h0
theorem JE {J:AH O} {mb:Nat} {M:ae} {X:List Nat} (h:bC J mb M X) (hc:M.calm) {id:Int} {w:List Int} (hw:aj M.sp id=some w) (oN:id<=9223372036854775807):
  Ok (Kt [.p (some (.n mb,0)),.i .i64 id] J) fun r=>r.1=.i .i64 0/\bC r.2 mb (M.close id.toNat w) X/\ay X J r.2:=by
 have hR:M.u5 id=(M.close id.toNat w,0):=by unfold ae.u5;rw [hw]
 have key:∀ F,bz J mb F M->Ok (Kt [.p (some (.n mb,0)),.i .i64 id] J) fun r=>r.1=.i .i64 0/\dT J mb F (M.close id.toNat w) r.2:=fun F hF=>by
  have:=TI (id:=id) hF h.ok hc oN
  rw [hR] at this;exact this
 have hh:=h
 obtain ⟨F,g1,_⟩:=hh
 obtain ⟨r,e,p1,_⟩:=key F g1
 refine ⟨r,e,p1,?_⟩
 exact h.behind (F:=F) (J':=r.2) fun F hF=>by
  obtain ⟨r',e',_,b⟩:=key F hF
  rw [e] at e';cases e';exact b
theorem cz.close {Y:List Int} {M:ae} {id:Int} {w:List Int} (h0:0<=id) (hY:id∉Y):cz Y M (M.close id.toNat w) 0 (-(w.length:Int)) (-1):=
 ⟨by simp [ae.close,dZ.free],by simp [ae.close,dZ.free],by simp [ae.close,dZ.free],by simp only [ae.close,dZ.free];omega,by simp only [ae.close];omega,fun y hy=>qZ h0 fun e=>hY (e▸hy)⟩
structure Alike (S S':ao):Prop where
 id:S'.id=S.id
 words:S'.words=S.words
 room:S'.room=S.room
 free:S'.free=S.free
 taken:S'.taken=S.taken
 len:S'.E.length=S.E.length
 at_:∀ (i:Nat) (e:PE),S.E[i]? = some e->∃ e',S'.E[i]? = some e'/\e'.tk=e.tk/\e'.gen=e.gen
theorem Alike.refl (S:ao):Alike S S:=⟨rfl,rfl,rfl,rfl,rfl,rfl,fun i e h=>⟨e,h,rfl,rfl⟩⟩
theorem Alike.trans {S S' S'':ao} (h:Alike S S') (g:Alike S' S''):Alike S S'':=
 ⟨g.id.trans h.id,g.words.trans h.words,g.room.trans h.room,g.free.trans h.free,g.taken.trans h.taken,g.len.trans h.len,fun i e he=>by
  obtain ⟨e1,a1,a2,a3⟩:=h.at_ i e he
  obtain ⟨e2,b1,b2,b3⟩:=g.at_ i e1 a1
  exact ⟨e2,b1,b2.trans a2,b3.trans a3⟩⟩
theorem Alike.back {S S':ao} (h:Alike S S') {i:Nat} {e':PE} (he:S'.E[i]? = some e'):∃ e,S.E[i]? = some e/\e'.tk=e.tk/\e'.gen=e.gen:=by
 have hi:=(List.getElem?_eq_some_iff.1 he).1
 rw [h.len] at hi
 obtain ⟨e2,a1,a2,a3⟩:=h.at_ i _ (List.getElem?_eq_getElem hi)
 rw [he] at a1;cases a1
 exact ⟨_,List.getElem?_eq_getElem hi,a2,a3⟩
theorem Alike.same {S:ao} {E':List PE} {nx pv:Nat} (h:cS nx pv S.E E'):Alike S {S with E:=E'}:=
 ⟨rfl,rfl,rfl,rfl,rfl,h.len,fun i e he=>by obtain ⟨y,a,b,c,_⟩:=h.at_ i e he;exact ⟨y,a,b,c⟩⟩
theorem Alike.set {S:ao} {i:Nat} {e:PE} {ws:List Int} (he:S.E[i]? = some e):Alike S {S with E:=S.E.set i {e with ws:=ws}}:=
 ⟨rfl,rfl,rfl,rfl,rfl,by simp,fun j x hx=>by
  show ∃ e',(S.E.set i _)[j]? = some e'/\_
  rw [List.getElem?_set]
  by_cases hj:i=j
  ·subst hj
   rw [he] at hx;cases hx
   simp [(List.getElem?_eq_some_iff.1 he).1]
  ·rw [if_neg hj];exact ⟨x,hx,rfl,rfl⟩⟩
def ao.cX (S:ao):Nat × ao:=
 match S.free with
 |[]=>(S.E.length,{S with room:=S.more,E:=S.E++[PE.fresh S.words],taken:=S.taken+1})
 |f::r=>(f - 1,{S with E:=S.E.set (f - 1) ⟨true,((S.E[f - 1]?).map PE.gen).getD 0,List.replicate S.words 0⟩,free:=r,taken:=S.taken+1})
theorem Oo {J:AH O} {pb mb:Nat} {M:ae} {S:ao} {w:List Int} {X:List Nat} (h:aT J pb mb M S w X) (hc:M.calm) (hE:S.E.length<1048576) (hR:S.more*(S.words+1)<=4194304) (hm:M.met.r+100<85070591730234615865843651857942052864/\M.met.w+100<85070591730234615865843651857942052864):
  Ok (Tq [.p (some (.n pb,0))] J) fun q=>∃ g,q.1=.aG [.i .i64 (((S.cX.1:Nat):Int)+1),.i .i64 0]/\ahX S S.cX.2 S.cX.1 g/\∃ M' w' dr dw,aT q.2 pb mb M' S.cX.2 w' X/\iu M M' S.id w' dr dw/\0<=dr/\dr<=2/\1<=dw/\dr+dw<=3+S.words/\ay X J q.2:=by
 cases hf:S.free with
 |nil=>
  have e0:S.cX=(S.E.length,{S with room:=S.more,E:=S.E++[PE.fresh S.words],taken:=S.taken+1}):=by unfold ao.cX;rw [hf]
  rw [e0]
  refine (Gw h hc hf hE hR hm.2).mono fun q ⟨g1,M',w',g2,g3,g4⟩=>⟨0,g1,⟨rfl,rfl,?_,fun j hj=>?_,fun e he=>?_,fun _=>rfl,?_,rfl,.inr rfl,fun j r e=>(by rw [hf] at e;cases e),.inl ⟨hf,rfl,hf,rfl,by simp⟩⟩,M',w',0,1,g2,g3,by omega,by omega,by omega,by omega,g4⟩
  ·show (S.E++[PE.fresh S.words])[S.E.length]? = _
   simp [PE.fresh]
  ·show (S.E++[PE.fresh S.words])[j]? = _
   rcases Nat.lt_or_ge j S.E.length with g |g
   ·rw [List.getElem?_append_left g]
   ·rw [List.getElem?_eq_none (by simp;omega),List.getElem?_eq_none (by omega)]
  ·have:=(List.getElem?_eq_some_iff.1 he).1;simp only at this;omega
  ·simp
 |cons j r=>
  have BU:=h.p.ch
  rw [hf] at BU
  obtain ⟨⟨e,h1,_⟩,_⟩:=BU
  obtain ⟨i,rfl⟩:∃ i,j=i+1:=⟨j - 1,by omega⟩
  obtain ⟨e,he,je,g⟩:=Gy h hc hf hm
  have hi:=(List.getElem?_eq_some_iff.1 he).1
  have e0:S.cX=(i,{S with E:=S.E.set i ⟨true,e.gen,List.replicate S.words 0⟩,free:=r,taken:=S.taken+1}):=by unfold ao.cX;rw [hf];simp [he]
  rw [e0]
  refine g.mono fun q ⟨g1,M',w',g2,g3,g4⟩=>⟨e.gen,g1,⟨rfl,rfl,?_,fun j hj=>?_,fun e' oM=>?_,fun hn=>?_,?_,rfl,.inl rfl,fun j' r' e=>(by rw [hf] at e;cases e;rfl),.inr ⟨hf,rfl,by simp⟩⟩,M',w',2,1+S.words,g2,g3,by omega,by omega,by omega,by omega,g4⟩
  ·show (S.E.set i _)[i]? = _
   rw [List.getElem?_set];simp [hi]
  ·show (S.E.set i _)[j]? = _
   rw [List.getElem?_set,if_neg (fun e=>hj e.symm)]
  ·rw [he] at oM;cases oM;exact ⟨je,rfl⟩
  ·rw [he] at hn;cases hn
  ·simp
theorem Alike.more {S S':ao} (h:Alike S S'):S'.more=S.more:=by unfold ao.more;rw [h.len,h.room]
theorem Alike.cX {S S':ao} (h:Alike S S'):S'.cX.1=S.cX.1/\Alike S.cX.2 S'.cX.2:=by
 unfold ao.cX
 rw [h.free]
 cases hf:S.free with
 |nil=>
  refine ⟨h.len,⟨h.id,h.words,h.more,rfl,by simp [h.taken],by simp [h.len],fun i e he=>?_⟩⟩
  show ∃ e',(S'.E++[PE.fresh S'.words])[i]? = some e'/\_
  have he:(S.E++[PE.fresh S.words])[i]? = some e:=he
  rcases Nat.lt_or_ge i S.E.length with g |g
  ·rw [List.getElem?_append_left g] at he
   rw [List.getElem?_append_left (by rw [h.len];exact g)]
   exact h.at_ i e he
  ·rw [List.getElem?_append_right g] at he
   rw [List.getElem?_append_right (by rw [h.len];exact g),h.len]
   cases hk:i - S.E.length with
   |zero=>rw [hk] at he;simp at he;subst he;exact ⟨_,rfl,rfl,rfl⟩
   |succ k=>rw [hk] at he;simp at he
 |cons f r=>
  refine ⟨rfl,⟨h.id,h.words,h.room,rfl,by simp [h.taken],by simp [h.len],fun i e he=>?_⟩⟩
  show ∃ e',(S'.E.set (f - 1) _)[i]? = some e'/\_
  have he:(S.E.set (f - 1) ⟨true,((S.E[f - 1]?).map PE.gen).getD 0,List.replicate S.words 0⟩)[i]? = some e:=he
  rw [List.getElem?_set] at he ⊢
  by_cases hj:f - 1=i
  ·subst hj
   rw [if_pos rfl] at he ⊢
   by_cases hl:f - 1<S.E.length
   ·rw [if_pos hl] at he
    rw [if_pos (by rw [h.len];exact hl)]
    cases he
    obtain ⟨e',a,b,c⟩:=h.at_ _ _ (List.getElem?_eq_getElem hl)
    exact ⟨_,rfl,rfl,by simp only;rw [a,List.getElem?_eq_getElem hl];simp [c]⟩
   ·rw [if_neg hl] at he;cases he
  ·rw [if_neg hj] at he ⊢
   exact h.at_ i e he
structure aP where
 H:List Nat
 W:List Nat
 ep:Int
 last:Int
 words:Int
 ob:Nat->Option (List Int)
def aP.cells (L:aP) (pb mb:Nat):List AV:=
 [.p (some (.n mb,0)),.p (some (.n pb,0)),.i .i64 (uW L.H:Int),.i .i64 (lJ L.H:Int),.i .i64 (L.H.length:Int),.i .i64 (uW L.W:Int),.i .i64 (lJ L.W:Int),.i .i64 (L.W.length:Int),.i .u64 L.ep,.i .i64 L.last,.i .i64 L.words]
def aP.len (L:aP) (i:Nat):Nat:=((L.ob i).getD []).length
def v5 (E:List PE) (j:Nat):Option (Int × Int × Int):=(E[j]?).bind fun e=>if e.tk=true then (e.ws[0]?).bind fun a=>(e.ws[1]?).bind fun b=>(e.ws[4]?).bind fun c=>some (a,b,c) else none
theorem Oq {E:List PE} {j:Nat} {a b c:Int} (h:v5 E j=some (a,b,c)):∃ e,E[j]? = some e/\e.tk=true/\e.ws[0]? = some a/\e.ws[1]? = some b/\e.ws[4]? = some c:=by
 unfold v5 at h
 obtain ⟨e,he,h⟩:=Option.bind_eq_some_iff.1 h
 split at h
 ·rename_i ht
  obtain ⟨a',h1,h⟩:=Option.bind_eq_some_iff.1 h
  obtain ⟨b',h2,h⟩:=Option.bind_eq_some_iff.1 h
  obtain ⟨c',h3,h⟩:=Option.bind_eq_some_iff.1 h
  cases h
  exact ⟨e,he,ht,h1,h2,h3⟩
 ·cases h
theorem Bc {E:List PE} {j:Nat} {a b c:Int} {e:PE} (he:E[j]? = some e) (ht:e.tk=true) (h1:e.ws[0]? = some a) (h2:e.ws[1]? = some b) (h3:e.ws[4]? = some c):v5 E j=some (a,b,c):=by
 unfold v5;rw [he];simp [ht,h1,h2,h3]
theorem tg {E E':List PE} (hs:cS 2 3 E E'):v5 E'=v5 E:=by
 funext j
 cases hj:E[j]? with
 |none=>
  have:E'[j]? = none:=List.getElem?_eq_none (by rw [hs.len];exact List.getElem?_eq_none_iff.1 hj)
  simp [v5,hj,this]
 |some x=>
  obtain ⟨y,g1,g2,g3,g4⟩:=hs.at_ j x hj
  simp only [v5,hj,g1,Option.bind_some,g2,g4 0 (by decide) (by decide),g4 1 (by decide) (by decide),g4 4 (by decide) (by decide)]
theorem Dn {E:List PE} {i:Nat} {e:PE} (hi:i<E.length):v5 (E.set i e)=fun j=>if j=i then v5 [e] 0 else v5 E j:=by
 funext j
 by_cases hj:j=i
 ·subst hj;simp [v5,hi]
 ·rw [if_neg hj];unfold v5;rw [List.getElem?_set,if_neg (fun e=>hj e.symm)]
structure fx (M:ae) (V:Nat->Option (Int × Int × Int)) (mZ:Int) (ob:Nat->Option (List Int)) (ep:Int) (H:List Nat) (Y:List Int):Prop where
 HK:∀ i,ob i=none->V i=none
 at_:∀ (i:Nat) (ws:List Int),ob i=some ws->∃ sp mk,V i=some (sp,(ws.length:Int),mk)/\0<=mk/\mk<=ep/\(mk=ep ↔ i∈H)/\aj M.sp sp=some ws/\sp≠mZ/\sp∉Y
 apart:∀ (i j:Nat) (x a b c d:Int),V i=some (x,a,b)->V j=some (x,c,d)->i=j
 others:∀ y∈Y,aj M.sp y≠none/\y≠mZ
structure bB (J:AH O) (lb pb mb:Nat) (M:ae) (S:ao) (w:List Int) (L:aP) (X:List Nat) (Y:List Int):Prop where
 p:aT J pb mb M S w (lb::X)
 b:∃ el,J.aa lb=some (.cells true el (L.cells pb mb))
 nx:lb∉X
 gj:S.words=5
 lH:bA S.E 2 3 L.H
 lW:bA S.E 2 3 L.W
 JH:∀ i∈L.H,i∉L.W
 all:∀ i,L.ob i≠none->i∈L.H ∨ i∈L.W
 o:fx M (v5 S.E) S.id L.ob L.ep L.H Y
 ep:0<=L.ep/\L.ep<4611686018427387904
 last:0<=L.last/\L.last<=4611686018427387904
 sum:L.words=((((L.H++L.W).map L.len).sum:Nat):Int)
theorem fx.mem {M M':ae} {V:Nat->Option (Int × Int × Int)} {mZ:Int} {ob:Nat->Option (List Int)} {ep:Int} {H:List Nat} {Y:List Int} (h:fx M V mZ ob ep H Y) (hw:∀ y v,y≠mZ->aj M.sp y=some v->aj M'.sp y=some v):fx M' V mZ ob ep H Y:=
 ⟨h.HK,fun i ws ho=>by
  obtain ⟨sp,mk,a1,a2,a3,a4,a5,a6,a7⟩:=h.at_ i ws ho
  exact ⟨sp,mk,a1,a2,a3,a4,hw sp ws a6 a5,a6,a7⟩,h.apart,fun y hy=>⟨by
  obtain ⟨g1,g2⟩:=h.others y hy
  cases hv:aj M.sp y with
  |none=>exact absurd hv g1
  |some v=>rw [hw y v g2 hv];simp,(h.others y hy).2⟩⟩
theorem iu.oU {M M':ae} {id:Int} {w w':List Int} {dr dw:Int} (hw:aj M.sp id=some w) (h:iu M M' id w' dr dw):∀ y v,y≠id->aj M.sp y=some v->aj M'.sp y=some v:=fun y v hy hv=>(h.other (aI hw).1 hy).trans hv
section
variable {J:AH O} {lb pb mb:Nat} {M:ae} {S:ao} {w:List Int} {L:aP} {X:List Nat} {Y:List Int} (h:bB J lb pb mb M S w L X Y)
include h
theorem bB.lt:lb<J.next:=h.p.mi.lt _ (by simp)
theorem bB.lX:∀ b∈X,b<J.next:=fun b hb=>h.p.mi.lt _ (by simp [hb])
theorem bB.HP:S.id∉Y:=fun hm=>(h.o.others _ hm).2 rfl
theorem bB.wl:w.length=S.room*6:=by have:=h.p.p.len;rw [h.gj] at this;exact this
theorem bB.room:S.room*6<=4194304:=by have:=h.p.mi.uU h.p.now;rw [h.wl] at this;exact this
theorem bB.el:S.E.length<=699050:=by have:=h.p.p.made;have:=h.room;omega
theorem bB.at {i:Nat} {ws:List Int} (ho:L.ob i=some ws):∃ e sp mk,S.E[i]? = some e/\e.tk=true/\e.ws[0]? = some sp/\e.ws[1]? = some (ws.length:Int)/\e.ws[4]? = some mk/\0<=mk/\mk<=L.ep/\(mk=L.ep ↔ i∈L.H)/\aj M.sp sp=some ws/\sp≠S.id/\sp∉Y:=by
 obtain ⟨sp,mk,a1,a2,a3,a4,a5,a6,a7⟩:=h.o.at_ i ws ho
 obtain ⟨e,b1,b2,b3,b4,b5⟩:=Oq a1
 exact ⟨e,sp,mk,b1,b2,b3,b4,b5,a2,a3,a4,a5,a6,a7⟩
theorem bB.tkn {i:Nat} {e:PE} (he:S.E[i]? = some e) (ht:e.tk=true):∃ ws,L.ob i=some ws:=by
 cases ho:L.ob i with
 |some ws=>exact ⟨ws,rfl⟩
 |none=>
  have hl:=h.p.p.wl e (List.mem_of_getElem? he)
  rw [h.gj] at hl
  have:=h.o.HK i ho
  rw [Bc he ht (List.getElem?_eq_getElem (show 0<e.ws.length by omega)) (List.getElem?_eq_getElem (show 1<e.ws.length by omega)) (List.getElem?_eq_getElem (show 4<e.ws.length by omega))] at this
  cases this
theorem bB.mem {i:Nat} (hi:i∈L.H ∨ i∈L.W):∃ e ws,S.E[i]? = some e/\e.tk=true/\L.ob i=some ws:=by
 have key:∃ e,S.E[i]? = some e/\e.tk=true:=by
  rcases hi with hi |hi
  ·obtain ⟨j,hj⟩:=List.getElem?_of_mem hi
   obtain ⟨e,he,hl⟩:=h.lH.at_ j i hj
   exact ⟨e,he,hl.tk⟩
  ·obtain ⟨j,hj⟩:=List.getElem?_of_mem hi
   obtain ⟨e,he,hl⟩:=h.lW.at_ j i hj
   exact ⟨e,he,hl.tk⟩
 obtain ⟨e,he,ht⟩:=key
 obtain ⟨ws,ho⟩:=h.tkn he ht
 exact ⟨e,ws,he,ht,ho⟩
theorem bB.nd:(L.H++L.W).Nodup:=List.nodup_append.2 ⟨h.lH.nd,h.lW.nd,fun a ha b hb e=>h.JH a ha (e▸hb)⟩
theorem bB.hw:L.H.length+L.W.length<=699050:=by
 have h2:=Ks S.E.length (L.H++L.W) h.nd fun x hx=>by
  obtain ⟨e,_,he,_⟩:=h.mem (List.mem_append.1 hx)
  exact (List.getElem?_eq_some_iff.1 he).1
 have:=h.el
 simp only [List.length_append] at h2
 omega
theorem bB.ol {i:Nat} {ws:List Int} (ho:L.ob i=some ws):ws.length<=4194304:=by
 obtain ⟨e,sp,mk,_,_,_,_,_,_,_,_,a7,_⟩:=h.at ho
 exact h.p.mi.uU a7
theorem bB.wb:0<=L.words/\L.words<=2932031007040:=by
 have h1:=h.sum
 have h2:=Ku (l:=(L.H++L.W).map L.len) (c:=4194304) fun x hx=>by
  obtain ⟨i,hi,rfl⟩:=List.mem_map.1 hx
  obtain ⟨e,ws,he,_,ho⟩:=h.mem (List.mem_append.1 hi)
  unfold aP.len
  rw [ho]
  exact h.ol ho
 have h3:=h.hw
 simp only [List.length_map,List.length_append] at h2
 omega
theorem bB.re {J':AH O} {M':ae} {w':List Int} (hp:aT J' pb mb M' S w' (lb::X)) (hb:J'.aa lb=J.aa lb) (hw:∀ y v,y≠S.id->aj M.sp y=some v->aj M'.sp y=some v):bB J' lb pb mb M' S w' L X Y:=
 {h with p:=hp,b:=by obtain ⟨el,e⟩:=h.b;exact ⟨el,hb.trans e⟩,o:=h.o.mem hw}
theorem bB.read {J':AH O} {M':ae} {dr:Int} (hp:aT J' pb mb M' S w (lb::X)) (hk:ay (lb::X) J J') (hq:iu M M' S.id w dr 0):bB J' lb pb mb M' S w L X Y:=h.re hp hk.head (hq.oU h.p.now)
theorem bB.beh {M':ae} {w':List Int} {dr dw:Int} (hq:iu M M' S.id w' dr dw) (jr:M'.ok) (h0:0<=dr) (h1:0<=dw) (hl:w'.length=w.length):cz Y M M' (dr+dw) 0 0:=by
 have:=cz.HO h.p.mi.ok jr h.p.now hq h0 h1 h.HP
 rw [hl,Int.sub_self] at this
 exact this
theorem bB.ext {J':AH O} (he:Ext J J'):bB J' lb pb mb M S w L X Y:={h with p:=h.p.ext he,b:=by obtain ⟨el,e⟩:=h.b;exact ⟨el,(he.aa _ h.lt).trans e⟩}
theorem bB.bI {J':AH O} {K Z:List Nat} (hc:eA K J J') (hl:∀ b∈K,b∈X ∨ J.next<=b) (hY:∀ b∈Z,b∈X ∨ (J.next<=b/\b<J'.next)):bB J' lb pb mb M S w L Z Y:=
 {h with
  p:=h.p.bI hc (fun b hb=>by
   rcases hl b hb with g |g
   ·exact .inl (by simp [g])
   ·exact .inr g) (fun b hb=>by
   rcases List.mem_cons.1 hb with rfl |hb
   ·exact .inl (by simp)
   ·rcases hY b hb with g |g
    ·exact .inl (by simp [g])
    ·exact .inr g)
  b:=by
   obtain ⟨el,e⟩:=h.b
   refine ⟨el,(hc.aa _ h.lt fun hm=>?_).trans e⟩
   rcases hl _ hm with g |g
   ·exact h.nx g
   ·have:=h.lt;omega
  nx:=fun hm=>by
   rcases hY _ hm with g |g
   ·exact h.nx g
   ·have:=h.lt;omega}
end
end Go.Abs.Tryz
namespace Go.Abs.Tryz
open Go Go.Abs
variable {O:Type}
def ae.cC (M:ae) (k:Int):Prop:=M.met.r+k<85070591730234615865843651857942052864/\M.met.w+k<85070591730234615865843651857942052864
theorem ae.cC.calm {M:ae} {k:Int} (h:M.cC k) (h0:0<=k):M.calm:=⟨by have:=h.1;omega,by have:=h.2;omega⟩
theorem cz.cC {Y:List Int} {M M':ae} {k a c d:Int} (h:cz Y M M' k a c) (hf:M.cC (k+d)):M'.cC d:=by
 have:=h.r;have:=h.w;have:=h.k;have:=hf.1;have:=hf.2
 exact ⟨by omega,by omega⟩
theorem ae.cC.less {M:ae} {k d:Int} (h:M.cC k) (hd:d<=k):M.cC d:=⟨by have:=h.1;omega,by have:=h.2;omega⟩
theorem Kv {l:EM} {sp at_:Int} {ws:List Int} (h:aj l sp=some ws):bD l sp at_ 1=if 0<=at_/\at_<ws.length then 0 else 11:=by
 unfold bD
 rw [h]
 simp only
 by_cases hc:0<=at_/\at_<ws.length
 ·rw [if_pos hc,if_neg (by omega)]
 ·rw [if_neg hc,if_pos (by omega)]
theorem u6 {M:ae} {sp at_:Int} {ws:List Int} (h:aj M.sp sp=some ws):M.jA sp at_=if 0<=at_/\at_<ws.length then (M.rd 1,ws.getD at_.toNat 0,0) else (M,0,11):=by
 unfold ae.jA
 rw [Kv h,h]
 by_cases hc:0<=at_/\at_<ws.length
 ·rw [if_pos hc,if_pos hc];rfl
 ·rw [if_neg hc,if_neg hc];rfl
theorem m9 {M:ae} {sp at_ x:Int} {ws:List Int} (h:aj M.sp sp=some ws):M.jh sp at_ x=if 0<=at_/\at_<ws.length then ((M.wr 1).put sp.toNat (ws.set at_.toNat x),0) else (M,11):=by
 unfold ae.jh
 rw [Kv h,h]
 by_cases hc:0<=at_/\at_<ws.length
 ·rw [if_pos hc,if_pos hc];rfl
 ·rw [if_neg hc,if_neg hc];rfl
theorem Dp {J:AH O} {mb:Nat} {M:ae} {X:List Nat} (h:bC J mb M X) (hc:M.calm) {id at_:Int} (ha : -9223372036854775808<=at_/\at_<=9223372036854775807):
  Ok (yN [.p (some (.n mb,0)),.i .i64 id,.i .i64 at_] J) fun r=>r.1=.aG [.i .u64 (M.jA id at_).2.1,.i .i64 (M.jA id at_).2.2]/\bC r.2 mb (M.jA id at_).1 X/\ay X J r.2:=by
 have key:∀ F,bz J mb F M->Ok (yN [.p (some (.n mb,0)),.i .i64 id,.i .i64 at_] J) fun r=>r.1=.aG [.i .u64 (M.jA id at_).2.1,.i .i64 (M.jA id at_).2.2]/\dT J mb F (M.jA id at_).1 r.2:=fun F hF=>Rc hF h.ok hc ha
 have hh:=h
 obtain ⟨F,g1,_⟩:=hh
 obtain ⟨r,e,p1,_⟩:=key F g1
 refine ⟨r,e,p1,?_⟩
 exact h.behind (F:=F) (J':=r.2) fun F hF=>by
  obtain ⟨r',e',_,b⟩:=key F hF
  rw [e] at e';cases e';exact b
theorem th {J:AH O} {mb:Nat} {M:ae} {X:List Nat} (h:bC J mb M X) (hc:M.calm) {id at_ x:Int} (ha : -9223372036854775808<=at_/\at_<=9223372036854775807):
  Ok (yO [.p (some (.n mb,0)),.i .i64 id,.i .i64 at_,.i .u64 x] J) fun r=>r.1=.i .i64 (M.jh id at_ x).2/\bC r.2 mb (M.jh id at_ x).1 X/\ay X J r.2:=by
 have key:∀ F,bz J mb F M->Ok (yO [.p (some (.n mb,0)),.i .i64 id,.i .i64 at_,.i .u64 x] J) fun r=>r.1=.i .i64 (M.jh id at_ x).2/\dT J mb F (M.jh id at_ x).1 r.2:=fun F hF=>Kw hF h.ok hc ha
 have hh:=h
 obtain ⟨F,g1,_⟩:=hh
 obtain ⟨r,e,p1,_⟩:=key F g1
 refine ⟨r,e,p1,?_⟩
 exact h.behind (F:=F) (J':=r.2) fun F hF=>by
  obtain ⟨r',e',_,b⟩:=key F hF
  rw [e] at e';cases e';exact b
theorem m7 {M:ae} (jr:M.ok) {sp:Int} {ws:List Int} (h:aj M.sp sp=some ws):0<=sp/\sp<262144:=by
 obtain ⟨h0,h1⟩:=aI h
 have:=(List.getElem?_eq_some_iff.1 h1).1
 have:=jr.cH
 omega
theorem cz.rd {Y:List Int} {M:ae}:cz Y M (M.rd 1) 1 0 0:=⟨by simp only [ae.rd];omega,by simp only [ae.rd];omega,by simp only [ae.rd];omega,by simp only [ae.rd];omega,by simp only [ae.rd];omega,fun _ _=>rfl⟩
theorem cz.wrp {Y:List Int} {M:ae} {id:Int} {w:List Int} (h0:0<=id) (hY:id∉Y):cz Y M ((M.wr 1).put id.toNat w) 1 0 0:=
 ⟨by simp only [ae.wr,ae.put];omega,by simp only [ae.wr,ae.put];omega,by simp only [ae.wr,ae.put];omega,by simp only [ae.wr,ae.put];omega,by simp only [ae.wr,ae.put];omega,fun y hy=>cg (fun e=>hY (e▸hy)) h0⟩
theorem Ot {J:AH O} {mb:Nat} {M:ae} {X:List Nat} {Y:List Int} (h:bC J mb M X) (hf:M.calm) (kI:M.count<262144) (hY:∀ y∈Y,aj M.sp y≠none):
  Ok (qbz [.p (some (.n mb,0))] J) fun r=>∃ lb pb M' S,r.1=.aG [.p (some (.n lb,0)),.i .i64 0]/\bB r.2 lb pb mb M' S [] ⟨[],[],0,0,0,fun _=>none⟩ X Y/\S=⟨ff M.sp,5,0,[],[],0⟩/\M'=M.lI (ff M.sp) 0/\cz Y M M' 0 0 1/\ay X J r.2:=by
 (unfold qbz qby;refine cd ?_)
 refine Ok.step (Og h hf kI (n:=5) (by decide)) fun r ⟨pb,g1,g2,g3,g4⟩=>?_
 obtain ⟨q,J1⟩:=r
 simp only at g1 g2 g4
 subst g1
 have e0:((0:Int) != 0)=false:=rfl
 refine cO e0 ?_
 have YX:∀ b∈X,b<J1.next:=fun b hb=>g2.mi.lt _ (by simp [hb])
 have hbh:cz Y M (M.lI (ff M.sp) 0) 0 0 1:=h.ok.TH (by decide) (by decide) kI hY
 have cJ:J1.next∉X:=fun hm=>by have:=YX _ hm;omega
 refine U.2 ⟨J1.next,pb,_,_,rfl,⟨g2.bI (L:=[J1.next]) ⟨by simp,fun b hb hm=>by exact iZ⟩ (fun b hb=>.inr (by simp at hb;omega)) (fun b hb=>?_),⟨_,aE⟩,cJ,rfl,bA.nil _ _ _,bA.nil _ _ _,fun i hi=>by simp at hi,fun i hi=>absurd rfl hi,⟨fun i _=>rfl,fun i ws ho=>by simp at ho,fun i j x a b c d hi=>by simp [v5] at hi,fun y hy=>⟨by rw [hbh.dV y hy];exact hY y hy,fun e=>?_⟩⟩,by decide,by decide,rfl⟩,rfl,rfl,hbh,g4.trans ⟨by simp,fun b hb=>by have:=YX b hb;exact iZ⟩⟩
 ·rcases List.mem_cons.1 hb with rfl |hb
  ·exact .inr (by simp)
  ·exact .inl hb
 ·have:=hY y hy
  cases hw:aj M.sp y with
  |none=>exact this hw
  |some ws=>exact (rp (n:=0) hw).2 e
theorem na {J:AH O} {lb pb mb:Nat} {M:ae} {S:ao} {w:List Int} {X:List Nat} (hp:aT J pb mb M S w (lb::X)) (hw:S.words=5) {el:TypeId} {a:AV} {cs:List AV} (Vf:J.aa lb=some (.cells true el (a::.p (some (.n pb,0))::cs))):
  Ok (Ou [.p (some (.n lb,0))] J) fun r=>r.1=gQ S mb 2 3/\Ext J r.2:=by
 have aY:=hp.mi.lt lb (by simp)
 (unfold Ou qhl;refine cO Vf ?_)
 generalize hJ:(J.ax 1).put J.next (.cells true _ _)=J1
 obtain ⟨E1,b1,n1⟩:=boxed hJ
 clear hJ
 have pt:=GD (hp.ext E1) (nx:=2) (pv:=3) (by omega) (by omega)
 rw [show ((2:Nat):Int)=2 from rfl,show ((3:Nat):Int)=3 from rfl] at pt
 refine Ok.step pt fun r ⟨g1,g2⟩=>?_
 obtain ⟨q,J2⟩:=r
 simp only [gQ] at g1 g2
 subst g1
 have b2:J2.aa J.next=_:=(g2.aa _ (by omega)).trans b1
 have n2:=g2.next
 refine cO b2 ?_
 exact U.2 ⟨rfl,(E1.trans g2).put (Nat.le_refl _) _⟩
section
variable {J:AH O} {lb pb mb:Nat} {M:ae} {S:ao} {w:List Int} {L:aP} {X:List Nat} {Y:List Int} (h:bB J lb pb mb M S w L X Y)
include h
theorem xm:qvt [.p (some (.n lb,0))] J=some (.i .i64 L.words,J):=by
 obtain ⟨el,hb⟩:=h.b
 simp only [aP.cells] at hb
 (unfold qvt qvs;exact Gd hb)
theorem xu:Ok (Ou [.p (some (.n lb,0))] J) fun r=>r.1=gQ S mb 2 3/\Ext J r.2:=by
 obtain ⟨el,Vf⟩:=h.b
 simp only [aP.cells] at Vf
 exact na h.p h.gj Vf
variable (hf:M.cC 1000)
include hf
theorem ti {i:Nat} {ws:List Int} (ho:L.ob i=some ws) {e:PE} (he:S.E[i]? = some e) {k:Nat} (hk:k<5) {x:Int} (hx:e.ws[k]? = some x):
  Ok (Q5 [.p (some (.n pb,0)),.i .i64 ((i:Int)+1),.i .i64 (k:Int)] J) fun r=>r.1=.aG [.i .u64 x,.i .i64 0]/\∃ M',bB r.2 lb pb mb M' S w L X Y/\iu M M' S.id w 2 0/\ay (lb::X) J r.2:=by
 have hc:=hf.calm (by decide)
 obtain ⟨e',sp,mk,oM,je,_⟩:=h.at ho
 rw [he] at oM;cases oM
 refine (yI h.p hc he je (by rw [h.gj];exact hk) (by have:=hf.1;omega)).mono fun r ⟨g1,M',g2,g3,g4⟩=>⟨?_,M',h.read g2 g4 g3,g3,g4⟩
 rw [g1,List.getD_eq_getElem?_getD,hx];rfl
theorem bB.Kx {M':ae} (g3:iu M M' S.id w 2 0) (jr:M'.ok):cz Y M M' 2 0 0:=(h.beh g3 jr (by decide) (by decide) rfl).as (by decide) rfl rfl
omit hf in
theorem bB.wrote {J':AH O} {M':ae} {i:Nat} {e:PE} {ws ws':List Int} {sp:Int} (he:S.E[i]? = some e) (ho:L.ob i=some ws) (vF:e.ws[0]? = some sp) (hl:ws'.length=ws.length)
  (hw:aj M'.sp sp=some ws') (TJ:∀ y,y≠sp->aj M'.sp y=aj M.sp y) (hm:bC J' mb M' (pb::lb::X)) (hk:ay (pb::lb::X) J J'):
  bB J' lb pb mb M' S w {L with ob:=fun j=>if j=i then some ws' else L.ob j} X Y:=by
 obtain ⟨e',sp',mk,oM,je,a1,a2,a3,a4,a5,a6,a7,a8,a9⟩:=h.at ho
 rw [he] at oM;cases oM
 rw [vF] at a1;cases a1
 have hlen:∀ j,(aP.len {L with ob:=fun j=>if j=i then some ws' else L.ob j} j)=L.len j:=fun j=>by
  unfold aP.len
  simp only
  by_cases hj:j=i
  ·subst hj;rw [if_pos rfl,ho];exact hl
  ·rw [if_neg hj]
 have hv:v5 S.E i=some (sp,(ws.length:Int),mk):=Bc he je vF a2 a3
 refine {h with p:={h.p with mi:=hm,b:=hk.head.trans h.p.b,now:=(TJ _ (Ne.symm a8)).trans h.p.now},b:=by obtain ⟨el,hb⟩:=h.b;exact ⟨el,hk.tail.head.trans hb⟩,all:=fun j hj=>?_,o:=⟨fun j hj=>?_,fun j vs hj=>?_,h.o.apart,fun y hy=>⟨?_,(h.o.others y hy).2⟩⟩,sum:=?_}
 ·simp only at hj
  by_cases bS:j=i
  ·subst bS;exact h.all j (by rw [ho];simp)
  ·rw [if_neg bS] at hj;exact h.all j hj
 ·simp only at hj
  by_cases bS:j=i
  ·rw [if_pos bS] at hj;cases hj
  ·rw [if_neg bS] at hj;exact h.o.HK j hj
 ·simp only at hj
  by_cases bS:j=i
  ·subst bS
   rw [if_pos rfl] at hj;cases hj
   exact ⟨sp,mk,by rw [hl];exact hv,a4,a5,a6,hw,a8,a9⟩
  ·rw [if_neg bS] at hj
   obtain ⟨sq,mq,c1,c4,c5,c6,c7,c8,c9⟩:=h.o.at_ j vs hj
   refine ⟨sq,mq,c1,c4,c5,c6,(TJ sq fun e0=>bS ?_).trans c7,c8,c9⟩
   subst e0
   exact h.o.apart j i _ _ _ _ _ c1 hv
 ·rw [TJ y fun e0=>a9 (e0▸hy)];exact (h.o.others y hy).1
 ·rw [h.sum]
  congr 2
  exact List.map_congr_left fun j _=>(hlen j).symm
theorem GI {i:Nat} {ws:List Int} (ho:L.ob i=some ws) {at_ x:Int} (ha:0<=at_/\at_<ws.length):
  Ok (Re [.p (some (.n lb,0)),.i .i64 ((i:Int)+1),.i .i64 at_,.i .u64 x] J) fun r=>r.1=.i .i64 0/\∃ M',bB r.2 lb pb mb M' S w {L with ob:=fun j=>if j=i then some (ws.set at_.toNat x) else L.ob j} X Y/\cz Y M M' 3 0 0/\ay X J r.2:=by
 obtain ⟨el,hb⟩:=h.b
 simp only [aP.cells] at hb
 obtain ⟨e,sp,mk,he,je,a1,a2,a3,a4,a5,a6,a7,a8,a9⟩:=h.at ho
 have hs:=m7 h.p.mi.ok a7
 have hl:=h.p.mi.uU a7
 (unfold Re qi4;refine cO hb ?_)
 have g:=ti h hf ho he (k:=0) (by decide) a1
 rw [show ((0:Nat):Int)=0 from rfl] at g
 refine Ok.step g fun r ⟨g1,M1,g2,g3,g4⟩=>?_
 obtain ⟨q,J1⟩:=r
 simp only at g1 g2 g4
 subst g1
 have e0:((0:Int) != 0)=false:=rfl
 obtain ⟨CC,cy⟩:=g2.b
 simp only [aP.cells] at cy
 refine gg e0 cy ?_
 have b1:=h.Kx hf g3 g2.p.mi.ok
 have TF:M1.cC 998:=b1.cC (hf.less (by decide))
 have wr:=th g2.p.mi (TF.calm (by decide)) (id:=sp) (at_:=at_) (x:=x) (by omega)
 have TK:aj M1.sp sp=some ws:=g3.oU h.p.now sp ws a8 a7
 rw [m9 TK,if_pos ha] at wr
 refine Ok.step wr fun r ⟨k1,k2,k3⟩=>?_
 obtain ⟨q,J2⟩:=r
 simp only at k1 k2 k3
 subst k1
 refine cd ?_
 have Vy:aj ((M1.wr 1).put sp.toNat (ws.set at_.toNat x)).sp sp=some (ws.set at_.toNat x):=by
  obtain ⟨h0,h1⟩:=aI TK
  refine dI h0 ?_
  show (M1.sp.set sp.toNat _)[sp.toNat]? = _
  rw [List.getElem?_set];simp [(List.getElem?_eq_some_iff.1 h1).1]
 exact U.2 ⟨rfl,_,g2.wrote he ho a1 (by simp) Vy (fun y hy=>cg hy hs.1) k2 k3,(b1.trans (cz.wrp hs.1 a9)).as (by decide) rfl rfl,g4.tail.trans k3.tail.tail⟩
theorem u7 {i:Nat} {ws:List Int} (ho:L.ob i=some ws):
  Ok (qpr [.p (some (.n lb,0)),.i .i64 ((i:Int)+1)] J) fun r=>r.1=.aG [.b (decide (i∈L.H)),.i .i64 0]/\∃ M',bB r.2 lb pb mb M' S w L X Y/\iu M M' S.id w 2 0/\ay (lb::X) J r.2:=by
 obtain ⟨el,hb⟩:=h.b
 simp only [aP.cells] at hb
 obtain ⟨e,sp,mk,he,je,a1,a2,a3,a4,a5,a6,a7,a8,a9⟩:=h.at ho
 (unfold qpr qpq;refine cO hb ?_)
 have g:=ti h hf ho he (k:=4) (by decide) a3
 rw [show ((4:Nat):Int)=4 from rfl] at g
 refine Ok.step g fun r ⟨g1,M',g2,g3,g4⟩=>?_
 obtain ⟨q,J1⟩:=r
 simp only at g1 g2 g4
 subst g1
 have e0:((0:Int) == 0)=true:=rfl
 obtain ⟨CC,cy⟩:=g2.b
 simp only [aP.cells] at cy
 have em:(mk == L.ep)=decide (i∈L.H):=by
  rw [Bool.eq_iff_iff];simp [a6]
 refine jN e0 cy em ?_
 exact U.2 ⟨rfl,M',g2,g3,g4⟩
end
end Go.Abs.Tryz
namespace Go.Abs.Tryz
open Go Go.Abs
variable {O:Type}
theorem fx.add {M M':ae} {V V':Nat->Option (Int × Int × Int)} {mZ:Int} {ob:Nat->Option (List Int)} {ep:Int} {H:List Nat} {Y:List Int} (h:fx M V mZ ob ep H Y) {i:Nat} (hi:ob i=none) {sp:Int} {n:Nat} (h0:0<=ep)
  (hV:∀ j,V' j=if j=i then some (sp,(n:Int),ep) else V j) (hw:∀ y v,y≠mZ->aj M.sp y=some v->aj M'.sp y=some v) (vF:aj M'.sp sp=some (List.replicate n 0)) (cJ:sp≠mZ) (hY:sp∉Y) (NZ:∀ y v,aj M.sp y=some v->y≠sp):
  fx M' V' mZ (fun j=>if j=i then some (List.replicate n 0) else ob j) ep (H++[i]) Y:=by
 have cC:∀ (j:Nat) (x a b:Int),V j=some (x,a,b)->x≠sp:=fun j x a b hj=>by
  cases ho:ob j with
  |none=>rw [h.HK j ho] at hj;cases hj
  |some ws=>
   obtain ⟨sq,mk,c1,_,_,_,c7,_⟩:=h.at_ j ws ho
   rw [c1] at hj;cases hj
   exact NZ _ _ c7
 refine ⟨fun j hj=>?_,fun j ws hj=>?_,fun j k x a b c d hj hk=>?_,(h.mem hw).others⟩
 ·by_cases bS:j=i
  ·rw [if_pos bS] at hj;cases hj
  ·rw [if_neg bS] at hj
   rw [hV,if_neg bS];exact h.HK j hj
 ·by_cases bS:j=i
  ·rw [if_pos bS] at hj;cases hj
   refine ⟨sp,ep,by rw [hV,if_pos bS];simp,h0,Int.le_refl _,?_,vF,cJ,hY⟩
   simp [bS]
  ·rw [if_neg bS] at hj
   obtain ⟨sq,mk,c1,c4,c5,c6,c7,c8,c9⟩:=h.at_ j ws hj
   refine ⟨sq,mk,by rw [hV,if_neg bS];exact c1,c4,c5,?_,hw _ _ c8 c7,c8,c9⟩
   rw [c6];simp [bS]
 ·rw [hV] at hj hk
  by_cases bS:j=i
  ·by_cases sW:k=i
   ·rw [bS,sW]
   ·rw [if_pos bS] at hj;cases hj
    rw [if_neg sW] at hk
    exact absurd rfl (cC _ _ _ _ hk)
  ·rw [if_neg bS] at hj
   by_cases sW:k=i
   ·rw [if_pos sW] at hk;cases hk
    exact absurd rfl (cC _ _ _ _ hj)
   ·rw [if_neg sW] at hk
    exact h.apart _ _ _ _ _ _ _ hj hk
theorem rq {L L':aP} {l:List Nat} (h:∀ j∈l,L'.ob j=L.ob j):(l.map L'.len).sum=(l.map L.len).sum:=by
 congr 1
 exact List.map_congr_left fun j hj=>by unfold aP.len;rw [h j hj]
theorem TL {J:AH O} {mb:Nat} {M:ae} {X:List Nat} (h:bC J mb M X) (hc:M.calm) {n:Int}:
  Ok (B2 [.p (some (.n mb,0)),.i .i64 n] J) fun r=>r.1=.aG [.i .i64 (M.mF n).2.1,.i .i64 (M.mF n).2.2]/\bC r.2 mb (M.mF n).1 X/\ay X J r.2:=by
 have key:∀ F,bz J mb F M->Ok (B2 [.p (some (.n mb,0)),.i .i64 n] J) fun r=>r.1=.aG [.i .i64 (M.mF n).2.1,.i .i64 (M.mF n).2.2]/\dT J mb F (M.mF n).1 r.2:=fun F hF=>Rf hF h.ok hc
 have hh:=h
 obtain ⟨F,g1,_⟩:=hh
 obtain ⟨r,e,p1,_⟩:=key F g1
 refine ⟨r,e,p1,?_⟩
 exact h.behind (F:=F) (J':=r.2) fun F hF=>by
  obtain ⟨r',e',_,b⟩:=key F hF
  rw [e] at e';cases e';exact b
section
variable {J:AH O} {lb pb mb:Nat} {M:ae} {S:ao} {w:List Int} {L:aP} {X:List Nat} {Y:List Int} (h:bB J lb pb mb M S w L X Y) (hf:M.cC 1000)
include h hf
theorem Ov {n:Int} (h1:1<=n) (h2:n<=4194304) (kI:M.count<262144) (hR:S.more*6<=4194304):
  Ok (qiv [.p (some (.n lb,0)),.i .i64 n] J) fun r=>r.1=.aG [.i .i64 (((S.cX.1:Nat):Int)+1),.i .i64 0]/\L.ob S.cX.1=none/\∃ M' S' w',bB r.2 lb pb mb M' S' w' {L with H:=L.H++[S.cX.1],words:=L.words+n,ob:=fun j=>if j=S.cX.1 then some (List.replicate n.toNat 0) else L.ob j} X Y/\Alike S.cX.2 S'/\cz Y M M' 24 (n+6*((S.cX.2.room:Int) - S.room)) 1/\ay X J r.2:=by
 obtain ⟨el,hb⟩:=h.b
 simp only [aP.cells] at hb
 have hc:=hf.calm (by decide)
 have e0:((0:Int) != 0)=false:=rfl
 have h5:=h.gj
 have tE:=h.el
 have hhw:=h.hw
 have SG:=h.wb
 have hep:=h.ep
 (unfold qiv qiu;refine cO hb ?_)
 refine Ok.step (Kg h.p.mi hc (n:=n) (by omega) h2 kI) fun r ⟨g1,g2,g3⟩=>?_
 obtain ⟨q,J1⟩:=r
 simp only at g1 g2 g3
 subst g1
 have b1:cz Y M (M.lI (ff M.sp) n) 0 n 1:=h.p.mi.ok.TH (by omega) h2 kI (fun y hy=>(h.o.others y hy).1)
 have w1:∀ y v,aj M.sp y=some v->aj (M.lI (ff M.sp) n).sp y=some v/\y≠ff M.sp:=fun y v hv=>rp hv
 have YY:aj (M.lI (ff M.sp) n).sp (ff M.sp)=some (List.replicate n.toNat 0):=ri
 generalize asO:((ff M.sp:Nat):Int)=sp at*
 generalize M.lI (ff M.sp) n=M1 at*
 have vF:=m7 g2.ok YY
 have p1:aT J1 pb mb M1 S w (lb::X):={h.p with mi:=g2,b:=g3.head.trans h.p.b,now:=(w1 _ _ h.p.now).1}
 have cy:J1.aa lb=_:=g3.tail.head.trans hb
 have f1:M1.cC 1000:=b1.cC (hf.less (by decide))
 refine gg e0 cy ?_
 refine Ok.step (Oo p1 (f1.calm (by decide)) (by omega) (by rw [h.gj];exact hR) ⟨by have:=f1.1;omega,by have:=f1.2;omega⟩) fun r ⟨g,k1,t,M2,w2,dr,dw,p2,q2,d1,d2,d3,d4,XS⟩=>?_
 obtain ⟨q,J2⟩:=r
 simp only at k1 p2 XS
 subst k1
 have hte:=p2.p.len
 generalize S.cX.1=i at*
 generalize S.cX.2=S1 at*
 have oN:S1.id=S.id:=t.id
 have sV:S1.words=5:=t.words.trans h.gj
 have Ky:S1.E[i]? = some ⟨true,g,[0,0,0,0,0]⟩:=by rw [t.now,h.gj];rfl
 have Mq:=(List.getElem?_eq_some_iff.1 Ky).1
 have Ox:L.ob i=none:=by
  cases ho:L.ob i with
  |none=>rfl
  |some ws=>
   obtain ⟨e,sq,mk,he,je,_⟩:=h.at ho
   have:=(t.was e he).1
   rw [je] at this;cases this
 have hiH:i∉L.H:=fun hm=>by obtain ⟨e,ws,_,_,ho⟩:=h.mem (.inl hm);rw [Ox] at ho;cases ho
 have Oy:i∉L.W:=fun hm=>by obtain ⟨e,ws,_,_,ho⟩:=h.mem (.inr hm);rw [Ox] at ho;cases ho
 have Xm:bA S1.E 2 3 L.H:=h.lH.other fun j hj=>t.other j fun e=>hiH (e▸hj)
 have hW1:bA S1.E 2 3 L.W:=h.lW.other fun j hj=>t.other j fun e=>Oy (e▸hj)
 have eO:J2.aa lb=_:=XS.head.trans cy
 have c2:=cz.HO p1.mi.ok p2.mi.ok p1.now q2 d1 (by omega) h.HP
 have f2:M2.cC 990:=c2.cC (f1.less (by omega))
 refine gg e0 eO ?_
 have ps:=tf p2 (f2.calm (by decide)) (k:=0) (x:=sp) Ky rfl (by omega) (by have:=f2.1;omega)
 rw [show ((0:Nat):Int)=0 from rfl] at ps
 refine Ok.step ps fun r ⟨s1,M3,w3,p3,q3,mE⟩=>?_
 obtain ⟨q,J3⟩:=r
 simp only [List.set_cons_zero,List.set_cons_succ] at s1 p3 mE
 subst s1
 have mC:J3.aa lb=_:=mE.head.trans eO
 have c3:=cz.HO p2.mi.ok p3.mi.ok p2.now q3 (by decide) (by decide) (oN▸h.HP)
 have f3:M3.cC 980:=c3.cC (f2.less (by decide))
 have YZ:(S1.E.set i ⟨true,g,[sp,0,0,0,0]⟩)[i]? = some ⟨true,g,[sp,0,0,0,0]⟩:=by rw [List.getElem?_set];simp [Mq]
 refine cO mC ?_
 have ps:=tf p3 (f3.calm (by decide)) (k:=1) (x:=n) YZ rfl (by show 1<S1.words;omega) (by have:=f3.1;omega)
 rw [show ((1:Nat):Int)=1 from rfl] at ps
 refine Ok.step ps fun r ⟨s1,M4,w4,p4,q4,uY⟩=>?_
 obtain ⟨q,J4⟩:=r
 simp only [List.set_cons_zero,List.set_cons_succ,List.set_set] at s1 p4 uY
 subst s1
 have yG:J4.aa lb=_:=uY.head.trans mC
 have c4:=cz.HO p3.mi.ok p4.mi.ok p3.now q4 (by decide) (by decide) (oN▸h.HP)
 have f4:M4.cC 970:=c4.cC (f3.less (by decide))
 have Y0:(S1.E.set i ⟨true,g,[sp,n,0,0,0]⟩)[i]? = some ⟨true,g,[sp,n,0,0,0]⟩:=by rw [List.getElem?_set];simp [Mq]
 refine cO yG ?_
 have ps:=tf p4 (f4.calm (by decide)) (k:=4) (x:=L.ep) Y0 rfl (by show 4<S1.words;omega) (by have:=f4.1;omega)
 rw [show ((4:Nat):Int)=4 from rfl] at ps
 refine Ok.step ps fun r ⟨s1,M5,w5,p5,q5,BZ⟩=>?_
 obtain ⟨q,J5⟩:=r
 simp only [List.set_cons_zero,List.set_cons_succ,List.set_set] at s1 p5 BZ
 subst s1
 have zH:J5.aa lb=_:=BZ.head.trans yG
 have c5:=cz.HO p4.mi.ok p5.mi.ok p4.now q5 (by decide) (by decide) (oN▸h.HP)
 have f5:M5.cC 960:=c5.cC (f4.less (by decide))
 have Y1:(S1.E.set i ⟨true,g,[sp,n,0,0,L.ep]⟩)[i]? = some ⟨true,g,[sp,n,0,0,L.ep]⟩:=by rw [List.getElem?_set];simp [Mq]
 have Y2:∀ j,j≠i->(S1.E.set i (⟨true,g,[sp,n,0,0,L.ep]⟩:PE))[j]? = S1.E[j]? := fun j hj=>by rw [List.getElem?_set,if_neg (fun e:i=j=>hj e.symm)]
 have hL5:bA (S1.E.set i ⟨true,g,[sp,n,0,0,L.ep]⟩) 2 3 L.H:=Xm.other fun j hj=>Y2 j fun e=>hiH (e▸hj)
 have hW5:bA (S1.E.set i ⟨true,g,[sp,n,0,0,L.ep]⟩) 2 3 L.W:=hW1.other fun j hj=>Y2 j fun e=>Oy (e▸hj)
 refine cO zH ?_
 refine Ok.step (na p5 sV zH) fun r ⟨g1,g6⟩=>?_
 obtain ⟨q,J6⟩:=r
 simp only [gQ] at g1 g6
 subst g1
 have aiH:lb<J5.next:=p5.mi.lt _ (by simp)
 have JQ:J6.aa lb=_:=(g6.aa _ aiH).trans zH
 refine cO JQ ?_
 have tp:=xp (p5.ext g6) (nx:=2) (pv:=3) (by show 2<S1.words;omega) (by show 3<S1.words;omega) (by decide) hL5 ⟨by have:=f5.1;omega,by have:=f5.2;omega⟩ (by omega) hiH Y1 rfl
 simp only [gQ,xo] at tp
 refine Ok.step tp fun r ⟨s1,M7,w7,E7,dw7,p7,sb7,l7,q7,z1,z2,kp7,fr7⟩=>?_
 obtain ⟨q,J7⟩:=r
 simp only at s1 p7 kp7
 subst s1
 have VN:J7.aa lb=_:=kp7.head.trans JQ
 have asV:=p7.mi.lt lb (by simp)
 have c7:=cz.HO (p5.ext g6).mi.ok p7.mi.ok (p5.ext g6).now q7 (by decide) (by omega) (oN▸h.HP)
 refine cO VN ?_
 have anX:w7.length=S1.room*6:=by have:=p7.p.len;simp only at this;rw [sV] at this;exact this
 have hpx:=p7.nx
 have hv7:v5 E7=fun j=>if j=i then some (sp,((n.toNat:Nat):Int),L.ep) else v5 S.E j:=by
  rw [tg sb7]
  funext j
  rw [Dn Mq]
  by_cases hj:j=i
  ·subst hj;simp only [↓reduceIte];rw [Int.toNat_of_nonneg (by omega)];rfl
  ·simp only [if_neg hj]
   unfold v5;rw [t.other j hj]
 have al:Alike S1 {S1 with E:=E7}:=(Alike.set (S:=S1) (ws:=[sp,n,0,0,L.ep]) Ky).trans (Alike.same (S:={S1 with E:=S1.E.set i ⟨true,g,[sp,n,0,0,L.ep]⟩}) sb7)
 have w71:∀ y v,y≠S.id->aj M1.sp y=some v->aj M7.sp y=some v:=fun y v hy hv=>by
  have w9:y≠S1.id:=by rw [oN];exact hy
  exact q7.oU (p5.ext g6).now y v w9 (q5.oU p4.now y v w9 (q4.oU p3.now y v w9 (q3.oU p2.now y v w9 (q2.oU p1.now y v hy hv))))
 have spn:sp≠S.id:=fun e=>(w1 _ _ h.p.now).2 e.symm
 have bt:=(((((b1.trans c2).trans c3).trans c4).trans c5).trans c7)
 refine U.2 ⟨rfl,Ox,M7,_,w7,⟨p7.bI (L:=[lb]) ⟨by simp,fun b hb hm=>by simp at hm;exact iZ⟩ (fun b hb=>by simp at hb;subst hb;exact .inl (by simp)) fun b hb=>.inl hb,⟨_,aE⟩,h.nx,sV,l7,hW5.other fun j hj=>fr7 j (fun hm=>h.JH j hm hj) (fun e=>Oy (e▸hj)),fun j hj Oz=>?_,fun j hj=>?_,?_,h.ep,h.last,?_⟩,al,bt.as (by omega) ?_ rfl,?_⟩
 ·rcases List.mem_append.1 hj with hj |hj
  ·exact h.JH j hj Oz
  ·simp at hj;subst hj;exact Oy Oz
 ·simp only at hj
  by_cases bS:j=i
  ·exact .inl (by simp [bS])
  ·rw [if_neg bS] at hj
   rcases h.all j hj with g |g
   ·exact .inl (by simp [g])
   ·exact .inr g
 ·show fx M7 (v5 E7) S1.id _ _ _ _
  rw [oN]
  exact h.o.add Ox hep.1 (fun j=>by rw [hv7]) (fun y v hy hv=>w71 y v hy (w1 y v hv).1) (w71 sp _ spn YY) spn (fun hm=>by
   obtain ⟨g,_⟩:=h.o.others sp hm
   cases hv:aj M.sp sp with
   |none=>exact g hv
   |some v=>exact (w1 _ _ hv).2 rfl) (fun y v hv=>(w1 y v hv).2)
 ·have hs:=h.sum
  have e1:=rq (L:=L) (L':={L with H:=L.H++[i],words:=L.words+n,ob:=fun j=>if j=i then some (List.replicate n.toNat 0) else L.ob j}) (l:=L.H) (fun j hj=>if_neg (fun e:j=i=>hiH (e▸hj)))
  have e2:=rq (L:=L) (L':={L with H:=L.H++[i],words:=L.words+n,ob:=fun j=>if j=i then some (List.replicate n.toNat 0) else L.ob j}) (l:=L.W) (fun j hj=>if_neg (fun e:j=i=>Oy (e▸hj)))
  have e3:aP.len {L with H:=L.H++[i],words:=L.words+n,ob:=fun j=>if j=i then some (List.replicate n.toNat 0) else L.ob j} i=n.toNat:=by unfold aP.len;simp
  simp only [List.map_append,List.sum_append,List.map_cons,List.map_nil,List.sum_cons,List.sum_nil] at hs ⊢
  omega
 ·have:=h.wl
  have e2:=p2.p.len
  have e3:=p3.p.len
  have e4:=p4.p.len
  have e5:=p5.p.len
  simp only at e2 e3 e4 e5
  rw [sV] at e2 e3 e4 e5
  omega
 ·exact ((((((g3.tail.tail.trans XS.tail).trans mE.tail).trans uY.tail).trans BZ.tail).trans ⟨g6.next,fun b hb=>g6.aa b (p5.mi.lt b (by simp [hb]))⟩).trans kp7.tail).trans (ay.put h.nx _)
end
end Go.Abs.Tryz
namespace Go.Abs.Tryz
open Go Go.Abs
variable {O:Type}
theorem fx.begin {M:ae} {V:Nat->Option (Int × Int × Int)} {mZ:Int} {ob:Nat->Option (List Int)} {ep:Int} {H:List Nat} {Y:List Int} (h:fx M V mZ ob ep H Y):fx M V mZ ob (ep+1) [] Y:=
 ⟨h.HK,fun i ws ho=>by
  obtain ⟨sp,mk,a1,a2,a3,a4,a5,a6,a7⟩:=h.at_ i ws ho
  exact ⟨sp,mk,a1,a2,by omega,⟨fun e=>by omega,fun hm=>by cases hm⟩,a5,a6,a7⟩,h.apart,h.others⟩
theorem fx.mark {M:ae} {V V':Nat->Option (Int × Int × Int)} {mZ:Int} {ob:Nat->Option (List Int)} {ep:Int} {H:List Nat} {Y:List Int} (h:fx M V mZ ob ep H Y) {i:Nat} {ws:List Int} (ho:ob i=some ws) {sp mk:Int} (h0:0<=ep) (hi:V i=some (sp,(ws.length:Int),mk))
  (hV:∀ j,V' j=if j=i then some (sp,(ws.length:Int),ep) else V j):fx M V' mZ ob ep (H++[i]) Y:=by
 have back:∀ (j:Nat) (x a b:Int),V' j=some (x,a,b)->∃ a' b',V j=some (x,a',b'):=fun j x a b hj=>by
  rw [hV] at hj
  split at hj
  ·rename_i e;subst e;cases hj;exact ⟨_,_,hi⟩
  ·exact ⟨_,_,hj⟩
 refine ⟨fun j hj=>?_,fun j vs hj=>?_,fun j k x a b c d hj hk=>?_,h.others⟩
 ·rw [hV,if_neg (fun e=>by subst e;rw [ho] at hj;cases hj)];exact h.HK j hj
 ·obtain ⟨sq,mq,c1,c4,c5,c6,c7,c8,c9⟩:=h.at_ j vs hj
  by_cases bS:j=i
  ·subst bS
   rw [ho] at hj;cases hj
   rw [hi] at c1
   simp only [Option.some.injEq,Prod.mk.injEq] at c1
   obtain ⟨rfl,_,rfl⟩:=c1
   exact ⟨sp,ep,by rw [hV,if_pos rfl],h0,Int.le_refl _,by simp,c7,c8,c9⟩
  ·exact ⟨sq,mq,by rw [hV,if_neg bS];exact c1,c4,c5,by rw [c6];simp [bS],c7,c8,c9⟩
 ·obtain ⟨a',b',g1⟩:=back j x a b hj
  obtain ⟨c',d',g2⟩:=back k x c d hk
  exact h.apart _ _ _ _ _ _ _ g1 g2
theorem eC:∀ {W:List Nat} {d i:Nat},W.Nodup->W[d]? = some i->W.eraseIdx d=W.filter (fun j=>j != i)
 |[],d,i,_,h=>by simp at h
 |a::W,0,i,hn,h=>by
  simp at h;subst h
  have:=List.nodup_cons.1 hn
  simp only [List.eraseIdx_cons_zero]
  rw [List.filter_cons_of_neg (by simp)]
  exact (List.filter_eq_self.2 fun x hx=>by simp;exact fun e=>this.1 (e▸hx)).symm
 |a::W,d+1,i,hn,h=>by
  have hn:=List.nodup_cons.1 hn
  have hm:=List.mem_of_getElem? (show W[d]? = some i by simpa using h)
  rw [List.eraseIdx_cons_succ,List.filter_cons_of_pos (by simp;exact fun e=>hn.1 (e▸hm)),eC hn.2 (by simpa using h)]
theorem xv {f:Nat->Nat}:∀ {W:List Nat} {d i:Nat},W[d]? = some i->((W.eraseIdx d).map f).sum+f i=(W.map f).sum
 |[],d,i,h=>by simp at h
 |a::W,0,i,h=>by simp at h;subst h;simp;omega
 |a::W,d+1,i,h=>by
  simp only [List.eraseIdx_cons_succ,List.map_cons,List.sum_cons]
  have:=xv (f:=f) (W:=W) (d:=d) (i:=i) (by simpa using h)
  omega
theorem ru {J J1:AH O} {b:Nat} {x:dL O} (h:J.put b x=J1):J1.aa b=some x/\J1.next=J.next/\∀ q,q≠b->J1.aa q=J.aa q:=by
 subst h;exact ⟨aE,rfl,fun q hq=>aq hq⟩
theorem OA {H:List Nat} (h:0<H.length):uW H=pid H 1:=by
 cases H with
 |nil=>simp at h
 |cons a r=>rfl
section
variable {J:AH O} {lb pb mb:Nat} {M:ae} {S:ao} {w:List Int} {L:aP} {X:List Nat} {Y:List Int} (h:bB J lb pb mb M S w L X Y) (hf:M.cC 1000)
include h hf
omit hf in
theorem bB.mid {J':AH O} {M':ae} {E':List PE} {w':List Int} {dr dw:Int} (hp:aT J' pb mb M' {S with E:=E'} w' (lb::X)) (hq:iu M M' S.id w' dr dw) (h0:0<=dr) (h1:0<=dw) (hs:cS 2 3 S.E E'):cz Y M M' (dr+dw) 0 0:=by
 refine h.beh hq hp.mi.ok h0 h1 ?_
 have:=hp.p.len
 simp only at this
 rw [this,h.gj,h.wl]
theorem GJ (hep:L.ep+1<4611686018427387904):
  Ok (qnt [.p (some (.n lb,0))] J) fun r=>r.1=.aG []/\∃ M' S' w',bB r.2 lb pb mb M' S' w' {L with H:=[],W:=L.W++L.H,ep:=L.ep+1,last:=0} X Y/\Alike S S'/\cz Y M M' 2 0 0/\ay X J r.2:=by
 obtain ⟨el,hb⟩:=h.b
 simp only [aP.cells] at hb
 have tE:=h.el
 have hhw:=h.hw
 have Y3:=h.ep
 (unfold qnt qns;refine cO hb ?_)
 generalize hJ:J.put lb (.cells true el _)=J1
 obtain ⟨cy,n1,_⟩:=ru hJ
 have k1:ay X J J1:=by rw [<-hJ];exact ay.put h.nx _
 have p1:aT J1 pb mb M S w (lb::X):=by
  rw [<-hJ]
  exact h.p.bI (L:=[lb]) ⟨by simp,fun b hb hm=>by simp at hm;exact iZ⟩ (fun b hb=>by simp at hb;subst hb;exact .inl (by simp)) fun b hb=>.inl hb
 clear hJ
 refine Ok.step (na p1 h.gj cy) fun r ⟨g1,g2⟩=>?_
 obtain ⟨q,J2⟩:=r
 simp only [gQ] at g1 g2
 subst g1
 have Kc:=p1.mi.lt lb (by simp)
 have eO:J2.aa lb=_:=(g2.aa _ Kc).trans cy
 refine cO eO ?_
 have tj:=Kk (p1.ext g2) (nx:=2) (pv:=3) (by rw [h.gj];decide) (by rw [h.gj];decide) (by decide) h.lW h.lH (fun i hi hm=>h.JH i hm hi) ⟨by have:=hf.1;omega,by have:=hf.2;omega⟩ (by omega) (by omega)
 simp only [gQ,xo] at tj
 refine Ok.step tj fun r ⟨s1,M3,w3,E3,dw3,p3,Rg,l3,q3,z1,z2,mE,fr3⟩=>?_
 obtain ⟨q,J3⟩:=r
 simp only at s1 p3 mE
 subst s1
 have mC:J3.aa lb=_:=mE.head.trans eO
 refine cO mC ?_
 refine U.2 ⟨rfl,M3,_,w3,⟨p3.bI (L:=[lb]) ⟨by simp,fun b hb hm=>by simp at hm;exact iZ⟩ (fun b hb=>by simp at hb;subst hb;exact .inl (by simp)) fun b hb=>.inl hb,⟨_,aE⟩,h.nx,h.gj,bA.nil _ _ _,l3,fun i hi=>by simp at hi,fun j hj=>?_,?_,⟨by simp only;omega,by simp only;omega⟩,by simp only;omega,?_⟩,Alike.same Rg,(h.mid p3 q3 (by decide) z1 Rg).as (by omega) rfl rfl,?_⟩
 ·exact .inr (List.mem_append.2 ((h.all j hj).symm))
 ·show fx M3 (v5 E3) S.id _ _ _ _
  rw [tg Rg]
  exact (h.o.begin).mem (q3.oU h.p.now)
 ·have hs:=h.sum
  show L.words=(((([]++(L.W++L.H)).map L.len).sum:Nat):Int)
  simp only [List.nil_append,List.map_append,List.sum_append] at hs ⊢
  omega
 ·exact ((k1.trans ⟨g2.next,fun b hb=>g2.aa b (p1.mi.lt b (by simp [hb]))⟩).trans mE.tail).trans (ay.put h.nx _)
theorem GK {i:Nat} (hi:i∈L.H):
  Ok (VW [.p (some (.n lb,0)),.i .i64 ((i:Int)+1)] J) fun r=>r.1=.aG [.b false,.i .i64 0]/\∃ M',bB r.2 lb pb mb M' S w L X Y/\cz Y M M' 2 0 0/\ay X J r.2:=by
 obtain ⟨e,ws,_,_,ho⟩:=h.mem (.inl hi)
 have g:=u7 h hf ho
 rw [decide_eq_true hi] at g
 (unfold VW qp5;refine cd ?_)
 refine Ok.step g fun r ⟨g1,M',g2,g3,g4⟩=>?_
 obtain ⟨q,J1⟩:=r
 simp only at g1 g2 g4
 subst g1
 refine cd ?_
 exact U.2 ⟨rfl,M',g2,h.Kx hf g3 g2.p.mi.ok,g4.tail⟩
theorem Kz {i:Nat} {ws:List Int} (ho:L.ob i=some ws) (hi:i∉L.H):
  Ok (VW [.p (some (.n lb,0)),.i .i64 ((i:Int)+1)] J) fun r=>r.1=.aG [.b true,.i .i64 0]/\∃ M' S' w',bB r.2 lb pb mb M' S' w' {L with H:=L.H++[i],W:=L.W.filter (fun j=>j != i)} X Y/\Alike S S'/\cz Y M M' 12 0 0/\ay X J r.2:=by
 have g:=u7 h hf ho
 rw [decide_eq_false hi] at g
 have e0:((0:Int) != 0)=false:=rfl
 have Oy:i∈L.W:=(h.all i (by rw [ho];simp)).resolve_left hi
 obtain ⟨d,hd⟩:=List.getElem?_of_mem Oy
 have tE:=h.el
 have hhw:=h.hw
 have Y3:=h.ep
 (unfold VW qp5;refine cd ?_)
 refine Ok.step g fun r ⟨g1,M1,p1,q1,k1⟩=>?_
 obtain ⟨q,J1⟩:=r
 simp only at g1 p1 k1
 subst g1
 have c1:=h.Kx hf q1 p1.p.mi.ok
 have f1:M1.cC 998:=c1.cC (hf.less (by decide))
 obtain ⟨el,cy⟩:=p1.b
 simp only [aP.cells] at cy
 refine gg e0 cy ?_
 refine Ok.step (na p1.p h.gj cy) fun r ⟨g1,g2⟩=>?_
 obtain ⟨q,J2⟩:=r
 simp only [gQ] at g1 g2
 subst g1
 have eO:J2.aa lb=_:=(g2.aa _ p1.lt).trans cy
 refine cO eO ?_
 have td:=GG (p1.p.ext g2) (nx:=2) (pv:=3) (by rw [h.gj];decide) (by rw [h.gj];decide) (by decide) h.lW ⟨by have:=f1.1;omega,by have:=f1.2;omega⟩ (by omega) hd
 simp only [gQ,xo] at td
 refine Ok.step td fun r ⟨s1,M3,w3,E3,dw3,p3,Rg,l3,q3,z1,z2,mE,fr3⟩=>?_
 obtain ⟨q,J3⟩:=r
 simp only at s1 p3 mE
 subst s1
 have mC:J3.aa lb=_:=mE.head.trans eO
 have c3:=p1.mid p3 q3 (by decide) z1 Rg
 have f3:M3.cC 990:=c3.cC (f1.less (by omega))
 refine cO mC ?_
 generalize hJ:J3.put lb (.cells true el _)=J4
 obtain ⟨yG,_,_⟩:=ru hJ
 have k4:ay X J3 J4:=by rw [<-hJ];exact ay.put h.nx _
 have p4:aT J4 pb mb M3 {S with E:=E3} w3 (lb::X):=by
  rw [<-hJ]
  exact p3.bI (L:=[lb]) ⟨by simp,fun b hb hm=>by simp at hm;exact iZ⟩ (fun b hb=>by simp at hb;subst hb;exact .inl (by simp)) fun b hb=>.inl hb
 clear hJ
 refine Ok.step (na p4 h.gj yG) fun r ⟨g1,g5⟩=>?_
 obtain ⟨q,J5⟩:=r
 simp only [gQ] at g1 g5
 subst g1
 have Tv:=p4.mi.lt lb (by simp)
 have zH:J5.aa lb=_:=(g5.aa _ Tv).trans yG
 refine cO zH ?_
 obtain ⟨e,sp,mk,he,je,a1,a2,a3,a4,a5,a6,a7,a8,a9⟩:=h.at ho
 obtain ⟨e3,YL,ht3,hg3,hk3⟩:=Rg.at_ i e he
 have lH3:bA E3 2 3 L.H:=h.lH.other fun j hj=>fr3 j fun hm=>h.JH j hj hm
 have hWd:∀ j∈L.W.eraseIdx d,j∈L.W/\j≠i:=fun j hj=>by
  rw [eC h.lW.nd hd] at hj
  obtain ⟨g1,g2⟩:=List.mem_filter.1 hj
  exact ⟨g1,by simpa using g2⟩
 have tp:=xp (p4.ext g5) (nx:=2) (pv:=3) (by show 2<S.words;rw [h.gj];decide) (by show 3<S.words;rw [h.gj];decide) (by decide) lH3 ⟨by have:=f3.1;omega,by have:=f3.2;omega⟩ (by omega) hi YL (ht3.trans je)
 simp only [gQ,xo] at tp
 refine Ok.step tp fun r ⟨s1,M6,w6,E6,dw6,p6,YN,l6,q6,y1,y2,Oi,fr6⟩=>?_
 obtain ⟨q,J6⟩:=r
 simp only at s1 p6 Oi
 subst s1
 have JQ:J6.aa lb=_:=Oi.head.trans zH
 have c6:cz Y M3 M6 (0+dw6) 0 0:=by
  have:=cz.HO p4.mi.ok p6.mi.ok p4.now q6 (by decide) (by omega) h.HP
  have l1:=p4.p.len
  have l2:=p6.p.len
  simp only at l1 l2
  rw [l1,l2,Int.sub_self] at this
  exact this
 have f6:M6.cC 980:=c6.cC (f3.less (by omega))
 refine cO JQ ?_
 generalize hJ:J6.put lb (.cells true el _)=J7
 obtain ⟨VN,_,_⟩:=ru hJ
 have k7:ay X J6 J7:=by rw [<-hJ];exact ay.put h.nx _
 have p7:aT J7 pb mb M6 {S with E:=E6} w6 (lb::X):=by
  rw [<-hJ]
  exact p6.bI (L:=[lb]) ⟨by simp,fun b hb hm=>by simp at hm;exact iZ⟩ (fun b hb=>by simp at hb;subst hb;exact .inl (by simp)) fun b hb=>.inl hb
 clear hJ
 obtain ⟨e6,VX,ht6,hg6,hk6⟩:=YN.at_ i e3 YL
 have hi6:=(List.getElem?_eq_some_iff.1 VX).1
 have ps:=tf p7 (f6.calm (by decide)) (k:=4) (x:=L.ep) VX (ht6.trans (ht3.trans je)) (by show 4<S.words;rw [h.gj];decide) (by have:=f6.1;omega)
 rw [show ((4:Nat):Int)=4 from rfl] at ps
 refine Ok.step ps fun r ⟨s1,M8,w8,p8,q8,kp8⟩=>?_
 obtain ⟨q,J8⟩:=r
 simp only at s1 p8 kp8
 subst s1
 have hb8:J8.aa lb=_:=kp8.head.trans VN
 have c8:cz Y M6 M8 2 0 0:=by
  have:=cz.HO p7.mi.ok p8.mi.ok p7.now q8 (by decide) (by decide) h.HP
  have l1:=p7.p.len
  have l2:=p8.p.len
  simp only at l1 l2
  rw [l1,l2,Int.sub_self] at this
  exact this.as (by decide) rfl rfl
 refine cd ?_
 have hv8:v5 (E6.set i {e6 with ws:=e6.ws.set 4 L.ep})=fun j=>if j=i then some (sp,(ws.length:Int),L.ep) else v5 S.E j:=by
  rw [Dn hi6]
  funext j
  by_cases hj:j=i
  ·subst hj
   rw [if_pos rfl,if_pos rfl]
   have l6':e6.ws.length=5:=by have:=p6.p.wl e6 (List.mem_of_getElem? VX);simp only at this;rw [this];exact h.gj
   refine Bc (e:={e6 with ws:=e6.ws.set 4 L.ep}) rfl (ht6.trans (ht3.trans je)) ?_ ?_ ?_
   ·simp only;rw [List.getElem?_set,if_neg (by decide),hk6 0 (by decide) (by decide),hk3 0 (by decide) (by decide)];exact a1
   ·simp only;rw [List.getElem?_set,if_neg (by decide),hk6 1 (by decide) (by decide),hk3 1 (by decide) (by decide)];exact a2
   ·simp only;rw [List.getElem?_set,if_pos rfl,if_pos (by omega)]
  ·rw [if_neg hj,if_neg hj,tg YN,tg Rg]
 have lW6:bA E6 2 3 (L.W.eraseIdx d):=l3.other fun j hj=>fr6 j (fun hm=>h.JH j hm (hWd j hj).1) (hWd j hj).2
 have aiM:∀ y v,y≠S.id->aj M.sp y=some v->aj M8.sp y=some v:=fun y v hy hv=>
  q8.oU p7.now y v hy (q6.oU p4.now y v hy (q3.oU p1.p.now y v hy (q1.oU h.p.now y v hy hv)))
 refine U.2 ⟨rfl,M8,_,w8,⟨p8,⟨_,hb8.trans (by rw [<-eC h.lW.nd hd];rfl)⟩,h.nx,h.gj,l6.words VX (by decide) (by decide),?_,fun j hj Oz=>?_,fun j hj=>?_,?_,h.ep,h.last,?_⟩,((Alike.same Rg).trans (Alike.same (S:={S with E:=E3}) YN)).trans (Alike.set (S:={S with E:=E6}) VX),(((c1.trans c3).trans c6).trans c8).as (by omega) rfl rfl,?_⟩
 ·simp only
  rw [<-eC h.lW.nd hd]
  exact lW6.words VX (by decide) (by decide)
 ·simp only at hj Oz
  obtain ⟨g1,g2⟩:=List.mem_filter.1 Oz
  rcases List.mem_append.1 hj with hj |hj
  ·exact h.JH j hj g1
  ·simp at hj;subst hj;simp at g2
 ·simp only at hj ⊢
  rcases h.all j hj with g |g
  ·exact .inl (by simp [g])
  ·by_cases bS:j=i
   ·exact .inl (by simp [bS])
   ·exact .inr (List.mem_filter.2 ⟨g,by simpa using bS⟩)
 ·show fx M8 (v5 (E6.set i {e6 with ws:=e6.ws.set 4 L.ep})) S.id _ _ _ _
  exact (h.o.mark ho Y3.1 (Bc he je a1 a2 a3) fun j=>by rw [hv8]).mem aiM
 ·have hs:=h.sum
  show L.words=(((((L.H++[i])++L.W.filter (fun j=>j != i)).map L.len).sum:Nat):Int)
  have u9:((L.W.filter fun j=>j != i).map L.len).sum+L.len i=(L.W.map L.len).sum:=by
   rw [<-eC h.lW.nd hd];exact xv hd
  simp only [List.map_append,List.sum_append,List.map_cons,List.map_nil,List.sum_cons,List.sum_nil] at hs ⊢
  omega
 ·exact (((((((k1.tail.trans ⟨g2.next,fun b hb=>g2.aa b (p1.p.mi.lt b (by simp [hb]))⟩).trans mE.tail).trans k4).trans ⟨g5.next,fun b hb=>g5.aa b (p4.mi.lt b (by simp [hb]))⟩).trans Oi.tail).trans k7).trans kp8.tail)
theorem KA {t:Nat} (ht:t<L.H.length) (hl:L.last=(pid L.H t:Int)):
  Ok (Rh [.p (some (.n lb,0))] J) fun r=>r.1=.aG [.i .i64 (pid L.H (t+1):Int),.b true]/\∃ M',bB r.2 lb pb mb M' S w {L with last:=(pid L.H (t+1):Int)} X Y/\cz Y M M' 1 0 0/\ay X J r.2:=by
 obtain ⟨el,hb⟩:=h.b
 simp only [aP.cells] at hb
 have hi:=List.getElem?_eq_getElem ht
 have sT:pid L.H (t+1)=L.H[t]+1:=jf hi
 have cJ:((pid L.H (t+1):Int) == 0)=false:=beq_eq_false_iff_ne.2 (by omega)
 obtain ⟨s1,s2,s3⟩:=h.lH.small (B:=699050) h.el
 cases t with
 |zero=>
  have e0:((L.last:Int) == 0)=true:=by rw [hl];rfl
  have eh:(uW L.H:Int)=(pid L.H (0+1):Int):=by rw [OA ht]
  (unfold Rh VY;refine gg hb e0 ?_)
  rw [eh]
  refine gg cJ hb ?_
  refine U.2 ⟨rfl,M,{h with p:=h.p.bI (L:=[lb]) ⟨by simp,fun b hb hm=>by simp at hm;exact iZ⟩ (fun b hb=>by simp at hb;subst hb;exact .inl (by simp)) (fun b hb=>.inl hb),b:=⟨_,aE.trans (by rw [aP.cells,eh])⟩,last:=⟨by simp only;omega,by have:=(s3 1).2;simp only;omega⟩},(cz.refl Y M).as (by decide) rfl rfl,ay.put h.nx _⟩
 |succ t=>
  have TM:=List.getElem?_eq_getElem (show t<L.H.length by omega)
  have e0:((L.last:Int) == 0)=false:=beq_eq_false_iff_ne.2 (by rw [hl,jf TM];omega)
  have CC:L.last=(L.H[t]:Int)+1:=by rw [hl,jf TM];simp
  obtain ⟨e,he,Gz⟩:=h.lH.at_ t _ TM
  have hn:nid L.H t=L.H[t+1]+1:=pO hi
  have Ve:=(s3 t).1
  (unfold Rh VY;refine gg hb e0 ?_)
  refine Ok.step (xu h) fun r ⟨g1,g2⟩=>?_
  obtain ⟨q,J1⟩:=r
  simp only [gQ] at g1 g2
  subst g1
  have cy:J1.aa lb=_:=(g2.aa _ h.lt).trans hb
  refine cO cy ?_
  have ta:=rl (h.p.ext g2) (nx:=2) (pv:=3) (by rw [h.gj];decide) (by rw [h.gj];decide) (by decide) (hf.calm (by decide)) he Gz.n (by omega)
  simp only [gQ] at ta
  rw [<-CC] at ta
  refine Ok.step ta fun r ⟨k1,M2,p2,q2,k2⟩=>?_
  obtain ⟨q,J2⟩:=r
  simp only at k1 p2 k2
  subst k1
  have eO:J2.aa lb=_:=k2.head.trans cy
  have en:(nid L.H t:Int)=(pid L.H (t+1+1):Int):=by rw [hn,sT]
  rw [en]
  refine gg cJ eO ?_
  have r2:=h.read p2 ⟨by have:=g2.next;have:=k2.next;omega,fun b hb=>(k2.aa b hb).trans (g2.aa b (h.p.mi.lt b (List.mem_cons_of_mem _ hb)))⟩ q2
  refine U.2 ⟨rfl,M2,{r2 with p:=p2.bI (L:=[lb]) ⟨by simp,fun b hb hm=>by simp at hm;exact iZ⟩ (fun b hb=>by simp at hb;subst hb;exact .inl (by simp)) (fun b hb=>.inl hb),b:=⟨_,aE⟩,last:=⟨by simp only;omega,by have:=(s3 (t+1+1)).2;simp only;omega⟩},(h.beh q2 p2.mi.ok (by decide) (by decide) rfl).as (by decide) rfl rfl,(ay.trans ⟨g2.next,fun b hb=>g2.aa b (h.lX b hb)⟩ k2.tail).trans (ay.put h.nx _)⟩
theorem KB (hl:L.last=(pid L.H L.H.length:Int)):
  Ok (Rh [.p (some (.n lb,0))] J) fun r=>r.1=.aG [.i .i64 0,.b false]/\∃ M',bB r.2 lb pb mb M' S w L X Y/\cz Y M M' 1 0 0/\ay X J r.2:=by
 obtain ⟨el,hb⟩:=h.b
 simp only [aP.cells] at hb
 have z0:((0:Int) == 0)=true:=rfl
 rcases Nat.eq_zero_or_pos L.H.length with hz |hz
 ·have hH:=List.eq_nil_of_length_eq_zero hz
  have e0:((L.last:Int) == 0)=true:=by rw [hl,hH];rfl
  have eh:(uW L.H:Int)=0:=by rw [hH];rfl
  (unfold Rh VY;refine gg hb e0 ?_)
  exact U.2 ⟨rfl,M,h,(cz.refl Y M).as (by decide) rfl rfl,ay.refl _ _⟩
 ·obtain ⟨t,QZ⟩:∃ t,L.H.length=t+1:=⟨L.H.length - 1,by omega⟩
  have TM:=List.getElem?_eq_getElem (show t<L.H.length by omega)
  rw [QZ] at hl
  have e0:((L.last:Int) == 0)=false:=beq_eq_false_iff_ne.2 (by rw [hl,jf TM];omega)
  have CC:L.last=(L.H[t]:Int)+1:=by rw [hl,jf TM];simp
  obtain ⟨e,he,Gz⟩:=h.lH.at_ t _ TM
  have hn:nid L.H t=0:=uX (by omega)
  have hln:=Gz.n
  rw [hn] at hln
  (unfold Rh VY;refine gg hb e0 ?_)
  refine Ok.step (xu h) fun r ⟨g1,g2⟩=>?_
  obtain ⟨q,J1⟩:=r
  simp only [gQ] at g1 g2
  subst g1
  have cy:J1.aa lb=_:=(g2.aa _ h.lt).trans hb
  refine cO cy ?_
  have ta:=rl (h.p.ext g2) (nx:=2) (pv:=3) (by rw [h.gj];decide) (by rw [h.gj];decide) (by decide) (hf.calm (by decide)) he hln (by omega)
  simp only [gQ] at ta
  rw [<-CC,show ((0:Nat):Int)=0 from rfl] at ta
  refine Ok.step ta fun r ⟨k1,M2,p2,q2,k2⟩=>?_
  obtain ⟨q,J2⟩:=r
  simp only at k1 p2 k2
  subst k1
  refine cO z0 ?_
  have r2:=h.read p2 ⟨by have:=g2.next;have:=k2.next;omega,fun b hb=>(k2.aa b hb).trans (g2.aa b (h.p.mi.lt b (List.mem_cons_of_mem _ hb)))⟩ q2
  exact U.2 ⟨rfl,M2,r2,(h.beh q2 p2.mi.ok (by decide) (by decide) rfl).as (by decide) rfl rfl,ay.trans ⟨g2.next,fun b hb=>g2.aa b (h.lX b hb)⟩ k2.tail⟩
end
end Go.Abs.Tryz
namespace Go.Abs.Tryz
open Go Go.Abs
variable {O:Type}
def ao.lK (S:ao) (i:Nat):ao:=match S.E[i]? with
 |some e=>{S with E:=S.E.set i ⟨false,e.gen+1,e.ws.set 0 (hd S.free)⟩,free:=(i+1)::S.free,taken:=S.taken - 1}
 |none=>S
theorem EN {S:ao} {i:Nat} {e:PE} (he:S.E[i]? = some e):S.lK i={S with E:=S.E.set i ⟨false,e.gen+1,e.ws.set 0 (hd S.free)⟩,free:=(i+1)::S.free,taken:=S.taken - 1}:=by unfold ao.lK;rw [he]
theorem OB (S:ao) (i:Nat):(S.lK i).id=S.id/\(S.lK i).words=S.words/\(S.lK i).room=S.room/\(S.lK i).E.length=S.E.length:=by
 unfold ao.lK
 split<;>simp
theorem Dq {S:ao} {i j:Nat} (h:j≠i):(S.lK i).E[j]? = S.E[j]? := by
 unfold ao.lK
 split
 ·simp only;rw [List.getElem?_set,if_neg (Ne.symm h)]
 ·rfl
def ao.dE (S:ao) (l:List Nat):ao:=l.foldl ao.lK S
theorem pR:∀ (l:List Nat) (S:ao),(S.dE l).id=S.id/\(S.dE l).words=S.words/\(S.dE l).room=S.room/\(S.dE l).E.length=S.E.length
 |[],S=>⟨rfl,rfl,rfl,rfl⟩
 |i::l,S=>by
  obtain ⟨a,b,c,d⟩:=OB S i
  obtain ⟨a',b',c',d'⟩:=pR l (S.lK i)
  exact ⟨a'.trans a,b'.trans b,c'.trans c,d'.trans d⟩
theorem mG:∀ (l:List Nat) (S:ao) (j:Nat),j∉l->(S.dE l).E[j]? = S.E[j]?
 |[],S,j,_=>rfl
 |i::l,S,j,h=>by
  simp only [List.mem_cons,not_or] at h
  exact (mG l (S.lK i) j h.2).trans (Dq h.1)
theorem vc (l:List Nat) (S:ao) (i:Nat):S.dE (l++[i])=(S.dE l).lK i:=by unfold ao.dE;rw [List.foldl_append];rfl
theorem Alike.lK {S S':ao} (h:Alike S S') (i:Nat):Alike (S.lK i) (S'.lK i):=by
 unfold ao.lK
 cases he:S.E[i]? with
 |none=>
  have:S'.E[i]? = none:=List.getElem?_eq_none (by rw [h.len];exact List.getElem?_eq_none_iff.1 he)
  rw [this];exact h
 |some e=>
  obtain ⟨e',a,b,c⟩:=h.at_ i e he
  rw [a]
  have hi:=(List.getElem?_eq_some_iff.1 he).1
  refine ⟨h.id,h.words,h.room,by simp [h.free],by simp [h.taken],by simp [h.len],fun j x hx=>?_⟩
  simp only at hx ⊢
  rw [List.getElem?_set] at hx ⊢
  by_cases hj:i=j
  ·subst hj
   rw [if_pos rfl,if_pos hi] at hx;cases hx
   exact ⟨⟨false,e'.gen+1,e'.ws.set 0 (hd S'.free)⟩,by rw [if_pos rfl,if_pos (by rw [h.len];exact hi)],rfl,by simp [c]⟩
  ·rw [if_neg hj] at hx ⊢
   exact h.at_ j x hx
theorem Alike.dE {S S':ao} (h:Alike S S') (l:List Nat):Alike (S.dE l) (S'.dE l):=by
 induction l generalizing S S' with
 |nil=>exact h
 |cons i l ih=>exact ih (h.lK i)
theorem fx.gone {M M':ae} {V V':Nat->Option (Int × Int × Int)} {mZ:Int} {ob ob':Nat->Option (List Int)} {ep:Int} {H:List Nat} {Y:List Int} (h:fx M V mZ ob ep H Y) {i:Nat} {ws:List Int} (ho:ob i=some ws) {sp:Int} {n mk:Int} (hi:V i=some (sp,n,mk))
  (hV:∀ j,V' j=if j=i then none else V j) (Q7:∀ j,ob' j=if j=i then none else ob j) (hw:∀ y v,y≠mZ->y≠sp->aj M.sp y=some v->aj M'.sp y=some v):fx M' V' mZ ob' ep H Y:=by
 have hsY:sp∉Y:=by
  obtain ⟨sq,mq,c1,_,_,_,_,_,c9⟩:=h.at_ i ws ho
  rw [hi] at c1;cases c1;exact c9
 refine ⟨fun j hj=>?_,fun j vs hj=>?_,fun j k x a b c d hj hk=>?_,fun y hy=>⟨?_,(h.others y hy).2⟩⟩
 ·rw [hV];rw [Q7] at hj
  by_cases bS:j=i
  ·rw [if_pos bS]
  ·rw [if_neg bS] at hj ⊢;exact h.HK j hj
 ·rw [Q7] at hj
  by_cases bS:j=i
  ·rw [if_pos bS] at hj;cases hj
  ·rw [if_neg bS] at hj
   obtain ⟨sq,mq,c1,c4,c5,c6,c7,c8,c9⟩:=h.at_ j vs hj
   refine ⟨sq,mq,by rw [hV,if_neg bS];exact c1,c4,c5,c6,hw _ _ c8 (fun e=>bS ?_) c7,c8,c9⟩
   subst e
   exact h.apart _ _ _ _ _ _ _ c1 hi
 ·rw [hV] at hj hk
  split at hj
  ·cases hj
  ·split at hk
   ·cases hk
   ·exact h.apart _ _ _ _ _ _ _ hj hk
 ·obtain ⟨g1,g2⟩:=h.others y hy
  cases hv:aj M.sp y with
  |none=>exact absurd hv g1
  |some v=>rw [hw y v g2 (fun e=>hsY (e▸hy)) hv];simp
structure Swp (J:AH O) (lb pb mb:Nat) (M0:ae) (S:ao) (L:aP) (X:List Nat) (Y:List Int) (J0:AH O) (k:Nat) (M:ae) (w:List Int):Prop where
 p:aT J pb mb M (S.dE (L.W.take k)) w (lb::X)
 b:J.aa lb=J0.aa lb
 o:fx M (v5 (S.dE (L.W.take k)).E) S.id (fun j=>if j∈L.W.take k then none else L.ob j) L.ep L.H Y
 c:cz Y M0 M (8*k) (-((((L.W.take k).map L.len).sum:Nat):Int)) (-(k:Int))
 x:ay X J0 J
section
variable {J:AH O} {lb pb mb:Nat} {M:ae} {S:ao} {w:List Int} {L:aP} {X:List Nat} {Y:List Int} (h:bB J lb pb mb M S w L X Y) (hf:M.cC 20000000)
include h hf
theorem Gq (hg:∀ e∈S.E,e.gen<4611686018427387903):
  Ok (qr0 [.p (some (.n lb,0))] J) fun r=>r.1=.aG [.i .i64 (L.W.length:Int),.i .i64 (((L.W.map L.len).sum:Nat):Int)]/\∃ M' w',bB r.2 lb pb mb M' (S.dE L.W) w' {L with W:=[],words:=L.words - ((L.W.map L.len).sum:Nat),ob:=fun j=>if j∈L.W then none else L.ob j} X Y/\cz Y M M' (8*L.W.length) (-(((L.W.map L.len).sum:Nat):Int)) (-(L.W.length:Int))/\ay X J r.2:=by
 obtain ⟨el,hb⟩:=h.b
 have hb0:=hb
 simp only [aP.cells] at hb
 have hhw:=h.hw
 have tE:=h.el
 have SG:=h.wb
 have Nw:=h.sum
 have Ct:∀ k,(((L.W.take k).map L.len).sum:Nat)<=(L.W.map L.len).sum:=fun k=>by
  rw [<-List.take_append_drop k (L.W.map L.len),List.sum_append,<-List.map_take];omega
 simp only [List.map_append,List.sum_append] at Nw
 (unfold qr0 qrz;refine cO hb ?_)
 refine Ok.step (Ok.count (Q:=fun r=>∃ J' M' w',r=([.i .i64 (L.W.length:Int),.i .i64 (((L.W.map L.len).sum:Nat):Int)],J')/\Swp J' lb pb mb M S L X Y J L.W.length M' w') L.W.length
  (fun k s=>∃ J' M' w',s=([.i .i64 (k:Int),.i .i64 ((((L.W.take k).map L.len).sum:Nat):Int),.i .i64 ((match L.W[k]? with |some i=>i+1 |none=>0:Nat):Int),.i .i64 (k:Int)],J')/\Swp J' lb pb mb M S L X Y J k M' w') ?_ ?_ ?_) ?_
 ·rintro k _ hk ⟨J1,M1,w1,rfl,s⟩
  have hi:=List.getElem?_eq_getElem hk
  generalize hii:L.W[k]=i at hi
  rw [hi]
  simp only
  have Oy:=List.mem_of_getElem? hi
  have je:L.W.take (k+1)=L.W.take k++[i]:=by rw [List.take_succ_eq_append_getElem hk,hii]
  have FX:i∉L.W.take k:=fun hm=>by
   obtain ⟨j,hj⟩:=List.getElem?_of_mem hm
   rw [List.getElem?_take] at hj
   split at hj
   ·rename_i X1
    have:=fY h.lW.nd hj hi
    omega
   ·cases hj
  obtain ⟨e0,ws,BQ,Ym,VK⟩:=h.mem (.inr Oy)
  obtain ⟨gid,gw,gr,gl⟩:=pR (L.W.take k) S
  have he:(S.dE (L.W.take k)).E[i]? = some e0:=(mG _ S i FX).trans BQ
  obtain ⟨e0',sp,mk,Y4,as7,a1,a2,a3,a4,a5,a6,a7,a8,a9⟩:=h.at VK
  rw [BQ] at Y4;cases Y4
  have GL:=h.ol VK
  obtain ⟨e1,he1,Gz⟩:=h.lW.at_ k i hi
  rw [BQ] at he1;cases he1
  have f1:M1.cC 1000:=s.c.cC (hf.less (by omega))
  obtain ⟨n1,n2,n3⟩:=h.lW.small (B:=699050) h.el
  have Ve:=(n3 k).1
  have Y5:(S.dE (L.W.take k)).words=5:=gw.trans h.gj
  have cy:J1.aa lb=_:=s.b.trans hb
  have B3:=Ct k
  have u9:=Ct (k+1)
  have Y6:L.len i=ws.length:=by unfold aP.len;rw [VK];rfl
  have Ej:(((L.W.take (k+1)).map L.len).sum:Nat)=((L.W.take k).map L.len).sum+ws.length:=by rw [je];simp [Y6]
  (unfold qry;refine cd ?_)
  refine Ok.step (na s.p Y5 cy) fun r ⟨g1,g2⟩=>?_
  obtain ⟨q,J2⟩:=r
  simp only [gQ] at g1 g2
  subst g1
  have eO:J2.aa lb=_:=(g2.aa _ (s.p.mi.lt _ (by simp))).trans cy
  refine cd ?_
  have ta:=rl (s.p.ext g2) (nx:=2) (pv:=3) (by rw [Y5];decide) (by rw [Y5];decide) (by decide) (f1.calm (by decide)) he Gz.n (by omega)
  simp only [gQ] at ta
  refine Ok.step ta fun r ⟨k1,M2,p2,q2,k2⟩=>?_
  obtain ⟨q,J3⟩:=r
  simp only at k1 p2 k2
  subst k1
  have mC:J3.aa lb=_:=k2.head.trans eO
  have c2:cz Y M1 M2 1 0 0:=by
   have:=cz.HO s.p.mi.ok p2.mi.ok s.p.now q2 (by decide) (by decide) (gid▸h.HP)
   rw [Int.sub_self] at this
   exact this.as (by decide) rfl rfl
  have f2:M2.cC 990:=c2.cC (f1.less (by decide))
  refine cO mC ?_
  have pg:=yI p2 (f2.calm (by decide)) (k:=0) he Ym (by rw [Y5];decide) (by have:=f2.1;omega)
  rw [show ((0:Nat):Int)=0 from rfl,List.getD_eq_getElem?_getD,a1] at pg
  refine Ok.step pg fun r ⟨k1,M3,p3,q3,k3⟩=>?_
  obtain ⟨q,J4⟩:=r
  simp only [Option.getD_some] at k1 p3 k3
  subst k1
  have yG:J4.aa lb=_:=k3.head.trans mC
  have c3:cz Y M2 M3 2 0 0:=by
   have:=cz.HO p2.mi.ok p3.mi.ok p2.now q3 (by decide) (by decide) (gid▸h.HP)
   rw [Int.sub_self] at this
   exact this.as (by decide) rfl rfl
  have f3:M3.cC 980:=c3.cC (f2.less (by decide))
  refine cO yG ?_
  have pg:=yI p3 (f3.calm (by decide)) (k:=1) he Ym (by rw [Y5];decide) (by have:=f3.1;omega)
  rw [show ((1:Nat):Int)=1 from rfl,List.getD_eq_getElem?_getD,a2] at pg
  refine Ok.step pg fun r ⟨k1,M4,p4,q4,k4⟩=>?_
  obtain ⟨q,J5⟩:=r
  simp only [Option.getD_some] at k1 p4 k4
  subst k1
  have zH:J5.aa lb=_:=k4.head.trans yG
  have c4:cz Y M3 M4 2 0 0:=by
   have:=cz.HO p3.mi.ok p4.mi.ok p3.now q4 (by decide) (by decide) (gid▸h.HP)
   rw [Int.sub_self] at this
   exact this.as (by decide) rfl rfl
  have f4:M4.cC 970:=c4.cC (f3.less (by decide))
  have Y7:(fun j=>if j∈L.W.take k then none else L.ob j) i=some ws:=by simp only;rw [if_neg FX];exact VK
  have Vs:v5 (S.dE (L.W.take k)).E i=some (sp,(ws.length:Int),mk):=Bc he Ym a1 a2 a3
  obtain ⟨sq,mq,d1,d2,d3,d4,d5,d6,d7⟩:=s.o.at_ i ws Y7
  rw [Vs] at d1;cases d1
  have x2:=q2.oU s.p.now
  have x3:=q3.oU p2.now
  have x4:=q4.oU p3.now
  rw [gid] at x2 x3 x4
  have VE:aj M4.sp sp=some ws:=x4 _ _ a8 (x3 _ _ a8 (x2 _ _ a8 d5))
  have vF:=m7 p4.mi.ok VE
  refine cO zH ?_
  refine Ok.step (JE p4.mi (f4.calm (by decide)) VE (by omega)) fun r ⟨k1,p5,k5⟩=>?_
  obtain ⟨q,J6⟩:=r
  simp only at k1 p5 k5
  subst k1
  have JQ:J6.aa lb=_:=k5.tail.head.trans zH
  have c5:cz Y M4 (M4.close sp.toNat ws) 0 (-(ws.length:Int)) (-1):=cz.close vF.1 a9
  have f5:(M4.close sp.toNat ws).cC 960:=c5.cC (f4.less (by decide))
  have x5:∀ y v,y≠sp->aj M4.sp y=some v->aj (M4.close sp.toNat ws).sp y=some v:=fun y v hy hv=>(qZ vF.1 hy).trans hv
  have p6:aT J6 pb mb (M4.close sp.toNat ws) (S.dE (L.W.take k)) w1 (lb::X):={p4 with mi:=p5,b:=k5.head.trans p4.b,now:=x5 _ _ (by rw [gid];exact Ne.symm a8) p4.now}
  generalize M4.close sp.toNat ws=M5 at*
  refine cO JQ ?_
  have as8:=hg e0 (List.mem_of_getElem? BQ)
  refine Ok.step (Kf p6 (f5.calm (by decide)) he Ym (by omega) ⟨by have:=f5.1;omega,by have:=f5.2;omega⟩) fun r ⟨k1,M6,w6,p7,q7,k7⟩=>?_
  obtain ⟨q,J7⟩:=r
  simp only at k1 p7 k7
  subst k1
  rw [<-EN he,<-vc,<-je] at p7
  have c7:cz Y M5 M6 3 0 0:=by
   have:=cz.HO p6.mi.ok p7.mi.ok p6.now q7 (by decide) (by decide) (gid▸h.HP)
   have l1:=p6.p.len
   have l2:=p7.p.len
   obtain ⟨_,gw',gr',_⟩:=pR (L.W.take (k+1)) S
   rw [gr',gw'] at l2
   rw [gr,gw] at l1
   rw [l1,l2,Int.sub_self] at this
   exact this.as (by decide) rfl rfl
  have x7:=q7.oU p6.now
  rw [gid] at x7
  refine cd ?_
  refine U.2 ⟨J7,M6,w6,?_,p7,(k7.head.trans JQ).trans hb.symm,?_,?_,?_⟩
  ·have hn:nid L.W k=(match L.W[k+1]? with |some i=>i+1 |none=>0:Nat):=rfl
   rw [Ej]
   simp only [<-hn,Int.natCast_add]
   rfl
  ·have hE:(S.dE (L.W.take (k+1))).E=(S.dE (L.W.take k)).E.set i ⟨false,e0.gen+1,e0.ws.set 0 (hd (S.dE (L.W.take k)).free)⟩:=by rw [je,vc,EN he]
   refine s.o.gone Y7 Vs (fun j=>?_) (fun j=>?_) (fun y v hy hy2 hv=>x7 y v hy (x5 y v hy2 (x4 y v hy (x3 y v hy (x2 y v hy hv)))))
   ·rw [hE,Dn (List.getElem?_eq_some_iff.1 he).1]
    by_cases hj:j=i
    ·subst hj;simp only [↓reduceIte];rfl
    ·simp only [if_neg hj]
   ·rw [je]
    by_cases hj:j=i
    ·subst hj;simp
    ·simp [hj]
  ·rw [Ej]
   exact (((((s.c.trans c2).trans c3).trans c4).trans c5).trans c7).as (by omega) (by omega) (by omega)
  ·exact (((((s.x.trans ⟨g2.next,fun b hb=>g2.aa b (s.p.mi.lt b (by simp [hb]))⟩).trans k2.tail).trans k3.tail).trans k4.tail).trans k5.tail.tail).trans k7.tail
 ·rintro _ ⟨J1,M1,w1,rfl,s⟩
  rw [List.getElem?_eq_none (Nat.le_refl _)]
  (unfold qry;refine cd ?_)
  exact U.2 ⟨J1,M1,w1,rfl,s⟩
 ·refine ⟨J,M,w,?_,⟨?_,rfl,?_,?_,ay.refl _ _⟩⟩
  ·have:(uW L.W:Nat)=(match L.W[0]? with |some i=>i+1 |none=>0:Nat):=by cases L.W<;>rfl
   rw [<-this];rfl
  ·rw [List.take_zero];exact h.p
  ·rw [List.take_zero]
   have:(fun j=>if j∈([]:List Nat) then none else L.ob j)=L.ob:=by funext j;simp
   rw [this];exact h.o
  ·rw [List.take_zero];exact (cz.refl Y M).as (by decide) rfl rfl
 ·rintro _ ⟨J1,M1,w1,rfl,s⟩
  have cy:J1.aa lb=_:=s.b.trans hb
  refine cO cy ?_
  have sp:=s.p
  have so:=s.o
  have sc:=s.c
  rw [List.take_length] at sp so sc
  obtain ⟨gid,gw,gr,gl⟩:=pR L.W S
  refine U.2 ⟨rfl,M1,w1,⟨sp.bI (L:=[lb]) ⟨by simp,fun b hb hm=>by simp at hm;exact iZ⟩ (fun b hb=>by simp at hb;subst hb;exact .inl (by simp)) fun b hb=>.inl hb,⟨_,aE⟩,h.nx,gw.trans h.gj,h.lH.other fun j hj=>mG _ S j (h.JH j hj),bA.nil _ _ _,fun i _ hm=>by simp at hm,fun j hj=>?_,?_,h.ep,h.last,?_⟩,sc,s.x.trans (ay.put h.nx _)⟩
  ·simp only at hj
   by_cases Oz:j∈L.W
   ·rw [if_pos Oz] at hj;exact absurd rfl hj
   ·rw [if_neg Oz] at hj
    exact .inl ((h.all j hj).resolve_right Oz)
  ·rw [gid];exact so
  ·have e1:=rq (L:=L) (L':={L with W:=[],words:=L.words - ((L.W.map L.len).sum:Nat),ob:=fun j=>if j∈L.W then none else L.ob j}) (l:=L.H) (fun j hj=>if_neg (h.JH j hj))
   simp only [List.append_nil]
   omega
end
end Go.Abs.Tryz
