/-
  Finding where an object is, beside other spaces. No conditions.
-/
import Derived.Test.YtncohicmiihjiaaGreatL21
import Derived.Test.YtncohicmiihjiaaGreatM21
import Derived.Test.YtncohicmiihjiaaGreatM18
import Derived.Test.YtncohicmiihjiaaGreatR21
import Derived.Test.YtncohicmiihjiaaGreatS9w
import Derived.Test.YtncohicmiihjiaaGreatL22
import Derived.Test.YtncohicmiihjiaaGreatM15
import Derived.Test.YtncohicmiihjiaaGreatAbsIn
set_option linter.unusedVariables false
set_option linter.unusedSimpArgs false
set_option linter.constructorNameAsVariable false
set_option linter.unusedSimpArgs false
set_option linter.unusedVariables false
set_option linter.unusedSectionVars false
set_option maxHeartbeats 1000000
namespace Go.Abs.Tryz
open Go Go.Abs
variable {O:Type}
section
variable {f:Fn × List AV × List AV} {Tw:List Hd->AH O->List Nat->Prop} (tl:eL f Tw) {J:AH O} {eb sb nb lb pb mb:Nat} {M:ah} {S:ao} {w:List Int} {L:aP} {T:bn} {X Z:List Nat} {Y:List Int} {aW:Int} {v:List Int} {ot:Nat} {hs:List Hd} (h:bd f Tw J eb sb nb lb pb mb M S w L T X Y aW v ot hs Z) (hf:M.cT 1000)
include tl h hf
theorem EH {Ds:List DO} {now:Nat->Option Nat} {C:Nat->DO} (e:EG Ds now C L T v ot) {i:Nat} {d:DO} (hd:Ds[i]? = some d):Ok (SO [.p (some (.n eb,0)),.i .u64 d.ref] J) fun r=>r.1=.i .u64 (match now i with |none=>0 |some t=>d.to t)/\∃ M',bd f Tw r.2 eb sb nb lb pb mb M' S w L T X Y aW v ot hs Z/\dp Y M M' 10 0 0/\aw X J r.2:=by
 have hb:=h.b
 obtain ⟨el,oy⟩:=h.t.s.s
 have hm:=List.mem_of_getElem? hd
 have ok:=e.ok d hm
 have n1:1<=d.n:=by unfold DO.n;omega
 have Qk:=h.t.vl
 have PN:=e.vl
 have Nk:=h.t.s.top
 have Nl:=h.t.s.tl
 unfold DO.ref DO.to
 cases hl:d.h.l with
 |false=>
  have UJ:=e.sm d hm hl
  have lt:d.at_<4194304:=by omega
  have a1:=jG J lt
  have a2:=AP J lt
  have z1:((1:Int) == 1)=true:=rfl
  simp only [Bool.false_eq_true,if_false]
  (unfold SO qqm BC LV;refine rl a1 a2 z1 hb oy ?_)
  simp only [jh]
  refine Ok.step (mH h.t (hf.less (by decide)) (at_:=d.at_) (by omega)) fun r ⟨g1,M',g2,g3,g4,g5⟩=>?_
  obtain ⟨q,J1⟩:=r
  simp only at g1 g2 g5
  subst g1
  have h1:=h.as tl g2 g5
  refine bZ ?_
  try simp only [jh]
  cases hn:now i with
  |some t=>
   obtain ⟨q1,q2,q3⟩:=e.s1 i d t hd hl hn
   rw [q1]
   refine Ok.step (nV J1 (at_:=t) (by omega)) fun r ⟨k1,k2⟩=>?_
   obtain ⟨q,J2⟩:=r
   simp only at k1 k2
   subst k1
   have ts:=jm J2 (at_:=t) (by omega)
   refine cw ts ?_
   exact U.2 ⟨rfl,M',h1.ext tl k2,g3.as (by decide) rfl rfl,(g5.trans (oU k2 fun b hb=>g2.s.lt b hb)).mono fun b hb=>by simp [hb]⟩
  |none=>
   have q:=e.s0 i d hd hl hn 0 (by omega)
   rw [Nat.add_zero] at q
   rw [q]
   refine Ok.step (qd J1 (w:=d.h.word) (by have:=ok.h.w;omega)) fun r ⟨k1,k2⟩=>?_
   obtain ⟨q,J2⟩:=r
   simp only at k1 k2
   subst k1
   refine bZ ?_
   exact U.2 ⟨rfl,M',h1.ext tl k2,g3.as (by decide) rfl rfl,(g5.trans (oU k2 fun b hb=>g2.s.lt b hb)).mono fun b hb=>by simp [hb]⟩
 |true=>
  have fin:∀ (ws:List Int),L.ob d.at_=some ws->(match now i with |none=>(0:Int) |some t=>if true=true then nD t else m8 t)=(if d.at_∈L.H then nD d.at_ else 0)->Ok (SO [.p (some (.n eb,0)),.i .u64 (nD d.at_)] J) fun r=>r.1=.i .u64 (match now i with |none=>0 |some t=>if true=true then nD t else m8 t)/\∃ M',bd f Tw r.2 eb sb nb lb pb mb M' S w L T X Y aW v ot hs Z/\dp Y M M' 10 0 0/\aw X J r.2:=by
   intro ws ho hr
   rw [hr]
   have C4:=h.t.s.vR ho
   have a1:=jF J C4
   have a2:=AQ J C4
   have z1:((2:Int) == 1)=false:=rfl
   have z2:((2:Int) == 2)=true:=rfl
   (unfold SO qqm El Nh;refine rl a1 a2 z1 z2 (cj hb oy) ?_)
   simp only [jh]
   refine Ok.step (oQ h.t.s.l hf ho) fun r ⟨g1,M',g2,g3,g4⟩=>?_
   obtain ⟨q,J1⟩:=r
   simp only at g1 g2 g4
   subst g1
   have b1:=h.t.s.l.Gk hf g3 g2.p.mi.ok
   have t1:=h.t.fY g2 b1 g4.tail
   have h1:=h.as tl t1 (g4.mono fun b hb=>by
    simp only [List.mem_cons] at hb ⊢
    rcases hb with hb |hb
    ·simp [hb]
    ·simp [hb])
   by_cases c:d.at_∈L.H
   ·rw [if_pos c,decide_eq_true c]
    refine bZ ?_
    exact U.2 ⟨rfl,M',h1,(show dp Y M M' 2 0 0 from b1.mono fun y hy=>by simp [hy]).as (by decide) rfl rfl,g4.mono fun b hb=>by simp [hb]⟩
   ·rw [if_neg c,decide_eq_false c]
    refine bZ ?_
    exact U.2 ⟨rfl,M',h1,(show dp Y M M' 2 0 0 from b1.mono fun y hy=>by simp [hy]).as (by decide) rfl rfl,g4.mono fun b hb=>by simp [hb]⟩
  simp only [if_true]
  cases hn:now i with
  |some t=>
   obtain ⟨q1,q2,q3⟩:=e.l1 i d t hd hl hn
   have:=fin _ q3 (by rw [hn,if_pos q2,q1];rfl)
   rw [hn] at this
   exact this
  |none=>
   obtain ⟨q1,q2⟩:=e.l0 i d hd hl hn
   have:=fin _ q2 (by rw [hn,if_neg q1])
   rw [hn] at this
   exact this
end
end Go.Abs.Tryz
namespace Go.Abs.Tryz
open Go Go.Abs
variable {O:Type}
theorem bd.beside {f:Fn × List AV × List AV} {Tw:List Hd->AH O->List Nat->Prop} (tl:eL f Tw) {J J':AH O} {eb sb nb lb pb mb:Nat} {M M':ah} {S:ao} {w:List Int} {L:aP} {T:bn} {X Z:List Nat} {Y:List Int} {aW:Int} {v:List Int} {ot:Nat} {hs:List Hd} (h:bd f Tw J eb sb nb lb pb mb M S w L T X Y aW v ot hs Z) {id:Int} (jT:id∈Y) (hO:aW≠id) (hi:bu J' mb M' (pb::lb::nb::sb::(eb::(Z++X)))) (kp:aw (pb::lb::nb::sb::(eb::Z)) J J') (hw:∀ y u,y≠id->ak M.sp y=some u->ak M'.sp y=some u) (hn:ak M'.sp id≠none):bd f Tw J' eb sb nb lb pb mb M' S w L T X Y aW v ot hs Z:=by
 have hY:id∈T.id::aW::Y:=by simp [jT]
 have db:S.id≠id:=(h.t.s.l.o.others id hY).2.symm
 have hT:T.id≠id:=fun e=>h.t.s.oY (by simp [e,jT])
 obtain ⟨el,hb⟩:=h.t.s.l.b
 obtain ⟨vQ,fv⟩:=h.t.s.n
 obtain ⟨Hz,mz⟩:=h.t.s.s
 have t:fg J' sb nb lb pb mb M' S w L T (eb::(Z++X)) Y aW v ot:=⟨{l:={h.t.s.l with p:={h.t.s.l.p with mi:=hi,b:=(kp.aa _ (by simp)).trans h.t.s.l.p.b,now:=hw _ _ db h.t.s.l.p.now},b:=⟨el,(kp.aa _ (by simp)).trans hb⟩,o:=h.t.s.l.o.Ko hY hw hn},n:=⟨vQ,(kp.aa _ (by simp)).trans fv⟩,s:=⟨Hz,(kp.aa _ (by simp)).trans mz⟩,now:=hw _ _ hT h.t.s.now,top:=h.t.s.top,nd:=h.t.s.nd,oY:=h.t.s.oY},h.t.cO,hw _ _ hO h.t.w,h.t.top⟩
 exact ⟨t,(kp.aa _ (by simp)).trans h.b,h.nx,h.nz,tl.dv h.j (kp.mono fun b hb=>by simp [hb])⟩
theorem bd.opened {f:Fn × List AV × List AV} {Tw:List Hd->AH O->List Nat->Prop} (tl:eL f Tw) {J J':AH O} {eb sb nb lb pb mb:Nat} {M:ah} {S:ao} {w:List Int} {L:aP} {T:bn} {X Z:List Nat} {Y:List Int} {aW:Int} {v:List Int} {ot:Nat} {hs:List Hd} (h:bd f Tw J eb sb nb lb pb mb M S w L T X Y aW v ot hs Z) (hi:bu J' mb (M.iv (ff M.sp) 0) (pb::lb::nb::sb::(eb::(Z++X)))) (kp:aw (pb::lb::nb::sb::(eb::(Z++X))) J J'):bd f Tw J' eb sb nb lb pb mb (M.iv (ff M.sp) 0) S w L T X ((ff M.sp:Int)::Y) aW v ot hs Z/\aW≠(ff M.sp:Int):=by
 have F6:=nf M.sp
 have nW:ak M.sp (ff M.sp:Int)=none:=by
  cases hw:ak M.sp (ff M.sp:Int) with
  |none=>rfl
  |some u=>
   have:=(aF hw).2
   rw [Int.toNat_natCast] at this
   have:=F6.here _ this
   cases this
 have dv:∀ y u,ak M.sp y=some u->ak (M.iv (ff M.sp) 0).sp y=some u:=fun y u hu=>by
  obtain ⟨k0,k1⟩:=aF hu
  refine cU k0 ?_
  show (fM M.sp (ff M.sp) _)[y.toNat]? = _
  rw [gy F6.le,if_neg]
  ·exact k1
  ·intro e
   rw [show y=((ff M.sp:Nat):Int) by omega,nW] at hu;cases hu
 have nC:ak (M.iv (ff M.sp) 0).sp (ff M.sp:Int)=some []:=by
  refine cU (Int.natCast_nonneg _) ?_
  show (fM M.sp (ff M.sp) _)[(ff M.sp:Int).toNat]? = _
  rw [gy F6.le,Int.toNat_natCast,if_pos rfl];rfl
 have hs:S.id≠(ff M.sp:Int):=fun e=>by
  have:=h.t.s.l.p.now
  rw [e,nW] at this;cases this
 have hO:aW≠(ff M.sp:Int):=fun e=>by
  have:=h.t.w
  rw [e,nW] at this;cases this
 have hT:T.id≠(ff M.sp:Int):=fun e=>by
  have:=h.t.s.now
  rw [e,nW] at this;cases this
 obtain ⟨el,hb⟩:=h.t.s.l.b
 obtain ⟨vQ,fv⟩:=h.t.s.n
 obtain ⟨Hz,mz⟩:=h.t.s.s
 have o1:=h.t.s.l.o.more dv nW (by rw [nC];simp) hs
 have sub:∀ y∈T.id::aW::(ff M.sp:Int)::Y,y∈(ff M.sp:Int)::T.id::aW::Y:=fun y hy=>by
  simp only [List.mem_cons] at hy ⊢
  rcases hy with h |h |h |h<;>simp [h]
 have o2:fQ (M.iv (ff M.sp) 0) (v5 S.E) S.id L.ob L.ep L.H (T.id::aW::(ff M.sp:Int)::Y):=⟨o1.Gj,fun i ws ho=>by
  obtain ⟨sp,mk,a1,a2,a3,a4,a5,a6,a7⟩:=o1.at_ i ws ho
  exact ⟨sp,mk,a1,a2,a3,a4,a5,a6,fun hm=>a7 (sub sp hm)⟩,o1.apart,fun y hy=>o1.others y (sub y hy)⟩
 have oY:T.id∉aW::(ff M.sp:Int)::Y:=fun hm=>by
  simp only [List.mem_cons] at hm
  rcases hm with hm |hm |hm
  ·exact h.t.s.oY (by simp [hm])
  ·exact hT hm
  ·exact h.t.s.oY (by simp [hm])
 have t:fg J' sb nb lb pb mb (M.iv (ff M.sp) 0) S w L T (eb::(Z++X)) ((ff M.sp:Int)::Y) aW v ot:=⟨{l:={h.t.s.l with p:={h.t.s.l.p with mi:=hi,b:=(kp.aa _ (by simp)).trans h.t.s.l.p.b,now:=dv _ _ h.t.s.l.p.now},b:=⟨el,(kp.aa _ (by simp)).trans hb⟩,o:=o2},n:=⟨vQ,(kp.aa _ (by simp)).trans fv⟩,s:=⟨Hz,(kp.aa _ (by simp)).trans mz⟩,now:=dv _ _ h.t.s.now,top:=h.t.s.top,nd:=h.t.s.nd,oY:=oY},h.t.cO,dv _ _ h.t.w,h.t.top⟩
 exact ⟨⟨t,(kp.aa _ (by simp)).trans h.b,h.nx,h.nz,tl.dv h.j (kp.mono fun b hb=>by simp [hb])⟩,hO⟩
theorem bd.less {f:Fn × List AV × List AV} {Tw:List Hd->AH O->List Nat->Prop} {J:AH O} {eb sb nb lb pb mb:Nat} {M:ah} {S:ao} {w:List Int} {L:aP} {T:bn} {X Z:List Nat} {Y Y':List Int} {aW:Int} {v:List Int} {ot:Nat} {hs:List Hd} (h:bd f Tw J eb sb nb lb pb mb M S w L T X Y aW v ot hs Z) (hY:∀ y∈Y',y∈Y):bd f Tw J eb sb nb lb pb mb M S w L T X Y' aW v ot hs Z:=by
 have o1:=h.t.s.l.o
 have sub:∀ y∈T.id::aW::Y',y∈T.id::aW::Y:=fun y hy=>by
  simp only [List.mem_cons] at hy ⊢
  rcases hy with h |h |h
  ·exact .inl h
  ·exact .inr (.inl h)
  ·exact .inr (.inr (hY y h))
 have o2:fQ M (v5 S.E) S.id L.ob L.ep L.H (T.id::aW::Y'):=⟨o1.Gj,fun i ws ho=>by
  obtain ⟨sp,mk,a1,a2,a3,a4,a5,a6,a7⟩:=o1.at_ i ws ho
  exact ⟨sp,mk,a1,a2,a3,a4,a5,a6,fun hm=>a7 (sub sp hm)⟩,o1.apart,fun y hy=>o1.others y (sub y hy)⟩
 have oY:T.id∉aW::Y':=fun hm=>h.t.s.oY (by
  simp only [List.mem_cons] at hm ⊢
  rcases hm with hm |hm
  ·exact .inl hm
  ·exact .inr (hY _ hm))
 exact ⟨⟨{h.t.s with l:={h.t.s.l with o:=o2},oY:=oY},h.t.cO,h.t.w,h.t.top⟩,h.b,h.nx,h.nz,h.j⟩
theorem bd.wide {f:Fn × List AV × List AV} {Tw:List Hd->AH O->List Nat->Prop} {J:AH O} {eb sb nb lb pb mb:Nat} {M:ah} {S:ao} {w:List Int} {L:aP} {T:bn} {X X2 Z:List Nat} {Y:List Int} {aW:Int} {v:List Int} {ot:Nat} {hs:List Hd} (h:bd f Tw J eb sb nb lb pb mb M S w L T X Y aW v ot hs Z) (hi:bu J mb M (pb::lb::nb::sb::(eb::(Z++X2)))) (zH:∀ b∈X2,b≠pb/\b≠lb/\b≠nb/\b≠sb/\b≠eb/\b∉Z):bd f Tw J eb sb nb lb pb mb M S w L T X2 Y aW v ot hs Z:=by
 have n1:=h.t.s.l.p.nx
 have n2:=h.t.s.l.nx
 obtain ⟨n3,n4,n5⟩:=h.t.s.nd
 have n6:=h.nx
 simp only [List.mem_cons,List.mem_append,not_or] at n1 n2 n4 n5
 refine ⟨⟨{h.t.s with l:={h.t.s.l with p:={h.t.s.l.p with mi:=hi,nx:=?_},nx:=?_},nd:=⟨n3,?_,?_⟩},h.t.cO,h.t.w,h.t.top⟩,h.b,⟨n6.1,fun hm=>(zH _ hm).2.2.2.2.1 rfl⟩,fun b hb hm=>(zH _ hm).2.2.2.2.2 hb,h.j⟩
 ·simp only [List.mem_cons,List.mem_append,not_or]
  exact ⟨n1.1,n1.2.1,n1.2.2.1,n1.2.2.2.1,n1.2.2.2.2.1,fun hm=>(zH _ hm).1 rfl⟩
 ·simp only [List.mem_cons,List.mem_append,not_or]
  exact ⟨n2.1,n2.2.1,n2.2.2.1,n2.2.2.2.1,fun hm=>(zH _ hm).2.1 rfl⟩
 ·simp only [List.mem_cons,List.mem_append,not_or]
  exact ⟨n4.1,n4.2.1,fun hm=>(zH _ hm).2.2.1 rfl⟩
 ·simp only [List.mem_cons,List.mem_append,not_or]
  exact ⟨n5.1,n5.2.1,fun hm=>(zH _ hm).2.2.2.1 rfl⟩
structure WM (J:AH O) (eb sb nb lb pb mb hb qb:Nat) (M:ah) (S:ao) (w:List Int) (L:aP) (T:bn) (X:List Nat) (aW:Int) (v:List Int) (ot:Nat) (hs:List Hd) (Ds:List DO) (now:Nat->Option Nat) (C:Nat->DO) (P:ao) (Ch:List Nat) (u:List Int):Prop where
 m:bd CR (fun _ _ Z=>Z=[]) J eb sb nb lb pb mb M S w L T (hb::qb::X) [P.id] aW v ot hs []
 e:EG Ds now C L T v ot
 k:bS J hb qb mb M P Ch u (pb::lb::nb::sb::eb::X)
 o:aW≠P.id
section
variable {J:AH O} {eb sb nb lb pb mb hb qb:Nat} {M:ah} {S:ao} {w:List Int} {L:aP} {T:bn} {X:List Nat} {aW:Int} {v:List Int} {ot:Nat} {hs:List Hd} {Ds:List DO} {now:Nat->Option Nat} {C:Nat->DO} {P:ao} {Ch:List Nat} {u:List Int} (h:WM J eb sb nb lb pb mb hb qb M S w L T X aW v ot hs Ds now C P Ch u)
include h
theorem WM.Iy {J':AH O} {M':ah} {P':ao} {Ch':List Nat} {u':List Int} {dr dw:Int} (k:bS J' hb qb mb M' P' Ch' u' (pb::lb::nb::sb::eb::X)) (jT:P'.id=P.id) (q:fE M M' P.id u' dr dw) (kp:aw (pb::lb::nb::sb::eb::X) J J'):WM J' eb sb nb lb pb mb hb qb M' S w L T X aW v ot hs Ds now C P' Ch' u':=by
 have mi:bu J' mb M' (pb::lb::nb::sb::(eb::([]++(hb::qb::X)))):=k.p.mi.mono fun b hb=>by
  simp only [List.nil_append,List.mem_cons] at hb ⊢
  rcases hb with h |h |h |h |h |h |h |h<;>simp [h]
 exact ⟨jT▸h.m.beside AG (by simp) h.o mi (kp.mono fun b hb=>by
  simp only [List.mem_cons,List.not_mem_nil,or_false] at hb ⊢
  rcases hb with h |h |h |h |h<;>simp [h]) (q.qI h.k.p.now) (by rw [<-jT,k.p.now];simp),h.e,k,jT▸h.o⟩
theorem WM.mov {J':AH O} {M':ah} {x a c:Int} (m:bd CR (fun _ _ Z=>Z=[]) J' eb sb nb lb pb mb M' S w L T (hb::qb::X) [P.id] aW v ot hs []) (b:dp [P.id] M M' x a c) (kp:aw (hb::qb::X) J J'):WM J' eb sb nb lb pb mb hb qb M' S w L T X aW v ot hs Ds now C P Ch u:=by
 obtain ⟨el,tc⟩:=h.k.b
 have mi:bu J' mb M' (qb::hb::(pb::lb::nb::sb::eb::X)):=m.t.s.l.p.mi.mono fun b hb=>by
  simp only [List.nil_append,List.mem_cons] at hb ⊢
  rcases hb with h |h |h |h |h |h |h |h<;>simp [h]
 exact ⟨m,h.e,{h.k with p:={h.k.p with mi:=mi,b:=(kp.aa _ (by simp)).trans h.k.p.b,now:=(b.dv _ (by simp)).trans h.k.p.now},b:=⟨el,(kp.aa _ (by simp)).trans tc⟩},h.o⟩
theorem WM.bF {J':AH O} {K X':List Nat} (hc:ei K J J') (hl:∀ b∈K,b∈X ∨ J.next<=b) (hX:∀ b∈X',b∈X ∨ (J.next<=b/\b<J'.next)):WM J' eb sb nb lb pb mb hb qb M S w L T X' aW v ot hs Ds now C P Ch u:=
 ⟨h.m.bF AG hc (fun b hb=>(hl b hb).imp (fun h=>by simp [h]) fun h=>h) (fun b hb=>by
  simp only [List.mem_cons] at hb ⊢
  rcases hb with h |h |h
  ·simp [h]
  ·simp [h]
  ·rcases hX b h with h |h
   ·simp [h]
   ·simp [h]),h.e,h.k.bF hc (fun b hb=>(hl b hb).imp (fun h=>by simp [h]) fun h=>h) (fun b hb=>by
  simp only [List.mem_cons] at hb ⊢
  rcases hb with h |h |h |h |h |h
  ·simp [h]
  ·simp [h]
  ·simp [h]
  ·simp [h]
  ·simp [h]
  ·rcases hX b h with h |h
   ·simp [h]
   ·simp [h]),h.o⟩
theorem WM.lX:∀ b∈X,b<J.next:=fun b hb=>h.m.lX b (by simp [hb])
theorem WM.find (hf:M.cT 1000) {i:Nat} {d:DO} (hd:Ds[i]? = some d):Ok (SO [.p (some (.n eb,0)),.i .u64 d.ref] J) fun r=>r.1=.i .u64 (match now i with |none=>0 |some t=>d.to t)/\∃ M',WM r.2 eb sb nb lb pb mb hb qb M' S w L T X aW v ot hs Ds now C P Ch u/\dp [P.id] M M' 10 0 0/\aw (hb::qb::X) J r.2:=
 (EH AG h.m hf h.e hd).mono fun r ⟨g1,M',g2,g3,g4⟩=>⟨g1,M',h.mov g2 g3 g4,g3,g4⟩
end
end Go.Abs.Tryz
set_option maxHeartbeats 2000000
namespace Go.Abs.Tryz
open Go Go.Abs
variable {O:Type}
theorem Yu {J:AH O} {mb:Nat} {M:ah} {X:List Nat} (h:bu J mb M X) (hc:M.calm) (je:M.count<262144):
  Ok (qu1 [.p (some (.n mb,0))] J) fun r=>∃ fb,r.1=.aB [.p fb,.i .i64 0]/\bu r.2 mb (M.iv (ff M.sp) 0) X/\aw X J r.2:=by
 (unfold qu1 qu0;refine cw @Option.isNone_some.{0} ?_)
 refine Ok.step (Ev h hc (n:=0) (by decide) (by decide) je) fun r ⟨p1,p2,p3⟩=>?_
 obtain ⟨q,J1⟩:=r
 simp only at p1 p2 p3
 subst p1
 have e0:((0:Int) != 0)=false:=rfl
 have lt:=p2.lt
 refine cw e0 ?_
 refine U.2 ⟨_,rfl,p2.bF (L:=[]) ⟨by simp,fun b hb _=>?_⟩ (by simp) (fun b hb=>.inl hb),⟨Nat.le_trans p3.next (by simp),fun b hb=>?_⟩⟩
 ·rw [aA (by omega)];rfl
 ·have:=lt b hb
  rw [aA (by omega)];exact p3.aa b hb
theorem ah.bW.iv {M:ah} {c c2:Int} (h:M.bW c c2):(M.iv (ff M.sp) 0).bW c (c2+1):=by
 obtain ⟨h1,h2⟩:=h
 exact ⟨h1,by show M.count+1<=_;omega⟩
theorem bd.zH {f:Fn × List AV × List AV} {Tw:List Hd->AH O->List Nat->Prop} {J:AH O} {eb sb nb lb pb mb:Nat} {M:ah} {S:ao} {w:List Int} {L:aP} {T:bn} {X Z:List Nat} {Y:List Int} {aW:Int} {v:List Int} {ot:Nat} {hs:List Hd} (h:bd f Tw J eb sb nb lb pb mb M S w L T X Y aW v ot hs Z):∀ b∈X,b≠pb/\b≠lb/\b≠nb/\b≠sb/\b≠eb/\b∉Z:=fun b hb=>by
 have n1:=h.t.s.l.p.nx
 have n2:=h.t.s.l.nx
 obtain ⟨n3,n4,n5⟩:=h.t.s.nd
 have n6:=h.nx
 simp only [List.mem_cons,List.mem_append,not_or] at n1 n2 n4 n5
 exact ⟨fun e=>n1.2.2.2.2.2 (e▸hb),fun e=>n2.2.2.2.2 (e▸hb),fun e=>n4.2.2 (e▸hb),fun e=>n5.2.2 (e▸hb),fun e=>n6.2 (e▸hb),fun hz=>h.nz b hz hb⟩
theorem AY {J:AH O} {eb sb nb lb pb mb:Nat} {M:ah} {S:ao} {w:List Int} {L:aP} {T:bn} {X:List Nat} {aW:Int} {v:List Int} {ot:Nat} {hs:List Hd} {Ds:List DO} {now:Nat->Option Nat} {C:Nat->DO} (m:bd CR (fun _ _ Z=>Z=[]) J eb sb nb lb pb mb M S w L T X [] aW v ot hs []) (e:EG Ds now C L T v ot) {c c2:Int} (hf:M.bW c c2) (hc:c<=1000000) (PR:c2<=1000):
  Ok (qvb [.p (some (.n mb,0))] J) fun r=>∃ rb hb qb fb gb id M',r.1=.aB [.p (some (.n rb,0)),.i .i64 0]/\WM r.2 eb sb nb lb pb mb hb qb M' S w L T (rb::X) aW v ot hs Ds now C ⟨id,3,0,[],[],0⟩ [] []/\r.2.aa rb=some (.cells true 168 [.p fb,.p gb,.p (some (.n hb,0))])/\M'.bW c (c2+3)/\J.next<=rb/\aw X J r.2:=by
 have z0:((0:Int) != 0)=false:=rfl
 have D1:∀ {M:ah} {c2:Int},M.bW c c2->c2<=2000->M.count<262144:=fun h q=>by have:=h.2;omega
 have calm:∀ {J:AH O} {X:List Nat} {M:ah} {c2:Int},bu J mb M X->M.bW c c2->M.calm:=fun h q=>(q.cT (d:=0) h.ok (by omega)).calm (by decide)
 have mi:=m.t.s.l.p.mi
 (unfold qvb qva;refine bZ ?_)
 refine Ok.step (Yu mi (calm mi hf) (D1 hf (by omega))) fun r ⟨fb,g1,g2,g3⟩=>?_
 obtain ⟨q,J1⟩:=r
 simp only at g1 g2 g3
 subst g1
 obtain ⟨m1,_⟩:=m.opened AG g2 g3
 have f1:=hf.iv
 refine cw z0 ?_
 refine Ok.step (EB g2 (calm g2 f1) (D1 f1 (by omega))) fun r ⟨gb,qg,g4,g5,_,g6⟩=>?_
 obtain ⟨q,J2⟩:=r
 simp only at g4 g5 g6
 subst g4
 have Xx:=g5.p.mi.mono (Y:=pb::lb::nb::sb::(eb::([]++X))) fun b hb=>by
  simp only [List.mem_cons] at hb ⊢
  exact .inr (.inr hb)
 obtain ⟨m2,_⟩:=m1.opened AG Xx g6
 have f2:=f1.iv
 refine cw z0 ?_
 refine Ok.step (EB Xx (calm Xx f2) (D1 f2 (by omega))) fun r ⟨hb,qb,g7,g8,_,g9⟩=>?_
 obtain ⟨q,J3⟩:=r
 simp only at g7 g8 g9
 subst g7
 have mi3:=g8.p.mi.mono (Y:=pb::lb::nb::sb::(eb::([]++X))) fun b hb=>by
  simp only [List.mem_cons] at hb ⊢
  exact .inr (.inr hb)
 obtain ⟨m3,ho⟩:=m2.opened AG mi3 g9
 have f3:=f2.iv
 have tf:=g8.nx
 have Vj:=g8.p.nx
 simp only [List.mem_cons,List.mem_append,not_or] at tf Vj
 have m4:bd CR (fun _ _ Z=>Z=[]) J3 eb sb nb lb pb mb _ S w L T (hb::qb::X) _ aW v ot hs []:=(m3.less (Y':=[_]) (fun y hy=>by
  simp only [List.mem_cons,List.not_mem_nil,or_false] at hy
  exact hy▸List.mem_cons_self)).wide (g8.p.mi.mono fun b hb=>by
  simp only [List.nil_append,List.mem_cons] at hb ⊢
  rcases hb with h |h |h |h |h |h |h |h<;>simp [h]) (fun b hb=>by
  simp only [List.mem_cons] at hb
  rcases hb with rfl |rfl |hb
  ·exact ⟨tf.1,tf.2.1,tf.2.2.1,tf.2.2.2.1,tf.2.2.2.2.1,by simp⟩
  ·exact ⟨Vj.2.1,Vj.2.2.1,Vj.2.2.2.1,Vj.2.2.2.2.1,Vj.2.2.2.2.2.1,by simp⟩
  ·exact m3.zH b hb)
 have W3:WM J3 eb sb nb lb pb mb hb qb _ S w L T X aW v ot hs Ds now C _ [] []:=⟨m4,e,g8,ho⟩
 have lX:=W3.lX
 refine cw z0 ?_
 have lm:=mi.lt
 refine U.2 ⟨J3.next,hb,qb,fb,some (.n gb,0),_,_,rfl,W3.bF (K:=[]) (X':=J3.next::X) ⟨by simp,fun b hb _=>?_⟩ (by simp) (fun b hb=>?_),aH,f3.le (Int.le_refl _) (by omega),?_,⟨?_,fun b hb=>?_⟩⟩
 ·rw [aA (by omega)];rfl
 ·rcases List.mem_cons.1 hb with rfl |hb
  ·exact .inr ⟨Nat.le_refl _,by simp⟩
  ·exact .inl hb
 ·have:=g3.next
  have:=g6.next
  have:=g9.next
  omega
 ·have:=g3.next
  have:=g6.next
  have:=g9.next
  show J.next<=J3.next+1
  omega
 ·have:=lX b hb
  rw [aA (by omega)]
  show J3.aa b=_
  rw [g9.aa b (by simp [hb]),g6.aa b (by simp [hb]),g3.aa b (by simp [hb])]
end Go.Abs.Tryz
namespace Go.Abs.Tryz
open Go Go.Abs
variable {O:Type}
def nG (Ds:List DO) (k:Option Nat):Int:=match k with |none=>0 |some i=>match Ds[i]? with |some d=>d.ref |none=>0
def nH (Ds:List DO) (now:Nat->Option Nat) (k:Option Nat):Int:=match k with |none=>0 |some i=>match Ds[i]? with |some d=>Dc d (now i) |none=>0
def jr (now:Nat->Option Nat) (k:Option Nat):Nat:=match k with |none=>0 |some i=>match now i with |none=>1 |some _=>0
def iy (now:Nat->Option Nat) (l:List (Option Nat)):Nat:=(l.map (jr now)).sum
theorem u5 (now:Nat->Option Nat):∀ l:List (Option Nat),iy now l<=l.length
 |[]=>Nat.le_refl _
 |k::l=>by
  have:=u5 now l
  have h1:jr now k<=1:=by unfold jr;split<;>first |omega |(split<;>omega)
  unfold iy at*
  simp only [List.map_cons,List.sum_cons,List.length_cons]
  omega
theorem kT (now:Nat->Option Nat) (l:List (Option Nat)) (k:Option Nat):iy now (l++[k])=iy now l+jr now k:=by unfold iy;simp
theorem Yv {p q v:AV} {J:AH O}:pB QC (some (.func 81,[],[p,q])) [v] J=Kl [v,p,q] J:=rfl
structure WI (J0:AH O) (eb sb nb lb pb mb hb qb mx cx:Nat) (S:ao) (w:List Int) (L:aP) (T:bn) (X1:List Nat) (aW:Int) (v:List Int) (ot:Nat) (hs:List Hd) (Ds:List DO) (now:Nat->Option Nat) (C:Nat->DO) (id:Int) (ks:List (Option Nat)) (c c2:Int) (Z:List Int) (n:Int) (J:AH O) (M:ah) (X:List Nat):Prop where
 x:X=pb::lb::nb::sb::eb::(mx::cx::X1)
 m:bd CR (fun _ _ Z=>Z=[]) J eb sb nb lb pb mb M S w L T (hb::qb::mx::cx::X1) [id] aW v ot hs []
 bm:J.aa mx=some (.cells true 29 [.p (some (.n eb,0))])
 bc:J.aa cx=some (.cells true 3 [.i .i64 (iy now (ks.take Z.length):Nat)])
 z:Z=(ks.take Z.length).map (nH Ds now)
 zl:Z.length<=ks.length
 bW:M.bW (c+n+10*Z.length) c2
 kp:aw X1 J0 J
theorem SP {J0:AH O} {eb sb nb lb pb mb hb qb mx cx:Nat} {S:ao} {w:List Int} {L:aP} {T:bn} {X1:List Nat} {aW:Int} {v:List Int} {ot:Nat} {hs:List Hd} {Ds:List DO} {now:Nat->Option Nat} {C:Nat->DO} (e:EG Ds now C L T v ot) {P0:ao} (hoi:aW≠P0.id) {Ch:List Nat} {ks:List (Option Nat)} (yW:∀ i,some i∈ks->i<Ds.length) (hkl:ks.length<=1000) {c c2:Int} (hc:c<=1000000) (hmc:mx≠cx) (hcx:cx∉X1):
  Km (O:=O) hb qb mb P0 Ch (ks.map fun k=>(0,nG Ds k)) (.func 81,[],[.p (some (.n mx,0)),.p (some (.n cx,0))]) (WI J0 eb sb nb lb pb mb hb qb mx cx S w L T X1 aW v ot hs Ds now C P0.id ks c c2) where
 calm:=fun {Z n J M X} h h0 h1 h2=>by
  have jv:=h.m.t.s.l.p.mi.ok
  have h3:=h.zl
  have:=h.bW.cT (d:=1000) jv (by omega)
  exact ⟨this.1,this.2⟩
 fr:=fun {Z n J M X J' M' P w0 P' w' dr dw} h k k' jT ai6 q kp h0 h1=>by
  obtain ⟨hx,hm,Vk,Yw,hz,RL,hf,Yx⟩:=h
  subst hx
  have b:=dp.JW (Y:=[]) k.p.mi.ok k'.p.mi.ok k.p.now q h0 h1 (by simp)
  refine ⟨rfl,hm.beside AG (id:=P0.id) (by simp) hoi (k'.p.mi.mono fun b hb=>?_) (kp.mono fun b hb=>?_) ?_ ?_,(kp.aa mx (by simp)).trans Vk,(kp.aa cx (by simp)).trans Yw,hz,RL,(b.bW hf).le (by omega) (by omega),Yx.trans (kp.mono fun b hb=>by simp [hb])⟩
  ·simp only [List.nil_append,List.mem_cons] at hb ⊢
   rcases hb with h |h |h |h |h |h |h |h |h |h<;>simp [h]
  ·simp only [List.mem_cons,List.not_mem_nil,or_false] at hb ⊢
   rcases hb with h |h |h |h |h<;>simp [h]
  ·rw [<-jT];exact q.qI k.p.now
  ·rw [<-jT,<-ai6,k'.p.now];simp
 skip:=fun {Z n J M X g} hv h=>by
  obtain ⟨hx,hm,Vk,Yw,hz,RL,hf,Yx⟩:=h
  rw [List.getElem?_map] at hv
  obtain ⟨k,hk,wR⟩:=Option.map_eq_some_iff.1 hv
  simp only [Prod.mk.injEq] at wR
  have kl:=(List.getElem?_eq_some_iff.1 hk).1
  have kn:k=none:=by
   cases k with
   |none=>rfl
   |some i=>
    have:=yW i (List.mem_of_getElem? hk)
    have hd:=List.getElem?_eq_getElem this
    have h2:=wR.2
    unfold nG at h2
    simp only [hd] at h2
    exact absurd h2 (xA _ _)
  subst kn
  have tk:ks.take (Z.length+1)=ks.take Z.length++[none]:=by rw [List.take_add_one,hk];rfl
  refine ⟨hx,hm,Vk,?_,?_,by simp;omega,hf.le (by simp;omega) (Int.le_refl _),Yx⟩
  ·rw [List.length_append,List.length_singleton,tk,kT];exact Yw
  ·rw [List.length_append,List.length_singleton,tk,List.map_append,<-hz];rfl
 call:=fun {fx Z n J M P w0 X g x} hv hx0 lk k h hfx Cd vI=>by
  obtain ⟨hx,hm,Vk,Yw,hz,RL,hf,Yx⟩:=h
  subst hx
  rw [List.getElem?_map] at hv
  obtain ⟨kk,hk,wR⟩:=Option.map_eq_some_iff.1 hv
  simp only [Prod.mk.injEq] at wR
  have kl:=(List.getElem?_eq_some_iff.1 hk).1
  obtain ⟨i,rfl⟩:∃ i,kk=some i:=by
   cases kk with
   |none=>exact absurd wR.2.symm hx0
   |some i=>exact ⟨i,rfl⟩
  have il:=yW i (List.mem_of_getElem? hk)
  have hd:=List.getElem?_eq_getElem il
  generalize Ds[i]=d at hd
  have hxr:x=d.ref:=by
   rw [<-wR.2]
   unfold nG
   simp only [hd]
  subst hxr
  rw [Yv]
  have tk:ks.take (Z.length+1)=ks.take Z.length++[some i]:=by rw [List.take_add_one,hk];rfl
  have nk:nH Ds now (some i)=Dc d (now i):=by unfold nH;simp only [hd]
  have m2:=hm.wide (X2:=fx++(hb::qb::mx::cx::X1)) (k.p.mi.mono fun b hb=>by
   simp only [List.nil_append,List.mem_cons,List.mem_append] at hb ⊢
   rcases hb with h |h |h |h |h |h |h |h |h |h |h<;>simp [h]) (fun b hb=>by
   rcases List.mem_append.1 hb with hb |hb
   ·have:=hfx b hb
    simp only [List.mem_cons,not_or] at this
    exact ⟨this.1,this.2.1,this.2.2.1,this.2.2.2.1,this.2.2.2.2.1,by simp⟩
   ·exact hm.zH b hb)
  have ff:=EH AG m2 ((hf.cT (d:=1000) k.p.mi.ok (by omega))) e hd
  (unfold Kl qv4;refine cw Vk ?_)
  refine Ok.step ff fun r ⟨g1,M1,g2,g3,g4⟩=>?_
  obtain ⟨q,J1⟩:=r
  simp only at g1 g2 g4
  subst g1
  have fx1:∀ q∈fx,J1.aa q=J.aa q:=fun q hq=>g4.aa q (by simp [hq])
  have bm1:J1.aa mx=_:=(g4.aa mx (by simp)).trans Vk
  have bc1:J1.aa cx=_:=(g4.aa cx (by simp)).trans Yw
  obtain ⟨elk,Gx⟩:=k.b
  have mi1:bu J1 mb M1 (qb::hb::(fx++(pb::lb::nb::sb::eb::mx::cx::X1))):=g2.t.s.l.p.mi.mono fun b hb=>by
   simp only [List.nil_append,List.mem_cons,List.mem_append] at hb ⊢
   rcases hb with h |h |h |h |h |h |h |h |h |h |h<;>simp [h]
  have k1:bS J1 hb qb mb M1 P Ch w0 (fx++(pb::lb::nb::sb::eb::mx::cx::X1)):={k with p:={k.p with mi:=mi1,b:=(g4.aa _ (by simp)).trans k.p.b,now:=(g3.dv _ (by rw [lk.id];simp)).trans k.p.now},b:=⟨elk,(g4.aa _ (by simp)).trans Gx⟩}
  have m3:=g2.wide (X2:=hb::qb::mx::cx::X1) (mi1.mono fun b hb=>by
   simp only [List.nil_append,List.mem_cons,List.mem_append] at hb ⊢
   rcases hb with h |h |h |h |h |h |h |h |h |h<;>simp [h]) (fun b hb=>g2.zH b (by simp only [List.mem_append];exact .inr hb))
  have kp1:aw X1 J0 J1:=Yx.trans (g4.mono fun b hb=>by simp [hb])
  have fw1:M1.bW (c+n+10*((Z.length+1:Nat):Int)) c2:=(g3.bW hf).le (by push_cast;omega) (by omega)
  cases hn:now i with
  |some t=>
   have nz:(d.to t == 0)=false:=by simpa using xA d t
   simp only [hn]
   refine cw nz ?_
   refine U.2 ⟨_,rfl,M1,_,k1,fun q hq=>⟨hfx q hq,fx1 q hq⟩,rfl,m3,bm1,?_,?_,by simp;omega,by rw [List.length_append,List.length_singleton];exact fw1,kp1⟩
   ·rw [List.length_append,List.length_singleton,tk,kT,show jr now (some i)=0 by unfold jr;simp only [hn]];exact bc1
   ·rw [List.length_append,List.length_singleton,tk,List.map_append,<-hz,List.map_singleton,nk,hn];rfl
  |none=>
   have nz:((0:Int) == 0)=true:=rfl
   have ll:=u5 now (ks.take Z.length)
   have w1:IntKind.i64.wrap ((iy now (ks.take Z.length):Nat)+1:Int)=((iy now (ks.take Z.length)+1:Nat):Int):=by
    rw [cd (by simp at ll;omega)];omega
   simp only [hn]
   refine jE nz bc1 w1 ?_
   generalize hJ:AH.put J1 cx _=J2
   have n2:J2.next=J1.next:=by rw [<-hJ];rfl
   have o2:∀ q,q≠cx->J2.aa q=J1.aa q:=fun q hq=>by rw [<-hJ];exact aA hq
   have bc2:J2.aa cx=some (.cells true 3 [.i .i64 ((iy now (ks.take Z.length)+1:Nat):Int)]):=by rw [<-hJ];exact aH
   clear hJ
   have cg:ei [cx] J1 J2:=⟨by omega,fun q hq hm=>o2 q (by simpa using hm)⟩
   have k2:bS J2 hb qb mb M1 P Ch w0 (fx++(pb::lb::nb::sb::eb::mx::cx::X1)):=k1.bF cg (fun q hq=>.inl (by simp at hq;simp [hq])) fun q hq=>.inl hq
   have m4:=m3.bF AG cg (fun q hq=>.inl (by simp at hq;simp [hq])) fun q hq=>.inl hq
   refine U.2 ⟨_,rfl,M1,_,k2,fun q hq=>⟨hfx q hq,?_⟩,rfl,m4,(o2 mx hmc).trans bm1,?_,?_,by simp;omega,by rw [List.length_append,List.length_singleton];exact fw1,kp1.trans (show aw X1 J1 J2 from ⟨by omega,fun q hq=>o2 q (fun e=>hcx (e▸hq))⟩)⟩
   ·rw [o2 q (fun e=>hfx q hq (by simp [e]))];exact fx1 q hq
   ·rw [List.length_append,List.length_singleton,tk,kT,show jr now (some i)=1 by unfold jr;simp only [hn]];exact bc2
   ·rw [List.length_append,List.length_singleton,tk,List.map_append,<-hz,List.map_singleton,nk,hn];rfl
end Go.Abs.Tryz
namespace Go.Abs.Tryz
open Go Go.Abs
variable {O:Type}
structure WK (J:AH O) (eb sb nb lb pb mb hb qb rb:Nat) (M:ah) (S:ao) (w:List Int) (L:aP) (T:bn) (X:List Nat) (aW:Int) (v:List Int) (ot:Nat) (hs:List Hd) (Ds:List DO) (now:Nat->Option Nat) (C:Nat->DO) (P:ao) (u:List Int) (ks:List (Option Nat)) (c:Int) (f:Option Nat->Int):Prop where
 w:WM J eb sb nb lb pb mb hb qb M S w L T (rb::X) aW v ot hs Ds now C P (List.range ks.length) u
 r:∃ fb gb,J.aa rb=some (.cells true 168 [.p fb,.p gb,.p (some (.n hb,0))])
 nr:rb∉X
 bW:M.bW c 300
 fr:P.free=[]
 len:P.E.length=ks.length
 room:P.room<=2*ks.length+8
 vw:∀ (j:Nat) k,ks[j]? = some k->vw P.E j=some (true,0,some (f k))
section
variable {J:AH O} {eb sb nb lb pb mb hb qb rb:Nat} {M:ah} {S:ao} {w:List Int} {L:aP} {T:bn} {X:List Nat} {aW:Int} {v:List Int} {ot:Nat} {hs:List Hd} {Ds:List DO} {now:Nat->Option Nat} {C:Nat->DO} {P:ao} {u:List Int} {ks:List (Option Nat)} {c:Int} {f:Option Nat->Int}
theorem WK.cT (h:WK J eb sb nb lb pb mb hb qb rb M S w L T X aW v ot hs Ds now C P u ks c f) (hc:c<=10000000):M.met.r+1000<85070591730234615865843651857942052864/\M.met.w+1000<85070591730234615865843651857942052864:=by
 have:=h.bW.cT (d:=1000) h.w.k.p.mi.ok (by omega)
 exact ⟨this.1,this.2⟩
theorem WK.lX (h:WK J eb sb nb lb pb mb hb qb rb M S w L T X aW v ot hs Ds now C P u ks c f):rb<J.next/\∀ b∈X,b<J.next:=⟨h.w.lX rb (by simp),fun b hb=>h.w.lX b (by simp [hb])⟩
theorem WK.bF (h:WK J eb sb nb lb pb mb hb qb rb M S w L T X aW v ot hs Ds now C P u ks c f) {J':AH O} {K X':List Nat} (hc:ei K J J') (hl:∀ b∈K,b∈X ∨ J.next<=b) (hX:∀ b∈X',b∈X ∨ (J.next<=b/\b<J'.next)):WK J' eb sb nb lb pb mb hb qb rb M S w L T X' aW v ot hs Ds now C P u ks c f:=by
 have l:=h.lX
 refine {h with w:=h.w.bF hc (fun b hb=>(hl b hb).imp (fun g=>by simp [g]) fun g=>g) (fun b hb=>?_),r:=?_,nr:=fun hm=>?_}
 ·rcases List.mem_cons.1 hb with rfl |hb
  ·exact .inl (by simp)
  ·exact (hX b hb).imp (fun g=>by simp [g]) fun g=>g
 ·obtain ⟨fb,gb,e⟩:=h.r
  refine ⟨fb,gb,(hc.2 rb l.1 fun hm=>?_).trans e⟩
  rcases hl rb hm with g |g
  ·exact h.nr g
  ·have:=l.1;omega
 ·rcases hX rb hm with g |g
  ·exact h.nr g
  ·have:=l.1;omega
theorem WK.add (h:WK J eb sb nb lb pb mb hb qb rb M S w L T X aW v ot hs Ds now C P u ks c f) (hk:ks.length<=100) (hc:c<=1000000) (k:Option Nat):
  Ok (Vl [.p (some (.n rb,0)),.i .u64 (f k)] J) fun r=>r.1=.aB [.i .i64 (ks.length:Int),.i .i64 0]/\∃ M' P' u',WK r.2 eb sb nb lb pb mb hb qb rb M' S w L T X aW v ot hs Ds now C P' u' (ks++[k]) (c+16) f/\aw X J r.2:=by
 obtain ⟨fb,gb,hr⟩:=h.r
 have hro:=h.room
 have hle:=h.len
 have more:P.more<=2*(ks.length+1)+8:=by unfold ao.more;split<;>omega
 have hg:∀ e∈P.E,e.gen<4398046511103:=fun e he=>by
  obtain ⟨j,hj⟩:=List.getElem?_of_mem he
  have jl:=(List.getElem?_eq_some_iff.1 hj).1
  have:=h.vw j _ (List.getElem?_eq_getElem (by omega))
  rw [qe hj] at this
  simp only [Option.some.injEq,Prod.mk.injEq] at this
  omega
 (unfold Vl qvz;refine cw hr ?_)
 refine Ok.step (NR h.w.k (h.cT (by omega)) (x:=f k) (by omega) (by omega) hg) fun r ⟨i,g,P',g1,g2,M',w',dr,dw,g3,g4,g5,g6,g7,g8⟩=>?_
 obtain ⟨q,J1⟩:=r
 simp only at g1 g3 g8
 subst g1
 have fr':i=P.E.length/\P'.free=[]/\P'.room=P.more/\P'.E.length=P.E.length+1:=by
  rcases g2.fr with ⟨_,a,b,c,d⟩ |⟨a,_⟩
  ·exact ⟨a,b,c,d⟩
  ·rw [h.fr] at a;cases a
 obtain ⟨i1,i2,i3,i4⟩:=fr'
 have gz:g=0:=by
  rcases g2.was with ⟨_,e⟩ |⟨y,e⟩
  ·exact e
  ·obtain ⟨_,he,_⟩:=kS e
   have:=(List.getElem?_eq_some_iff.1 he).1
   omega
 subst gz
 have ik:i=ks.length:=by omega
 subst ik
 have rg:List.range ks.length++[ks.length]=List.range (ks++[k]).length:=by rw [List.length_append,List.length_singleton,List.range_succ]
 rw [rg] at g3
 have W1:=h.w.Iy g3 g2.id g4 g8
 have b:=dp.JW (Y:=[]) h.w.k.p.mi.ok g3.p.mi.ok h.w.k.p.now g4 g5 g6 (by simp)
 have bb:J1.aa rb=_:=(g8.aa rb (by simp)).trans hr
 have t0:tok ks.length 0=(ks.length:Int):=by unfold tok;omega
 refine cw t0 ?_
 refine U.2 ⟨rfl,M',P',w',⟨W1,⟨fb,gb,bb⟩,h.nr,(b.bW h.bW).le (by omega) (by omega),i2,by simp;omega,by simp;omega,fun j kk hj=>?_⟩,g8.mono fun b hb=>by simp [hb]⟩
 by_cases e:j=ks.length
 ·subst e
  rw [List.getElem?_append_right (Nat.le_refl _),Nat.sub_self] at hj
  cases hj
  exact g2.now
 ·have jl:=(List.getElem?_eq_some_iff.1 hj).1
  simp at jl
  rw [List.getElem?_append_left (by omega)] at hj
  rw [g2.other j e];exact h.vw j kk hj
theorem WK.get (h:WK J eb sb nb lb pb mb hb qb rb M S w L T X aW v ot hs Ds now C P u ks c f) (hc:c<=1000000) {j:Nat} {k:Option Nat} (hj:ks[j]? = some k):
  Ok (Yy [.p (some (.n rb,0)),.i .i64 (j:Int)] J) fun r=>r.1=.aB [.i .u64 (f k),.i .i64 0]/\∃ M',WK r.2 eb sb nb lb pb mb hb qb rb M' S w L T X aW v ot hs Ds now C P u ks (c+4) f/\aw X J r.2:=by
 obtain ⟨fb,gb,hr⟩:=h.r
 have t0:(j:Int)=tok j 0:=by unfold tok;omega
 (unfold Yy qxd;refine cw hr ?_)
 rw [t0]
 refine Ok.step (NQ h.w.k (h.cT (by omega)) (h.vw j k hj)) fun r ⟨g1,M',g2,g3,g4⟩=>?_
 obtain ⟨q,J1⟩:=r
 simp only at g1 g2 g4
 subst g1
 have W1:=h.w.Iy g2 rfl g3 g4
 have b:=dp.JW (Y:=[]) h.w.k.p.mi.ok g2.p.mi.ok h.w.k.p.now g3 (by decide) (by decide) (by simp)
 have bb:J1.aa rb=_:=(g4.aa rb (by simp)).trans hr
 refine bZ ?_
 exact U.2 ⟨rfl,M',{h with w:=W1,r:=⟨fb,gb,bb⟩,bW:=(b.bW h.bW).le (by omega) (by omega)},g4.mono fun b hb=>by simp [hb]⟩
theorem WK.Yz (h:WK J eb sb nb lb pb mb hb qb rb M S w L T X aW v ot hs Ds now C P u ks c (nG Ds)) (hk:ks.length<=100) (hc:c<=500000) (yW:∀ i,some i∈ks->i<Ds.length):
  Ok (qwz [.p (some (.n eb,0)),.p (some (.n rb,0))] J) fun r=>r.1=.i .i64 (iy now ks:Nat)/\∃ M' P' u',WK r.2 eb sb nb lb pb mb hb qb rb M' S w L T X aW v ot hs Ds now C P' u' ks (c+20*ks.length) (nH Ds now)/\aw X J r.2:=by
 obtain ⟨fb,gb,hr⟩:=h.r
 have lx:=h.lX
 (unfold qwz qwy;refine bZ ?_)
 generalize hJ:AH.put _ (J.next+1) _=J1
 have n1:J1.next=J.next+2:=by rw [<-hJ];rfl
 have bm:J1.aa J.next=some (.cells true 29 [.p (some (.n eb,0))]):=by rw [<-hJ];exact hU
 have bc:J1.aa (J.next+1)=some (.cells true 3 [.i .i64 0]):=by rw [<-hJ];exact hU
 have o1:∀ b,b<J.next->J1.aa b=J.aa b:=fun b hb=>by rw [<-hJ];exact hU
 clear hJ
 have cg:ei [] J J1:=⟨by omega,fun b hb _=>o1 b hb⟩
 have W1:=h.w.bF (K:=[]) (X':=J.next::(J.next+1)::rb::X) cg (by simp) (fun b hb=>by
  simp only [List.mem_cons] at hb
  rcases hb with rfl |rfl |hb
  ·exact .inr (by omega)
  ·exact .inr (by omega)
  ·exact .inl (by simpa using hb))
 have br:J1.aa rb=_:=(o1 rb lx.1).trans hr
 have tt:=SP (O:=O) (J0:=J1) (mx:=J.next) (cx:=J.next+1) (X1:=rb::X) (C:=C) W1.e W1.o (Ch:=List.range ks.length) yW (by omega) (c:=c) (c2:=300) (mb:=mb) (hb:=hb) (qb:=qb) (eb:=eb) (sb:=sb) (nb:=nb) (lb:=lb) (pb:=pb) (S:=S) (w:=w) (hs:=hs) (by omega) (by omega) (fun hm=>by
  rcases List.mem_cons.1 hm with e |hm
  ·have:=lx.1;omega
  ·have:=lx.2 _ hm;omega)
 have hI:WI J1 eb sb nb lb pb mb hb qb J.next (J.next+1) S w L T (rb::X) aW v ot hs Ds now C P.id ks c 300 [] 0 J1 M (pb::lb::nb::sb::eb::(J.next::(J.next+1)::rb::X)):=⟨rfl,W1.m,bm,by rw [bc];rfl,rfl,by simp,h.bW.le (by simp) (by omega),aw.refl _ _⟩
 (unfold qwu qwt;refine cw br ?_)
 refine Ok.step (Kn tt W1.k (fun j i hj=>?_) hI) fun r ⟨g1,Z,n,M',P',w',X',z1,k1,lk,v1,I1,n0,n1'⟩=>?_
 ·obtain ⟨j1,j2⟩:=List.getElem?_eq_some_iff.1 hj
  simp at j1 j2
  subst j2
  obtain ⟨k,Mf⟩:∃ k,ks[j]? = some k:=⟨_,List.getElem?_eq_getElem j1⟩
  exact ⟨0,nG Ds k,by rw [List.getElem?_map,Mf];rfl,h.vw j k Mf⟩
 ·obtain ⟨q,J2⟩:=r
  simp only at g1 k1 I1
  subst g1
  obtain ⟨ex,m2,bm2,bc2,ez,zl,fw,kp⟩:=I1
  subst ex
  simp only [List.length_range] at z1 n1'
  have zt:ks.take Z.length=ks:=by rw [z1,List.take_length]
  rw [zt] at bc2 ez
  refine cw bc2 ?_
  have wm:WM J2 eb sb nb lb pb mb hb qb M' S w L T (J.next::(J.next+1)::rb::X) aW v ot hs Ds now C P' (List.range ks.length) w':=⟨lk.id▸m2,h.w.e,k1,lk.id▸h.w.o⟩
  have kx:aw X J1 J2:=kp.mono fun b hb=>by simp [hb]
  refine U.2 ⟨rfl,M',P',w',⟨wm.bF (K:=[]) (X':=rb::X) ⟨Nat.le_refl _,fun _ _ _=>rfl⟩ (by simp) (fun b hb=>.inl (by simp only [List.mem_cons] at hb ⊢;exact .inr (.inr hb))),⟨fb,gb,(kp.aa rb (by simp)).trans br⟩,h.nr,fw.le (by omega) (by omega),lk.free.trans h.fr,lk.len.trans h.len,by rw [lk.room];exact h.room,fun j k hj=>?_⟩,⟨by have:=kx.next;show J.next<=J2.next;omega,fun b hb=>(kx.aa b hb).trans (o1 b (lx.2 b hb))⟩⟩
  have jl:=(List.getElem?_eq_some_iff.1 hj).1
  have hv:=v1 j j (by simp [jl])
  rw [hv]
  have e1:(List.map (fun k=>((0:Nat),nG Ds k)) ks).getD j (0,0)=(0,nG Ds k):=by simp [List.getD,hj]
  rw [e1,ez,List.getElem?_map,hj];rfl
end
end Go.Abs.Tryz
set_option maxRecDepth 100000
set_option maxHeartbeats 4000000
namespace Go.Abs.Tryz
open Go Go.Abs
variable {O:Type}
def vU (n:Nat) (x:Int):Option Nat:=if x.toNat % (n+1)=0 then none else some (x.toNat % (n+1) - 1)
def Dd (k:Option Nat):Int:=match k with |none => -1 |some i=>(i:Int)
theorem SQ {n:Nat} {x:Int} {i:Nat} (h:vU n x=some i):i<n:=by
 unfold vU at h
 split at h
 ·cases h
 ·have:=Nat.mod_lt x.toNat (show 0<n+1 by omega)
  simp only [Option.some.injEq] at h
  omega
def SR (ks:List (Option Nat)):List AV:=ks.map fun k=>.i .i64 (Dd k)
structure SW (J:AH O) (wx eb sb nb lb pb mb hb qb rb:Nat) (S:ao) (w:List Int) (L:aP) (T:bn) (aW:Int) (v:List Int) (ot:Nat) (hs:List Hd) (Ds:List DO) (now:Nat->Option Nat) (C:Nat->DO) (cs:List AV) (a b:SA) (ks:List (Option Nat)) (c:Int) (f:Option Nat->Int):Prop where
 k:∃ M P u,WK J eb sb nb lb pb mb hb qb rb M S w L T (SA.bk a++(SA.bk b++[wx])) aW v ot hs Ds now C P u ks c f
 oa:aY J 3 1 a ks.length (mD (List.range ks.length))
 ob:aY J 3 1 b ks.length (SR ks)
 bw:J.aa wx=some (.cells true 81 cs)
 ab:∀ x∈SA.bk a,x∉SA.bk b/\x≠wx
 bx:∀ x∈SA.bk b,x≠wx
section
variable {J:AH O} {wx eb sb nb lb pb mb hb qb rb:Nat} {S:ao} {w:List Int} {L:aP} {T:bn} {aW:Int} {v:List Int} {ot:Nat} {hs:List Hd} {Ds:List DO} {now:Nat->Option Nat} {C:Nat->DO} {p:PS} {sc:Nat->Prop} {s:dE} {ea HD ec ee ed:SA} {a b:SA} {ks:List (Option Nat)} {c:Int}
theorem YA (h:SW J wx eb sb nb lb pb mb hb qb rb S w L T aW v ot hs Ds now C (s.cells ea HD ec ee ed) a b ks c (nG Ds)) (at_:dE.At s ea HD ec ee ed) (cO:s.cO=Ds.map DO.ov) (hD:Ds.length<=100) (hc:c<=500000) {sof:SA} {F:List Int} (iF:Ints .u8 sof F) (rF:∀ x∈F,U8 x) (hF:F.length<=20) (hk:ks.length<F.length) (yW:ks=(F.map (vU Ds.length)).take ks.length) {dZ:List AV × AH O} (xe:dZ.2.next=wx):
  Ok (YB (sof,F.length) dZ Vl (some (.n rb,0)) ([.sl a ks.length,.sl b ks.length,.i .i64 (ks.length:Int)],J)) fun q=>∃ a' b' AZ J',q=.inl ([.sl a' AZ.length,.sl b' AZ.length,.i .i64 (AZ.length:Int)],J')/\AZ.length=ks.length+1/\AZ=(F.map (vU Ds.length)).take AZ.length/\SW J' wx eb sb nb lb pb mb hb qb rb S w L T aW v ot hs Ds now C (s.cells ea HD ec ee ed) a' b' AZ (c+16) (nG Ds):=by
 obtain ⟨⟨M,P,u,W⟩,oa,ob,bw,ab,bx⟩:=h
 have hx:F[ks.length]? = some F[ks.length]:=List.getElem?_eq_getElem hk
 generalize F[ks.length]=x at hx
 have rx:=rF x (List.mem_of_getElem? hx)
 obtain ⟨bb,o,rfl,ld⟩:=iF.at hx
 have ld0:=fun J:AH O=>ld O J
 have eo:s.cO.length=Ds.length:=by rw [cO];simp
 have m1:=Jp rx (show 0<Ds.length+1 by omega)
 have w0:IntKind.i64.wrap x=x:=cd (by unfold U8 at rx;omega)
 have w1:IntKind.i64.wrap ((ks.length:Int)+1)=((ks.length+1:Nat):Int):=by rw [cd (by omega)];omega
 have wn:IntKind.i64.wrap ((Ds.length:Int)+1)=((Ds.length+1:Nat):Int):=by rw [cd (by omega)];omega
 have nz:(((Ds.length+1:Nat):Int) == 0)=false:=by rw [beq_eq_false_iff_ne];omega
 have i1:decide ((ks.length:Int)<(F.length:Int))=true:=decide_eq_true (by omega)
 have i0:decide ((0:Int)<=(ks.length:Int))=true:=decide_eq_true (by omega)
 have mlt:=Nat.mod_lt x.toNat (show 0<Ds.length+1 by omega)
 have b9:decide ((ks.length+1)*9<=35184372088832)=true:=decide_eq_true (by omega)
 have z0:((0:Int) == 0)=true:=rfl
 have t0:(true == true)=true:=rfl
 simp only [dE.cells] at bw
 have tk:(F.map (vU Ds.length)).take (ks.length+1)=ks++[vU Ds.length x]:=by
  rw [List.take_add_one,<-yW,List.getElem?_map,hx];rfl
 have fin:∀ (wr xr:Int),wr=Dd (vU Ds.length x)->xr=nG Ds (vU Ds.length x)->Ok (((Vl [.p (some (.n rb,0)),.i .u64 xr] J).bind fun oV=>(AV.ay 2 oV.1).bind fun YC=>(AV.aX .i64 (YC.getD 0 .u)).bind fun Kv=>(AV.aX .i64 (YC.getD 1 .u)).bind fun Gy=>bif !(Gy == 0) then some (Sum.inr (Sum.inr (AV.b false,oV.2))) else
    bif decide ((ks.length+1)*9<=35184372088832) then
     (((oV.2.az 2).put oV.2.next (.cells true 3 [.i .i64 Kv])).cF (oV.2.next+1) 3 1 a ks.length 1 [.i .i64 Kv]).bind fun Gz=>
     (AV.dF Gz.1).bind fun EI=>
     bif decide ((ks.length+1)*9<=35184372088832) then
     (((Gz.2.az 2).put Gz.2.next (.cells true 3 [.i .i64 wr])).cF (Gz.2.next+1) 3 1 b ks.length 1 [.i .i64 wr]).bind fun YD=>
     (AV.dF YD.1).bind fun YE=>
     some (Sum.inl ([.sl EI.1 EI.2,.sl YE.1 YE.2,.i .i64 (IntKind.i64.wrap ((ks.length:Int)+1))],YD.2))
     else none
    else none):Option ((List AV × AH O) ⊕ ((List AV × AH O) ⊕ (AV × AH O)))) fun q=>∃ a' b' AZ J',q=.inl ([.sl a' AZ.length,.sl b' AZ.length,.i .i64 (AZ.length:Int)],J')/\AZ.length=ks.length+1/\AZ=(F.map (vU Ds.length)).take AZ.length/\SW J' wx eb sb nb lb pb mb hb qb rb S w L T aW v ot hs Ds now C (s.cells ea HD ec ee ed) a' b' AZ (c+16) (nG Ds):=by
  rintro wr xr rfl rfl
  refine Ok.step (W.add (by omega) (by omega) (vU Ds.length x)) fun r ⟨g1,M1,P1,u1,W1,k1⟩=>?_
  obtain ⟨q,J1⟩:=r
  simp only at g1 W1 k1
  subst g1
  have YF:=oa.of k1.next fun y hy=>k1.aa y (by simp [hy])
  have Vm:=ob.of k1.next fun y hy=>k1.aa y (by simp [hy])
  have YG:=(k1.aa wx (by simp)).trans bw
  have la:=YF.lt
  have lb':=Vm.lt
  have lw:=W1.lX.2 wx (by simp)
  refine RY z0 @Bool.not_true b9 ?_
  refine Ok.step (Jq YF) fun r ⟨a',g1,g2,g3,g4⟩=>?_
  obtain ⟨q,J2⟩:=r
  simp only at g1 g2 g3 g4
  subst g1
  have ob2:=Vm.of g3.1 fun y hy=>g3.2 y (lb' y hy) fun hm=>(ab y hm).1 hy
  have bw2:=(g3.2 wx lw fun hm=>(ab wx hm).2 rfl).trans YG
  have n2:=g3.1
  have la2:=g2.lt
  refine kf b9 ?_
  refine Ok.step (Jq ob2) fun r ⟨b',g5,g6,g7,g8⟩=>?_
  obtain ⟨q,J3⟩:=r
  simp only at g5 g6 g7 g8
  subst g5
  refine kf w1 ?_
  have n3:=g7.1
  have lb2:=ob2.lt
  have W2:=W1.bF (X':=SA.bk a'++(SA.bk b++[wx])) g3 (fun y hy=>.inl (by simp [hy])) (fun y hy=>by
   simp only [List.mem_append,List.mem_singleton] at hy
   rcases hy with hy |hy |hy
   ·exact .inr (g4 y hy)
   ·exact .inl (by simp [hy])
   ·exact .inl (by simp [hy]))
  have W3:=W2.bF (X':=SA.bk a'++(SA.bk b'++[wx])) g7 (fun y hy=>.inl (by simp [hy])) (fun y hy=>by
   simp only [List.mem_append,List.mem_singleton] at hy
   rcases hy with hy |hy |hy
   ·exact .inl (by simp [hy])
   ·exact .inr (g8 y hy)
   ·exact .inl (by simp [hy]))
  have lw2:wx<J2.next:=by omega
  refine U.2 ⟨a',b',ks++[vU Ds.length x],J3,by simp,by simp,by rw [List.length_append,List.length_singleton,tk],⟨⟨M1,P1,u1,W3⟩,?_,?_,(g7.2 wx lw2 fun hm=>bx wx hm rfl).trans bw2,fun y hy=>⟨fun hm=>?_,fun e=>?_⟩,fun y hy e=>?_⟩⟩
  ·have e:mD (List.range (ks++[vU Ds.length x]).length)=mD (List.range ks.length)++[.i .i64 (ks.length:Int)]:=by
    rw [List.length_append,List.length_singleton,List.range_succ];simp [mD]
   rw [e,List.length_append,List.length_singleton]
   exact g2.of g7.1 fun y hy=>g7.2 y (la2 y hy) fun hm=>by
    have:=(g4 y hy).1
    have:=lb' y hm
    omega
  ·have e:SR (ks++[vU Ds.length x])=SR ks++[.i .i64 (Dd (vU Ds.length x))]:=by simp [SR]
   rw [e,List.length_append,List.length_singleton]
   exact g6
  ·have:=(g4 y hy).2
   have:=(g8 y hm).1
   omega
  ·have:=(g4 y hy).1
   omega
  ·have:=(g8 y hy).1
   omega
 have bwr:=bw
 by_cases cz:x.toNat % (Ds.length+1)=0
 ·have ek:vU Ds.length x=none:=by unfold vU;rw [if_pos cz]
  have wm:IntKind.i64.wrap ((((x.toNat % (Ds.length+1):Nat):Int)) - 1) = -1:=by rw [cz];exact cd (by omega)
  have d1:decide ((-1:Int)>=0)=false:=rfl
  have:=fin (-1) 0 (by rw [ek];rfl) (by rw [ek];rfl)
  (unfold YB SA.ref;refine tg xe bw eo i0 (cj i1 (cj t0 (cj @Bool.and_true (cj @Int.toNat_natCast (cj @Nat.mul_one (cj ld0 (cj nz (cj w0 (cj wn (cj m1 (cj wm d1))))))))))) ?_)
  exact this
 ·have ek:vU Ds.length x=some (x.toNat % (Ds.length+1) - 1):=by unfold vU;rw [if_neg cz]
  generalize hm:x.toNat % (Ds.length+1)=m at*
  have wm:IntKind.i64.wrap (((m:Nat):Int) - 1)=((m - 1:Nat):Int):=by rw [cd (by omega)];omega
  have d1:decide (((m - 1:Nat):Int)>=0)=true:=decide_eq_true (by omega)
  have d2:decide ((0:Int)<=((m - 1:Nat):Int))=true:=decide_eq_true (by omega)
  have d3:decide (((m - 1:Nat):Int)<(Ds.length:Int))=true:=decide_eq_true (by omega)
  obtain ⟨d,hd⟩:∃ d,Ds[m - 1]? = some d:=⟨_,List.getElem?_eq_getElem (by omega)⟩
  obtain ⟨be,oe,cP,cR,rfl,_,_,ldo⟩:=at_.cO.obj (i:=m - 1) (x:=d.ov) (by rw [cO,List.getElem?_map,hd];rfl)
  have a7:=fun J:AH O=>(ldo O J).2.2.2.2.2.2.2
  have rk:nG Ds (some (m - 1))=d.ov.word:=by unfold nG;simp only [hd];rfl
  have:=fin ((m - 1:Nat):Int) d.ov.word (by rw [ek];rfl) (by rw [ek,rk])
  (unfold YB SA.ref;refine tg xe bw eo i0 (cj i1 (cj t0 (cj @Bool.and_true (cj @Int.toNat_natCast (cj @Nat.mul_one (cj ld0 (cj nz (cj w0 (cj wn (cj m1 (cj wm (cj d1 (cj d2 (cj d3 a7)))))))))))))) ?_)
  exact this
theorem Kw (at_:dE.At s ea HD ec ee ed) (dm:DM Ds p sc s.m) {i:Nat} (hi:i<Ds.length):∃ bb o,HD=.loc bb o 1/\∀ (J:AH O),J.ld bb (o+i)=some (.i .u64 (nH Ds p.now (some i))):=by
 have hd:=List.getElem?_eq_getElem hi
 obtain ⟨bb,o,e,l⟩:=at_.m.now.at (dm.nw i _ hd)
 exact ⟨bb,o,e,fun J=>by rw [l O J];unfold nH;simp only [hd]⟩
theorem SS (hi:∀ i,some i∈ks->i<Ds.length) {i:Nat} (hm:some i∈ks):(nH Ds now (some i) == 0)=decide (jr now (some i)=1):=by
 have hd:=List.getElem?_eq_getElem (hi i hm)
 cases hn:now i with
 |none=>simp [nH,jr,hd,hn,Dc]
 |some t=>simp [nH,jr,hd,hn,Dc,xA]
theorem YH (oa:aY J 3 1 b ks.length (SR ks)) (hk:ks.length<=20) (bw:J.aa wx=some (.cells true 81 (s.cells ea HD ec ee ed))) (at_:dE.At s ea HD ec ee ed) (dm:DM Ds p sc s.m) (yW:∀ i,some i∈ks->i<Ds.length) {dZ:List AV × AH O} (xe:dZ.2.next=wx) {j:Nat} (hj:j<ks.length):
  Ok (Vn (b,ks.length) dZ ([.i .i64 (iy p.now (ks.take j):Nat),.i .i64 (j:Int)],J)) fun q=>q=.inl ([.i .i64 (iy p.now (ks.take (j+1)):Nat),.i .i64 ((j+1:Nat):Int)],J):=by
 obtain ⟨k,Mf⟩:∃ k,ks[j]? = some k:=⟨_,List.getElem?_eq_getElem hj⟩
 obtain ⟨bb,o,rfl,ld⟩:=oa.rd.UF (i:=j) (v:=.i .i64 (Dd k)) (by unfold SR;rw [List.getElem?_map,Mf];rfl)
 rw [Nat.mul_one] at ld
 have en:=dm.len.2
 have ll:=u5 p.now (ks.take j)
 have i1:decide ((j:Int)<(ks.length:Int))=true:=decide_eq_true (by omega)
 have i0:decide ((0:Int)<=(j:Int))=true:=decide_eq_true (by omega)
 have w1:IntKind.i64.wrap ((j:Int)+1)=((j+1:Nat):Int):=by rw [cd (by omega)];omega
 have w2:IntKind.i64.wrap (((iy p.now (ks.take j):Nat):Int)+1)=((iy p.now (ks.take j)+1:Nat):Int):=by rw [cd (by simp at ll;omega)];omega
 have t0:(true == true)=true:=rfl
 have t1:(false == true)=false:=rfl
 have tk:ks.take (j+1)=ks.take j++[k]:=by rw [List.take_add_one,Mf];rfl
 rw [tk,kT]
 simp only [dE.cells] at bw
 cases k with
 |none=>
  have d1:decide (Dd none>=0)=false:=rfl
  (unfold Vn SA.ref;refine tg xe bw i0 i1 (cj t0 (cj t1 (cj @Bool.and_true (cj @Int.toNat_natCast (cj @Nat.mul_one (cj ld (cj d1 w1))))))) ?_)
  exact U.2 rfl
 |some i=>
  have hm:=List.mem_of_getElem? Mf
  have il:=yW i hm
  have d1:decide (Dd (some i)>=0)=true:=decide_eq_true (by show (0:Int)<=(i:Int);omega)
  have d2:decide ((0:Int)<=Dd (some i))=true:=d1
  have d3:decide (Dd (some i)<(Ds.length:Int))=true:=decide_eq_true (by show (i:Int)<_;omega)
  have tn:(Dd (some i)).toNat=i:=by show (i:Int).toNat=i;omega
  obtain ⟨b2,o2,rfl,ldn⟩:=Kw (O:=O) at_ dm il
  have lz:=SS (now:=p.now) yW hm
  by_cases c:jr p.now (some i)=1
  ·rw [c]
   have lz':(nH Ds p.now (some i) == 0)=true:=by rw [lz];exact decide_eq_true c
   (unfold Vn SA.ref;refine tg xe bw en i0 (cj i1 (cj t0 (cj t1 (cj @Bool.and_true (cj @Int.toNat_natCast (cj @Nat.mul_one (cj ld (cj d1 (cj d2 (cj d3 (cj tn (cj ldn (cj lz' (cj w1 w2)))))))))))))) ?_)
   exact U.2 rfl
  ·have c0:jr p.now (some i)=0:=by
    have:jr p.now (some i)<=1:=by unfold jr;simp only;split<;>omega
    omega
   rw [c0]
   have lz':(nH Ds p.now (some i) == 0)=false:=by rw [lz];exact decide_eq_false c
   (unfold Vn SA.ref;refine tg xe bw en i0 (cj i1 (cj t0 (cj t1 (cj @Bool.and_true (cj @Int.toNat_natCast (cj @Nat.mul_one (cj ld (cj d1 (cj d2 (cj d3 (cj tn (cj ldn (cj lz' w1))))))))))))) ?_)
   exact U.2 rfl
theorem YI (h:SW J wx eb sb nb lb pb mb hb qb rb S w L T aW v ot hs Ds p.now C (s.cells ea HD ec ee ed) a b ks c (nH Ds p.now)) (hk:ks.length<=20) (hc:c<=500000) (at_:dE.At s ea HD ec ee ed) (dm:DM Ds p sc s.m) (yW:∀ i,some i∈ks->i<Ds.length) {dZ:List AV × AH O} (xe:dZ.2.next=wx) {j:Nat} (hj:j<ks.length):
  Ok (qxi (a,ks.length) Yy (some (.n rb,0)) (b,ks.length) dZ ([.i .i64 (j:Int)],J)) fun q=>∃ J',q=.inl ([.i .i64 ((j+1:Nat):Int)],J')/\SW J' wx eb sb nb lb pb mb hb qb rb S w L T aW v ot hs Ds p.now C (s.cells ea HD ec ee ed) a b ks (c+4) (nH Ds p.now):=by
 obtain ⟨⟨M,P,u,W⟩,oa,ob,bw,ab,bx⟩:=h
 obtain ⟨k,Mf⟩:∃ k,ks[j]? = some k:=⟨_,List.getElem?_eq_getElem hj⟩
 obtain ⟨ba,oa',N0,lda⟩:=oa.rd.UF (i:=j) (v:=.i .i64 (j:Int)) (by unfold mD;rw [List.getElem?_map,List.getElem?_range hj];rfl)
 rw [Nat.mul_one] at lda
 have en:=dm.len.2
 have i1:decide ((j:Int)<(ks.length:Int))=true:=decide_eq_true (by omega)
 have i0:decide ((0:Int)<=(j:Int))=true:=decide_eq_true (by omega)
 have w1:IntKind.i64.wrap ((j:Int)+1)=((j+1:Nat):Int):=by rw [cd (by omega)];omega
 have t0:(true == true)=true:=rfl
 have z0:((0:Int) == 0)=true:=rfl
 have sa:SA.ref a=some (ba,oa'):=by rw [N0];rfl
 (unfold qxi;refine tg i0 i1 t0 @Bool.and_true (cj sa (cj @Int.toNat_natCast (cj @Nat.mul_one lda))) ?_)
 refine Ok.step (W.get (by omega) Mf) fun r ⟨g1,M1,W1,k1⟩=>?_
 obtain ⟨q,J1⟩:=r
 simp only at g1 W1 k1
 subst g1
 have YF:=oa.of k1.next fun y hy=>k1.aa y (by simp [hy])
 have Vm:=ob.of k1.next fun y hy=>k1.aa y (by simp [hy])
 have YG:=(k1.aa wx (by simp)).trans bw
 obtain ⟨bb,o,eb2,ld⟩:=Vm.rd.UF (i:=j) (v:=.i .i64 (Dd k)) (by unfold SR;rw [List.getElem?_map,Mf];rfl)
 rw [Nat.mul_one] at ld
 have sb':SA.ref b=some (bb,o):=by rw [eb2];rfl
 have q1:∀ z:Int,(z == z)=true:=fun z=>by simp
 have f0:(false == false)=true:=rfl
 have bwk:=YG
 simp only [dE.cells] at bwk
 cases k with
 |none=>
  have d1:decide (Dd none>=0)=false:=rfl
  have nk:nH Ds p.now none=0:=rfl
  simp -implicitDefEqProofs only [xe,bwk,i0,i1,t0,Bool.and_true,sb',Int.toNat_natCast,Nat.mul_one,ld,d1,nk,q1,bne,Bool.not_true,f0,z0,w1,Nat.reduceAdd,Nat.reduceMul,Nat.reduceLT,Int.reduceToNat,Int.reduceAdd,Int.reduceSub,Int.reduceMul,eA,dK,dL,dM,dN,dO,dQ,dS,cM,Nat.reduceLeDiff,decide_true,decide_false]
  exact U.2 ⟨J1,rfl,⟨M1,P,u,W1⟩,YF,Vm,YG,ab,bx⟩
 |some i=>
  have hm:=List.mem_of_getElem? Mf
  have il:=yW i hm
  have d1:decide (Dd (some i)>=0)=true:=decide_eq_true (by show (0:Int)<=(i:Int);omega)
  have d2:decide ((0:Int)<=Dd (some i))=true:=d1
  have d3:decide (Dd (some i)<(Ds.length:Int))=true:=decide_eq_true (by show (i:Int)<_;omega)
  have tn:(Dd (some i)).toNat=i:=by show (i:Int).toNat=i;omega
  obtain ⟨b2,o2,e2,ldn⟩:=Kw (O:=O) at_ dm il
  have sn:SA.ref HD=some (b2,o2):=by rw [e2];rfl
  simp -implicitDefEqProofs only [xe,bwk,en,i0,i1,t0,Bool.and_true,sb',sn,Int.toNat_natCast,Nat.mul_one,ld,d1,d2,d3,tn,ldn,q1,bne,Bool.not_true,f0,z0,w1,Nat.reduceAdd,Nat.reduceMul,Nat.reduceLT,Int.reduceToNat,Int.reduceAdd,Int.reduceSub,Int.reduceMul,eA,dK,dL,dM,dN,dO,dQ,dS,cM,Nat.reduceLeDiff,decide_true,decide_false]
  exact U.2 ⟨J1,rfl,⟨M1,P,u,W1⟩,YF,Vm,YG,ab,bx⟩
end
end Go.Abs.Tryz
namespace Go.Abs.Tryz
open Go Go.Abs
variable {O:Type}
end Go.Abs.Tryz
namespace Go.Abs.Tryz
open Go Go.Abs
variable {O:Type}
def bn.done (T:bn):bn:={T with cO:=[.i .i64 0,.i .i64 0,.b false]}
section
variable {J:AH O} {sb nb lb pb mb:Nat} {M:ah} {S:ao} {w:List Int} {L:aP} {T:bn} {X:List Nat} {Y:List Int} {aW:Int} {v:List Int} {ot:Nat} (h:fg J sb nb lb pb mb M S w L T X Y aW v ot)
include h
end
end Go.Abs.Tryz
set_option maxHeartbeats 1000000
namespace Go.Abs.Tryz
open Go Go.Abs
variable {O:Type}
section
variable {f:Fn × List AV × List AV} {Tw:List Hd->AH O->List Nat->Prop} {J:AH O} {eb sb nb lb pb mb:Nat} {M:ah} {S:ao} {w:List Int} {L:aP} {T:bn} {X Z:List Nat} {aW:Int} {v:List Int} {ot:Nat} {hs:List Hd} {Ds:List DO} {p:PS} {C:Nat->DO} (g:GC f Tw J eb sb nb lb pb mb M S w L T X aW v ot hs Z Ds p C)
include g
end
end Go.Abs.Tryz
set_option maxHeartbeats 4000000
namespace Go.Abs.Tryz
open Go Go.Abs Go.Proofs
variable {O:Type}
theorem N2 (el:Nat) (c:List AV):∃ J':AH O,YJ (O:=O) [] (((startH:AH O).az 1).put 0 (.cells true el c))=some (.b true,J')/\J'.aa 0=some (.cells true el c)/\0<J'.next:=by
 have h:(YJ (O:=O) [] (((startH:AH O).az 1).put 0 (.cells true el c))).map (fun r=>(r.1,r.2.aa 0,Nat.blt 0 r.2.next))=some (.b true,some (.cells true el c),true):=by kernel_rfl
 cases e:YJ (O:=O) [] (((startH:AH O).az 1).put 0 (.cells true el c)) with
 |none=>rw [e] at h;cases h
 |some r=>
  rw [e] at h
  obtain ⟨v,J'⟩:=r
  simp only [Option.map_some,Option.some.injEq,Prod.mk.injEq] at h
  obtain ⟨rfl,h2,h3⟩:=h
  exact ⟨J',rfl,h2,Nat.le_of_ble_eq_true h3⟩
theorem Kx (J:AH O) (a b c:SA) (n m k:Nat):Ok (Vo [.agg [.sl a n,.sl b m,.sl c k]] J) fun q=>q.1=.b (decide (n<=14/\m<=40/\k<=10))/\Ext J q.2:=by
 by_cases h1:n<=14
 ·have i1:decide ((n:Int)<=14)=true:=decide_eq_true (by omega)
  by_cases h2:m<=40
  ·have i2:decide ((m:Int)<=40)=true:=decide_eq_true (by omega)
   (unfold Vo YK;refine RY i1 i2 @beq_self_eq_true.{0} ?_)
   refine U.2 ⟨?_,rj⟩
   by_cases h3:k<=10
   ·have i3:decide ((k:Int)<=10)=true:=decide_eq_true (by omega)
    simp [i3,h1,h2,h3]
    try omega
   ·have i3:decide ((k:Int)<=10)=false:=decide_eq_false (by omega)
    simp [i3,h1,h2,h3]
    try omega
  ·have i2:decide ((m:Int)<=40)=false:=decide_eq_false (by omega)
   have ff:(false == true)=false:=rfl
   simp -implicitDefEqProofs only [Vo,YK,i1,i2,ff,beq_self_eq_true,Nat.reduceAdd,Nat.reduceMul,Nat.reduceLT,Int.reduceToNat,Int.reduceAdd,Int.reduceSub,Int.reduceMul,eA,dK,dL,dM,dN,dO,dQ,dS,cM,Nat.reduceLeDiff,decide_true,decide_false]
   exact U.2 ⟨by simp [h2],rj⟩
 ·have i1:decide ((n:Int)<=14)=false:=decide_eq_false (by omega)
  have ff:(false == true)=false:=rfl
  simp -implicitDefEqProofs only [Vo,YK,i1,ff,Nat.reduceAdd,Nat.reduceMul,Nat.reduceLT,Int.reduceToNat,Int.reduceAdd,Int.reduceSub,Int.reduceMul,eA,dK,dL,dM,dN,dO,dQ,dS,cM,Nat.reduceLeDiff,decide_true,decide_false]
  exact U.2 ⟨by simp [h1],rj⟩
end Go.Abs.Tryz
set_option maxHeartbeats 16000000
namespace Go.Abs.Tryz
open Go Go.Abs Go.Proofs
variable {O:Type}
end Go.Abs.Tryz
namespace Go.Abs.Tryz
open Go Go.Abs Go.Proofs
variable {O:Type}
theorem Ky {d:Nat} {cs:List AV} (h:nv Tryz.prog (d+4) 22 cs):∃ (a:SA) (zs:List MZ),cs=[.sl a zs.length]/\iu 4 a zs.length (zs.flatMap MZ.cs)/\∀ z∈zs,z.ok:=by
 have c4:Tryz.prog.cellsOf 73=4:=by kernel_rfl
 obtain ⟨a,els,e,_,ia,ha⟩:=Ip (d:=d+3) Tryz.underlying22 h (fun el vi=>by obtain ⟨z,rfl,_⟩:=Em (d:=d) vi;rw [c4];rfl)
 obtain ⟨zs,h1,h2,h3⟩:=AB (d:=d) ha
 rw [c4,<-h1,<-h2] at ia
 exact ⟨a,zs,by rw [e,h1],ia,h3⟩
theorem EJ {d:Nat} {cs:List AV} (h:nv Tryz.prog (d+1) 202 cs):∃ e:Int × Int × Int,cs=e3 e/\U8 e.1/\U8 e.2.1/\U8 e.2.2:=by
 obtain ⟨ns,rfl,hl,hr⟩:=afV (k:=.u8) Tryz.underlying202 Tryz.underlying5 h
 match ns,hl,hr with
 |[a,b,c],_,hr=>exact ⟨(a,b,c),rfl,hr a (by simp),hr b (by simp),hr c (by simp)⟩
theorem A0 {d:Nat}:∀ {els:List (List AV)},(∀ el∈els,nv Tryz.prog (d+1) 202 el)->∃ es:List (Int × Int × Int),es.length=els.length/\es.flatMap e3=els.flatten/\∀ e∈es,U8 e.1/\U8 e.2.1/\U8 e.2.2
 |[],_=>⟨[],rfl,rfl,by simp⟩
 |x::els,h=>by
  obtain ⟨e,rfl,he⟩:=EJ (h x List.mem_cons_self)
  obtain ⟨es,h1,h2,h3⟩:=A0 (d:=d) (els:=els) fun y hy=>h y (List.mem_cons_of_mem _ hy)
  refine ⟨e::es,by simp [h1],by rw [List.flatMap_cons,List.flatten_cons,h2],fun y hy=>?_⟩
  rcases List.mem_cons.1 hy with rfl |hy
  ·exact he
  ·exact h3 y hy
theorem Kz {d:Nat} {cs:List AV} (h:nv Tryz.prog (d+2) 76 cs):∃ (a:SA) (es:List (Int × Int × Int)),cs=[.sl a es.length]/\iu 3 a es.length (es.flatMap e3)/\∀ e∈es,U8 e.1/\U8 e.2.1/\U8 e.2.2:=by
 have c3:Tryz.prog.cellsOf 202=3:=by kernel_rfl
 obtain ⟨a,els,e,_,ia,ha⟩:=Ip (d:=d+1) Tryz.underlying76 h (fun el vi=>by obtain ⟨z,rfl,_⟩:=EJ (d:=d) vi;rw [c3];rfl)
 obtain ⟨es,h1,h2,h3⟩:=A0 (d:=d) ha
 rw [c3,<-h1,<-h2] at ia
 exact ⟨a,es,by rw [e,h1],ia,h3⟩
theorem KA {x:AV} (h:ArgIs Tryz.prog 78 x):∃ (sa sE sF:SA) (zs:List MZ) (E:List (Int × Int × Int)) (F:List Int),x=.agg [.sl sa zs.length,.sl sE E.length,.sl sF F.length]/\(iu 4 sa zs.length (zs.flatMap MZ.cs)/\∀ z∈zs,z.ok)/\(iu 3 sE E.length (E.flatMap e3)/\∀ e∈E,U8 e.1/\U8 e.2.1/\U8 e.2.2)/\Ints .u8 sF F/\∀ x∈F,U8 x:=by
 obtain ⟨cs,rfl,hc⟩:=WA Tryz.underlying78 h
 obtain ⟨parts,rfl,hl,hp⟩:=CN (d:=11) Tryz.underlying78 hc
 match parts,hl,hp with
 |[p0,p1,p2],_,hp=>
  obtain ⟨sa,zs,rfl,h1,h2⟩:=Ky (d:=7) (hp 0 _ p0 rfl rfl)
  obtain ⟨sE,E,rfl,h3,h4⟩:=Kz (d:=9) (hp 1 _ p1 rfl rfl)
  obtain ⟨sF,F,rfl,_,h5,h6⟩:=ClsIs (d:=10) (k:=.u8) Tryz.underlying47 Tryz.underlying5 (by kernel_rfl) (hp 2 _ p2 rfl rfl)
  exact ⟨sa,sE,sF,zs,E,F,rfl,⟨h1,h2⟩,⟨h3,h4⟩,Ints.mk h5,h6⟩
end Go.Abs.Tryz
namespace Go.Abs.Tryz
open Go Go.Abs Go.Proofs
variable {O:Type}
theorem vV {sa sE sF so:SA} {zs:List MZ} {E:List (Int × Int × Int)} {F G:List Int} (iz:iu 4 sa zs.length (zs.flatMap MZ.cs)) (oz:∀ z∈zs,z.ok) (iE:iu 3 sE E.length (E.flatMap e3)) (rE:∀ e∈E,U8 e.1/\U8 e.2.1/\U8 e.2.2) (iF:Ints .u8 sF F) (rF:∀ x∈F,U8 x) (iG:Ints .u8 so G) (rG:∀ x∈G,U8 x):Ok (law22_SweepWeaks (O:=O) [.agg [.sl sa zs.length,.sl sE E.length,.sl sF F.length],.sl so G.length] startH) fun r=>r.1=.b true:=by
 have t1:(!true)=false:=rfl
 have t0:(false == false)=true:=rfl
 have t2:(true == false)=false:=rfl
 have z0:((0:Int) == 0)=true:=rfl
 have s0:(startH:AH O).next=0:=rfl
 (unfold law22_SweepWeaks qxl;refine kf s0 ?_)
 obtain ⟨J1,ea,hb0,Cd⟩:=N2 (O:=O) 78 [.sl sa zs.length,.sl sE E.length,.sl sF F.length]
 rw [ea]
 refine Hr t1 hb0 ?_
 refine Ok.step (Kx J1 sa sE sF zs.length E.length F.length) fun q ⟨g1,g2⟩=>?_
 obtain ⟨q,J2⟩:=q
 simp only at g1 g2
 subst g1
 have Ma:=g2.next
 by_cases Gs:zs.length<=14/\E.length<=40/\F.length<=10
 case neg=>
  have d0:decide (zs.length<=14/\E.length<=40/\F.length<=10)=false:=decide_eq_false Gs
  refine RY d0 @Bool.not_false t2 ?_
  exact U.2 rfl
 obtain ⟨f1,f2,f3⟩:=Gs
 have d0:decide (zs.length<=14/\E.length<=40/\F.length<=10)=true:=decide_eq_true ⟨f1,f2,f3⟩
 by_cases hG:G.length<=20
 case neg=>
  have d2:decide ((G.length:Int) > 20)=true:=decide_eq_true (by omega)
  refine UD d0 t1 t0 d2 ?_
  exact U.2 rfl
 have d2:decide ((G.length:Int) > 20)=false:=decide_eq_false (by omega)
 have fv:J2.aa 0=_:=(g2.aa 0 Cd).trans hb0
 have Nv:(J2.az 1).aa 0=_:=fv
 refine tg d0 t1 t0 d2 fv ?_
 have Uo:J2.next≠0:=by omega
 refine Ok.step (Jt (J:=J2.az 1) (X:=[J2.next]) (fun y hy=>by
  have e:(J2.az 1).next=J2.next+1:=rfl
  simp at hy
  omega) iz oz f1 iE rE f2 iF rF f3) fun q ⟨eb,sb,nb,lb,pb,mb,M,S,w,L,T,aW,v,ot,hs,Ds,p,C,s,a,b,c,e,d,h1,g3,YL,YM,ajf,hl,hv,Hv,oN,k3⟩=>?_
 obtain ⟨q,J3⟩:=q
 simp only at h1 g3 k3
 subst h1
 generalize LZ:J2.next=wx at g3 Uo k3 ⊢
 have Xq:=g3.h.lX
 simp only [dE.cells]
 refine kf t1 ?_
 generalize hJ:AH.put _ wx _=J4
 have n4:J4.next=J3.next:=by rw [<-hJ];rfl
 have b4:J4.aa wx=some (.cells true 81 (s.cells a b c e d)):=by rw [<-hJ];exact aH
 have o4:∀ y,y≠wx->J4.aa y=J3.aa y:=fun y hy=>by
  rw [<-hJ]
  first
   |exact aA hy
   |exact (aA hy).trans (aA hy)
 clear hJ
 have g4:GC CR AF J4 eb sb nb lb pb mb M S w L T [wx] aW v ot hs [] Ds p C:=g3.sub (g3.h.bF AG (K:=[wx]) ⟨by omega,fun y hy hm=>o4 y (by simpa using hm)⟩ (by simp) (fun y hy=>.inl hy))
 obtain ⟨el5,tb5,em5,anm,hs5,hm5,mt5⟩:=g4.h.t.s.mem
 (unfold Xc qcj;refine kf hs5 ?_)
 refine Ok.step (AY g4.h g4.e ajf (by omega) (by omega)) fun q ⟨rb,hb,qb,fb,gb,id,M1,u1,W1,u2,u3,u4,k5⟩=>?_
 obtain ⟨q,J5⟩:=q
 simp only at u1 W1 u2 k5
 subst u1
 have lw4:=g4.h.lX wx (by simp)
 have W0:SW J5 wx eb sb nb lb pb mb hb qb rb S w L T aW v ot hs Ds p.now C (s.cells a b c e d) .nil .nil [] 401000 (nG Ds):=⟨⟨M1,_,_,W1,⟨fb,gb,u2⟩,by simp [SA.bk];omega,u3.le (by omega) (by omega),rfl,rfl,by simp,fun j k hj=>by simp at hj⟩,aY.nil _ _ _,aY.nil _ _ _,(k5.aa wx (by simp)).trans b4,by simp [SA.bk],by simp [SA.bk]⟩
 have kl:(G.map (vU Ds.length)).length=G.length:=by simp
 refine Hr z0 @Bool.not_true ?_
 refine Ok.cv (Q:=fun q=>∃ a1 b1 ks J',q=.inl ([.sl a1 ks.length,.sl b1 ks.length],J')/\ks=G.map (vU Ds.length)/\SW J' wx eb sb nb lb pb mb hb qb rb S w L T aW v ot hs Ds p.now C (s.cells a b c e d) a1 b1 ks (401000+16*(ks.length:Int)) (nG Ds)) ?_ ?_ (fun q hq=>by obtain ⟨_,_,_,_,e,_⟩:=hq;cases e)
 ·refine Ok.count G.length (fun k x=>∃ a1 b1 ks J',x=([.sl a1 ks.length,.sl b1 ks.length,.i .i64 (ks.length:Int)],J')/\ks.length=k/\ks=(G.map (vU Ds.length)).take ks.length/\SW J' wx eb sb nb lb pb mb hb qb rb S w L T aW v ot hs Ds p.now C (s.cells a b c e d) a1 b1 ks (401000+16*(ks.length:Int)) (nG Ds)) ?_ ?_ ⟨.nil,.nil,[],J5,rfl,rfl,rfl,by rw [show (401000+16*(([]:List (Option Nat)).length:Int))=401000 from rfl];exact W0⟩
  ·rintro k _ hk ⟨a1,b1,ks,J',rfl,rfl,yW,W⟩
   refine (YA W YL YM.cO (by omega) (by omega) iG rG hG hk yW LZ).mono ?_
   rintro _ ⟨a2,b2,AZ,nS,rfl,l1,l2,W2⟩
   exact ⟨a2,b2,AZ,nS,rfl,l1,l2,by rw [l1];rw [show (401000+16*((ks.length+1:Nat):Int))=401000+16*(ks.length:Int)+16 by omega];exact W2⟩
  ·rintro _ ⟨a1,b1,ks,J',rfl,kk,yW,W⟩
   have i1:decide ((ks.length:Int)<(G.length:Int))=false:=decide_eq_false (by omega)
   (unfold YB;refine kf i1 ?_)
   exact U.2 ⟨a1,b1,ks,J',rfl,by rw [yW,kk,<-kl,List.take_length],W⟩
 rintro _ ⟨a1,b1,ks,J6,e1,yW,W6⟩
 simp only [Sum.inl.injEq] at e1
 subst e1
 have kle:ks.length<=20:=by rw [yW,kl];exact hG
 have kin:∀ i,some i∈ks->i<Ds.length:=fun i hm=>by
  rw [yW] at hm
  obtain ⟨x,_,hx⟩:=List.mem_map.1 hm
  exact SQ hx
 clear yW
 refine zE ?_
 refine Ok.step (Ok.count (Q:=fun q=>q=([.i .i64 (iy p.now ks:Nat)],J6)) ks.length (fun j x=>x=([.i .i64 (iy p.now (ks.take j):Nat),.i .i64 (j:Int)],J6)) ?_ ?_ rfl) fun q hq=>?_
 ·rintro j _ hj rfl
  refine (YH W6.ob kle W6.bw YL YM.m kin LZ hj).mono ?_
  rintro _ rfl
  rfl
 ·rintro _ rfl
  have i1:decide ((ks.length:Int)<(ks.length:Int))=false:=decide_eq_false (by omega)
  (unfold Vn;refine Hr i1 @List.take_length.{0} ?_)
  exact U.2 rfl
 subst hq
 refine zE ?_
 obtain ⟨⟨M6,P6,u6,K6⟩,oa6,ob6,bw6,ab6,bx6⟩:=W6
 refine Ok.step (K6.Yz (by omega) (by omega) kin) fun q ⟨v1,M7,P7,u7,K7,k7⟩=>?_
 obtain ⟨q,J7⟩:=q
 simp only at v1 K7 k7
 subst v1
 have W7:SW J7 wx eb sb nb lb pb mb hb qb rb S w L T aW v ot hs Ds p.now C (s.cells a b c e d) a1 b1 ks (402000:Int) (nH Ds p.now):=⟨⟨M7,P7,u7,{K7 with bW:=K7.bW.le (by omega) (by omega)}⟩,oa6.of k7.next fun y hy=>k7.aa y (by simp [hy]),ob6.of k7.next fun y hy=>k7.aa y (by simp [hy]),(k7.aa wx (by simp)).trans bw6,ab6,bx6⟩
 have q1:∀ z:Int,(z == z)=true:=fun z=>by simp
 refine Hr q1 @Bool.not_true ?_
 refine Ok.cv (Q:=fun q=>∃ J',q=.inl ([],J')) ?_ ?_ (fun q hq=>by obtain ⟨_,e⟩:=hq;cases e)
 ·refine Ok.count ks.length (fun j x=>∃ J',x=([.i .i64 (j:Int)],J')/\SW J' wx eb sb nb lb pb mb hb qb rb S w L T aW v ot hs Ds p.now C (s.cells a b c e d) a1 b1 ks (402000+4*(j:Int)) (nH Ds p.now)) ?_ ?_ ⟨J7,rfl,by simpa using W7⟩
  ·rintro j _ hj ⟨J',rfl,W⟩
   refine (YI W kle (by omega) YL YM.m kin LZ hj).mono ?_
   rintro _ ⟨nS,rfl,W2⟩
   exact ⟨nS,rfl,by rw [show (402000+4*((j+1:Nat):Int))=402000+4*(j:Int)+4 by omega];exact W2⟩
  ·rintro _ ⟨J',rfl,W⟩
   have i1:decide ((ks.length:Int)<(ks.length:Int))=false:=decide_eq_false (by omega)
   (unfold qxi;refine kf i1 ?_)
   exact U.2 ⟨J',rfl⟩
 rintro _ ⟨J8,e8⟩
 simp only [Sum.inl.injEq] at e8
 subst e8
 refine zE ?_
 exact U.2 rfl
theorem sweepWeaks_in {x:AV} (h:ArgIs Tryz.prog 78 x) {so:SA} {G:List Int} (iG:Ints .u8 so G) (rG:∀ x∈G,U8 x):Ok (law22_SweepWeaks (O:=O) [x,.sl so G.length] startH) fun r=>r.1=.b true:=by
 obtain ⟨sa,sE,sF,zs,E,F,rfl,⟨h1,h2⟩,⟨h3,h4⟩,h5,h6⟩:=KA h
 exact vV h1 h2 h3 h4 h5 h6 iG rG
end Go.Abs.Tryz
