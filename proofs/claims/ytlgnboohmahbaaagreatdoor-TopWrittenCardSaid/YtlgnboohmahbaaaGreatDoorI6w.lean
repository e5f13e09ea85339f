/-
  What varint and crc compute. No conditions.
-/
import Derived.Test.YtlgnboohmahbaaaGreatDoorI4
import Derived.Test.YtlgnboohmahbaaaGreatDoorS13a
import Derived.Test.YtlgnboohmahbaaaGreatDoorM12
import Derived.Test.YtlgnboohmahbaaaGreatDoorN1
set_option linter.unusedVariables false
set_option linter.unusedSimpArgs false
set_option linter.constructorNameAsVariable false
set_option linter.unusedSimpArgs false
set_option linter.unusedVariables false
set_option maxHeartbeats 2000000
namespace Go.Abs.Tryz
open Go Go.Abs
variable {O:Type}
def Old (σ:AH O) (a:SA):Prop:=∀ b∈SA.bk a,b<σ.next
theorem ais {w:Int} {σ:AH O} {a:SA} {n:Nat} {cs:List AV} (hr:Rd σ 1 a n cs) (ho:Old σ a) (h:0 ≤ w) (h':w<18446744073709551616) (hn:n ≤ 1000000000):
  Ok (kI [.sl a n,.i .u64 w] σ) fun r=>∃ a',r.1=.sl a' (n+(enc w.toNat).length) ∧ aN r.2 5 1 a' (n+(enc w.toNat).length) (cs++(enc w.toNat).map (AV.i .u8)) ∧ Ext σ r.2 ∧ ∀ b∈SA.bk a',σ.next ≤ b:=by
 have r0:((σ.bump 2).put σ.next (.cells true 5 [])).bC a n 1=some cs:=(hr.of fun b hb=>by have:=ho b hb;exact bu (by omega)).bC
 have hl:cs.length=n:=by have:=hr.len;omega
 have gS:=Dx (w:=w.toNat) (by omega)
 simp (maxSteps:=2000000) -implicitDefEqProofs (disch:=(first |omega |rfl |assumption |(simp only [aK];first |omega |assumption))) only [kI,yu,r0,Nat.reduceAdd,Nat.reduceMul,Nat.reduceLT,Int.reduceToNat,Int.reduceAdd,Int.reduceSub,Int.reduceMul,aB,aX]
 refine Ok.step (Q2 hl) fun q ⟨a1,m1,m2,m3,m4⟩=>?_
 obtain ⟨q,aJ⟩:=q
 simp only at m1 m2 m3 m4
 subst m1
 simp (maxSteps:=2000000) -implicitDefEqProofs (disch:=(first |omega |rfl |assumption |(simp only [aK];first |omega |assumption))) only [Nat.reduceAdd,Nat.reduceMul,Nat.reduceLT,Int.reduceToNat,Int.reduceAdd,Int.reduceSub,Int.reduceMul,aB,aX]
 refine Ok.step (Q:=fun r=>∃ (k:Int) (a2:SA) (Wt:List Int),r.1=[.i .u64 k,.sl a2 (n+Wt.length)] ∧ 0 ≤ k ∧ k<128 ∧ aN r.2 5 1 a2 (n+Wt.length) (cs++Wt.map (AV.i .u8)) ∧ Ext σ r.2 ∧ (∀ b∈SA.bk a2,σ.next ≤ b) ∧ Wt++[k]=enc w.toNat) ?_ ?_
 ·refine Ok.loop (fun j s=>∃ (k:Int) (a2:SA) (Wt:List Int) (aP:AH O),s=([.i .u64 k,.sl a2 (n+Wt.length)],aP) ∧ 0 ≤ k ∧ k<18446744073709551616 ∧ j=k.toNat ∧ aN aP 5 1 a2 (n+Wt.length) (cs++Wt.map (AV.i .u8)) ∧ Ext σ aP ∧ (∀ b∈SA.bk a2,σ.next ≤ b) ∧ Wt++enc k.toNat=enc w.toNat) ?_ w.toNat _ ⟨w,a1,[],aJ,rfl,h,h',rfl,by simpa using m2,m3,m4,rfl⟩
  rintro j _ ⟨k,a2,Wt,aP,rfl,h1,h2,rfl,h3,h4,h5,h6⟩
  have hll:=congrArg List.length h6
  simp only [List.length_append] at hll
  have hlk:=Dx (w:=k.toNat) (by omega)
  by_cases Vg:k ≥ 128
  ·have d0:=decide_eq_true Vg
   simp (maxSteps:=2000000) -implicitDefEqProofs (disch:=(first |omega |rfl |assumption |(simp only [aK];first |omega |assumption))) only [u6,d0,Nat.reduceAdd,Nat.reduceMul,Nat.reduceLT,Int.reduceToNat,Int.reduceAdd,Int.reduceSub,Int.reduceMul,aB,aX]
   refine Ok.step (BT h3) fun q ⟨a3,g1,g2,g3,g4⟩=>?_
   obtain ⟨q,cE⟩:=q
   simp only at g1 g2 g3 g4
   subst g1
   have e:Int.fdiv k (2 ^ 7)=k / 128:=by rw [Int.fdiv_eq_ediv_of_nonneg _ (by decide)];rfl
   have eb:bE .or .u8 (IntKind.u8.wrap k) 128=((k.toNat % 128+128:Nat):Int):=by
    rw [wrap_u8,aky (by omega) (by omega) (by omega) (by omega)]
    have:=alH ⟨(k % 256).toNat,by omega⟩
    simp only at this
    rw [show (128:Int).toNat=128 from rfl,this]
    congr 2;omega
   rw [Mo (by omega)] at h6
   have e4:(k / 128).toNat=k.toNat / 128:=by omega
   simp (maxSteps:=2000000) -implicitDefEqProofs (disch:=(first |omega |rfl |assumption |(simp only [aK];first |omega |assumption))) only [Nat.reduceAdd,Nat.reduceMul,Nat.reduceLT,Int.reduceToNat,Int.reduceAdd,Int.reduceSub,Int.reduceMul,aB,aX]
   refine U.2 ⟨(k / 128).toNat,by omega,k / 128,a3,Wt++[((k.toNat % 128+128:Nat):Int)],cE,?_,by omega,by omega,rfl,?_,dE.new h4 h5 g3,fun b hb=>by have:=g4 b hb;have:=h4.next;omega,by rw [e4];simpa using h6⟩
   ·simp only [e,List.length_append,List.length_cons,List.length_nil,Nat.add_assoc]
   ·rw [eb] at g2
    simp only [List.length_append,List.length_cons,List.length_nil,List.map_append,List.map_cons,List.map_nil]
    rw [← List.append_assoc];exact g2
  ·have d0:=decide_eq_false Vg
   simp (maxSteps:=2000000) -implicitDefEqProofs (disch:=(first |omega |rfl |assumption |(simp only [aK];first |omega |assumption))) only [u6,d0,Nat.reduceAdd,Nat.reduceMul,Nat.reduceLT,Int.reduceToNat,Int.reduceAdd,Int.reduceSub,Int.reduceMul,aB,aX]
   rw [Mn (by omega)] at h6
   exact U.2 ⟨k,a2,Wt,rfl,h1,by omega,h3,h4,h5,by rw [← h6];congr 2;omega⟩
 ·rintro ⟨rv,aP⟩ ⟨k,a2,Wt,e,h1,h2,h3,h4,h5,h6⟩
  simp only at e h3 h4
  subst e
  have hll:=congrArg List.length h6
  simp only [List.length_append,List.length_singleton] at hll
  simp (maxSteps:=2000000) -implicitDefEqProofs (disch:=(first |omega |rfl |assumption |(simp only [aK];first |omega |assumption))) only [Nat.reduceAdd,Nat.reduceMul,Nat.reduceLT,Int.reduceToNat,Int.reduceAdd,Int.reduceSub,Int.reduceMul,aB,aX]
  refine Ok.step (BT h3) fun q ⟨a3,g1,g2,g3,g4⟩=>?_
  obtain ⟨q,cE⟩:=q
  simp only at g1 g2 g3 g4
  subst g1
  simp (maxSteps:=2000000) -implicitDefEqProofs (disch:=(first |omega |rfl |assumption |(simp only [aK];first |omega |assumption))) only [Nat.reduceAdd,Nat.reduceMul,Nat.reduceLT,Int.reduceToNat,Int.reduceAdd,Int.reduceSub,Int.reduceMul,aB,aX]
  have ek:IntKind.u8.wrap k=k:=by rw [wrap_u8];omega
  try rw [ek] at g2
  refine U.2 ⟨a3,by rw [← hll];congr 1,?_,dE.new h4 h5 g3,fun b hb=>by have:=g4 b hb;have:=h4.next;omega⟩
  rw [← hll,← h6,List.map_append,← List.append_assoc];exact g2
theorem ait {σ:AH O} {a:SA} {ws:List Int} (hr:Rd σ 1 a ws.length (ws.map (AV.i .u64))) (ho:Old σ a) (hw:Words ws) (hn:ws.length ≤ 1000000):
  Ok (kJ [.sl a ws.length] σ) fun r=>(∃ a',r.1=.sl a' (jk ws).length ∧ nh 1 a' (jk ws).length ((jk ws).map (AV.i .u8))) ∧ Ext σ r.2:=by
 have Eo:∀ k,(jk (ws.take k)).length ≤ 10*ws.length:=fun k=>by
  have h1:=(BS (ws:=ws.take k) fun x hx=>hw x (List.mem_of_mem_take hx)).2
  have:(ws.take k).length ≤ ws.length:=by rw [List.length_take];omega
  omega
 refine Mm (s:=lZ kI) (k:=.u8) (l:=jk ws) ?_
 simp (maxSteps:=2000000) -implicitDefEqProofs (disch:=(first |omega |rfl |assumption |(simp only [aK];first |omega |assumption))) only [lZ,Nat.reduceAdd,Nat.reduceMul,Nat.reduceLT,Int.reduceToNat,Int.reduceAdd,Int.reduceSub,Int.reduceMul,aB,aX]
 refine Ok.step (Q:=fun r=>∃ a',r.1=[.sl a' (jk ws).length] ∧ aN r.2 5 1 a' (jk ws).length ((jk ws).map (AV.i .u8)) ∧ Ext σ r.2 ∧ ∀ b∈SA.bk a',σ.next ≤ b) ?_ ?_
 ·refine Ok.count ws.length (fun k s=>∃ a' aj,s=([.sl a' (jk (ws.take k)).length,.i .i64 (k:Int)],aj) ∧ aN aj 5 1 a' (jk (ws.take k)).length ((jk (ws.take k)).map (AV.i .u8)) ∧ Ext σ aj ∧ ∀ b∈SA.bk a',σ.next ≤ b) ?_ ?_ ⟨.nil,σ,rfl,aN.nil _ _ _,Ext.refl _,by simp [SA.bk]⟩
  ·rintro k _ hk ⟨a',aj,rfl,own,E,fr⟩
   have hx:=List.getElem?_eq_getElem hk
   have hv:(ws.map (AV.i .u64))[k]? = some (.i .u64 ws[k]):=by rw [List.getElem?_map,hx];rfl
   have hxw:=hw _ (List.mem_of_getElem? hx)
   have hS:=YZ hk
   have hk1:=Eo k
   obtain ⟨bb,oo,r1,ld⟩:=Wm (hr.lt ho E) hv
   rw [hS]
   generalize ws[k]=x at*
   simp (maxSteps:=2000000) -implicitDefEqProofs (disch:=(first |omega |rfl |assumption |(simp only [aK];first |omega |assumption))) only [u7,r1,ld,Nat.reduceAdd,Nat.reduceMul,Nat.reduceLT,Int.reduceToNat,Int.reduceAdd,Int.reduceSub,Int.reduceMul,aB,aX]
   refine Ok.step (ais own.rd (fun b hb=>own.lt b hb) hxw.1 hxw.2 (by omega)) fun q ⟨a2,g1,g2,g3,g4⟩=>?_
   obtain ⟨q,aP⟩:=q
   simp only at g1 g2 g3 g4
   subst g1
   simp (maxSteps:=2000000) -implicitDefEqProofs (disch:=(first |omega |rfl |assumption |(simp only [aK];first |omega |assumption))) only [Nat.reduceAdd,Nat.reduceMul,Nat.reduceLT,Int.reduceToNat,Int.reduceAdd,Int.reduceSub,Int.reduceMul,aB,aX]
   refine U.2 ⟨a2,aP,by simp,?_,E.trans g3,fun b hb=>by have:=g4 b hb;have:=E.next;omega⟩
   rw [List.length_append,List.map_append];exact g2
  ·rintro _ ⟨a',aj,rfl,own,E,fr⟩
   rw [List.take_length] at own
   simp (maxSteps:=2000000) -implicitDefEqProofs (disch:=(first |omega |rfl |assumption |(simp only [aK];first |omega |assumption))) only [u7,Nat.reduceAdd,Nat.reduceMul,Nat.reduceLT,Int.reduceToNat,Int.reduceAdd,Int.reduceSub,Int.reduceMul,aB,aX]
   exact U.2 ⟨a',by simp,own,E,fr⟩
 ·rintro ⟨rv,aP⟩ ⟨a',e,own,E,fr⟩
  simp only at e own E
  subst e
  simp (maxSteps:=2000000) -implicitDefEqProofs (disch:=(first |omega |rfl |assumption |(simp only [aK];first |omega |assumption))) only [Nat.reduceAdd,Nat.reduceMul,Nat.reduceLT,Int.reduceToNat,Int.reduceAdd,Int.reduceSub,Int.reduceMul,aB,aX]
  exact U.2 ⟨a',5,rfl,own,E,fr⟩
theorem ad6 {s:W} {c:Int} {σ:AH O} (hc:0 ≤ c ∧ c<256):Ok (GK [.i .u64 (wI s),.i .u8 c] σ) fun r=>r=(.i .u64 (wI (Kv s (ga c.toNat))),σ):=by
 have hr:=TT s
 have e0:IntKind.u64.wrap (IntKind.u64.wrap c*2 ^ 56)=c*72057594037927936:=by rw [wrap_u64,wrap_u64];omega
 have ahU:=Y8 ⟨c.toNat,by omega⟩
 have e1:bE .xor .u64 (wI s) (c*72057594037927936)=wI (s ^^^ top (ga c.toNat)):=by
  rw [Qq hr.1 hr.2 (by omega) (by omega),ahU]
  unfold wI
  rw [BitVec.toNat_xor,BitVec.toNat_ofNat]
  congr 2
  simp only
  omega
 simp -implicitDefEqProofs only [GK,Ft,Nat.reduceAdd,Nat.reduceMul,Nat.reduceLT,Int.reduceToNat,Int.reduceAdd,Int.reduceSub,Int.reduceMul,aB,ak,ao,au,aw,ax,ay,az,ah,Nat.reduceLeDiff,decide_true,decide_false]
 rw [e0,e1]
 refine Ok.step (Q:=fun r=>r=([.i .u64 (wI (Kv s (ga c.toNat)))],σ)) ?_ ?_
 ·refine Ok.count 8 (fun k st=>st=([.i .u64 (wI (rQ k (s ^^^ top (ga c.toNat)))),.i .i64 (k:Int)],σ)) ?_ ?_ rfl
  ·rintro k st hk rfl
   have d0:decide ((k:Int)<8)=true:=decide_eq_true (by omega)
   simp -implicitDefEqProofs only [BU,d0,Y',Nat.reduceAdd,Nat.reduceMul,Nat.reduceLT,Int.reduceToNat,Int.reduceAdd,Int.reduceSub,Int.reduceMul,aB,ak,ao,au,aw,ax,ay,az,ah,Nat.reduceLeDiff,decide_true,decide_false]
   rw [bJ (by omega) (by omega)]
   refine U.2 ?_
   rw [JN];rfl
  ·rintro st rfl
   simp -implicitDefEqProofs only [BU,Nat.reduceAdd,Nat.reduceMul,Nat.reduceLT,Int.reduceToNat,Int.reduceAdd,Int.reduceSub,Int.reduceMul,aB,ak,ao,au,aw,ax,ay,az,ah,Nat.reduceLeDiff,decide_true,decide_false]
   refine U.2 ?_
   rw [Q3 _ _ (by simp [ga])];rfl
 ·rintro r rfl
  simp -implicitDefEqProofs only [Nat.reduceAdd,Nat.reduceMul,Nat.reduceLT,Int.reduceToNat,Int.reduceAdd,Int.reduceSub,Int.reduceMul,aB,ak,ao,au,aw,ax,ay,az,ah,Nat.reduceLeDiff,decide_true,decide_false]
  exact U.2 rfl
theorem XG {s:W} {a:SA} {n:Nat} {bs:List Int} {σ:AH O} (hr:Rd σ 1 a n (bs.map (AV.i .u8))) (hb:Bytes bs) (hn:n ≤ 1000000000):Ok (oU [.i .u64 (wI s),.sl a n] σ) fun r=>r=(.i .u64 (wI (Kv s (dY bs))),σ):=by
 have hl:bs.length=n:=by have:=hr.len;simpa using this
 subst hl
 simp (maxSteps:=2000000) -implicitDefEqProofs (disch:=(first |omega |rfl |assumption |(simp only [aK];first |omega |assumption))) only [oU,Fu,Nat.reduceAdd,Nat.reduceMul,Nat.reduceLT,Int.reduceToNat,Int.reduceAdd,Int.reduceSub,Int.reduceMul,aB,aX]
 refine Ok.step (Q:=fun r=>r=([.i .u64 (wI (Kv s (dY bs)))],σ)) ?_ ?_
 ·refine Ok.count bs.length (fun k st=>st=([.i .u64 (wI (Kv s (dY (bs.take k)))),.i .i64 (k:Int)],σ)) ?_ ?_ rfl
  ·rintro k st hk rfl
   obtain ⟨bb,oo,r1,ld⟩:=Wm hr (XC (k:=.u8) hk)
   simp (maxSteps:=2000000) -implicitDefEqProofs (disch:=(first |omega |rfl |assumption |(simp only [aK];first |omega |assumption))) only [BV,r1,ld,Nat.reduceAdd,Nat.reduceMul,Nat.reduceLT,Int.reduceToNat,Int.reduceAdd,Int.reduceSub,Int.reduceMul,aB,aX]
   refine Ok.step (ad6 (PR hb hk)) fun r Z4=>?_
   subst Z4
   simp (maxSteps:=2000000) -implicitDefEqProofs (disch:=(first |omega |rfl |assumption |(simp only [aK];first |omega |assumption))) only [Nat.reduceAdd,Nat.reduceMul,Nat.reduceLT,Int.reduceToNat,Int.reduceAdd,Int.reduceSub,Int.reduceMul,aB,aX]
   refine U.2 ?_
   rw [Ws hk,ad1];simp
  ·rintro st rfl
   simp (maxSteps:=2000000) -implicitDefEqProofs (disch:=(first |omega |rfl |assumption |(simp only [aK];first |omega |assumption))) only [BV,Nat.reduceAdd,Nat.reduceMul,Nat.reduceLT,Int.reduceToNat,Int.reduceAdd,Int.reduceSub,Int.reduceMul,aB,aX]
   try rw [List.take_length]
   exact U.2 rfl
 ·rintro r rfl
  simp (maxSteps:=2000000) -implicitDefEqProofs (disch:=(first |omega |rfl |assumption |(simp only [aK];first |omega |assumption))) only [Nat.reduceAdd,Nat.reduceMul,Nat.reduceLT,Int.reduceToNat,Int.reduceAdd,Int.reduceSub,Int.reduceMul,aB,aX]
  exact U.2 rfl
theorem XH {b n:Nat} {el:TypeId} {a:SA} {bs:List Int} {σ:AH O} (hx:σ.ai b=some (.cells true el [.sl a n])) (hr:Rd σ 1 a n (bs.map (AV.i .u8))) (hb:Bytes bs) (hn:n ≤ 1000000000):Ok (ma [.sl (.loc (.n b) 0 1) 1] σ) fun r=>r=(.i .u64 (wI (Kv 0#64 (dY bs))),σ):=by
 have m:=XG (s:=0#64) hr hb hn
 rw [ad3] at m
 simp (maxSteps:=2000000) -implicitDefEqProofs (disch:=(first |omega |rfl |assumption |(simp only [aK];first |omega |assumption))) only [ma,IB,Nat.reduceAdd,Nat.reduceMul,Nat.reduceLT,Int.reduceToNat,Int.reduceAdd,Int.reduceSub,Int.reduceMul,aB,aX]
 refine Ok.step (Q:=fun r=>r=([.i .u64 (wI (Kv 0#64 (dY bs)))],σ)) ?_ ?_
 ·rw [Tn]
  simp (maxSteps:=2000000) -implicitDefEqProofs (disch:=(first |omega |rfl |assumption |(simp only [aK];first |omega |assumption))) only [Fv,hx,Nat.reduceAdd,Nat.reduceMul,Nat.reduceLT,Int.reduceToNat,Int.reduceAdd,Int.reduceSub,Int.reduceMul,aB,aX]
  refine Ok.bK (Q:=fun r=>r=.inl ([.i .u64 (wI (Kv 0#64 (dY bs))),.i .i64 1],σ)) ?_ ?_ (fun r h=>by cases h)
  ·refine Ok.step m fun r e=>?_
   subst e
   simp (maxSteps:=2000000) -implicitDefEqProofs (disch:=(first |omega |rfl |assumption |(simp only [aK];first |omega |assumption))) only [Nat.reduceAdd,Nat.reduceMul,Nat.reduceLT,Int.reduceToNat,Int.reduceAdd,Int.reduceSub,Int.reduceMul,aB,aX]
   exact U.2 rfl
  ·rintro _ h
   cases h
   rw [Tn]
   simp (maxSteps:=2000000) -implicitDefEqProofs (disch:=(first |omega |rfl |assumption |(simp only [aK];first |omega |assumption))) only [Fv,Nat.reduceAdd,Nat.reduceMul,Nat.reduceLT,Int.reduceToNat,Int.reduceAdd,Int.reduceSub,Int.reduceMul,aB,aX]
   exact U.2 rfl
 ·rintro r rfl
  simp (maxSteps:=2000000) -implicitDefEqProofs (disch:=(first |omega |rfl |assumption |(simp only [aK];first |omega |assumption))) only [Nat.reduceAdd,Nat.reduceMul,Nat.reduceLT,Int.reduceToNat,Int.reduceAdd,Int.reduceSub,Int.reduceMul,aB,aX]
  exact U.2 rfl
theorem ad7 {a:SA} {n:Nat} {bs:List Int} {σ:AH O} (hr:Rd σ 1 a n (bs.map (AV.i .u8))) (ho:Old σ a) (hb:Bytes bs) (hn:n ≤ 1000000):
  Ok (rS [.sl a n] σ) fun r=>(∃ a',r.1=.sl a' (fN bs).length ∧ nh 1 a' (fN bs).length ((fN bs).map (AV.i .u8))) ∧ Ext σ r.2:=by
 have hl:bs.length=n:=by have:=hr.len;simpa using this
 have r0:((σ.bump 2).put σ.next (.cells true 5 [])).bC a n 1=some (bs.map (AV.i .u8)):=(hr.of fun b hb=>by have:=ho b hb;exact bu (by omega)).bC
 have hsl:(fN bs).length=n+8:=by unfold fN;rw [List.length_append,Fs];omega
 refine Mm (s:=rT ma) (k:=.u8) (l:=fN bs) ?_
 rw [hsl]
 simp (maxSteps:=2000000) -implicitDefEqProofs (disch:=(first |omega |rfl |assumption |(simp only [aK];first |omega |assumption))) only [rT,r0,Nat.reduceAdd,Nat.reduceMul,Nat.reduceLT,Int.reduceToNat,Int.reduceAdd,Int.reduceSub,Int.reduceMul,aB,aX]
 refine Ok.step (Q2 (by rw [List.length_map];exact hl)) fun q ⟨a1,m1,m2,m3,m4⟩=>?_
 obtain ⟨q,aJ⟩:=q
 simp only at m1 m2 m3 m4
 subst m1
 simp (maxSteps:=2000000) -implicitDefEqProofs (disch:=(first |omega |rfl |assumption |(simp only [aK];first |omega |assumption))) only [Nat.reduceAdd,Nat.reduceMul,Nat.reduceLT,Int.reduceToNat,Int.reduceAdd,Int.reduceSub,Int.reduceMul,aB,aX]
 generalize dP:(aJ.bump 1).put aJ.next _=aP
 obtain ⟨E2,n2,b2⟩:=Ku dP
 clear dP
 have E12:=m3.trans E2
 refine Ok.step (XH b2 (hr.lt ho E12) hb (by omega)) fun r e=>?_
 subst e
 have aqd:=m2.of E2.next fun q hq=>E2.ai q (m2.lt q hq)
 generalize hs:Kv 0#64 (dY bs)=s at*
 simp (maxSteps:=2000000) -implicitDefEqProofs (disch:=(first |omega |rfl |assumption |(simp only [aK];first |omega |assumption))) only [Nat.reduceAdd,Nat.reduceMul,Nat.reduceLT,Int.reduceToNat,Int.reduceAdd,Int.reduceSub,Int.reduceMul,aB,aX]
 refine Ok.step (Q:=fun r=>∃ a',r.1=[.sl a' (n+8)] ∧ aN r.2 5 1 a' (n+8) ((fN bs).map (AV.i .u8)) ∧ Ext σ r.2 ∧ ∀ b∈SA.bk a',σ.next ≤ b) ?_ ?_
 ·refine Ok.count 8 (fun k st=>∃ a' cE,st=([.sl a' (n+k),.i .i64 (k:Int)],cE) ∧ aN cE 5 1 a' (n+k) ((bs++(lY s).take k).map (AV.i .u8)) ∧ Ext σ cE ∧ ∀ b∈SA.bk a',σ.next ≤ b) ?_ ?_ ⟨a1,aP,rfl,by simpa using aqd,E12,m4⟩
  ·rintro k st hk ⟨a',cE,rfl,own,E,fr⟩
   have d0:decide ((k:Int)<8)=true:=decide_eq_true (by omega)
   have e5:IntKind.i64.wrap (56 - IntKind.i64.wrap (8*(k:Int)))=((56 - 8*k:Nat):Int):=by rw [bJ (n:=8*(k:Int)) (by omega) (by omega),bJ (by omega) (by omega)];omega
   have wB:min (56 - 8*k) 64=56 - 8*k:=by omega
   have Zd:decide (((56 - 8*k:Nat):Int)<0)=false:=decide_eq_false (by omega)
   have e6:IntKind.u8.wrap (Int.fdiv (wI s) (2 ^ (56 - 8*k)))=wI s / 2 ^ (56 - 8*k) % 256:=by
    rw [Int.fdiv_eq_ediv_of_nonneg _ (Int.le_of_lt (Int.pow_pos (by omega))),wrap_u8]
   have avF:Nat.ble ((n+k+1)*2) 35184372088832=true:=Nat.ble_eq_true_of_le (by omega)
   have d1:decide ((n+k+1)*2 ≤ 35184372088832)=true:=decide_eq_true (by omega)
   simp -implicitDefEqProofs only [BW,d0,e5,Zd,Int.toNat_natCast,wB,e6,d1,Nat.reduceAdd,Nat.reduceMul,Nat.reduceLT,Int.reduceToNat,Int.reduceAdd,Int.reduceSub,Int.reduceMul,aB,ak,ao,au,aw,ax,ay,az,ah,Nat.reduceLeDiff,decide_true,decide_false]
   refine Ok.step (BT own) fun q ⟨a3,g1,g2,g3,g4⟩=>?_
   obtain ⟨q,ky⟩:=q
   simp only at g1 g2 g3 g4
   subst g1
   simp (maxSteps:=2000000) -implicitDefEqProofs (disch:=(first |omega |rfl |assumption |(simp only [aK];first |omega |assumption))) only [Nat.reduceAdd,Nat.reduceMul,Nat.reduceLT,Int.reduceToNat,Int.reduceAdd,Int.reduceSub,Int.reduceMul,aB,aX]
   refine U.2 ⟨a3,ky,rfl,?_,dE.new E fr g3,fun b hb=>by have:=g4 b hb;have:=E.next;omega⟩
   rw [TW hk,← Nat.add_assoc,← List.append_assoc,List.map_append];exact g2
  ·rintro st ⟨a',cE,rfl,own,E,fr⟩
   have ht:(lY s).take 8=lY s:=List.take_of_length_le (by rw [Fs];omega)
   rw [ht] at own
   simp (maxSteps:=2000000) -implicitDefEqProofs (disch:=(first |omega |rfl |assumption |(simp only [aK];first |omega |assumption))) only [BW,Nat.reduceAdd,Nat.reduceMul,Nat.reduceLT,Int.reduceToNat,Int.reduceAdd,Int.reduceSub,Int.reduceMul,aB,aX]
   refine U.2 ⟨a',rfl,?_,E,fr⟩
   unfold fN
   rw [hs];exact own
 ·rintro ⟨rv,cE⟩ ⟨a',e,own,E,fr⟩
  simp only at e own E
  subst e
  simp (maxSteps:=2000000) -implicitDefEqProofs (disch:=(first |omega |rfl |assumption |(simp only [aK];first |omega |assumption))) only [Nat.reduceAdd,Nat.reduceMul,Nat.reduceLT,Int.reduceToNat,Int.reduceAdd,Int.reduceSub,Int.reduceMul,aB,aX]
  exact U.2 ⟨a',5,rfl,own,E,fr⟩
end Go.Abs.Tryz
namespace Go.Abs.Tryz
open Go Go.Abs
variable {O:Type}
theorem aiu {σ:AH O} {a:SA} {n:Nat} {bs:List Int} (hr:Rd σ 1 a n (bs.map (AV.i .u8))) (hb:Bytes bs) (hn:n ≤ 1000000000):Ok (kK [.sl a n] σ) fun r=>r=(TL bs,σ):=by
 have hl:bs.length=n:=by have:=hr.len;simpa using this
 simp (maxSteps:=2000000) -implicitDefEqProofs (disch:=(first |omega |rfl |assumption |(simp only [aK];first |omega |assumption))) only [kK,yv,Nat.reduceAdd,Nat.reduceMul,Nat.reduceLT,Int.reduceToNat,Int.reduceAdd,Int.reduceSub,Int.reduceMul,aB,aX]
 refine Ok.bK (Q:=fun r=>match r with |.inl s=>s.2=σ ∧ TL bs=.aS [.i .u64 0,.i .i64 0,.i .i64 6] |.inr r=>r=(TL bs,σ)) ?_ (fun s h=>?_) (fun r h=>h)
 ·refine Ok.loop (fun m (s:List AV × AH O)=>∃ (i:Nat) (w:Int),s=([.i .u64 w,.i .i64 (i:Int)],σ) ∧ m=n - i ∧ i ≤ n ∧ i ≤ 10 ∧ 0 ≤ w ∧ w<((2 ^ min (7*i) 64:Nat):Int) ∧
    TL bs=(if (bT i (bs.drop i)).2.2=0 then .aS [.i .u64 (w+(bT i (bs.drop i)).1*2 ^ (7*i)),.i .i64 (bT i (bs.drop i)).2.1,.i .i64 0] else .aS [.i .u64 0,.i .i64 0,.i .i64 (bT i (bs.drop i)).2.2])) ?_ n _ ⟨0,0,rfl,rfl,by omega,by omega,by omega,by decide,?_⟩
  ·rintro m s ⟨i,w,rfl,rfl,hi,aqc,h1,h2,h3⟩
   by_cases hin:(i:Int)<(n:Int)
   ·have hi':i<bs.length:=by omega
    have hc:=PR hb hi'
    obtain ⟨bb,oo,r1,ld⟩:=Wm hr (XC (k:=.u8) hi')
    have hd:bs.drop i=bs[i]::bs.drop (i+1):=List.drop_eq_getElem_cons hi'
    rw [hd] at h3
    have an:=YY hc
    have ad:=Wn hc
    generalize bs[i]=c at*
    have e1:IntKind.u64.wrap (c % 128)=c % 128:=uY (by omega) (by omega)
    have e2:IntKind.i64.wrap (7*(i:Int))=7*(i:Int):=bJ (by omega) (by omega)
    have e3:(7*(i:Int)).toNat=7*i:=by omega
    have d7:decide (7*(i:Int)<0)=false:=decide_eq_false (by omega)
    by_cases h7:i=10 ∨ (i=9 ∧ 1<c % 128)
    ·simp only [bT,if_pos h7] at h3
     rw [if_neg (by decide)] at h3
     rcases h7 with rfl |⟨rfl,h7⟩
     ·have q9:(((10:Nat):Int) == 9)=false:=rfl
      have nZ:(((10:Nat):Int) == 10)=true:=rfl
      have f1:(false == true)=false:=rfl
      have f2:(false == false)=true:=rfl
      simp (maxSteps:=2000000) -implicitDefEqProofs (disch:=(first |omega |rfl |assumption |(simp only [aK];first |omega |assumption))) only [cz,r1,ld,an,e1,q9,nZ,f1,f2,Nat.reduceAdd,Nat.reduceMul,Nat.reduceLT,Int.reduceToNat,Int.reduceAdd,Int.reduceSub,Int.reduceMul,aB,aX]
      exact U.2 (by rw [h3])
     ·have q9:(((9:Nat):Int) == 9)=true:=rfl
      have f1:(true == true)=true:=rfl
      have f2:(true == false)=false:=rfl
      simp (maxSteps:=2000000) -implicitDefEqProofs (disch:=(first |omega |rfl |assumption |(simp only [aK];first |omega |assumption))) only [cz,r1,ld,an,e1,q9,f1,f2,Nat.reduceAdd,Nat.reduceMul,Nat.reduceLT,Int.reduceToNat,Int.reduceAdd,Int.reduceSub,Int.reduceMul,aB,aX]
      exact U.2 (by rw [h3])
    ·have hi9:i ≤ 9:=by omega
     have nZ:((i:Int) == 10)=false:=by simp;omega
     have hp:(c % 128).toNat<(if i=9 then 2 else 128):=by split<;>omega
     have wB:min (7*i) 64=7*i:=by omega
     have hk:((c % 128).toNat+1)*2 ^ (7*i) ≤ 18446744073709551616:=by
      by_cases h9:i=9
      ·subst h9
       simp only [if_true] at hp
       have:(2:Nat) ^ (7*9)=9223372036854775808:=rfl
       rw [this];omega
      ·rw [if_neg h9] at hp
       have h5:(2:Nat) ^ (7*i) ≤ 2 ^ 56:=Nat.pow_le_pow_right (by omega) (by omega)
       have h6:((c % 128).toNat+1)*2 ^ (7*i) ≤ 128*2 ^ 56:=Nat.mul_le_mul (by omega) h5
       have:(128:Nat)*2 ^ 56=9223372036854775808:=rfl
       omega
     rw [wB] at h2
     have hpn:(c % 128)*2 ^ (7*i)=(((c % 128).toNat*2 ^ (7*i):Nat):Int):=by push_cast;rw [Int.toNat_of_nonneg (by omega)]
     have hk':(c % 128).toNat*2 ^ (7*i)+2 ^ (7*i) ≤ 18446744073709551616:=by rw [← Nat.succ_mul];exact hk
     have avH:0<2 ^ (7*i):=Nat.two_pow_pos _
     have e5:IntKind.u64.wrap (c % 128*2 ^ (7*i))=c % 128*2 ^ (7*i):=uY (by rw [hpn];omega) (by rw [hpn];omega)
     have e6:=adY h1 h2 (show 0 ≤ c % 128 by omega) hk
     have d9:∀ {b:Bool},((i:Int) == 9)=b → (b=true → decide (c % 128 > 1)=false):=fun {b} Vl hbt=>by
      rw [hbt] at Vl
      have:(i:Int)=9:=by simpa using Vl
      exact decide_eq_false fun h=>h7 (.inr ⟨by omega,h⟩)
     have f1:(true == true)=true:=rfl
     have f2:(false == false)=true:=rfl
     have f3:(false == true)=false:=rfl
     simp only [bT,if_neg h7] at h3
     by_cases h8:c<128
     ·have ad':bE .and .u8 c 128=0:=by rw [ad,if_pos h8]
      have z0:((0:Int) != 0)=false:=rfl
      simp only [if_neg (show ¬ (128:Int) ≤ c by omega)] at h3
      have hcc:c % 128=c:=by omega
      by_cases h0:c=0 ∧ 0<i
      ·simp only [if_pos h0] at h3
       rw [if_neg (by decide)] at h3
       have g0:(c == 0)=true:=by simp [h0.1]
       have gi:decide ((i:Int) > 0)=true:=decide_eq_true (by omega)
       cases Vl:(i:Int) == 9 with
       |true=>
        have d9:=d9 Vl rfl
        simp (maxSteps:=2000000) -implicitDefEqProofs (disch:=(first |omega |rfl |assumption |(simp only [aK];first |omega |assumption))) only [cz,r1,ld,an,ad',e1,e2,e3,d7,wB,e5,e6,Vl,d9,nZ,f1,f2,f3,z0,gi,g0,Nat.reduceAdd,Nat.reduceMul,Nat.reduceLT,Int.reduceToNat,Int.reduceAdd,Int.reduceSub,Int.reduceMul,aB,aX]
        exact U.2 (by rw [h3])
       |false=>
        simp (maxSteps:=2000000) -implicitDefEqProofs (disch:=(first |omega |rfl |assumption |(simp only [aK];first |omega |assumption))) only [cz,r1,ld,an,ad',e1,e2,e3,d7,wB,e5,e6,Vl,nZ,f1,f2,f3,z0,gi,g0,Nat.reduceAdd,Nat.reduceMul,Nat.reduceLT,Int.reduceToNat,Int.reduceAdd,Int.reduceSub,Int.reduceMul,aB,aX]
        exact U.2 (by rw [h3])
      ·simp only [if_neg h0,if_true] at h3
       have key:∀ {b:Bool},decide ((i:Int) > 0)=b → (b=true → (c == 0)=false):=fun {b} hb hbt=>by
        rw [hbt] at hb
        have:(i:Int) > 0:=by simpa using hb
        exact beq_eq_false_iff_ne.2 fun e=>h0 ⟨e,by omega⟩
       cases Vl:(i:Int) == 9 with
       |true=>
        have d9:=d9 Vl rfl
        have i9:(i:Int)=9:=by simpa using Vl
        have gi:decide ((i:Int) > 0)=true:=decide_eq_true (by omega)
        have g0:=key gi rfl
        simp (maxSteps:=2000000) -implicitDefEqProofs (disch:=(first |omega |rfl |assumption |(simp only [aK];first |omega |assumption))) only [cz,r1,ld,an,ad',e1,e2,e3,d7,wB,e5,e6,Vl,d9,nZ,f1,f2,f3,z0,gi,g0,Nat.reduceAdd,Nat.reduceMul,Nat.reduceLT,Int.reduceToNat,Int.reduceAdd,Int.reduceSub,Int.reduceMul,aB,aX]
        refine U.2 ?_
        rw [h3,hcc]<;>simp
       |false=>
        cases gi:decide ((i:Int) > 0) with
        |true=>
         have g0:=key gi rfl
         simp (maxSteps:=2000000) -implicitDefEqProofs (disch:=(first |omega |rfl |assumption |(simp only [aK];first |omega |assumption))) only [cz,r1,ld,an,ad',e1,e2,e3,d7,wB,e5,e6,Vl,nZ,f1,f2,f3,z0,gi,g0,Nat.reduceAdd,Nat.reduceMul,Nat.reduceLT,Int.reduceToNat,Int.reduceAdd,Int.reduceSub,Int.reduceMul,aB,aX]
         refine U.2 ?_
         rw [h3,hcc]<;>simp
        |false=>
         simp (maxSteps:=2000000) -implicitDefEqProofs (disch:=(first |omega |rfl |assumption |(simp only [aK];first |omega |assumption))) only [cz,r1,ld,an,ad',e1,e2,e3,d7,wB,e5,e6,Vl,nZ,f1,f2,f3,z0,gi,Nat.reduceAdd,Nat.reduceMul,Nat.reduceLT,Int.reduceToNat,Int.reduceAdd,Int.reduceSub,Int.reduceMul,aB,aX]
         refine U.2 ?_
         rw [h3,hcc]<;>simp
     ·have ad':bE .and .u8 c 128=128:=by rw [ad,if_neg h8]
      have z0:((128:Int) != 0)=true:=rfl
      simp only [if_pos (show (128:Int) ≤ c by omega)] at h3
      have fin:∃ m,m<n - i ∧ ∃ (i':Nat) (w':Int),(([.i .u64 (w+c % 128*2 ^ (7*i)),.i .i64 ((i:Int)+1)],σ):List AV × AH O)=([.i .u64 w',.i .i64 (i':Int)],σ) ∧ m=n - i' ∧ i' ≤ n ∧ i' ≤ 10 ∧ 0 ≤ w' ∧ w'<((2 ^ min (7*i') 64:Nat):Int) ∧
        TL bs=(if (bT i' (bs.drop i')).2.2=0 then .aS [.i .u64 (w'+(bT i' (bs.drop i')).1*2 ^ (7*i')),.i .i64 (bT i' (bs.drop i')).2.1,.i .i64 0] else .aS [.i .u64 0,.i .i64 0,.i .i64 (bT i' (bs.drop i')).2.2]):=by
       refine ⟨n - (i+1),by omega,i+1,_,rfl,rfl,by omega,by omega,by rw [hpn];omega,?_,?_⟩
       ·rw [hpn]
        by_cases h9:i=9
        ·subst h9
         have:(2:Nat) ^ min (7*(9+1)) 64=18446744073709551616:=rfl
         rw [this];omega
        ·have:min (7*(i+1)) 64=7*i+7:=by omega
         rw [this,Nat.pow_add]
         rw [if_neg h9] at hp
         have h6:((c % 128).toNat+1)*2 ^ (7*i) ≤ 128*2 ^ (7*i):=Nat.mul_le_mul_right _ (by omega)
         rw [Nat.succ_mul] at h6
         omega
       ·rw [h3]
        by_cases he:(bT (i+1) (bs.drop (i+1))).2.2=0
        ·simp only [he,if_true]
         congr 3
         rw [show 7*(i+1)=7*i+7 by omega,Int.pow_add]
         generalize (2:Int) ^ (7*i)=P
         generalize (bT (i+1) (List.drop (i+1) bs)).1=W
         rw [Int.add_mul,Int.add_assoc]
         congr 2
         rw [Int.mul_assoc,Int.mul_comm W P,← Int.mul_assoc,Int.mul_comm 128 P,Int.mul_comm (P*128) W]
         rw [show (2:Int) ^ 7=128 from rfl]
        ·simp only [he,if_false]
      cases Vl:(i:Int) == 9 with
      |true=>
       have d9:=d9 Vl rfl
       simp (maxSteps:=2000000) -implicitDefEqProofs (disch:=(first |omega |rfl |assumption |(simp only [aK];first |omega |assumption))) only [cz,r1,ld,an,ad',e1,e2,e3,d7,wB,e5,e6,Vl,d9,nZ,f1,f2,f3,z0,Nat.reduceAdd,Nat.reduceMul,Nat.reduceLT,Int.reduceToNat,Int.reduceAdd,Int.reduceSub,Int.reduceMul,aB,aX]
       exact U.2 fin
      |false=>
       simp (maxSteps:=2000000) -implicitDefEqProofs (disch:=(first |omega |rfl |assumption |(simp only [aK];first |omega |assumption))) only [cz,r1,ld,an,ad',e1,e2,e3,d7,wB,e5,e6,Vl,nZ,f1,f2,f3,z0,Nat.reduceAdd,Nat.reduceMul,Nat.reduceLT,Int.reduceToNat,Int.reduceAdd,Int.reduceSub,Int.reduceMul,aB,aX]
       exact U.2 fin
   ·simp (maxSteps:=2000000) -implicitDefEqProofs (disch:=(first |omega |rfl |assumption |(simp only [aK];first |omega |assumption))) only [cz,Nat.reduceAdd,Nat.reduceMul,Nat.reduceLT,Int.reduceToNat,Int.reduceAdd,Int.reduceSub,Int.reduceMul,aB,aX]
    have hd:bs.drop i=[]:=List.drop_eq_nil_of_le (by omega)
    rw [hd] at h3
    exact U.2 ⟨rfl,h3⟩
  ·rw [List.drop_zero]
   unfold TL
   split
   ·rename_i h;simp [h]
   ·rename_i h
    obtain ⟨g1,g2⟩:=PN bs 0 h
    rw [g1,g2]
 ·obtain ⟨h1,h2⟩:=h
  exact U.2 (by rw [h1,h2])
end Go.Abs.Tryz
namespace Go.Abs.Tryz
open Go Go.Abs
variable {O:Type}
theorem abk {σ:AH O} {a:SA} {n:Nat} {bs:List Int} (hr:Rd σ 1 a n (bs.map (AV.i .u8))) (ho:Old σ a) (hb:Bytes bs) (hn:n ≤ 1000000):
  Ok (gj [.sl a n] σ) fun r=>(∃ a',r.1=.aS [.sl a' (bz n bs).1.length,.i .i64 (bz n bs).2] ∧ nh 1 a' (bz n bs).1.length ((bz n bs).1.map (AV.i .u64))) ∧ Ext σ r.2:=by
 have hl:bs.length=n:=by have:=hr.len;simpa using this
 refine Dw (s:=iK kK) (k:=.u64) (l:=(bz n bs).1) (vs:=[.i .i64 (bz n bs).2]) rfl (Ok.mono (Q:=fun r=>∃ a',r.1=.aS [.sl a' (bz n bs).1.length,.i .i64 (bz n bs).2] ∧ aN r.2 63 1 a' (bz n bs).1.length ((bz n bs).1.map (AV.i .u64)) ∧ Ext σ r.2 ∧ ∀ b∈SA.bk a',σ.next ≤ b) ?_ fun r ⟨a',h1,h2,h3,h4⟩=>⟨a',63,h1,h2,h3,h4⟩)
 simp (maxSteps:=2000000) -implicitDefEqProofs (disch:=(first |omega |rfl |assumption |(simp only [aK];first |omega |assumption))) only [iK,Nat.reduceAdd,Nat.reduceMul,Nat.reduceLT,Int.reduceToNat,Int.reduceAdd,Int.reduceSub,Int.reduceMul,aB,aX]
 refine Ok.bK (Q:=fun r=>match r with
   |.inl s=>∃ a',s.1=[.sl a' (bz n bs).1.length] ∧ aN s.2 63 1 a' (bz n bs).1.length ((bz n bs).1.map (AV.i .u64)) ∧ Ext σ s.2 ∧ (∀ b∈SA.bk a',σ.next ≤ b) ∧ (bz n bs).2=0
   |.inr r=>∃ a',r.1=.aS [.sl a' (bz n bs).1.length,.i .i64 (bz n bs).2] ∧ aN r.2 63 1 a' (bz n bs).1.length ((bz n bs).1.map (AV.i .u64)) ∧ Ext σ r.2 ∧ ∀ b∈SA.bk a',σ.next ≤ b) ?_ (fun s h=>?_) (fun r h=>h)
 ·refine Ok.loop (fun k (s:List AV × AH O)=>∃ (i:Nat) (a2:SA) (aP:AH O) (ws:List Int),s=([.sl a2 ws.length,.i .i64 (i:Int)],aP) ∧ k=n - i ∧ i ≤ n ∧ Ext σ aP ∧ aN aP 63 1 a2 ws.length (ws.map (AV.i .u64)) ∧ (∀ b∈SA.bk a2,σ.next ≤ b) ∧ ws.length ≤ i ∧ ∃ f,n - i ≤ f ∧
    bz n bs=(if (bz f (bs.drop i)).2=0 then (ws++(bz f (bs.drop i)).1,0) else ([],(bz f (bs.drop i)).2))) ?_ n _ ⟨0,.nil,σ,[],rfl,rfl,by omega,Ext.refl σ,aN.nil _ _ _,by simp [SA.bk],by simp,n,by omega,?_⟩
  ·rintro k s ⟨i,a2,aP,ws,rfl,hk,hi,E,own,fr,hmi,f,hf,h5⟩
   by_cases hin:(i:Int)<(n:Int)
   ·obtain ⟨a3,g1,g2,_⟩:=(hr.lt ho E).DD (lo:=i) (m:=n - i) (by omega)
    simp only [Nat.mul_one] at g2
    rw [← List.map_drop,← List.map_take,List.take_of_length_le (by simp;omega)] at g2
    simp (maxSteps:=2000000) -implicitDefEqProofs (disch:=(first |omega |rfl |assumption |(simp only [aK];first |omega |assumption))) only [pT,Int.toNat_natCast,g1,Nat.reduceAdd,Nat.reduceMul,Nat.reduceLT,Int.reduceToNat,Int.reduceAdd,Int.reduceSub,Int.reduceMul,aB,aX]
    refine Ok.step (aiu g2 (hb.drop i) (by omega)) fun r e=>?_
    subst e
    cases f with
    |zero=>omega
    |succ f=>
     have jL:bs.drop i≠[]:=by
      intro e
      have:=congrArg List.length e
      simp at this;omega
     simp only [bz,if_neg jL] at h5
     by_cases h0:(bT 0 (bs.drop i)).2.2=0
     ·obtain ⟨q,q1,q2,q3,q4,q5,q6⟩:=XD (hb.drop i) h0
      have q3':q ≤ n - i:=by simpa [hl] using q3
      simp only [h0,q1,if_true,Int.toNat_natCast,List.drop_drop] at h5
      have z0:((0:Int) != 0)=false:=rfl
      simp (maxSteps:=2000000) -implicitDefEqProofs (disch:=(first |omega |rfl |assumption |(simp only [aK];first |omega |assumption))) only [TL,h0,q1,z0,Nat.reduceAdd,Nat.reduceMul,Nat.reduceLT,Int.reduceToNat,Int.reduceAdd,Int.reduceSub,Int.reduceMul,aB,aX]
      refine Ok.step (BT own) fun r ⟨a4,k1,k2,k3,k4⟩=>?_
      obtain ⟨r,ky⟩:=r
      simp only at k1 k2 k3 k4
      subst k1
      simp (maxSteps:=2000000) -implicitDefEqProofs (disch:=(first |omega |rfl |assumption |(simp only [aK];first |omega |assumption))) only [Nat.reduceAdd,Nat.reduceMul,Nat.reduceLT,Int.reduceToNat,Int.reduceAdd,Int.reduceSub,Int.reduceMul,aB,aX]
      refine U.2 ⟨n - (i+q),by omega,i+q,a4,ky,ws++[(bT 0 (bs.drop i)).1],by simp,rfl,by omega,dE.new E fr k3,?_,fun b hb=>by have:=k4 b hb;have:=E.next;omega,by simp;omega,f,by omega,?_⟩
      ·rw [List.length_append,List.map_append];exact k2
      ·rw [h5]
       by_cases h6:(bz f (bs.drop (i+q))).2=0
       ·simp only [h6,if_true,List.append_assoc,List.singleton_append]
       ·simp only [h6,if_false]
     ·simp only [h0,if_false] at h5
      have z0:((bT 0 (bs.drop i)).2.2 != 0)=true:=by simp [h0]
      simp (maxSteps:=2000000) -implicitDefEqProofs (disch:=(first |omega |rfl |assumption |(simp only [aK];first |omega |assumption))) only [TL,z0,Nat.reduceAdd,Nat.reduceMul,Nat.reduceLT,Int.reduceToNat,Int.reduceAdd,Int.reduceSub,Int.reduceMul,aB,aX]
      refine U.2 ⟨.nil,by rw [h5];rfl,by rw [h5];exact aN.nil _ _ _,E,by simp [SA.bk]⟩
   ·have hd:bs.drop i=[]:=List.drop_eq_nil_of_le (by omega)
    rw [hd,Mp] at h5
    simp only [if_true,List.append_nil] at h5
    simp (maxSteps:=2000000) -implicitDefEqProofs (disch:=(first |omega |rfl |assumption |(simp only [aK];first |omega |assumption))) only [pT,Nat.reduceAdd,Nat.reduceMul,Nat.reduceLT,Int.reduceToNat,Int.reduceAdd,Int.reduceSub,Int.reduceMul,aB,aX]
    exact U.2 ⟨a2,by rw [h5],by rw [h5];exact own,E,fr,by rw [h5]⟩
  ·rw [List.drop_zero]
   split
   ·rename_i h;exact Prod.ext rfl h
   ·rename_i h;exact Prod.ext (Wo n bs h) rfl
 ·obtain ⟨s1,s2⟩:=s
  obtain ⟨a',h1,h2,h3,h4,h5⟩:=h
  simp only at h1 h2 h3
  subst h1
  simp (maxSteps:=2000000) -implicitDefEqProofs (disch:=(first |omega |rfl |assumption |(simp only [aK];first |omega |assumption))) only [Nat.reduceAdd,Nat.reduceMul,Nat.reduceLT,Int.reduceToNat,Int.reduceAdd,Int.reduceSub,Int.reduceMul,aB,aX]
  exact U.2 ⟨a',by rw [h5],h2,h3,h4⟩
end Go.Abs.Tryz
namespace Go.Abs.Tryz
open Go Go.Abs
variable {O:Type}
theorem alD {σ aJ:AH O} {x y:oM O} (dP:(((σ.bump 1).put σ.next x).bump 1).put (σ.next+1) y=aJ):Ext σ aJ ∧ aJ.next=σ.next+2 ∧ aJ.ai σ.next=some x ∧ aJ.ai (σ.next+1)=some y:=by
 subst dP
 exact ⟨((((Ext.refl σ).bump 1).put (Nat.le_refl _) _).bump 1).put (by omega) _,rfl,(bu (by omega)).trans cH,cH⟩
theorem abo {σ aj:AH O} {el:TypeId} {a:SA} {n m:Nat} {cs new:List AV} (ho:aN σ el 1 a n cs) (E:Ext (σ.bump 1) aj) (hm:new.length=m):
  Ok (aj.bP σ.next el 1 a n m new) fun r=>∃ a',r.1=.sl a' (n+m) ∧ aN r.2 el 1 a' (n+m) (cs++new) ∧ dE (SA.bk a) σ r.2 ∧ ∀ b∈SA.bk a',σ.next ≤ b ∧ b<r.2.next:=by
 have bS:=ho.lt
 have n1:=E.next
 simp only [bg] at n1
 have e:∀ b,b<σ.next → aj.ai b=σ.ai b:=fun b hb=>E.ai b (by simp only [bg];omega)
 have Xk:aN aj el 1 a n cs:=ho.of (by omega) fun b hb=>e b (bS b hb)
 refine (nW (nid:=σ.next) Xk (fun hm=>by have:=bS _ hm;omega) (by omega) (show new.length=m*1 by omega)).mono fun r ⟨a',g1,g2,g3,g4,g5⟩=>⟨a',g1,g2,⟨by omega,fun b hb hm=>(g4 b (by omega) hm).trans (e b hb)⟩,fun b hb=>by have:=g5 b hb;omega⟩
theorem alK {σ:AH O} {el:TypeId} {a:SA} {n m:Nat} {cs new:List AV} (ho:aN σ el 1 a n cs) (hm:new.length=m):
  Ok ((σ.bump 1).bP σ.next el 1 a n m new) fun r=>∃ a',r.1=.sl a' (n+m) ∧ aN r.2 el 1 a' (n+m) (cs++new) ∧ dE (SA.bk a) σ r.2 ∧ ∀ b∈SA.bk a',σ.next ≤ b ∧ b<r.2.next:=abo ho (Ext.refl _) hm
def Small (l:List Int):Prop:=∀ x∈l,0 ≤ x ∧ x ≤ 100000000
theorem Ze {l:List Int} (h:Small l) (hs:l.length ≤ 1000000):Small (fZ l):=by
 intro x hx
 rcases List.mem_cons.1 hx with rfl |hx
 ·omega
 ·exact h x hx
theorem aiv {σ:AH O} {a b:SA} {l:List Int} {n:Nat} {cs:List AV} (hl:bF .i64 b l) (h0:Small l) (hs:l.length ≤ 1000000) (hn:n ≤ 100000000) (own:aN σ 63 1 a n cs):
  Ok (aQ (S:=List AV × AH O) (T:=List AV × AH O) (mb (b,l.length)) ([.sl a n,.i .i64 0],σ)) fun r=>∃ a',r.1=[.sl a' (n+l.length)] ∧ aN r.2 63 1 a' (n+l.length) (cs++l.map (AV.i .u64)) ∧ dE (SA.bk a) σ r.2 ∧ ∀ x∈SA.bk a',x∈SA.bk a ∨ σ.next ≤ x:=by
 refine Ok.count l.length (fun k s=>∃ a' aj,s=([.sl a' (n+k),.i .i64 (k:Int)],aj) ∧ aN aj 63 1 a' (n+k) (cs++(l.take k).map (AV.i .u64)) ∧ dE (SA.bk a) σ aj ∧ ∀ x∈SA.bk a',x∈SA.bk a ∨ σ.next ≤ x) ?_ ?_ ⟨a,σ,rfl,by simpa using own,dE.refl _ _,fun x h=>.inl h⟩
 ·rintro k _ hk ⟨a',aj,rfl,own,C,fr⟩
  have hx:=List.getElem?_eq_getElem hk
  have hr:=h0 _ (List.getElem_mem hk)
  obtain ⟨bb,oo,r1,ld⟩:=BP hl hx
  have ld1:=ld O (aj.bump 2)
  have ld:=ld O aj
  have ht:(l.take (k+1)).map (AV.i .u64)=(l.take k).map (AV.i .u64)++[.i .u64 l[k]]:=by rw [List.take_succ_eq_append_getElem hk,List.map_append];rfl
  rw [ht]
  generalize l[k]=x at*
  have ew:IntKind.u64.wrap x=x:=uY (by omega) (by omega)
  have dk:decide ((k:Int)<(l.length:Int))=true:=decide_eq_true (by omega)
  have d0:decide ((0:Int) ≤ (k:Int))=true:=decide_eq_true (by omega)
  simp (maxSteps:=2000000) -implicitDefEqProofs (disch:=(first |omega |rfl |assumption |(simp only [aK];first |omega |assumption))) only [mb,dk,d0,r1,ld,ld1,ew,Int.toNat_natCast,Nat.reduceAdd,Nat.reduceMul,Nat.reduceLT,Int.reduceToNat,Int.reduceAdd,Int.reduceSub,Int.reduceMul,aB,aX]
  refine Ok.step (BT own) fun q ⟨a2,g1,g2,g3,g4⟩=>?_
  obtain ⟨q,aP⟩:=q
  simp only at g1 g2 g3 g4
  subst g1
  simp (maxSteps:=2000000) -implicitDefEqProofs (disch:=(first |omega |rfl |assumption |(simp only [aK];first |omega |assumption))) only [Nat.reduceAdd,Nat.reduceMul,Nat.reduceLT,Int.reduceToNat,Int.reduceAdd,Int.reduceSub,Int.reduceMul,aB,aX]
  refine U.2 ⟨a2,aP,rfl,?_,C.trans' g3 fr,fun b hb=>.inr (by have:=g4 b hb;have:=C.next;omega)⟩
  rw [← List.append_assoc];exact g2
 ·rintro _ ⟨a',aj,rfl,own,C,fr⟩
  rw [List.take_length] at own
  have dk:decide ((l.length:Int)<(l.length:Int))=false:=decide_eq_false (by omega)
  simp (maxSteps:=2000000) -implicitDefEqProofs (disch:=(first |omega |rfl |assumption |(simp only [aK];first |omega |assumption))) only [mb,dk,Nat.reduceAdd,Nat.reduceMul,Nat.reduceLT,Int.reduceToNat,Int.reduceAdd,Int.reduceSub,Int.reduceMul,aB,aX]
  exact U.2 ⟨a',rfl,own,C,fr⟩
theorem aiw {σ:AH O} {a b:SA} {l:List Int} {n:Nat} {cs:List AV} (hl:bF .i64 b l) (h0:Small l) (hs:l.length ≤ 1000000) (hn:n ≤ 100000000) (own:aN σ 63 1 a n cs):
  Ok (aQ (S:=List AV × AH O) (T:=List AV × AH O) (rh (b,l.length)) ([.sl a n,.i .i64 0],σ)) fun r=>∃ a',r.1=[.sl a' (n+l.length)] ∧ aN r.2 63 1 a' (n+l.length) (cs++l.map (AV.i .u64)) ∧ dE (SA.bk a) σ r.2 ∧ ∀ x∈SA.bk a',x∈SA.bk a ∨ σ.next ≤ x:=by
 refine Ok.count l.length (fun k s=>∃ a' aj,s=([.sl a' (n+k),.i .i64 (k:Int)],aj) ∧ aN aj 63 1 a' (n+k) (cs++(l.take k).map (AV.i .u64)) ∧ dE (SA.bk a) σ aj ∧ ∀ x∈SA.bk a',x∈SA.bk a ∨ σ.next ≤ x) ?_ ?_ ⟨a,σ,rfl,by simpa using own,dE.refl _ _,fun x h=>.inl h⟩
 ·rintro k _ hk ⟨a',aj,rfl,own,C,fr⟩
  have hx:=List.getElem?_eq_getElem hk
  have hr:=h0 _ (List.getElem_mem hk)
  obtain ⟨bb,oo,r1,ld⟩:=BP hl hx
  have ld1:=ld O (aj.bump 2)
  have ld:=ld O aj
  have ht:(l.take (k+1)).map (AV.i .u64)=(l.take k).map (AV.i .u64)++[.i .u64 l[k]]:=by rw [List.take_succ_eq_append_getElem hk,List.map_append];rfl
  rw [ht]
  generalize l[k]=x at*
  have ew:IntKind.u64.wrap x=x:=uY (by omega) (by omega)
  have dk:decide ((k:Int)<(l.length:Int))=true:=decide_eq_true (by omega)
  have d0:decide ((0:Int) ≤ (k:Int))=true:=decide_eq_true (by omega)
  simp (maxSteps:=2000000) -implicitDefEqProofs (disch:=(first |omega |rfl |assumption |(simp only [aK];first |omega |assumption))) only [rh,dk,d0,r1,ld,ld1,ew,Int.toNat_natCast,Nat.reduceAdd,Nat.reduceMul,Nat.reduceLT,Int.reduceToNat,Int.reduceAdd,Int.reduceSub,Int.reduceMul,aB,aX]
  refine Ok.step (BT own) fun q ⟨a2,g1,g2,g3,g4⟩=>?_
  obtain ⟨q,aP⟩:=q
  simp only at g1 g2 g3 g4
  subst g1
  simp (maxSteps:=2000000) -implicitDefEqProofs (disch:=(first |omega |rfl |assumption |(simp only [aK];first |omega |assumption))) only [Nat.reduceAdd,Nat.reduceMul,Nat.reduceLT,Int.reduceToNat,Int.reduceAdd,Int.reduceSub,Int.reduceMul,aB,aX]
  refine U.2 ⟨a2,aP,rfl,?_,C.trans' g3 fr,fun b hb=>.inr (by have:=g4 b hb;have:=C.next;omega)⟩
  rw [← List.append_assoc];exact g2
 ·rintro _ ⟨a',aj,rfl,own,C,fr⟩
  rw [List.take_length] at own
  have dk:decide ((l.length:Int)<(l.length:Int))=false:=decide_eq_false (by omega)
  simp (maxSteps:=2000000) -implicitDefEqProofs (disch:=(first |omega |rfl |assumption |(simp only [aK];first |omega |assumption))) only [rh,dk,Nat.reduceAdd,Nat.reduceMul,Nat.reduceLT,Int.reduceToNat,Int.reduceAdd,Int.reduceSub,Int.reduceMul,aB,aX]
  exact U.2 ⟨a',rfl,own,C,fr⟩
theorem TX {σ:AH O} {b:SA} {l:List Int} (hl:bF .i64 b l) (h0:Small l) (hs:l.length ≤ 1000000):
  Ok (iL [.sl b l.length] σ) fun r=>(∃ a',r.1=.sl a' (fZ l).length ∧ nh 1 a' (fZ l).length ((fZ l).map (AV.i .u64))) ∧ Ext σ r.2:=by
 refine Mm (s:=jZ) (k:=.u64) (l:=fZ l) ?_
 have ew:IntKind.u64.wrap (l.length:Int)=(l.length:Int):=uY (by omega) (by omega)
 simp (maxSteps:=2000000) -implicitDefEqProofs (disch:=(first |omega |rfl |assumption |(simp only [aK];first |omega |assumption))) only [jZ,ew,Nat.reduceAdd,Nat.reduceMul,Nat.reduceLT,Int.reduceToNat,Int.reduceAdd,Int.reduceSub,Int.reduceMul,aB,aX]
 generalize dP:(σ.bump 1).put σ.next _=aJ
 obtain ⟨E1,n1,b1⟩:=Ku dP
 clear dP
 have own:aN aJ 63 1 (.loc (.n σ.next) 0 1) 1 [.i .u64 (l.length:Int)]:=aN.new rfl b1 (by omega)
 refine Ok.step (aiv hl h0 hs (by omega) own) fun q ⟨a',g1,g2,g3,g4⟩=>?_
 obtain ⟨q,aP⟩:=q
 simp only at g1 g2 g3
 subst g1
 have hn:(fZ l).length=1+l.length:=by unfold fZ;simp;omega
 simp (maxSteps:=2000000) -implicitDefEqProofs (disch:=(first |omega |rfl |assumption |(simp only [aK];first |omega |assumption))) only [Nat.reduceAdd,Nat.reduceMul,Nat.reduceLT,Int.reduceToNat,Int.reduceAdd,Int.reduceSub,Int.reduceMul,aB,aX]
 refine U.2 ⟨a',63,by rw [hn],by rw [hn];exact g2,dE.new E1 (by simp [SA.bk]) g3,fun b hb=>?_⟩
 rcases g4 b hb with h |h
 ·simp [SA.bk] at h;omega
 ·omega
end Go.Abs.Tryz
set_option maxHeartbeats 4000000
namespace Go.Abs.Tryz
open Go Go.Abs
variable {O:Type}
def oT (F:FV):List Int:=bif ct F then fN (jk (ey pck F)) else []
def _root_.Go.Abs.FV.Me (F:FV):Prop:=∀ x∈F.nodes,∀ w∈x.R,0 ≤ w ∧ w<18446744073709551616
theorem Small.of {l:List Int} {n lo:Int} (h:∀ k∈l,lo ≤ k ∧ k ≤ n) (h0:0 ≤ lo) (hn:n ≤ 100000000):Small l:=fun x hx=>by have:=h x hx;omega
theorem IA {F:FV} (h:ct F=true) (hr:F.Me) (hf:F.Gk):Words (ey pck F):=by
 obtain ⟨h1,h2,h3⟩:=wJ h
 have n1:=hf.n
 have n2:=hf.r
 have n3:=hf.w
 have lw:∀ {l:List Int},Small l → l.length ≤ 1000000 → ∀ y∈fZ l,0 ≤ y ∧ y<18446744073709551616:=fun hs hl y hy=>by have:=Ze hs hl y hy;omega
 intro y hy
 rcases List.mem_cons.1 hy with rfl |hy
 ·omega
 rcases List.mem_append.1 hy with hy |hy
 ·obtain ⟨x,hx,hy⟩:=List.mem_flatMap.1 hy
  obtain ⟨k1,k2,k3,k4⟩:=h1 x hx
  rcases List.mem_cons.1 hy with rfl |hy
  ·exact ad0 k1
  ·rcases List.mem_append.1 hy with hy |hy
   ·have:=k4 y hy;omega
   ·exact hr x hx y hy
 ·rcases List.mem_append.1 hy with hy |hy
  ·exact lw (Small.of h2 (by decide) (by omega)) (by omega) y hy
  ·exact lw (Small.of h3 (by decide) (by omega)) (by omega) y hy
def upto (F:FV) (k:Nat):List Int:=(F.nodes.length:Int)::(F.nodes.take k).flatMap (eT pck)
theorem Zf {F:FV} {k:Nat} (hk:k<F.nodes.length):upto F (k+1)=upto F k++eT pck F.nodes[k]:=by
 unfold upto
 rw [List.take_succ_eq_append_getElem hk,List.flatMap_append]
 simp
theorem My {F:FV}:upto F F.nodes.length++(fZ F.roots++fZ F.bn)=ey pck F:=by
 unfold upto ey
 rw [List.take_length];simp
theorem XI {F:FV} {k:Nat} (hk:k ≤ F.nodes.length):(upto F k).length ≤ (ey pck F).length:=by
 rw [← My,List.length_append]
 have:(upto F k).length ≤ (upto F F.nodes.length).length:=by
  have e:upto F F.nodes.length=upto F k++(F.nodes.drop k).flatMap (eT pck):=by
   unfold upto
   rw [List.take_length,List.cons_append,← List.flatMap_append,List.take_append_drop]
  rw [e];simp
 omega
theorem Zg {σ:AH O} {F:FV} {a:SA} {s:SA} (hl:JJ a F.nodes) (hf:F.Gk) (hR:ct F=true) (ht:(ey pck F).length ≤ 50000) (own:aN σ 63 1 s 1 [.i .u64 (F.nodes.length:Int)]):
  Ok (aQ (S:=List AV × AH O) (T:=List AV × AH O) (rj (a,F.nodes.length) df) ([.sl s 1,.i .i64 0],σ)) fun r=>∃ s',r.1=[.sl s' (upto F F.nodes.length).length] ∧ aN r.2 63 1 s' (upto F F.nodes.length).length ((upto F F.nodes.length).map (AV.i .u64)) ∧ dE (SA.bk s) σ r.2 ∧ ∀ b∈SA.bk s',b∈SA.bk s ∨ σ.next ≤ b:=by
 refine Ok.count F.nodes.length (fun k st=>∃ s' aj,st=([.sl s' (upto F k).length,.i .i64 (k:Int)],aj) ∧ aN aj 63 1 s' (upto F k).length ((upto F k).map (AV.i .u64)) ∧ dE (SA.bk s) σ aj ∧ ∀ b∈SA.bk s',b∈SA.bk s ∨ σ.next ≤ b) ?_ ?_ ⟨s,σ,rfl,own,dE.refl _ _,fun b h=>.inl h⟩
 ·rintro k _ hk ⟨s',aj,rfl,own,C,fr⟩
  have hx:=List.getElem?_eq_getElem hk
  have hm:=List.getElem_mem hk
  obtain ⟨k1,k2,k3,k4⟩:=(wJ hR).1 _ hm
  have hxf:=hf.x _ hm
  have hxP:=hxf.p
  have hxR:=hxf.r
  have hnn:=hf.n
  have hsm:Small (F.nodes[k]).P:=Small.of k4 (by decide) (by omega)
  obtain ⟨bb,oo,c,d,r1,hc,hd,ld⟩:=abp hl hx
  obtain ⟨l0,l1,l2,l3,l4,l5,l6⟩:=ld O (aj.bump 1)
  have hle:=XI (F:=F) (k:=k) (by omega)
  rw [Zf hk]
  generalize F.nodes[k]=x at*
  have dk:decide ((k:Int)<(F.nodes.length:Int))=true:=decide_eq_true (by omega)
  have d0:decide ((0:Int) ≤ (k:Int))=true:=decide_eq_true (by omega)
  simp (maxSteps:=2000000) -implicitDefEqProofs (disch:=(first |omega |rfl |assumption |(simp only [aK];first |omega |assumption))) only [rj,dk,d0,r1,l0,l1,l2,l3,l4,l5,l6,Int.toNat_natCast,Nat.reduceAdd,Nat.reduceMul,Nat.reduceLT,Int.reduceToNat,Int.reduceAdd,Int.reduceSub,Int.reduceMul,aB,aX]
  generalize dP:(aj.bump 1).put aj.next _=aP
  obtain ⟨E2,n2,b2⟩:=Ku dP
  clear dP
  refine Ok.step (Zh aP k1) fun q ⟨g1,E3⟩=>?_
  obtain ⟨q,cE⟩:=q
  simp only at g1 E3
  subst g1
  have b3:=(E3.ai _ (by omega)).trans b2
  have n3:=E3.next
  have E23:=E2.trans E3
  have aqg:=own.of E23.next fun q hq=>E23.ai q (own.lt q hq)
  simp (maxSteps:=2000000) -implicitDefEqProofs (disch:=(first |omega |rfl |assumption |(simp only [aK];first |omega |assumption))) only [Nat.reduceAdd,Nat.reduceMul,Nat.reduceLT,Int.reduceToNat,Int.reduceAdd,Int.reduceSub,Int.reduceMul,aB,aX]
  refine Ok.step (BT aqg) fun q ⟨s4,g1,g2,C4,g4⟩=>?_
  obtain ⟨q,ky⟩:=q
  simp only at g1 g2 C4 g4
  subst g1
  have n4:=C4.next
  have nin:aj.next∉SA.bk s':=fun h=>by have:=own.lt _ h;omega
  have b4:=(C4.ai _ (by omega) nin).trans b3
  simp (maxSteps:=2000000) -implicitDefEqProofs (disch:=(first |omega |rfl |assumption |(simp only [aK];first |omega |assumption))) only [b4,Nat.reduceAdd,Nat.reduceMul,Nat.reduceLT,Int.reduceToNat,Int.reduceAdd,Int.reduceSub,Int.reduceMul,aB,aX]
  refine Ok.step (aiw hc hsm (by omega) (by omega) g2) fun q ⟨s5,g1,TY,C5,f5⟩=>?_
  obtain ⟨q,Dv⟩:=q
  simp only at g1 TY C5
  subst g1
  have n5:=C5.next
  have aqh:aj.next∉SA.bk s4:=fun h=>by have:=(g4 _ h).1;omega
  have b5:=(C5.ai _ (by omega) aqh).trans b4
  have rR:(Dv.bump 1).bC d x.R.length 1=some (x.R.map (AV.i .u64)):=(hd.imm O _).bC
  simp (maxSteps:=2000000) -implicitDefEqProofs (disch:=(first |omega |rfl |assumption |(simp only [aK];first |omega |assumption))) only [b5,rR,Nat.reduceAdd,Nat.reduceMul,Nat.reduceLT,Int.reduceToNat,Int.reduceAdd,Int.reduceSub,Int.reduceMul,aB,aX]
  refine Ok.step (alK TY (by simp)) fun q ⟨s6,g1,Fm,C6,f6⟩=>?_
  obtain ⟨q,PM⟩:=q
  simp only at g1 Fm C6 f6
  subst g1
  simp (maxSteps:=2000000) -implicitDefEqProofs (disch:=(first |omega |rfl |assumption |(simp only [aK];first |omega |assumption))) only [Nat.reduceAdd,Nat.reduceMul,Nat.reduceLT,Int.reduceToNat,Int.reduceAdd,Int.reduceSub,Int.reduceMul,aB,aX]
  have hlen:(upto F k++eT pck x).length=(upto F k).length+1+x.P.length+x.R.length:=by unfold eT;simp;omega
  have aaC:(upto F k++eT pck x).map (AV.i .u64)=(upto F k).map (AV.i .u64)++[.i .u64 (pck x.h)]++x.P.map (AV.i .u64)++x.R.map (AV.i .u64):=by unfold eT;simp
  have nC:=C.next
  refine U.2 ⟨s6,PM,by rw [hlen];rfl,by rw [hlen,aaC];exact Fm,?_,fun b hb=>.inr (by have:=(f6 b hb).1;omega)⟩
  have C04:dE (SA.bk s) σ ky:=(C.trans E23.chg).trans' C4 fr
  have C05:dE (SA.bk s) σ Dv:=C04.trans' C5 fun b hb=>.inr (by have:=(g4 b hb).1;omega)
  exact C05.trans' C6 fun b hb=>.inr (by
   rcases f5 b hb with h |h
   ·have:=(g4 b h).1;omega
   ·omega)
 ·rintro _ ⟨s',aj,rfl,own,C,fr⟩
  have dk:decide ((F.nodes.length:Int)<(F.nodes.length:Int))=false:=decide_eq_false (by omega)
  simp (maxSteps:=2000000) -implicitDefEqProofs (disch:=(first |omega |rfl |assumption |(simp only [aK];first |omega |assumption))) only [rj,dk,Nat.reduceAdd,Nat.reduceMul,Nat.reduceLT,Int.reduceToNat,Int.reduceAdd,Int.reduceSub,Int.reduceMul,aB,aX]
  exact U.2 ⟨s',rfl,own,C,fr⟩
theorem aqi {o:Option (AV × AH O)} {σ:AH O} {k:IntKind} {l:List Int} (h:Ok o fun r=>(∃ a',r.1=.sl a' l.length ∧ nh 1 a' l.length (l.map (AV.i k))) ∧ Ext σ r.2):Ok o fun r=>wG σ r.2 [ints k l] [r.1]:=
 h.mono fun r ⟨⟨a',e,hi⟩,E⟩=>by
  rw [e]
  exact wG.im (.cons (yq (bF.mk hi)) .nil) E
theorem aix {k:IntKind} {l:List Int} {v:AV} (h:Im (ints k l) v):∃ a',v=.sl a' l.length ∧ nh 1 a' l.length (l.map (AV.i k)):=by
 obtain ⟨a',e,hi⟩:=Ds h
 exact ⟨a',e,hi.imm⟩
theorem Wk {σ:AH O} {es n:Nat} {a:SA} {cs:List AV} (h:nh es a n cs):Rd σ es a n cs ∧ Old σ a:=⟨h O σ,fun b hb=>by rw [h.bk] at hb;cases hb⟩
theorem JO {σ:AH O} {F:FV} {v:AV} (hF:F.At v) (hf:F.Gk) (hr:F.Me) (ht:(ey pck F).length ≤ 50000):
  Ok (wK [v] σ) fun r=>(∃ a',r.1=.sl a' (oT F).length ∧ nh 1 a' (oT F).length ((oT F).map (AV.i .u8))) ∧ Ext σ r.2:=by
 suffices h:Ok (ll bq df iL kJ rS [v] σ) fun r=>(∃ a',r.1=.sl a' (oT F).length ∧ nh 1 a' (oT F).length ((oT F).map (AV.i .u8))) ∧ Ext σ r.2 from
  (aiy (s:=ll bq df iL kJ rS) (rF .u8 (oT F) 6) (aqi h)).mono fun r ⟨g1,g2⟩=>⟨aix g1,g2⟩
 obtain ⟨a,b,c,e,h1,h2,h3⟩:=hF.it
 have hR:=fun σ=>wH (O:=O) (σ:=σ) (FRd.im hF σ) hf
 subst e
 have q1:=hf.n
 have q2:=hf.r
 have q3:=hf.w
 simp (maxSteps:=2000000) -implicitDefEqProofs (disch:=(first |omega |rfl |assumption |(simp only [aK];first |omega |assumption))) only [ll,Nat.reduceAdd,Nat.reduceMul,Nat.reduceLT,Int.reduceToNat,Int.reduceAdd,Int.reduceSub,Int.reduceMul,aB,aX]
 generalize dP:(σ.bump 1).put σ.next _=aJ
 obtain ⟨E1,n1,b1⟩:=Ku dP
 clear dP
 refine Ok.step (hR aJ) fun q ⟨g1,E2⟩=>?_
 obtain ⟨q,aP⟩:=q
 simp only at g1 E2
 subst g1
 have n2:=E2.next
 have E02:=E1.trans E2
 have b2:=(E2.ai _ (by omega)).trans b1
 cases hw:ct F with
 |false=>
  simp (maxSteps:=2000000) -implicitDefEqProofs (disch:=(first |omega |rfl |assumption |(simp only [aK];first |omega |assumption))) only [Nat.reduceAdd,Nat.reduceMul,Nat.reduceLT,Int.reduceToNat,Int.reduceAdd,Int.reduceSub,Int.reduceMul,aB,aX]
  exact U.2 ⟨⟨.nil,by unfold oT;rw [hw];rfl,by unfold oT;rw [hw];exact nh.nil 1⟩,E02⟩
 |true=>
 have ew:IntKind.u64.wrap (F.nodes.length:Int)=(F.nodes.length:Int):=uY (by omega) (by omega)
 simp (maxSteps:=2000000) -implicitDefEqProofs (disch:=(first |omega |rfl |assumption |(simp only [aK];first |omega |assumption))) only [b2,ew,Nat.reduceAdd,Nat.reduceMul,Nat.reduceLT,Int.reduceToNat,Int.reduceAdd,Int.reduceSub,Int.reduceMul,aB,aX]
 generalize dP:(aP.bump 1).put aP.next _=cE
 obtain ⟨E3,n3,b3'⟩:=Ku dP
 clear dP
 have b3:=(E3.ai _ (by omega)).trans b2
 have E03:=E02.trans E3
 have own:aN cE 63 1 (.loc (.n aP.next) 0 1) 1 [.i .u64 (F.nodes.length:Int)]:=aN.new rfl b3' (by omega)
 have sR:Small F.roots:=Small.of (wJ hw).2.1 (by decide) (by omega)
 have sW:Small F.bn:=Small.of (wJ hw).2.2 (by decide) (by omega)
 have hlr:(fZ F.roots).length=F.roots.length+1:=by simp [fZ]
 have hlw:(fZ F.bn).length=F.bn.length+1:=by simp [fZ]
 have hup:=XI (F:=F) (Nat.le_refl F.nodes.length)
 refine Ok.step (Zg h1 hf hw ht own) fun q ⟨s4,g1,Wu,C4,f4⟩=>?_
 obtain ⟨q,ky⟩:=q
 simp only at g1 Wu C4
 subst g1
 have n4:=C4.next
 have b4:=(C4.ai _ (by omega) (by simp [SA.bk];omega)).trans b3
 have E04:Ext σ ky:=dE.new E03 (by simp [SA.bk];omega) C4
 have f4':∀ b∈SA.bk s4,aP.next ≤ b:=fun b hb=>by
  rcases f4 b hb with h |h
  ·simp [SA.bk] at h;omega
  ·omega
 simp (maxSteps:=2000000) -implicitDefEqProofs (disch:=(first |omega |rfl |assumption |(simp only [aK];first |omega |assumption))) only [b4,Nat.reduceAdd,Nat.reduceMul,Nat.reduceLT,Int.reduceToNat,Int.reduceAdd,Int.reduceSub,Int.reduceMul,aB,aX]
 refine Ok.step (TX (σ:=ky.bump 1) h2 sR (by omega)) fun q ⟨⟨w5,g1,i5⟩,E5⟩=>?_
 obtain ⟨q,Dv⟩:=q
 simp only at g1 E5
 subst g1
 have r5:=(i5 O Dv).bC
 simp (maxSteps:=2000000) -implicitDefEqProofs (disch:=(first |omega |rfl |assumption |(simp only [aK];first |omega |assumption))) only [r5,Nat.reduceAdd,Nat.reduceMul,Nat.reduceLT,Int.reduceToNat,Int.reduceAdd,Int.reduceSub,Int.reduceMul,aB,aX]
 refine Ok.step (abo Wu E5 (by simp)) fun q ⟨s6,g1,Fm,C6,f6⟩=>?_
 obtain ⟨q,PM⟩:=q
 simp only at g1 Fm C6 f6
 subst g1
 have n6:=C6.next
 have b6:=(C6.ai _ (by omega) (fun h=>by have:=f4' _ h;omega)).trans b4
 have E06:Ext σ PM:=dE.new E04 (fun b hb=>by have:=f4' b hb;omega) C6
 simp (maxSteps:=2000000) -implicitDefEqProofs (disch:=(first |omega |rfl |assumption |(simp only [aK];first |omega |assumption))) only [b6,Nat.reduceAdd,Nat.reduceMul,Nat.reduceLT,Int.reduceToNat,Int.reduceAdd,Int.reduceSub,Int.reduceMul,aB,aX]
 refine Ok.step (TX (σ:=PM.bump 1) h3 sW (by omega)) fun q ⟨⟨w7,g1,i7⟩,E7⟩=>?_
 obtain ⟨q,Q0⟩:=q
 simp only at g1 E7
 subst g1
 have r7:=(i7 O Q0).bC
 simp (maxSteps:=2000000) -implicitDefEqProofs (disch:=(first |omega |rfl |assumption |(simp only [aK];first |omega |assumption))) only [r7,Nat.reduceAdd,Nat.reduceMul,Nat.reduceLT,Int.reduceToNat,Int.reduceAdd,Int.reduceSub,Int.reduceMul,aB,aX]
 refine Ok.step (abo Fm E7 (by simp)) fun q ⟨s8,g1,Wv,C8,f8⟩=>?_
 obtain ⟨q,TH⟩:=q
 simp only at g1 Wv C8 f8
 subst g1
 have n04:=E04.next
 have E08:Ext σ TH:=dE.new E06 (fun b hb=>by have:=(f6 b hb).1;omega) C8
 have hlen:(upto F F.nodes.length).length+(fZ F.roots).length+(fZ F.bn).length=(ey pck F).length:=by rw [← My];simp;omega
 rw [← List.map_append,← List.map_append,List.append_assoc,My,hlen] at Wv
 have hW:=IA hw hr hf
 have Eo:=(BS hW).2
 simp (maxSteps:=2000000) -implicitDefEqProofs (disch:=(first |omega |rfl |assumption |(simp only [aK];first |omega |assumption))) only [hlen,Nat.reduceAdd,Nat.reduceMul,Nat.reduceLT,Int.reduceToNat,Int.reduceAdd,Int.reduceSub,Int.reduceMul,aB,aX]
 refine Ok.step (ait Wv.rd (fun b hb=>Wv.lt b hb) hW (by omega)) fun q ⟨⟨s9,g1,i9⟩,E9⟩=>?_
 obtain ⟨q,Z5⟩:=q
 simp only at g1 E9
 subst g1
 simp (maxSteps:=2000000) -implicitDefEqProofs (disch:=(first |omega |rfl |assumption |(simp only [aK];first |omega |assumption))) only [Nat.reduceAdd,Nat.reduceMul,Nat.reduceLT,Int.reduceToNat,Int.reduceAdd,Int.reduceSub,Int.reduceMul,aB,aX]
 obtain ⟨r9,o9⟩:=Wk (σ:=Z5) i9
 refine Ok.step (ad7 r9 o9 (Mk _) (by omega)) fun q ⟨⟨s10,g1,i10⟩,E10⟩=>?_
 obtain ⟨q,GL⟩:=q
 simp only at g1 E10
 subst g1
 simp (maxSteps:=2000000) -implicitDefEqProofs (disch:=(first |omega |rfl |assumption |(simp only [aK];first |omega |assumption))) only [Nat.reduceAdd,Nat.reduceMul,Nat.reduceLT,Int.reduceToNat,Int.reduceAdd,Int.reduceSub,Int.reduceMul,aB,aX]
 have e:oT F=fN (jk (ey pck F)):=by unfold oT;rw [hw];rfl
 rw [e]
 exact U.2 ⟨⟨s10,rfl,i10⟩,(E08.trans E9).trans E10⟩
end Go.Abs.Tryz
set_option maxHeartbeats 2000000
namespace Go.Abs.Tryz
open Go Go.Abs
variable {O:Type}
def eu (bs:List Int):List Int × Int:=if bs.length<8 then ([],6) else if bs=fN (bs.take (bs.length - 8)) then (bs.take (bs.length - 8),0) else ([],60)
theorem adT {a:SA} {n:Nat} {bs:List Int} {σ:AH O} (hr:Rd σ 1 a n (bs.map (AV.i .u8))) (ho:Old σ a) (hb:Bytes bs) (hn:n ≤ 1000000):
  Ok (rP [.sl a n] σ) fun r=>(∃ a',r.1=.aS [.sl a' (eu bs).1.length,.i .i64 (eu bs).2] ∧ nh 1 a' (eu bs).1.length ((eu bs).1.map (AV.i .u8))) ∧ Ext σ r.2:=by
 have hl:bs.length=n:=by have:=hr.len;simpa using this
 refine Dw (s:=oa ma oU) (k:=.u8) (l:=(eu bs).1) (vs:=[.i .i64 (eu bs).2]) rfl ?_
 unfold eu
 rw [hl]
 by_cases h8:n<8
 ·have e1:IntKind.i64.wrap ((n:Int) - 8)=(n:Int) - 8:=bJ (by omega) (by omega)
  have d1:decide ((n:Int) - 8<0)=true:=decide_eq_true (by omega)
  rw [if_pos h8]
  simp (maxSteps:=2000000) -implicitDefEqProofs (disch:=(first |omega |rfl |assumption |(simp only [aK];first |omega |assumption))) only [oa,e1,d1,Nat.reduceAdd,Nat.reduceMul,Nat.reduceLT,Int.reduceToNat,Int.reduceAdd,Int.reduceSub,Int.reduceMul,aB,aX]
  exact U.2 ⟨.nil,5,rfl,aN.nil _ _ _,Ext.refl σ,by simp [SA.bk]⟩
 rw [if_neg h8]
 have e2:(n:Int) - 8=((n - 8:Nat):Int):=by omega
 have e1:IntKind.i64.wrap ((n:Int) - 8)=((n - 8:Nat):Int):=by rw [bJ (by omega) (by omega)];exact e2
 have d1:decide (((n - 8:Nat):Int)<0)=false:=decide_eq_false (by omega)
 have d0:decide ((0:Int) ≤ ((n - 8:Nat):Int))=true:=decide_eq_true (by omega)
 have d2:decide (((n - 8:Nat):Int) ≤ (n:Int))=true:=decide_eq_true (by omega)
 have d3:decide ((n:Int) ≤ (n:Int))=true:=decide_eq_true (by omega)
 have e3:n - (n - 8)=8:=by omega
 obtain ⟨a1,g1,g2,g2b⟩:=hr.DD (lo:=0) (m:=n - 8) (by omega)
 obtain ⟨a2,g3,g4,g4b⟩:=hr.DD (lo:=n - 8) (m:=8) (by omega)
 simp only [Nat.mul_one,List.drop_zero] at g2
 rw [← List.map_take] at g2
 simp only [Nat.mul_one] at g4
 rw [← List.map_drop,← List.map_take,List.take_of_length_le (l:=bs.drop (n - 8)) (by simp;omega)] at g4
 have o1:Old σ a1:=fun b hb=>ho b (by rw [← g2b];exact hb)
 have o2:Old σ a2:=fun b hb=>ho b (by rw [← g4b];exact hb)
 have hbt:Bytes (bs.take (n - 8)):=fun x hx=>hb x (List.mem_of_mem_take hx)
 have Tl:=ad4 (p:=bs.take (n - 8)) (q:=bs.drop (n - 8)) hbt (hb.drop _) (by simp;omega)
 rw [List.take_append_drop] at Tl
 simp (maxSteps:=2000000) -implicitDefEqProofs (disch:=(first |omega |rfl |assumption |(simp only [aK];first |omega |assumption))) only [oa,e1,d0,d1,d2,d3,g1,g3,Nat.sub_zero,e3,Int.toNat_natCast,Nat.reduceAdd,Nat.reduceMul,Nat.reduceLT,Int.reduceToNat,Int.reduceAdd,Int.reduceSub,Int.reduceMul,aB,aX]
 generalize dP:(σ.bump 1).put σ.next _=aJ
 obtain ⟨E1,n1,b1⟩:=Ku dP
 clear dP
 refine Ok.step (XH b1 (g2.lt o1 E1) hbt (by omega)) fun r e=>?_
 subst e
 simp (maxSteps:=2000000) -implicitDefEqProofs (disch:=(first |omega |rfl |assumption |(simp only [aK];first |omega |assumption))) only [Nat.reduceAdd,Nat.reduceMul,Nat.reduceLT,Int.reduceToNat,Int.reduceAdd,Int.reduceSub,Int.reduceMul,aB,aX]
 refine Ok.step (XG (g4.lt o2 E1) (hb.drop _) (by omega)) fun r e=>?_
 subst e
 by_cases h0:Kv (Kv 0#64 (dY (bs.take (n - 8)))) (dY (bs.drop (n - 8)))=0#64
 ·have hz:(wI (Kv (Kv 0#64 (dY (bs.take (n - 8)))) (dY (bs.drop (n - 8)))) == 0)=true:=by rw [h0];rfl
  rw [if_pos (Tl.1 h0)]
  have r1:((aJ.bump 2).put aJ.next (.cells true 5 [])).bC a1 (n - 8) 1=some ((bs.take (n - 8)).map (AV.i .u8)):=((g2.lt o1 E1).of fun b hb=>by have:=o1 b hb;exact bu (by omega)).bC
  simp (maxSteps:=2000000) -implicitDefEqProofs (disch:=(first |omega |rfl |assumption |(simp only [aK];first |omega |assumption))) only [hz,d0,d2,g1,Nat.sub_zero,r1,Int.toNat_natCast,Nat.reduceAdd,Nat.reduceMul,Nat.reduceLT,Int.reduceToNat,Int.reduceAdd,Int.reduceSub,Int.reduceMul,aB,aX]
  refine Ok.step (Q2 (by simp;omega)) fun q ⟨a3,m1,m2,m3,m4⟩=>?_
  obtain ⟨q,aP⟩:=q
  simp only at m1 m2 m3 m4
  subst m1
  simp (maxSteps:=2000000) -implicitDefEqProofs (disch:=(first |omega |rfl |assumption |(simp only [aK];first |omega |assumption))) only [Nat.reduceAdd,Nat.reduceMul,Nat.reduceLT,Int.reduceToNat,Int.reduceAdd,Int.reduceSub,Int.reduceMul,aB,aX]
  have bS:(bs.take (n - 8)).length=n - 8:=by simp;omega
  simp only [bS]
  exact U.2 ⟨a3,5,rfl,m2,E1.trans m3,fun b hb=>by have:=m4 b hb;omega⟩
 ·have hz:(wI (Kv (Kv 0#64 (dY (bs.take (n - 8)))) (dY (bs.drop (n - 8)))) == 0)=false:=by
   rw [beq_eq_false_iff_ne]
   exact fun e=>h0 (air (by rw [e];rfl))
  rw [if_neg fun e=>h0 (Tl.2 e)]
  simp (maxSteps:=2000000) -implicitDefEqProofs (disch:=(first |omega |rfl |assumption |(simp only [aK];first |omega |assumption))) only [hz,Nat.reduceAdd,Nat.reduceMul,Nat.reduceLT,Int.reduceToNat,Int.reduceAdd,Int.reduceSub,Int.reduceMul,aB,aX]
  exact U.2 ⟨.nil,5,rfl,aN.nil _ _ _,E1,by simp [SA.bk]⟩
end Go.Abs.Tryz
