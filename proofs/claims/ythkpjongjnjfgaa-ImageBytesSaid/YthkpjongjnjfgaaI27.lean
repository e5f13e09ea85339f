/-
  The bytes of a form: the document's walk. No conditions.
-/
import Derived.Test.YthkpjongjnjfgaaI16
import Derived.Test.YthkpjongjnjfgaaI6w
import Derived.Test.YthkpjongjnjfgaaI24
import Derived.Test.YthkpjongjnjfgaaN1
import Derived.Test.YthkpjongjnjfgaaI4
import Derived.Test.YthkpjongjnjfgaaAbsIn
set_option linter.unusedVariables false
set_option linter.unusedSimpArgs false
set_option linter.constructorNameAsVariable false
set_option linter.unusedSimpArgs false
set_option linter.unusedVariables false
set_option maxHeartbeats 4000000
namespace Go.Abs.Try
open Go Go.Abs
variable {O : Type}
theorem wl4_ok {J : AH O} {r10 : List AV × AH O} {a b : SA} {l : List Int} {n el : Nat} {cs : List AV} {y0 y1 y2 y3 y4 y6 : AV} (hl : Ints .i64 b l) (hx : J.blk r10.2.next = some (.cells true el [y0, y1, y2, y3, y4, .sl b l.length, y6])) (hlt : r10.2.next < J.next) (hna : r10.2.next ∉ SA.bk a) (h0 : Small l) (hs : l.length <= 1000000) (hn : n <= 100000000) (own : OwnS J 54 1 a n cs) :
  Ok (loopF (S := List AV × AH O) (T := List AV × AH O) (haymowref41_Words_L2 r10) ([.sl a n, .i .i64 0], J)) fun r => ∃ a', r.1 = [.sl a' (n + l.length)] /\ OwnS r.2 54 1 a' (n + l.length) (cs ++ l.map (AV.i .u64)) /\ Chg (SA.bk a) J r.2 /\ ∀ x ∈ SA.bk a', x ∈ SA.bk a ∨ J.next <= x := by
 refine Ok.count l.length (fun k s => ∃ a' J', s = ([.sl a' (n + k), .i .i64 (k : Int)], J') /\ OwnS J' 54 1 a' (n + k) (cs ++ (l.take k).map (AV.i .u64)) /\ Chg (SA.bk a) J J' /\ ∀ x ∈ SA.bk a', x ∈ SA.bk a ∨ J.next <= x) ?_ ?_ ⟨a, J, rfl, by simpa using own, Chg.refl _ _, fun x h => .inl h⟩
 ·rintro k _ hk ⟨a', J', rfl, own, C, fr⟩
  have hx' := (C.blk _ hlt hna).trans hx
  have nC := C.next
  have hxx := List.getElem?_eq_getElem hk
  have hr := h0 _ (List.getElem_mem hk)
  obtain ⟨bb, oo, r1, ld⟩ := ints_ref hl hxx
  have ld := ld O (J'.bump 2)
  have ht : (l.take (k + 1)).map (AV.i .u64) = (l.take k).map (AV.i .u64) ++ [.i .u64 l[k]] := by rw [List.take_succ_eq_append_getElem hk, List.map_append]; rfl
  rw [ht]
  generalize l[k] = x at *
  have ew : IntKind.u64.wrap x = x := u64_id (by omega) (by omega)
  have dk : decide ((k : Int) < (l.length : Int)) = true := decide_eq_true (by omega)
  have d0 : decide ((0 : Int) <= (k : Int)) = true := decide_eq_true (by omega)
  simp (maxSteps := 2000000) -implicitDefEqProofs (disch := (first | omega | rfl | assumption | (simp only [rsD]; first | omega | assumption))) only [haymowref41_Words_L2, hx', dk, d0, r1, ld, ew, Int.toNat_natCast, Nat.reduceAdd, Nat.reduceMul, Nat.reduceLT, Int.reduceToNat, Int.reduceAdd, Int.reduceSub, Int.reduceMul, rsU, rsC]
  refine Ok.step (grow1 own) fun q ⟨a2, g1, g2, g3, g4⟩ => ?_
  obtain ⟨q, J2⟩ := q
  simp only at g1 g2 g3 g4
  subst g1
  simp (maxSteps := 2000000) -implicitDefEqProofs (disch := (first | omega | rfl | assumption | (simp only [rsD]; first | omega | assumption))) only [Nat.reduceAdd, Nat.reduceMul, Nat.reduceLT, Int.reduceToNat, Int.reduceAdd, Int.reduceSub, Int.reduceMul, rsU, rsC]
  refine Ok_some.2 ⟨a2, J2, rfl, ?_, C.trans' g3 fr, fun b hb => .inr (by have := g4 b hb; have := C.next; omega)⟩
  rw [<- List.append_assoc]; exact g2
 ·rintro _ ⟨a', J', rfl, own, C, fr⟩
  have hx' := (C.blk _ hlt hna).trans hx
  rw [List.take_length] at own
  have dk : decide ((l.length : Int) < (l.length : Int)) = false := decide_eq_false (by omega)
  simp (maxSteps := 2000000) -implicitDefEqProofs (disch := (first | omega | rfl | assumption | (simp only [rsD]; first | omega | assumption))) only [haymowref41_Words_L2, hx', dk, Nat.reduceAdd, Nat.reduceMul, Nat.reduceLT, Int.reduceToNat, Int.reduceAdd, Int.reduceSub, Int.reduceMul, rsU, rsC]
  exact Ok_some.2 ⟨a', rfl, own, C, fr⟩
theorem wnodes_ok {J0 J : AH O} {F : FV} {a : SA} {s : SA} {el : Nat} {z1 z2 : AV} (hb : J.blk J0.next = some (.cells true el [.sl a F.nodes.length, z1, z2])) (hlb : J0.next < J.next) (hnb : J0.next ∉ SA.bk s) (hl : Nodes a F.nodes) (hf : F.few) (hR : rightP F = true) (ht : (wordsW pck F).length <= 50000) (own : OwnS J 54 1 s 1 [.i .u64 (F.nodes.length : Int)]) :
  Ok (loopF (S := List AV × AH O) (T := List AV × AH O) (haymowref41_Words_L1 J0 haymowref12_Pack) ([.sl s 1, .i .i64 0], J)) fun r => ∃ s', r.1 = [.sl s' (upto F F.nodes.length).length] /\ OwnS r.2 54 1 s' (upto F F.nodes.length).length ((upto F F.nodes.length).map (AV.i .u64)) /\ Chg (SA.bk s) J r.2 /\ ∀ b ∈ SA.bk s', b ∈ SA.bk s ∨ J.next <= b := by
 refine Ok.count F.nodes.length (fun k st => ∃ s' J', st = ([.sl s' (upto F k).length, .i .i64 (k : Int)], J') /\ OwnS J' 54 1 s' (upto F k).length ((upto F k).map (AV.i .u64)) /\ Chg (SA.bk s) J J' /\ ∀ b ∈ SA.bk s', b ∈ SA.bk s ∨ J.next <= b) ?_ ?_ ⟨s, J, rfl, own, Chg.refl _ _, fun b h => .inl h⟩
 ·rintro k _ hk ⟨s', J', rfl, own, C, fr⟩
  have hb' := (C.blk _ hlb hnb).trans hb
  have nC := C.next
  have hx := List.getElem?_eq_getElem hk
  have hm := List.getElem_mem hk
  obtain ⟨k1, k2, k3, k4⟩ := (rightP_at hR).1 _ hm
  have hxf := hf.x _ hm
  have hxP := hxf.p
  have hxR := hxf.r
  have hnn := hf.n
  have hsm : Small (F.nodes[k]).P := Small.of k4 (by decide) (by omega)
  obtain ⟨bb, oo, c, d, r1, hc, hd, ld⟩ := node_ref hl hx
  obtain ⟨l0, l1, l2, l3, l4, l5, l6⟩ := ld O (J'.bump 1)
  have hle := upto_le (F := F) (k := k) (by omega)
  rw [upto_succ hk]
  generalize F.nodes[k] = x at *
  have dk : decide ((k : Int) < (F.nodes.length : Int)) = true := decide_eq_true (by omega)
  have d0 : decide ((0 : Int) <= (k : Int)) = true := decide_eq_true (by omega)
  simp (maxSteps := 2000000) -implicitDefEqProofs (disch := (first | omega | rfl | assumption | (simp only [rsD]; first | omega | assumption))) only [haymowref41_Words_L1, hb', dk, d0, r1, l0, l1, l2, l3, l4, l5, l6, Int.toNat_natCast, Nat.reduceAdd, Nat.reduceMul, Nat.reduceLT, Int.reduceToNat, Int.reduceAdd, Int.reduceSub, Int.reduceMul, rsU, rsC]
  generalize hJ : (J'.bump 1).put J'.next _ = J2
  obtain ⟨E2, n2, b2⟩ := box1 hJ
  clear hJ
  rw [<- n2]
  refine Ok.step (rpack_ok (J2.bump 2) k1) fun q ⟨g1, E3⟩ => ?_
  obtain ⟨q, J3⟩ := q
  simp only at g1 E3
  subst g1
  have n3 := E3.next
  simp only [bump_next] at n3
  have own2 := own.of E2.next fun q hq => E2.blk q (own.lt q hq)
  simp (maxSteps := 2000000) -implicitDefEqProofs (disch := (first | omega | rfl | assumption | (simp only [rsD]; first | omega | assumption))) only [Nat.reduceAdd, Nat.reduceMul, Nat.reduceLT, Int.reduceToNat, Int.reduceAdd, Int.reduceSub, Int.reduceMul, rsU, rsC]
  refine Ok.step (growP (K := []) own2 E3.chg (by simp)) fun q ⟨s4, g1, own4, n4, k4', f4⟩ => ?_
  obtain ⟨q, J4⟩ := q
  simp only at g1 own4 n4 k4'
  subst g1
  have nin : J'.next ∉ SA.bk s' := fun h => by have := own.lt _ h; omega
  have e4 : ∀ b, b < J2.next -> b ∉ SA.bk s' -> J4.blk b = J2.blk b := fun b hb hm => (k4' b hb hm).trans (E3.blk b (by simp only [bump_next]; omega))
  have b4 := (e4 J'.next (by omega) nin).trans b2
  have C24 : Chg (SA.bk s') J2 J4 := ⟨by omega, e4⟩
  simp (maxSteps := 2000000) -implicitDefEqProofs (disch := (first | omega | rfl | assumption | (simp only [rsD]; first | omega | assumption))) only [Nat.reduceAdd, Nat.reduceMul, Nat.reduceLT, Int.reduceToNat, Int.reduceAdd, Int.reduceSub, Int.reduceMul, rsU, rsC]
  refine Ok.step (wl4_ok (r10 := ([.sl s' (upto F k).length, .i .i64 (k : Int)], J')) hc b4 (by simp only; omega) (fun h => by have := (f4 _ h).1; simp only at this; omega) hsm (by omega) (by omega) own4) fun q ⟨s5, g1, own5, C5, f5⟩ => ?_
  obtain ⟨q, J5⟩ := q
  simp only at g1 own5 C5
  subst g1
  have n5 := C5.next
  have nin4 : J'.next ∉ SA.bk s4 := fun h => by have := (f4 _ h).1; omega
  have b5 := (C5.blk _ (by omega) nin4).trans b4
  have rR : (J5.bump 1).rdSl d x.R.length 1 = some (x.R.map (AV.i .u64)) := (hd.imm O _).rdSl
  simp (maxSteps := 2000000) -implicitDefEqProofs (disch := (first | omega | rfl | assumption | (simp only [rsD]; first | omega | assumption))) only [b5, rR, Nat.reduceAdd, Nat.reduceMul, Nat.reduceLT, Int.reduceToNat, Int.reduceAdd, Int.reduceSub, Int.reduceMul, rsU, rsC]
  refine Ok.step (growN own5 (by simp)) fun q ⟨s6, g1, own6, C6, f6⟩ => ?_
  obtain ⟨q, J6⟩ := q
  simp only at g1 own6 C6 f6
  subst g1
  simp (maxSteps := 2000000) -implicitDefEqProofs (disch := (first | omega | rfl | assumption | (simp only [rsD]; first | omega | assumption))) only [Nat.reduceAdd, Nat.reduceMul, Nat.reduceLT, Int.reduceToNat, Int.reduceAdd, Int.reduceSub, Int.reduceMul, rsU, rsC]
  have hlen : (upto F k ++ nodeW pck x).length = (upto F k).length + 1 + x.P.length + x.R.length := by unfold nodeW; simp; omega
  have hmap : (upto F k ++ nodeW pck x).map (AV.i .u64) = (upto F k).map (AV.i .u64) ++ [.i .u64 (pck x.h)] ++ x.P.map (AV.i .u64) ++ x.R.map (AV.i .u64) := by unfold nodeW; simp
  refine Ok_some.2 ⟨s6, J6, by rw [hlen]; rfl, by rw [hlen, hmap]; exact own6, ?_, fun b hb => .inr (by have := (f6 b hb).1; omega)⟩
  have C04 : Chg (SA.bk s) J J4 := (C.trans E2.chg).trans' C24 fr
  have C05 : Chg (SA.bk s) J J5 := C04.trans' C5 fun b hb => .inr (by have := (f4 b hb).1; omega)
  exact C05.trans' C6 fun b hb => .inr (by
   rcases f5 b hb with h | h
   ·have := (f4 b h).1; omega
   ·omega)
 ·rintro _ ⟨s', J', rfl, own, C, fr⟩
  have hb' := (C.blk _ hlb hnb).trans hb
  have dk : decide ((F.nodes.length : Int) < (F.nodes.length : Int)) = false := decide_eq_false (by omega)
  simp (maxSteps := 2000000) -implicitDefEqProofs (disch := (first | omega | rfl | assumption | (simp only [rsD]; first | omega | assumption))) only [haymowref41_Words_L1, hb', dk, Nat.reduceAdd, Nat.reduceMul, Nat.reduceLT, Int.reduceToNat, Int.reduceAdd, Int.reduceSub, Int.reduceMul, rsU, rsC]
  exact Ok_some.2 ⟨s', rfl, own, C, fr⟩
end Go.Abs.Try
namespace Go.Abs.Try
open Go Go.Abs
variable {O : Type}
theorem rwords_ok {J : AH O} {F : FV} {v : AV} (hF : F.At v) (hf : F.few) (hw : rightP F = true) (ht : (wordsW pck F).length <= 9000) :
  Ok (haymowref41_Words [v] J) fun r => (∃ a', r.1 = .sl a' (wordsW pck F).length /\ Imm 1 a' (wordsW pck F).length ((wordsW pck F).map (AV.i .u64))) /\ Ext J r.2 := by
 refine frz_ints (s := haymowref41_Words_c haymowref12_Pack haymowref41_list) (k := .u64) (l := wordsW pck F) ?_
 obtain ⟨a, b, c, e, h1, h2, h3⟩ := hF.it
 subst e
 have q1 := hf.n
 have q2 := hf.r
 have q3 := hf.w
 have ew : IntKind.u64.wrap (F.nodes.length : Int) = (F.nodes.length : Int) := u64_id (by omega) (by omega)
 simp (maxSteps := 2000000) -implicitDefEqProofs (disch := (first | omega | rfl | assumption | (simp only [rsD]; first | omega | assumption))) only [haymowref41_Words_c, ew, Nat.reduceAdd, Nat.reduceMul, Nat.reduceLT, Int.reduceToNat, Int.reduceAdd, Int.reduceSub, Int.reduceMul, rsU, rsC]
 generalize hJ : (((J.bump 1).put J.next _).bump 1).put (J.next + 1) _ = J2
 obtain ⟨E2, n2, b2, b2'⟩ := box2' hJ
 clear hJ
 have own : OwnS J2 54 1 (.loc (.n (J.next + 1)) 0 1) 1 [.i .u64 (F.nodes.length : Int)] := OwnS.new rfl b2' (by omega)
 have sR : Small F.roots := Small.of (rightP_at hw).2.1 (by decide) (by omega)
 have sW : Small F.weak := Small.of (rightP_at hw).2.2 (by decide) (by omega)
 have hlr : (listW F.roots).length = F.roots.length + 1 := by simp [listW]
 have hlw : (listW F.weak).length = F.weak.length + 1 := by simp [listW]
 have hup := upto_le (F := F) (Nat.le_refl F.nodes.length)
 refine Ok.step (wnodes_ok b2 (by omega) (by simp [SA.bk]) h1 hf hw (by omega) own) fun q ⟨s3, g1, own3, C3, f3⟩ => ?_
 obtain ⟨q, J3⟩ := q
 simp only at g1 own3 C3
 subst g1
 have n3 := C3.next
 have b3 := (C3.blk J.next (by omega) (by simp [SA.bk])).trans b2
 have f3' : ∀ b ∈ SA.bk s3, J.next < b := fun b hb => by
  rcases f3 b hb with h | h
  ·simp [SA.bk] at h; omega
  ·omega
 have E03 : Ext J J3 := Chg.new E2 (by simp [SA.bk]) C3
 simp (maxSteps := 2000000) -implicitDefEqProofs (disch := (first | omega | rfl | assumption | (simp only [rsD]; first | omega | assumption))) only [b3, Nat.reduceAdd, Nat.reduceMul, Nat.reduceLT, Int.reduceToNat, Int.reduceAdd, Int.reduceSub, Int.reduceMul, rsU, rsC]
 refine Ok.step (rlist_ok (J := J3.bump 2) h2 sR (by omega)) fun q ⟨⟨w4, g1, i4⟩, E4⟩ => ?_
 obtain ⟨q, J4⟩ := q
 simp only at g1 E4
 subst g1
 have n4 := E4.next
 simp only [bump_next] at n4
 have E34 : Ext J3 J4 := ((Ext.refl J3).bump 2).trans E4
 have r4 := (i4 O J4).rdSl
 have own4 := own3.of E34.next fun q hq => E34.blk q (own3.lt q hq)
 have b4 := (E34.blk J.next (by omega)).trans b3
 simp (maxSteps := 2000000) -implicitDefEqProofs (disch := (first | omega | rfl | assumption | (simp only [rsD]; first | omega | assumption))) only [r4, b4, Nat.reduceAdd, Nat.reduceMul, Nat.reduceLT, Int.reduceToNat, Int.reduceAdd, Int.reduceSub, Int.reduceMul, rsU, rsC]
 refine Ok.step (app_ok (nid := J3.next) own4 (fun h => by have := own3.lt _ h; omega) (by omega) (show ((listW F.roots).map (AV.i .u64)).length = (listW F.roots).length * 1 by simp)) fun q ⟨s5, g1, own5, n5, k5, f5⟩ => ?_
 obtain ⟨q, J5⟩ := q
 simp only at g1 own5 n5 k5
 subst g1
 have b5 := (k5 J.next (by omega) (fun h => by have := f3' _ h; omega)).trans b4
 have E05 : Ext J J5 := ⟨by have := E03.next; omega, fun q hq => by
  rw [k5 q (by have := E03.next; omega) (fun h => by have := f3' _ h; omega), E34.blk q (by have := E03.next; omega)]
  exact E03.blk q hq⟩
 simp (maxSteps := 2000000) -implicitDefEqProofs (disch := (first | omega | rfl | assumption | (simp only [rsD]; first | omega | assumption))) only [b5, Nat.reduceAdd, Nat.reduceMul, Nat.reduceLT, Int.reduceToNat, Int.reduceAdd, Int.reduceSub, Int.reduceMul, rsU, rsC]
 refine Ok.step (rlist_ok (J := J5) h3 sW (by omega)) fun q ⟨⟨w6, g1, i6⟩, E6⟩ => ?_
 obtain ⟨q, J6⟩ := q
 simp only at g1 E6
 subst g1
 have n6 := E6.next
 have r6 := (i6 O J6).rdSl
 have own6 := own5.of E6.next fun q hq => E6.blk q (own5.lt q hq)
 simp (maxSteps := 2000000) -implicitDefEqProofs (disch := (first | omega | rfl | assumption | (simp only [rsD]; first | omega | assumption))) only [r6, Nat.reduceAdd, Nat.reduceMul, Nat.reduceLT, Int.reduceToNat, Int.reduceAdd, Int.reduceSub, Int.reduceMul, rsU, rsC]
 refine Ok.step (app_ok (nid := J3.next + 1) own6 (fun h => by have := f5 _ h; omega) (by omega) (show ((listW F.weak).map (AV.i .u64)).length = (listW F.weak).length * 1 by simp)) fun q ⟨s7, g1, own7, n7, k7, f7⟩ => ?_
 obtain ⟨q, J7⟩ := q
 simp only at g1 own7 n7 k7
 subst g1
 have hlen : (upto F F.nodes.length).length + (listW F.roots).length + (listW F.weak).length = (wordsW pck F).length := by rw [<- upto_all]; simp; omega
 rw [<- List.map_append, <- List.map_append, List.append_assoc, upto_all, hlen] at own7
 simp (maxSteps := 2000000) -implicitDefEqProofs (disch := (first | omega | rfl | assumption | (simp only [rsD]; first | omega | assumption))) only [hlen, Nat.reduceAdd, Nat.reduceMul, Nat.reduceLT, Int.reduceToNat, Int.reduceAdd, Int.reduceSub, Int.reduceMul, rsU, rsC]
 refine Ok_some.2 ⟨s7, 54, rfl, own7, ⟨(show J.next <= J7.next by have := E05.next; omega), fun q hq => ?_⟩, fun b hb => by have := f7 b hb; have := E03.next; omega⟩
 rw [k7 q (by have := E03.next; omega) (fun h => by have := f5 _ h; have := E03.next; omega), E6.blk q (by have := E05.next; omega)]
 exact E05.blk q hq
theorem rput_ok {J : AH O} {F : FV} {v : AV} (hF : F.At v) (hf : F.few) (hr : F.rng) (hw : rightP F = true) (ht : (wordsW pck F).length <= 9000) :
  Ok (haymowref41_Put [v] J) fun r => (∃ a', r.1 = .sl a' (putW F).length /\ Imm 1 a' (putW F).length ((putW F).map (AV.i .u8))) /\ Ext J r.2 := by
 suffices h : Ok (haymowref41_Put_c haymowref41_Words haymowref05_Bytes haymowref06_Seal [v] J) fun r => (∃ a', r.1 = .sl a' (putW F).length /\ Imm 1 a' (putW F).length ((putW F).map (AV.i .u8))) /\ Ext J r.2 from
  (frz_sl (s := haymowref41_Put_c haymowref41_Words haymowref05_Bytes haymowref06_Seal) (ints_deep .u8 (putW F) 6) (New1 h)).mono fun r ⟨g1, g2⟩ => ⟨imInts g1, g2⟩
 obtain ⟨a, b, c, e, h1, h2, h3⟩ := hF.it
 have hW0 := fun J => rwords_ok (O := O) (J := J) hF hf hw ht
 subst e
 simp (maxSteps := 2000000) -implicitDefEqProofs (disch := (first | omega | rfl | assumption | (simp only [rsD]; first | omega | assumption))) only [haymowref41_Put_c, Nat.reduceAdd, Nat.reduceMul, Nat.reduceLT, Int.reduceToNat, Int.reduceAdd, Int.reduceSub, Int.reduceMul, rsU, rsC]
 generalize hJ : (J.bump 1).put J.next _ = J1
 obtain ⟨E1, n1, b1⟩ := box1 hJ
 clear hJ
 refine Ok.step (hW0 J1) fun q ⟨⟨aw, g1, iw⟩, E2⟩ => ?_
 obtain ⟨q, J2⟩ := q
 simp only at g1 E2
 subst g1
 have hW := words_rng hw hr hf
 have hel := (encs_len hW).2
 have hput : putW F = sealed (encs (wordsW pck F)) := by unfold putW; rw [hw]; rfl
 rw [hput]
 generalize wordsW pck F = ws at *
 have hek : ∀ k, (encs (ws.take k)).length <= 10 * ws.length := fun k => by
  have h1 := (encs_len (ws := ws.take k) fun x hx => hW x (List.mem_of_mem_take hx)).2
  have : (ws.take k).length <= ws.length := by rw [List.length_take]; omega
  omega
 have E02 := E1.trans E2
 simp (maxSteps := 2000000) -implicitDefEqProofs (disch := (first | omega | rfl | assumption | (simp only [rsD]; first | omega | assumption))) only [Nat.reduceAdd, Nat.reduceMul, Nat.reduceLT, Int.reduceToNat, Int.reduceAdd, Int.reduceSub, Int.reduceMul, rsU, rsC]
 refine Ok.step (Q := fun r => ∃ a', r.1 = [.sl a' (encs ws).length] /\ OwnS r.2 5 1 a' (encs ws).length ((encs ws).map (AV.i .u8)) /\ Ext J2 r.2) ?_ ?_
 ·refine Ok.count ws.length (fun k s => ∃ a' J', s = ([.sl a' (encs (ws.take k)).length, .i .i64 (k : Int)], J') /\ OwnS J' 5 1 a' (encs (ws.take k)).length ((encs (ws.take k)).map (AV.i .u8)) /\ Ext J2 J' /\ ∀ b ∈ SA.bk a', J2.next <= b) ?_ ?_ ⟨.nil, J2, rfl, OwnS.nil _ _ _, Ext.refl _, by simp [SA.bk]⟩
  ·rintro k _ hk ⟨a', J', rfl, own, E, fr⟩
   have hx := List.getElem?_eq_getElem hk
   have hv : (ws.map (AV.i .u64))[k]? = some (.i .u64 ws[k]) := by rw [List.getElem?_map, hx]; rfl
   have hxw := hW _ (List.mem_of_getElem? hx)
   have hS := encs_take hk
   have hk1 := hek k
   obtain ⟨bb, oo, r1, ld⟩ := imm_at1 iw hv
   have ld := ld O (J'.bump 1)
   rw [hS]
   generalize ws[k] = x at *
   have hl10 := (enc_len10 (w := x.toNat) (by omega)).2
   have dk : decide ((k : Int) < (ws.length : Int)) = true := decide_eq_true (by omega)
   have d0 : decide ((0 : Int) <= (k : Int)) = true := decide_eq_true (by omega)
   simp (maxSteps := 2000000) -implicitDefEqProofs (disch := (first | omega | rfl | assumption | (simp only [rsD]; first | omega | assumption))) only [haymowref41_Put_L1, dk, d0, r1, ld, Int.toNat_natCast, Nat.reduceAdd, Nat.reduceMul, Nat.reduceLT, Int.reduceToNat, Int.reduceAdd, Int.reduceSub, Int.reduceMul, rsU, rsC]
   refine Ok.step (refBytes_ok (J := J'.bump 1) hxw.1 hxw.2) fun q ⟨⟨a2, g1, i2⟩, E3⟩ => ?_
   obtain ⟨q, J3⟩ := q
   simp only at g1 E3
   subst g1
   have r3 := (i2 O J3).rdSl
   simp (maxSteps := 2000000) -implicitDefEqProofs (disch := (first | omega | rfl | assumption | (simp only [rsD]; first | omega | assumption))) only [r3, Nat.reduceAdd, Nat.reduceMul, Nat.reduceLT, Int.reduceToNat, Int.reduceAdd, Int.reduceSub, Int.reduceMul, rsU, rsC]
   refine Ok.step (growL own E3 (by simp)) fun q ⟨a4, g1, own4, C4, f4⟩ => ?_
   obtain ⟨q, J4⟩ := q
   simp only at g1 own4 C4 f4
   subst g1
   simp (maxSteps := 2000000) -implicitDefEqProofs (disch := (first | omega | rfl | assumption | (simp only [rsD]; first | omega | assumption))) only [Nat.reduceAdd, Nat.reduceMul, Nat.reduceLT, Int.reduceToNat, Int.reduceAdd, Int.reduceSub, Int.reduceMul, rsU, rsC]
   refine Ok_some.2 ⟨a4, J4, by simp, by rw [List.length_append, List.map_append]; exact own4, Chg.new E fr C4, fun b hb => by have := f4 b hb; have := E.next; omega⟩
  ·rintro _ ⟨a', J', rfl, own, E, fr⟩
   rw [List.take_length] at own
   have dk : decide ((ws.length : Int) < (ws.length : Int)) = false := decide_eq_false (by omega)
   simp (maxSteps := 2000000) -implicitDefEqProofs (disch := (first | omega | rfl | assumption | (simp only [rsD]; first | omega | assumption))) only [haymowref41_Put_L1, dk, Nat.reduceAdd, Nat.reduceMul, Nat.reduceLT, Int.reduceToNat, Int.reduceAdd, Int.reduceSub, Int.reduceMul, rsU, rsC]
   exact Ok_some.2 ⟨a', by simp, own, E⟩
 ·rintro ⟨rv, J3⟩ ⟨a', e, own, E⟩
  simp only at e own E
  subst e
  simp (maxSteps := 2000000) -implicitDefEqProofs (disch := (first | omega | rfl | assumption | (simp only [rsD]; first | omega | assumption))) only [Nat.reduceAdd, Nat.reduceMul, Nat.reduceLT, Int.reduceToNat, Int.reduceAdd, Int.reduceSub, Int.reduceMul, rsU, rsC]
  refine Ok.step (refSeal_ok own.rd (fun b hb => own.lt b hb) (encs_bytes _) (by omega)) fun q ⟨⟨a4, g1, i4⟩, E4⟩ => ?_
  obtain ⟨q, J4⟩ := q
  simp only at g1 E4
  subst g1
  simp (maxSteps := 2000000) -implicitDefEqProofs (disch := (first | omega | rfl | assumption | (simp only [rsD]; first | omega | assumption))) only [Nat.reduceAdd, Nat.reduceMul, Nat.reduceLT, Int.reduceToNat, Int.reduceAdd, Int.reduceSub, Int.reduceMul, rsU, rsC]
  exact Ok_some.2 ⟨⟨a4, rfl, i4⟩, (E02.trans E).trans E4⟩
end Go.Abs.Try
namespace Go.Abs.Try
open Go Go.Abs
variable {O : Type}
structure Tried (F : FV) : Prop where
 n : F.nodes.length <= 20
 x : ∀ x ∈ F.nodes, x.P.length <= 20 /\ x.R.length <= 20
 r : F.roots.length <= 300
 w : F.weak.length <= 20
theorem few41_ok {J : AH O} {F : FV} {v : AV} (hF : F.At v) : Ok (law41_few [v] J) fun r => (r.1 = .b false ∨ r.1 = .b true /\ Tried F) /\ Ext J r.2 := by
 obtain ⟨a, b, c, rfl, h1, h2, h3⟩ := hF.it
 have t1 : (true == true) = true := rfl
 have t2 : (false == true) = false := rfl
 have f0 : (false == false) = true := rfl
 have f1 : (true == false) = false := rfl
 simp (maxSteps := 2000000) -implicitDefEqProofs (disch := (first | omega | rfl | assumption | (simp only [rsD]; first | omega | assumption))) only [law41_few, law41_few_c, Nat.reduceAdd, Nat.reduceMul, Nat.reduceLT, Int.reduceToNat, Int.reduceAdd, Int.reduceSub, Int.reduceMul, rsU, rsC]
 generalize hJ : (J.bump 1).put J.next _ = J1
 obtain ⟨E1, n1, b1⟩ := box1 hJ
 clear hJ
 refine Ok.bindS (Q := fun r => match r with
   | .inl s => s = ([], J1) /\ ∀ j, j < 20 -> ∀ x, F.nodes[j]? = some x -> x.P.length <= 20 /\ x.R.length <= 20
   | .inr r => r = (.b false, J1)) ?_ (fun s hs => ?_) (fun r hr => by rw [hr]; exact ⟨.inl rfl, E1⟩)
 ·refine Ok.count (min F.nodes.length 20) (fun k s => s = ([.i .i64 (k : Int)], J1) /\ ∀ j, j < k -> ∀ x, F.nodes[j]? = some x -> x.P.length <= 20 /\ x.R.length <= 20) ?_ ?_ ⟨rfl, fun j hj => by omega⟩
  ·rintro k _ hk ⟨rfl, hI⟩
   have hkl : k < F.nodes.length := by omega
   have hx := List.getElem?_eq_getElem hkl
   obtain ⟨bb, oo, c', d', r1, hc, hd, ld⟩ := node_ref h1 hx
   obtain ⟨l0, l1, l2, l3, l4, l5, l6⟩ := ld O J1
   generalize F.nodes[k] = x at *
   have dk : decide ((k : Int) < (F.nodes.length : Int)) = true := decide_eq_true (by omega)
   have d20 : decide ((k : Int) < 20) = true := decide_eq_true (by omega)
   have d0 : decide ((0 : Int) <= (k : Int)) = true := decide_eq_true (by omega)
   by_cases c1 : (x.P.length : Int) > 20
   ·have d1 : decide ((x.P.length : Int) > 20) = true := decide_eq_true c1
    simp (maxSteps := 2000000) -implicitDefEqProofs (disch := (first | omega | rfl | assumption | (simp only [rsD]; first | omega | assumption))) only [law41_few_L1, b1, dk, d20, d0, r1, l5, d1, t1, t2, f0, f1, Int.toNat_natCast, Nat.reduceAdd, Nat.reduceMul, Nat.reduceLT, Int.reduceToNat, Int.reduceAdd, Int.reduceSub, Int.reduceMul, rsU, rsC]
    exact Ok_some.2 rfl
   have d1 : decide ((x.P.length : Int) > 20) = false := decide_eq_false c1
   by_cases c2 : (x.R.length : Int) > 20
   ·have d2 : decide ((x.R.length : Int) > 20) = true := decide_eq_true c2
    simp (maxSteps := 2000000) -implicitDefEqProofs (disch := (first | omega | rfl | assumption | (simp only [rsD]; first | omega | assumption))) only [law41_few_L1, b1, dk, d20, d0, r1, l5, l6, d1, d2, t1, t2, f0, f1, Int.toNat_natCast, Nat.reduceAdd, Nat.reduceMul, Nat.reduceLT, Int.reduceToNat, Int.reduceAdd, Int.reduceSub, Int.reduceMul, rsU, rsC]
    exact Ok_some.2 rfl
   have d2 : decide ((x.R.length : Int) > 20) = false := decide_eq_false c2
   simp (maxSteps := 2000000) -implicitDefEqProofs (disch := (first | omega | rfl | assumption | (simp only [rsD]; first | omega | assumption))) only [law41_few_L1, b1, dk, d20, d0, r1, l5, l6, d1, d2, t1, t2, f0, f1, Int.toNat_natCast, Nat.reduceAdd, Nat.reduceMul, Nat.reduceLT, Int.reduceToNat, Int.reduceAdd, Int.reduceSub, Int.reduceMul, rsU, rsC]
   refine Ok_some.2 ⟨rfl, fun j hj y hy => ?_⟩
   by_cases e : j = k
   ·subst e
    rw [hx] at hy; cases hy; omega
   ·exact hI j (by omega) y hy
  ·rintro _ ⟨rfl, hI⟩
   have fin : ([], J1) = (([], J1) : List AV × AH O) /\ ∀ j, j < 20 -> ∀ x, F.nodes[j]? = some x -> x.P.length <= 20 /\ x.R.length <= 20 := ⟨rfl, fun j hj x hx => hI j (by have := (List.getElem?_eq_some_iff.1 hx).1; omega) x hx⟩
   by_cases c : F.nodes.length <= 20
   ·have e : min F.nodes.length 20 = F.nodes.length := by omega
    rw [e]
    have dk : decide ((F.nodes.length : Int) < (F.nodes.length : Int)) = false := decide_eq_false (by omega)
    simp (maxSteps := 2000000) -implicitDefEqProofs (disch := (first | omega | rfl | assumption | (simp only [rsD]; first | omega | assumption))) only [law41_few_L1, b1, dk, t1, t2, Nat.reduceAdd, Nat.reduceMul, Nat.reduceLT, Int.reduceToNat, Int.reduceAdd, Int.reduceSub, Int.reduceMul, rsU, rsC]
    exact Ok_some.2 fin
   ·have e : min F.nodes.length 20 = 20 := by omega
    rw [e]
    have dk : decide (((20 : Nat) : Int) < (F.nodes.length : Int)) = true := decide_eq_true (by omega)
    have d20 : decide (((20 : Nat) : Int) < 20) = false := rfl
    simp (maxSteps := 2000000) -implicitDefEqProofs (disch := (first | omega | rfl | assumption | (simp only [rsD]; first | omega | assumption))) only [law41_few_L1, b1, dk, d20, t1, t2, Nat.reduceAdd, Nat.reduceMul, Nat.reduceLT, Int.reduceToNat, Int.reduceAdd, Int.reduceSub, Int.reduceMul, rsU, rsC]
    exact Ok_some.2 fin
 ·obtain ⟨rfl, hI⟩ := hs
  have no : (some (AV.b false, J1) : Option (AV × AH O)) = some (.b false, J1) := rfl
  by_cases c1 : (F.nodes.length : Int) <= 20
  case neg =>
   have d1 : decide ((F.nodes.length : Int) <= 20) = false := decide_eq_false c1
   simp (maxSteps := 2000000) -implicitDefEqProofs (disch := (first | omega | rfl | assumption | (simp only [rsD]; first | omega | assumption))) only [b1, d1, t1, t2, Nat.reduceAdd, Nat.reduceMul, Nat.reduceLT, Int.reduceToNat, Int.reduceAdd, Int.reduceSub, Int.reduceMul, rsU, rsC]
   exact Ok_some.2 ⟨.inl rfl, E1⟩
  have d1 : decide ((F.nodes.length : Int) <= 20) = true := decide_eq_true c1
  by_cases c2 : (F.roots.length : Int) <= 300
  case neg =>
   have d2 : decide ((F.roots.length : Int) <= 300) = false := decide_eq_false c2
   simp (maxSteps := 2000000) -implicitDefEqProofs (disch := (first | omega | rfl | assumption | (simp only [rsD]; first | omega | assumption))) only [b1, d1, d2, t1, t2, Nat.reduceAdd, Nat.reduceMul, Nat.reduceLT, Int.reduceToNat, Int.reduceAdd, Int.reduceSub, Int.reduceMul, rsU, rsC]
   exact Ok_some.2 ⟨.inl rfl, E1⟩
  have d2 : decide ((F.roots.length : Int) <= 300) = true := decide_eq_true c2
  by_cases c3 : (F.weak.length : Int) <= 20
  case neg =>
   have d3 : decide ((F.weak.length : Int) <= 20) = false := decide_eq_false c3
   simp (maxSteps := 2000000) -implicitDefEqProofs (disch := (first | omega | rfl | assumption | (simp only [rsD]; first | omega | assumption))) only [b1, d1, d2, d3, t1, t2, Nat.reduceAdd, Nat.reduceMul, Nat.reduceLT, Int.reduceToNat, Int.reduceAdd, Int.reduceSub, Int.reduceMul, rsU, rsC]
   exact Ok_some.2 ⟨.inl rfl, E1⟩
  have d3 : decide ((F.weak.length : Int) <= 20) = true := decide_eq_true c3
  simp (maxSteps := 2000000) -implicitDefEqProofs (disch := (first | omega | rfl | assumption | (simp only [rsD]; first | omega | assumption))) only [b1, d1, d2, d3, t1, t2, Nat.reduceAdd, Nat.reduceMul, Nat.reduceLT, Int.reduceToNat, Int.reduceAdd, Int.reduceSub, Int.reduceMul, rsU, rsC]
  refine Ok_some.2 ⟨.inr ⟨rfl, by omega, fun x hx => ?_, by omega, by omega⟩, E1⟩
  obtain ⟨j, hj⟩ := List.mem_iff_getElem?.1 hx
  exact hI j (by have := (List.getElem?_eq_some_iff.1 hj).1; omega) x hj
end Go.Abs.Try
namespace Go.Abs.Try
open Go Go.Abs
variable {O : Type}
def shP (p r : Int) : Bool := decide ((0 <= p /\ p < 4096) /\ (0 <= r /\ r < 4096))
def wordsP (p r : Int) : Int := bif shP p r then 1 + p + r else 0
def chargeP (p r s : Int) : Int := bif decide (wordsP p r > 0) && decide (wordsP p r > s) then wordsP p r + 6 else wordsP p r
theorem wordsP_rng (p r : Int) : 0 <= wordsP p r /\ wordsP p r <= 8191 := by
 unfold wordsP
 cases h : shP p r with
 | true =>
  have := of_decide_eq_true h
  simp only [cond_true]; omega
 | false => simp only [cond_false]; omega
theorem chargeP_rng (p r s : Int) : 0 <= chargeP p r s /\ chargeP p r s <= 8197 := by
 have := wordsP_rng p r
 unfold chargeP
 cases (decide (wordsP p r > 0) && decide (wordsP p r > s)) with
 | true => simp only [cond_true]; omega
 | false => simp only [cond_false]; omega
theorem hdP0 (p r : Int) : hdP ⟨p, r, 0, 0, false⟩ = shP p r := by
 unfold hdP shP
 rw [Bool.eq_iff_iff, decide_eq_true_eq, decide_eq_true_eq]
 simp only
 omega
theorem cshape_ok (J : AH O) (p r : Int) : Ok (shape_Right [.agg [.i .i64 p, .i .i64 r]] J) fun q => q.1 = .b (shP p r) /\ Ext J q.2 := by
 simp (maxSteps := 2000000) -implicitDefEqProofs (disch := (first | omega | rfl | assumption | (simp only [rsD]; first | omega | assumption))) only [shape_Right, shape_Right_c, Nat.reduceAdd, Nat.reduceMul, Nat.reduceLT, Int.reduceToNat, Int.reduceAdd, Int.reduceSub, Int.reduceMul, rsU, rsC]
 refine Ok.step (checkV_ok _ ⟨p, r, 0, 0, false⟩) fun q ⟨⟨c, g1, g2⟩, E⟩ => ?_
 obtain ⟨q, J1⟩ := q
 simp only at g1 E
 subst g1
 rw [hdP0] at g2
 simp (maxSteps := 2000000) -implicitDefEqProofs (disch := (first | omega | rfl | assumption | (simp only [rsD]; first | omega | assumption))) only [g2, Nat.reduceAdd, Nat.reduceMul, Nat.reduceLT, Int.reduceToNat, Int.reduceAdd, Int.reduceSub, Int.reduceMul, rsU, rsC]
 exact Ok_some.2 ⟨rfl, (((Ext.refl J).bump 1).put (Nat.le_refl _) _).trans E⟩
theorem swords_ok (J : AH O) (p r : Int) : Ok (shape_Words [.agg [.i .i64 p, .i .i64 r]] J) fun q => q.1 = .i .i64 (wordsP p r) /\ Ext J q.2 := by
 simp (maxSteps := 2000000) -implicitDefEqProofs (disch := (first | omega | rfl | assumption | (simp only [rsD]; first | omega | assumption))) only [shape_Words, shape_Words_c, Nat.reduceAdd, Nat.reduceMul, Nat.reduceLT, Int.reduceToNat, Int.reduceAdd, Int.reduceSub, Int.reduceMul, rsU, rsC]
 generalize hJ : (J.bump 1).put J.next _ = J1
 obtain ⟨E1, n1, b1⟩ := box1 hJ
 clear hJ
 refine Ok.step (cshape_ok J1 p r) fun q ⟨g1, E2⟩ => ?_
 obtain ⟨q, J2⟩ := q
 simp only at g1 E2
 subst g1
 have b2 := (E2.blk _ (by omega)).trans b1
 unfold wordsP
 cases h : shP p r with
 | false =>
  simp (maxSteps := 2000000) -implicitDefEqProofs (disch := (first | omega | rfl | assumption | (simp only [rsD]; first | omega | assumption))) only [Nat.reduceAdd, Nat.reduceMul, Nat.reduceLT, Int.reduceToNat, Int.reduceAdd, Int.reduceSub, Int.reduceMul, rsU, rsC]
  exact Ok_some.2 ⟨rfl, E1.trans E2⟩
 | true =>
  have hh := of_decide_eq_true h
  have e1 : IntKind.i64.wrap (1 + p) = 1 + p := i64_id (by omega) (by omega)
  have e2 : IntKind.i64.wrap (1 + p + r) = 1 + p + r := i64_id (by omega) (by omega)
  simp (maxSteps := 2000000) -implicitDefEqProofs (disch := (first | omega | rfl | assumption | (simp only [rsD]; first | omega | assumption))) only [b2, header_Words, header_Words_c, e1, e2, Nat.reduceAdd, Nat.reduceMul, Nat.reduceLT, Int.reduceToNat, Int.reduceAdd, Int.reduceSub, Int.reduceMul, rsU, rsC]
  exact Ok_some.2 ⟨rfl, (E1.trans E2).trans (((Ext.refl J2).bump 1).put (Nat.le_refl _) _)⟩
theorem scharge_ok (J : AH O) (p r s : Int) : Ok (shape_Charge [.agg [.i .i64 p, .i .i64 r], .i .i64 s] J) fun q => q.1 = .i .i64 (chargeP p r s) /\ Ext J q.2 := by
 have t1 : (true == true) = true := rfl
 have t2 : (false == true) = false := rfl
 have hr := wordsP_rng p r
 simp (maxSteps := 2000000) -implicitDefEqProofs (disch := (first | omega | rfl | assumption | (simp only [rsD]; first | omega | assumption))) only [shape_Charge, shape_Charge_c, Nat.reduceAdd, Nat.reduceMul, Nat.reduceLT, Int.reduceToNat, Int.reduceAdd, Int.reduceSub, Int.reduceMul, rsU, rsC]
 generalize hJ : (J.bump 1).put J.next _ = J1
 obtain ⟨E1, n1, b1⟩ := box1 hJ
 clear hJ
 refine Ok.step (swords_ok J1 p r) fun q ⟨g1, E2⟩ => ?_
 obtain ⟨q, J2⟩ := q
 simp only at g1 E2
 subst g1
 have b2 := (E2.blk _ (by omega)).trans b1
 have E02 := E1.trans E2
 unfold chargeP
 generalize hw : wordsP p r = w at *
 cases h : decide (w > 0) with
 | false =>
  simp (maxSteps := 2000000) -implicitDefEqProofs (disch := (first | omega | rfl | assumption | (simp only [rsD]; first | omega | assumption))) only [h, t1, t2, Nat.reduceAdd, Nat.reduceMul, Nat.reduceLT, Int.reduceToNat, Int.reduceAdd, Int.reduceSub, Int.reduceMul, rsU, rsC]
  exact Ok_some.2 ⟨rfl, E02⟩
 | true =>
  simp (maxSteps := 2000000) -implicitDefEqProofs (disch := (first | omega | rfl | assumption | (simp only [rsD]; first | omega | assumption))) only [h, t1, t2, b2, shape_Large, shape_Large_c, Nat.reduceAdd, Nat.reduceMul, Nat.reduceLT, Int.reduceToNat, Int.reduceAdd, Int.reduceSub, Int.reduceMul, rsU, rsC]
  have E3 : ∀ {x : Blk O}, Ext J ((J2.bump 1).put J2.next x) := fun {x} => (E02.bump 1).put (by have := E02.next; omega) _
  refine Ok.step (swords_ok _ p r) fun q ⟨g1, E4⟩ => ?_
  obtain ⟨q, J4⟩ := q
  simp only at g1 E4
  rw [hw] at g1
  subst g1
  cases h2 : decide (w > s) with
  | false =>
   simp (maxSteps := 2000000) -implicitDefEqProofs (disch := (first | omega | rfl | assumption | (simp only [rsD]; first | omega | assumption))) only [h2, Nat.reduceAdd, Nat.reduceMul, Nat.reduceLT, Int.reduceToNat, Int.reduceAdd, Int.reduceSub, Int.reduceMul, rsU, rsC]
   exact Ok_some.2 ⟨rfl, E3.trans E4⟩
  | true =>
   simp (maxSteps := 2000000) -implicitDefEqProofs (disch := (first | omega | rfl | assumption | (simp only [rsD]; first | omega | assumption))) only [h2, Nat.reduceAdd, Nat.reduceMul, Nat.reduceLT, Int.reduceToNat, Int.reduceAdd, Int.reduceSub, Int.reduceMul, rsU, rsC]
   exact Ok_some.2 ⟨rfl, E3.trans E4⟩
theorem rshape_ok (J : AH O) (p r : Int) : Ok (haymowref13_Right [.agg [.i .i64 p, .i .i64 r]] J) fun q => q.1 = .b (shP p r) /\ Ext J q.2 := by
 have t1 : (true == true) = true := rfl
 have t2 : (false == true) = false := rfl
 have E : ∀ {x : Blk O}, Ext J ((J.bump 1).put J.next x) := fun {x} => ((Ext.refl J).bump 1).put (Nat.le_refl _) _
 have e : shP p r = (decide (p >= 0) && (decide (p < 4096) && (decide (r >= 0) && decide (r < 4096)))) := by
  unfold shP
  rw [Bool.eq_iff_iff, decide_eq_true_eq]
  simp only [Bool.and_eq_true, decide_eq_true_eq]
  omega
 rw [e]
 cases h1 : decide (p >= 0) with
 | false =>
  simp (maxSteps := 2000000) -implicitDefEqProofs (disch := (first | omega | rfl | assumption | (simp only [rsD]; first | omega | assumption))) only [haymowref13_Right, haymowref13_Right_c, h1, t1, t2, Nat.reduceAdd, Nat.reduceMul, Nat.reduceLT, Int.reduceToNat, Int.reduceAdd, Int.reduceSub, Int.reduceMul, rsU, rsC]
  exact Ok_some.2 ⟨rfl, E⟩
 | true =>
 cases h2 : decide (p < 4096) with
 | false =>
  simp (maxSteps := 2000000) -implicitDefEqProofs (disch := (first | omega | rfl | assumption | (simp only [rsD]; first | omega | assumption))) only [haymowref13_Right, haymowref13_Right_c, h1, h2, t1, t2, Nat.reduceAdd, Nat.reduceMul, Nat.reduceLT, Int.reduceToNat, Int.reduceAdd, Int.reduceSub, Int.reduceMul, rsU, rsC]
  exact Ok_some.2 ⟨rfl, E⟩
 | true =>
 cases h3 : decide (r >= 0) with
 | false =>
  simp (maxSteps := 2000000) -implicitDefEqProofs (disch := (first | omega | rfl | assumption | (simp only [rsD]; first | omega | assumption))) only [haymowref13_Right, haymowref13_Right_c, h1, h2, h3, t1, t2, Nat.reduceAdd, Nat.reduceMul, Nat.reduceLT, Int.reduceToNat, Int.reduceAdd, Int.reduceSub, Int.reduceMul, rsU, rsC]
  exact Ok_some.2 ⟨rfl, E⟩
 | true =>
 cases h4 : decide (r < 4096) with
 | false =>
  simp (maxSteps := 2000000) -implicitDefEqProofs (disch := (first | omega | rfl | assumption | (simp only [rsD]; first | omega | assumption))) only [haymowref13_Right, haymowref13_Right_c, h1, h2, h3, h4, t1, t2, Nat.reduceAdd, Nat.reduceMul, Nat.reduceLT, Int.reduceToNat, Int.reduceAdd, Int.reduceSub, Int.reduceMul, rsU, rsC]
  exact Ok_some.2 ⟨rfl, E⟩
 | true =>
  simp (maxSteps := 2000000) -implicitDefEqProofs (disch := (first | omega | rfl | assumption | (simp only [rsD]; first | omega | assumption))) only [haymowref13_Right, haymowref13_Right_c, h1, h2, h3, h4, t1, t2, Nat.reduceAdd, Nat.reduceMul, Nat.reduceLT, Int.reduceToNat, Int.reduceAdd, Int.reduceSub, Int.reduceMul, rsU, rsC]
  exact Ok_some.2 ⟨rfl, E⟩
theorem rswords_ok (J : AH O) (p r : Int) : Ok (haymowref13_Words [.agg [.i .i64 p, .i .i64 r]] J) fun q => q.1 = .i .i64 (wordsP p r) /\ Ext J q.2 := by
 simp (maxSteps := 2000000) -implicitDefEqProofs (disch := (first | omega | rfl | assumption | (simp only [rsD]; first | omega | assumption))) only [haymowref13_Words, haymowref13_Words_c, Nat.reduceAdd, Nat.reduceMul, Nat.reduceLT, Int.reduceToNat, Int.reduceAdd, Int.reduceSub, Int.reduceMul, rsU, rsC]
 generalize hJ : (J.bump 1).put J.next _ = J1
 obtain ⟨E1, n1, b1⟩ := box1 hJ
 clear hJ
 refine Ok.step (rshape_ok J1 p r) fun q ⟨g1, E2⟩ => ?_
 obtain ⟨q, J2⟩ := q
 simp only at g1 E2
 subst g1
 have b2 := (E2.blk _ (by omega)).trans b1
 unfold wordsP
 cases h : shP p r with
 | false =>
  simp (maxSteps := 2000000) -implicitDefEqProofs (disch := (first | omega | rfl | assumption | (simp only [rsD]; first | omega | assumption))) only [Nat.reduceAdd, Nat.reduceMul, Nat.reduceLT, Int.reduceToNat, Int.reduceAdd, Int.reduceSub, Int.reduceMul, rsU, rsC]
  exact Ok_some.2 ⟨rfl, E1.trans E2⟩
 | true =>
  have hh := of_decide_eq_true h
  have e1 : IntKind.i64.wrap (1 + p) = 1 + p := i64_id (by omega) (by omega)
  have e2 : IntKind.i64.wrap (1 + p + r) = 1 + p + r := i64_id (by omega) (by omega)
  simp (maxSteps := 2000000) -implicitDefEqProofs (disch := (first | omega | rfl | assumption | (simp only [rsD]; first | omega | assumption))) only [b2, e1, e2, Nat.reduceAdd, Nat.reduceMul, Nat.reduceLT, Int.reduceToNat, Int.reduceAdd, Int.reduceSub, Int.reduceMul, rsU, rsC]
  exact Ok_some.2 ⟨rfl, E1.trans E2⟩
theorem rcharge_ok (J : AH O) (p r s : Int) : Ok (haymowref13_Charge [.agg [.i .i64 p, .i .i64 r], .i .i64 s] J) fun q => q.1 = .i .i64 (chargeP p r s) /\ Ext J q.2 := by
 have t1 : (true == true) = true := rfl
 have t2 : (false == true) = false := rfl
 have hr := wordsP_rng p r
 simp (maxSteps := 2000000) -implicitDefEqProofs (disch := (first | omega | rfl | assumption | (simp only [rsD]; first | omega | assumption))) only [haymowref13_Charge, haymowref13_Charge_c, Nat.reduceAdd, Nat.reduceMul, Nat.reduceLT, Int.reduceToNat, Int.reduceAdd, Int.reduceSub, Int.reduceMul, rsU, rsC]
 generalize hJ : (J.bump 1).put J.next _ = J1
 obtain ⟨E1, n1, b1⟩ := box1 hJ
 clear hJ
 refine Ok.step (rswords_ok J1 p r) fun q ⟨g1, E2⟩ => ?_
 obtain ⟨q, J2⟩ := q
 simp only at g1 E2
 subst g1
 have E02 := E1.trans E2
 unfold chargeP
 generalize wordsP p r = w at *
 cases h : decide (w > 0) with
 | false =>
  simp (maxSteps := 2000000) -implicitDefEqProofs (disch := (first | omega | rfl | assumption | (simp only [rsD]; first | omega | assumption))) only [h, t1, t2, Nat.reduceAdd, Nat.reduceMul, Nat.reduceLT, Int.reduceToNat, Int.reduceAdd, Int.reduceSub, Int.reduceMul, rsU, rsC]
  exact Ok_some.2 ⟨rfl, E02⟩
 | true =>
  cases h2 : decide (w > s) with
  | false =>
   simp (maxSteps := 2000000) -implicitDefEqProofs (disch := (first | omega | rfl | assumption | (simp only [rsD]; first | omega | assumption))) only [h, h2, t1, t2, Nat.reduceAdd, Nat.reduceMul, Nat.reduceLT, Int.reduceToNat, Int.reduceAdd, Int.reduceSub, Int.reduceMul, rsU, rsC]
   exact Ok_some.2 ⟨rfl, E02⟩
  | true =>
   simp (maxSteps := 2000000) -implicitDefEqProofs (disch := (first | omega | rfl | assumption | (simp only [rsD]; first | omega | assumption))) only [h, h2, t1, t2, Nat.reduceAdd, Nat.reduceMul, Nat.reduceLT, Int.reduceToNat, Int.reduceAdd, Int.reduceSub, Int.reduceMul, rsU, rsC]
   exact Ok_some.2 ⟨rfl, E02⟩
end Go.Abs.Try
namespace Go.Abs.Try
open Go Go.Abs
variable {O : Type}
theorem sum_rng {α : Type} {f : α -> Int} {B : Int} (hf : ∀ x, 0 <= f x /\ f x <= B) (hB : 0 <= B) : ∀ l : List α, 0 <= (l.map f).sum /\ (l.map f).sum <= B * (l.length : Int)
 | [] => by simp
 | x :: l => by
  have := sum_rng hf hB l
  have h1 := hf x
  have e : ((x :: l).length : Int) = (l.length : Int) + 1 := by simp
  rw [List.map_cons, List.sum_cons, e, Int.mul_add, Int.mul_one]
  omega
theorem sum_take {α : Type} {f : α -> Int} {l : List α} {k : Nat} (hk : k < l.length) : ((l.take (k + 1)).map f).sum = ((l.take k).map f).sum + f l[k] := by
 rw [List.take_succ_eq_append_getElem hk, List.map_append, List.sum_append]
 simp
def chN (s : Int) (x : NV) : Int := chargeP x.h.p x.h.r s
def wk4 (w : Int) : Int := bif w == 0 then 0 else 4
theorem cwords_ok {J : AH O} {F : FV} {v : AV} {s : Int} (hF : F.At v) (hn : F.nodes.length <= 20) : Ok (canon_Words [v, .i .i64 s] J) fun r => r.1 = .i .i64 (F.nodes.map (chN s)).sum /\ Ext J r.2 := by
 obtain ⟨a, b, c, rfl, h1, h2, h3⟩ := hF.it
 simp (maxSteps := 2000000) -implicitDefEqProofs (disch := (first | omega | rfl | assumption | (simp only [rsD]; first | omega | assumption))) only [canon_Words, canon_Words_c, Nat.reduceAdd, Nat.reduceMul, Nat.reduceLT, Int.reduceToNat, Int.reduceAdd, Int.reduceSub, Int.reduceMul, rsU, rsC]
 generalize hJ : (J.bump 1).put J.next _ = J1
 obtain ⟨E1, n1, b1⟩ := box1 hJ
 clear hJ
 refine Ok.step (Q := fun r => r.1 = [.i .i64 (F.nodes.map (chN s)).sum] /\ Ext J1 r.2) ?_ ?_
 ·refine Ok.count F.nodes.length (fun k st => ∃ J', st = ([.i .i64 ((F.nodes.take k).map (chN s)).sum, .i .i64 (k : Int)], J') /\ Ext J1 J') ?_ ?_ ⟨J1, rfl, Ext.refl _⟩
  ·rintro k _ hk ⟨J', rfl, E⟩
   have hx := List.getElem?_eq_getElem hk
   obtain ⟨bb, oo, c', d', r1, hc, hd, ld⟩ := node_ref h1 hx
   obtain ⟨l0, l1, l2, l3, l4, l5, l6⟩ := ld O (J'.bump 1)
   rw [sum_take hk]
   have hs := sum_rng (f := chN s) (B := 8197) (fun x => chargeP_rng _ _ _) (by decide) (F.nodes.take k)
   have hl : (F.nodes.take k).length <= 20 := by rw [List.length_take]; omega
   generalize F.nodes[k] = x at *
   have hc0 := chargeP_rng x.h.p x.h.r s
   have dk : decide ((k : Int) < (F.nodes.length : Int)) = true := decide_eq_true (by omega)
   have d0 : decide ((0 : Int) <= (k : Int)) = true := decide_eq_true (by omega)
   generalize ((F.nodes.take k).map (chN s)).sum = S at *
   simp (maxSteps := 2000000) -implicitDefEqProofs (disch := (first | omega | rfl | assumption | (simp only [rsD]; first | omega | assumption))) only [canon_Words_L1, dk, d0, r1, l0, l1, l2, l3, l4, l5, l6, Int.toNat_natCast, Nat.reduceAdd, Nat.reduceMul, Nat.reduceLT, Int.reduceToNat, Int.reduceAdd, Int.reduceSub, Int.reduceMul, rsU, rsC]
   generalize hJ : (J'.bump 1).put J'.next _ = J2
   obtain ⟨E2, n2, b2⟩ := box1 hJ
   clear hJ
   refine Ok.step (scharge_ok J2 x.h.p x.h.r s) fun q ⟨g1, E3⟩ => ?_
   obtain ⟨q, J3⟩ := q
   simp only at g1 E3
   subst g1
   have e1 : IntKind.i64.wrap (S + chargeP x.h.p x.h.r s) = S + chargeP x.h.p x.h.r s := i64_id (by omega) (by omega)
   simp (maxSteps := 2000000) -implicitDefEqProofs (disch := (first | omega | rfl | assumption | (simp only [rsD]; first | omega | assumption))) only [e1, Nat.reduceAdd, Nat.reduceMul, Nat.reduceLT, Int.reduceToNat, Int.reduceAdd, Int.reduceSub, Int.reduceMul, rsU, rsC]
   exact Ok_some.2 ⟨J3, rfl, (E.trans E2).trans E3⟩
  ·rintro _ ⟨J', rfl, E⟩
   rw [List.take_length]
   have dk : decide ((F.nodes.length : Int) < (F.nodes.length : Int)) = false := decide_eq_false (by omega)
   simp (maxSteps := 2000000) -implicitDefEqProofs (disch := (first | omega | rfl | assumption | (simp only [rsD]; first | omega | assumption))) only [canon_Words_L1, dk, Nat.reduceAdd, Nat.reduceMul, Nat.reduceLT, Int.reduceToNat, Int.reduceAdd, Int.reduceSub, Int.reduceMul, rsU, rsC]
   exact Ok_some.2 ⟨rfl, E⟩
 ·rintro ⟨rv, J2⟩ ⟨e, E⟩
  simp only at e E
  subst e
  simp (maxSteps := 2000000) -implicitDefEqProofs (disch := (first | omega | rfl | assumption | (simp only [rsD]; first | omega | assumption))) only [Nat.reduceAdd, Nat.reduceMul, Nat.reduceLT, Int.reduceToNat, Int.reduceAdd, Int.reduceSub, Int.reduceMul, rsU, rsC]
  exact Ok_some.2 ⟨rfl, E1.trans E⟩
theorem rwords40_ok {J : AH O} {F : FV} {v : AV} {s : Int} (hF : F.At v) (hn : F.nodes.length <= 20) : Ok (haymowref40_Words [v, .i .i64 s] J) fun r => r.1 = .i .i64 (F.nodes.map (chN s)).sum /\ Ext J r.2 := by
 obtain ⟨a, b, c, rfl, h1, h2, h3⟩ := hF.it
 simp (maxSteps := 2000000) -implicitDefEqProofs (disch := (first | omega | rfl | assumption | (simp only [rsD]; first | omega | assumption))) only [haymowref40_Words, haymowref40_Words_c, Nat.reduceAdd, Nat.reduceMul, Nat.reduceLT, Int.reduceToNat, Int.reduceAdd, Int.reduceSub, Int.reduceMul, rsU, rsC]
 generalize hJ : (J.bump 1).put J.next _ = J1
 obtain ⟨E1, n1, b1⟩ := box1 hJ
 clear hJ
 refine Ok.step (Q := fun r => r.1 = [.i .i64 (F.nodes.map (chN s)).sum] /\ Ext J1 r.2) ?_ ?_
 ·refine Ok.count F.nodes.length (fun k st => ∃ J', st = ([.i .i64 ((F.nodes.take k).map (chN s)).sum, .i .i64 (k : Int)], J') /\ Ext J1 J') ?_ ?_ ⟨J1, rfl, Ext.refl _⟩
  ·rintro k _ hk ⟨J', rfl, E⟩
   have hx := List.getElem?_eq_getElem hk
   obtain ⟨bb, oo, c', d', r1, hc, hd, ld⟩ := node_ref h1 hx
   obtain ⟨l0, l1, l2, l3, l4, l5, l6⟩ := ld O J'
   have b1' := (E.blk J.next (by omega)).trans b1
   rw [sum_take hk]
   have hs := sum_rng (f := chN s) (B := 8197) (fun x => chargeP_rng _ _ _) (by decide) (F.nodes.take k)
   have hl : (F.nodes.take k).length <= 20 := by rw [List.length_take]; omega
   generalize F.nodes[k] = x at *
   have hc0 := chargeP_rng x.h.p x.h.r s
   have dk : decide ((k : Int) < (F.nodes.length : Int)) = true := decide_eq_true (by omega)
   have d0 : decide ((0 : Int) <= (k : Int)) = true := decide_eq_true (by omega)
   generalize ((F.nodes.take k).map (chN s)).sum = S at *
   simp (maxSteps := 2000000) -implicitDefEqProofs (disch := (first | omega | rfl | assumption | (simp only [rsD]; first | omega | assumption))) only [haymowref40_Words_L1, b1', dk, d0, r1, l0, l1, Int.toNat_natCast, Nat.reduceAdd, Nat.reduceMul, Nat.reduceLT, Int.reduceToNat, Int.reduceAdd, Int.reduceSub, Int.reduceMul, rsU, rsC]
   refine Ok.step (rcharge_ok J' x.h.p x.h.r s) fun q ⟨g1, E3⟩ => ?_
   obtain ⟨q, J3⟩ := q
   simp only at g1 E3
   subst g1
   have e1 : IntKind.i64.wrap (S + chargeP x.h.p x.h.r s) = S + chargeP x.h.p x.h.r s := i64_id (by omega) (by omega)
   simp (maxSteps := 2000000) -implicitDefEqProofs (disch := (first | omega | rfl | assumption | (simp only [rsD]; first | omega | assumption))) only [e1, Nat.reduceAdd, Nat.reduceMul, Nat.reduceLT, Int.reduceToNat, Int.reduceAdd, Int.reduceSub, Int.reduceMul, rsU, rsC]
   exact Ok_some.2 ⟨J3, rfl, E.trans E3⟩
  ·rintro _ ⟨J', rfl, E⟩
   have b1' := (E.blk J.next (by omega)).trans b1
   rw [List.take_length]
   have dk : decide ((F.nodes.length : Int) < (F.nodes.length : Int)) = false := decide_eq_false (by omega)
   simp (maxSteps := 2000000) -implicitDefEqProofs (disch := (first | omega | rfl | assumption | (simp only [rsD]; first | omega | assumption))) only [haymowref40_Words_L1, b1', dk, Nat.reduceAdd, Nat.reduceMul, Nat.reduceLT, Int.reduceToNat, Int.reduceAdd, Int.reduceSub, Int.reduceMul, rsU, rsC]
   exact Ok_some.2 ⟨rfl, E⟩
 ·rintro ⟨rv, J2⟩ ⟨e, E⟩
  simp only at e E
  subst e
  simp (maxSteps := 2000000) -implicitDefEqProofs (disch := (first | omega | rfl | assumption | (simp only [rsD]; first | omega | assumption))) only [Nat.reduceAdd, Nat.reduceMul, Nat.reduceLT, Int.reduceToNat, Int.reduceAdd, Int.reduceSub, Int.reduceMul, rsU, rsC]
  exact Ok_some.2 ⟨rfl, E1.trans E⟩
def frP (n : Int) : Int := bif decide (n <= 254) then n + 4 else 0
def needP (F : FV) (s : Int) : Int := (F.nodes.map (chN s)).sum + frP F.roots.length + (F.weak.map wk4).sum
theorem frame_ok (J : AH O) (n : Nat) (hn : n <= 300) : shape_Frame [.i .i64 ((n : Int) + 2)] J = some (.i .i64 (frP n), J) := by
 have f0 : (false == false) = true := rfl
 have d1 : decide ((n : Int) + 2 < 0) = false := decide_eq_false (by omega)
 unfold frP
 by_cases c : n <= 254
 ·have d2 : decide ((n : Int) + 2 > 256) = false := decide_eq_false (by omega)
  have e1 : IntKind.i64.wrap (2 + ((n : Int) + 2)) = (n : Int) + 4 := by rw [i64_id (by omega) (by omega)]; omega
  rw [decide_eq_true (show (n : Int) <= 254 by omega)]
  simp -implicitDefEqProofs only [shape_Frame, shape_Frame_c, d1, d2, e1, f0, Nat.reduceAdd, Nat.reduceMul, Nat.reduceLT, Int.reduceToNat, Int.reduceAdd, Int.reduceSub, Int.reduceMul, rsU, s_ldI, s_ldU, s_ldS, s_ldP, s_gtI, s_gtU, s_gtS, s_bleD, Nat.reduceLeDiff, decide_true, decide_false]
 ·have d2 : decide ((n : Int) + 2 > 256) = true := decide_eq_true (by omega)
  rw [decide_eq_false (show ¬ (n : Int) <= 254 by omega)]
  simp -implicitDefEqProofs only [shape_Frame, shape_Frame_c, d1, d2, f0, Nat.reduceAdd, Nat.reduceMul, Nat.reduceLT, Int.reduceToNat, Int.reduceAdd, Int.reduceSub, Int.reduceMul, rsU, s_ldI, s_ldU, s_ldS, s_ldP, s_gtI, s_gtU, s_gtS, s_bleD, Nat.reduceLeDiff, decide_true, decide_false]
end Go.Abs.Try
namespace Go.Abs.Try
open Go Go.Abs
variable {O : Type}
theorem frP_rng (n : Nat) : 0 <= frP n /\ frP n <= 258 := by
 unfold frP
 by_cases c : (n : Int) <= 254
 ·rw [decide_eq_true c]; simp only [cond_true]; omega
 ·rw [decide_eq_false c]; simp only [cond_false]; omega
theorem wk4_rng (w : Int) : 0 <= wk4 w /\ wk4 w <= 4 := by
 unfold wk4
 cases w == 0 <;> simp
theorem needs_ok {J : AH O} {F : FV} {v : AV} {s : Int} (hF : F.At v) (hT : Tried F) : Ok (image_Needs [v, .i .i64 s] J) fun r => r.1 = .i .i64 (needP F s) /\ Ext J r.2 := by
 have hW := fun J => cwords_ok (O := O) (J := J) (s := s) hF hT.n
 obtain ⟨a, b, c, e, h1, h2, h3⟩ := hF.it
 subst e
 have hr := hT.r
 have hw := hT.w
 have hs := sum_rng (f := chN s) (B := 8197) (fun x => chargeP_rng _ _ _) (by decide) F.nodes
 have hn := hT.n
 have hfr := frP_rng F.roots.length
 unfold needP
 generalize (F.nodes.map (chN s)).sum = S at *
 have e2 : IntKind.i64.wrap ((F.roots.length : Int) + 2) = (F.roots.length : Int) + 2 := i64_id (by omega) (by omega)
 simp (maxSteps := 2000000) -implicitDefEqProofs (disch := (first | omega | rfl | assumption | (simp only [rsD]; first | omega | assumption))) only [image_Needs, image_Needs_c, Nat.reduceAdd, Nat.reduceMul, Nat.reduceLT, Int.reduceToNat, Int.reduceAdd, Int.reduceSub, Int.reduceMul, rsU, rsC]
 generalize hJ : (J.bump 1).put J.next _ = J1
 obtain ⟨E1, n1, b1⟩ := box1 hJ
 clear hJ
 refine Ok.step (hW J1) fun q ⟨g1, E2⟩ => ?_
 obtain ⟨q, J2⟩ := q
 simp only at g1 E2
 subst g1
 have b2 := (E2.blk _ (by omega)).trans b1
 have E02 := E1.trans E2
 have ef := frame_ok J2 F.roots.length hr
 have e3 : IntKind.i64.wrap (S + frP F.roots.length) = S + frP F.roots.length := i64_id (by omega) (by omega)
 simp (maxSteps := 2000000) -implicitDefEqProofs (disch := (first | omega | rfl | assumption | (simp only [rsD]; first | omega | assumption))) only [b2, s_chkT, e2, ef, e3, Nat.reduceAdd, Nat.reduceMul, Nat.reduceLT, Int.reduceToNat, Int.reduceAdd, Int.reduceSub, Int.reduceMul, rsU, rsC]
 generalize frP (F.roots.length : Int) = Z at *
 refine Ok.step (Q := fun r => r = ([.i .i64 (S + Z + (F.weak.map wk4).sum)], J2)) ?_ ?_
 ·refine Ok.count F.weak.length (fun k st => st = ([.i .i64 (S + Z + ((F.weak.take k).map wk4).sum), .i .i64 (k : Int)], J2)) ?_ ?_ (by simp)
  ·rintro k _ hk rfl
   have hx := List.getElem?_eq_getElem hk
   obtain ⟨bb, oo, r1, ld⟩ := ints_ref h3 hx
   have ld := ld O J2
   rw [sum_take hk]
   have hs2 := sum_rng (f := wk4) (B := 4) wk4_rng (by decide) (F.weak.take k)
   have hl : (F.weak.take k).length <= 20 := by rw [List.length_take]; omega
   generalize F.weak[k] = x at *
   generalize ((F.weak.take k).map wk4).sum = K at *
   have dk : decide ((k : Int) < (F.weak.length : Int)) = true := decide_eq_true (by omega)
   have d0 : decide ((0 : Int) <= (k : Int)) = true := decide_eq_true (by omega)
   have e4 : IntKind.i64.wrap (S + Z + K + 4) = S + Z + K + 4 := i64_id (by omega) (by omega)
   unfold wk4
   cases c0 : x == 0 with
   | true =>
    simp (maxSteps := 2000000) -implicitDefEqProofs (disch := (first | omega | rfl | assumption | (simp only [rsD]; first | omega | assumption))) only [image_Needs_L1, dk, d0, r1, ld, c0, Int.toNat_natCast, Nat.reduceAdd, Nat.reduceMul, Nat.reduceLT, Int.reduceToNat, Int.reduceAdd, Int.reduceSub, Int.reduceMul, rsU, rsC]
    exact Ok_some.2 (by simp)
   | false =>
    simp (maxSteps := 2000000) -implicitDefEqProofs (disch := (first | omega | rfl | assumption | (simp only [rsD]; first | omega | assumption))) only [image_Needs_L1, dk, d0, r1, ld, c0, e4, Int.toNat_natCast, Nat.reduceAdd, Nat.reduceMul, Nat.reduceLT, Int.reduceToNat, Int.reduceAdd, Int.reduceSub, Int.reduceMul, rsU, rsC]
    refine Ok_some.2 ?_
    rw [show S + Z + (K + 4) = S + Z + K + 4 by omega]; rfl
  ·rintro _ rfl
   rw [List.take_length]
   have dk : decide ((F.weak.length : Int) < (F.weak.length : Int)) = false := decide_eq_false (by omega)
   simp (maxSteps := 2000000) -implicitDefEqProofs (disch := (first | omega | rfl | assumption | (simp only [rsD]; first | omega | assumption))) only [image_Needs_L1, dk, Nat.reduceAdd, Nat.reduceMul, Nat.reduceLT, Int.reduceToNat, Int.reduceAdd, Int.reduceSub, Int.reduceMul, rsU, rsC]
   exact Ok_some.2 rfl
 ·rintro r rfl
  simp (maxSteps := 2000000) -implicitDefEqProofs (disch := (first | omega | rfl | assumption | (simp only [rsD]; first | omega | assumption))) only [Nat.reduceAdd, Nat.reduceMul, Nat.reduceLT, Int.reduceToNat, Int.reduceAdd, Int.reduceSub, Int.reduceMul, rsU, rsC]
  exact Ok_some.2 ⟨rfl, E02⟩
theorem rwk_ok {J0 J2 : AH O} {c : SA} {l : List Int} {el : Nat} {y0 y1 : AV} {T : Int} (hb : J2.blk J0.next = some (.cells true el [y0, y1, .sl c l.length])) (h3 : Ints .i64 c l) (hw : l.length <= 20) (hT : 0 <= T /\ T <= 1000000) :
  Ok (loopF (S := List AV × AH O) (T := List AV × AH O) (haymowref41_Needs_L1 J0) ([.i .i64 T, .i .i64 0], J2)) fun r => r = ([.i .i64 (T + (l.map wk4).sum)], J2) := by
 refine Ok.count l.length (fun k st => st = ([.i .i64 (T + ((l.take k).map wk4).sum), .i .i64 (k : Int)], J2)) ?_ ?_ (by simp)
 ·rintro k _ hk rfl
  have hx := List.getElem?_eq_getElem hk
  obtain ⟨bb, oo, r1, ld⟩ := ints_ref h3 hx
  have ld := ld O J2
  rw [sum_take hk]
  have hs2 := sum_rng (f := wk4) (B := 4) wk4_rng (by decide) (l.take k)
  have hl : (l.take k).length <= 20 := by rw [List.length_take]; omega
  generalize l[k] = x at *
  generalize ((l.take k).map wk4).sum = K at *
  have dk : decide ((k : Int) < (l.length : Int)) = true := decide_eq_true (by omega)
  have d0 : decide ((0 : Int) <= (k : Int)) = true := decide_eq_true (by omega)
  have e4 : IntKind.i64.wrap (T + K + 4) = T + K + 4 := i64_id (by omega) (by omega)
  unfold wk4
  cases c0 : x == 0 with
  | true =>
   simp (maxSteps := 2000000) -implicitDefEqProofs (disch := (first | omega | rfl | assumption | (simp only [rsD]; first | omega | assumption))) only [haymowref41_Needs_L1, hb, dk, d0, r1, ld, c0, Int.toNat_natCast, Nat.reduceAdd, Nat.reduceMul, Nat.reduceLT, Int.reduceToNat, Int.reduceAdd, Int.reduceSub, Int.reduceMul, rsU, rsC]
   exact Ok_some.2 (by simp)
  | false =>
   simp (maxSteps := 2000000) -implicitDefEqProofs (disch := (first | omega | rfl | assumption | (simp only [rsD]; first | omega | assumption))) only [haymowref41_Needs_L1, hb, dk, d0, r1, ld, c0, e4, Int.toNat_natCast, Nat.reduceAdd, Nat.reduceMul, Nat.reduceLT, Int.reduceToNat, Int.reduceAdd, Int.reduceSub, Int.reduceMul, rsU, rsC]
   refine Ok_some.2 ?_
   rw [show T + (K + 4) = T + K + 4 by omega]; rfl
 ·rintro _ rfl
  rw [List.take_length]
  have dk : decide ((l.length : Int) < (l.length : Int)) = false := decide_eq_false (by omega)
  simp (maxSteps := 2000000) -implicitDefEqProofs (disch := (first | omega | rfl | assumption | (simp only [rsD]; first | omega | assumption))) only [haymowref41_Needs_L1, hb, dk, Nat.reduceAdd, Nat.reduceMul, Nat.reduceLT, Int.reduceToNat, Int.reduceAdd, Int.reduceSub, Int.reduceMul, rsU, rsC]
  exact Ok_some.2 rfl
theorem rneeds_ok {J : AH O} {F : FV} {v : AV} {s : Int} (hF : F.At v) (hT : Tried F) : Ok (haymowref41_Needs [v, .i .i64 s] J) fun r => r.1 = .i .i64 (needP F s) /\ Ext J r.2 := by
 have hW := fun J => rwords40_ok (O := O) (J := J) (s := s) hF hT.n
 obtain ⟨a, b, c, e, h1, h2, h3⟩ := hF.it
 subst e
 have hr := hT.r
 have hw := hT.w
 have hs := sum_rng (f := chN s) (B := 8197) (fun x => chargeP_rng _ _ _) (by decide) F.nodes
 have hn := hT.n
 have hfr := frP_rng F.roots.length
 unfold needP
 generalize (F.nodes.map (chN s)).sum = S at *
 simp (maxSteps := 2000000) -implicitDefEqProofs (disch := (first | omega | rfl | assumption | (simp only [rsD]; first | omega | assumption))) only [haymowref41_Needs, haymowref41_Needs_c, Nat.reduceAdd, Nat.reduceMul, Nat.reduceLT, Int.reduceToNat, Int.reduceAdd, Int.reduceSub, Int.reduceMul, rsU, rsC]
 generalize hJ : (J.bump 1).put J.next _ = J1
 obtain ⟨E1, n1, b1⟩ := box1 hJ
 clear hJ
 refine Ok.step (hW J1) fun q ⟨g1, E2⟩ => ?_
 obtain ⟨q, J2⟩ := q
 simp only at g1 E2
 subst g1
 have b2 := (E2.blk _ (by omega)).trans b1
 have E02 := E1.trans E2
 by_cases cr : (F.roots.length : Int) <= 254
 ·have d : decide ((F.roots.length : Int) <= 254) = true := decide_eq_true cr
  have e1 : IntKind.i64.wrap (S + (F.roots.length : Int)) = S + (F.roots.length : Int) := i64_id (by omega) (by omega)
  have e2 : IntKind.i64.wrap (S + (F.roots.length : Int) + 4) = S + frP F.roots.length := by
   rw [i64_id (by omega) (by omega)]; unfold frP; rw [d]; simp only [cond_true]; omega
  simp (maxSteps := 2000000) -implicitDefEqProofs (disch := (first | omega | rfl | assumption | (simp only [rsD]; first | omega | assumption))) only [b2, d, e1, e2, Nat.reduceAdd, Nat.reduceMul, Nat.reduceLT, Int.reduceToNat, Int.reduceAdd, Int.reduceSub, Int.reduceMul, rsU, rsC]
  refine Ok.step (rwk_ok b2 h3 hw ⟨by omega, by omega⟩) fun r e => ?_
  subst e
  simp (maxSteps := 2000000) -implicitDefEqProofs (disch := (first | omega | rfl | assumption | (simp only [rsD]; first | omega | assumption))) only [Nat.reduceAdd, Nat.reduceMul, Nat.reduceLT, Int.reduceToNat, Int.reduceAdd, Int.reduceSub, Int.reduceMul, rsU, rsC]
  exact Ok_some.2 ⟨rfl, E02⟩
 ·have d : decide ((F.roots.length : Int) <= 254) = false := decide_eq_false cr
  have e2 : S + frP F.roots.length = S := by unfold frP; rw [d]; simp only [cond_false]; omega
  rw [e2]
  simp (maxSteps := 2000000) -implicitDefEqProofs (disch := (first | omega | rfl | assumption | (simp only [rsD]; first | omega | assumption))) only [b2, d, Nat.reduceAdd, Nat.reduceMul, Nat.reduceLT, Int.reduceToNat, Int.reduceAdd, Int.reduceSub, Int.reduceMul, rsU, rsC]
  refine Ok.step (rwk_ok b2 h3 hw ⟨by omega, by omega⟩) fun r e => ?_
  subst e
  simp (maxSteps := 2000000) -implicitDefEqProofs (disch := (first | omega | rfl | assumption | (simp only [rsD]; first | omega | assumption))) only [Nat.reduceAdd, Nat.reduceMul, Nat.reduceLT, Int.reduceToNat, Int.reduceAdd, Int.reduceSub, Int.reduceMul, rsU, rsC]
  exact Ok_some.2 ⟨rfl, E02⟩
theorem get_put {F : FV} (h : rightP F = true) (hr : F.rng) (hf : F.few) : getI (putW F) = (F, 0) := by
 have hW := words_rng h hr hf
 have e : putW F = sealed (encs (wordsW pck F)) := by unfold putW; rw [h]; rfl
 rw [e]
 have hl := sealed_len (encs (wordsW pck F))
 have ht := sealed_take (encs (wordsW pck F))
 have hO : openF (sealed (encs (wordsW pck F))) = (encs (wordsW pck F), 0) := by
  unfold openF
  rw [if_neg (by omega), hl, Nat.add_sub_cancel, ht, if_pos rfl]
 unfold getI
 rw [hO]
 simp only
 rw [splitF_encs _ _ hW (Nat.le_refl _)]
 simp only
 have := formW_words h (by have := hf.n; omega)
 unfold getW
 show (bif (0 : Int) == 0 then (bif (0 : Int) == 0 then _ else _) else _) = _
 rw [this]; rfl
theorem tried_words {F : FV} (hT : Tried F) : (wordsW pck F).length <= 9000 := by
 have e : (wordsW pck F).length = 1 + ((F.nodes.flatMap (nodeW pck)).length + ((F.roots.length + 1) + (F.weak.length + 1))) := by
  unfold wordsW listW
  simp; omega
 have key : ∀ l : List NV, (∀ x ∈ l, x.P.length <= 20 /\ x.R.length <= 20) -> (l.flatMap (nodeW pck)).length <= 41 * l.length := by
  intro l
  induction l with
  | nil => simp
  | cons y l ih =>
   intro h
   have h1 := h y List.mem_cons_self
   have h2 := ih fun x hx => h x (List.mem_cons_of_mem _ hx)
   have h3 : (nodeW pck y).length = 1 + y.P.length + y.R.length := by unfold nodeW; simp; omega
   rw [List.flatMap_cons, List.length_append, List.length_cons]
   omega
 have h1 := key F.nodes hT.x
 have h2 := hT.n
 have h3 := hT.r
 have h4 := hT.w
 omega
theorem tried_few {F : FV} (hT : Tried F) : F.few := few_words (tried_words hT) (by omega)
end Go.Abs.Try
set_option linter.unusedSectionVars false
set_option maxRecDepth 100000
namespace Go.Abs.Try
open Go Go.Abs
variable {O : Type}
theorem _root_.Go.Abs.BldO.push {α : Type} {base : Nat} {J J3 : AH O} {el k : Nat} {row : α -> List TV} {a : SA} {l : List α} {x : α} {new : List AV} {nid : Nat} (h : BldO base J el k row a l) (hb : base <= J.next) (hn : J.next <= J3.next) (hf : ∀ b, base <= b -> b < J.next -> J3.blk b = J.blk b) (hi : ImL (row x) new) (h1 : J.next <= nid) (h2 : nid < J3.next) :
  Ok (J3.appSl nid el k a l.length 1 new) fun r => ∃ a', r.1 = .sl a' (l.length + 1) /\ BldO base r.2 el k row a' (l ++ [x]) /\ r.2.next = J3.next /\ ∀ b, b < base -> r.2.blk b = J3.blk b := by
 refine (h.app' (m := [x]) hb hn hf ⟨[], OwL.im (by simpa using hi), by simp⟩ h1 h2).mono ?_
 rintro ⟨z, J4⟩ ⟨a', g1, g2, g3, g4, g5⟩
 exact ⟨a', g1, g2, g3, fun b hb' => g4 b (by omega) fun hm => by have := (h.bk b hm).1; omega⟩
theorem lref_ok {J : AH O} {F : FV} {v : AV} (hF : F.At v) (fF : F.few) : Ok (law40_Ref [v] J) fun r => F.At r.1 /\ Ext J r.2 := by
 have fin : Ok (law40_Ref [v] J) fun r => (∃ vs, r.1 = .agg vs /\ ImL (F.rowE T_haymowref40_Node) vs) /\ Ext J r.2 := by
  refine frz_agg (F.deepE (d := 4)) ?_
  obtain ⟨a, b, c, rfl, iN, iR, iW⟩ := hF.it
  have fn := fF.n
  simp (maxSteps := 2000000) -implicitDefEqProofs (disch := (first | omega | rfl | assumption | (simp only [rsD]; first | omega | assumption))) only [law40_Ref_c, Nat.reduceAdd, Nat.reduceMul, Nat.reduceLT, Int.reduceToNat, Int.reduceAdd, Int.reduceSub, Int.reduceMul, rsU, rsC]
  generalize hs : AH.put _ (J.next + 2) _ = s1
  have n1 : s1.next = J.next + 3 := by rw [<- hs]; rfl
  have x0 : s1.blk J.next = some (.cells true T_canon_Form [.sl a F.nodes.length, .sl b F.roots.length, .sl c F.weak.length]) := by rw [<- hs]; ((try simp only [rsD] at *); simp -implicitDefEqProofs (disch := (first | omega | rfl | assumption | (simp only [rsD]; first | omega | assumption))) only [s_bs, s_bn, s_kn, bump_blk])
  have x1 : s1.blk (J.next + 1) = some (.cells true T_haymowref40_Form [.sl .nil 0, .sl .nil 0, .sl .nil 0]) := by rw [<- hs]; ((try simp only [rsD] at *); simp -implicitDefEqProofs (disch := (first | omega | rfl | assumption | (simp only [rsD]; first | omega | assumption))) only [s_bs, s_bn, s_kn, bump_blk])
  have x2 : s1.blk (J.next + 2) = some (.cells true T_haymowref40_Form [.sl .nil 0, .sl b F.roots.length, .sl c F.weak.length]) := by rw [<- hs]; ((try simp only [rsD] at *); simp -implicitDefEqProofs (disch := (first | omega | rfl | assumption | (simp only [rsD]; first | omega | assumption))) only [s_bs, s_bn, s_kn, bump_blk])
  have lo : ∀ y, y < J.next -> s1.blk y = J.blk y := fun y hy => by rw [<- hs]; ((try simp only [rsD] at *); simp -implicitDefEqProofs (disch := (first | omega | rfl | assumption | (simp only [rsD]; first | omega | assumption))) only [s_bs, s_bn, s_kn, bump_blk])
  clear hs
  generalize hs6 : AH.put (AH.put (AH.bump J 2) _ _) _ _ = s6
  have n6 : s6.next = J.next + 2 := by rw [<- hs6]; rfl
  refine Ok.step (Q := fun r => ∃ e J', r = ([], J') /\ BldO (J.next + 3) J' T_haymowref40_Node 7 NV.row e F.nodes /\ J.next + 3 <= J'.next /\ (∀ y, y < J.next + 2 -> J'.blk y = s1.blk y) /\ J'.blk (J.next + 2) = some (.cells true T_haymowref40_Form [.sl e F.nodes.length, .sl b F.roots.length, .sl c F.weak.length])) ?_ ?_
  ·refine Ok.count F.nodes.length (fun k st => ∃ e J', st = ([.i .i64 (k : Int)], J') /\ BldO (J.next + 3) J' T_haymowref40_Node 7 NV.row e (F.nodes.take k) /\ J.next + 3 <= J'.next /\ (∀ y, y < J.next + 2 -> J'.blk y = s1.blk y) /\ J'.blk (J.next + 2) = some (.cells true T_haymowref40_Form [.sl e k, .sl b F.roots.length, .sl c F.weak.length])) ?_ ?_
    ⟨.nil, s1, rfl, BldO.nil _ _ _ NV.len, by omega, fun _ _ => rfl, x2⟩
   ·rintro k st hk ⟨e, J', rfl, B, hn, ho, hx⟩
    obtain ⟨x, hx0⟩ : ∃ x, F.nodes[k]? = some x := ⟨_, List.getElem?_eq_getElem hk⟩
    obtain ⟨u, o, p, q, rfl, hp, hq, l1⟩ := iN.node hx0
    have y0 := (ho J.next (by omega)).trans x0
    have tk : (F.nodes.take k).length = k := by simp; omega
    have tk1 : F.nodes.take (k + 1) = F.nodes.take k ++ [x] := by rw [List.take_add_one, hx0]; rfl
    simp (maxSteps := 2000000) -implicitDefEqProofs (disch := (first | omega | rfl | assumption | (simp only [rsD]; first | omega | assumption))) only [law40_Ref_L1, n6, y0, hx, l1, Nat.reduceAdd, Nat.reduceMul, Nat.reduceLT, Int.reduceToNat, Int.reduceAdd, Int.reduceSub, Int.reduceMul, rsU, rsC]
    have pu := B.push (J3 := (J'.bump 2).put J'.next (.cells true T_haymowref40_Node [.i .i64 x.h.p, .i .i64 x.h.r, .i .i64 x.h.site, .i .i64 x.h.age, .b x.h.large, .sl p x.P.length, .sl q x.R.length])) (x := x) (nid := J'.next + 1) (by omega) (by simp) (fun y h1 h2 => by ((try simp only [rsD] at *); simp -implicitDefEqProofs (disch := (first | omega | rfl | assumption | (simp only [rsD]; first | omega | assumption))) only [s_bs, s_bn, s_kn, bump_blk])) (NV.im7 hp hq) (by omega) (by simp)
    rw [tk, <- tk1] at pu
    refine Ok.step pu fun r ⟨e', g1, g2, g3, g4⟩ => ?_
    obtain ⟨z, J2⟩ := r
    simp only at g1 g2 g3 g4
    subst g1
    simp only [rsD] at g3
    have hx2 : J2.blk (J.next + 2) = some (.cells true T_haymowref40_Form [.sl e k, .sl b F.roots.length, .sl c F.weak.length]) := by rw [g4 _ (by omega)]; ((try simp only [rsD] at *); simp -implicitDefEqProofs (disch := (first | omega | rfl | assumption | (simp only [rsD]; first | omega | assumption))) only [s_bs, s_bn, s_kn, bump_blk]); exact hx
    simp (maxSteps := 2000000) -implicitDefEqProofs (disch := (first | omega | rfl | assumption | (simp only [rsD]; first | omega | assumption))) only [hx2, Nat.reduceAdd, Nat.reduceMul, Nat.reduceLT, Int.reduceToNat, Int.reduceAdd, Int.reduceSub, Int.reduceMul, rsU, rsC]
    refine Ok_some.2 ⟨e', _, rfl, g2.keep (by simp) (fun y h1 h2 => by ((try simp only [rsD] at *); simp -implicitDefEqProofs (disch := (first | omega | rfl | assumption | (simp only [rsD]; first | omega | assumption))) only [s_bs, s_bn, s_kn, bump_blk])), by simp; omega, fun y hy => ?_, s_bs⟩
    rw [s_bn (by omega), g4 _ (by omega), s_bn (by omega)]
    exact ho y hy
   ·rintro st ⟨e, J', rfl, B, hn, ho, hx⟩
    have y0 := (ho J.next (by omega)).trans x0
    simp (maxSteps := 2000000) -implicitDefEqProofs (disch := (first | omega | rfl | assumption | (simp only [rsD]; first | omega | assumption))) only [law40_Ref_L1, y0, Nat.reduceAdd, Nat.reduceMul, Nat.reduceLT, Int.reduceToNat, Int.reduceAdd, Int.reduceSub, Int.reduceMul, rsU, rsC]
    rw [List.take_length] at B
    exact Ok_some.2 ⟨e, J', rfl, B, hn, ho, hx⟩
  rintro _ ⟨e, J', rfl, B, hn, ho, hx⟩
  have y1 := (ho (J.next + 1) (by omega)).trans x1
  simp (maxSteps := 2000000) -implicitDefEqProofs (disch := (first | omega | rfl | assumption | (simp only [rsD]; first | omega | assumption))) only [n6, hx, y1, Nat.reduceAdd, Nat.reduceMul, Nat.reduceLT, Int.reduceToNat, Int.reduceAdd, Int.reduceSub, Int.reduceMul, rsU, rsC]
  have B2 := B.keep (J' := J'.put (J.next + 1) (.cells true T_haymowref40_Form [.sl e F.nodes.length, .sl b F.roots.length, .sl c F.weak.length])) (Nat.le_refl _) fun y h1 h2 => s_bn (by omega)
  refine Ok_some.2 ⟨_, rfl, (B2.out (J0 := J) ⟨by simp; omega, fun y hy => ?_⟩ (by omega)).app (New.im (.cons (ints_mk iR) (.cons (ints_mk iW) .nil)) (Ext.refl _))⟩
  rw [s_bn (by omega), ho y (by omega)]; exact lo y hy
 refine fin.mono ?_
 rintro ⟨z, J'⟩ ⟨⟨vs, h1, h2⟩, h3⟩
 simp only at h1
 subst h1
 exact ⟨FV.rowE_at h2, h3⟩
end Go.Abs.Try
namespace Go.Abs.Try
open Go Go.Abs
variable {O : Type}
theorem putW_bytes (F : FV) : Bytes (putW F) := by
 unfold putW
 cases rightP F with
 | true => exact sealed_bytes (encs_bytes _)
 | false => intro x hx; cases hx
theorem putW_len {F : FV} (hT : Tried F) (hr : F.rng) : (putW F).length <= 90008 := by
 unfold putW
 cases h : rightP F with
 | true =>
  simp only [cond_true]
  rw [sealed_len]
  have := (encs_len (words_rng h hr (tried_few hT))).2
  have := tried_words hT
  omega
 | false => simp
theorem imageBytes_ok {F : FV} {v : AV} {s : Int} (hF : F.At v) (hr : F.rng) : Ok (law41_ImageBytes (O := O) [v, .i .i64 s] startH) fun r => r.1 = .b true := by
 have f0 : (false == false) = true := rfl
 have f1 : (true == false) = false := rfl
 have t1 : (true == true) = true := rfl
 have hFv := hF
 obtain ⟨a, b, c, e, h1, h2, h3⟩ := hF.it
 subst e
 generalize (startH : AH O) = J
 simp (maxSteps := 2000000) -implicitDefEqProofs (disch := (first | omega | rfl | assumption | (simp only [rsD]; first | omega | assumption))) only [law41_ImageBytes, law41_ImageBytes_c, Nat.reduceAdd, Nat.reduceMul, Nat.reduceLT, Int.reduceToNat, Int.reduceAdd, Int.reduceSub, Int.reduceMul, rsU, rsC]
 generalize hJ : (J.bump 1).put J.next _ = J1
 obtain ⟨E1, n1, b1⟩ := box1 hJ
 clear hJ
 refine Ok.step (awake_ok J1) fun q ⟨g1, E2⟩ => ?_
 obtain ⟨q, J2⟩ := q
 simp only at g1 E2
 subst g1
 have n2 := E2.next
 have b2 := (E2.blk _ (by omega)).trans b1
 simp (maxSteps := 2000000) -implicitDefEqProofs (disch := (first | omega | rfl | assumption | (simp only [rsD]; first | omega | assumption))) only [b2, Nat.reduceAdd, Nat.reduceMul, Nat.reduceLT, Int.reduceToNat, Int.reduceAdd, Int.reduceSub, Int.reduceMul, rsU, rsC]
 refine Ok.step (few41_ok hFv) fun q ⟨g1, E3⟩ => ?_
 obtain ⟨q, J3⟩ := q
 simp only at g1 E3
 have n3 := E3.next
 have b3 := (E3.blk _ (by omega)).trans b2
 rcases g1 with rfl | ⟨rfl, hT⟩
 ·simp (maxSteps := 2000000) -implicitDefEqProofs (disch := (first | omega | rfl | assumption | (simp only [rsD]; first | omega | assumption))) only [Nat.reduceAdd, Nat.reduceMul, Nat.reduceLT, Int.reduceToNat, Int.reduceAdd, Int.reduceSub, Int.reduceMul, rsU, rsC]
  exact Ok_some.2 rfl
 have fF := tried_few hT
 simp (maxSteps := 2000000) -implicitDefEqProofs (disch := (first | omega | rfl | assumption | (simp only [rsD]; first | omega | assumption))) only [b3, Nat.reduceAdd, Nat.reduceMul, Nat.reduceLT, Int.reduceToNat, Int.reduceAdd, Int.reduceSub, Int.reduceMul, rsU, rsC]
 refine Ok.step (lref_ok (J := J3.bump 1) hFv fF) fun q ⟨hw, E4⟩ => ?_
 obtain ⟨w, J4⟩ := q
 simp only at hw E4
 have n4 := E4.next
 simp only [bump_next] at n4
 have hww := hw
 obtain ⟨ya, yb, yc, rfl, _, _, _⟩ := hww.it
 have b4 := (E4.blk J.next (by simp only [bump_next]; omega)).trans b3
 simp (maxSteps := 2000000) -implicitDefEqProofs (disch := (first | omega | rfl | assumption | (simp only [rsD]; first | omega | assumption))) only [b4, Nat.reduceAdd, Nat.reduceMul, Nat.reduceLT, Int.reduceToNat, Int.reduceAdd, Int.reduceSub, Int.reduceMul, rsU, rsC]
 generalize hJ : J4.put J3.next _ = J5
 have n5 : J5.next = J4.next := by rw [<- hJ]; rfl
 have w5 : J5.blk J3.next = some (.cells true 33 [.sl ya F.nodes.length, .sl yb F.roots.length, .sl yc F.weak.length]) := by rw [<- hJ]; exact s_bs
 have b5 : J5.blk J.next = some (.cells true 27 [.sl a F.nodes.length, .sl b F.roots.length, .sl c F.weak.length]) := by rw [<- hJ]; exact (s_bn (by omega)).trans b4
 clear hJ
 refine Ok.step (put_form_ok (J := J5) hFv fF hr (by have := tried_words hT; omega)) fun q ⟨⟨ap, g1, ip⟩, E6⟩ => ?_
 obtain ⟨q, J6⟩ := q
 simp only at g1 E6
 subst g1
 have n6 := E6.next
 have b6 := (E6.blk J.next (by omega)).trans b5
 have w6 := (E6.blk J3.next (by omega)).trans w5
 simp (maxSteps := 2000000) -implicitDefEqProofs (disch := (first | omega | rfl | assumption | (simp only [rsD]; first | omega | assumption))) only [b6, w6, Nat.reduceAdd, Nat.reduceMul, Nat.reduceLT, Int.reduceToNat, Int.reduceAdd, Int.reduceSub, Int.reduceMul, rsU, rsC]
 refine Ok.step (needs_ok (J := J6) (s := s) hFv hT) fun q ⟨g1, E7⟩ => ?_
 obtain ⟨q, J7⟩ := q
 simp only at g1 E7
 subst g1
 have n7 := E7.next
 have w7 := (E7.blk J3.next (by omega)).trans w6
 simp (maxSteps := 2000000) -implicitDefEqProofs (disch := (first | omega | rfl | assumption | (simp only [rsD]; first | omega | assumption))) only [w7, s_chkT, Nat.reduceAdd, Nat.reduceMul, Nat.reduceLT, Int.reduceToNat, Int.reduceAdd, Int.reduceSub, Int.reduceMul, rsU, rsC]
 refine Ok.step (rneeds_ok (J := J7) (s := s) hw hT) fun q ⟨g1, E8⟩ => ?_
 obtain ⟨q, J8⟩ := q
 simp only at g1 E8
 subst g1
 have n8 := E8.next
 have w8 := (E8.blk J3.next (by omega)).trans w7
 have q0 : (needP F s == needP F s) = true := beq_self_eq_true _
 simp (maxSteps := 2000000) -implicitDefEqProofs (disch := (first | omega | rfl | assumption | (simp only [rsD]; first | omega | assumption))) only [q0, w8, Nat.reduceAdd, Nat.reduceMul, Nat.reduceLT, Int.reduceToNat, Int.reduceAdd, Int.reduceSub, Int.reduceMul, rsU, rsC]
 refine Ok.step (rright_ok (FRd.im hw J8) fF) fun q ⟨g1, E9⟩ => ?_
 obtain ⟨q, J9⟩ := q
 simp only at g1 E9
 subst g1
 have n9 := E9.next
 have w9 := (E9.blk J3.next (by omega)).trans w8
 cases hR : rightP F with
 | false =>
  have hp : putW F = [] := by unfold putW; rw [hR]; rfl
  have d0 : (((putW F).length : Int) == 0) = true := by rw [hp]; rfl
  simp (maxSteps := 2000000) -implicitDefEqProofs (disch := (first | omega | rfl | assumption | (simp only [rsD]; first | omega | assumption))) only [d0, Nat.reduceAdd, Nat.reduceMul, Nat.reduceLT, Int.reduceToNat, Int.reduceAdd, Int.reduceSub, Int.reduceMul, rsU, rsC]
  exact Ok_some.2 rfl
 | true =>
 have hg := get_put hR hr fF
 obtain ⟨rp, op⟩ := imm_lt (J := J9.bump 1) ip
 have hpl := putW_len hT hr
 simp (maxSteps := 2000000) -implicitDefEqProofs (disch := (first | omega | rfl | assumption | (simp only [rsD]; first | omega | assumption))) only [Nat.reduceAdd, Nat.reduceMul, Nat.reduceLT, Int.reduceToNat, Int.reduceAdd, Int.reduceSub, Int.reduceMul, rsU, rsC]
 refine Ok.step (get_form_ok rp op (putW_bytes F) (by omega)) fun q ⟨⟨g, g1, hgv⟩, E10⟩ => ?_
 obtain ⟨q, JA⟩ := q
 simp only at g1 E10
 rw [hg] at g1 hgv
 subst g1
 have nA := E10.next
 simp only [bump_next] at nA
 have hgg := hgv
 obtain ⟨za, zb, zc, rfl, _, _, _⟩ := hgg.it
 have wA := (E10.blk J3.next (by simp only [bump_next]; omega)).trans w9
 have rB : ∀ {x : Blk O}, (JA.put J9.next x).rdSl ap (putW F).length 1 = some ((putW F).map (AV.i .u8)) := fun {x} => (ip O _).rdSl
 simp (maxSteps := 2000000) -implicitDefEqProofs (disch := (first | omega | rfl | assumption | (simp only [rsD]; first | omega | assumption))) only [rB, asBytes_ok, wA, Nat.reduceAdd, Nat.reduceMul, Nat.reduceLT, Int.reduceToNat, Int.reduceAdd, Int.reduceSub, Int.reduceMul, rsU, rsC]
 generalize hJ : JA.put J9.next _ = JB
 have nB : JB.next = JA.next := by rw [<- hJ]; rfl
 have wB : JB.blk J3.next = some (.cells true 33 [.sl ya F.nodes.length, .sl yb F.roots.length, .sl yc F.weak.length]) := by rw [<- hJ]; exact (s_bn (by omega)).trans wA
 have gB : JB.blk J9.next = some (.cells true 27 [.sl za F.nodes.length, .sl zb F.roots.length, .sl zc F.weak.length]) := by rw [<- hJ]; exact s_bs
 clear hJ
 refine Ok.step (rput_ok (J := JB) hw fF hr hR (tried_words hT)) fun q ⟨⟨aq, g1, iq⟩, E11⟩ => ?_
 obtain ⟨q, JC⟩ := q
 simp only at g1 E11
 subst g1
 have wC := (E11.blk J3.next (by omega)).trans wB
 have gC := (E11.blk J9.next (by omega)).trans gB
 have rC : JC.rdSl ap (putW F).length 1 = some ((putW F).map (AV.i .u8)) := (ip O _).rdSl
 have rD : JC.rdSl aq (putW F).length 1 = some ((putW F).map (AV.i .u8)) := (iq O _).rdSl
 have hq : (u8s (putW F) == u8s (putW F)) = true := beq_self_eq_true _
 simp (maxSteps := 2000000) -implicitDefEqProofs (disch := (first | omega | rfl | assumption | (simp only [rsD]; first | omega | assumption))) only [rC, rD, asBytes_ok, hq, t1, wC, gC, Nat.reduceAdd, Nat.reduceMul, Nat.reduceLT, Int.reduceToNat, Int.reduceAdd, Int.reduceSub, Int.reduceMul, rsU, rsC]
 refine Ok.step (is_ok hgv hw fF fF) fun q ⟨g5, E12⟩ => ?_
 obtain ⟨q, JD⟩ := q
 simp only at g5 E12
 rw [decide_eq_true trivial] at g5
 subst g5
 simp (maxSteps := 2000000) -implicitDefEqProofs (disch := (first | omega | rfl | assumption | (simp only [rsD]; first | omega | assumption))) only [Nat.reduceAdd, Nat.reduceMul, Nat.reduceLT, Int.reduceToNat, Int.reduceAdd, Int.reduceSub, Int.reduceMul, rsU, rsC]
 exact Ok_some.2 rfl
end Go.Abs.Try
namespace Go.Abs
open Go
variable {P : Program}
def R64 (n : Int) : Prop := -9223372036854775808 <= n /\ n <= 9223372036854775807
def U64 (n : Int) : Prop := 0 <= n /\ n < 18446744073709551616
structure HV.rngA (h : HV) : Prop where
 p : R64 h.p
 r : R64 h.r
 site : R64 h.site
 age : R64 h.age
structure NV.rngA (x : NV) : Prop where
 h : x.h.rngA
 P : ∀ z ∈ x.P, R64 z
 R : ∀ z ∈ x.R, U64 z
structure FV.rngA (F : FV) : Prop where
 n : ∀ x ∈ F.nodes, x.rngA
 r : ∀ z ∈ F.roots, R64 z
 w : ∀ z ∈ F.weak, R64 z
theorem r64_of {n : Int} (h : IntKind.i64.min <= n /\ n <= IntKind.i64.max) : R64 n := h
theorem u64_of {n : Int} (h : IntKind.u64.min <= n /\ n <= IntKind.u64.max) : U64 n := ⟨h.1, Int.lt_add_one_of_le h.2⟩
theorem ClsF {d : Nat} {t : TypeId} {fs : Array Field} {cs : List AV} (hu : P.underlying t = some (.struct fs)) (h : Cls P (d + 1) t cs) :
  ∃ parts : List (List AV), cs = parts.flatten /\ parts.length = fs.toList.length /\ ∀ (i : Nat) (f : Field) (part : List AV), fs.toList[i]? = some f -> parts[i]? = some part -> Cls P d f.type part := by
 unfold Cls at h; rw [hu] at h; exact h
end Go.Abs
namespace Go.Abs.Try
open Go Go.Abs Go.Proofs
theorem shape_in {d : Nat} {cs : List AV} (h : Cls Try.prog (d + 2) 51 cs) : ∃ p r, cs = [.i .i64 p, .i .i64 r] /\ R64 p /\ R64 r := by
 obtain ⟨parts, rfl, hl, hp⟩ := ClsF Try.underlying51 h
 match parts, hl, hp with
 | [p0, p1], _, hp =>
  obtain ⟨a, rfl, ha⟩ := ClsI (k := .i64) Try.underlying3 (hp 0 _ p0 rfl rfl)
  obtain ⟨b, rfl, hb⟩ := ClsI (k := .i64) Try.underlying3 (hp 1 _ p1 rfl rfl)
  exact ⟨a, b, rfl, ha, hb⟩
theorem header_in {d : Nat} {cs : List AV} (h : Cls Try.prog (d + 3) 53 cs) : ∃ x : HV, cs = x.cs /\ x.rngA := by
 obtain ⟨parts, rfl, hl, hp⟩ := ClsF Try.underlying53 h
 match parts, hl, hp with
 | [p0, p1, p2, p3], _, hp =>
  obtain ⟨p, r, rfl, ip, ir⟩ := shape_in (d := d) (hp 0 _ p0 rfl rfl)
  obtain ⟨a, rfl, ha⟩ := ClsI (k := .i64) Try.underlying3 (hp 1 _ p1 rfl rfl)
  obtain ⟨b, rfl, hb⟩ := ClsI (k := .i64) Try.underlying3 (hp 2 _ p2 rfl rfl)
  obtain ⟨c, rfl⟩ := ClsB Try.underlying4 (hp 3 _ p3 rfl rfl)
  exact ⟨⟨p, r, a, b, c⟩, rfl, ip, ir, ha, hb⟩
theorem node_in {d : Nat} {cs : List AV} (h : Cls Try.prog (d + 4) 89 cs) : ∃ (x : NV) (a b : SA), cs = x.cells a b /\ Ints .i64 a x.P /\ Ints .u64 b x.R /\ x.rngA := by
 obtain ⟨parts, rfl, hl, hp⟩ := ClsF Try.underlying89 h
 match parts, hl, hp with
 | [p0, p1, p2], _, hp =>
  obtain ⟨hv, rfl, ih⟩ := header_in (d := d) (hp 0 _ p0 rfl rfl)
  obtain ⟨a, P, rfl, _, ia, ha⟩ := ClsIs (d := d + 2) (k := .i64) Try.underlying25 Try.underlying3 (by kernel_rfl) (hp 1 _ p1 rfl rfl)
  obtain ⟨b, R, rfl, _, ib, hb⟩ := ClsIs (d := d + 2) (k := .u64) Try.underlying74 Try.underlying54 (by kernel_rfl) (hp 2 _ p2 rfl rfl)
  exact ⟨⟨hv, P, R⟩, a, b, rfl, Ints.mk ia, Ints.mk ib, ih, fun z hz => r64_of (ha z hz), fun z hz => u64_of (hb z hz)⟩
theorem nodes_in {d : Nat} : ∀ {els : List (List AV)}, (∀ el ∈ els, Cls Try.prog (d + 4) 89 el) -> ∃ l : List NV, l.length = els.length /\ ImL (l.flatMap NV.row) els.flatten /\ ∀ x ∈ l, x.rngA
 | [], _ => ⟨[], rfl, .nil, by simp⟩
 | e :: els, h => by
  obtain ⟨x, a, b, rfl, ia, ib, hx⟩ := node_in (h e List.mem_cons_self)
  obtain ⟨l, h1, h2, h3⟩ := nodes_in (d := d) (els := els) fun y hy => h y (List.mem_cons_of_mem _ hy)
  refine ⟨x :: l, by simp [h1], ?_, fun y hy => ?_⟩
  ·rw [List.flatMap_cons, List.flatten_cons]; exact (NV.mk_ ia ib).app h2
  ·rcases List.mem_cons.1 hy with rfl | hy
   ·exact hx
   ·exact h3 y hy
theorem form_in {x : AV} (h : ArgIs Try.prog 27 x) : ∃ F : FV, F.At x /\ F.rngA := by
 obtain ⟨cs, rfl, hc⟩ := argSt Try.underlying27 h
 obtain ⟨parts, rfl, hl, hp⟩ := ClsF (d := 11) Try.underlying27 hc
 match parts, hl, hp with
 | [p0, p1, p2], _, hp =>
  have c7 : Try.prog.cellsOf 89 = 7 := by kernel_rfl
  obtain ⟨a, els, rfl, _, ia, ha⟩ := ClsSl (d := 10) Try.underlying24 (hp 0 _ p0 rfl rfl) (fun el hel => by obtain ⟨x, a, b, rfl, _⟩ := node_in (d := 6) hel; rw [c7]; rfl)
  obtain ⟨b, R, rfl, _, ib, hb⟩ := ClsIs (d := 10) (k := .i64) Try.underlying25 Try.underlying3 (by kernel_rfl) (hp 1 _ p1 rfl rfl)
  obtain ⟨c, W, rfl, _, ic, hc⟩ := ClsIs (d := 10) (k := .i64) Try.underlying25 Try.underlying3 (by kernel_rfl) (hp 2 _ p2 rfl rfl)
  obtain ⟨N, h1, h2, h3⟩ := nodes_in (d := 6) ha
  rw [c7, <- h1] at ia
  refine ⟨⟨N, R, W⟩, ⟨a, b, c, ?_, ⟨fun _ => rfl, _, ia, h2⟩, Ints.mk ib, Ints.mk ic⟩, h3, fun z hz => r64_of (hb z hz), fun z hz => r64_of (hc z hz)⟩
  show AV.agg [_, _, _] = _
  rw [<- h1]
theorem form_rng {F : FV} (h : F.rngA) : F.rng := fun x hx w hw => (h.n x hx).R w hw
end Go.Abs.Try
