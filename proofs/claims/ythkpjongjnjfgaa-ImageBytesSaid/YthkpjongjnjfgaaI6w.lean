/-
  What varint and crc compute. No conditions.
-/
import Derived.Test.YthkpjongjnjfgaaI4
import Derived.Test.YthkpjongjnjfgaaI5
import Derived.Test.YthkpjongjnjfgaaS8i
set_option linter.unusedVariables false
set_option linter.unusedSimpArgs false
set_option linter.constructorNameAsVariable false
set_option linter.unusedSimpArgs false
set_option linter.unusedVariables false
set_option maxHeartbeats 2000000
namespace Go.Abs.Try
open Go Go.Abs
variable {O : Type}
def Old (J : AH O) (a : SA) : Prop := ∀ b ∈ SA.bk a, b < J.next
theorem put_ok {w : Int} {J : AH O} {a : SA} {n : Nat} {cs : List AV} (hr : Rd J 1 a n cs) (ho : Old J a) (h : 0 <= w) (h' : w < 18446744073709551616) (hn : n <= 1000000000) :
  Ok (varint_Put [.sl a n, .i .u64 w] J) fun r => ∃ a', r.1 = .sl a' (n + (enc w.toNat).length) /\ OwnS r.2 5 1 a' (n + (enc w.toNat).length) (cs ++ (enc w.toNat).map (AV.i .u8)) /\ Ext J r.2 /\ ∀ b ∈ SA.bk a', J.next <= b := by
 have r0 : ((J.bump 2).put J.next (.cells true 5 [])).rdSl a n 1 = some cs := (hr.of fun b hb => by have := ho b hb; exact s_bn (by omega)).rdSl
 have hl : cs.length = n := by have := hr.len; omega
 have h10 := enc_len10 (w := w.toNat) (by omega)
 simp (maxSteps := 2000000) -implicitDefEqProofs (disch := (first | omega | rfl | assumption | (simp only [rsD]; first | omega | assumption))) only [varint_Put, varint_Put_c, r0, Nat.reduceAdd, Nat.reduceMul, Nat.reduceLT, Int.reduceToNat, Int.reduceAdd, Int.reduceSub, Int.reduceMul, rsU, rsC]
 refine Ok.step (cpyN_ok hl) fun q ⟨a1, m1, m2, m3, m4⟩ => ?_
 obtain ⟨q, J1⟩ := q
 simp only at m1 m2 m3 m4
 subst m1
 simp (maxSteps := 2000000) -implicitDefEqProofs (disch := (first | omega | rfl | assumption | (simp only [rsD]; first | omega | assumption))) only [Nat.reduceAdd, Nat.reduceMul, Nat.reduceLT, Int.reduceToNat, Int.reduceAdd, Int.reduceSub, Int.reduceMul, rsU, rsC]
 refine Ok.step (Q := fun r => ∃ (k : Int) (a2 : SA) (cs2 : List Int), r.1 = [.i .u64 k, .sl a2 (n + cs2.length)] /\ 0 <= k /\ k < 128 /\ OwnS r.2 5 1 a2 (n + cs2.length) (cs ++ cs2.map (AV.i .u8)) /\ Ext J r.2 /\ (∀ b ∈ SA.bk a2, J.next <= b) /\ cs2 ++ [k] = enc w.toNat) ?_ ?_
 ·refine Ok.loop (fun j s => ∃ (k : Int) (a2 : SA) (cs2 : List Int) (J2 : AH O), s = ([.i .u64 k, .sl a2 (n + cs2.length)], J2) /\ 0 <= k /\ k < 18446744073709551616 /\ j = k.toNat /\ OwnS J2 5 1 a2 (n + cs2.length) (cs ++ cs2.map (AV.i .u8)) /\ Ext J J2 /\ (∀ b ∈ SA.bk a2, J.next <= b) /\ cs2 ++ enc k.toNat = enc w.toNat) ?_ w.toNat _ ⟨w, a1, [], J1, rfl, h, h', rfl, by simpa using m2, m3, m4, rfl⟩
  rintro j _ ⟨k, a2, cs2, J2, rfl, h1, h2, rfl, h3, h4, h5, h6⟩
  have hll := congrArg List.length h6
  simp only [List.length_append] at hll
  have hlk := enc_len10 (w := k.toNat) (by omega)
  by_cases hge : k >= 128
  ·have d0 := decide_eq_true hge
   simp (maxSteps := 2000000) -implicitDefEqProofs (disch := (first | omega | rfl | assumption | (simp only [rsD]; first | omega | assumption))) only [varint_Put_L1, d0, Nat.reduceAdd, Nat.reduceMul, Nat.reduceLT, Int.reduceToNat, Int.reduceAdd, Int.reduceSub, Int.reduceMul, rsU, rsC]
   refine Ok.step (grow1 h3) fun q ⟨a3, g1, g2, g3, g4⟩ => ?_
   obtain ⟨q, J3⟩ := q
   simp only at g1 g2 g3 g4
   subst g1
   have e : Int.fdiv k (2 ^ 7) = k / 128 := by rw [Int.fdiv_eq_ediv_of_nonneg _ (by decide)]; rfl
   have eb : ibits .or .u8 (IntKind.u8.wrap k) 128 = ((k.toNat % 128 + 128 : Nat) : Int) := by
    rw [wrap_u8, or_u8 (by omega) (by omega) (by omega) (by omega)]
    have := or128 ⟨(k % 256).toNat, by omega⟩
    simp only at this
    rw [show (128 : Int).toNat = 128 from rfl, this]
    congr 2; omega
   rw [enc_ge (by omega)] at h6
   have e4 : (k / 128).toNat = k.toNat / 128 := by omega
   simp (maxSteps := 2000000) -implicitDefEqProofs (disch := (first | omega | rfl | assumption | (simp only [rsD]; first | omega | assumption))) only [Nat.reduceAdd, Nat.reduceMul, Nat.reduceLT, Int.reduceToNat, Int.reduceAdd, Int.reduceSub, Int.reduceMul, rsU, rsC]
   refine Ok_some.2 ⟨(k / 128).toNat, by omega, k / 128, a3, cs2 ++ [((k.toNat % 128 + 128 : Nat) : Int)], J3, ?_, by omega, by omega, rfl, ?_, Chg.new h4 h5 g3, fun b hb => by have := g4 b hb; have := h4.next; omega, by rw [e4]; simpa using h6⟩
   ·simp only [e, List.length_append, List.length_cons, List.length_nil, Nat.add_assoc]
   ·rw [eb] at g2
    simp only [List.length_append, List.length_cons, List.length_nil, List.map_append, List.map_cons, List.map_nil]
    rw [<- List.append_assoc]; exact g2
  ·have d0 := decide_eq_false hge
   simp (maxSteps := 2000000) -implicitDefEqProofs (disch := (first | omega | rfl | assumption | (simp only [rsD]; first | omega | assumption))) only [varint_Put_L1, d0, Nat.reduceAdd, Nat.reduceMul, Nat.reduceLT, Int.reduceToNat, Int.reduceAdd, Int.reduceSub, Int.reduceMul, rsU, rsC]
   rw [enc_lt (by omega)] at h6
   exact Ok_some.2 ⟨k, a2, cs2, rfl, h1, by omega, h3, h4, h5, by rw [<- h6]; congr 2; omega⟩
 ·rintro ⟨rv, J2⟩ ⟨k, a2, cs2, e, h1, h2, h3, h4, h5, h6⟩
  simp only at e h3 h4
  subst e
  have hll := congrArg List.length h6
  simp only [List.length_append, List.length_singleton] at hll
  simp (maxSteps := 2000000) -implicitDefEqProofs (disch := (first | omega | rfl | assumption | (simp only [rsD]; first | omega | assumption))) only [Nat.reduceAdd, Nat.reduceMul, Nat.reduceLT, Int.reduceToNat, Int.reduceAdd, Int.reduceSub, Int.reduceMul, rsU, rsC]
  refine Ok.step (grow1 h3) fun q ⟨a3, g1, g2, g3, g4⟩ => ?_
  obtain ⟨q, J3⟩ := q
  simp only at g1 g2 g3 g4
  subst g1
  simp (maxSteps := 2000000) -implicitDefEqProofs (disch := (first | omega | rfl | assumption | (simp only [rsD]; first | omega | assumption))) only [Nat.reduceAdd, Nat.reduceMul, Nat.reduceLT, Int.reduceToNat, Int.reduceAdd, Int.reduceSub, Int.reduceMul, rsU, rsC]
  have ek : IntKind.u8.wrap k = k := by rw [wrap_u8]; omega
  try rw [ek] at g2
  refine Ok_some.2 ⟨a3, by rw [<- hll]; congr 1, ?_, Chg.new h4 h5 g3, fun b hb => by have := g4 b hb; have := h4.next; omega⟩
  rw [<- hll, <- h6, List.map_append, <- List.append_assoc]; exact g2
theorem all_ok {J : AH O} {a : SA} {ws : List Int} (hr : Rd J 1 a ws.length (ws.map (AV.i .u64))) (ho : Old J a) (hw : Words ws) (hn : ws.length <= 1000000) :
  Ok (varint_All [.sl a ws.length] J) fun r => (∃ a', r.1 = .sl a' (encs ws).length /\ Imm 1 a' (encs ws).length ((encs ws).map (AV.i .u8))) /\ Ext J r.2 := by
 have hel : ∀ k, (encs (ws.take k)).length <= 10 * ws.length := fun k => by
  have h1 := (encs_len (ws := ws.take k) fun x hx => hw x (List.mem_of_mem_take hx)).2
  have : (ws.take k).length <= ws.length := by rw [List.length_take]; omega
  omega
 refine frz_ints (s := varint_All_c varint_Put) (k := .u8) (l := encs ws) ?_
 simp (maxSteps := 2000000) -implicitDefEqProofs (disch := (first | omega | rfl | assumption | (simp only [rsD]; first | omega | assumption))) only [varint_All_c, Nat.reduceAdd, Nat.reduceMul, Nat.reduceLT, Int.reduceToNat, Int.reduceAdd, Int.reduceSub, Int.reduceMul, rsU, rsC]
 refine Ok.step (Q := fun r => ∃ a', r.1 = [.sl a' (encs ws).length] /\ OwnS r.2 5 1 a' (encs ws).length ((encs ws).map (AV.i .u8)) /\ Ext J r.2 /\ ∀ b ∈ SA.bk a', J.next <= b) ?_ ?_
 ·refine Ok.count ws.length (fun k s => ∃ a' J', s = ([.sl a' (encs (ws.take k)).length, .i .i64 (k : Int)], J') /\ OwnS J' 5 1 a' (encs (ws.take k)).length ((encs (ws.take k)).map (AV.i .u8)) /\ Ext J J' /\ ∀ b ∈ SA.bk a', J.next <= b) ?_ ?_ ⟨.nil, J, rfl, OwnS.nil _ _ _, Ext.refl _, by simp [SA.bk]⟩
  ·rintro k _ hk ⟨a', J', rfl, own, E, fr⟩
   have hx := List.getElem?_eq_getElem hk
   have hv : (ws.map (AV.i .u64))[k]? = some (.i .u64 ws[k]) := by rw [List.getElem?_map, hx]; rfl
   have hxw := hw _ (List.mem_of_getElem? hx)
   have hS := encs_take hk
   have hk1 := hel k
   obtain ⟨bb, oo, r1, ld⟩ := rd_at1 (hr.lt ho E) hv
   rw [hS]
   generalize ws[k] = x at *
   simp (maxSteps := 2000000) -implicitDefEqProofs (disch := (first | omega | rfl | assumption | (simp only [rsD]; first | omega | assumption))) only [varint_All_L1, r1, ld, Nat.reduceAdd, Nat.reduceMul, Nat.reduceLT, Int.reduceToNat, Int.reduceAdd, Int.reduceSub, Int.reduceMul, rsU, rsC]
   refine Ok.step (put_ok own.rd (fun b hb => own.lt b hb) hxw.1 hxw.2 (by omega)) fun q ⟨a2, g1, g2, g3, g4⟩ => ?_
   obtain ⟨q, J2⟩ := q
   simp only at g1 g2 g3 g4
   subst g1
   simp (maxSteps := 2000000) -implicitDefEqProofs (disch := (first | omega | rfl | assumption | (simp only [rsD]; first | omega | assumption))) only [Nat.reduceAdd, Nat.reduceMul, Nat.reduceLT, Int.reduceToNat, Int.reduceAdd, Int.reduceSub, Int.reduceMul, rsU, rsC]
   refine Ok_some.2 ⟨a2, J2, by simp, ?_, E.trans g3, fun b hb => by have := g4 b hb; have := E.next; omega⟩
   rw [List.length_append, List.map_append]; exact g2
  ·rintro _ ⟨a', J', rfl, own, E, fr⟩
   rw [List.take_length] at own
   simp (maxSteps := 2000000) -implicitDefEqProofs (disch := (first | omega | rfl | assumption | (simp only [rsD]; first | omega | assumption))) only [varint_All_L1, Nat.reduceAdd, Nat.reduceMul, Nat.reduceLT, Int.reduceToNat, Int.reduceAdd, Int.reduceSub, Int.reduceMul, rsU, rsC]
   exact Ok_some.2 ⟨a', by simp, own, E, fr⟩
 ·rintro ⟨rv, J2⟩ ⟨a', e, own, E, fr⟩
  simp only at e own E
  subst e
  simp (maxSteps := 2000000) -implicitDefEqProofs (disch := (first | omega | rfl | assumption | (simp only [rsD]; first | omega | assumption))) only [Nat.reduceAdd, Nat.reduceMul, Nat.reduceLT, Int.reduceToNat, Int.reduceAdd, Int.reduceSub, Int.reduceMul, rsU, rsC]
  exact Ok_some.2 ⟨a', 5, rfl, own, E, fr⟩
theorem step_ok {s : W} {c : Int} {J : AH O} (hc : 0 <= c /\ c < 256) : Ok (crc_step [.i .u64 (wI s), .i .u8 c] J) fun r => r = (.i .u64 (wI (crc s (bits8 c.toNat))), J) := by
 have hr := wI_range s
 have e0 : IntKind.u64.wrap (IntKind.u64.wrap c * 2 ^ 56) = c * 72057594037927936 := by rw [wrap_u64, wrap_u64]; omega
 have htop := top_bits8 ⟨c.toNat, by omega⟩
 have e1 : ibits .xor .u64 (wI s) (c * 72057594037927936) = wI (s ^^^ top (bits8 c.toNat)) := by
  rw [xor_u64 hr.1 hr.2 (by omega) (by omega), htop]
  unfold wI
  rw [BitVec.toNat_xor, BitVec.toNat_ofNat]
  congr 2
  simp only
  omega
 simp -implicitDefEqProofs only [crc_step, crc_step_c, Nat.reduceAdd, Nat.reduceMul, Nat.reduceLT, Int.reduceToNat, Int.reduceAdd, Int.reduceSub, Int.reduceMul, rsU, s_ldI, s_ldU, s_ldS, s_ldP, s_gtI, s_gtU, s_gtS, s_bleD, Nat.reduceLeDiff, decide_true, decide_false]
 rw [e0, e1]
 refine Ok.step (Q := fun r => r = ([.i .u64 (wI (crc s (bits8 c.toNat)))], J)) ?_ ?_
 ·refine Ok.count 8 (fun k st => st = ([.i .u64 (wI (feed0N k (s ^^^ top (bits8 c.toNat)))), .i .i64 (k : Int)], J)) ?_ ?_ rfl
  ·rintro k st hk rfl
   have d0 : decide ((k : Int) < 8) = true := decide_eq_true (by omega)
   simp -implicitDefEqProofs only [crc_step_L1, d0, feed0_int, Nat.reduceAdd, Nat.reduceMul, Nat.reduceLT, Int.reduceToNat, Int.reduceAdd, Int.reduceSub, Int.reduceMul, rsU, s_ldI, s_ldU, s_ldS, s_ldP, s_gtI, s_gtU, s_gtS, s_bleD, Nat.reduceLeDiff, decide_true, decide_false]
   rw [i64_id (by omega) (by omega)]
   refine Ok_some.2 ?_
   rw [feed0N_succ]; rfl
  ·rintro st rfl
   simp -implicitDefEqProofs only [crc_step_L1, Nat.reduceAdd, Nat.reduceMul, Nat.reduceLT, Int.reduceToNat, Int.reduceAdd, Int.reduceSub, Int.reduceMul, rsU, s_ldI, s_ldU, s_ldS, s_ldP, s_gtI, s_gtU, s_gtS, s_bleD, Nat.reduceLeDiff, decide_true, decide_false]
   refine Ok_some.2 ?_
   rw [crc_top _ _ (by simp [bits8])]; rfl
 ·rintro r rfl
  simp -implicitDefEqProofs only [Nat.reduceAdd, Nat.reduceMul, Nat.reduceLT, Int.reduceToNat, Int.reduceAdd, Int.reduceSub, Int.reduceMul, rsU, s_ldI, s_ldU, s_ldS, s_ldP, s_gtI, s_gtU, s_gtS, s_bleD, Nat.reduceLeDiff, decide_true, decide_false]
  exact Ok_some.2 rfl
theorem more_ok {s : W} {a : SA} {n : Nat} {bs : List Int} {J : AH O} (hr : Rd J 1 a n (bs.map (AV.i .u8))) (hb : Bytes bs) (hn : n <= 1000000000) : Ok (crc_More [.i .u64 (wI s), .sl a n] J) fun r => r = (.i .u64 (wI (crc s (bitsB bs))), J) := by
 have hl : bs.length = n := by have := hr.len; simpa using this
 subst hl
 simp (maxSteps := 2000000) -implicitDefEqProofs (disch := (first | omega | rfl | assumption | (simp only [rsD]; first | omega | assumption))) only [crc_More, crc_More_c, Nat.reduceAdd, Nat.reduceMul, Nat.reduceLT, Int.reduceToNat, Int.reduceAdd, Int.reduceSub, Int.reduceMul, rsU, rsC]
 refine Ok.step (Q := fun r => r = ([.i .u64 (wI (crc s (bitsB bs)))], J)) ?_ ?_
 ·refine Ok.count bs.length (fun k st => st = ([.i .u64 (wI (crc s (bitsB (bs.take k)))), .i .i64 (k : Int)], J)) ?_ ?_ rfl
  ·rintro k st hk rfl
   obtain ⟨bb, oo, r1, ld⟩ := rd_at1 hr (map_get (k := .u8) hk)
   simp (maxSteps := 2000000) -implicitDefEqProofs (disch := (first | omega | rfl | assumption | (simp only [rsD]; first | omega | assumption))) only [crc_More_L1, r1, ld, Nat.reduceAdd, Nat.reduceMul, Nat.reduceLT, Int.reduceToNat, Int.reduceAdd, Int.reduceSub, Int.reduceMul, rsU, rsC]
   refine Ok.step (step_ok (bytes_get hb hk)) fun r hr1 => ?_
   subst hr1
   simp (maxSteps := 2000000) -implicitDefEqProofs (disch := (first | omega | rfl | assumption | (simp only [rsD]; first | omega | assumption))) only [Nat.reduceAdd, Nat.reduceMul, Nat.reduceLT, Int.reduceToNat, Int.reduceAdd, Int.reduceSub, Int.reduceMul, rsU, rsC]
   refine Ok_some.2 ?_
   rw [bitsB_take hk, crc_app]; simp
  ·rintro st rfl
   simp (maxSteps := 2000000) -implicitDefEqProofs (disch := (first | omega | rfl | assumption | (simp only [rsD]; first | omega | assumption))) only [crc_More_L1, Nat.reduceAdd, Nat.reduceMul, Nat.reduceLT, Int.reduceToNat, Int.reduceAdd, Int.reduceSub, Int.reduceMul, rsU, rsC]
   try rw [List.take_length]
   exact Ok_some.2 rfl
 ·rintro r rfl
  simp (maxSteps := 2000000) -implicitDefEqProofs (disch := (first | omega | rfl | assumption | (simp only [rsD]; first | omega | assumption))) only [Nat.reduceAdd, Nat.reduceMul, Nat.reduceLT, Int.reduceToNat, Int.reduceAdd, Int.reduceSub, Int.reduceMul, rsU, rsC]
  exact Ok_some.2 rfl
theorem sum1_ok {b n : Nat} {el : TypeId} {a : SA} {bs : List Int} {J : AH O} (hx : J.blk b = some (.cells true el [.sl a n])) (hr : Rd J 1 a n (bs.map (AV.i .u8))) (hb : Bytes bs) (hn : n <= 1000000000) : Ok (crc_Sum [.sl (.loc (.n b) 0 1) 1] J) fun r => r = (.i .u64 (wI (crc 0#64 (bitsB bs))), J) := by
 have m := more_ok (s := 0#64) hr hb hn
 rw [wI_zero] at m
 simp (maxSteps := 2000000) -implicitDefEqProofs (disch := (first | omega | rfl | assumption | (simp only [rsD]; first | omega | assumption))) only [crc_Sum, crc_Sum_c, Nat.reduceAdd, Nat.reduceMul, Nat.reduceLT, Int.reduceToNat, Int.reduceAdd, Int.reduceSub, Int.reduceMul, rsU, rsC]
 refine Ok.step (Q := fun r => r = ([.i .u64 (wI (crc 0#64 (bitsB bs)))], J)) ?_ ?_
 ·rw [loopF_eq]
  simp (maxSteps := 2000000) -implicitDefEqProofs (disch := (first | omega | rfl | assumption | (simp only [rsD]; first | omega | assumption))) only [crc_Sum_L1, hx, Nat.reduceAdd, Nat.reduceMul, Nat.reduceLT, Int.reduceToNat, Int.reduceAdd, Int.reduceSub, Int.reduceMul, rsU, rsC]
  refine Ok.bindS (Q := fun r => r = .inl ([.i .u64 (wI (crc 0#64 (bitsB bs))), .i .i64 1], J)) ?_ ?_ (fun r h => by cases h)
  ·refine Ok.step m fun r e => ?_
   subst e
   simp (maxSteps := 2000000) -implicitDefEqProofs (disch := (first | omega | rfl | assumption | (simp only [rsD]; first | omega | assumption))) only [Nat.reduceAdd, Nat.reduceMul, Nat.reduceLT, Int.reduceToNat, Int.reduceAdd, Int.reduceSub, Int.reduceMul, rsU, rsC]
   exact Ok_some.2 rfl
  ·rintro _ h
   cases h
   rw [loopF_eq]
   simp (maxSteps := 2000000) -implicitDefEqProofs (disch := (first | omega | rfl | assumption | (simp only [rsD]; first | omega | assumption))) only [crc_Sum_L1, Nat.reduceAdd, Nat.reduceMul, Nat.reduceLT, Int.reduceToNat, Int.reduceAdd, Int.reduceSub, Int.reduceMul, rsU, rsC]
   exact Ok_some.2 rfl
 ·rintro r rfl
  simp (maxSteps := 2000000) -implicitDefEqProofs (disch := (first | omega | rfl | assumption | (simp only [rsD]; first | omega | assumption))) only [Nat.reduceAdd, Nat.reduceMul, Nat.reduceLT, Int.reduceToNat, Int.reduceAdd, Int.reduceSub, Int.reduceMul, rsU, rsC]
  exact Ok_some.2 rfl
theorem seal_ok {a : SA} {n : Nat} {bs : List Int} {J : AH O} (hr : Rd J 1 a n (bs.map (AV.i .u8))) (ho : Old J a) (hb : Bytes bs) (hn : n <= 1000000) :
  Ok (crc_Seal [.sl a n] J) fun r => (∃ a', r.1 = .sl a' (sealed bs).length /\ Imm 1 a' (sealed bs).length ((sealed bs).map (AV.i .u8))) /\ Ext J r.2 := by
 have hl : bs.length = n := by have := hr.len; simpa using this
 have r0 : ((J.bump 2).put J.next (.cells true 5 [])).rdSl a n 1 = some (bs.map (AV.i .u8)) := (hr.of fun b hb => by have := ho b hb; exact s_bn (by omega)).rdSl
 have hsl : (sealed bs).length = n + 8 := by unfold sealed; rw [List.length_append, bytesW_len]; omega
 refine frz_ints (s := crc_Seal_c crc_Sum) (k := .u8) (l := sealed bs) ?_
 rw [hsl]
 simp (maxSteps := 2000000) -implicitDefEqProofs (disch := (first | omega | rfl | assumption | (simp only [rsD]; first | omega | assumption))) only [crc_Seal_c, r0, Nat.reduceAdd, Nat.reduceMul, Nat.reduceLT, Int.reduceToNat, Int.reduceAdd, Int.reduceSub, Int.reduceMul, rsU, rsC]
 refine Ok.step (cpyN_ok (by rw [List.length_map]; exact hl)) fun q ⟨a1, m1, m2, m3, m4⟩ => ?_
 obtain ⟨q, J1⟩ := q
 simp only at m1 m2 m3 m4
 subst m1
 simp (maxSteps := 2000000) -implicitDefEqProofs (disch := (first | omega | rfl | assumption | (simp only [rsD]; first | omega | assumption))) only [Nat.reduceAdd, Nat.reduceMul, Nat.reduceLT, Int.reduceToNat, Int.reduceAdd, Int.reduceSub, Int.reduceMul, rsU, rsC]
 generalize hJ : (J1.bump 1).put J1.next _ = J2
 obtain ⟨E2, n2, b2⟩ := box1 hJ
 clear hJ
 have E12 := m3.trans E2
 refine Ok.step (sum1_ok b2 (hr.lt ho E12) hb (by omega)) fun r e => ?_
 subst e
 have own2 := m2.of E2.next fun q hq => E2.blk q (m2.lt q hq)
 generalize hs : crc 0#64 (bitsB bs) = s at *
 simp (maxSteps := 2000000) -implicitDefEqProofs (disch := (first | omega | rfl | assumption | (simp only [rsD]; first | omega | assumption))) only [Nat.reduceAdd, Nat.reduceMul, Nat.reduceLT, Int.reduceToNat, Int.reduceAdd, Int.reduceSub, Int.reduceMul, rsU, rsC]
 refine Ok.step (Q := fun r => ∃ a', r.1 = [.sl a' (n + 8)] /\ OwnS r.2 5 1 a' (n + 8) ((sealed bs).map (AV.i .u8)) /\ Ext J r.2 /\ ∀ b ∈ SA.bk a', J.next <= b) ?_ ?_
 ·refine Ok.count 8 (fun k st => ∃ a' J3, st = ([.sl a' (n + k), .i .i64 (k : Int)], J3) /\ OwnS J3 5 1 a' (n + k) ((bs ++ (bytesW s).take k).map (AV.i .u8)) /\ Ext J J3 /\ ∀ b ∈ SA.bk a', J.next <= b) ?_ ?_ ⟨a1, J2, rfl, by simpa using own2, E12, m4⟩
  ·rintro k st hk ⟨a', J3, rfl, own, E, fr⟩
   have d0 : decide ((k : Int) < 8) = true := decide_eq_true (by omega)
   have e5 : IntKind.i64.wrap (56 - IntKind.i64.wrap (8 * (k : Int))) = ((56 - 8 * k : Nat) : Int) := by rw [i64_id (n := 8 * (k : Int)) (by omega) (by omega), i64_id (by omega) (by omega)]; omega
   have hmin : min (56 - 8 * k) 64 = 56 - 8 * k := by omega
   have hneg : decide (((56 - 8 * k : Nat) : Int) < 0) = false := decide_eq_false (by omega)
   have e6 : IntKind.u8.wrap (Int.fdiv (wI s) (2 ^ (56 - 8 * k))) = wI s / 2 ^ (56 - 8 * k) % 256 := by
    rw [Int.fdiv_eq_ediv_of_nonneg _ (Int.le_of_lt (Int.pow_pos (by omega))), wrap_u8]
   have hble : Nat.ble ((n + k + 1) * 2) 35184372088832 = true := Nat.ble_eq_true_of_le (by omega)
   have d1 : decide ((n + k + 1) * 2 <= 35184372088832) = true := decide_eq_true (by omega)
   simp -implicitDefEqProofs only [crc_Seal_L1, d0, e5, hneg, Int.toNat_natCast, hmin, e6, d1, Nat.reduceAdd, Nat.reduceMul, Nat.reduceLT, Int.reduceToNat, Int.reduceAdd, Int.reduceSub, Int.reduceMul, rsU, s_ldI, s_ldU, s_ldS, s_ldP, s_gtI, s_gtU, s_gtS, s_bleD, Nat.reduceLeDiff, decide_true, decide_false]
   refine Ok.step (grow1 own) fun q ⟨a3, g1, g2, g3, g4⟩ => ?_
   obtain ⟨q, J4⟩ := q
   simp only at g1 g2 g3 g4
   subst g1
   simp (maxSteps := 2000000) -implicitDefEqProofs (disch := (first | omega | rfl | assumption | (simp only [rsD]; first | omega | assumption))) only [Nat.reduceAdd, Nat.reduceMul, Nat.reduceLT, Int.reduceToNat, Int.reduceAdd, Int.reduceSub, Int.reduceMul, rsU, rsC]
   refine Ok_some.2 ⟨a3, J4, rfl, ?_, Chg.new E fr g3, fun b hb => by have := g4 b hb; have := E.next; omega⟩
   rw [bytesW_take hk, <- Nat.add_assoc, <- List.append_assoc, List.map_append]; exact g2
  ·rintro st ⟨a', J3, rfl, own, E, fr⟩
   have ht : (bytesW s).take 8 = bytesW s := List.take_of_length_le (by rw [bytesW_len]; omega)
   rw [ht] at own
   simp (maxSteps := 2000000) -implicitDefEqProofs (disch := (first | omega | rfl | assumption | (simp only [rsD]; first | omega | assumption))) only [crc_Seal_L1, Nat.reduceAdd, Nat.reduceMul, Nat.reduceLT, Int.reduceToNat, Int.reduceAdd, Int.reduceSub, Int.reduceMul, rsU, rsC]
   refine Ok_some.2 ⟨a', rfl, ?_, E, fr⟩
   unfold sealed
   rw [hs]; exact own
 ·rintro ⟨rv, J3⟩ ⟨a', e, own, E, fr⟩
  simp only at e own E
  subst e
  simp (maxSteps := 2000000) -implicitDefEqProofs (disch := (first | omega | rfl | assumption | (simp only [rsD]; first | omega | assumption))) only [Nat.reduceAdd, Nat.reduceMul, Nat.reduceLT, Int.reduceToNat, Int.reduceAdd, Int.reduceSub, Int.reduceMul, rsU, rsC]
  exact Ok_some.2 ⟨a', 5, rfl, own, E, fr⟩
end Go.Abs.Try
namespace Go.Abs.Try
open Go Go.Abs
variable {O : Type}
theorem get_ok {J : AH O} {a : SA} {n : Nat} {bs : List Int} (hr : Rd J 1 a n (bs.map (AV.i .u8))) (hb : Bytes bs) (hn : n <= 1000000000) : Ok (varint_Get [.sl a n] J) fun r => r = (getV bs, J) := by
 have hl : bs.length = n := by have := hr.len; simpa using this
 simp (maxSteps := 2000000) -implicitDefEqProofs (disch := (first | omega | rfl | assumption | (simp only [rsD]; first | omega | assumption))) only [varint_Get, varint_Get_c, Nat.reduceAdd, Nat.reduceMul, Nat.reduceLT, Int.reduceToNat, Int.reduceAdd, Int.reduceSub, Int.reduceMul, rsU, rsC]
 refine Ok.bindS (Q := fun r => match r with | .inl s => s.2 = J /\ getV bs = .tup [.i .u64 0, .i .i64 0, .i .i64 6] | .inr r => r = (getV bs, J)) ?_ (fun s h => ?_) (fun r h => h)
 ·refine Ok.loop (fun m (s : List AV × AH O) => ∃ (i : Nat) (w : Int), s = ([.i .u64 w, .i .i64 (i : Int)], J) /\ m = n - i /\ i <= n /\ i <= 10 /\ 0 <= w /\ w < ((2 ^ min (7 * i) 64 : Nat) : Int) /\
    getV bs = (if (getGo i (bs.drop i)).2.2 = 0 then .tup [.i .u64 (w + (getGo i (bs.drop i)).1 * 2 ^ (7 * i)), .i .i64 (getGo i (bs.drop i)).2.1, .i .i64 0] else .tup [.i .u64 0, .i .i64 0, .i .i64 (getGo i (bs.drop i)).2.2])) ?_ n _ ⟨0, 0, rfl, rfl, by omega, by omega, by omega, by decide, ?_⟩
  ·rintro m s ⟨i, w, rfl, rfl, hi, hi10, h1, h2, h3⟩
   by_cases hin : (i : Int) < (n : Int)
   ·have hi' : i < bs.length := by omega
    have hc := bytes_get hb hi'
    obtain ⟨bb, oo, r1, ld⟩ := rd_at1 hr (map_get (k := .u8) hi')
    have hd : bs.drop i = bs[i] :: bs.drop (i + 1) := List.drop_eq_getElem_cons hi'
    rw [hd] at h3
    have an := andNot_u8 hc
    have ad := and_u8_128 hc
    generalize bs[i] = c at *
    have e1 : IntKind.u64.wrap (c % 128) = c % 128 := u64_id (by omega) (by omega)
    have e2 : IntKind.i64.wrap (7 * (i : Int)) = 7 * (i : Int) := i64_id (by omega) (by omega)
    have e3 : (7 * (i : Int)).toNat = 7 * i := by omega
    have d7 : decide (7 * (i : Int) < 0) = false := decide_eq_false (by omega)
    by_cases h7 : i = 10 ∨ (i = 9 /\ 1 < c % 128)
    ·simp only [getGo, if_pos h7] at h3
     rw [if_neg (by decide)] at h3
     rcases h7 with rfl | ⟨rfl, h7⟩
     ·have q9 : (((10 : Nat) : Int) == 9) = false := rfl
      have q10 : (((10 : Nat) : Int) == 10) = true := rfl
      have f1 : (false == true) = false := rfl
      have f2 : (false == false) = true := rfl
      simp (maxSteps := 2000000) -implicitDefEqProofs (disch := (first | omega | rfl | assumption | (simp only [rsD]; first | omega | assumption))) only [varint_Get_L1, r1, ld, an, e1, q9, q10, f1, f2, Nat.reduceAdd, Nat.reduceMul, Nat.reduceLT, Int.reduceToNat, Int.reduceAdd, Int.reduceSub, Int.reduceMul, rsU, rsC]
      exact Ok_some.2 (by rw [h3])
     ·have q9 : (((9 : Nat) : Int) == 9) = true := rfl
      have f1 : (true == true) = true := rfl
      have f2 : (true == false) = false := rfl
      simp (maxSteps := 2000000) -implicitDefEqProofs (disch := (first | omega | rfl | assumption | (simp only [rsD]; first | omega | assumption))) only [varint_Get_L1, r1, ld, an, e1, q9, f1, f2, Nat.reduceAdd, Nat.reduceMul, Nat.reduceLT, Int.reduceToNat, Int.reduceAdd, Int.reduceSub, Int.reduceMul, rsU, rsC]
      exact Ok_some.2 (by rw [h3])
    ·have hi9 : i <= 9 := by omega
     have q10 : ((i : Int) == 10) = false := by simp; omega
     have hp : (c % 128).toNat < (if i = 9 then 2 else 128) := by split <;> omega
     have hmin : min (7 * i) 64 = 7 * i := by omega
     have hk : ((c % 128).toNat + 1) * 2 ^ (7 * i) <= 18446744073709551616 := by
      by_cases h9 : i = 9
      ·subst h9
       simp only [if_true] at hp
       have : (2 : Nat) ^ (7 * 9) = 9223372036854775808 := rfl
       rw [this]; omega
      ·rw [if_neg h9] at hp
       have h5 : (2 : Nat) ^ (7 * i) <= 2 ^ 56 := Nat.pow_le_pow_right (by omega) (by omega)
       have h6 : ((c % 128).toNat + 1) * 2 ^ (7 * i) <= 128 * 2 ^ 56 := Nat.mul_le_mul (by omega) h5
       have : (128 : Nat) * 2 ^ 56 = 9223372036854775808 := rfl
       omega
     rw [hmin] at h2
     have hpn : (c % 128) * 2 ^ (7 * i) = (((c % 128).toNat * 2 ^ (7 * i) : Nat) : Int) := by push_cast; rw [Int.toNat_of_nonneg (by omega)]
     have hk' : (c % 128).toNat * 2 ^ (7 * i) + 2 ^ (7 * i) <= 18446744073709551616 := by rw [<- Nat.succ_mul]; exact hk
     have hpos : 0 < 2 ^ (7 * i) := Nat.two_pow_pos _
     have e5 : IntKind.u64.wrap (c % 128 * 2 ^ (7 * i)) = c % 128 * 2 ^ (7 * i) := u64_id (by rw [hpn]; omega) (by rw [hpn]; omega)
     have e6 := or_high h1 h2 (show 0 <= c % 128 by omega) hk
     have d9 : ∀ {b : Bool}, ((i : Int) == 9) = b -> (b = true -> decide (c % 128 > 1) = false) := fun {b} hb9 hbt => by
      rw [hbt] at hb9
      have : (i : Int) = 9 := by simpa using hb9
      exact decide_eq_false fun h => h7 (.inr ⟨by omega, h⟩)
     have f1 : (true == true) = true := rfl
     have f2 : (false == false) = true := rfl
     have f3 : (false == true) = false := rfl
     simp only [getGo, if_neg h7] at h3
     by_cases h8 : c < 128
     ·have ad' : ibits .and .u8 c 128 = 0 := by rw [ad, if_pos h8]
      have z0 : ((0 : Int) != 0) = false := rfl
      simp only [if_neg (show ¬ (128 : Int) <= c by omega)] at h3
      have hcc : c % 128 = c := by omega
      by_cases h0 : c = 0 /\ 0 < i
      ·simp only [if_pos h0] at h3
       rw [if_neg (by decide)] at h3
       have g0 : (c == 0) = true := by simp [h0.1]
       have gi : decide ((i : Int) > 0) = true := decide_eq_true (by omega)
       cases hb9 : (i : Int) == 9 with
       | true =>
        have d9 := d9 hb9 rfl
        simp (maxSteps := 2000000) -implicitDefEqProofs (disch := (first | omega | rfl | assumption | (simp only [rsD]; first | omega | assumption))) only [varint_Get_L1, r1, ld, an, ad', e1, e2, e3, d7, hmin, e5, e6, hb9, d9, q10, f1, f2, f3, z0, gi, g0, Nat.reduceAdd, Nat.reduceMul, Nat.reduceLT, Int.reduceToNat, Int.reduceAdd, Int.reduceSub, Int.reduceMul, rsU, rsC]
        exact Ok_some.2 (by rw [h3])
       | false =>
        simp (maxSteps := 2000000) -implicitDefEqProofs (disch := (first | omega | rfl | assumption | (simp only [rsD]; first | omega | assumption))) only [varint_Get_L1, r1, ld, an, ad', e1, e2, e3, d7, hmin, e5, e6, hb9, q10, f1, f2, f3, z0, gi, g0, Nat.reduceAdd, Nat.reduceMul, Nat.reduceLT, Int.reduceToNat, Int.reduceAdd, Int.reduceSub, Int.reduceMul, rsU, rsC]
        exact Ok_some.2 (by rw [h3])
      ·simp only [if_neg h0, if_true] at h3
       have key : ∀ {b : Bool}, decide ((i : Int) > 0) = b -> (b = true -> (c == 0) = false) := fun {b} hb hbt => by
        rw [hbt] at hb
        have : (i : Int) > 0 := by simpa using hb
        exact beq_eq_false_iff_ne.2 fun e => h0 ⟨e, by omega⟩
       cases hb9 : (i : Int) == 9 with
       | true =>
        have d9 := d9 hb9 rfl
        have i9 : (i : Int) = 9 := by simpa using hb9
        have gi : decide ((i : Int) > 0) = true := decide_eq_true (by omega)
        have g0 := key gi rfl
        simp (maxSteps := 2000000) -implicitDefEqProofs (disch := (first | omega | rfl | assumption | (simp only [rsD]; first | omega | assumption))) only [varint_Get_L1, r1, ld, an, ad', e1, e2, e3, d7, hmin, e5, e6, hb9, d9, q10, f1, f2, f3, z0, gi, g0, Nat.reduceAdd, Nat.reduceMul, Nat.reduceLT, Int.reduceToNat, Int.reduceAdd, Int.reduceSub, Int.reduceMul, rsU, rsC]
        refine Ok_some.2 ?_
        rw [h3, hcc] <;> simp
       | false =>
        cases gi : decide ((i : Int) > 0) with
        | true =>
         have g0 := key gi rfl
         simp (maxSteps := 2000000) -implicitDefEqProofs (disch := (first | omega | rfl | assumption | (simp only [rsD]; first | omega | assumption))) only [varint_Get_L1, r1, ld, an, ad', e1, e2, e3, d7, hmin, e5, e6, hb9, q10, f1, f2, f3, z0, gi, g0, Nat.reduceAdd, Nat.reduceMul, Nat.reduceLT, Int.reduceToNat, Int.reduceAdd, Int.reduceSub, Int.reduceMul, rsU, rsC]
         refine Ok_some.2 ?_
         rw [h3, hcc] <;> simp
        | false =>
         simp (maxSteps := 2000000) -implicitDefEqProofs (disch := (first | omega | rfl | assumption | (simp only [rsD]; first | omega | assumption))) only [varint_Get_L1, r1, ld, an, ad', e1, e2, e3, d7, hmin, e5, e6, hb9, q10, f1, f2, f3, z0, gi, Nat.reduceAdd, Nat.reduceMul, Nat.reduceLT, Int.reduceToNat, Int.reduceAdd, Int.reduceSub, Int.reduceMul, rsU, rsC]
         refine Ok_some.2 ?_
         rw [h3, hcc] <;> simp
     ·have ad' : ibits .and .u8 c 128 = 128 := by rw [ad, if_neg h8]
      have z0 : ((128 : Int) != 0) = true := rfl
      simp only [if_pos (show (128 : Int) <= c by omega)] at h3
      have fin : ∃ m, m < n - i /\ ∃ (i' : Nat) (w' : Int), (([.i .u64 (w + c % 128 * 2 ^ (7 * i)), .i .i64 ((i : Int) + 1)], J) : List AV × AH O) = ([.i .u64 w', .i .i64 (i' : Int)], J) /\ m = n - i' /\ i' <= n /\ i' <= 10 /\ 0 <= w' /\ w' < ((2 ^ min (7 * i') 64 : Nat) : Int) /\
        getV bs = (if (getGo i' (bs.drop i')).2.2 = 0 then .tup [.i .u64 (w' + (getGo i' (bs.drop i')).1 * 2 ^ (7 * i')), .i .i64 (getGo i' (bs.drop i')).2.1, .i .i64 0] else .tup [.i .u64 0, .i .i64 0, .i .i64 (getGo i' (bs.drop i')).2.2]) := by
       refine ⟨n - (i + 1), by omega, i + 1, _, rfl, rfl, by omega, by omega, by rw [hpn]; omega, ?_, ?_⟩
       ·rw [hpn]
        by_cases h9 : i = 9
        ·subst h9
         have : (2 : Nat) ^ min (7 * (9 + 1)) 64 = 18446744073709551616 := rfl
         rw [this]; omega
        ·have : min (7 * (i + 1)) 64 = 7 * i + 7 := by omega
         rw [this, Nat.pow_add]
         rw [if_neg h9] at hp
         have h6 : ((c % 128).toNat + 1) * 2 ^ (7 * i) <= 128 * 2 ^ (7 * i) := Nat.mul_le_mul_right _ (by omega)
         rw [Nat.succ_mul] at h6
         omega
       ·rw [h3]
        by_cases he : (getGo (i + 1) (bs.drop (i + 1))).2.2 = 0
        ·simp only [he, if_true]
         congr 3
         rw [show 7 * (i + 1) = 7 * i + 7 by omega, Int.pow_add]
         generalize (2 : Int) ^ (7 * i) = P
         generalize (getGo (i + 1) (List.drop (i + 1) bs)).1 = W
         rw [Int.add_mul, Int.add_assoc]
         congr 2
         rw [Int.mul_assoc, Int.mul_comm W P, <- Int.mul_assoc, Int.mul_comm 128 P, Int.mul_comm (P * 128) W]
         rw [show (2 : Int) ^ 7 = 128 from rfl]
        ·simp only [he, if_false]
      cases hb9 : (i : Int) == 9 with
      | true =>
       have d9 := d9 hb9 rfl
       simp (maxSteps := 2000000) -implicitDefEqProofs (disch := (first | omega | rfl | assumption | (simp only [rsD]; first | omega | assumption))) only [varint_Get_L1, r1, ld, an, ad', e1, e2, e3, d7, hmin, e5, e6, hb9, d9, q10, f1, f2, f3, z0, Nat.reduceAdd, Nat.reduceMul, Nat.reduceLT, Int.reduceToNat, Int.reduceAdd, Int.reduceSub, Int.reduceMul, rsU, rsC]
       exact Ok_some.2 fin
      | false =>
       simp (maxSteps := 2000000) -implicitDefEqProofs (disch := (first | omega | rfl | assumption | (simp only [rsD]; first | omega | assumption))) only [varint_Get_L1, r1, ld, an, ad', e1, e2, e3, d7, hmin, e5, e6, hb9, q10, f1, f2, f3, z0, Nat.reduceAdd, Nat.reduceMul, Nat.reduceLT, Int.reduceToNat, Int.reduceAdd, Int.reduceSub, Int.reduceMul, rsU, rsC]
       exact Ok_some.2 fin
   ·simp (maxSteps := 2000000) -implicitDefEqProofs (disch := (first | omega | rfl | assumption | (simp only [rsD]; first | omega | assumption))) only [varint_Get_L1, Nat.reduceAdd, Nat.reduceMul, Nat.reduceLT, Int.reduceToNat, Int.reduceAdd, Int.reduceSub, Int.reduceMul, rsU, rsC]
    have hd : bs.drop i = [] := List.drop_eq_nil_of_le (by omega)
    rw [hd] at h3
    exact Ok_some.2 ⟨rfl, h3⟩
  ·rw [List.drop_zero]
   unfold getV
   split
   ·rename_i h; simp [h]
   ·rename_i h
    obtain ⟨g1, g2⟩ := getGo_err bs 0 h
    rw [g1, g2]
 ·obtain ⟨h1, h2⟩ := h
  exact Ok_some.2 (by rw [h1, h2])
end Go.Abs.Try
namespace Go.Abs.Try
open Go Go.Abs
variable {O : Type}
theorem split_ok {J : AH O} {a : SA} {n : Nat} {bs : List Int} (hr : Rd J 1 a n (bs.map (AV.i .u8))) (ho : Old J a) (hb : Bytes bs) (hn : n <= 1000000) :
  Ok (varint_Split [.sl a n] J) fun r => (∃ a', r.1 = .tup [.sl a' (splitF n bs).1.length, .i .i64 (splitF n bs).2] /\ Imm 1 a' (splitF n bs).1.length ((splitF n bs).1.map (AV.i .u64))) /\ Ext J r.2 := by
 have hl : bs.length = n := by have := hr.len; simpa using this
 refine frz_intsT (s := varint_Split_c varint_Get) (k := .u64) (l := (splitF n bs).1) (vs := [.i .i64 (splitF n bs).2]) rfl (Ok.mono (Q := fun r => ∃ a', r.1 = .tup [.sl a' (splitF n bs).1.length, .i .i64 (splitF n bs).2] /\ OwnS r.2 54 1 a' (splitF n bs).1.length ((splitF n bs).1.map (AV.i .u64)) /\ Ext J r.2 /\ ∀ b ∈ SA.bk a', J.next <= b) ?_ fun r ⟨a', h1, h2, h3, h4⟩ => ⟨a', 54, h1, h2, h3, h4⟩)
 simp (maxSteps := 2000000) -implicitDefEqProofs (disch := (first | omega | rfl | assumption | (simp only [rsD]; first | omega | assumption))) only [varint_Split_c, Nat.reduceAdd, Nat.reduceMul, Nat.reduceLT, Int.reduceToNat, Int.reduceAdd, Int.reduceSub, Int.reduceMul, rsU, rsC]
 refine Ok.bindS (Q := fun r => match r with
   | .inl s => ∃ a', s.1 = [.sl a' (splitF n bs).1.length] /\ OwnS s.2 54 1 a' (splitF n bs).1.length ((splitF n bs).1.map (AV.i .u64)) /\ Ext J s.2 /\ (∀ b ∈ SA.bk a', J.next <= b) /\ (splitF n bs).2 = 0
   | .inr r => ∃ a', r.1 = .tup [.sl a' (splitF n bs).1.length, .i .i64 (splitF n bs).2] /\ OwnS r.2 54 1 a' (splitF n bs).1.length ((splitF n bs).1.map (AV.i .u64)) /\ Ext J r.2 /\ ∀ b ∈ SA.bk a', J.next <= b) ?_ (fun s h => ?_) (fun r h => h)
 ·refine Ok.loop (fun k (s : List AV × AH O) => ∃ (i : Nat) (a2 : SA) (J2 : AH O) (ws : List Int), s = ([.sl a2 ws.length, .i .i64 (i : Int)], J2) /\ k = n - i /\ i <= n /\ Ext J J2 /\ OwnS J2 54 1 a2 ws.length (ws.map (AV.i .u64)) /\ (∀ b ∈ SA.bk a2, J.next <= b) /\ ws.length <= i /\ ∃ f, n - i <= f /\
    splitF n bs = (if (splitF f (bs.drop i)).2 = 0 then (ws ++ (splitF f (bs.drop i)).1, 0) else ([], (splitF f (bs.drop i)).2))) ?_ n _ ⟨0, .nil, J, [], rfl, rfl, by omega, Ext.refl J, OwnS.nil _ _ _, by simp [SA.bk], by simp, n, by omega, ?_⟩
  ·rintro k s ⟨i, a2, J2, ws, rfl, hk, hi, E, own, fr, hmi, f, hf, h5⟩
   by_cases hin : (i : Int) < (n : Int)
   ·obtain ⟨a3, g1, g2, _⟩ := (hr.lt ho E).adv (lo := i) (m := n - i) (by omega)
    simp only [Nat.mul_one] at g2
    rw [<- List.map_drop, <- List.map_take, List.take_of_length_le (by simp; omega)] at g2
    simp (maxSteps := 2000000) -implicitDefEqProofs (disch := (first | omega | rfl | assumption | (simp only [rsD]; first | omega | assumption))) only [varint_Split_L1, Int.toNat_natCast, g1, Nat.reduceAdd, Nat.reduceMul, Nat.reduceLT, Int.reduceToNat, Int.reduceAdd, Int.reduceSub, Int.reduceMul, rsU, rsC]
    refine Ok.step (get_ok g2 (hb.drop i) (by omega)) fun r e => ?_
    subst e
    cases f with
    | zero => omega
    | succ f =>
     have hne : bs.drop i ≠ [] := by
      intro e
      have := congrArg List.length e
      simp at this; omega
     simp only [splitF, if_neg hne] at h5
     by_cases h0 : (getGo 0 (bs.drop i)).2.2 = 0
     ·obtain ⟨q, q1, q2, q3, q4, q5, q6⟩ := get_pos (hb.drop i) h0
      have q3' : q <= n - i := by simpa [hl] using q3
      simp only [h0, q1, if_true, Int.toNat_natCast, List.drop_drop] at h5
      have z0 : ((0 : Int) != 0) = false := rfl
      simp (maxSteps := 2000000) -implicitDefEqProofs (disch := (first | omega | rfl | assumption | (simp only [rsD]; first | omega | assumption))) only [getV, h0, q1, z0, Nat.reduceAdd, Nat.reduceMul, Nat.reduceLT, Int.reduceToNat, Int.reduceAdd, Int.reduceSub, Int.reduceMul, rsU, rsC]
      refine Ok.step (grow1 own) fun r ⟨a4, k1, k2, k3, k4⟩ => ?_
      obtain ⟨r, J4⟩ := r
      simp only at k1 k2 k3 k4
      subst k1
      simp (maxSteps := 2000000) -implicitDefEqProofs (disch := (first | omega | rfl | assumption | (simp only [rsD]; first | omega | assumption))) only [Nat.reduceAdd, Nat.reduceMul, Nat.reduceLT, Int.reduceToNat, Int.reduceAdd, Int.reduceSub, Int.reduceMul, rsU, rsC]
      refine Ok_some.2 ⟨n - (i + q), by omega, i + q, a4, J4, ws ++ [(getGo 0 (bs.drop i)).1], by simp, rfl, by omega, Chg.new E fr k3, ?_, fun b hb => by have := k4 b hb; have := E.next; omega, by simp; omega, f, by omega, ?_⟩
      ·rw [List.length_append, List.map_append]; exact k2
      ·rw [h5]
       by_cases h6 : (splitF f (bs.drop (i + q))).2 = 0
       ·simp only [h6, if_true, List.append_assoc, List.singleton_append]
       ·simp only [h6, if_false]
     ·simp only [h0, if_false] at h5
      have z0 : ((getGo 0 (bs.drop i)).2.2 != 0) = true := by simp [h0]
      simp (maxSteps := 2000000) -implicitDefEqProofs (disch := (first | omega | rfl | assumption | (simp only [rsD]; first | omega | assumption))) only [getV, z0, Nat.reduceAdd, Nat.reduceMul, Nat.reduceLT, Int.reduceToNat, Int.reduceAdd, Int.reduceSub, Int.reduceMul, rsU, rsC]
      refine Ok_some.2 ⟨.nil, by rw [h5]; rfl, by rw [h5]; exact OwnS.nil _ _ _, E, by simp [SA.bk]⟩
   ·have hd : bs.drop i = [] := List.drop_eq_nil_of_le (by omega)
    rw [hd, splitF_nil] at h5
    simp only [if_true, List.append_nil] at h5
    simp (maxSteps := 2000000) -implicitDefEqProofs (disch := (first | omega | rfl | assumption | (simp only [rsD]; first | omega | assumption))) only [varint_Split_L1, Nat.reduceAdd, Nat.reduceMul, Nat.reduceLT, Int.reduceToNat, Int.reduceAdd, Int.reduceSub, Int.reduceMul, rsU, rsC]
    exact Ok_some.2 ⟨a2, by rw [h5], by rw [h5]; exact own, E, fr, by rw [h5]⟩
  ·rw [List.drop_zero]
   split
   ·rename_i h; exact Prod.ext rfl h
   ·rename_i h; exact Prod.ext (splitF_err n bs h) rfl
 ·obtain ⟨s1, s2⟩ := s
  obtain ⟨a', h1, h2, h3, h4, h5⟩ := h
  simp only at h1 h2 h3
  subst h1
  simp (maxSteps := 2000000) -implicitDefEqProofs (disch := (first | omega | rfl | assumption | (simp only [rsD]; first | omega | assumption))) only [Nat.reduceAdd, Nat.reduceMul, Nat.reduceLT, Int.reduceToNat, Int.reduceAdd, Int.reduceSub, Int.reduceMul, rsU, rsC]
  exact Ok_some.2 ⟨a', by rw [h5], h2, h3, h4⟩
theorem refBytes_ok {w : Int} {J : AH O} (h : 0 <= w) (h' : w < 18446744073709551616) :
  Ok (haymowref05_Bytes [.i .u64 w] J) fun r => (∃ a', r.1 = .sl a' (enc w.toNat).length /\ Imm 1 a' (enc w.toNat).length ((enc w.toNat).map (AV.i .u8))) /\ Ext J r.2 := by
 have h10 := enc_len10 (w := w.toNat) (by omega)
 refine frz_ints (s := haymowref05_Bytes_c) (k := .u8) (l := enc w.toNat) ?_
 simp (maxSteps := 2000000) -implicitDefEqProofs (disch := (first | omega | rfl | assumption | (simp only [rsD]; first | omega | assumption))) only [haymowref05_Bytes_c, Nat.reduceAdd, Nat.reduceMul, Nat.reduceLT, Int.reduceToNat, Int.reduceAdd, Int.reduceSub, Int.reduceMul, rsU, rsC]
 refine Ok.step (Q := fun r => ∃ (k : Int) (a2 : SA) (cs2 : List Int), r.1 = [.i .u64 k, .sl a2 cs2.length] /\ 0 <= k /\ k < 128 /\ OwnS r.2 5 1 a2 cs2.length (cs2.map (AV.i .u8)) /\ Ext J r.2 /\ (∀ b ∈ SA.bk a2, J.next <= b) /\ cs2 ++ [k] = enc w.toNat) ?_ ?_
 ·refine Ok.loop (fun j s => ∃ (k : Int) (a2 : SA) (cs2 : List Int) (J2 : AH O), s = ([.i .u64 k, .sl a2 cs2.length], J2) /\ 0 <= k /\ k < 18446744073709551616 /\ j = k.toNat /\ OwnS J2 5 1 a2 cs2.length (cs2.map (AV.i .u8)) /\ Ext J J2 /\ (∀ b ∈ SA.bk a2, J.next <= b) /\ cs2 ++ enc k.toNat = enc w.toNat) ?_ w.toNat _ ⟨w, .nil, [], J, rfl, h, h', rfl, OwnS.nil _ _ _, Ext.refl _, by simp [SA.bk], rfl⟩
  rintro j _ ⟨k, a2, cs2, J2, rfl, h1, h2, rfl, h3, h4, h5, h6⟩
  have hll := congrArg List.length h6
  simp only [List.length_append] at hll
  have hlk := enc_len10 (w := k.toNat) (by omega)
  by_cases hge : k > 127
  ·have d0 := decide_eq_true hge
   have e : IntKind.u64.wrap (Int.tdiv k 128) = k / 128 := by rw [Int.tdiv_eq_ediv_of_nonneg (by omega), u64_id (by omega) (by omega)]
   have eb : IntKind.u8.wrap (IntKind.u64.wrap (128 + Int.tmod k 128)) = ((k.toNat % 128 + 128 : Nat) : Int) := by
    rw [Int.tmod_eq_emod_of_nonneg (by omega), u64_id (by omega) (by omega), wrap_u8]; omega
   simp (maxSteps := 2000000) -implicitDefEqProofs (disch := (first | omega | rfl | assumption | (simp only [rsD]; first | omega | assumption))) only [haymowref05_Bytes_L1, d0, e, eb, Nat.reduceAdd, Nat.reduceMul, Nat.reduceLT, Int.reduceToNat, Int.reduceAdd, Int.reduceSub, Int.reduceMul, rsU, rsC]
   refine Ok.step (grow1 h3) fun q ⟨a3, g1, g2, g3, g4⟩ => ?_
   obtain ⟨q, J3⟩ := q
   simp only at g1 g2 g3 g4
   subst g1
   rw [enc_ge (by omega)] at h6
   have e4 : (k / 128).toNat = k.toNat / 128 := by omega
   simp (maxSteps := 2000000) -implicitDefEqProofs (disch := (first | omega | rfl | assumption | (simp only [rsD]; first | omega | assumption))) only [Nat.reduceAdd, Nat.reduceMul, Nat.reduceLT, Int.reduceToNat, Int.reduceAdd, Int.reduceSub, Int.reduceMul, rsU, rsC]
   refine Ok_some.2 ⟨(k / 128).toNat, by omega, k / 128, a3, cs2 ++ [((k.toNat % 128 + 128 : Nat) : Int)], J3, by simp, by omega, by omega, rfl, ?_, Chg.new h4 h5 g3, fun b hb => by have := g4 b hb; have := h4.next; omega, by rw [e4]; simpa using h6⟩
   rw [List.length_append, List.map_append]; exact g2
  ·have d0 := decide_eq_false hge
   simp (maxSteps := 2000000) -implicitDefEqProofs (disch := (first | omega | rfl | assumption | (simp only [rsD]; first | omega | assumption))) only [haymowref05_Bytes_L1, d0, Nat.reduceAdd, Nat.reduceMul, Nat.reduceLT, Int.reduceToNat, Int.reduceAdd, Int.reduceSub, Int.reduceMul, rsU, rsC]
   rw [enc_lt (by omega)] at h6
   exact Ok_some.2 ⟨k, a2, cs2, rfl, h1, by omega, h3, h4, h5, by rw [<- h6]; congr 2; omega⟩
 ·rintro ⟨rv, J2⟩ ⟨k, a2, cs2, e, h1, h2, h3, h4, h5, h6⟩
  simp only at e h3 h4
  subst e
  have hll := congrArg List.length h6
  simp only [List.length_append, List.length_singleton] at hll
  have ek : IntKind.u8.wrap k = k := by rw [wrap_u8]; omega
  simp (maxSteps := 2000000) -implicitDefEqProofs (disch := (first | omega | rfl | assumption | (simp only [rsD]; first | omega | assumption))) only [ek, Nat.reduceAdd, Nat.reduceMul, Nat.reduceLT, Int.reduceToNat, Int.reduceAdd, Int.reduceSub, Int.reduceMul, rsU, rsC]
  refine Ok.step (grow1 h3) fun q ⟨a3, g1, g2, g3, g4⟩ => ?_
  obtain ⟨q, J3⟩ := q
  simp only at g1 g2 g3 g4
  subst g1
  simp (maxSteps := 2000000) -implicitDefEqProofs (disch := (first | omega | rfl | assumption | (simp only [rsD]; first | omega | assumption))) only [Nat.reduceAdd, Nat.reduceMul, Nat.reduceLT, Int.reduceToNat, Int.reduceAdd, Int.reduceSub, Int.reduceMul, rsU, rsC]
  refine Ok_some.2 ⟨a3, 5, by rw [<- hll], ?_, Chg.new h4 h5 g3, fun b hb => by have := g4 b hb; have := h4.next; omega⟩
  rw [<- hll, <- h6, List.map_append]; exact g2
end Go.Abs.Try
namespace Go.Abs.Try
open Go Go.Abs
variable {O : Type}
theorem bits_ok {a : SA} {n : Nat} {bs : List Int} {J : AH O} (hr : Rd J 1 a n (bs.map (AV.i .u8))) (ho : Old J a) (hb : Bytes bs) (hn : n <= 1000000) :
  Ok (haymowref06_Bits [.sl a n] J) fun r => ∃ a', r.1 = .sl a' (bitsB bs).length /\ OwnS r.2 4 1 a' (bitsB bs).length ((bitsB bs).map AV.b) /\ Ext J r.2 /\ ∀ b ∈ SA.bk a', J.next <= b := by
 have hl : bs.length = n := by have := hr.len; simpa using this
 subst hl
 simp (maxSteps := 2000000) -implicitDefEqProofs (disch := (first | omega | rfl | assumption | (simp only [rsD]; first | omega | assumption))) only [haymowref06_Bits, haymowref06_Bits_c, Nat.reduceAdd, Nat.reduceMul, Nat.reduceLT, Int.reduceToNat, Int.reduceAdd, Int.reduceSub, Int.reduceMul, rsU, rsC]
 refine Ok.step (Q := fun s => ∃ a', s.1 = [.sl a' (bitsB bs).length] /\ OwnS s.2 4 1 a' (bitsB bs).length ((bitsB bs).map AV.b) /\ Ext J s.2 /\ ∀ b ∈ SA.bk a', J.next <= b) ?_ ?_
 ·refine Ok.count bs.length (fun k s => ∃ a' J2, s = ([.sl a' (bitsB (bs.take k)).length, .i .i64 (k : Int)], J2) /\ OwnS J2 4 1 a' (bitsB (bs.take k)).length ((bitsB (bs.take k)).map AV.b) /\ Ext J J2 /\ ∀ b ∈ SA.bk a', J.next <= b) ?_ ?_ ⟨.nil, J, rfl, OwnS.nil _ _ _, Ext.refl J, by simp [SA.bk]⟩
  ·rintro k _ hk ⟨a', J2, rfl, own, E, fr⟩
   have hc := bytes_get hb hk
   have hlen : (bitsB (bs.take k)).length = 8 * k := by rw [bitsB_len]; simp; omega
   have hlen2 : (bitsB (bs.take (k + 1))).length = 8 * k + 8 := by rw [bitsB_len]; simp; omega
   simp (maxSteps := 2000000) -implicitDefEqProofs (disch := (first | omega | rfl | assumption | (simp only [rsD]; first | omega | assumption))) only [haymowref06_Bits_L1, Nat.reduceAdd, Nat.reduceMul, Nat.reduceLT, Int.reduceToNat, Int.reduceAdd, Int.reduceSub, Int.reduceMul, rsU, rsC]
   refine Ok.step (Q := fun s => ∃ a3, s.1 = [.sl a3 (8 * k + 8)] /\ OwnS s.2 4 1 a3 (8 * k + 8) ((bitsB (bs.take (k + 1))).map AV.b) /\ Ext J s.2 /\ ∀ b ∈ SA.bk a3, J.next <= b) ?_ ?_
   ·refine Ok.count 8 (fun j s => ∃ a3 J3, s = ([.sl a3 (8 * k + j), .i .i64 (7 - (j : Int))], J3) /\ OwnS J3 4 1 a3 (8 * k + j) ((bitsB (bs.take k) ++ (bits8 bs[k].toNat).take j).map AV.b) /\ Ext J J3 /\ ∀ b ∈ SA.bk a3, J.next <= b) ?_ ?_ ⟨a', J2, by rw [hlen]; rfl, by rw [hlen] at own; simpa using own, E, fr⟩
    ·rintro j _ hj ⟨a3, J3, rfl, own3, E3, fr3⟩
     obtain ⟨bb, oo, r1, ld⟩ := rd_at1 ((hr.lt ho E3).of (J' := J3.bump 2) fun _ _ => rfl) (map_get (k := .u8) hk)
     have d0 : decide (7 - (j : Int) >= 0) = true := decide_eq_true (by omega)
     have e1 : IntKind.u64.wrap (7 - (j : Int)) = ((7 - j : Nat) : Int) := by rw [u64_id (by omega) (by omega)]; omega
     have hneg : decide (((7 - j : Nat) : Int) < 0) = false := decide_eq_false (by omega)
     have hmin : min (7 - j) 8 = 7 - j := by omega
     simp (maxSteps := 2000000) -implicitDefEqProofs (disch := (first | omega | rfl | assumption | (simp only [rsD]; first | omega | assumption))) only [haymowref06_Bits_L2, d0, r1, ld, e1, hneg, Int.toNat_natCast, hmin, bit_eq' hc.1, Nat.reduceAdd, Nat.reduceMul, Nat.reduceLT, Int.reduceToNat, Int.reduceAdd, Int.reduceSub, Int.reduceMul, rsU, rsC]
     refine Ok.step (grow1 own3) fun q ⟨a4, g1, g2, g3, g4⟩ => ?_
     obtain ⟨q, J4⟩ := q
     simp only at g1 g2 g3 g4
     subst g1
     simp (maxSteps := 2000000) -implicitDefEqProofs (disch := (first | omega | rfl | assumption | (simp only [rsD]; first | omega | assumption))) only [Nat.reduceAdd, Nat.reduceMul, Nat.reduceLT, Int.reduceToNat, Int.reduceAdd, Int.reduceSub, Int.reduceMul, rsU, rsC]
     refine Ok_some.2 ⟨a4, J4, ?_, ?_, Chg.new E3 fr3 g3, fun b hb => by have := g4 b hb; have := E3.next; omega⟩
     ·have : 7 - (j : Int) - 1 = 7 - ((j + 1 : Nat) : Int) := by omega
      rw [this]; rfl
     ·have hj8 : j < (bits8 bs[k].toNat).length := by simp [bits8]; exact hj
      rw [List.take_succ_eq_append_getElem hj8]
      have hb8 : (bits8 bs[k].toNat)[j] = bs[k].toNat.testBit (7 - j) := by
       rw [<- bits8_get _ _ hj]; simp [List.getD, hj8]
      rw [hb8, <- Nat.add_assoc, <- List.append_assoc, List.map_append]
      exact g2
    ·rintro _ ⟨a3, J3, rfl, own3, E3, fr3⟩
     have d0 : decide (7 - ((8 : Nat) : Int) >= 0) = false := decide_eq_false (by omega)
     simp (maxSteps := 2000000) -implicitDefEqProofs (disch := (first | omega | rfl | assumption | (simp only [rsD]; first | omega | assumption))) only [haymowref06_Bits_L2, d0, Nat.reduceAdd, Nat.reduceMul, Nat.reduceLT, Int.reduceToNat, Int.reduceAdd, Int.reduceSub, Int.reduceMul, rsU, rsC]
     rw [List.take_of_length_le (l := bits8 bs[k].toNat) (by simp [bits8]), <- bitsB_take hk] at own3
     exact Ok_some.2 ⟨a3, rfl, own3, E3, fr3⟩
   ·rintro ⟨rv, J3⟩ ⟨a3, e, own3, E3, fr3⟩
    simp only at e own3 E3
    subst e
    simp (maxSteps := 2000000) -implicitDefEqProofs (disch := (first | omega | rfl | assumption | (simp only [rsD]; first | omega | assumption))) only [Nat.reduceAdd, Nat.reduceMul, Nat.reduceLT, Int.reduceToNat, Int.reduceAdd, Int.reduceSub, Int.reduceMul, rsU, rsC]
    exact Ok_some.2 ⟨a3, J3, by rw [hlen2]; simp, by rw [hlen2]; exact own3, E3, fr3⟩
  ·rintro _ ⟨a', J2, rfl, own, E, fr⟩
   rw [List.take_length] at own
   simp (maxSteps := 2000000) -implicitDefEqProofs (disch := (first | omega | rfl | assumption | (simp only [rsD]; first | omega | assumption))) only [haymowref06_Bits_L1, Nat.reduceAdd, Nat.reduceMul, Nat.reduceLT, Int.reduceToNat, Int.reduceAdd, Int.reduceSub, Int.reduceMul, rsU, rsC]
   exact Ok_some.2 ⟨a', by simp, own, E, fr⟩
 ·rintro ⟨rv, J2⟩ ⟨a', e, own, E, fr⟩
  simp only at e own E
  subst e
  simp (maxSteps := 2000000) -implicitDefEqProofs (disch := (first | omega | rfl | assumption | (simp only [rsD]; first | omega | assumption))) only [Nat.reduceAdd, Nat.reduceMul, Nat.reduceLT, Int.reduceToNat, Int.reduceAdd, Int.reduceSub, Int.reduceMul, rsU, rsC]
  exact Ok_some.2 ⟨a', rfl, own, E, fr⟩
theorem list_ok {w : W} {J : AH O} : Ok (haymowref06_List [.i .u64 (wI w)] J) fun r => r.1 = .sl (.loc (.n J.next) 0 1) 64 /\ r.2.blk J.next = some (.cells true 4 ((bitsW w).map AV.b)) /\ Ext J r.2 /\ J.next < r.2.next := by
 have hwr := wI_range w
 have hz : (List.replicate 64 [AV.b false]).flatten = (List.replicate 64 false).map AV.b := rfl
 simp (maxSteps := 2000000) -implicitDefEqProofs (disch := (first | omega | rfl | assumption | (simp only [rsD]; first | omega | assumption))) only [haymowref06_List, haymowref06_List_c, hz, Nat.reduceAdd, Nat.reduceMul, Nat.reduceLT, Int.reduceToNat, Int.reduceAdd, Int.reduceSub, Int.reduceMul, rsU, rsC]
 generalize hJ : (J.bump 1).put J.next _ = J1
 obtain ⟨E1, n1, b1⟩ := box1 hJ
 clear hJ
 refine Ok.step (Q := fun s => s.1 = [] /\ s.2.blk J.next = some (.cells true 4 ((bitsW w).map AV.b)) /\ Chg [J.next] J1 s.2) ?_ ?_
 ·refine Ok.count 64 (fun k s => ∃ J2, s = ([.i .u64 (wI w / 2 ^ k), .i .i64 (63 - (k : Int))], J2) /\ J2.blk J.next = some (.cells true 4 ((List.replicate (64 - k) false ++ (bitsW w).drop (64 - k)).map AV.b)) /\ Chg [J.next] J1 J2) ?_ ?_ ⟨J1, by simp, by rw [Nat.sub_zero, List.drop_of_length_le (by rw [bitsW_len]; omega), List.append_nil]; exact b1, Chg.refl _ _⟩
  ·rintro k _ hk ⟨J2, rfl, b2, C2⟩
   have e1 : 63 - (k : Int) = ((63 - k : Nat) : Int) := by omega
   have hp : (0 : Int) < 2 ^ k := Int.pow_pos (by omega)
   have hq : 0 <= wI w / 2 ^ k := Int.ediv_nonneg hwr.1 (by omega)
   have hq' : wI w / 2 ^ k < 18446744073709551616 := Int.lt_of_le_of_lt (Int.ediv_le_self _ hwr.1) hwr.2
   have hbit : ((Int.tmod (wI w / 2 ^ k) 2 : Int) == 1) = w.getLsbD k := by
    have := bit_eq' hwr.1 k
    rw [Int.fdiv_eq_ediv_of_nonneg _ (by omega)] at this
    rw [this]; rfl
   have hdiv : IntKind.u64.wrap (Int.tdiv (wI w / 2 ^ k) 2) = wI w / 2 ^ (k + 1) := by
    rw [Int.tdiv_eq_ediv_of_nonneg hq, u64_id (by omega) (by omega), Int.ediv_ediv_of_nonneg (by omega), Int.pow_succ]
   have hlen : ((List.replicate (64 - k) false ++ (bitsW w).drop (64 - k)).map AV.b).length = 64 := by simp [bitsW_len] <;> omega
   have d0 : decide (63 - (k : Int) >= 0) = true := decide_eq_true (by omega)
   generalize hL : (List.replicate (64 - k) false ++ (bitsW w).drop (64 - k)) = L at *
   have hL2 : L.set (63 - k) (w.getLsbD k) = List.replicate (64 - (k + 1)) false ++ (bitsW w).drop (64 - (k + 1)) := by
    rw [<- hL, show 64 - k = (63 - k) + 1 by omega, rep_set]
    rw [show 64 - (k + 1) = 63 - k by omega]
    congr 1
    have hk3 : 63 - k < (bitsW w).length := by rw [bitsW_len]; omega
    rw [List.drop_eq_getElem_cons hk3]
    congr 1
    have := bitsW_get (s := w) (k := 63 - k) (by omega)
    rw [List.getElem?_eq_getElem hk3] at this
    have h5 := Option.some.inj this
    rw [h5]; congr 1; omega
   have hsp : splice (L.map AV.b) (63 - k) [.b (w.getLsbD k)] = (L.set (63 - k) (w.getLsbD k)).map AV.b := by rw [splice_set (by omega), List.map_set]
   rw [hL2] at hsp
   rw [e1] at d0 ⊢
   simp (maxSteps := 2000000) -implicitDefEqProofs (disch := (first | omega | rfl | assumption | (simp only [rsD]; first | omega | assumption))) only [haymowref06_List_L1, d0, hbit, hdiv, b2, Int.toNat_natCast, Nat.zero_add, hlen, hsp, Nat.reduceAdd, Nat.reduceMul, Nat.reduceLT, Int.reduceToNat, Int.reduceAdd, Int.reduceSub, Int.reduceMul, rsU, rsC]
   refine Ok_some.2 ⟨_, ?_, s_bs, C2.put (by simp) _⟩
   have e9 : ((63 - k : Nat) : Int) - 1 = 63 - ((k + 1 : Nat) : Int) := by omega
   rw [e9]
  ·rintro _ ⟨J2, rfl, b2, C2⟩
   have d0 : decide (63 - ((64 : Nat) : Int) >= 0) = false := decide_eq_false (by omega)
   simp (maxSteps := 2000000) -implicitDefEqProofs (disch := (first | omega | rfl | assumption | (simp only [rsD]; first | omega | assumption))) only [haymowref06_List_L1, d0, Nat.reduceAdd, Nat.reduceMul, Nat.reduceLT, Int.reduceToNat, Int.reduceAdd, Int.reduceSub, Int.reduceMul, rsU, rsC]
   exact Ok_some.2 ⟨rfl, by simpa using b2, C2⟩
 ·rintro ⟨rv, J2⟩ ⟨e, b2, C2⟩
  simp only at e b2 C2
  simp (maxSteps := 2000000) -implicitDefEqProofs (disch := (first | omega | rfl | assumption | (simp only [rsD]; first | omega | assumption))) only [Nat.reduceAdd, Nat.reduceMul, Nat.reduceLT, Int.reduceToNat, Int.reduceAdd, Int.reduceSub, Int.reduceMul, rsU, rsC]
  have n2 := C2.next
  exact Ok_some.2 ⟨rfl, b2, ⟨by have := E1.next; simp only; omega, fun q hq => (C2.blk q (by omega) (by simp; omega)).trans (E1.blk q hq)⟩, by simp only; omega⟩
theorem word_ok {w : W} {a : SA} {J : AH O} (hr : Rd J 1 a 64 ((bitsW w).map AV.b)) : Ok (haymowref06_Word [.sl a 64] J) fun r => r = (.i .u64 (wI w), J) := by
 simp (maxSteps := 2000000) -implicitDefEqProofs (disch := (first | omega | rfl | assumption | (simp only [rsD]; first | omega | assumption))) only [haymowref06_Word, haymowref06_Word_c, Nat.reduceAdd, Nat.reduceMul, Nat.reduceLT, Int.reduceToNat, Int.reduceAdd, Int.reduceSub, Int.reduceMul, rsU, rsC]
 refine Ok.step (Q := fun r => r = ([.i .u64 (wI w)], J)) ?_ ?_
 ·refine Ok.count 64 (fun k s => s = ([.i .u64 (valR ((bitsW w).take k).reverse), .i .i64 (k : Int)], J)) ?_ ?_ rfl
  ·rintro k s hk rfl
   have d0 : decide ((k : Int) < 64) = true := decide_eq_true (by omega)
   have hkl : k < (bitsW w).length := by rw [bitsW_len]; exact hk
   have hv1 : ((bitsW w).map AV.b)[k]? = some (.b (bitsW w)[k]) := by rw [List.getElem?_map, List.getElem?_eq_getElem hkl]; rfl
   obtain ⟨bb, oo, r1, ld⟩ := rd_at1 hr hv1
   have hv : valR ((bitsW w).take (k + 1)).reverse = 2 * valR ((bitsW w).take k).reverse + (bitsW w)[k].toNat := by
    rw [List.take_succ_eq_append_getElem hkl, List.reverse_append]; rfl
   have hlt := valR_lt ((bitsW w).take (k + 1)).reverse
   have h64 : 2 ^ ((bitsW w).take (k + 1)).reverse.length <= 2 ^ 64 := Nat.pow_le_pow_right (by omega) (by simp; omega)
   rw [hv] at hlt
   rw [hv]
   generalize valR ((bitsW w).take k).reverse = v at *
   cases hbk : (bitsW w)[k] with
   | true =>
    rw [hbk] at hlt ld
    simp only [Bool.toNat_true] at hlt
    simp (maxSteps := 2000000) -implicitDefEqProofs (disch := (first | omega | rfl | assumption | (simp only [rsD]; first | omega | assumption))) only [haymowref06_Word_L1, d0, r1, ld, Nat.reduceAdd, Nat.reduceMul, Nat.reduceLT, Int.reduceToNat, Int.reduceAdd, Int.reduceSub, Int.reduceMul, rsU, rsC]
    exact Ok_some.2 (by simp; omega)
   | false =>
    rw [hbk] at hlt ld
    simp only [Bool.toNat_false] at hlt
    simp (maxSteps := 2000000) -implicitDefEqProofs (disch := (first | omega | rfl | assumption | (simp only [rsD]; first | omega | assumption))) only [haymowref06_Word_L1, d0, r1, ld, Nat.reduceAdd, Nat.reduceMul, Nat.reduceLT, Int.reduceToNat, Int.reduceAdd, Int.reduceSub, Int.reduceMul, rsU, rsC]
    exact Ok_some.2 (by simp; omega)
  ·rintro s rfl
   have d0 : decide (((64 : Nat) : Int) < 64) = false := decide_eq_false (by omega)
   simp (maxSteps := 2000000) -implicitDefEqProofs (disch := (first | omega | rfl | assumption | (simp only [rsD]; first | omega | assumption))) only [haymowref06_Word_L1, d0, Nat.reduceAdd, Nat.reduceMul, Nat.reduceLT, Int.reduceToNat, Int.reduceAdd, Int.reduceSub, Int.reduceMul, rsU, rsC]
   rw [List.take_of_length_le (by rw [bitsW_len]; omega), valR_word]
   exact Ok_some.2 rfl
 ·rintro r rfl
  simp (maxSteps := 2000000) -implicitDefEqProofs (disch := (first | omega | rfl | assumption | (simp only [rsD]; first | omega | assumption))) only [Nat.reduceAdd, Nat.reduceMul, Nat.reduceLT, Int.reduceToNat, Int.reduceAdd, Int.reduceSub, Int.reduceMul, rsU, rsC]
  exact Ok_some.2 rfl
end Go.Abs.Try
namespace Go.Abs.Try
open Go Go.Abs
variable {O : Type}
end Go.Abs.Try
namespace Go.Abs.Try
open Go Go.Abs
variable {O : Type}
theorem refMore_ok {s : W} {a : SA} {n : Nat} {bs : List Int} {J : AH O} (hr : Rd J 1 a n (bs.map (AV.i .u8))) (ho : Old J a) (hb : Bytes bs) (hn : n <= 1000000) :
  Ok (haymowref06_More [.i .u64 (wI s), .sl a n] J) fun r => r.1 = .i .u64 (wI (crc s (bitsB bs))) /\ Ext J r.2 := by
 have hl : bs.length = n := by have := hr.len; simpa using this
 simp (maxSteps := 2000000) -implicitDefEqProofs (disch := (first | omega | rfl | assumption | (simp only [rsD]; first | omega | assumption))) only [haymowref06_More, haymowref06_More_c, Nat.reduceAdd, Nat.reduceMul, Nat.reduceLT, Int.reduceToNat, Int.reduceAdd, Int.reduceSub, Int.reduceMul, rsU, rsC]
 refine Ok.step (bits_ok (J := J.bump 1) (hr.of fun _ _ => rfl) (fun b hb => by have := ho b hb; simp only [bump_next]; omega) hb hn) fun r ⟨a1, g1, g2, E1, g4⟩ => ?_
 obtain ⟨q, J1⟩ := r
 simp only at g1 g2 E1
 subst g1
 obtain ⟨N, hN⟩ : ∃ N : Nat, N = (bitsB bs).length := ⟨_, rfl⟩
 have hN8 : N = 8 * n := by rw [hN, bitsB_len, hl]
 rw [<- hN] at g2 ⊢
 generalize hm : bitsB bs = m at *
 have n1 := E1.next
 simp only [bump_next] at n1 g4
 have hz : (List.replicate 64 [AV.b false]).flatten = (List.replicate 64 false).map AV.b := rfl
 simp (maxSteps := 2000000) -implicitDefEqProofs (disch := (first | omega | rfl | assumption | (simp only [rsD]; first | omega | assumption))) only [hz, Nat.reduceAdd, Nat.reduceMul, Nat.reduceLT, Int.reduceToNat, Int.reduceAdd, Int.reduceSub, Int.reduceMul, rsU, rsC]
 refine Ok.step (app_ok (nid := J.next) g2 (fun hm => by have := g4 _ hm; omega) (by omega) (show ((List.replicate 64 false).map AV.b).length = 64 * 1 by simp)) fun r ⟨a2, k1, k2, k3, k4, k5⟩ => ?_
 obtain ⟨q, J2⟩ := r
 simp only at k1 k2 k3 k4
 subst k1
 rw [<- List.map_append] at k2
 have E2 : Ext J J2 := ⟨by omega, fun b hb => by
  rw [k4 b (by omega) (fun hm => by have := g4 _ hm; omega), E1.blk b (by simp; omega)]; rfl⟩
 obtain ⟨lb, rfl, hlb, hll⟩ := k2.loc (by omega)
 have hlbn := k5 lb (by simp [SA.bk])
 subst hlbn
 simp (maxSteps := 2000000) -implicitDefEqProofs (disch := (first | omega | rfl | assumption | (simp only [rsD]; first | omega | assumption))) only [Nat.reduceAdd, Nat.reduceMul, Nat.reduceLT, Int.reduceToNat, Int.reduceAdd, Int.reduceSub, Int.reduceMul, rsU, rsC]
 refine Ok.step (list_ok (w := s)) fun r ⟨q1, q2, E3, q4⟩ => ?_
 obtain ⟨q, J3⟩ := r
 simp only at q1 q2 E3 q4
 subst q1
 simp (maxSteps := 2000000) -implicitDefEqProofs (disch := (first | omega | rfl | assumption | (simp only [rsD]; first | omega | assumption))) only [Nat.reduceAdd, Nat.reduceMul, Nat.reduceLT, Int.reduceToNat, Int.reduceAdd, Int.reduceSub, Int.reduceMul, rsU, rsC]
 rw [poly_int]
 refine Ok.step (list_ok (w := poly)) fun r ⟨p1, p2, E4, p4⟩ => ?_
 obtain ⟨q, J4⟩ := r
 simp only at p1 p2 E4 p4
 subst p1
 have n3 := E3.next
 have n4 := E4.next
 have hlb4 : J4.blk J.next = _ := (E4.blk _ (by omega)).trans ((E3.blk _ (by omega)).trans hlb)
 have hsb4 : J4.blk J2.next = _ := (E4.blk _ (by omega)).trans q2
 have E24 := (E2.trans E3).trans E4
 have hml : m.length = N := hN.symm
 have vL : ∀ {L : List Bool} {j : Nat} {b : Bool}, L[j]? = some b -> (L.map AV.b)[j]? = some (.b b) := fun h => by rw [List.getElem?_map, h]; rfl
 simp (maxSteps := 2000000) -implicitDefEqProofs (disch := (first | omega | rfl | assumption | (simp only [rsD]; first | omega | assumption))) only [Nat.reduceAdd, Nat.reduceMul, Nat.reduceLT, Int.reduceToNat, Int.reduceAdd, Int.reduceSub, Int.reduceMul, rsU, rsC]
 refine Ok.step (Q := fun st => st.1 = [] /\ ∃ L : List Bool, L.length = N + 64 /\ st.2.blk J.next = some (.cells true 4 (L.map AV.b)) /\ Chg [J.next] J4 st.2 /\ ∀ j, j < N + 64 -> L[j]? = some (FF s 0 m j)) ?_ ?_
 ·refine Ok.count 64 (fun k st => ∃ (J' : AH O) (L : List Bool), st = ([.i .i64 (k : Int)], J') /\ L.length = N + 64 /\ J'.blk J.next = some (.cells true 4 (L.map AV.b)) /\ Chg [J.next] J4 J' /\ ∀ j, j < N + 64 -> L[j]? = some (if j < k then FF s 0 m j else m.getD j false)) ?_ ?_
   ⟨J4, m ++ List.replicate 64 false, rfl, by simp [hml], hlb4, Chg.refl _ _, fun j hj => ?_⟩
  ·rintro k st hk ⟨J', L, rfl, hL, h3, C, h6⟩
   have d0 : decide ((k : Int) < 64) = true := decide_eq_true (by omega)
   have v1 := h6 k (by omega)
   rw [if_neg (by omega)] at v1
   have f1 := vL v1
   have f2 := vL (bitsW_get (s := s) hk)
   have hsb : J'.blk J2.next = _ := (C.blk _ (by omega) (by simp; omega)).trans hsb4
   have hlm : (L.map AV.b).length = N + 64 := by rw [List.length_map, hL]
   have hsp : ∀ b, splice (L.map AV.b) k [.b b] = (L.set k b).map AV.b := fun b => by rw [splice_set (by omega), List.map_set]
   simp (maxSteps := 2000000) -implicitDefEqProofs (disch := (first | omega | rfl | assumption | (simp only [rsD]; first | omega | assumption))) only [haymowref06_More_L1, d0, h3, hsb, f1, f2, not_beq_xor, Int.toNat_natCast, Nat.zero_add, hlm, hsp, Nat.reduceAdd, Nat.reduceMul, Nat.reduceLT, Int.reduceToNat, Int.reduceAdd, Int.reduceSub, Int.reduceMul, rsU, rsC]
   refine Ok_some.2 ⟨_, L.set k (m.getD k false ^^ s.getLsbD (63 - k)), rfl, by rw [List.length_set]; exact hL, s_bs, C.put (by simp) _, fun j hj => ?_⟩
   rw [List.getElem?_set]
   by_cases hjk : k = j
   ·subst hjk
    rw [if_pos rfl, if_pos (by omega), if_pos (by omega)]
    unfold FF
    simp only [Nat.sub_zero, hk, decide_true, Bool.true_and]
    congr 1
    cases m.getD k false <;> cases s.getLsbD (63 - k) <;> rfl
   ·rw [if_neg hjk, h6 j hj]
    congr 1
    by_cases h : j < k
    ·rw [if_pos h, if_pos (by omega)]
    ·rw [if_neg h, if_neg (by omega)]
  ·rintro st ⟨J', L, rfl, hL, h3, C, h6⟩
   have d0 : decide (((64 : Nat) : Int) < 64) = false := decide_eq_false (by omega)
   simp (maxSteps := 2000000) -implicitDefEqProofs (disch := (first | omega | rfl | assumption | (simp only [rsD]; first | omega | assumption))) only [haymowref06_More_L1, d0, Nat.reduceAdd, Nat.reduceMul, Nat.reduceLT, Int.reduceToNat, Int.reduceAdd, Int.reduceSub, Int.reduceMul, rsU, rsC]
   refine Ok_some.2 ⟨rfl, L, hL, h3, C, fun j hj => ?_⟩
   rw [h6 j hj]
   by_cases h : j < 64
   ·rw [if_pos h]
   ·rw [if_neg h]
    unfold FF
    simp [h]
  ·rw [if_neg (by omega)]
   by_cases hjN : j < N
   ·rw [List.getElem?_append_left (by omega)]
    have : j < m.length := by omega
    simp [List.getD, this]
   ·rw [List.getElem?_append_right (by omega)]
    have : m[j]? = none := List.getElem?_eq_none (by omega)
    rw [List.getElem?_replicate, if_pos (by omega)]
    simp [List.getD, this]
 ·rintro ⟨st1, J5⟩ ⟨w1, L, hL, h3, C, h6⟩
  simp only at w1 h3 C
  subst w1
  have hwN : ((N + 64 : Nat) : Int) - 64 = (N : Int) := by omega
  simp (maxSteps := 2000000) -implicitDefEqProofs (disch := (first | omega | rfl | assumption | (simp only [rsD]; first | omega | assumption))) only [hwN, Nat.reduceAdd, Nat.reduceMul, Nat.reduceLT, Int.reduceToNat, Int.reduceAdd, Int.reduceSub, Int.reduceMul, rsU, rsC]
  refine Ok.step (Q := fun st => st.1 = [] /\ ∃ L : List Bool, L.length = N + 64 /\ st.2.blk J.next = some (.cells true 4 (L.map AV.b)) /\ Chg [J.next] J4 st.2 /\ ∀ j, N <= j -> j < N + 64 -> L[j]? = some (FF (crc s m) N m j)) ?_ ?_
  ·refine Ok.count N (fun i st => ∃ (J' : AH O) (L : List Bool), st = ([.i .i64 (i : Int)], J') /\ L.length = N + 64 /\ J'.blk J.next = some (.cells true 4 (L.map AV.b)) /\ Chg [J.next] J4 J' /\ ∀ j, i <= j -> j < N + 64 -> L[j]? = some (FF (crc s (m.take i)) i m j)) ?_ ?_
    ⟨J5, L, rfl, hL, h3, C, fun j _ hj => h6 j hj⟩
   ·rintro i st hi ⟨J', L, rfl, hL, h3, C, h6⟩
    have him : i < m.length := by omega
    have hmi : m.getD i false = m[i] := by simp [List.getD, him]
    have hnext : crc s (m.take (i + 1)) = feed (crc s (m.take i)) m[i] := by
     rw [List.take_succ_eq_append_getElem him, crc_app]; rfl
    rw [hnext]
    generalize crc s (m.take i) = st at *
    have v1 := h6 i (Nat.le_refl _) (by omega)
    have hFi : FF st i m i = (st.getLsbD 63 ^^ m[i]) := by
     unfold FF
     rw [Nat.sub_self, hmi]; rfl
    have f1 := vL v1
    have d0 : decide ((i : Int) < (N : Int)) = true := decide_eq_true (by omega)
    simp (maxSteps := 2000000) -implicitDefEqProofs (disch := (first | omega | rfl | assumption | (simp only [rsD]; first | omega | assumption))) only [haymowref06_More_L2, hwN, d0, h3, f1, Nat.zero_add, Int.toNat_natCast, Nat.reduceAdd, Nat.reduceMul, Nat.reduceLT, Int.reduceToNat, Int.reduceAdd, Int.reduceSub, Int.reduceMul, rsU, rsC]
    refine Ok.step (Q := fun r => ∃ L : List Bool, L.length = N + 64 /\ r.2.blk J.next = some (.cells true 4 (L.map AV.b)) /\ Chg [J.next] J4 r.2 /\ ∀ j, i + 1 <= j -> j < N + 64 -> L[j]? = some (FF (feed st m[i]) (i + 1) m j)) ?_ ?_
    ·cases hh : FF st i m i with
     | false =>
      rw [hh] at hFi
      simp (maxSteps := 2000000) -implicitDefEqProofs (disch := (first | omega | rfl | assumption | (simp only [rsD]; first | omega | assumption))) only [Nat.reduceAdd, Nat.reduceMul, Nat.reduceLT, Int.reduceToNat, Int.reduceAdd, Int.reduceSub, Int.reduceMul, rsU, rsC]
      refine Ok_some.2 ⟨L, hL, h3, C, fun j hj1 hj2 => ?_⟩
      rw [h6 j (by omega) hj2, FF_next hj1, <- hFi]
      simp
     | true =>
      rw [hh] at hFi
      simp (maxSteps := 2000000) -implicitDefEqProofs (disch := (first | omega | rfl | assumption | (simp only [rsD]; first | omega | assumption))) only [Nat.reduceAdd, Nat.reduceMul, Nat.reduceLT, Int.reduceToNat, Int.reduceAdd, Int.reduceSub, Int.reduceMul, rsU, rsC]
      refine Ok.step (Q := fun r => ∃ L : List Bool, L.length = N + 64 /\ r.2.blk J.next = some (.cells true 4 (L.map AV.b)) /\ Chg [J.next] J4 r.2 /\ ∀ j, i + 1 <= j -> j < N + 64 -> L[j]? = some (FF (feed st m[i]) (i + 1) m j)) ?_ ?_
      ·refine Ok.count 64 (fun k s' => ∃ (J' : AH O) (L : List Bool), s' = ([.i .i64 (k : Int)], J') /\ L.length = N + 64 /\ J'.blk J.next = some (.cells true 4 (L.map AV.b)) /\ Chg [J.next] J4 J' /\ ∀ j, i + 1 <= j -> j < N + 64 -> L[j]? = some (if j < i + 1 + k then FF (feed st m[i]) (i + 1) m j else FF st i m j)) ?_ ?_
        ⟨J', L, rfl, hL, h3, C, fun j hj1 hj2 => ?_⟩
       ·rintro k s' hk ⟨J', L, rfl, hL, h3, C, h6⟩
        have d1 : decide ((k : Int) < 64) = true := decide_eq_true (by omega)
        have v1 := h6 (i + 1 + k) (by omega) (by omega)
        rw [if_neg (by omega)] at v1
        have f1 := vL v1
        have f2 := vL (bitsW_get (s := poly) hk)
        have hpb : J'.blk J3.next = _ := (C.blk _ (by omega) (by simp; omega)).trans p2
        have hlm : (L.map AV.b).length = N + 64 := by rw [List.length_map, hL]
        have tn : ((i : Int) + 1 + (k : Int)).toNat = i + 1 + k := by omega
        have hsp : ∀ b, splice (L.map AV.b) (i + 1 + k) [.b b] = (L.set (i + 1 + k) b).map AV.b := fun b => by rw [splice_set (by omega), List.map_set]
        simp (maxSteps := 2000000) -implicitDefEqProofs (disch := (first | omega | rfl | assumption | (simp only [rsD]; first | omega | assumption))) only [haymowref06_More_L3, d1, h3, hpb, tn, f1, f2, not_beq_xor, Int.toNat_natCast, Nat.zero_add, hlm, hsp, Nat.reduceAdd, Nat.reduceMul, Nat.reduceLT, Int.reduceToNat, Int.reduceAdd, Int.reduceSub, Int.reduceMul, rsU, rsC]
        refine Ok_some.2 ⟨_, L.set (i + 1 + k) (FF st i m (i + 1 + k) ^^ poly.getLsbD (63 - k)), rfl, by rw [List.length_set]; exact hL, s_bs, C.put (by simp) _, fun j hj1 hj2 => ?_⟩
        rw [List.getElem?_set]
        by_cases hjk : i + 1 + k = j
        ·subst hjk
         rw [if_pos rfl, if_pos (by omega), if_pos (by omega), FF_next hj1, <- hFi]
         have e : i + 1 + k - (i + 1) = k := by omega
         rw [e]
         simp [hk]
        ·rw [if_neg hjk, h6 j hj1 hj2]
         congr 1
         by_cases h : j < i + 1 + k
         ·rw [if_pos h, if_pos (by omega)]
         ·rw [if_neg h, if_neg (by omega)]
       ·rintro s' ⟨J', L, rfl, hL, h3, C, h6⟩
        have d1 : decide (((64 : Nat) : Int) < 64) = false := decide_eq_false (by omega)
        simp (maxSteps := 2000000) -implicitDefEqProofs (disch := (first | omega | rfl | assumption | (simp only [rsD]; first | omega | assumption))) only [haymowref06_More_L3, d1, Nat.reduceAdd, Nat.reduceMul, Nat.reduceLT, Int.reduceToNat, Int.reduceAdd, Int.reduceSub, Int.reduceMul, rsU, rsC]
        refine Ok_some.2 ⟨L, hL, h3, C, fun j hj1 hj2 => ?_⟩
        rw [h6 j hj1 hj2]
        congr 1
        by_cases h : j < i + 1 + 64
        ·rw [if_pos h]
        ·rw [if_neg h, FF_next hj1]
         have : ¬ j - (i + 1) < 64 := by omega
         simp [this]
       ·rw [if_neg (by omega)]; exact h6 j (by omega) hj2
      ·rintro ⟨s1, s2⟩ ⟨L, hL, h3, C, h6⟩
       simp (maxSteps := 2000000) -implicitDefEqProofs (disch := (first | omega | rfl | assumption | (simp only [rsD]; first | omega | assumption))) only [Nat.reduceAdd, Nat.reduceMul, Nat.reduceLT, Int.reduceToNat, Int.reduceAdd, Int.reduceSub, Int.reduceMul, rsU, rsC]
       exact Ok_some.2 ⟨L, hL, h3, C, h6⟩
    ·rintro ⟨s1, s2⟩ ⟨L, hL, h3, C, h6⟩
     simp (maxSteps := 2000000) -implicitDefEqProofs (disch := (first | omega | rfl | assumption | (simp only [rsD]; first | omega | assumption))) only [Nat.reduceAdd, Nat.reduceMul, Nat.reduceLT, Int.reduceToNat, Int.reduceAdd, Int.reduceSub, Int.reduceMul, rsU, rsC]
     exact Ok_some.2 ⟨s2, L, by simp, hL, h3, C, h6⟩
   ·rintro st ⟨J', L, rfl, hL, h3, C, h6⟩
    have d0 : decide ((N : Int) < (N : Int)) = false := decide_eq_false (by omega)
    simp (maxSteps := 2000000) -implicitDefEqProofs (disch := (first | omega | rfl | assumption | (simp only [rsD]; first | omega | assumption))) only [haymowref06_More_L2, hwN, d0, Nat.reduceAdd, Nat.reduceMul, Nat.reduceLT, Int.reduceToNat, Int.reduceAdd, Int.reduceSub, Int.reduceMul, rsU, rsC]
    rw [List.take_of_length_le (by omega)] at h6
    exact Ok_some.2 ⟨rfl, L, hL, h3, C, h6⟩
  ·rintro ⟨st1, J6⟩ ⟨w1, L, hL, h3, C, h6⟩
   simp only at w1 h3 C
   subst w1
   have n6 := C.next
   have own : OwnS J6 4 1 (.loc (.n J.next) 0 1) (N + 64) (L.map AV.b) := OwnS.new (by simp [hL]) h3 (by omega)
   obtain ⟨a3, b1, b2, _⟩ := own.rd.adv (lo := N) (m := 64) (by omega)
   simp only [Nat.mul_one] at b2
   rw [<- List.map_drop, <- List.map_take] at b2
   have hW : (L.drop N).take 64 = bitsW (crc s m) := by
    apply List.ext_getElem?
    intro k
    rw [List.getElem?_take]
    by_cases hk : k < 64
    ·rw [if_pos hk, List.getElem?_drop, h6 (N + k) (by omega) (by omega), bitsW_get hk]
     unfold FF
     have e : N + k - N = k := by omega
     have : m.getD (N + k) false = false := by
      have : m[N + k]? = none := List.getElem?_eq_none (by omega)
      simp [List.getD, this]
     rw [e, this]
     simp [hk]
    ·rw [if_neg hk, List.getElem?_eq_none (by rw [bitsW_len]; omega)]
   rw [hW] at b2
   have e64 : N + 64 - N = 64 := by omega
   have ha : a3 = SA.loc (Bid.n J.next) N 1 := by simpa [SA.adv, eq_comm] using b1
   rw [ha] at b2
   simp (maxSteps := 2000000) -implicitDefEqProofs (disch := (first | omega | rfl | assumption | (simp only [rsD]; first | omega | assumption))) only [hwN, Int.toNat_natCast, b1, e64, Nat.reduceAdd, Nat.reduceMul, Nat.reduceLT, Int.reduceToNat, Int.reduceAdd, Int.reduceSub, Int.reduceMul, rsU, rsC]
   refine Ok.step (word_ok b2) fun r hr1 => ?_
   subst hr1
   simp (maxSteps := 2000000) -implicitDefEqProofs (disch := (first | omega | rfl | assumption | (simp only [rsD]; first | omega | assumption))) only [Nat.reduceAdd, Nat.reduceMul, Nat.reduceLT, Int.reduceToNat, Int.reduceAdd, Int.reduceSub, Int.reduceMul, rsU, rsC]
   exact Ok_some.2 ⟨rfl, ⟨by have := E24.next; simp only; omega, fun q hq => (C.blk q (by omega) (by simp; omega)).trans (E24.blk q hq)⟩⟩
theorem refSeal_ok {a : SA} {n : Nat} {bs : List Int} {J : AH O} (hr : Rd J 1 a n (bs.map (AV.i .u8))) (ho : Old J a) (hb : Bytes bs) (hn : n <= 100000) :
  Ok (haymowref06_Seal [.sl a n] J) fun r => (∃ a', r.1 = .sl a' (sealed bs).length /\ Imm 1 a' (sealed bs).length ((sealed bs).map (AV.i .u8))) /\ Ext J r.2 := by
 have hl : bs.length = n := by have := hr.len; simpa using this
 have r0 : ((J.bump 2).put J.next (.cells true 5 [])).rdSl a n 1 = some (bs.map (AV.i .u8)) := (hr.of fun b hb => by have := ho b hb; exact s_bn (by omega)).rdSl
 have hsl : (sealed bs).length = n + 8 := by unfold sealed; rw [List.length_append, bytesW_len]; omega
 refine frz_ints (s := haymowref06_Seal_c haymowref06_Sum) (k := .u8) (l := sealed bs) ?_
 rw [hsl]
 simp (maxSteps := 2000000) -implicitDefEqProofs (disch := (first | omega | rfl | assumption | (simp only [rsD]; first | omega | assumption))) only [haymowref06_Seal_c, r0, Nat.reduceAdd, Nat.reduceMul, Nat.reduceLT, Int.reduceToNat, Int.reduceAdd, Int.reduceSub, Int.reduceMul, rsU, rsC]
 refine Ok.step (cpyN_ok (by rw [List.length_map]; exact hl)) fun q ⟨a1, m1, m2, m3, m4⟩ => ?_
 obtain ⟨q, J1⟩ := q
 simp only at m1 m2 m3 m4
 subst m1
 have rm := refMore_ok (s := 0#64) (hr.lt ho m3) (fun b hb => by have := ho b hb; have := m3.next; omega) hb (by omega)
 rw [wI_zero] at rm
 simp (maxSteps := 2000000) -implicitDefEqProofs (disch := (first | omega | rfl | assumption | (simp only [rsD]; first | omega | assumption))) only [haymowref06_Sum, haymowref06_Sum_c, Nat.reduceAdd, Nat.reduceMul, Nat.reduceLT, Int.reduceToNat, Int.reduceAdd, Int.reduceSub, Int.reduceMul, rsU, rsC]
 refine Ok.step rm fun r ⟨e, E2⟩ => ?_
 obtain ⟨q, J2⟩ := r
 simp only at e E2
 subst e
 have E12 := m3.trans E2
 have own2 := m2.of E2.next fun q hq => E2.blk q (m2.lt q hq)
 generalize hs : crc 0#64 (bitsB bs) = s at *
 simp (maxSteps := 2000000) -implicitDefEqProofs (disch := (first | omega | rfl | assumption | (simp only [rsD]; first | omega | assumption))) only [Nat.reduceAdd, Nat.reduceMul, Nat.reduceLT, Int.reduceToNat, Int.reduceAdd, Int.reduceSub, Int.reduceMul, rsU, rsC]
 refine Ok.step (Q := fun r => ∃ a', r.1 = [.sl a' (n + 8)] /\ OwnS r.2 5 1 a' (n + 8) ((sealed bs).map (AV.i .u8)) /\ Ext J r.2 /\ ∀ b ∈ SA.bk a', J.next <= b) ?_ ?_
 ·refine Ok.count 8 (fun k st => ∃ a' J3, st = ([.sl a' (n + k), .i .i64 (7 - (k : Int))], J3) /\ OwnS J3 5 1 a' (n + k) ((bs ++ (bytesW s).take k).map (AV.i .u8)) /\ Ext J J3 /\ ∀ b ∈ SA.bk a', J.next <= b) ?_ ?_ ⟨a1, J2, rfl, by simpa using own2, E12, m4⟩
  ·rintro k st hk ⟨a', J3, rfl, own, E, fr⟩
   have d0 : decide (7 - (k : Int) >= 0) = true := decide_eq_true (by omega)
   have e5 : IntKind.u64.wrap (IntKind.i64.wrap (8 * (7 - (k : Int)))) = ((56 - 8 * k : Nat) : Int) := by rw [i64_id (by omega) (by omega), u64_id (by omega) (by omega)]; omega
   have hmin : min (56 - 8 * k) 64 = 56 - 8 * k := by omega
   have hneg : decide (((56 - 8 * k : Nat) : Int) < 0) = false := decide_eq_false (by omega)
   have e6 : IntKind.u8.wrap (Int.fdiv (wI s) (2 ^ (56 - 8 * k))) = wI s / 2 ^ (56 - 8 * k) % 256 := by
    rw [Int.fdiv_eq_ediv_of_nonneg _ (Int.le_of_lt (Int.pow_pos (by omega))), wrap_u8]
   have d1 : decide ((n + k + 1) * 2 <= 35184372088832) = true := decide_eq_true (by omega)
   simp -implicitDefEqProofs only [haymowref06_Seal_L1, d0, e5, hneg, Int.toNat_natCast, hmin, e6, d1, Nat.reduceAdd, Nat.reduceMul, Nat.reduceLT, Int.reduceToNat, Int.reduceAdd, Int.reduceSub, Int.reduceMul, rsU, s_ldI, s_ldU, s_ldS, s_ldP, s_gtI, s_gtU, s_gtS, s_bleD, Nat.reduceLeDiff, decide_true, decide_false]
   refine Ok.step (grow1 own) fun q ⟨a3, g1, g2, g3, g4⟩ => ?_
   obtain ⟨q, J4⟩ := q
   simp only at g1 g2 g3 g4
   subst g1
   have e9 : IntKind.i64.wrap (7 - (k : Int) - 1) = 7 - ((k + 1 : Nat) : Int) := by rw [i64_id (by omega) (by omega)]; omega
   simp -implicitDefEqProofs only [e9, Nat.reduceAdd, Nat.reduceMul, Nat.reduceLT, Int.reduceToNat, Int.reduceAdd, Int.reduceSub, Int.reduceMul, rsU, s_ldI, s_ldU, s_ldS, s_ldP, s_gtI, s_gtU, s_gtS, s_bleD, Nat.reduceLeDiff, decide_true, decide_false]
   refine Ok_some.2 ⟨a3, J4, rfl, ?_, Chg.new E fr g3, fun b hb => by have := g4 b hb; have := E.next; omega⟩
   rw [bytesW_take hk, <- Nat.add_assoc, <- List.append_assoc, List.map_append]; exact g2
  ·rintro st ⟨a', J3, rfl, own, E, fr⟩
   have ht : (bytesW s).take 8 = bytesW s := List.take_of_length_le (by rw [bytesW_len]; omega)
   rw [ht] at own
   have d0 : decide (7 - ((8 : Nat) : Int) >= 0) = false := decide_eq_false (by omega)
   simp (maxSteps := 2000000) -implicitDefEqProofs (disch := (first | omega | rfl | assumption | (simp only [rsD]; first | omega | assumption))) only [haymowref06_Seal_L1, d0, Nat.reduceAdd, Nat.reduceMul, Nat.reduceLT, Int.reduceToNat, Int.reduceAdd, Int.reduceSub, Int.reduceMul, rsU, rsC]
   refine Ok_some.2 ⟨a', rfl, ?_, E, fr⟩
   unfold sealed
   rw [hs]; exact own
 ·rintro ⟨rv, J3⟩ ⟨a', e, own, E, fr⟩
  simp only at e own E
  subst e
  simp (maxSteps := 2000000) -implicitDefEqProofs (disch := (first | omega | rfl | assumption | (simp only [rsD]; first | omega | assumption))) only [Nat.reduceAdd, Nat.reduceMul, Nat.reduceLT, Int.reduceToNat, Int.reduceAdd, Int.reduceSub, Int.reduceMul, rsU, rsC]
  exact Ok_some.2 ⟨a', 5, rfl, own, E, fr⟩
end Go.Abs.Try
namespace Go.Abs.Try
open Go Go.Abs
variable {O : Type}
def openF (bs : List Int) : List Int × Int := if bs.length < 8 then ([], 6) else if bs = sealed (bs.take (bs.length - 8)) then (bs.take (bs.length - 8), 0) else ([], 60)
theorem open_ok {a : SA} {n : Nat} {bs : List Int} {J : AH O} (hr : Rd J 1 a n (bs.map (AV.i .u8))) (ho : Old J a) (hb : Bytes bs) (hn : n <= 1000000) :
  Ok (crc_Open [.sl a n] J) fun r => (∃ a', r.1 = .tup [.sl a' (openF bs).1.length, .i .i64 (openF bs).2] /\ Imm 1 a' (openF bs).1.length ((openF bs).1.map (AV.i .u8))) /\ Ext J r.2 := by
 have hl : bs.length = n := by have := hr.len; simpa using this
 refine frz_intsT (s := crc_Open_c crc_Sum crc_More) (k := .u8) (l := (openF bs).1) (vs := [.i .i64 (openF bs).2]) rfl ?_
 unfold openF
 rw [hl]
 by_cases h8 : n < 8
 ·have e1 : IntKind.i64.wrap ((n : Int) - 8) = (n : Int) - 8 := i64_id (by omega) (by omega)
  have d1 : decide ((n : Int) - 8 < 0) = true := decide_eq_true (by omega)
  rw [if_pos h8]
  simp (maxSteps := 2000000) -implicitDefEqProofs (disch := (first | omega | rfl | assumption | (simp only [rsD]; first | omega | assumption))) only [crc_Open_c, e1, d1, Nat.reduceAdd, Nat.reduceMul, Nat.reduceLT, Int.reduceToNat, Int.reduceAdd, Int.reduceSub, Int.reduceMul, rsU, rsC]
  exact Ok_some.2 ⟨.nil, 5, rfl, OwnS.nil _ _ _, Ext.refl J, by simp [SA.bk]⟩
 rw [if_neg h8]
 have e2 : (n : Int) - 8 = ((n - 8 : Nat) : Int) := by omega
 have e1 : IntKind.i64.wrap ((n : Int) - 8) = ((n - 8 : Nat) : Int) := by rw [i64_id (by omega) (by omega)]; exact e2
 have d1 : decide (((n - 8 : Nat) : Int) < 0) = false := decide_eq_false (by omega)
 have d0 : decide ((0 : Int) <= ((n - 8 : Nat) : Int)) = true := decide_eq_true (by omega)
 have d2 : decide (((n - 8 : Nat) : Int) <= (n : Int)) = true := decide_eq_true (by omega)
 have d3 : decide ((n : Int) <= (n : Int)) = true := decide_eq_true (by omega)
 have e3 : n - (n - 8) = 8 := by omega
 obtain ⟨a1, g1, g2, g2b⟩ := hr.adv (lo := 0) (m := n - 8) (by omega)
 obtain ⟨a2, g3, g4, g4b⟩ := hr.adv (lo := n - 8) (m := 8) (by omega)
 simp only [Nat.mul_one, List.drop_zero] at g2
 rw [<- List.map_take] at g2
 simp only [Nat.mul_one] at g4
 rw [<- List.map_drop, <- List.map_take, List.take_of_length_le (l := bs.drop (n - 8)) (by simp; omega)] at g4
 have o1 : Old J a1 := fun b hb => ho b (by rw [<- g2b]; exact hb)
 have o2 : Old J a2 := fun b hb => ho b (by rw [<- g4b]; exact hb)
 have hbt : Bytes (bs.take (n - 8)) := fun x hx => hb x (List.mem_of_mem_take hx)
 have hown := own_sum (p := bs.take (n - 8)) (q := bs.drop (n - 8)) hbt (hb.drop _) (by simp; omega)
 rw [List.take_append_drop] at hown
 simp (maxSteps := 2000000) -implicitDefEqProofs (disch := (first | omega | rfl | assumption | (simp only [rsD]; first | omega | assumption))) only [crc_Open_c, e1, d0, d1, d2, d3, g1, g3, Nat.sub_zero, e3, Int.toNat_natCast, Nat.reduceAdd, Nat.reduceMul, Nat.reduceLT, Int.reduceToNat, Int.reduceAdd, Int.reduceSub, Int.reduceMul, rsU, rsC]
 generalize hJ : (J.bump 1).put J.next _ = J1
 obtain ⟨E1, n1, b1⟩ := box1 hJ
 clear hJ
 refine Ok.step (sum1_ok b1 (g2.lt o1 E1) hbt (by omega)) fun r e => ?_
 subst e
 simp (maxSteps := 2000000) -implicitDefEqProofs (disch := (first | omega | rfl | assumption | (simp only [rsD]; first | omega | assumption))) only [Nat.reduceAdd, Nat.reduceMul, Nat.reduceLT, Int.reduceToNat, Int.reduceAdd, Int.reduceSub, Int.reduceMul, rsU, rsC]
 refine Ok.step (more_ok (g4.lt o2 E1) (hb.drop _) (by omega)) fun r e => ?_
 subst e
 by_cases h0 : crc (crc 0#64 (bitsB (bs.take (n - 8)))) (bitsB (bs.drop (n - 8))) = 0#64
 ·have hz : (wI (crc (crc 0#64 (bitsB (bs.take (n - 8)))) (bitsB (bs.drop (n - 8)))) == 0) = true := by rw [h0]; rfl
  rw [if_pos (hown.1 h0)]
  have r1 : ((J1.bump 2).put J1.next (.cells true 5 [])).rdSl a1 (n - 8) 1 = some ((bs.take (n - 8)).map (AV.i .u8)) := ((g2.lt o1 E1).of fun b hb => by have := o1 b hb; exact s_bn (by omega)).rdSl
  simp (maxSteps := 2000000) -implicitDefEqProofs (disch := (first | omega | rfl | assumption | (simp only [rsD]; first | omega | assumption))) only [hz, d0, d2, g1, Nat.sub_zero, r1, Int.toNat_natCast, Nat.reduceAdd, Nat.reduceMul, Nat.reduceLT, Int.reduceToNat, Int.reduceAdd, Int.reduceSub, Int.reduceMul, rsU, rsC]
  refine Ok.step (cpyN_ok (by simp; omega)) fun q ⟨a3, m1, m2, m3, m4⟩ => ?_
  obtain ⟨q, J2⟩ := q
  simp only at m1 m2 m3 m4
  subst m1
  simp (maxSteps := 2000000) -implicitDefEqProofs (disch := (first | omega | rfl | assumption | (simp only [rsD]; first | omega | assumption))) only [Nat.reduceAdd, Nat.reduceMul, Nat.reduceLT, Int.reduceToNat, Int.reduceAdd, Int.reduceSub, Int.reduceMul, rsU, rsC]
  have hlt : (bs.take (n - 8)).length = n - 8 := by simp; omega
  simp only [hlt]
  exact Ok_some.2 ⟨a3, 5, rfl, m2, E1.trans m3, fun b hb => by have := m4 b hb; omega⟩
 ·have hz : (wI (crc (crc 0#64 (bitsB (bs.take (n - 8)))) (bitsB (bs.drop (n - 8)))) == 0) = false := by
   rw [beq_eq_false_iff_ne]
   exact fun e => h0 (wI_inj (by rw [e]; rfl))
  rw [if_neg fun e => h0 (hown.2 e)]
  simp (maxSteps := 2000000) -implicitDefEqProofs (disch := (first | omega | rfl | assumption | (simp only [rsD]; first | omega | assumption))) only [hz, Nat.reduceAdd, Nat.reduceMul, Nat.reduceLT, Int.reduceToNat, Int.reduceAdd, Int.reduceSub, Int.reduceMul, rsU, rsC]
  exact Ok_some.2 ⟨.nil, 5, rfl, OwnS.nil _ _ _, E1, by simp [SA.bk]⟩
end Go.Abs.Try
