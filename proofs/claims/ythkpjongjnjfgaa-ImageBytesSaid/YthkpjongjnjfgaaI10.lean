/-
  Headers: both sides. No conditions.
-/
import Derived.Test.YthkpjongjnjfgaaM12
import Derived.Test.YthkpjongjnjfgaaI5
import Derived.Test.YthkpjongjnjfgaaI4
import Derived.Test.YthkpjongjnjfgaaI6w
set_option linter.unusedVariables false
set_option linter.unusedSimpArgs false
set_option linter.constructorNameAsVariable false
set_option linter.unusedSimpArgs false
set_option linter.unusedVariables false
set_option maxHeartbeats 2000000
namespace Go.Abs.Try
open Go Go.Abs
variable {O : Type}
def toHd (h : HV) : Hd := ⟨h.p.toNat, h.r.toNat, h.site.toNat, h.age.toNat, h.large⟩
theorem hdP_rng {h : HV} (k : hdP h = true) : (0 <= h.p /\ h.p <= 4095) /\ (0 <= h.r /\ h.r <= 4095) /\ (0 <= h.site /\ h.site <= 31) /\ (0 <= h.age /\ h.age <= 7) := by
 simpa only [hdP, decide_eq_true_eq] using k
theorem word_eq (p r s g : Nat) (l : Bool) : ((Hd.word ⟨p, r, s, g, l⟩ : Nat) : Int) = pck ⟨p, r, s, g, l⟩ := by
 cases l with
 | true =>
  simp only [Hd.word, Hd.w, Hd.ln, pck, if_true]
  omega
 | false =>
  simp only [Hd.word, Hd.w, Hd.ln, pck, Bool.false_eq_true, if_false]
  omega
theorem toHd_av {h : HV} (k : hdP h = true) : (toHd h).av = h.cs /\ (toHd h).ok /\ ((toHd h).word : Int) = pck h := by
 obtain ⟨k1, k2, k3, k4⟩ := hdP_rng k
 refine ⟨?_, ⟨by show _ < _; simp only [toHd]; omega, by simp only [toHd]; omega, by simp only [toHd]; omega, by simp only [toHd]; omega⟩, ?_⟩
 ·simp only [toHd, Hd.av, HV.cs]
  rw [Int.toNat_of_nonneg k1.1, Int.toNat_of_nonneg k2.1, Int.toNat_of_nonneg k3.1, Int.toNat_of_nonneg k4.1]
 ·rw [show (toHd h).word = Hd.word ⟨h.p.toNat, h.r.toNat, h.site.toNat, h.age.toNat, h.large⟩ from rfl, word_eq]
  rw [Int.toNat_of_nonneg k1.1, Int.toNat_of_nonneg k2.1, Int.toNat_of_nonneg k3.1, Int.toNat_of_nonneg k4.1]
theorem hpackV_ok (J : AH O) {h : HV} (k : hdP h = true) : Ok (header_Pack [.agg [.i .i64 h.p, .i .i64 h.r, .i .i64 h.site, .i .i64 h.age, .b h.large]] J) fun q => q.1 = .tup [.i .u64 (pck h), .i .i64 0] /\ Ext J q.2 := by
 obtain ⟨h1, h2, h3⟩ := toHd_av k
 have := hpack_ok J h2
 rw [h1, h3] at this
 exact this
theorem hdOf_hdr {w : Nat} : (hdOf w).av = (hdr (w : Int)).cs /\ ((hdOf w).word : Int) = pck (hdr (w : Int)) := by
 have e : (w / 2 ^ 32 % 2 ^ 1 == 1) = decide ((w : Int) / 4294967296 % 2 = 1) := by
  rw [Bool.eq_iff_iff, decide_eq_true_eq, beq_iff_eq]; omega
 constructor
 ·simp only [hdOf, Hd.av, hdr, HV.cs, e]
  simp only [List.cons.injEq, AV.i.injEq, true_and, and_true]
  refine ⟨?_, ?_, ?_, ?_⟩ <;> omega
 ·unfold hdOf hdr
  rw [word_eq, e]
  congr 2 <;> omega
theorem hdr_P (w : Int) : hdP (hdr w) = true := by
 show decide ((0 <= w % 4096 /\ w % 4096 <= 4095) /\ (0 <= w / 4096 % 4096 /\ w / 4096 % 4096 <= 4095) /\ (0 <= w / 16777216 % 32 /\ w / 16777216 % 32 <= 31) /\ (0 <= w / 536870912 % 8 /\ w / 536870912 % 8 <= 7)) = true
 exact decide_eq_true (by omega)
theorem unp_P {w : Int} {h : HV} (e : unp w = some h) : hdP h = true := by
 unfold unp at e
 split at e
 ·cases e; exact hdr_P w
 ·cases e
def unpV (w : Int) : AV := match unp w with | some h => .tup [.agg h.cs, .i .i64 0] | none => .tup [.agg zeroH.cs, .i .i64 5]
theorem hunpackV_ok (J : AH O) {w : Int} (h0 : 0 <= w) (h1 : w < 18446744073709551616) : Ok (header_Unpack [.i .u64 w] J) fun r => r.1 = unpV w /\ Ext J r.2 := by
 obtain ⟨n, rfl⟩ := Int.eq_ofNat_of_zero_le h0
 obtain ⟨e1, e2⟩ := hdOf_hdr (w := n)
 refine (unpack_ok J (w := n) (by omega)).mono fun r ⟨g1, g2⟩ => ⟨?_, g2⟩
 rw [g1, e1]
 unfold unpV unp
 by_cases c : (hdOf n).word = n
 ·rw [if_pos c, if_pos (by rw [<- e2, c])]
 ·rw [if_neg c, if_neg fun h => c (by rw [<- e2] at h; omega)]
  rfl
theorem chk_hdP (h : HV) : (chkOf h.p h.r h.site h.age = 0) ↔ hdP h = true := by
 unfold chkOf
 simp only [hdP, decide_eq_true_eq]
 split
 ·omega
 ·split
  ·omega
  ·split <;> omega
theorem checkV_ok (J : AH O) (h : HV) : Ok (header_Check [.agg [.i .i64 h.p, .i .i64 h.r, .i .i64 h.site, .i .i64 h.age, .b h.large]] J) fun q => (∃ c, q.1 = .i .i64 c /\ (c == 0) = hdP h) /\ Ext J q.2 := by
 refine (check_ok J h.p h.r h.site h.age h.large).mono fun q ⟨g1, g2⟩ => ⟨⟨_, g1, ?_⟩, g2⟩
 have := chk_hdP h
 cases hh : hdP h with
 | true => rw [this.2 hh]; rfl
 | false =>
  have : chkOf h.p h.r h.site h.age ≠ 0 := fun e => by rw [this.1 e] at hh; cases hh
  simpa using this
theorem rcheck_ok (J : AH O) (h : HV) : Ok (haymowref12_Check [.agg [.i .i64 h.p, .i .i64 h.r, .i .i64 h.site, .i .i64 h.age, .b h.large]] J) fun q => (∃ c, q.1 = .i .i64 c /\ (c == 0) = hdP h) /\ Ext J q.2 := by
 obtain ⟨p, r, s, g, l⟩ := h
 have E : ∀ {x : Blk O}, Ext J ((J.bump 1).put J.next x) := fun {x} => ((Ext.refl J).bump 1).put (Nat.le_refl _) _
 simp only
 have f0 : (false == false) = true := rfl
 have f1 : (true == false) = false := rfl
 by_cases cplo : p < 0
 ·have dplo : decide (p < 0) = true := decide_eq_true cplo
  simp (maxSteps := 2000000) -implicitDefEqProofs (disch := (first | omega | rfl | assumption | (simp only [rsD]; first | omega | assumption))) only [haymowref12_Check, haymowref12_Check_c, dplo, f0, f1, Nat.reduceAdd, Nat.reduceMul, Nat.reduceLT, Int.reduceToNat, Int.reduceAdd, Int.reduceSub, Int.reduceMul, rsU, rsC]
  exact Ok_some.2 ⟨⟨20, rfl, by rw [show hdP ⟨p, r, s, g, l⟩ = false from decide_eq_false (by show ¬ ((0 <= p /\ p <= 4095) /\ (0 <= r /\ r <= 4095) /\ (0 <= s /\ s <= 31) /\ (0 <= g /\ g <= 7)); omega)]; rfl⟩, E⟩
 have dplo : decide (p < 0) = false := decide_eq_false cplo
 by_cases cphi : p > 4095
 ·have dphi : decide (p > 4095) = true := decide_eq_true cphi
  simp (maxSteps := 2000000) -implicitDefEqProofs (disch := (first | omega | rfl | assumption | (simp only [rsD]; first | omega | assumption))) only [haymowref12_Check, haymowref12_Check_c, dplo, dphi, f0, f1, Nat.reduceAdd, Nat.reduceMul, Nat.reduceLT, Int.reduceToNat, Int.reduceAdd, Int.reduceSub, Int.reduceMul, rsU, rsC]
  exact Ok_some.2 ⟨⟨20, rfl, by rw [show hdP ⟨p, r, s, g, l⟩ = false from decide_eq_false (by show ¬ ((0 <= p /\ p <= 4095) /\ (0 <= r /\ r <= 4095) /\ (0 <= s /\ s <= 31) /\ (0 <= g /\ g <= 7)); omega)]; rfl⟩, E⟩
 have dphi : decide (p > 4095) = false := decide_eq_false cphi
 by_cases crlo : r < 0
 ·have drlo : decide (r < 0) = true := decide_eq_true crlo
  simp (maxSteps := 2000000) -implicitDefEqProofs (disch := (first | omega | rfl | assumption | (simp only [rsD]; first | omega | assumption))) only [haymowref12_Check, haymowref12_Check_c, dplo, dphi, drlo, f0, f1, Nat.reduceAdd, Nat.reduceMul, Nat.reduceLT, Int.reduceToNat, Int.reduceAdd, Int.reduceSub, Int.reduceMul, rsU, rsC]
  exact Ok_some.2 ⟨⟨20, rfl, by rw [show hdP ⟨p, r, s, g, l⟩ = false from decide_eq_false (by show ¬ ((0 <= p /\ p <= 4095) /\ (0 <= r /\ r <= 4095) /\ (0 <= s /\ s <= 31) /\ (0 <= g /\ g <= 7)); omega)]; rfl⟩, E⟩
 have drlo : decide (r < 0) = false := decide_eq_false crlo
 by_cases crhi : r > 4095
 ·have drhi : decide (r > 4095) = true := decide_eq_true crhi
  simp (maxSteps := 2000000) -implicitDefEqProofs (disch := (first | omega | rfl | assumption | (simp only [rsD]; first | omega | assumption))) only [haymowref12_Check, haymowref12_Check_c, dplo, dphi, drlo, drhi, f0, f1, Nat.reduceAdd, Nat.reduceMul, Nat.reduceLT, Int.reduceToNat, Int.reduceAdd, Int.reduceSub, Int.reduceMul, rsU, rsC]
  exact Ok_some.2 ⟨⟨20, rfl, by rw [show hdP ⟨p, r, s, g, l⟩ = false from decide_eq_false (by show ¬ ((0 <= p /\ p <= 4095) /\ (0 <= r /\ r <= 4095) /\ (0 <= s /\ s <= 31) /\ (0 <= g /\ g <= 7)); omega)]; rfl⟩, E⟩
 have drhi : decide (r > 4095) = false := decide_eq_false crhi
 by_cases cslo : s < 0
 ·have dslo : decide (s < 0) = true := decide_eq_true cslo
  simp (maxSteps := 2000000) -implicitDefEqProofs (disch := (first | omega | rfl | assumption | (simp only [rsD]; first | omega | assumption))) only [haymowref12_Check, haymowref12_Check_c, dplo, dphi, drlo, drhi, dslo, f0, f1, Nat.reduceAdd, Nat.reduceMul, Nat.reduceLT, Int.reduceToNat, Int.reduceAdd, Int.reduceSub, Int.reduceMul, rsU, rsC]
  exact Ok_some.2 ⟨⟨21, rfl, by rw [show hdP ⟨p, r, s, g, l⟩ = false from decide_eq_false (by show ¬ ((0 <= p /\ p <= 4095) /\ (0 <= r /\ r <= 4095) /\ (0 <= s /\ s <= 31) /\ (0 <= g /\ g <= 7)); omega)]; rfl⟩, E⟩
 have dslo : decide (s < 0) = false := decide_eq_false cslo
 by_cases cshi : s > 31
 ·have dshi : decide (s > 31) = true := decide_eq_true cshi
  simp (maxSteps := 2000000) -implicitDefEqProofs (disch := (first | omega | rfl | assumption | (simp only [rsD]; first | omega | assumption))) only [haymowref12_Check, haymowref12_Check_c, dplo, dphi, drlo, drhi, dslo, dshi, f0, f1, Nat.reduceAdd, Nat.reduceMul, Nat.reduceLT, Int.reduceToNat, Int.reduceAdd, Int.reduceSub, Int.reduceMul, rsU, rsC]
  exact Ok_some.2 ⟨⟨21, rfl, by rw [show hdP ⟨p, r, s, g, l⟩ = false from decide_eq_false (by show ¬ ((0 <= p /\ p <= 4095) /\ (0 <= r /\ r <= 4095) /\ (0 <= s /\ s <= 31) /\ (0 <= g /\ g <= 7)); omega)]; rfl⟩, E⟩
 have dshi : decide (s > 31) = false := decide_eq_false cshi
 by_cases cglo : g < 0
 ·have dglo : decide (g < 0) = true := decide_eq_true cglo
  simp (maxSteps := 2000000) -implicitDefEqProofs (disch := (first | omega | rfl | assumption | (simp only [rsD]; first | omega | assumption))) only [haymowref12_Check, haymowref12_Check_c, dplo, dphi, drlo, drhi, dslo, dshi, dglo, f0, f1, Nat.reduceAdd, Nat.reduceMul, Nat.reduceLT, Int.reduceToNat, Int.reduceAdd, Int.reduceSub, Int.reduceMul, rsU, rsC]
  exact Ok_some.2 ⟨⟨2, rfl, by rw [show hdP ⟨p, r, s, g, l⟩ = false from decide_eq_false (by show ¬ ((0 <= p /\ p <= 4095) /\ (0 <= r /\ r <= 4095) /\ (0 <= s /\ s <= 31) /\ (0 <= g /\ g <= 7)); omega)]; rfl⟩, E⟩
 have dglo : decide (g < 0) = false := decide_eq_false cglo
 by_cases cghi : g > 7
 ·have dghi : decide (g > 7) = true := decide_eq_true cghi
  simp (maxSteps := 2000000) -implicitDefEqProofs (disch := (first | omega | rfl | assumption | (simp only [rsD]; first | omega | assumption))) only [haymowref12_Check, haymowref12_Check_c, dplo, dphi, drlo, drhi, dslo, dshi, dglo, dghi, f0, f1, Nat.reduceAdd, Nat.reduceMul, Nat.reduceLT, Int.reduceToNat, Int.reduceAdd, Int.reduceSub, Int.reduceMul, rsU, rsC]
  exact Ok_some.2 ⟨⟨2, rfl, by rw [show hdP ⟨p, r, s, g, l⟩ = false from decide_eq_false (by show ¬ ((0 <= p /\ p <= 4095) /\ (0 <= r /\ r <= 4095) /\ (0 <= s /\ s <= 31) /\ (0 <= g /\ g <= 7)); omega)]; rfl⟩, E⟩
 have dghi : decide (g > 7) = false := decide_eq_false cghi
 simp (maxSteps := 2000000) -implicitDefEqProofs (disch := (first | omega | rfl | assumption | (simp only [rsD]; first | omega | assumption))) only [haymowref12_Check, haymowref12_Check_c, dplo, dphi, drlo, drhi, dslo, dshi, dglo, dghi, f0, f1, Nat.reduceAdd, Nat.reduceMul, Nat.reduceLT, Int.reduceToNat, Int.reduceAdd, Int.reduceSub, Int.reduceMul, rsU, rsC]
 exact Ok_some.2 ⟨⟨0, rfl, by rw [show hdP ⟨p, r, s, g, l⟩ = true from decide_eq_true (by show ((0 <= p /\ p <= 4095) /\ (0 <= r /\ r <= 4095) /\ (0 <= s /\ s <= 31) /\ (0 <= g /\ g <= 7)); omega)]; rfl⟩, E⟩
theorem rpack_ok (J : AH O) {h : HV} (k : hdP h = true) : Ok (haymowref12_Pack [.agg [.i .i64 h.p, .i .i64 h.r, .i .i64 h.site, .i .i64 h.age, .b h.large]] J) fun q => q.1 = .i .u64 (pck h) /\ Ext J q.2 := by
 obtain ⟨k1, k2, k3, k4⟩ := hdP_rng k
 obtain ⟨p, r, s, g, l⟩ := h
 simp only at k1 k2 k3 k4
 cases l with
 | true =>
  simp (maxSteps := 2000000) -implicitDefEqProofs (disch := (first | omega | rfl | assumption | (simp only [rsD]; first | omega | assumption))) only [haymowref12_Pack, haymowref12_Pack_c, Nat.reduceAdd, Nat.reduceMul, Nat.reduceLT, Int.reduceToNat, Int.reduceAdd, Int.reduceSub, Int.reduceMul, rsU, rsC]
  refine Ok_some.2 ⟨?_, ((Ext.refl J).bump 1).put (Nat.le_refl _) _⟩
  simp only [pck, if_true, AV.i.injEq, true_and]
  omega
 | false =>
  simp (maxSteps := 2000000) -implicitDefEqProofs (disch := (first | omega | rfl | assumption | (simp only [rsD]; first | omega | assumption))) only [haymowref12_Pack, haymowref12_Pack_c, Nat.reduceAdd, Nat.reduceMul, Nat.reduceLT, Int.reduceToNat, Int.reduceAdd, Int.reduceSub, Int.reduceMul, rsU, rsC]
  refine Ok_some.2 ⟨?_, ((Ext.refl J).bump 1).put (Nat.le_refl _) _⟩
  simp only [pck, Bool.false_eq_true, if_false, AV.i.injEq, true_and]
  omega
end Go.Abs.Try
set_option maxHeartbeats 4000000
namespace Go.Abs.Try
open Go Go.Abs
variable {O : Type}
theorem ints_ref {k : IntKind} {a : SA} {l : List Int} (h : Ints k a l) {i : Nat} {x : Int} (hx : l[i]? = some x) : ∃ b o, SA.ref a = some (b, o) /\ ∀ (O : Type) (J : AH O), J.ld b (o + i) = some (.i k x) := by
 obtain ⟨b, o, e, ld⟩ := h.at hx
 exact ⟨b, o, by rw [e]; rfl, ld⟩
theorem node_ref {a : SA} {l : List NV} (h : Nodes a l) {i : Nat} {x : NV} (hx : l[i]? = some x) : ∃ b o c d, SA.ref a = some (b, o) /\ Ints .i64 c x.P /\ Ints .u64 d x.R /\ ∀ (O : Type) (J : AH O),
  J.ld b (o + i * 7) = some (.i .i64 x.h.p) /\ J.ld b (o + i * 7 + 1) = some (.i .i64 x.h.r) /\ J.ld b (o + i * 7 + 2) = some (.i .i64 x.h.site) /\ J.ld b (o + i * 7 + 3) = some (.i .i64 x.h.age) /\ J.ld b (o + i * 7 + 4) = some (.b x.h.large) /\ J.ld b (o + i * 7 + 5) = some (.sl c x.P.length) /\ J.ld b (o + i * 7 + 6) = some (.sl d x.R.length) := by
 obtain ⟨b, o, c, d, e, h1, h2, h3⟩ := h.node hx
 exact ⟨b, o, c, d, by rw [e]; rfl, h1, h2, h3⟩
structure NodesR (J : AH O) (a : SA) (l : List NV) : Prop where
 it : ∃ vs, Rd J 7 a l.length vs /\ ∀ i x, l[i]? = some x -> ∃ c d, Ints .i64 c x.P /\ ∀ j, j < 7 -> vs[i * 7 + j]? = (x.cells c d)[j]?
 lt : ∀ b ∈ SA.bk a, b < J.next
theorem NodesR.of {J J' : AH O} {a : SA} {l : List NV} (h : NodesR J a l) (hn : J.next <= J'.next) (hb : ∀ b ∈ SA.bk a, J'.blk b = J.blk b) : NodesR J' a l := by
 obtain ⟨vs, h1, h2⟩ := h.it
 exact ⟨⟨vs, h1.of hb, h2⟩, fun b hb' => by have := h.lt b hb'; omega⟩
theorem NodesR.ext {J J' : AH O} {a : SA} {l : List NV} (h : NodesR J a l) (E : Ext J J') : NodesR J' a l := h.of E.next fun b hb => E.blk b (h.lt b hb)
theorem NodesR.node {J : AH O} {a : SA} {l : List NV} (h : NodesR J a l) {i : Nat} {x : NV} (hx : l[i]? = some x) : ∃ b o c d, SA.ref a = some (b, o) /\ Ints .i64 c x.P /\
  (J.ld b (o + i * 7) = some (.i .i64 x.h.p) /\ J.ld b (o + i * 7 + 1) = some (.i .i64 x.h.r) /\ J.ld b (o + i * 7 + 2) = some (.i .i64 x.h.site) /\ J.ld b (o + i * 7 + 3) = some (.i .i64 x.h.age) /\ J.ld b (o + i * 7 + 4) = some (.b x.h.large) /\ J.ld b (o + i * 7 + 5) = some (.sl c x.P.length) /\ J.ld b (o + i * 7 + 6) = some (.sl d x.R.length)) := by
 obtain ⟨vs, h1, h2⟩ := h.it
 obtain ⟨c, d, ic, h3⟩ := h2 i x hx
 obtain ⟨b, o, rfl, h4⟩ := h1.ref (List.getElem?_eq_some_iff.1 hx).1
 have k := fun j hj => (h4 j hj).trans (h3 j hj)
 exact ⟨b, o, c, d, rfl, ic, k 0 (by decide), k 1 (by decide), k 2 (by decide), k 3 (by decide), k 4 (by decide), k 5 (by decide), k 6 (by decide)⟩
theorem cells_at {l : List NV} {vs : List AV} (h : ImL (l.flatMap NV.row) vs) {i : Nat} {x : NV} (hx : l[i]? = some x) : ∃ c d, Ints .i64 c x.P /\ Ints .u64 d x.R /\ ∀ j, j < 7 -> vs[i * 7 + j]? = (x.cells c d)[j]? := by
 have h2 := (h.drop (i * 7)).take 7
 have e : ((l.flatMap NV.row).drop (i * 7)).take 7 = x.row := by
  apply List.ext_getElem?
  intro j
  rw [List.getElem?_take]
  split
  ·rename_i hj
   rw [List.getElem?_drop, fmt_get NV.len _ _ _ hj, hx]; rfl
  ·rename_i hj
   rw [List.getElem?_eq_none]
   rw [NV.len]; omega
 rw [e] at h2
 obtain ⟨c, d, e2, h3, h4⟩ := NV.un h2
 refine ⟨c, d, h3, h4, fun j hj => ?_⟩
 rw [<- e2, List.getElem?_take, if_pos hj, List.getElem?_drop]
theorem NodesR.im {a : SA} {l : List NV} (h : Nodes a l) (J : AH O) : NodesR J a l := by
 obtain ⟨vs, h1, h2⟩ := h.it
 refine ⟨⟨vs, h1 O J, fun i x hx => ?_⟩, fun b hb => by rw [h1.bk] at hb; cases hb⟩
 obtain ⟨c, d, h3, _, h5⟩ := cells_at h2 hx
 exact ⟨c, d, h3, h5⟩
theorem NodesR.bld {J : AH O} {el : Nat} {a : SA} {l : List NV} (h : Bld J el 7 NV.row a l) : NodesR J a l := by
 obtain ⟨vs, h1, h2⟩ := h.it
 refine ⟨⟨vs, h1.rd, fun i x hx => ?_⟩, h1.lt⟩
 obtain ⟨c, d, h3, _, h5⟩ := cells_at h2 hx
 exact ⟨c, d, h3, h5⟩
structure FRd (J : AH O) (F : FV) (v : AV) : Prop where
 it : ∃ a b c, v = .agg [.sl a F.nodes.length, .sl b F.roots.length, .sl c F.weak.length] /\ NodesR J a F.nodes /\ Ints .i64 b F.roots /\ Ints .i64 c F.weak
theorem FRd.im {F : FV} {v : AV} (h : F.At v) (J : AH O) : FRd J F v := by
 obtain ⟨a, b, c, e, h1, h2, h3⟩ := h.it
 exact ⟨a, b, c, e, NodesR.im h1 J, h2, h3⟩
theorem meetP_at {n least met : Int} {l : List Int} {k : Nat} {x : Int} (hx : l[k]? = some x) : meetP n least met (l.drop k) = if least <= x /\ x <= n /\ x <= met + 1 then meetP n least (max met x) (l.drop (k + 1)) else none := by
 have hk : k < l.length := (List.getElem?_eq_some_iff.1 hx).1
 have he : l[k] = x := (List.getElem?_eq_some_iff.1 hx).2
 rw [List.drop_eq_getElem_cons hk, he]
 rfl
theorem max_if (x m : Int) : (if x > m then x else m) = max m x := by
 rw [Int.max_def]
 split <;> split <;> omega
theorem rroots_ok {J0 J : AH O} {a : SA} {l : List Int} {x2 : AV} {n el : Nat} {an : SA} (hb : J.blk J0.next = some (.cells true el [.sl an n, .sl a l.length, x2])) (hl : Ints .i64 a l) (hs : l.length <= 1000000) (hn : n <= 1000000) :
  Ok (loopF (S := List AV × AH O) (T := (List AV × AH O) ⊕ (AV × AH O)) (haymowref40_Right_L1 J0) ([.i .i64 0, .i .i64 0], J)) fun r => match r with
   | .inl s => ∃ m, s = ([.i .i64 m], J) /\ meetP n 1 0 l = some m /\ 0 <= m /\ m <= n
   | .inr r => r = (.b false, J) /\ meetP n 1 0 l = none := by
 refine Ok.count l.length (fun k s => ∃ m, s = ([.i .i64 m, .i .i64 (k : Int)], J) /\ meetP n 1 0 l = meetP n 1 m (l.drop k) /\ 0 <= m /\ m <= n) ?_ ?_ ⟨0, rfl, rfl, by omega, by omega⟩
 ·rintro k _ hk ⟨m, rfl, h1, h2, h3⟩
  have hx := List.getElem?_eq_getElem hk
  obtain ⟨bb, oo, r1, ld⟩ := ints_ref hl hx
  have ld := ld O J
  rw [meetP_at hx] at h1
  generalize l[k] = x at *
  have f0 : (false == false) = true := rfl
  have f1 : (true == false) = false := rfl
  have dk : decide ((k : Int) < (l.length : Int)) = true := decide_eq_true (by omega)
  have d0 : decide ((0 : Int) <= (k : Int)) = true := decide_eq_true (by omega)
  by_cases c1 : x < 1
  ·have d1 : decide (x < 1) = true := decide_eq_true c1
   simp (maxSteps := 2000000) -implicitDefEqProofs (disch := (first | omega | rfl | assumption | (simp only [rsD]; first | omega | assumption))) only [haymowref40_Right_L1, hb, dk, d0, r1, ld, d1, f0, f1, Int.toNat_natCast, Nat.reduceAdd, Nat.reduceMul, Nat.reduceLT, Int.reduceToNat, Int.reduceAdd, Int.reduceSub, Int.reduceMul, rsU, rsC]
   exact Ok_some.2 ⟨rfl, by rw [h1, if_neg (by omega)]⟩
  have d1 : decide (x < 1) = false := decide_eq_false c1
  by_cases c2 : x > n
  ·have d2 : decide (x > (n : Int)) = true := decide_eq_true c2
   simp (maxSteps := 2000000) -implicitDefEqProofs (disch := (first | omega | rfl | assumption | (simp only [rsD]; first | omega | assumption))) only [haymowref40_Right_L1, hb, dk, d0, r1, ld, d1, d2, f0, f1, Int.toNat_natCast, Nat.reduceAdd, Nat.reduceMul, Nat.reduceLT, Int.reduceToNat, Int.reduceAdd, Int.reduceSub, Int.reduceMul, rsU, rsC]
   exact Ok_some.2 ⟨rfl, by rw [h1, if_neg (by omega)]⟩
  have d2 : decide (x > (n : Int)) = false := decide_eq_false c2
  have ew : IntKind.i64.wrap (m + 1) = m + 1 := i64_id (by omega) (by omega)
  by_cases c3 : x > m + 1
  ·have d3 : decide (x > m + 1) = true := decide_eq_true c3
   simp (maxSteps := 2000000) -implicitDefEqProofs (disch := (first | omega | rfl | assumption | (simp only [rsD]; first | omega | assumption))) only [haymowref40_Right_L1, hb, dk, d0, r1, ld, d1, d2, ew, d3, f0, f1, Int.toNat_natCast, Nat.reduceAdd, Nat.reduceMul, Nat.reduceLT, Int.reduceToNat, Int.reduceAdd, Int.reduceSub, Int.reduceMul, rsU, rsC]
   exact Ok_some.2 ⟨rfl, by rw [h1, if_neg (by omega)]⟩
  have d3 : decide (x > m + 1) = false := decide_eq_false c3
  simp (maxSteps := 2000000) -implicitDefEqProofs (disch := (first | omega | rfl | assumption | (simp only [rsD]; first | omega | assumption))) only [haymowref40_Right_L1, hb, dk, d0, r1, ld, d1, d2, ew, d3, f0, f1, Int.toNat_natCast, Nat.reduceAdd, Nat.reduceMul, Nat.reduceLT, Int.reduceToNat, Int.reduceAdd, Int.reduceSub, Int.reduceMul, rsU, rsC]
  refine Ok_some.2 ⟨max m x, ?_, by rw [h1, if_pos (by omega)], by omega, by omega⟩
  rw [max_if]; rfl
 ·rintro _ ⟨m, rfl, h1, h2, h3⟩
  rw [List.drop_length] at h1
  have dk : decide ((l.length : Int) < (l.length : Int)) = false := decide_eq_false (by omega)
  simp (maxSteps := 2000000) -implicitDefEqProofs (disch := (first | omega | rfl | assumption | (simp only [rsD]; first | omega | assumption))) only [haymowref40_Right_L1, hb, dk, Nat.reduceAdd, Nat.reduceMul, Nat.reduceLT, Int.reduceToNat, Int.reduceAdd, Int.reduceSub, Int.reduceMul, rsU, rsC]
  exact Ok_some.2 ⟨m, rfl, h1, h2, h3⟩
theorem rptrs_ok {J0 J : AH O} {r : List AV × AH O} {a an : SA} {l : List Int} {n el el' : Nat} {m : Int} {x1 x2 y0 y1 y2 y3 y4 y6 : AV} (hb : J.blk J0.next = some (.cells true el [.sl an n, x1, x2])) (hc : J.blk r.2.next = some (.cells true el' [y0, y1, y2, y3, y4, .sl a l.length, y6]))
  (hl : Ints .i64 a l) (hs : l.length <= 1000000) (hn : n <= 1000000) (hm : 0 <= m /\ m <= n) :
  Ok (loopF (S := List AV × AH O) (T := (List AV × AH O) ⊕ ((List AV × AH O) ⊕ ((List AV × AH O) ⊕ (AV × AH O)))) (haymowref40_Right_L3 r J0) ([.i .i64 m, .i .i64 0], J)) fun r => match r with
   | .inl s => ∃ m', s = ([.i .i64 m'], J) /\ meetP n 0 m l = some m' /\ 0 <= m' /\ m' <= n
   | .inr (.inl _) => False
   | .inr (.inr (.inl _)) => False
   | .inr (.inr (.inr r)) => r = (.b false, J) /\ meetP n 0 m l = none := by
 refine Ok.count l.length (fun k s => ∃ m', s = ([.i .i64 m', .i .i64 (k : Int)], J) /\ meetP n 0 m l = meetP n 0 m' (l.drop k) /\ 0 <= m' /\ m' <= n) ?_ ?_ ⟨m, rfl, rfl, hm.1, hm.2⟩
 ·rintro k _ hk ⟨m, rfl, h1, h2, h3⟩
  have hx := List.getElem?_eq_getElem hk
  obtain ⟨bb, oo, r1, ld⟩ := ints_ref hl hx
  have ld := ld O J
  rw [meetP_at hx] at h1
  generalize l[k] = x at *
  have f0 : (false == false) = true := rfl
  have f1 : (true == false) = false := rfl
  have dk : decide ((k : Int) < (l.length : Int)) = true := decide_eq_true (by omega)
  have d0 : decide ((0 : Int) <= (k : Int)) = true := decide_eq_true (by omega)
  by_cases c1 : x < 0
  ·have d1 : decide (x < 0) = true := decide_eq_true c1
   simp (maxSteps := 2000000) -implicitDefEqProofs (disch := (first | omega | rfl | assumption | (simp only [rsD]; first | omega | assumption))) only [haymowref40_Right_L3, hb, hc, dk, d0, r1, ld, d1, f0, f1, Int.toNat_natCast, Nat.reduceAdd, Nat.reduceMul, Nat.reduceLT, Int.reduceToNat, Int.reduceAdd, Int.reduceSub, Int.reduceMul, rsU, rsC]
   exact Ok_some.2 ⟨rfl, by rw [h1, if_neg (by omega)]⟩
  have d1 : decide (x < 0) = false := decide_eq_false c1
  by_cases c2 : x > n
  ·have d2 : decide (x > (n : Int)) = true := decide_eq_true c2
   simp (maxSteps := 2000000) -implicitDefEqProofs (disch := (first | omega | rfl | assumption | (simp only [rsD]; first | omega | assumption))) only [haymowref40_Right_L3, hb, hc, dk, d0, r1, ld, d1, d2, f0, f1, Int.toNat_natCast, Nat.reduceAdd, Nat.reduceMul, Nat.reduceLT, Int.reduceToNat, Int.reduceAdd, Int.reduceSub, Int.reduceMul, rsU, rsC]
   exact Ok_some.2 ⟨rfl, by rw [h1, if_neg (by omega)]⟩
  have d2 : decide (x > (n : Int)) = false := decide_eq_false c2
  have ew : IntKind.i64.wrap (m + 1) = m + 1 := i64_id (by omega) (by omega)
  by_cases c3 : x > m + 1
  ·have d3 : decide (x > m + 1) = true := decide_eq_true c3
   simp (maxSteps := 2000000) -implicitDefEqProofs (disch := (first | omega | rfl | assumption | (simp only [rsD]; first | omega | assumption))) only [haymowref40_Right_L3, hb, hc, dk, d0, r1, ld, d1, d2, ew, d3, f0, f1, Int.toNat_natCast, Nat.reduceAdd, Nat.reduceMul, Nat.reduceLT, Int.reduceToNat, Int.reduceAdd, Int.reduceSub, Int.reduceMul, rsU, rsC]
   exact Ok_some.2 ⟨rfl, by rw [h1, if_neg (by omega)]⟩
  have d3 : decide (x > m + 1) = false := decide_eq_false c3
  simp (maxSteps := 2000000) -implicitDefEqProofs (disch := (first | omega | rfl | assumption | (simp only [rsD]; first | omega | assumption))) only [haymowref40_Right_L3, hb, hc, dk, d0, r1, ld, d1, d2, ew, d3, f0, f1, Int.toNat_natCast, Nat.reduceAdd, Nat.reduceMul, Nat.reduceLT, Int.reduceToNat, Int.reduceAdd, Int.reduceSub, Int.reduceMul, rsU, rsC]
  refine Ok_some.2 ⟨max m x, ?_, by rw [h1, if_pos (by omega)], by omega, by omega⟩
  rw [max_if]; rfl
 ·rintro _ ⟨m, rfl, h1, h2, h3⟩
  rw [List.drop_length] at h1
  have dk : decide ((l.length : Int) < (l.length : Int)) = false := decide_eq_false (by omega)
  simp (maxSteps := 2000000) -implicitDefEqProofs (disch := (first | omega | rfl | assumption | (simp only [rsD]; first | omega | assumption))) only [haymowref40_Right_L3, hb, hc, dk, Nat.reduceAdd, Nat.reduceMul, Nat.reduceLT, Int.reduceToNat, Int.reduceAdd, Int.reduceSub, Int.reduceMul, rsU, rsC]
  exact Ok_some.2 ⟨m, rfl, h1, h2, h3⟩
theorem nodesR_cons {n i met : Int} {x : NV} {N : List NV} : nodesR n i met (x :: N) = (decide (i < met) && (hdP x.h && (decide ((x.P.length : Int) = x.h.p) && (decide ((x.R.length : Int) = x.h.r) && (match meetP n 0 met x.P with | none => false | some m => nodesR n (i + 1) m N))))) := rfl
theorem rnodes_ok {J0 J : AH O} {a : SA} {l : List NV} {el : Nat} {m : Int} {x1 x2 : AV} (h0 : J0.next < J.next) (hb : J.blk J0.next = some (.cells true el [.sl a l.length, x1, x2]))
  (hl : NodesR J a l) (hs : l.length <= 1000000) (hf : ∀ x ∈ l, x.P.length <= 1000000) (hm : 0 <= m /\ m <= l.length) :
  Ok (loopF (S := List AV × AH O) (T := (List AV × AH O) ⊕ (AV × AH O)) (haymowref40_Right_L2 J0 haymowref12_Check) ([.i .i64 m, .i .i64 0], J)) fun r => match r with
   | .inl s => s.1 = [] /\ nodesR l.length 0 m l = true /\ Ext J s.2
   | .inr r => r.1 = .b false /\ nodesR l.length 0 m l = false /\ Ext J r.2 := by
 refine Ok.count l.length (fun k s => ∃ m' J', s = ([.i .i64 m', .i .i64 (k : Int)], J') /\ nodesR l.length 0 m l = nodesR l.length k m' (l.drop k) /\ 0 <= m' /\ m' <= l.length /\ Ext J J') ?_ ?_ ⟨m, J, rfl, rfl, hm.1, hm.2, Ext.refl _⟩
 ·rintro k _ hk ⟨m, J, rfl, h1, h2, h3, E⟩
  have hx := List.getElem?_eq_getElem hk
  have hxP := hf _ (List.getElem_mem hk)
  obtain ⟨bb, oo, c, d, r1, hc, l0, l1, l2, l3, l4, l5, l6⟩ := (hl.ext (E.bump 1)).node hx
  rw [List.drop_eq_getElem_cons hk, nodesR_cons] at h1
  generalize l[k] = x at *
  have hb := (E.blk _ h0).trans hb
  have hlt := Nat.lt_of_lt_of_le h0 E.next
  have f0 : (false == false) = true := rfl
  have f1 : (true == false) = false := rfl
  have dk : decide ((k : Int) < (l.length : Int)) = true := decide_eq_true (by omega)
  have d0 : decide ((0 : Int) <= (k : Int)) = true := decide_eq_true (by omega)
  simp (maxSteps := 2000000) -implicitDefEqProofs (disch := (first | omega | rfl | assumption | (simp only [rsD]; first | omega | assumption))) only [haymowref40_Right_L2, hb, dk, d0, r1, l0, l1, l2, l3, l4, l5, l6, Int.toNat_natCast, Nat.reduceAdd, Nat.reduceMul, Nat.reduceLT, Int.reduceToNat, Int.reduceAdd, Int.reduceSub, Int.reduceMul, rsU, rsC]
  generalize hJ : (J.bump 1).put J.next _ = J2
  obtain ⟨E2, n2, b2⟩ := box1 hJ
  clear hJ
  have E02 := E.trans E2
  by_cases c1 : m <= (k : Int)
  ·have d1 : decide (m <= (k : Int)) = true := decide_eq_true c1
   simp (maxSteps := 2000000) -implicitDefEqProofs (disch := (first | omega | rfl | assumption | (simp only [rsD]; first | omega | assumption))) only [d1, f0, f1, Nat.reduceAdd, Nat.reduceMul, Nat.reduceLT, Int.reduceToNat, Int.reduceAdd, Int.reduceSub, Int.reduceMul, rsU, rsC]
   exact Ok_some.2 ⟨rfl, by rw [h1, decide_eq_false (by omega)]; rfl, E02⟩
  have d1 : decide (m <= (k : Int)) = false := decide_eq_false c1
  rw [decide_eq_true (show (k : Int) < m by omega), Bool.true_and] at h1
  simp (maxSteps := 2000000) -implicitDefEqProofs (disch := (first | omega | rfl | assumption | (simp only [rsD]; first | omega | assumption))) only [d1, f0, f1, Nat.reduceAdd, Nat.reduceMul, Nat.reduceLT, Int.reduceToNat, Int.reduceAdd, Int.reduceSub, Int.reduceMul, rsU, rsC]
  refine Ok.step (rcheck_ok J2 x.h) fun q ⟨⟨cc, g1, g2⟩, E3⟩ => ?_
  obtain ⟨q, J3⟩ := q
  simp only at g1 E3
  subst g1
  have b3 := (E3.blk _ (by omega)).trans b2
  have E03 := E02.trans E3
  cases hh : hdP x.h with
  | false =>
   rw [hh] at g2 h1
   simp (maxSteps := 2000000) -implicitDefEqProofs (disch := (first | omega | rfl | assumption | (simp only [rsD]; first | omega | assumption))) only [g2, f0, f1, Nat.reduceAdd, Nat.reduceMul, Nat.reduceLT, Int.reduceToNat, Int.reduceAdd, Int.reduceSub, Int.reduceMul, rsU, rsC]
   exact Ok_some.2 ⟨rfl, by rw [h1]; rfl, E03⟩
  | true =>
  rw [hh] at g2
  rw [hh, Bool.true_and] at h1
  by_cases c2 : (x.P.length : Int) = x.h.p
  case neg =>
   have d2 : ((x.P.length : Int) == x.h.p) = false := beq_eq_false_iff_ne.2 c2
   simp (maxSteps := 2000000) -implicitDefEqProofs (disch := (first | omega | rfl | assumption | (simp only [rsD]; first | omega | assumption))) only [g2, b3, d2, f0, f1, Nat.reduceAdd, Nat.reduceMul, Nat.reduceLT, Int.reduceToNat, Int.reduceAdd, Int.reduceSub, Int.reduceMul, rsU, rsC]
   exact Ok_some.2 ⟨rfl, by rw [h1, decide_eq_false c2]; rfl, E03⟩
  have d2 : ((x.P.length : Int) == x.h.p) = true := beq_iff_eq.2 c2
  rw [decide_eq_true c2, Bool.true_and] at h1
  by_cases c3 : (x.R.length : Int) = x.h.r
  case neg =>
   have d3 : ((x.R.length : Int) == x.h.r) = false := beq_eq_false_iff_ne.2 c3
   simp (maxSteps := 2000000) -implicitDefEqProofs (disch := (first | omega | rfl | assumption | (simp only [rsD]; first | omega | assumption))) only [g2, b3, d2, d3, f0, f1, Nat.reduceAdd, Nat.reduceMul, Nat.reduceLT, Int.reduceToNat, Int.reduceAdd, Int.reduceSub, Int.reduceMul, rsU, rsC]
   exact Ok_some.2 ⟨rfl, by rw [h1, decide_eq_false c3]; rfl, E03⟩
  have d3 : ((x.R.length : Int) == x.h.r) = true := beq_iff_eq.2 c3
  rw [decide_eq_true c3, Bool.true_and] at h1
  simp (maxSteps := 2000000) -implicitDefEqProofs (disch := (first | omega | rfl | assumption | (simp only [rsD]; first | omega | assumption))) only [g2, b3, d2, d3, f0, f1, Nat.reduceAdd, Nat.reduceMul, Nat.reduceLT, Int.reduceToNat, Int.reduceAdd, Int.reduceSub, Int.reduceMul, rsU, rsC]
  have hb3 := ((E2.trans E3).blk _ hlt).trans hb
  refine Ok.bindS (rptrs_ok (r := ([.i .i64 m, .i .i64 (k : Int)], J)) hb3 b3 hc hxP hs ⟨h2, h3⟩) (fun s hs' => ?_) (fun r hr => ?_)
  ·obtain ⟨m', rfl, k1, k2, k3⟩ := hs'
   rw [k1] at h1
   simp (maxSteps := 2000000) -implicitDefEqProofs (disch := (first | omega | rfl | assumption | (simp only [rsD]; first | omega | assumption))) only [Nat.reduceAdd, Nat.reduceMul, Nat.reduceLT, Int.reduceToNat, Int.reduceAdd, Int.reduceSub, Int.reduceMul, rsU, rsC]
   exact Ok_some.2 ⟨m', J3, rfl, h1, k2, k3, E03⟩
  ·match r, hr with
   | .inr (.inr r), hr =>
    obtain ⟨rfl, k1⟩ := hr
    rw [k1] at h1
    exact ⟨rfl, h1, E03⟩
 ·rintro _ ⟨m, J, rfl, h1, h2, h3, E⟩
  rw [List.drop_length] at h1
  have hb := (E.blk _ h0).trans hb
  have dk : decide ((l.length : Int) < (l.length : Int)) = false := decide_eq_false (by omega)
  simp (maxSteps := 2000000) -implicitDefEqProofs (disch := (first | omega | rfl | assumption | (simp only [rsD]; first | omega | assumption))) only [haymowref40_Right_L2, hb, dk, Nat.reduceAdd, Nat.reduceMul, Nat.reduceLT, Int.reduceToNat, Int.reduceAdd, Int.reduceSub, Int.reduceMul, rsU, rsC]
  exact Ok_some.2 ⟨rfl, h1, E⟩
theorem rweak_ok {J0 J : AH O} {a an : SA} {l : List Int} {n el : Nat} {x1 : AV} (hb : J.blk J0.next = some (.cells true el [.sl an n, x1, .sl a l.length])) (hl : Ints .i64 a l) (hs : l.length <= 1000000) :
  Ok (loopF (S := List AV × AH O) (T := (List AV × AH O) ⊕ (AV × AH O)) (haymowref40_Right_L4 J0) ([.i .i64 0], J)) fun r => match r with
   | .inl s => s = ([], J) /\ (l.all fun k => decide (0 <= k /\ k <= (n : Int))) = true
   | .inr r => r = (.b false, J) /\ (l.all fun k => decide (0 <= k /\ k <= (n : Int))) = false := by
 refine Ok.count l.length (fun k s => s = ([.i .i64 (k : Int)], J) /\ ∀ j, j < k -> ∀ x, l[j]? = some x -> 0 <= x /\ x <= n) ?_ ?_ ⟨rfl, fun j hj => by omega⟩
 ·rintro k _ hk ⟨rfl, h1⟩
  have hx := List.getElem?_eq_getElem hk
  have hm := List.getElem_mem hk
  obtain ⟨bb, oo, r1, ld⟩ := ints_ref hl hx
  have ld := ld O J
  generalize l[k] = x at *
  have f0 : (false == false) = true := rfl
  have f1 : (true == false) = false := rfl
  have dk : decide ((k : Int) < (l.length : Int)) = true := decide_eq_true (by omega)
  have d0 : decide ((0 : Int) <= (k : Int)) = true := decide_eq_true (by omega)
  have no : ¬ (0 <= x /\ x <= (n : Int)) -> (l.all fun k => decide (0 <= k /\ k <= (n : Int))) = false := fun c => by
   cases h : (l.all fun k => decide (0 <= k /\ k <= (n : Int))) with
   | false => rfl
   | true => exact absurd (of_decide_eq_true (List.all_eq_true.1 h _ hm)) c
  by_cases c1 : x < 0
  ·have d1 : decide (x < 0) = true := decide_eq_true c1
   simp (maxSteps := 2000000) -implicitDefEqProofs (disch := (first | omega | rfl | assumption | (simp only [rsD]; first | omega | assumption))) only [haymowref40_Right_L4, hb, dk, d0, r1, ld, d1, f0, f1, Int.toNat_natCast, Nat.reduceAdd, Nat.reduceMul, Nat.reduceLT, Int.reduceToNat, Int.reduceAdd, Int.reduceSub, Int.reduceMul, rsU, rsC]
   exact Ok_some.2 ⟨rfl, no (by omega)⟩
  have d1 : decide (x < 0) = false := decide_eq_false c1
  by_cases c2 : x > n
  ·have d2 : decide (x > (n : Int)) = true := decide_eq_true c2
   simp (maxSteps := 2000000) -implicitDefEqProofs (disch := (first | omega | rfl | assumption | (simp only [rsD]; first | omega | assumption))) only [haymowref40_Right_L4, hb, dk, d0, r1, ld, d1, d2, f0, f1, Int.toNat_natCast, Nat.reduceAdd, Nat.reduceMul, Nat.reduceLT, Int.reduceToNat, Int.reduceAdd, Int.reduceSub, Int.reduceMul, rsU, rsC]
   exact Ok_some.2 ⟨rfl, no (by omega)⟩
  have d2 : decide (x > (n : Int)) = false := decide_eq_false c2
  simp (maxSteps := 2000000) -implicitDefEqProofs (disch := (first | omega | rfl | assumption | (simp only [rsD]; first | omega | assumption))) only [haymowref40_Right_L4, hb, dk, d0, r1, ld, d1, d2, f0, f1, Int.toNat_natCast, Nat.reduceAdd, Nat.reduceMul, Nat.reduceLT, Int.reduceToNat, Int.reduceAdd, Int.reduceSub, Int.reduceMul, rsU, rsC]
  refine Ok_some.2 ⟨rfl, fun j hj y hy => ?_⟩
  by_cases e : j = k
  ·subst e
   rw [hx] at hy; cases hy; omega
  ·exact h1 j (by omega) y hy
 ·rintro _ ⟨rfl, h1⟩
  have dk : decide ((l.length : Int) < (l.length : Int)) = false := decide_eq_false (by omega)
  simp (maxSteps := 2000000) -implicitDefEqProofs (disch := (first | omega | rfl | assumption | (simp only [rsD]; first | omega | assumption))) only [haymowref40_Right_L4, hb, dk, Nat.reduceAdd, Nat.reduceMul, Nat.reduceLT, Int.reduceToNat, Int.reduceAdd, Int.reduceSub, Int.reduceMul, rsU, rsC]
  refine Ok_some.2 ⟨rfl, List.all_eq_true.2 fun x hx => decide_eq_true ?_⟩
  obtain ⟨j, hj⟩ := List.mem_iff_getElem?.1 hx
  exact h1 j (List.getElem?_eq_some_iff.1 hj).1 x hj
theorem rright_ok {J : AH O} {F : FV} {v : AV} (hF : FRd J F v) (hf : F.few) : Ok (haymowref40_Right [v] J) fun r => r.1 = .b (rightP F) /\ Ext J r.2 := by
 obtain ⟨a, b, c, rfl, h1, h2, h3⟩ := hF.it
 have f1 := hf.n
 have f2 := hf.r
 have f3 := hf.w
 simp (maxSteps := 2000000) -implicitDefEqProofs (disch := (first | omega | rfl | assumption | (simp only [rsD]; first | omega | assumption))) only [haymowref40_Right, haymowref40_Right_c, Nat.reduceAdd, Nat.reduceMul, Nat.reduceLT, Int.reduceToNat, Int.reduceAdd, Int.reduceSub, Int.reduceMul, rsU, rsC]
 generalize hJ : (J.bump 1).put J.next _ = J1
 obtain ⟨E1, n1, b1⟩ := box1 hJ
 clear hJ
 refine Ok.bindS (rroots_ok b1 h2 (by omega) (by omega)) (fun s hs => ?_) (fun r hr => ?_)
 ·obtain ⟨m, rfl, k1, k2, k3⟩ := hs
  simp (maxSteps := 2000000) -implicitDefEqProofs (disch := (first | omega | rfl | assumption | (simp only [rsD]; first | omega | assumption))) only [Nat.reduceAdd, Nat.reduceMul, Nat.reduceLT, Int.reduceToNat, Int.reduceAdd, Int.reduceSub, Int.reduceMul, rsU, rsC]
  refine Ok.bindS (rnodes_ok (by omega) b1 (h1.ext E1) (by omega) (fun x hx => by have := (hf.x x hx).p; omega) ⟨k2, k3⟩) (fun s hs => ?_) (fun r hr => ?_)
  ·obtain ⟨s, J2⟩ := s
   obtain ⟨g1, g2, E2⟩ := hs
   simp only at g1 E2
   subst g1
   simp (maxSteps := 2000000) -implicitDefEqProofs (disch := (first | omega | rfl | assumption | (simp only [rsD]; first | omega | assumption))) only [Nat.reduceAdd, Nat.reduceMul, Nat.reduceLT, Int.reduceToNat, Int.reduceAdd, Int.reduceSub, Int.reduceMul, rsU, rsC]
   refine Ok.bindS (rweak_ok ((E2.blk _ (by omega)).trans b1) h3 (by omega)) (fun s hs => ?_) (fun r hr => ?_)
   ·obtain ⟨rfl, g3⟩ := hs
    refine Ok_some.2 ⟨?_, E1.trans E2⟩
    unfold rightP
    rw [k1]; simp only; rw [g2, g3]; rfl
   ·obtain ⟨rfl, g3⟩ := hr
    refine ⟨?_, E1.trans E2⟩
    unfold rightP
    rw [k1]; simp only; rw [g2, g3]; rfl
  ·obtain ⟨g1, g2, E2⟩ := hr
   refine ⟨?_, E1.trans E2⟩
   rw [g1]
   unfold rightP
   rw [k1]; simp only; rw [g2]; rfl
 ·obtain ⟨rfl, k1⟩ := hr
  refine ⟨?_, E1⟩
  unfold rightP
  rw [k1]; rfl
end Go.Abs.Try
namespace Go.Abs.Try
open Go Go.Abs
variable {O : Type}
theorem callW {p q v : AV} {J : AH O} : callV [(110, canon_within_1)] (some (.func 110, [], [p, q])) [v] J = canon_within_1 [v, p, q] J := rfl
theorem within1_ok {J : AH O} {p q el el' : Nat} {lo hi x : Int} (hp : J.blk p = some (.cells true el [.i .i64 lo])) (hq : J.blk q = some (.cells true el' [.i .i64 hi])) :
  canon_within_1 [.i .i64 x, .p (some (.n p, 0)), .p (some (.n q, 0))] J = some (.b (!decide (lo <= x /\ x <= hi)), J) := by
 have f0 : (false == false) = true := rfl
 have f1 : (true == false) = false := rfl
 by_cases c1 : x < lo
 ·have d1 : decide (x < lo) = true := decide_eq_true c1
  simp (maxSteps := 2000000) -implicitDefEqProofs (disch := (first | omega | rfl | assumption | (simp only [rsD]; first | omega | assumption))) only [canon_within_1, canon_within_1_c, hp, hq, d1, f0, f1, Nat.reduceAdd, Nat.reduceMul, Nat.reduceLT, Int.reduceToNat, Int.reduceAdd, Int.reduceSub, Int.reduceMul, rsU, rsC]
 ·have d1 : decide (x < lo) = false := decide_eq_false c1
  by_cases c2 : x > hi
  ·have d2 : decide (x > hi) = true := decide_eq_true c2
   simp (maxSteps := 2000000) -implicitDefEqProofs (disch := (first | omega | rfl | assumption | (simp only [rsD]; first | omega | assumption))) only [canon_within_1, canon_within_1_c, hp, hq, d1, d2, f0, f1, Nat.reduceAdd, Nat.reduceMul, Nat.reduceLT, Int.reduceToNat, Int.reduceAdd, Int.reduceSub, Int.reduceMul, rsU, rsC]
  ·have d2 : decide (x > hi) = false := decide_eq_false c2
   simp (maxSteps := 2000000) -implicitDefEqProofs (disch := (first | omega | rfl | assumption | (simp only [rsD]; first | omega | assumption))) only [canon_within_1, canon_within_1_c, hp, hq, d1, d2, f0, f1, Nat.reduceAdd, Nat.reduceMul, Nat.reduceLT, Int.reduceToNat, Int.reduceAdd, Int.reduceSub, Int.reduceMul, rsU, rsC]
abbrev allIn (lo hi : Int) (l : List Int) : Bool := l.all fun k => decide (lo <= k /\ k <= hi)
theorem index_ok {J : AH O} {a : SA} {l : List Int} {p q el el' : Nat} {lo hi : Int} (hl : Ints .i64 a l) (hs : l.length <= 1000000) (hp : J.blk p = some (.cells true el [.i .i64 lo])) (hq : J.blk q = some (.cells true el' [.i .i64 hi])) :
  Ok (slices_IndexFunc___int_int_ [.sl a l.length, .fn (some (.func 110, [], [.p (some (.n p, 0)), .p (some (.n q, 0))]))] J) fun r => r.2 = J /\ ∃ k, r.1 = .i .i64 k /\ decide (k >= 0) = !allIn lo hi l := by
 simp (maxSteps := 2000000) -implicitDefEqProofs (disch := (first | omega | rfl | assumption | (simp only [rsD]; first | omega | assumption))) only [slices_IndexFunc___int_int_, slices_IndexFunc___int_int__c, Nat.reduceAdd, Nat.reduceMul, Nat.reduceLT, Int.reduceToNat, Int.reduceAdd, Int.reduceSub, Int.reduceMul, rsU, rsC]
 refine Ok.bindS (Q := fun r => match r with
   | .inl s => s.2 = J /\ allIn lo hi l = true
   | .inr r => r.2 = J /\ ∃ k, r.1 = .i .i64 k /\ k >= 0 /\ allIn lo hi l = false) ?_ (fun s hs => ?_) (fun r hr => ?_)
 ·refine Ok.count l.length (fun k s => s = ([.i .i64 (k : Int)], J) /\ ∀ j, j < k -> ∀ x, l[j]? = some x -> lo <= x /\ x <= hi) ?_ ?_ ⟨rfl, fun j hj => by omega⟩
  ·rintro k _ hk ⟨rfl, h1⟩
   have hx := List.getElem?_eq_getElem hk
   have hm := List.getElem_mem hk
   obtain ⟨bb, oo, r1, ld⟩ := ints_ref hl hx
   have ld := ld O J
   generalize l[k] = x at *
   have dk : decide ((k : Int) < (l.length : Int)) = true := decide_eq_true (by omega)
   have d0 : decide ((0 : Int) <= (k : Int)) = true := decide_eq_true (by omega)
   cases c : decide (lo <= x /\ x <= hi) with
   | true =>
    simp (maxSteps := 2000000) -implicitDefEqProofs (disch := (first | omega | rfl | assumption | (simp only [rsD]; first | omega | assumption))) only [slices_IndexFunc___int_int__L1, dk, d0, r1, ld, Int.toNat_natCast, callW, within1_ok hp hq, c, Nat.reduceAdd, Nat.reduceMul, Nat.reduceLT, Int.reduceToNat, Int.reduceAdd, Int.reduceSub, Int.reduceMul, rsU, rsC]
    refine Ok_some.2 ⟨rfl, fun j hj y hy => ?_⟩
    by_cases e : j = k
    ·subst e
     rw [hx] at hy; cases hy; exact of_decide_eq_true c
    ·exact h1 j (by omega) y hy
   | false =>
    simp (maxSteps := 2000000) -implicitDefEqProofs (disch := (first | omega | rfl | assumption | (simp only [rsD]; first | omega | assumption))) only [slices_IndexFunc___int_int__L1, dk, d0, r1, ld, Int.toNat_natCast, callW, within1_ok hp hq, c, Nat.reduceAdd, Nat.reduceMul, Nat.reduceLT, Int.reduceToNat, Int.reduceAdd, Int.reduceSub, Int.reduceMul, rsU, rsC]
    refine Ok_some.2 ⟨rfl, _, rfl, by omega, ?_⟩
    cases h : allIn lo hi l with
    | false => rfl
    | true => exact absurd (of_decide_eq_true (List.all_eq_true.1 h _ hm)) (of_decide_eq_false c)
  ·rintro _ ⟨rfl, h1⟩
   have dk : decide ((l.length : Int) < (l.length : Int)) = false := decide_eq_false (by omega)
   simp (maxSteps := 2000000) -implicitDefEqProofs (disch := (first | omega | rfl | assumption | (simp only [rsD]; first | omega | assumption))) only [slices_IndexFunc___int_int__L1, dk, Nat.reduceAdd, Nat.reduceMul, Nat.reduceLT, Int.reduceToNat, Int.reduceAdd, Int.reduceSub, Int.reduceMul, rsU, rsC]
   refine Ok_some.2 ⟨rfl, List.all_eq_true.2 fun x hx => decide_eq_true ?_⟩
   obtain ⟨j, hj⟩ := List.mem_iff_getElem?.1 hx
   exact h1 j (List.getElem?_eq_some_iff.1 hj).1 x hj
 ·obtain ⟨h1, h2⟩ := hs
  exact Ok_some.2 ⟨h1, -1, rfl, by rw [h2]; rfl⟩
 ·obtain ⟨h1, k, h2, h3, h4⟩ := hr
  exact ⟨h1, k, h2, by rw [h4, decide_eq_true h3]; rfl⟩
theorem within_ok {J : AH O} {a : SA} {l : List Int} {lo hi : Int} (hl : Ints .i64 a l) (hs : l.length <= 1000000) :
  Ok (canon_within [.sl a l.length, .i .i64 lo, .i .i64 hi] J) fun r => r.1 = .b (allIn lo hi l) /\ Ext J r.2 := by
 simp (maxSteps := 2000000) -implicitDefEqProofs (disch := (first | omega | rfl | assumption | (simp only [rsD]; first | omega | assumption))) only [canon_within, canon_within_c, slices_ContainsFunc___int_int_, slices_ContainsFunc___int_int__c, Nat.reduceAdd, Nat.reduceMul, Nat.reduceLT, Int.reduceToNat, Int.reduceAdd, Int.reduceSub, Int.reduceMul, rsU, rsC]
 generalize hJ : ((J.bump 2).put J.next _).put (J.next + 1) _ = J1
 obtain ⟨E1, n1, b1, b2⟩ := box2 hJ
 clear hJ
 refine Ok.step (index_ok hl hs b1 b2) fun r ⟨e1, k, e2, e3⟩ => ?_
 obtain ⟨r, J2⟩ := r
 simp only at e1 e2
 subst e1 e2
 simp (maxSteps := 2000000) -implicitDefEqProofs (disch := (first | omega | rfl | assumption | (simp only [rsD]; first | omega | assumption))) only [e3, Nat.reduceAdd, Nat.reduceMul, Nat.reduceLT, Int.reduceToNat, Int.reduceAdd, Int.reduceSub, Int.reduceMul, rsU, rsC]
 refine Ok_some.2 ⟨?_, E1⟩
 cases allIn lo hi l <;> rfl
def meetC : Int -> List Int -> Option Int
 | met, [] => some met
 | met, k :: l => if k <= met + 1 then meetC (max met k) l else none
theorem meetC_at {met : Int} {l : List Int} {k : Nat} {x : Int} (hx : l[k]? = some x) : meetC met (l.drop k) = if x <= met + 1 then meetC (max met x) (l.drop (k + 1)) else none := by
 have hk : k < l.length := (List.getElem?_eq_some_iff.1 hx).1
 have he : l[k] = x := (List.getElem?_eq_some_iff.1 hx).2
 rw [List.drop_eq_getElem_cons hk, he]
 rfl
theorem allIn_cons {lo hi k : Int} {l : List Int} : allIn lo hi (k :: l) = (decide (lo <= k /\ k <= hi) && allIn lo hi l) := rfl
theorem meet_split {n least : Int} : ∀ {l : List Int} {met : Int}, meetP n least met l = bif allIn least n l then meetC met l else none
 | [], met => rfl
 | k :: l, met => by
  rw [allIn_cons]
  simp only [meetP, meetC]
  by_cases c1 : least <= k /\ k <= n
  ·rw [decide_eq_true c1, Bool.true_and, meet_split (l := l)]
   by_cases c2 : k <= met + 1
   ·rw [if_pos ⟨c1.1, c1.2, c2⟩, if_pos c2]
   ·rw [if_neg (fun h => c2 h.2.2), if_neg c2]; cases allIn least n l <;> rfl
  ·rw [decide_eq_false c1, Bool.false_and, if_neg (fun h => c1 ⟨h.1, h.2.1⟩)]; rfl
theorem meet_ok {J : AH O} {a : SA} {l : List Int} {p el n : Nat} {m : Int} (hl : Ints .i64 a l) (hs : l.length <= 1000000) (hn : n <= 1000000) (hp : J.blk p = some (.cells true el [.i .i64 m])) (hm : 0 <= m /\ m <= n) (hle : allIn 0 n l = true) :
  Ok (canon_Right_1 [.sl a l.length, .p (some (.n p, 0))] J) fun r => r.1 = .b (meetC m l).isSome /\ Chg [p] J r.2 /\ ∀ m', meetC m l = some m' -> r.2.blk p = some (.cells true el [.i .i64 m']) /\ 0 <= m' /\ m' <= n := by
 simp (maxSteps := 2000000) -implicitDefEqProofs (disch := (first | omega | rfl | assumption | (simp only [rsD]; first | omega | assumption))) only [canon_Right_1, canon_Right_1_c, Nat.reduceAdd, Nat.reduceMul, Nat.reduceLT, Int.reduceToNat, Int.reduceAdd, Int.reduceSub, Int.reduceMul, rsU, rsC]
 refine Ok.bindS (Q := fun r => match r with
   | .inl s => ∃ m', meetC m l = some m' /\ s.2.blk p = some (.cells true el [.i .i64 m']) /\ 0 <= m' /\ m' <= n /\ Chg [p] J s.2
   | .inr r => r.1 = .b false /\ meetC m l = none /\ Chg [p] J r.2) ?_ (fun s hs => ?_) (fun r hr => ?_)
 ·refine Ok.count l.length (fun k s => ∃ m' J', s = ([.i .i64 (k : Int)], J') /\ meetC m l = meetC m' (l.drop k) /\ J'.blk p = some (.cells true el [.i .i64 m']) /\ 0 <= m' /\ m' <= n /\ Chg [p] J J') ?_ ?_ ⟨m, J, rfl, rfl, hp, hm.1, hm.2, Chg.refl _ _⟩
  ·rintro k _ hk ⟨m', J', rfl, h1, h2, h3, h4, C⟩
   have hx := List.getElem?_eq_getElem hk
   have hr := of_decide_eq_true (List.all_eq_true.1 hle _ (List.getElem_mem hk))
   obtain ⟨bb, oo, r1, ld⟩ := ints_ref hl hx
   have ld := ld O J'
   rw [meetC_at hx] at h1
   generalize l[k] = x at *
   have dk : decide ((k : Int) < (l.length : Int)) = true := decide_eq_true (by omega)
   have d0 : decide ((0 : Int) <= (k : Int)) = true := decide_eq_true (by omega)
   have ew : IntKind.i64.wrap (m' + 1) = m' + 1 := i64_id (by omega) (by omega)
   by_cases c1 : x > m' + 1
   ·have d1 : decide (x > m' + 1) = true := decide_eq_true c1
    simp (maxSteps := 2000000) -implicitDefEqProofs (disch := (first | omega | rfl | assumption | (simp only [rsD]; first | omega | assumption))) only [canon_Right_1_L1, dk, d0, r1, ld, h2, ew, d1, Int.toNat_natCast, Nat.reduceAdd, Nat.reduceMul, Nat.reduceLT, Int.reduceToNat, Int.reduceAdd, Int.reduceSub, Int.reduceMul, rsU, rsC]
    exact Ok_some.2 ⟨rfl, by rw [h1, if_neg (by omega)], C⟩
   have d1 : decide (x > m' + 1) = false := decide_eq_false c1
   simp (maxSteps := 2000000) -implicitDefEqProofs (disch := (first | omega | rfl | assumption | (simp only [rsD]; first | omega | assumption))) only [canon_Right_1_L1, dk, d0, r1, ld, h2, ew, d1, Int.toNat_natCast, Nat.reduceAdd, Nat.reduceMul, Nat.reduceLT, Int.reduceToNat, Int.reduceAdd, Int.reduceSub, Int.reduceMul, rsU, rsC]
   refine Ok_some.2 ⟨max m' x, _, rfl, by rw [h1, if_pos (by omega)], ?_, by omega, by omega, C.put (by simp) _⟩
   rw [s_bs, max_if]
  ·rintro _ ⟨m', J', rfl, h1, h2, h3, h4, C⟩
   rw [List.drop_length] at h1
   have dk : decide ((l.length : Int) < (l.length : Int)) = false := decide_eq_false (by omega)
   simp (maxSteps := 2000000) -implicitDefEqProofs (disch := (first | omega | rfl | assumption | (simp only [rsD]; first | omega | assumption))) only [canon_Right_1_L1, dk, Nat.reduceAdd, Nat.reduceMul, Nat.reduceLT, Int.reduceToNat, Int.reduceAdd, Int.reduceSub, Int.reduceMul, rsU, rsC]
   exact Ok_some.2 ⟨m', h1, h2, h3, h4, C⟩
 ·obtain ⟨m', h1, h2, h3, h4, C⟩ := hs
  exact Ok_some.2 ⟨by rw [h1]; rfl, C, fun m2 e => by rw [h1] at e; cases e; exact ⟨h2, h3, h4⟩⟩
 ·obtain ⟨h1, h2, C⟩ := hr
  exact ⟨by rw [h1, h2]; rfl, C, fun m2 e => by rw [h2] at e; cases e⟩
theorem cnodes_ok {J : AH O} {a : SA} {l : List NV} {s16 : List AV × AH O} {sa : SA} {el : Nat} {m : Int} (hp : J.blk s16.2.next = some (.cells true el [.i .i64 m])) (hlt : s16.2.next < J.next)
  (hl : NodesR J a l) (hpa : s16.2.next ∉ SA.bk a) (hs : l.length <= 1000000) (hf : ∀ x ∈ l, x.P.length <= 1000000) (hm : 0 <= m /\ m <= l.length) :
  Ok (loopF (S := List AV × AH O) (T := (List AV × AH O) ⊕ (AV × AH O)) (canon_Right_L1 (a, l.length) s16 header_Check canon_within (sa, l.length) canon_Right_1) ([.i .i64 0], J)) fun r => match r with
   | .inl s => s.1 = [] /\ nodesR l.length 0 m l = true /\ Chg [s16.2.next] J s.2
   | .inr r => r.1 = .b false /\ nodesR l.length 0 m l = false /\ Chg [s16.2.next] J r.2 := by
 refine Ok.count l.length (fun k s => ∃ m' J', s = ([.i .i64 (k : Int)], J') /\ nodesR l.length 0 m l = nodesR l.length k m' (l.drop k) /\ 0 <= m' /\ m' <= l.length /\ Chg [s16.2.next] J J' /\ J'.blk s16.2.next = some (.cells true el [.i .i64 m'])) ?_ ?_ ⟨m, J, rfl, rfl, hm.1, hm.2, Chg.refl _ _, hp⟩
 ·rintro k _ hk ⟨m, J, rfl, h1, h2, h3, C, hp⟩
  have hx := List.getElem?_eq_getElem hk
  have hxP := hf _ (List.getElem_mem hk)
  obtain ⟨bb, oo, c, d, r1, hc, l0, l1, l2, l3, l4, l5, l6⟩ := (hl.of (C.bump 1).next fun b hb => (C.bump 1).blk b (hl.lt b hb) (by simp; intro h; exact hpa (h ▸ hb))).node hx
  rw [List.drop_eq_getElem_cons hk, nodesR_cons] at h1
  generalize l[k] = x at *
  have hlt := Nat.lt_of_lt_of_le hlt C.next
  have f0 : (false == false) = true := rfl
  have f1 : (true == false) = false := rfl
  have dk : decide ((k : Int) < (l.length : Int)) = true := decide_eq_true (by omega)
  have d0 : decide ((0 : Int) <= (k : Int)) = true := decide_eq_true (by omega)
  simp (maxSteps := 2000000) -implicitDefEqProofs (disch := (first | omega | rfl | assumption | (simp only [rsD]; first | omega | assumption))) only [canon_Right_L1, dk, d0, r1, l0, l1, l2, l3, l4, l5, l6, Int.toNat_natCast, Nat.reduceAdd, Nat.reduceMul, Nat.reduceLT, Int.reduceToNat, Int.reduceAdd, Int.reduceSub, Int.reduceMul, rsU, rsC]
  generalize hJ : (J.bump 1).put J.next _ = J2
  obtain ⟨E2, n2, b2⟩ := box1 hJ
  clear hJ
  have C2 := C.trans E2.chg
  have hp2 := (E2.blk _ hlt).trans hp
  by_cases c1 : (k : Int) >= m
  ·have d1 : decide ((k : Int) >= m) = true := decide_eq_true c1
   simp (maxSteps := 2000000) -implicitDefEqProofs (disch := (first | omega | rfl | assumption | (simp only [rsD]; first | omega | assumption))) only [hp, d1, f0, f1, Nat.reduceAdd, Nat.reduceMul, Nat.reduceLT, Int.reduceToNat, Int.reduceAdd, Int.reduceSub, Int.reduceMul, rsU, rsC]
   exact Ok_some.2 ⟨rfl, by rw [h1, decide_eq_false (by omega)]; rfl, C2⟩
  have d1 : decide ((k : Int) >= m) = false := decide_eq_false c1
  rw [decide_eq_true (show (k : Int) < m by omega), Bool.true_and] at h1
  simp (maxSteps := 2000000) -implicitDefEqProofs (disch := (first | omega | rfl | assumption | (simp only [rsD]; first | omega | assumption))) only [hp, d1, f0, f1, Nat.reduceAdd, Nat.reduceMul, Nat.reduceLT, Int.reduceToNat, Int.reduceAdd, Int.reduceSub, Int.reduceMul, rsU, rsC]
  refine Ok.step (checkV_ok J2 x.h) fun q ⟨⟨cc, g1, g2⟩, E3⟩ => ?_
  obtain ⟨q, J3⟩ := q
  simp only at g1 E3
  subst g1
  have b3 := (E3.blk _ (by omega)).trans b2
  have hp3 := (E3.blk _ (by omega)).trans hp2
  have C3 := C2.trans E3.chg
  cases hh : hdP x.h with
  | false =>
   rw [hh] at g2 h1
   simp (maxSteps := 2000000) -implicitDefEqProofs (disch := (first | omega | rfl | assumption | (simp only [rsD]; first | omega | assumption))) only [g2, f0, f1, Nat.reduceAdd, Nat.reduceMul, Nat.reduceLT, Int.reduceToNat, Int.reduceAdd, Int.reduceSub, Int.reduceMul, rsU, rsC]
   exact Ok_some.2 ⟨rfl, by rw [h1]; rfl, C3⟩
  | true =>
  rw [hh] at g2
  rw [hh, Bool.true_and] at h1
  by_cases c2 : (x.P.length : Int) = x.h.p
  case neg =>
   have d2 : ((x.P.length : Int) == x.h.p) = false := beq_eq_false_iff_ne.2 c2
   simp (maxSteps := 2000000) -implicitDefEqProofs (disch := (first | omega | rfl | assumption | (simp only [rsD]; first | omega | assumption))) only [g2, b3, d2, f0, f1, Nat.reduceAdd, Nat.reduceMul, Nat.reduceLT, Int.reduceToNat, Int.reduceAdd, Int.reduceSub, Int.reduceMul, rsU, rsC]
   exact Ok_some.2 ⟨rfl, by rw [h1, decide_eq_false c2]; rfl, C3⟩
  have d2 : ((x.P.length : Int) == x.h.p) = true := beq_iff_eq.2 c2
  rw [decide_eq_true c2, Bool.true_and] at h1
  by_cases c3 : (x.R.length : Int) = x.h.r
  case neg =>
   have d3 : ((x.R.length : Int) == x.h.r) = false := beq_eq_false_iff_ne.2 c3
   simp (maxSteps := 2000000) -implicitDefEqProofs (disch := (first | omega | rfl | assumption | (simp only [rsD]; first | omega | assumption))) only [g2, b3, d2, d3, f0, f1, Nat.reduceAdd, Nat.reduceMul, Nat.reduceLT, Int.reduceToNat, Int.reduceAdd, Int.reduceSub, Int.reduceMul, rsU, rsC]
   exact Ok_some.2 ⟨rfl, by rw [h1, decide_eq_false c3]; rfl, C3⟩
  have d3 : ((x.R.length : Int) == x.h.r) = true := beq_iff_eq.2 c3
  rw [decide_eq_true c3, Bool.true_and, meet_split] at h1
  simp (maxSteps := 2000000) -implicitDefEqProofs (disch := (first | omega | rfl | assumption | (simp only [rsD]; first | omega | assumption))) only [g2, b3, d2, d3, f0, f1, Nat.reduceAdd, Nat.reduceMul, Nat.reduceLT, Int.reduceToNat, Int.reduceAdd, Int.reduceSub, Int.reduceMul, rsU, rsC]
  refine Ok.step (within_ok (lo := 0) (hi := (l.length : Int)) hc hxP) fun q ⟨g3, E4⟩ => ?_
  obtain ⟨q, J4⟩ := q
  simp only at g3 E4
  subst g3
  have n3 := E3.next
  have b4 := (E4.blk _ (by omega)).trans b3
  have hp4 := (E4.blk _ (by omega)).trans hp3
  have C4 := C3.trans E4.chg
  cases hw : allIn 0 l.length x.P with
  | false =>
   rw [hw] at h1
   simp (maxSteps := 2000000) -implicitDefEqProofs (disch := (first | omega | rfl | assumption | (simp only [rsD]; first | omega | assumption))) only [f0, f1, Nat.reduceAdd, Nat.reduceMul, Nat.reduceLT, Int.reduceToNat, Int.reduceAdd, Int.reduceSub, Int.reduceMul, rsU, rsC]
   exact Ok_some.2 ⟨rfl, by rw [h1]; rfl, C4⟩
  | true =>
  rw [hw] at h1
  simp (maxSteps := 2000000) -implicitDefEqProofs (disch := (first | omega | rfl | assumption | (simp only [rsD]; first | omega | assumption))) only [b4, f0, f1, Nat.reduceAdd, Nat.reduceMul, Nat.reduceLT, Int.reduceToNat, Int.reduceAdd, Int.reduceSub, Int.reduceMul, rsU, rsC]
  refine Ok.step (meet_ok hc hxP hs hp4 ⟨h2, h3⟩ hw) fun q ⟨g4, C5, g5⟩ => ?_
  obtain ⟨q, J5⟩ := q
  simp only at g4 C5 g5
  subst g4
  cases hmm : meetC m x.P with
  | none =>
   rw [hmm] at h1
   simp (maxSteps := 2000000) -implicitDefEqProofs (disch := (first | omega | rfl | assumption | (simp only [rsD]; first | omega | assumption))) only [Option.isSome, f0, f1, Nat.reduceAdd, Nat.reduceMul, Nat.reduceLT, Int.reduceToNat, Int.reduceAdd, Int.reduceSub, Int.reduceMul, rsU, rsC]
   exact Ok_some.2 ⟨rfl, by rw [h1]; rfl, C4.trans C5⟩
  | some m' =>
   rw [hmm] at h1
   obtain ⟨p1, p2, p3⟩ := g5 m' hmm
   simp (maxSteps := 2000000) -implicitDefEqProofs (disch := (first | omega | rfl | assumption | (simp only [rsD]; first | omega | assumption))) only [Option.isSome, f0, f1, Nat.reduceAdd, Nat.reduceMul, Nat.reduceLT, Int.reduceToNat, Int.reduceAdd, Int.reduceSub, Int.reduceMul, rsU, rsC]
   exact Ok_some.2 ⟨m', J5, rfl, h1, p2, p3, C4.trans C5, p1⟩
 ·rintro _ ⟨m, J, rfl, h1, h2, h3, C, hp⟩
  rw [List.drop_length] at h1
  have dk : decide ((l.length : Int) < (l.length : Int)) = false := decide_eq_false (by omega)
  simp (maxSteps := 2000000) -implicitDefEqProofs (disch := (first | omega | rfl | assumption | (simp only [rsD]; first | omega | assumption))) only [canon_Right_L1, dk, Nat.reduceAdd, Nat.reduceMul, Nat.reduceLT, Int.reduceToNat, Int.reduceAdd, Int.reduceSub, Int.reduceMul, rsU, rsC]
  exact Ok_some.2 ⟨rfl, h1, C⟩
theorem right_ok {J : AH O} {F : FV} {v : AV} (hF : FRd J F v) (hf : F.few) : Ok (canon_Right [v] J) fun r => r.1 = .b (rightP F) /\ Ext J r.2 := by
 obtain ⟨a, b, c, rfl, h1, h2, h3⟩ := hF.it
 have q1 := hf.n
 have q2 := hf.r
 have q3 := hf.w
 have f0 : (false == false) = true := rfl
 have f1 : (true == false) = false := rfl
 have hR : rightP F = ((bif allIn 1 F.nodes.length F.roots then (match meetC 0 F.roots with | none => false | some m => nodesR F.nodes.length 0 m F.nodes) else false) && allIn 0 F.nodes.length F.weak) := by
  unfold rightP
  rw [meet_split]
  cases allIn 1 F.nodes.length F.roots <;> rfl
 simp (maxSteps := 2000000) -implicitDefEqProofs (disch := (first | omega | rfl | assumption | (simp only [rsD]; first | omega | assumption))) only [canon_Right, canon_Right_c, Nat.reduceAdd, Nat.reduceMul, Nat.reduceLT, Int.reduceToNat, Int.reduceAdd, Int.reduceSub, Int.reduceMul, rsU, rsC]
 generalize hJ : (J.bump 1).put J.next _ = J1
 obtain ⟨E1, n1, b1⟩ := box1 hJ
 clear hJ
 refine Ok.step (within_ok (lo := 1) (hi := (F.nodes.length : Int)) h2 (by omega)) fun q ⟨g1, E2⟩ => ?_
 obtain ⟨q, J2⟩ := q
 simp only at g1 E2
 subst g1
 have b2 := (E2.blk _ (by omega)).trans b1
 have E02 := E1.trans E2
 cases hw : allIn 1 F.nodes.length F.roots with
 | false =>
  rw [hw] at hR
  simp (maxSteps := 2000000) -implicitDefEqProofs (disch := (first | omega | rfl | assumption | (simp only [rsD]; first | omega | assumption))) only [f0, f1, Nat.reduceAdd, Nat.reduceMul, Nat.reduceLT, Int.reduceToNat, Int.reduceAdd, Int.reduceSub, Int.reduceMul, rsU, rsC]
  exact Ok_some.2 ⟨by rw [hR]; rfl, E02⟩
 | true =>
 rw [hw] at hR
 simp (maxSteps := 2000000) -implicitDefEqProofs (disch := (first | omega | rfl | assumption | (simp only [rsD]; first | omega | assumption))) only [b2, f0, f1, Nat.reduceAdd, Nat.reduceMul, Nat.reduceLT, Int.reduceToNat, Int.reduceAdd, Int.reduceSub, Int.reduceMul, rsU, rsC]
 refine Ok.step (within_ok (lo := 0) (hi := (F.nodes.length : Int)) h3 (by omega)) fun q ⟨g1, E3⟩ => ?_
 obtain ⟨q, J3⟩ := q
 simp only at g1 E3
 subst g1
 have n2 := E2.next
 have b3 := (E3.blk _ (by omega)).trans b2
 have E03 := E02.trans E3
 cases hw2 : allIn 0 F.nodes.length F.weak with
 | false =>
  rw [hw2, Bool.and_false] at hR
  simp (maxSteps := 2000000) -implicitDefEqProofs (disch := (first | omega | rfl | assumption | (simp only [rsD]; first | omega | assumption))) only [f0, f1, Nat.reduceAdd, Nat.reduceMul, Nat.reduceLT, Int.reduceToNat, Int.reduceAdd, Int.reduceSub, Int.reduceMul, rsU, rsC]
  exact Ok_some.2 ⟨by rw [hR], E03⟩
 | true =>
 rw [hw2, Bool.and_true] at hR
 have n3 := E03.next
 have n3' := E3.next
 simp (maxSteps := 2000000) -implicitDefEqProofs (disch := (first | omega | rfl | assumption | (simp only [rsD]; first | omega | assumption))) only [b3, f0, f1, Nat.reduceAdd, Nat.reduceMul, Nat.reduceLT, Int.reduceToNat, Int.reduceAdd, Int.reduceSub, Int.reduceMul, rsU, rsC]
 generalize hJ : (J3.bump 1).put J3.next _ = J4
 obtain ⟨E4, n4, b4⟩ := box1 hJ
 clear hJ
 have b4' := (E4.blk _ (by omega)).trans b3
 have E04 := E03.trans E4
 refine Ok.step (meet_ok h2 (by omega) (n := F.nodes.length) (by omega) b4 ⟨by omega, by omega⟩ (by
  refine List.all_eq_true.2 fun x hx => ?_
  have := of_decide_eq_true (List.all_eq_true.1 hw x hx)
  exact decide_eq_true (by omega))) fun q ⟨g4, C5, g5⟩ => ?_
 obtain ⟨q, J5⟩ := q
 simp only at g4 C5 g5
 subst g4
 cases hmm : meetC 0 F.roots with
 | none =>
  rw [hmm] at hR
  simp (maxSteps := 2000000) -implicitDefEqProofs (disch := (first | omega | rfl | assumption | (simp only [rsD]; first | omega | assumption))) only [Option.isSome, f0, f1, Nat.reduceAdd, Nat.reduceMul, Nat.reduceLT, Int.reduceToNat, Int.reduceAdd, Int.reduceSub, Int.reduceMul, rsU, rsC]
  exact Ok_some.2 ⟨by rw [hR]; rfl, Chg.new E04 (by simp; omega) C5⟩
 | some m' =>
  rw [hmm] at hR
  obtain ⟨p1, p2, p3⟩ := g5 m' hmm
  have b5 := (C5.blk _ (by omega) (by simp; omega)).trans b4'
  have n5 := C5.next
  simp (maxSteps := 2000000) -implicitDefEqProofs (disch := (first | omega | rfl | assumption | (simp only [rsD]; first | omega | assumption))) only [Option.isSome, b5, f0, f1, Nat.reduceAdd, Nat.reduceMul, Nat.reduceLT, Int.reduceToNat, Int.reduceAdd, Int.reduceSub, Int.reduceMul, rsU, rsC]
  refine Ok.bindS (cnodes_ok (s16 := ([.b false], J3)) p1 (show J3.next < J5.next by omega) ((h1.ext E04).of C5.next fun b hb => C5.blk b (by have := h1.lt b hb; have := E04.next; omega) (by simp; have := h1.lt b hb; have := E03.next; omega)) (fun h => by have h9 : J3.next < J.next := h1.lt _ h; have := E03.next; omega) (by omega) (fun x hx => by have := (hf.x x hx).p; omega) ⟨p2, p3⟩) (fun s hs => ?_) (fun r hr => ?_)
  ·obtain ⟨k1, k2, k3⟩ := hs
   exact Ok_some.2 ⟨by rw [hR]; show AV.b true = AV.b (nodesR _ 0 m' _); rw [k2], Chg.new E04 (by simp; omega) (C5.trans k3)⟩
  ·obtain ⟨k1, k2, k3⟩ := hr
   exact ⟨by rw [k1, hR]; show AV.b false = AV.b (nodesR _ 0 m' _); rw [k2], Chg.new E04 (by simp; omega) (C5.trans k3)⟩
end Go.Abs.Try
set_option maxHeartbeats 2000000
namespace Go.Abs.Try
open Go Go.Abs
variable {O : Type}
theorem box2' {J J1 : AH O} {x y : Blk O} (hJ : (((J.bump 1).put J.next x).bump 1).put (J.next + 1) y = J1) : Ext J J1 /\ J1.next = J.next + 2 /\ J1.blk J.next = some x /\ J1.blk (J.next + 1) = some y := by
 subst hJ
 exact ⟨((((Ext.refl J).bump 1).put (Nat.le_refl _) _).bump 1).put (by omega) _, rfl, (s_bn (by omega)).trans s_bs, s_bs⟩
theorem growL {J J' : AH O} {el : TypeId} {a : SA} {n m : Nat} {cs new : List AV} (ho : OwnS J el 1 a n cs) (E : Ext (J.bump 1) J') (hm : new.length = m) :
  Ok (J'.appSl J.next el 1 a n m new) fun r => ∃ a', r.1 = .sl a' (n + m) /\ OwnS r.2 el 1 a' (n + m) (cs ++ new) /\ Chg (SA.bk a) J r.2 /\ ∀ b ∈ SA.bk a', J.next <= b /\ b < r.2.next := by
 have hlt := ho.lt
 have n1 := E.next
 simp only [bump_next] at n1
 have e : ∀ b, b < J.next -> J'.blk b = J.blk b := fun b hb => E.blk b (by simp only [bump_next]; omega)
 have ho1 : OwnS J' el 1 a n cs := ho.of (by omega) fun b hb => e b (hlt b hb)
 refine (app_ok (nid := J.next) ho1 (fun hm => by have := hlt _ hm; omega) (by omega) (show new.length = m * 1 by omega)).mono fun r ⟨a', g1, g2, g3, g4, g5⟩ => ⟨a', g1, g2, ⟨by omega, fun b hb hm => (g4 b (by omega) hm).trans (e b hb)⟩, fun b hb => by have := g5 b hb; omega⟩
theorem growN {J : AH O} {el : TypeId} {a : SA} {n m : Nat} {cs new : List AV} (ho : OwnS J el 1 a n cs) (hm : new.length = m) :
  Ok ((J.bump 1).appSl J.next el 1 a n m new) fun r => ∃ a', r.1 = .sl a' (n + m) /\ OwnS r.2 el 1 a' (n + m) (cs ++ new) /\ Chg (SA.bk a) J r.2 /\ ∀ b ∈ SA.bk a', J.next <= b /\ b < r.2.next := growL ho (Ext.refl _) hm
def Small (l : List Int) : Prop := ∀ x ∈ l, 0 <= x /\ x <= 100000000
theorem small_len {l : List Int} (h : Small l) (hs : l.length <= 1000000) : Small (listW l) := by
 intro x hx
 rcases List.mem_cons.1 hx with rfl | hx
 ·omega
 ·exact h x hx
theorem wl1_ok {J : AH O} {a b : SA} {l : List Int} {n : Nat} {cs : List AV} (hl : Ints .i64 b l) (h0 : Small l) (hs : l.length <= 1000000) (hn : n <= 100000000) (own : OwnS J 54 1 a n cs) :
  Ok (loopF (S := List AV × AH O) (T := List AV × AH O) (image_words_L1 (b, l.length)) ([.sl a n, .i .i64 0], J)) fun r => ∃ a', r.1 = [.sl a' (n + l.length)] /\ OwnS r.2 54 1 a' (n + l.length) (cs ++ l.map (AV.i .u64)) /\ Chg (SA.bk a) J r.2 /\ ∀ x ∈ SA.bk a', x ∈ SA.bk a ∨ J.next <= x := by
 refine Ok.count l.length (fun k s => ∃ a' J', s = ([.sl a' (n + k), .i .i64 (k : Int)], J') /\ OwnS J' 54 1 a' (n + k) (cs ++ (l.take k).map (AV.i .u64)) /\ Chg (SA.bk a) J J' /\ ∀ x ∈ SA.bk a', x ∈ SA.bk a ∨ J.next <= x) ?_ ?_ ⟨a, J, rfl, by simpa using own, Chg.refl _ _, fun x h => .inl h⟩
 ·rintro k _ hk ⟨a', J', rfl, own, C, fr⟩
  have hx := List.getElem?_eq_getElem hk
  have hr := h0 _ (List.getElem_mem hk)
  obtain ⟨bb, oo, r1, ld⟩ := ints_ref hl hx
  have ld1 := ld O (J'.bump 2)
  have ld := ld O J'
  have ht : (l.take (k + 1)).map (AV.i .u64) = (l.take k).map (AV.i .u64) ++ [.i .u64 l[k]] := by rw [List.take_succ_eq_append_getElem hk, List.map_append]; rfl
  rw [ht]
  generalize l[k] = x at *
  have ew : IntKind.u64.wrap x = x := u64_id (by omega) (by omega)
  have dk : decide ((k : Int) < (l.length : Int)) = true := decide_eq_true (by omega)
  have d0 : decide ((0 : Int) <= (k : Int)) = true := decide_eq_true (by omega)
  simp (maxSteps := 2000000) -implicitDefEqProofs (disch := (first | omega | rfl | assumption | (simp only [rsD]; first | omega | assumption))) only [image_words_L1, dk, d0, r1, ld, ld1, ew, Int.toNat_natCast, Nat.reduceAdd, Nat.reduceMul, Nat.reduceLT, Int.reduceToNat, Int.reduceAdd, Int.reduceSub, Int.reduceMul, rsU, rsC]
  refine Ok.step (grow1 own) fun q ⟨a2, g1, g2, g3, g4⟩ => ?_
  obtain ⟨q, J2⟩ := q
  simp only at g1 g2 g3 g4
  subst g1
  simp (maxSteps := 2000000) -implicitDefEqProofs (disch := (first | omega | rfl | assumption | (simp only [rsD]; first | omega | assumption))) only [Nat.reduceAdd, Nat.reduceMul, Nat.reduceLT, Int.reduceToNat, Int.reduceAdd, Int.reduceSub, Int.reduceMul, rsU, rsC]
  refine Ok_some.2 ⟨a2, J2, rfl, ?_, C.trans' g3 fr, fun b hb => .inr (by have := g4 b hb; have := C.next; omega)⟩
  rw [<- List.append_assoc]; exact g2
 ·rintro _ ⟨a', J', rfl, own, C, fr⟩
  rw [List.take_length] at own
  have dk : decide ((l.length : Int) < (l.length : Int)) = false := decide_eq_false (by omega)
  simp (maxSteps := 2000000) -implicitDefEqProofs (disch := (first | omega | rfl | assumption | (simp only [rsD]; first | omega | assumption))) only [image_words_L1, dk, Nat.reduceAdd, Nat.reduceMul, Nat.reduceLT, Int.reduceToNat, Int.reduceAdd, Int.reduceSub, Int.reduceMul, rsU, rsC]
  exact Ok_some.2 ⟨a', rfl, own, C, fr⟩
theorem wl2_ok {J : AH O} {a b : SA} {l : List Int} {n : Nat} {cs : List AV} (hl : Ints .i64 b l) (h0 : Small l) (hs : l.length <= 1000000) (hn : n <= 100000000) (own : OwnS J 54 1 a n cs) :
  Ok (loopF (S := List AV × AH O) (T := List AV × AH O) (haymowref41_list_L1 (b, l.length)) ([.sl a n, .i .i64 0], J)) fun r => ∃ a', r.1 = [.sl a' (n + l.length)] /\ OwnS r.2 54 1 a' (n + l.length) (cs ++ l.map (AV.i .u64)) /\ Chg (SA.bk a) J r.2 /\ ∀ x ∈ SA.bk a', x ∈ SA.bk a ∨ J.next <= x := by
 refine Ok.count l.length (fun k s => ∃ a' J', s = ([.sl a' (n + k), .i .i64 (k : Int)], J') /\ OwnS J' 54 1 a' (n + k) (cs ++ (l.take k).map (AV.i .u64)) /\ Chg (SA.bk a) J J' /\ ∀ x ∈ SA.bk a', x ∈ SA.bk a ∨ J.next <= x) ?_ ?_ ⟨a, J, rfl, by simpa using own, Chg.refl _ _, fun x h => .inl h⟩
 ·rintro k _ hk ⟨a', J', rfl, own, C, fr⟩
  have hx := List.getElem?_eq_getElem hk
  have hr := h0 _ (List.getElem_mem hk)
  obtain ⟨bb, oo, r1, ld⟩ := ints_ref hl hx
  have ld1 := ld O (J'.bump 2)
  have ld := ld O J'
  have ht : (l.take (k + 1)).map (AV.i .u64) = (l.take k).map (AV.i .u64) ++ [.i .u64 l[k]] := by rw [List.take_succ_eq_append_getElem hk, List.map_append]; rfl
  rw [ht]
  generalize l[k] = x at *
  have ew : IntKind.u64.wrap x = x := u64_id (by omega) (by omega)
  have dk : decide ((k : Int) < (l.length : Int)) = true := decide_eq_true (by omega)
  have d0 : decide ((0 : Int) <= (k : Int)) = true := decide_eq_true (by omega)
  simp (maxSteps := 2000000) -implicitDefEqProofs (disch := (first | omega | rfl | assumption | (simp only [rsD]; first | omega | assumption))) only [haymowref41_list_L1, dk, d0, r1, ld, ld1, ew, Int.toNat_natCast, Nat.reduceAdd, Nat.reduceMul, Nat.reduceLT, Int.reduceToNat, Int.reduceAdd, Int.reduceSub, Int.reduceMul, rsU, rsC]
  refine Ok.step (grow1 own) fun q ⟨a2, g1, g2, g3, g4⟩ => ?_
  obtain ⟨q, J2⟩ := q
  simp only at g1 g2 g3 g4
  subst g1
  simp (maxSteps := 2000000) -implicitDefEqProofs (disch := (first | omega | rfl | assumption | (simp only [rsD]; first | omega | assumption))) only [Nat.reduceAdd, Nat.reduceMul, Nat.reduceLT, Int.reduceToNat, Int.reduceAdd, Int.reduceSub, Int.reduceMul, rsU, rsC]
  refine Ok_some.2 ⟨a2, J2, rfl, ?_, C.trans' g3 fr, fun b hb => .inr (by have := g4 b hb; have := C.next; omega)⟩
  rw [<- List.append_assoc]; exact g2
 ·rintro _ ⟨a', J', rfl, own, C, fr⟩
  rw [List.take_length] at own
  have dk : decide ((l.length : Int) < (l.length : Int)) = false := decide_eq_false (by omega)
  simp (maxSteps := 2000000) -implicitDefEqProofs (disch := (first | omega | rfl | assumption | (simp only [rsD]; first | omega | assumption))) only [haymowref41_list_L1, dk, Nat.reduceAdd, Nat.reduceMul, Nat.reduceLT, Int.reduceToNat, Int.reduceAdd, Int.reduceSub, Int.reduceMul, rsU, rsC]
  exact Ok_some.2 ⟨a', rfl, own, C, fr⟩
theorem wl3_ok {J : AH O} {a b : SA} {l : List Int} {n : Nat} {cs : List AV} (hl : Ints .i64 b l) (h0 : Small l) (hs : l.length <= 1000000) (hn : n <= 100000000) (own : OwnS J 54 1 a n cs) :
  Ok (loopF (S := List AV × AH O) (T := List AV × AH O) (image_Put_L2 (b, l.length)) ([.sl a n, .i .i64 0], J)) fun r => ∃ a', r.1 = [.sl a' (n + l.length)] /\ OwnS r.2 54 1 a' (n + l.length) (cs ++ l.map (AV.i .u64)) /\ Chg (SA.bk a) J r.2 /\ ∀ x ∈ SA.bk a', x ∈ SA.bk a ∨ J.next <= x := by
 refine Ok.count l.length (fun k s => ∃ a' J', s = ([.sl a' (n + k), .i .i64 (k : Int)], J') /\ OwnS J' 54 1 a' (n + k) (cs ++ (l.take k).map (AV.i .u64)) /\ Chg (SA.bk a) J J' /\ ∀ x ∈ SA.bk a', x ∈ SA.bk a ∨ J.next <= x) ?_ ?_ ⟨a, J, rfl, by simpa using own, Chg.refl _ _, fun x h => .inl h⟩
 ·rintro k _ hk ⟨a', J', rfl, own, C, fr⟩
  have hx := List.getElem?_eq_getElem hk
  have hr := h0 _ (List.getElem_mem hk)
  obtain ⟨bb, oo, r1, ld⟩ := ints_ref hl hx
  have ld1 := ld O (J'.bump 2)
  have ld := ld O J'
  have ht : (l.take (k + 1)).map (AV.i .u64) = (l.take k).map (AV.i .u64) ++ [.i .u64 l[k]] := by rw [List.take_succ_eq_append_getElem hk, List.map_append]; rfl
  rw [ht]
  generalize l[k] = x at *
  have ew : IntKind.u64.wrap x = x := u64_id (by omega) (by omega)
  have dk : decide ((k : Int) < (l.length : Int)) = true := decide_eq_true (by omega)
  have d0 : decide ((0 : Int) <= (k : Int)) = true := decide_eq_true (by omega)
  simp (maxSteps := 2000000) -implicitDefEqProofs (disch := (first | omega | rfl | assumption | (simp only [rsD]; first | omega | assumption))) only [image_Put_L2, dk, d0, r1, ld, ld1, ew, Int.toNat_natCast, Nat.reduceAdd, Nat.reduceMul, Nat.reduceLT, Int.reduceToNat, Int.reduceAdd, Int.reduceSub, Int.reduceMul, rsU, rsC]
  refine Ok.step (grow1 own) fun q ⟨a2, g1, g2, g3, g4⟩ => ?_
  obtain ⟨q, J2⟩ := q
  simp only at g1 g2 g3 g4
  subst g1
  simp (maxSteps := 2000000) -implicitDefEqProofs (disch := (first | omega | rfl | assumption | (simp only [rsD]; first | omega | assumption))) only [Nat.reduceAdd, Nat.reduceMul, Nat.reduceLT, Int.reduceToNat, Int.reduceAdd, Int.reduceSub, Int.reduceMul, rsU, rsC]
  refine Ok_some.2 ⟨a2, J2, rfl, ?_, C.trans' g3 fr, fun b hb => .inr (by have := g4 b hb; have := C.next; omega)⟩
  rw [<- List.append_assoc]; exact g2
 ·rintro _ ⟨a', J', rfl, own, C, fr⟩
  rw [List.take_length] at own
  have dk : decide ((l.length : Int) < (l.length : Int)) = false := decide_eq_false (by omega)
  simp (maxSteps := 2000000) -implicitDefEqProofs (disch := (first | omega | rfl | assumption | (simp only [rsD]; first | omega | assumption))) only [image_Put_L2, dk, Nat.reduceAdd, Nat.reduceMul, Nat.reduceLT, Int.reduceToNat, Int.reduceAdd, Int.reduceSub, Int.reduceMul, rsU, rsC]
  exact Ok_some.2 ⟨a', rfl, own, C, fr⟩
theorem words_ok {J : AH O} {b : SA} {l : List Int} (hl : Ints .i64 b l) (h0 : Small l) (hs : l.length <= 1000000) :
  Ok (image_words [.sl b l.length] J) fun r => (∃ a', r.1 = .sl a' (listW l).length /\ Imm 1 a' (listW l).length ((listW l).map (AV.i .u64))) /\ Ext J r.2 := by
 refine frz_ints (s := image_words_c) (k := .u64) (l := listW l) ?_
 have ew : IntKind.u64.wrap (l.length : Int) = (l.length : Int) := u64_id (by omega) (by omega)
 simp (maxSteps := 2000000) -implicitDefEqProofs (disch := (first | omega | rfl | assumption | (simp only [rsD]; first | omega | assumption))) only [image_words_c, ew, Nat.reduceAdd, Nat.reduceMul, Nat.reduceLT, Int.reduceToNat, Int.reduceAdd, Int.reduceSub, Int.reduceMul, rsU, rsC]
 generalize hJ : (J.bump 1).put J.next _ = J1
 obtain ⟨E1, n1, b1⟩ := box1 hJ
 clear hJ
 have own : OwnS J1 54 1 (.loc (.n J.next) 0 1) 1 [.i .u64 (l.length : Int)] := OwnS.new rfl b1 (by omega)
 refine Ok.step (wl1_ok hl h0 hs (by omega) own) fun q ⟨a', g1, g2, g3, g4⟩ => ?_
 obtain ⟨q, J2⟩ := q
 simp only at g1 g2 g3
 subst g1
 have hn : (listW l).length = 1 + l.length := by unfold listW; simp; omega
 simp (maxSteps := 2000000) -implicitDefEqProofs (disch := (first | omega | rfl | assumption | (simp only [rsD]; first | omega | assumption))) only [Nat.reduceAdd, Nat.reduceMul, Nat.reduceLT, Int.reduceToNat, Int.reduceAdd, Int.reduceSub, Int.reduceMul, rsU, rsC]
 refine Ok_some.2 ⟨a', 54, by rw [hn], by rw [hn]; exact g2, Chg.new E1 (by simp [SA.bk]) g3, fun b hb => ?_⟩
 rcases g4 b hb with h | h
 ·simp [SA.bk] at h; omega
 ·omega
theorem rlist_ok {J : AH O} {b : SA} {l : List Int} (hl : Ints .i64 b l) (h0 : Small l) (hs : l.length <= 1000000) :
  Ok (haymowref41_list [.sl b l.length] J) fun r => (∃ a', r.1 = .sl a' (listW l).length /\ Imm 1 a' (listW l).length ((listW l).map (AV.i .u64))) /\ Ext J r.2 := by
 refine frz_ints (s := haymowref41_list_c) (k := .u64) (l := listW l) ?_
 have ew : IntKind.u64.wrap (l.length : Int) = (l.length : Int) := u64_id (by omega) (by omega)
 simp (maxSteps := 2000000) -implicitDefEqProofs (disch := (first | omega | rfl | assumption | (simp only [rsD]; first | omega | assumption))) only [haymowref41_list_c, ew, Nat.reduceAdd, Nat.reduceMul, Nat.reduceLT, Int.reduceToNat, Int.reduceAdd, Int.reduceSub, Int.reduceMul, rsU, rsC]
 generalize hJ : (J.bump 1).put J.next _ = J1
 obtain ⟨E1, n1, b1⟩ := box1 hJ
 clear hJ
 have own : OwnS J1 54 1 (.loc (.n J.next) 0 1) 1 [.i .u64 (l.length : Int)] := OwnS.new rfl b1 (by omega)
 refine Ok.step (wl2_ok hl h0 hs (by omega) own) fun q ⟨a', g1, g2, g3, g4⟩ => ?_
 obtain ⟨q, J2⟩ := q
 simp only at g1 g2 g3
 subst g1
 have hn : (listW l).length = 1 + l.length := by unfold listW; simp; omega
 simp (maxSteps := 2000000) -implicitDefEqProofs (disch := (first | omega | rfl | assumption | (simp only [rsD]; first | omega | assumption))) only [Nat.reduceAdd, Nat.reduceMul, Nat.reduceLT, Int.reduceToNat, Int.reduceAdd, Int.reduceSub, Int.reduceMul, rsU, rsC]
 refine Ok_some.2 ⟨a', 54, by rw [hn], by rw [hn]; exact g2, Chg.new E1 (by simp [SA.bk]) g3, fun b hb => ?_⟩
 rcases g4 b hb with h | h
 ·simp [SA.bk] at h; omega
 ·omega
end Go.Abs.Try
set_option maxHeartbeats 4000000
namespace Go.Abs.Try
open Go Go.Abs
variable {O : Type}
def putW (F : FV) : List Int := bif rightP F then sealed (encs (wordsW pck F)) else []
def _root_.Go.Abs.FV.rng (F : FV) : Prop := ∀ x ∈ F.nodes, ∀ w ∈ x.R, 0 <= w /\ w < 18446744073709551616
theorem Small.of {l : List Int} {n lo : Int} (h : ∀ k ∈ l, lo <= k /\ k <= n) (h0 : 0 <= lo) (hn : n <= 100000000) : Small l := fun x hx => by have := h x hx; omega
theorem words_rng {F : FV} (h : rightP F = true) (hr : F.rng) (hf : F.few) : Words (wordsW pck F) := by
 obtain ⟨h1, h2, h3⟩ := rightP_at h
 have n1 := hf.n
 have n2 := hf.r
 have n3 := hf.w
 have lw : ∀ {l : List Int}, Small l -> l.length <= 1000000 -> ∀ y ∈ listW l, 0 <= y /\ y < 18446744073709551616 := fun hs hl y hy => by have := small_len hs hl y hy; omega
 intro y hy
 rcases List.mem_cons.1 hy with rfl | hy
 ·omega
 rcases List.mem_append.1 hy with hy | hy
 ·obtain ⟨x, hx, hy⟩ := List.mem_flatMap.1 hy
  obtain ⟨k1, k2, k3, k4⟩ := h1 x hx
  rcases List.mem_cons.1 hy with rfl | hy
  ·exact pck_rng k1
  ·rcases List.mem_append.1 hy with hy | hy
   ·have := k4 y hy; omega
   ·exact hr x hx y hy
 ·rcases List.mem_append.1 hy with hy | hy
  ·exact lw (Small.of h2 (by decide) (by omega)) (by omega) y hy
  ·exact lw (Small.of h3 (by decide) (by omega)) (by omega) y hy
def upto (F : FV) (k : Nat) : List Int := (F.nodes.length : Int) :: (F.nodes.take k).flatMap (nodeW pck)
theorem upto_succ {F : FV} {k : Nat} (hk : k < F.nodes.length) : upto F (k + 1) = upto F k ++ nodeW pck F.nodes[k] := by
 unfold upto
 rw [List.take_succ_eq_append_getElem hk, List.flatMap_append]
 simp
theorem upto_all {F : FV} : upto F F.nodes.length ++ (listW F.roots ++ listW F.weak) = wordsW pck F := by
 unfold upto wordsW
 rw [List.take_length]; simp
theorem upto_le {F : FV} {k : Nat} (hk : k <= F.nodes.length) : (upto F k).length <= (wordsW pck F).length := by
 rw [<- upto_all, List.length_append]
 have : (upto F k).length <= (upto F F.nodes.length).length := by
  have e : upto F F.nodes.length = upto F k ++ (F.nodes.drop k).flatMap (nodeW pck) := by
   unfold upto
   rw [List.take_length, List.cons_append, <- List.flatMap_append, List.take_append_drop]
  rw [e]; simp
 omega
theorem pnodes_ok {J : AH O} {F : FV} {a : SA} {s : SA} (hl : Nodes a F.nodes) (hf : F.few) (hR : rightP F = true) (ht : (wordsW pck F).length <= 50000) (own : OwnS J 54 1 s 1 [.i .u64 (F.nodes.length : Int)]) :
  Ok (loopF (S := List AV × AH O) (T := List AV × AH O) (image_Put_L1 (a, F.nodes.length) header_Pack) ([.sl s 1, .i .i64 0], J)) fun r => ∃ s', r.1 = [.sl s' (upto F F.nodes.length).length] /\ OwnS r.2 54 1 s' (upto F F.nodes.length).length ((upto F F.nodes.length).map (AV.i .u64)) /\ Chg (SA.bk s) J r.2 /\ ∀ b ∈ SA.bk s', b ∈ SA.bk s ∨ J.next <= b := by
 refine Ok.count F.nodes.length (fun k st => ∃ s' J', st = ([.sl s' (upto F k).length, .i .i64 (k : Int)], J') /\ OwnS J' 54 1 s' (upto F k).length ((upto F k).map (AV.i .u64)) /\ Chg (SA.bk s) J J' /\ ∀ b ∈ SA.bk s', b ∈ SA.bk s ∨ J.next <= b) ?_ ?_ ⟨s, J, rfl, own, Chg.refl _ _, fun b h => .inl h⟩
 ·rintro k _ hk ⟨s', J', rfl, own, C, fr⟩
  have hx := List.getElem?_eq_getElem hk
  have hm := List.getElem_mem hk
  obtain ⟨k1, k2, k3, k4⟩ := (rightP_at hR).1 _ hm
  have hxf := hf.x _ hm
  have hxP := hxf.p
  have hxR := hxf.r
  have hnn := hf.n
  have hsm : Small (F.nodes[k]).P := Small.of k4 (by decide) (by omega)
  obtain ⟨bb, oo, c, d, r1, hc, hd, ld⟩ := node_ref hl hx
  obtain ⟨l0, l1, l2, l3, l4, l5, l6⟩ := ld O (J'.bump 1)
  have hle := upto_le (F := F) (k := k) (by omega)
  rw [upto_succ hk]
  generalize F.nodes[k] = x at *
  have dk : decide ((k : Int) < (F.nodes.length : Int)) = true := decide_eq_true (by omega)
  have d0 : decide ((0 : Int) <= (k : Int)) = true := decide_eq_true (by omega)
  simp (maxSteps := 2000000) -implicitDefEqProofs (disch := (first | omega | rfl | assumption | (simp only [rsD]; first | omega | assumption))) only [image_Put_L1, dk, d0, r1, l0, l1, l2, l3, l4, l5, l6, Int.toNat_natCast, Nat.reduceAdd, Nat.reduceMul, Nat.reduceLT, Int.reduceToNat, Int.reduceAdd, Int.reduceSub, Int.reduceMul, rsU, rsC]
  generalize hJ : (J'.bump 1).put J'.next _ = J2
  obtain ⟨E2, n2, b2⟩ := box1 hJ
  clear hJ
  refine Ok.step (hpackV_ok J2 k1) fun q ⟨g1, E3⟩ => ?_
  obtain ⟨q, J3⟩ := q
  simp only at g1 E3
  subst g1
  have b3 := (E3.blk _ (by omega)).trans b2
  have n3 := E3.next
  have E23 := E2.trans E3
  have own3 := own.of E23.next fun q hq => E23.blk q (own.lt q hq)
  simp (maxSteps := 2000000) -implicitDefEqProofs (disch := (first | omega | rfl | assumption | (simp only [rsD]; first | omega | assumption))) only [Nat.reduceAdd, Nat.reduceMul, Nat.reduceLT, Int.reduceToNat, Int.reduceAdd, Int.reduceSub, Int.reduceMul, rsU, rsC]
  refine Ok.step (grow1 own3) fun q ⟨s4, g1, g2, C4, g4⟩ => ?_
  obtain ⟨q, J4⟩ := q
  simp only at g1 g2 C4 g4
  subst g1
  have n4 := C4.next
  have nin : J'.next ∉ SA.bk s' := fun h => by have := own.lt _ h; omega
  have b4 := (C4.blk _ (by omega) nin).trans b3
  simp (maxSteps := 2000000) -implicitDefEqProofs (disch := (first | omega | rfl | assumption | (simp only [rsD]; first | omega | assumption))) only [b4, Nat.reduceAdd, Nat.reduceMul, Nat.reduceLT, Int.reduceToNat, Int.reduceAdd, Int.reduceSub, Int.reduceMul, rsU, rsC]
  refine Ok.step (wl3_ok hc hsm (by omega) (by omega) g2) fun q ⟨s5, g1, own5, C5, f5⟩ => ?_
  obtain ⟨q, J5⟩ := q
  simp only at g1 own5 C5
  subst g1
  have n5 := C5.next
  have nin4 : J'.next ∉ SA.bk s4 := fun h => by have := (g4 _ h).1; omega
  have b5 := (C5.blk _ (by omega) nin4).trans b4
  have rR : (J5.bump 1).rdSl d x.R.length 1 = some (x.R.map (AV.i .u64)) := (hd.imm O _).rdSl
  simp (maxSteps := 2000000) -implicitDefEqProofs (disch := (first | omega | rfl | assumption | (simp only [rsD]; first | omega | assumption))) only [b5, rR, Nat.reduceAdd, Nat.reduceMul, Nat.reduceLT, Int.reduceToNat, Int.reduceAdd, Int.reduceSub, Int.reduceMul, rsU, rsC]
  refine Ok.step (growN own5 (by simp)) fun q ⟨s6, g1, own6, C6, f6⟩ => ?_
  obtain ⟨q, J6⟩ := q
  simp only at g1 own6 C6 f6
  subst g1
  simp (maxSteps := 2000000) -implicitDefEqProofs (disch := (first | omega | rfl | assumption | (simp only [rsD]; first | omega | assumption))) only [Nat.reduceAdd, Nat.reduceMul, Nat.reduceLT, Int.reduceToNat, Int.reduceAdd, Int.reduceSub, Int.reduceMul, rsU, rsC]
  have hlen : (upto F k ++ nodeW pck x).length = (upto F k).length + 1 + x.P.length + x.R.length := by unfold nodeW; simp; omega
  have hmap : (upto F k ++ nodeW pck x).map (AV.i .u64) = (upto F k).map (AV.i .u64) ++ [.i .u64 (pck x.h)] ++ x.P.map (AV.i .u64) ++ x.R.map (AV.i .u64) := by unfold nodeW; simp
  have nC := C.next
  refine Ok_some.2 ⟨s6, J6, by rw [hlen]; rfl, by rw [hlen, hmap]; exact own6, ?_, fun b hb => .inr (by have := (f6 b hb).1; omega)⟩
  have C04 : Chg (SA.bk s) J J4 := (C.trans E23.chg).trans' C4 fr
  have C05 : Chg (SA.bk s) J J5 := C04.trans' C5 fun b hb => .inr (by have := (g4 b hb).1; omega)
  exact C05.trans' C6 fun b hb => .inr (by
   rcases f5 b hb with h | h
   ·have := (g4 b h).1; omega
   ·omega)
 ·rintro _ ⟨s', J', rfl, own, C, fr⟩
  have dk : decide ((F.nodes.length : Int) < (F.nodes.length : Int)) = false := decide_eq_false (by omega)
  simp (maxSteps := 2000000) -implicitDefEqProofs (disch := (first | omega | rfl | assumption | (simp only [rsD]; first | omega | assumption))) only [image_Put_L1, dk, Nat.reduceAdd, Nat.reduceMul, Nat.reduceLT, Int.reduceToNat, Int.reduceAdd, Int.reduceSub, Int.reduceMul, rsU, rsC]
  exact Ok_some.2 ⟨s', rfl, own, C, fr⟩
theorem New1 {o : Option (AV × AH O)} {J : AH O} {k : IntKind} {l : List Int} (h : Ok o fun r => (∃ a', r.1 = .sl a' l.length /\ Imm 1 a' l.length (l.map (AV.i k))) /\ Ext J r.2) : Ok o fun r => New J r.2 [ints k l] [r.1] :=
 h.mono fun r ⟨⟨a', e, hi⟩, E⟩ => by
  rw [e]
  exact New.im (.cons (ints_mk (Ints.mk hi)) .nil) E
theorem imInts {k : IntKind} {l : List Int} {v : AV} (h : Im (ints k l) v) : ∃ a', v = .sl a' l.length /\ Imm 1 a' l.length (l.map (AV.i k)) := by
 obtain ⟨a', e, hi⟩ := ints_un h
 exact ⟨a', e, hi.imm⟩
theorem imm_lt {J : AH O} {es n : Nat} {a : SA} {cs : List AV} (h : Imm es a n cs) : Rd J es a n cs /\ Old J a := ⟨h O J, fun b hb => by rw [h.bk] at hb; cases hb⟩
theorem put_form_ok {J : AH O} {F : FV} {v : AV} (hF : F.At v) (hf : F.few) (hr : F.rng) (ht : (wordsW pck F).length <= 50000) :
  Ok (image_Put [v] J) fun r => (∃ a', r.1 = .sl a' (putW F).length /\ Imm 1 a' (putW F).length ((putW F).map (AV.i .u8))) /\ Ext J r.2 := by
 suffices h : Ok (image_Put_c canon_Right header_Pack image_words varint_All crc_Seal [v] J) fun r => (∃ a', r.1 = .sl a' (putW F).length /\ Imm 1 a' (putW F).length ((putW F).map (AV.i .u8))) /\ Ext J r.2 from
  (frz_sl (s := image_Put_c canon_Right header_Pack image_words varint_All crc_Seal) (ints_deep .u8 (putW F) 6) (New1 h)).mono fun r ⟨g1, g2⟩ => ⟨imInts g1, g2⟩
 obtain ⟨a, b, c, e, h1, h2, h3⟩ := hF.it
 have hR := fun J => right_ok (O := O) (J := J) (FRd.im hF J) hf
 subst e
 have q1 := hf.n
 have q2 := hf.r
 have q3 := hf.w
 simp (maxSteps := 2000000) -implicitDefEqProofs (disch := (first | omega | rfl | assumption | (simp only [rsD]; first | omega | assumption))) only [image_Put_c, Nat.reduceAdd, Nat.reduceMul, Nat.reduceLT, Int.reduceToNat, Int.reduceAdd, Int.reduceSub, Int.reduceMul, rsU, rsC]
 generalize hJ : (J.bump 1).put J.next _ = J1
 obtain ⟨E1, n1, b1⟩ := box1 hJ
 clear hJ
 refine Ok.step (hR J1) fun q ⟨g1, E2⟩ => ?_
 obtain ⟨q, J2⟩ := q
 simp only at g1 E2
 subst g1
 have n2 := E2.next
 have E02 := E1.trans E2
 have b2 := (E2.blk _ (by omega)).trans b1
 cases hw : rightP F with
 | false =>
  simp (maxSteps := 2000000) -implicitDefEqProofs (disch := (first | omega | rfl | assumption | (simp only [rsD]; first | omega | assumption))) only [Nat.reduceAdd, Nat.reduceMul, Nat.reduceLT, Int.reduceToNat, Int.reduceAdd, Int.reduceSub, Int.reduceMul, rsU, rsC]
  exact Ok_some.2 ⟨⟨.nil, by unfold putW; rw [hw]; rfl, by unfold putW; rw [hw]; exact Imm.nil 1⟩, E02⟩
 | true =>
 have ew : IntKind.u64.wrap (F.nodes.length : Int) = (F.nodes.length : Int) := u64_id (by omega) (by omega)
 simp (maxSteps := 2000000) -implicitDefEqProofs (disch := (first | omega | rfl | assumption | (simp only [rsD]; first | omega | assumption))) only [b2, ew, Nat.reduceAdd, Nat.reduceMul, Nat.reduceLT, Int.reduceToNat, Int.reduceAdd, Int.reduceSub, Int.reduceMul, rsU, rsC]
 generalize hJ : (J2.bump 1).put J2.next _ = J3
 obtain ⟨E3, n3, b3'⟩ := box1 hJ
 clear hJ
 have b3 := (E3.blk _ (by omega)).trans b2
 have E03 := E02.trans E3
 have own : OwnS J3 54 1 (.loc (.n J2.next) 0 1) 1 [.i .u64 (F.nodes.length : Int)] := OwnS.new rfl b3' (by omega)
 have sR : Small F.roots := Small.of (rightP_at hw).2.1 (by decide) (by omega)
 have sW : Small F.weak := Small.of (rightP_at hw).2.2 (by decide) (by omega)
 have hlr : (listW F.roots).length = F.roots.length + 1 := by simp [listW]
 have hlw : (listW F.weak).length = F.weak.length + 1 := by simp [listW]
 have hup := upto_le (F := F) (Nat.le_refl F.nodes.length)
 refine Ok.step (pnodes_ok h1 hf hw ht own) fun q ⟨s4, g1, own4, C4, f4⟩ => ?_
 obtain ⟨q, J4⟩ := q
 simp only at g1 own4 C4
 subst g1
 have n4 := C4.next
 have b4 := (C4.blk _ (by omega) (by simp [SA.bk]; omega)).trans b3
 have E04 : Ext J J4 := Chg.new E03 (by simp [SA.bk]; omega) C4
 have f4' : ∀ b ∈ SA.bk s4, J2.next <= b := fun b hb => by
  rcases f4 b hb with h | h
  ·simp [SA.bk] at h; omega
  ·omega
 simp (maxSteps := 2000000) -implicitDefEqProofs (disch := (first | omega | rfl | assumption | (simp only [rsD]; first | omega | assumption))) only [b4, Nat.reduceAdd, Nat.reduceMul, Nat.reduceLT, Int.reduceToNat, Int.reduceAdd, Int.reduceSub, Int.reduceMul, rsU, rsC]
 refine Ok.step (words_ok (J := J4.bump 1) h2 sR (by omega)) fun q ⟨⟨w5, g1, i5⟩, E5⟩ => ?_
 obtain ⟨q, J5⟩ := q
 simp only at g1 E5
 subst g1
 have r5 := (i5 O J5).rdSl
 simp (maxSteps := 2000000) -implicitDefEqProofs (disch := (first | omega | rfl | assumption | (simp only [rsD]; first | omega | assumption))) only [r5, Nat.reduceAdd, Nat.reduceMul, Nat.reduceLT, Int.reduceToNat, Int.reduceAdd, Int.reduceSub, Int.reduceMul, rsU, rsC]
 refine Ok.step (growL own4 E5 (by simp)) fun q ⟨s6, g1, own6, C6, f6⟩ => ?_
 obtain ⟨q, J6⟩ := q
 simp only at g1 own6 C6 f6
 subst g1
 have n6 := C6.next
 have b6 := (C6.blk _ (by omega) (fun h => by have := f4' _ h; omega)).trans b4
 have E06 : Ext J J6 := Chg.new E04 (fun b hb => by have := f4' b hb; omega) C6
 simp (maxSteps := 2000000) -implicitDefEqProofs (disch := (first | omega | rfl | assumption | (simp only [rsD]; first | omega | assumption))) only [b6, Nat.reduceAdd, Nat.reduceMul, Nat.reduceLT, Int.reduceToNat, Int.reduceAdd, Int.reduceSub, Int.reduceMul, rsU, rsC]
 refine Ok.step (words_ok (J := J6.bump 1) h3 sW (by omega)) fun q ⟨⟨w7, g1, i7⟩, E7⟩ => ?_
 obtain ⟨q, J7⟩ := q
 simp only at g1 E7
 subst g1
 have r7 := (i7 O J7).rdSl
 simp (maxSteps := 2000000) -implicitDefEqProofs (disch := (first | omega | rfl | assumption | (simp only [rsD]; first | omega | assumption))) only [r7, Nat.reduceAdd, Nat.reduceMul, Nat.reduceLT, Int.reduceToNat, Int.reduceAdd, Int.reduceSub, Int.reduceMul, rsU, rsC]
 refine Ok.step (growL own6 E7 (by simp)) fun q ⟨s8, g1, own8, C8, f8⟩ => ?_
 obtain ⟨q, J8⟩ := q
 simp only at g1 own8 C8 f8
 subst g1
 have n04 := E04.next
 have E08 : Ext J J8 := Chg.new E06 (fun b hb => by have := (f6 b hb).1; omega) C8
 have hlen : (upto F F.nodes.length).length + (listW F.roots).length + (listW F.weak).length = (wordsW pck F).length := by rw [<- upto_all]; simp; omega
 rw [<- List.map_append, <- List.map_append, List.append_assoc, upto_all, hlen] at own8
 have hW := words_rng hw hr hf
 have hel := (encs_len hW).2
 simp (maxSteps := 2000000) -implicitDefEqProofs (disch := (first | omega | rfl | assumption | (simp only [rsD]; first | omega | assumption))) only [hlen, Nat.reduceAdd, Nat.reduceMul, Nat.reduceLT, Int.reduceToNat, Int.reduceAdd, Int.reduceSub, Int.reduceMul, rsU, rsC]
 refine Ok.step (all_ok own8.rd (fun b hb => own8.lt b hb) hW (by omega)) fun q ⟨⟨s9, g1, i9⟩, E9⟩ => ?_
 obtain ⟨q, J9⟩ := q
 simp only at g1 E9
 subst g1
 simp (maxSteps := 2000000) -implicitDefEqProofs (disch := (first | omega | rfl | assumption | (simp only [rsD]; first | omega | assumption))) only [Nat.reduceAdd, Nat.reduceMul, Nat.reduceLT, Int.reduceToNat, Int.reduceAdd, Int.reduceSub, Int.reduceMul, rsU, rsC]
 obtain ⟨r9, o9⟩ := imm_lt (J := J9) i9
 refine Ok.step (seal_ok r9 o9 (encs_bytes _) (by omega)) fun q ⟨⟨s10, g1, i10⟩, E10⟩ => ?_
 obtain ⟨q, J10⟩ := q
 simp only at g1 E10
 subst g1
 simp (maxSteps := 2000000) -implicitDefEqProofs (disch := (first | omega | rfl | assumption | (simp only [rsD]; first | omega | assumption))) only [Nat.reduceAdd, Nat.reduceMul, Nat.reduceLT, Int.reduceToNat, Int.reduceAdd, Int.reduceSub, Int.reduceMul, rsU, rsC]
 have e : putW F = sealed (encs (wordsW pck F)) := by unfold putW; rw [hw]; rfl
 rw [e]
 exact Ok_some.2 ⟨⟨s10, rfl, i10⟩, (E08.trans E9).trans E10⟩
end Go.Abs.Try
