/-
  The functions of layer 6: checksums: the document's answer.
-/
import Derived.Test.YtdbnoocdpbkkpaaV6b
set_option linter.unusedVariables false
set_option linter.unusedSimpArgs false
set_option linter.unusedSimpArgs false
namespace Go.Abs.Try
open Go Go.Abs Go.Abs.Crc
variable {O : Type}

/-- other blocks than that of this slice are as they were -/
structure But (σ σ' : AH O) (a : SA) : Prop where
  next : σ'.next = σ.next
  blk : ∀ b, (∀ o e, a ≠ .loc b o e) → σ'.blk b = σ.blk b
theorem But.refl (σ : AH O) (a : SA) : But σ σ a := ⟨rfl, fun _ _ => rfl⟩
theorem But.trans {σ σ' σ'' : AH O} {a : SA} (h : But σ σ' a) (h' : But σ' σ'' a) : But σ σ'' a := ⟨h'.next.trans h.next, fun b hb => (h'.blk b hb).trans (h.blk b hb)⟩
theorem But.ext {σ0 σ σ' : AH O} {a : SA} {el : Nat} (h : But σ σ' a) (he : Ext σ0 σ) (ho : Own σ0.next σ el a) : Ext σ0 σ' :=
  ⟨by rw [h.next]; exact he.next, fun b hb => by
    rw [h.blk b fun o e ha => ?_, he.blk b hb]
    subst ha
    have := ho.1; omega⟩
theorem Rd.but {σ σ' : AH O} {a c : SA} {es n : Nat} {cs : List AV} (h : Rd σ es c n cs) (hb : But σ σ' a) (hne : ∀ b o e o' e', c = .loc b o e → a ≠ .loc b o' e') : Rd σ' es c n cs :=
  h.of (by rw [hb.next]; exact Nat.le_refl _) fun b o e hc => hb.blk b fun o' e' => hne b o e o' e' hc
theorem Own.ext {σ σ' : AH O} {base el es n : Nat} {a : SA} {cs : List AV} (h : Own base σ el a) (hr : Rd σ es a n cs) (he : Ext σ σ') : Own base σ' el a := by
  cases a with
  | loc b o e =>
    obtain ⟨g1, all, g2⟩ := h
    exact ⟨g1, all, by rw [he.blk b hr.lt]; exact g2⟩
  | nil => trivial
  | z => trivial
theorem map_getB {l : List Bool} {i : Nat} {b : Bool} (hi : l[i]? = some b) : (l.map AV.b)[i]? = some (.b b) := by simp [hi]
theorem set_mapB {l : List Bool} {i : Nat} {b : Bool} : (l.map AV.b).set i (.b b) = (l.set i b).map AV.b := by rw [List.map_set]

theorem bit_eq' {c : Int} (h : 0 ≤ c) (j : Nat) : ((Int.tmod (Int.fdiv c (2 ^ j)) 2 : Int) == 1) = c.toNat.testBit j := by
  have hp : (0 : Int) < 2 ^ j := Int.pow_pos (by omega)
  rw [Int.fdiv_eq_ediv_of_nonneg _ (Int.le_of_lt hp)]
  have h1 : c / 2 ^ j = ((c.toNat / 2 ^ j : Nat) : Int) := by push_cast; rw [Int.toNat_of_nonneg h]
  rw [h1, Int.tmod_eq_emod_of_nonneg (Int.natCast_nonneg _), Nat.testBit_eq_decide_div_mod_eq]
  generalize c.toNat / 2 ^ j = q
  rw [Bool.eq_iff_iff]
  simp only [beq_iff_eq, decide_eq_true_eq]
  omega

theorem bits_ok {a : SA} {n : Nat} {bs : List Int} {σ : AH O} (hr : Rd σ 1 a n (bs.map (AV.i .u8))) (hb : Bytes bs) (hn : n ≤ 1000000) :
    Ok (haymowref06_Bits [.sl a n] σ) fun r => Ext σ r.2 ∧ ∃ a', r.1 = .sl a' (bitsB bs).length ∧ Rd r.2 1 a' (bitsB bs).length ((bitsB bs).map AV.b) ∧ Own σ.next r.2 4 a' := by
  have hl : bs.length = n := by have := hr.len; simpa using this
  subst hl
  simp only [haymowref06_Bits, len0, len1, len2, len3, len4, len5, get0, get1, get2, get3, get4, get5, Option.bind_some, asI_i, asB_b, asS_s, asP_p, asPS_p, asSl_sl, asTup2, asTup3, asTup4, joinB, joinI, beq_true, beq_false, Bool.not_true, Bool.not_false, Bool.not_not, cond_true, cond_false, neI, Int.toNat_natCast, Option.map_some, bindS_inl, bindS_inr, decNN, Bool.and_true, Bool.true_and, decide_true, decide_false]
  refine Ok.step (Q := fun s : List AV × AH O => Ext σ s.2 ∧ ∃ a', s.1 = [.sl a' (bitsB bs).length] ∧ Rd s.2 1 a' (bitsB bs).length ((bitsB bs).map AV.b) ∧ Own σ.next s.2 4 a')
    (Ok.count bs.length (fun k (s : List AV × AH O) => ∃ (a' : SA) (σ2 : AH O), s = ([.sl a' (bitsB (bs.take k)).length, .i .i64 k], σ2) ∧ Ext σ σ2 ∧ Rd σ2 1 a' (bitsB (bs.take k)).length ((bitsB (bs.take k)).map AV.b) ∧ Own σ.next σ2 4 a') ?_ ?_ ⟨.nil, σ, rfl, Ext.refl σ, Rd.nil σ 1, trivial⟩) ?_
  · rintro k s hk ⟨a', σ2, rfl, he, h3, h4⟩
    have hin : ((k : Int) < (bs.length : Int)) := by omega
    have hc := bytes_get hb hk
    have hlen : (bitsB (bs.take k)).length = 8 * k := by rw [bitsB_len]; simp; omega
    simp only [len0, len1, len2, len3, len4, len5, get0, get1, get2, get3, get4, get5, Option.bind_some, asI_i, asB_b, asS_s, asP_p, asPS_p, asSl_sl, asTup2, asTup3, asTup4, joinB, joinI, beq_true, beq_false, Bool.not_true, Bool.not_false, Bool.not_not, cond_true, cond_false, neI, Int.toNat_natCast, Option.map_some, bindS_inl, bindS_inr, decNN, Bool.and_true, Bool.true_and, decide_true, decide_false, hin]
    refine Ok.step (Q := fun s : List AV × AH O => Ext σ s.2 ∧ ∃ a3, s.1 = [.sl a3 (bitsB (bs.take (k + 1))).length] ∧ Rd s.2 1 a3 (bitsB (bs.take (k + 1))).length ((bitsB (bs.take (k + 1))).map AV.b) ∧ Own σ.next s.2 4 a3)
      (Ok.count 8 (fun j (s : List AV × AH O) => ∃ (a3 : SA) (σ3 : AH O), s = ([.sl a3 (8 * k + j), .i .i64 (7 - (j : Int))], σ3) ∧ Ext σ σ3 ∧ Rd σ3 1 a3 (8 * k + j) ((bitsB (bs.take k) ++ (bits8 bs[k].toNat).take j).map AV.b) ∧ Own σ.next σ3 4 a3) ?_ ?_ ⟨a', σ2, by rw [hlen]; rfl, he, by rw [← hlen]; simpa using h3, h4⟩) ?_
    · rintro j s hj ⟨a3, σ3, rfl, he3, h5, h6⟩
      have hge : ((7 - (j : Int)) ≥ 0) := by omega
      have eb : Ext σ3 (σ3.bump 2) := (Ext.refl σ3).bump 2
      have g1 := fun {B : Type} (f : AV → Option B) => ((hr.ext he3).ext eb).ld1 (map_get (k := .u8) hk) f
      have e1 : IntKind.u64.wrap (7 - (j : Int)) = ((7 - j : Nat) : Int) := by rw [u64_id (by omega) (by omega)]; omega
      have hneg : ¬ (((7 - j : Nat) : Int) < 0) := by omega
      have hmin : min (7 - j) 8 = 7 - j := by omega
      simp only [len0, len1, len2, len3, len4, len5, get0, get1, get2, get3, get4, get5, Option.bind_some, asI_i, asB_b, asS_s, asP_p, asPS_p, asSl_sl, asTup2, asTup3, asTup4, joinB, joinI, beq_true, beq_false, Bool.not_true, Bool.not_false, Bool.not_not, cond_true, cond_false, neI, Int.toNat_natCast, Option.map_some, bindS_inl, bindS_inr, decNN, Bool.and_true, Bool.true_and, decide_true, decide_false, hge, g1, e1, hneg, hmin, bit_eq' hc.1]
      simp only [len0, len1, len2, len3, len4, len5, get0, get1, get2, get3, get4, get5, Ok_bind, Ok_some, Ok_none, Ok_bif, asI_i, asB_b, asS_s, asP_p, asPS_p, asSl_sl, decide_eq_true_eq, asTup2, asTup3, asTup4, joinB, joinI, beq_true, beq_false, Bool.not_true, Bool.not_false, Bool.not_not, cond_true, cond_false, Int.toNat_natCast, Option.map_some, decNN, Bool.and_true, Bool.true_and]
      refine app1_ok (j := 0) h5 h6 he3.next (by omega) rfl (by omega) fun a4 σ4 k1 k2 k3 k4 => ?_
      simp only [len0, len1, len2, len3, len4, len5, get0, get1, get2, get3, get4, get5, Ok_bind, Ok_some, Ok_none, Ok_bif, asI_i, asB_b, asS_s, asP_p, asPS_p, asSl_sl, decide_eq_true_eq, asTup2, asTup3, asTup4, joinB, joinI, beq_true, beq_false, Bool.not_true, Bool.not_false, Bool.not_not, cond_true, cond_false, Int.toNat_natCast, Option.map_some, decNN, Bool.and_true, Bool.true_and]
      rw [i64_id (by omega) (by omega)]
      refine ⟨a4, σ4, ?_, own_ext he3 h6 (by omega) k4, ?_, k2⟩
      · have : 7 - (j : Int) - 1 = 7 - ((j + 1 : Nat) : Int) := by omega
        rw [this]; rfl
      · have hj8 : j < (bits8 bs[k].toNat).length := by simp [bits8]; exact hj
        rw [List.take_succ_eq_append_getElem hj8]
        have hb8 : (bits8 bs[k].toNat)[j] = bs[k].toNat.testBit (7 - j) := by
          rw [← bits8_get _ _ hj]; simp [List.getD, hj8]
        rw [hb8, ← Nat.add_assoc]
        simpa using k1
    · rintro s ⟨a3, σ3, rfl, he3, h5, h6⟩
      have hge : ¬ ((7 - ((8 : Nat) : Int)) ≥ 0) := by omega
      simp only [len0, len1, len2, len3, len4, len5, get0, get1, get2, get3, get4, get5, Option.bind_some, asI_i, asB_b, asS_s, asP_p, asPS_p, asSl_sl, asTup2, asTup3, asTup4, joinB, joinI, beq_true, beq_false, Bool.not_true, Bool.not_false, Bool.not_not, cond_true, cond_false, neI, Int.toNat_natCast, Option.map_some, bindS_inl, bindS_inr, decNN, Bool.and_true, Bool.true_and, decide_true, decide_false, hge]
      have e8 : 8 * k + 8 = (bitsB (bs.take (k + 1))).length := by rw [bitsB_take hk]; simp [hlen, bits8]
      rw [List.take_of_length_le (l := bits8 bs[k].toNat) (by simp [bits8]), ← bitsB_take hk, e8] at h5
      exact Ok_some.2 ⟨he3, a3, by rw [e8], h5, h6⟩
    · rintro ⟨s1, s2⟩ ⟨g1, a3, g2, g3, g4⟩
      simp only at g2
      subst g2
      simp only [len0, len1, len2, len3, len4, len5, get0, get1, get2, get3, get4, get5, Option.bind_some, asI_i, asB_b, asS_s, asP_p, asPS_p, asSl_sl, asTup2, asTup3, asTup4, joinB, joinI, beq_true, beq_false, Bool.not_true, Bool.not_false, Bool.not_not, cond_true, cond_false, neI, Int.toNat_natCast, Option.map_some, bindS_inl, bindS_inr, decNN, Bool.and_true, Bool.true_and, decide_true, decide_false]
      rw [i64_id (by omega) (by omega)]
      exact Ok_some.2 ⟨a3, s2, rfl, g1, g3, g4⟩
  · rintro s ⟨a', σ2, rfl, he, h3, h4⟩
    have hin : ¬ ((bs.length : Int) < (bs.length : Int)) := by omega
    simp only [len0, len1, len2, len3, len4, len5, get0, get1, get2, get3, get4, get5, Option.bind_some, asI_i, asB_b, asS_s, asP_p, asPS_p, asSl_sl, asTup2, asTup3, asTup4, joinB, joinI, beq_true, beq_false, Bool.not_true, Bool.not_false, Bool.not_not, cond_true, cond_false, neI, Int.toNat_natCast, Option.map_some, bindS_inl, bindS_inr, decNN, Bool.and_true, Bool.true_and, decide_true, decide_false, hin]
    rw [List.take_length] at h3
    exact Ok_some.2 ⟨he, a', by rw [List.take_length], h3, h4⟩
  · rintro ⟨s1, s2⟩ ⟨g1, a3, g2, g3, g4⟩
    simp only at g2
    subst g2
    simp only [len0, len1, len2, len3, len4, len5, get0, get1, get2, get3, get4, get5, Option.bind_some, asI_i, asB_b, asS_s, asP_p, asPS_p, asSl_sl, asTup2, asTup3, asTup4, joinB, joinI, beq_true, beq_false, Bool.not_true, Bool.not_false, Bool.not_not, cond_true, cond_false, neI, Int.toNat_natCast, Option.map_some, bindS_inl, bindS_inr, decNN, Bool.and_true, Bool.true_and, decide_true, decide_false]
    exact Ok_some.2 ⟨g1, a3, rfl, g3, g4⟩

/-! ### Lists of a word's bits -/
theorem bitsW_get {s : W} {k : Nat} (hk : k < 64) : (bitsW s)[k]? = some (s.getLsbD (63 - k)) := by simp [bitsW, hk]
theorem rep_set {m : Nat} {b : Bool} {l : List Bool} : (List.replicate (m + 1) false ++ l).set m b = List.replicate m false ++ b :: l := by
  rw [List.replicate_succ', List.append_assoc, List.set_append_right _ _ (by simp)]
  simp

theorem list_ok {w : W} {σ : AH O} : Ok (haymowref06_List [.i .u64 (wI w)] σ) fun r => Ext σ r.2 ∧ r.1 = .sl (.loc σ.next 0 1) 64 ∧ Rd r.2 1 (.loc σ.next 0 1) 64 ((bitsW w).map AV.b) ∧ Own σ.next r.2 4 (.loc σ.next 0 1) := by
  have hwr := wI_range w
  simp only [haymowref06_List, len0, len1, len2, len3, len4, len5, get0, get1, get2, get3, get4, get5, Option.bind_some, asI_i, asB_b, asS_s, asP_p, asPS_p, asSl_sl, asTup2, asTup3, asTup4, joinB, joinI, beq_true, beq_false, Bool.not_true, Bool.not_false, Bool.not_not, cond_true, cond_false, neI, Int.toNat_natCast, Option.map_some, bindS_inl, bindS_inr, decNN, Bool.and_true, Bool.true_and, decide_true, decide_false]
  have e0 : Ext σ ((σ.bump 1).put σ.next (.cells true 4 ((List.replicate 64 [AV.b false]).flatten))) := ((Ext.refl σ).bump 1).put (Nat.le_refl _) _
  have hz : (List.replicate 64 [AV.b false]).flatten = (List.replicate 64 false).map AV.b := rfl
  have r0 : Rd ((σ.bump 1).put σ.next (.cells true 4 ((List.replicate 64 [AV.b false]).flatten))) 1 (.loc σ.next 0 1) 64 ((List.replicate 64 false).map AV.b) := by
    rw [hz]; exact Rd.new (el := 4) (by simp) (by simp) (by simp)
  have o0 : Own σ.next ((σ.bump 1).put σ.next (.cells true 4 ((List.replicate 64 [AV.b false]).flatten))) 4 (.loc σ.next 0 1) := ⟨Nat.le_refl _, _, by simp; rfl⟩
  generalize (σ.bump 1).put σ.next (.cells true 4 ((List.replicate 64 [AV.b false]).flatten)) = σ1 at *
  refine Ok.step (Q := fun s : List AV × AH O => s.1 = [] ∧ But σ1 s.2 (.loc σ.next 0 1) ∧ Rd s.2 1 (.loc σ.next 0 1) 64 ((bitsW w).map AV.b) ∧ Own σ.next s.2 4 (.loc σ.next 0 1))
    (Ok.count 64 (fun k (s : List AV × AH O) => ∃ σ2 : AH O, s = ([.i .u64 (wI w / 2 ^ k), .i .i64 (63 - (k : Int))], σ2) ∧ But σ1 σ2 (.loc σ.next 0 1) ∧ Rd σ2 1 (.loc σ.next 0 1) 64 ((List.replicate (64 - k) false ++ (bitsW w).drop (64 - k)).map AV.b) ∧ Own σ.next σ2 4 (.loc σ.next 0 1)) ?_ ?_ ⟨σ1, by simp, But.refl _ _, by rw [Nat.sub_zero, List.drop_of_length_le (by rw [bitsW_len]; omega), List.append_nil]; exact r0, o0⟩) ?_
  · rintro k s hk ⟨σ2, rfl, hbt, h3, h4⟩
    have hge : (63 - (k : Int) ≥ 0) := by omega
    have e1 : 63 - (k : Int) = ((63 - k : Nat) : Int) := by omega
    have hge' : (((63 - k : Nat) : Int) ≥ 0) := by omega
    have hlt : (((63 - k : Nat) : Int) < 64) := by omega
    have hp : (0 : Int) < 2 ^ k := Int.pow_pos (by omega)
    have hq : 0 ≤ wI w / 2 ^ k := Int.ediv_nonneg hwr.1 (by omega)
    have hq' : wI w / 2 ^ k < 18446744073709551616 := Int.lt_of_le_of_lt (Int.ediv_le_self _ hwr.1) hwr.2
    have hbit : ((Int.tmod (wI w / 2 ^ k) 2 : Int) == 1) = w.getLsbD k := by
      have := bit_eq' hwr.1 k
      rw [Int.fdiv_eq_ediv_of_nonneg _ (by omega)] at this
      rw [this]; rfl
    have hdiv : IntKind.u64.wrap (Int.tdiv (wI w / 2 ^ k) 2) = wI w / 2 ^ (k + 1) := by
      rw [Int.tdiv_eq_ediv_of_nonneg hq, u64_id (by omega) (by omega), Int.ediv_ediv_of_nonneg (by omega), Int.pow_succ]
    simp only [e1, len0, len1, len2, len3, len4, len5, get0, get1, get2, get3, get4, get5, Option.bind_some, asI_i, asB_b, asS_s, asP_p, asPS_p, asSl_sl, asTup2, asTup3, asTup4, joinB, joinI, beq_true, beq_false, Bool.not_true, Bool.not_false, Bool.not_not, cond_true, cond_false, neI, Int.toNat_natCast, Option.map_some, bindS_inl, bindS_inr, decNN, Bool.and_true, Bool.true_and, decide_true, decide_false, hge', hlt, hbit, hdiv]
    simp only [len0, len1, len2, len3, len4, len5, get0, get1, get2, get3, get4, get5, Ok_bind, Ok_some, Ok_none, Ok_bif, asI_i, asB_b, asS_s, asP_p, asPS_p, asSl_sl, decide_eq_true_eq, asTup2, asTup3, asTup4, joinB, joinI, beq_true, beq_false, Bool.not_true, Bool.not_false, Bool.not_not, cond_true, cond_false, Int.toNat_natCast, Option.map_some, decNN, Bool.and_true, Bool.true_and]
    have hset := Rd.set1 h3 h4 (i := 63 - k) (by omega) (.b (w.getLsbD k)) (R := fun σ' => ∃ σ2 : AH O, (([.i .u64 (wI w / 2 ^ (k + 1)), .i .i64 (IntKind.i64.wrap (((63 - k : Nat) : Int) - 1))], σ') : List AV × AH O) = ([.i .u64 (wI w / 2 ^ (k + 1)), .i .i64 (63 - ((k + 1 : Nat) : Int))], σ2) ∧ But σ1 σ2 (.loc σ.next 0 1) ∧ Rd σ2 1 (.loc σ.next 0 1) 64 ((List.replicate (64 - (k + 1)) false ++ (bitsW w).drop (64 - (k + 1))).map AV.b) ∧ Own σ.next σ2 4 (.loc σ.next 0 1)) fun σ' k1 k2 k3 k4 => by
      refine ⟨σ', ?_, hbt.trans ⟨k3, k4⟩, ?_, k2⟩
      · rw [i64_id (by omega) (by omega)]
        congr 4; omega
      · have e2 : (List.replicate (64 - k) false ++ (bitsW w).drop (64 - k)).set (63 - k) (w.getLsbD k) = List.replicate (64 - (k + 1)) false ++ (bitsW w).drop (64 - (k + 1)) := by
          rw [show 64 - k = (63 - k) + 1 by omega, rep_set]
          rw [show 64 - (k + 1) = 63 - k by omega]
          congr 1
          have hk3 : 63 - k < (bitsW w).length := by rw [bitsW_len]; omega
          rw [List.drop_eq_getElem_cons hk3]
          congr 1
          have := bitsW_get (s := w) (k := 63 - k) (by omega)
          rw [List.getElem?_eq_getElem hk3] at this
          have h5 := Option.some.inj this
          rw [h5]; congr 1; omega
        rw [set_mapB, e2] at k1
        exact k1
    simpa [SA.ref] using hset
  · rintro s ⟨σ2, rfl, hbt, h3, h4⟩
    have hge : ¬ (63 - ((64 : Nat) : Int) ≥ 0) := by omega
    simp only [len0, len1, len2, len3, len4, len5, get0, get1, get2, get3, get4, get5, Option.bind_some, asI_i, asB_b, asS_s, asP_p, asPS_p, asSl_sl, asTup2, asTup3, asTup4, joinB, joinI, beq_true, beq_false, Bool.not_true, Bool.not_false, Bool.not_not, cond_true, cond_false, neI, Int.toNat_natCast, Option.map_some, bindS_inl, bindS_inr, decNN, Bool.and_true, Bool.true_and, decide_true, decide_false, hge]
    exact Ok_some.2 ⟨rfl, hbt, by simpa using h3, h4⟩
  · rintro ⟨s1, s2⟩ ⟨g1, g2, g3, g4⟩
    simp only [len0, len1, len2, len3, len4, len5, get0, get1, get2, get3, get4, get5, Option.bind_some, asI_i, asB_b, asS_s, asP_p, asPS_p, asSl_sl, asTup2, asTup3, asTup4, joinB, joinI, beq_true, beq_false, Bool.not_true, Bool.not_false, Bool.not_not, cond_true, cond_false, neI, Int.toNat_natCast, Option.map_some, bindS_inl, bindS_inr, decNN, Bool.and_true, Bool.true_and, decide_true, decide_false]
    exact Ok_some.2 ⟨g2.ext e0 o0, rfl, g3, g4⟩

/-- the number of bits -/
def valR : List Bool → Nat
  | [] => 0
  | b :: l => 2 * valR l + b.toNat
theorem valR_bit : ∀ (l : List Bool) (j : Nat), (valR l).testBit j = l.getD j false
  | [], j => by simp [valR]
  | b :: l, 0 => by cases b <;> simp [valR, Nat.testBit_zero] <;> omega
  | b :: l, j + 1 => by
    have : (2 * valR l + b.toNat) / 2 = valR l := by have := Bool.toNat_lt b; omega
    simp only [valR, Nat.testBit_succ, this, valR_bit l j]
    simp
theorem valR_lt : ∀ l : List Bool, valR l < 2 ^ l.length
  | [] => by simp [valR]
  | b :: l => by
    have := valR_lt l
    have := Bool.toNat_lt b
    simp only [valR, List.length_cons, Nat.pow_succ]; omega
theorem valR_word (s : W) : valR (bitsW s).reverse = s.toNat := by
  apply Nat.eq_of_testBit_eq
  intro i
  rw [valR_bit]
  by_cases hi : i < 64
  · have h1 : (bitsW s).reverse[i]? = some (s.getLsbD i) := by
      rw [List.getElem?_reverse (by rw [bitsW_len]; exact hi), bitsW_len, bitsW_get (by omega)]
      congr 2; omega
    simp only [List.getD, h1, Option.getD_some]; rfl
  · have h1 : (bitsW s).reverse[i]? = none := List.getElem?_eq_none (by simp [bitsW_len]; omega)
    simp only [List.getD, h1, Option.getD_none]
    exact (Nat.testBit_lt_two_pow (Nat.lt_of_lt_of_le s.isLt (Nat.pow_le_pow_right (by omega) (by omega)))).symm

theorem word_ok {w : W} {a : SA} {σ : AH O} (hr : Rd σ 1 a 64 ((bitsW w).map AV.b)) : Ok (haymowref06_Word [.sl a 64] σ) fun r => r = (.i .u64 (wI w), σ) := by
  simp only [haymowref06_Word, len0, len1, len2, len3, len4, len5, get0, get1, get2, get3, get4, get5, Option.bind_some, asI_i, asB_b, asS_s, asP_p, asPS_p, asSl_sl, asTup2, asTup3, asTup4, joinB, joinI, beq_true, beq_false, Bool.not_true, Bool.not_false, Bool.not_not, cond_true, cond_false, neI, Int.toNat_natCast, Option.map_some, bindS_inl, bindS_inr, decNN, Bool.and_true, Bool.true_and, decide_true, decide_false]
  refine Ok.step (Q := fun r : List AV × AH O => r = ([.i .u64 (wI w)], σ)) (Ok.count 64 (fun k (s : List AV × AH O) => s = ([.i .u64 (valR ((bitsW w).take k).reverse), .i .i64 k], σ)) ?_ ?_ rfl) ?_
  · rintro k s hk rfl
    have hin : ((k : Int) < 64) := by omega
    have hin' : decide ((k : Int) < ((64 : Nat) : Int)) = true := by simp; omega
    have hkl : k < (bitsW w).length := by rw [bitsW_len]; exact hk
    have g1 := fun {B : Type} (f : AV → Option B) => hr.ld1 (map_getB (List.getElem?_eq_getElem hkl)) f
    have hv : valR ((bitsW w).take (k + 1)).reverse = 2 * valR ((bitsW w).take k).reverse + (bitsW w)[k].toNat := by
      rw [List.take_succ_eq_append_getElem hkl, List.reverse_append]; rfl
    have hlt := valR_lt ((bitsW w).take (k + 1)).reverse
    have h64 : 2 ^ ((bitsW w).take (k + 1)).reverse.length ≤ 2 ^ 64 := Nat.pow_le_pow_right (by omega) (by simp; omega)
    rw [hv] at hlt
    simp only [len0, len1, len2, len3, len4, len5, get0, get1, get2, get3, get4, get5, Option.bind_some, asI_i, asB_b, asS_s, asP_p, asPS_p, asSl_sl, asTup2, asTup3, asTup4, joinB, joinI, beq_true, beq_false, Bool.not_true, Bool.not_false, Bool.not_not, cond_true, cond_false, neI, Int.toNat_natCast, Option.map_some, bindS_inl, bindS_inr, decNN, Bool.and_true, Bool.true_and, decide_true, decide_false, hin, hin', g1]
    generalize valR ((bitsW w).take k).reverse = v at *
    cases hbk : (bitsW w)[k] with
    | true =>
      rw [hbk] at hv hlt
      simp only [Bool.toNat_true] at hv hlt
      simp only [len0, len1, len2, len3, len4, len5, get0, get1, get2, get3, get4, get5, Option.bind_some, asI_i, asB_b, asS_s, asP_p, asPS_p, asSl_sl, asTup2, asTup3, asTup4, joinB, joinI, beq_true, beq_false, Bool.not_true, Bool.not_false, Bool.not_not, cond_true, cond_false, neI, Int.toNat_natCast, Option.map_some, bindS_inl, bindS_inr, decNN, Bool.and_true, Bool.true_and, decide_true, decide_false]
      rw [u64_id (n := (v : Int) * 2) (by omega) (by omega), u64_id (by omega) (by omega), i64_id (by omega) (by omega), hv]
      refine Ok_some.2 ?_
      show (_, _) = _
      congr 3
      push_cast; omega
    | false =>
      rw [hbk] at hv hlt
      simp only [Bool.toNat_false] at hv hlt
      simp only [len0, len1, len2, len3, len4, len5, get0, get1, get2, get3, get4, get5, Option.bind_some, asI_i, asB_b, asS_s, asP_p, asPS_p, asSl_sl, asTup2, asTup3, asTup4, joinB, joinI, beq_true, beq_false, Bool.not_true, Bool.not_false, Bool.not_not, cond_true, cond_false, neI, Int.toNat_natCast, Option.map_some, bindS_inl, bindS_inr, decNN, Bool.and_true, Bool.true_and, decide_true, decide_false]
      rw [u64_id (n := (v : Int) * 2) (by omega) (by omega), i64_id (by omega) (by omega), hv]
      refine Ok_some.2 ?_
      show (_, _) = _
      congr 3
      push_cast; omega
  · rintro s rfl
    have hin : ¬ (((64 : Nat) : Int) < 64) := by omega
    simp only [len0, len1, len2, len3, len4, len5, get0, get1, get2, get3, get4, get5, Option.bind_some, asI_i, asB_b, asS_s, asP_p, asPS_p, asSl_sl, asTup2, asTup3, asTup4, joinB, joinI, beq_true, beq_false, Bool.not_true, Bool.not_false, Bool.not_not, cond_true, cond_false, neI, Int.toNat_natCast, Option.map_some, bindS_inl, bindS_inr, decNN, Bool.and_true, Bool.true_and, decide_true, decide_false, hin]
    rw [List.take_of_length_le (by rw [bitsW_len]; omega), valR_word]
    exact Ok_some.2 rfl
  · rintro r rfl
    simp only [len0, len1, len2, len3, len4, len5, get0, get1, get2, get3, get4, get5, Option.bind_some, asI_i, asB_b, asS_s, asP_p, asPS_p, asSl_sl, asTup2, asTup3, asTup4, joinB, joinI, beq_true, beq_false, Bool.not_true, Bool.not_false, Bool.not_not, cond_true, cond_false, neI, Int.toNat_natCast, Option.map_some, bindS_inl, bindS_inr, decNN, Bool.and_true, Bool.true_and, decide_true, decide_false]
    exact Ok_some.2 rfl
end Go.Abs.Try
