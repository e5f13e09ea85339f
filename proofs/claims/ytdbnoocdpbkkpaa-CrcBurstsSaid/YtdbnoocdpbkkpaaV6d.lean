/-
  The functions of layer 6: checksums: the document's division.
-/
import Derived.Test.YtdbnoocdpbkkpaaV6c
set_option linter.unusedVariables false
set_option linter.unusedSimpArgs false
set_option linter.unusedSimpArgs false
namespace Go.Abs.Try
open Go Go.Abs Go.Abs.Crc
variable {O : Type}

/-- what stands at j when i bits are divided off -/
def FF (s : W) (i : Nat) (m : List Bool) (j : Nat) : Bool := (decide (j - i < 64) && s.getLsbD (63 - (j - i))) ^^ m.getD j false

theorem feed_bit (s : W) (b : Bool) (k : Nat) (hk : k < 64) : (feed s b).getLsbD (63 - k) = ((decide (k + 1 < 64) && s.getLsbD (63 - (k + 1))) ^^ ((s.getLsbD 63 ^^ b) && poly.getLsbD (63 - k))) := by
  have hm : (s ^^^ bitTop b).msb = (s.getLsbD 63 ^^ b) := by
    rw [msb_xor, BitVec.msb_eq_getLsbD_last]
    congr 1
    cases b <;> decide
  have hb : ∀ i, i < 63 → (bitTop b).getLsbD i = false := fun i hi => by
    unfold bitTop
    cases b with
    | false => simp
    | true =>
      have : (0x8000000000000000#64 : W) = (1#64) <<< 63 := by decide
      simp only [if_true, this, BitVec.getLsbD_shiftLeft]
      simp; omega
  unfold feed feed0
  rw [hm, BitVec.getLsbD_xor]
  congr 1
  · rw [BitVec.getLsbD_shiftLeft]
    by_cases h63 : k = 63
    · subst h63; simp
    · have e : 63 - k - 1 = 63 - (k + 1) := by omega
      rw [e, BitVec.getLsbD_xor, hb _ (by omega), Bool.xor_false]
      have h1 : 63 - k < 64 := by omega
      have h2 : ¬ 63 - k < 1 := by omega
      have h3 : k + 1 < 64 := by omega
      simp [h1, h2, h3]
  · cases (s.getLsbD 63 ^^ b) <;> simp

theorem FF_next {s : W} {i j : Nat} {m : List Bool} {b : Bool} (hj : i + 1 ≤ j) : FF (feed s b) (i + 1) m j = (FF s i m j ^^ ((s.getLsbD 63 ^^ b) && (decide (j - (i + 1) < 64) && poly.getLsbD (63 - (j - (i + 1)))))) := by
  unfold FF
  by_cases h : j - (i + 1) < 64
  · have h1 := feed_bit s b (j - (i + 1)) h
    have e : j - (i + 1) + 1 = j - i := by omega
    rw [e] at h1
    simp only [h, decide_true, Bool.true_and, h1]
    cases (decide (j - i < 64) && s.getLsbD (63 - (j - i))) <;> cases m.getD j false <;> cases ((s.getLsbD 63 ^^ b) && poly.getLsbD (63 - (j - (i + 1)))) <;> rfl
  · have h2 : ¬ j - i < 64 := by omega
    simp [h, h2]

theorem not_beq_xor (a b : Bool) : (!(a == b)) = (a ^^ b) := by cases a <;> cases b <;> rfl
theorem poly_int : (4823603603198064275 : Int) = wI poly := by decide +kernel

theorem refMore_ok {s : W} {a : SA} {n : Nat} {bs : List Int} {σ : AH O} (hr : Rd σ 1 a n (bs.map (AV.i .u8))) (hb : Bytes bs) (hn : n ≤ 1000000) :
    Ok (haymowref06_More [.i .u64 (wI s), .sl a n] σ) fun r => Ext σ r.2 ∧ r.1 = .i .u64 (wI (crc s (bitsB bs))) := by
  have hl : bs.length = n := by have := hr.len; simpa using this
  simp only [haymowref06_More, len0, len1, len2, len3, len4, len5, get0, get1, get2, get3, get4, get5, Option.bind_some, asI_i, asB_b, asS_s, asP_p, asPS_p, asSl_sl, asTup2, asTup3, asTup4, joinB, joinI, beq_true, beq_false, Bool.not_true, Bool.not_false, Bool.not_not, cond_true, cond_false, neI, Int.toNat_natCast, Option.map_some, bindS_inl, bindS_inr, decNN, Bool.and_true, Bool.true_and, decide_true, decide_false]
  have e0 : Ext σ (σ.bump 1) := (Ext.refl σ).bump 1
  refine Ok.step (bits_ok (hr.ext e0) hb hn) fun r ⟨he1, a1, g1, g2, g3⟩ => ?_
  obtain ⟨r1, σ1⟩ := r
  simp only at g1 he1 g2 g3
  subst g1
  obtain ⟨N, hN⟩ : ∃ N : Nat, N = (bitsB bs).length := ⟨_, rfl⟩
  have hN8 : N = 8 * n := by rw [hN, bitsB_len, hl]
  rw [← hN] at g2 ⊢
  generalize hm : bitsB bs = m at *
  have hble : Nat.ble ((N + 64) * 2) 35184372088832 = true := Nat.ble_eq_true_of_le (by omega)
  have hn1 := he1.next
  simp only [bump_next] at hn1
  have ho1 : Own σ.next σ1 4 a1 := by
    cases a1 with
    | loc b o e =>
      obtain ⟨q1, q2⟩ := g3
      simp only [bump_next] at q1
      exact ⟨by omega, q2⟩
    | nil => trivial
    | z => trivial
  simp only [len0, len1, len2, len3, len4, len5, get0, get1, get2, get3, get4, get5, Option.bind_some, asI_i, asB_b, asS_s, asP_p, asPS_p, asSl_sl, asTup2, asTup3, asTup4, joinB, joinI, beq_true, beq_false, Bool.not_true, Bool.not_false, Bool.not_not, cond_true, cond_false, neI, Int.toNat_natCast, Option.map_some, bindS_inl, bindS_inr, decNN, Bool.and_true, Bool.true_and, decide_true, decide_false, hble]
  refine Ok.step (app_ok (nid := σ.next) g2 ho1 (Nat.le_refl _) (by omega) (fun o e he => by subst he; have := g3.1; simp at this; omega) (m := 64) (by decide)) fun r ⟨a2, k1, k2, k3, k4, k5, k6⟩ => ?_
  obtain ⟨r1, σ2⟩ := r
  simp only at k1 k2 k3 k4 k5 k6
  subst k1
  have hz : (List.replicate 64 [AV.b false]).flatten = (List.replicate 64 false).map AV.b := rfl
  rw [hz, ← List.map_append] at k2
  have hes : Ext σ σ2 := ⟨by omega, fun b hb' => by
    rw [k5 b (by omega) fun o e he => ?_, he1.blk b (by simp; omega)]
    · rfl
    · subst he
      have := g3.1; simp at this; omega⟩
  simp only [len0, len1, len2, len3, len4, len5, get0, get1, get2, get3, get4, get5, Option.bind_some, asI_i, asB_b, asS_s, asP_p, asPS_p, asSl_sl, asTup2, asTup3, asTup4, joinB, joinI, beq_true, beq_false, Bool.not_true, Bool.not_false, Bool.not_not, cond_true, cond_false, neI, Int.toNat_natCast, Option.map_some, bindS_inl, bindS_inr, decNN, Bool.and_true, Bool.true_and, decide_true, decide_false]
  refine Ok.step (list_ok (w := s)) fun r ⟨he3, q1, q2, q3⟩ => ?_
  obtain ⟨r1, σ3⟩ := r
  simp only at he3 q1 q2 q3
  subst q1
  rw [poly_int]
  simp only [len0, len1, len2, len3, len4, len5, get0, get1, get2, get3, get4, get5, Option.bind_some, asI_i, asB_b, asS_s, asP_p, asPS_p, asSl_sl, asTup2, asTup3, asTup4, joinB, joinI, beq_true, beq_false, Bool.not_true, Bool.not_false, Bool.not_not, cond_true, cond_false, neI, Int.toNat_natCast, Option.map_some, bindS_inl, bindS_inr, decNN, Bool.and_true, Bool.true_and, decide_true, decide_false]
  refine Ok.step (list_ok (w := poly)) fun r ⟨he4, p1, p2, p3⟩ => ?_
  obtain ⟨r1, σ4⟩ := r
  simp only at he4 p1 p2 p3
  subst p1
  simp only [len0, len1, len2, len3, len4, len5, get0, get1, get2, get3, get4, get5, Option.bind_some, asI_i, asB_b, asS_s, asP_p, asPS_p, asSl_sl, asTup2, asTup3, asTup4, joinB, joinI, beq_true, beq_false, Bool.not_true, Bool.not_false, Bool.not_not, cond_true, cond_false, neI, Int.toNat_natCast, Option.map_some, bindS_inl, bindS_inr, decNN, Bool.and_true, Bool.true_and, decide_true, decide_false]
  have hn3 := he3.next
  have hn4 := he4.next
  have hS := q2.ext he4
  have hP := p2
  have hA := (k2.ext he3).ext he4
  have k3' : Own σ.next σ2 4 a2 := k3
  have oA := Own.ext (Own.ext k3' k2 he3) (k2.ext he3) he4
  -- the list is apart from the two words
  have apS : ∀ b o e o' e', SA.loc σ2.next 0 1 = .loc b o e → a2 ≠ .loc b o' e' := fun b o e o' e' h h' => by
    injection h with h1; have := k6 _ _ _ h'; omega
  have apP : ∀ b o e o' e', SA.loc σ3.next 0 1 = .loc b o e → a2 ≠ .loc b o' e' := fun b o e o' e' h h' => by
    injection h with h1; have := k6 _ _ _ h'; omega
  have hes4 : Ext σ σ4 := (hes.trans he3).trans he4
  have hml : m.length = N := hN.symm
  -- the word goes in
  refine Ok.step (Q := fun st : List AV × AH O => st.1 = [] ∧ ∃ L : List Bool, L.length = N + 64 ∧ Rd st.2 1 a2 (N + 64) (L.map AV.b) ∧ Own σ.next st.2 4 a2 ∧ But σ4 st.2 a2 ∧ ∀ j, j < N + 64 → L[j]? = some (FF s 0 m j))
    (Ok.count 64 (fun k (st : List AV × AH O) => ∃ (σ' : AH O) (L : List Bool), st = ([.i .i64 k], σ') ∧ L.length = N + 64 ∧ Rd σ' 1 a2 (N + 64) (L.map AV.b) ∧ Own σ.next σ' 4 a2 ∧ But σ4 σ' a2 ∧ ∀ j, j < N + 64 → L[j]? = some (if j < k then FF s 0 m j else m.getD j false)) ?_ ?_
      ⟨σ4, m ++ List.replicate 64 false, rfl, by simp [hml], hA, oA, But.refl _ _, fun j hj => ?_⟩) ?_
  · rintro k st hk ⟨σ', L, rfl, hL, h3, h4, h5, h6⟩
    have hin : ((k : Int) < 64) := by omega
    have hin1 : decide ((k : Int) < ((N + 64 : Nat) : Int)) = true := decide_eq_true (by omega)
    have hin2 : decide ((k : Int) < ((64 : Nat) : Int)) = true := decide_eq_true (by omega)
    have v1 := h6 k (by omega)
    rw [if_neg (by omega)] at v1
    have f1 := fun {B : Type} (f : AV → Option B) => h3.ld1 (map_getB v1) f
    have f2 := fun {B : Type} (f : AV → Option B) => (Rd.but hS h5 apS).ld1 (map_getB (bitsW_get hk)) f
    simp only [len0, len1, len2, len3, len4, len5, get0, get1, get2, get3, get4, get5, Option.bind_some, asI_i, asB_b, asS_s, asP_p, asPS_p, asSl_sl, asTup2, asTup3, asTup4, joinB, joinI, beq_true, beq_false, Bool.not_true, Bool.not_false, Bool.not_not, cond_true, cond_false, neI, Int.toNat_natCast, Option.map_some, bindS_inl, bindS_inr, decNN, Bool.and_true, Bool.true_and, decide_true, decide_false, hin, hin1, hin2, f1, f2]
    simp only [len0, len1, len2, len3, len4, len5, get0, get1, get2, get3, get4, get5, Ok_bind, Ok_some, Ok_none, Ok_bif, asI_i, asB_b, asS_s, asP_p, asPS_p, asSl_sl, decide_eq_true_eq, asTup2, asTup3, asTup4, joinB, joinI, beq_true, beq_false, Bool.not_true, Bool.not_false, Bool.not_not, cond_true, cond_false, Int.toNat_natCast, Option.map_some, decNN, Bool.and_true, Bool.true_and, not_beq_xor]
    refine Rd.set1 h3 h4 (i := k) (by omega) _ fun σ'' c1 c2 c3 c4 => ?_
    rw [i64_id (by omega) (by omega)]
    rw [set_mapB] at c1
    refine ⟨σ'', _, rfl, by simp [hL], c1, c2, h5.trans ⟨c3, c4⟩, fun j hj => ?_⟩
    rw [List.getElem?_set]
    by_cases hjk : k = j
    · subst hjk
      rw [if_pos rfl, if_pos (by omega), if_pos (by omega)]
      unfold FF
      simp only [Nat.sub_zero, hk, decide_true, Bool.true_and]
      congr 1
      cases m.getD k false <;> cases s.getLsbD (63 - k) <;> rfl
    · rw [if_neg hjk, h6 j hj]
      congr 1
      by_cases h : j < k
      · rw [if_pos h, if_pos (by omega)]
      · rw [if_neg h, if_neg (by omega)]
  · rintro st ⟨σ', L, rfl, hL, h3, h4, h5, h6⟩
    have hin : ¬ (((64 : Nat) : Int) < 64) := by omega
    simp only [len0, len1, len2, len3, len4, len5, get0, get1, get2, get3, get4, get5, Option.bind_some, asI_i, asB_b, asS_s, asP_p, asPS_p, asSl_sl, asTup2, asTup3, asTup4, joinB, joinI, beq_true, beq_false, Bool.not_true, Bool.not_false, Bool.not_not, cond_true, cond_false, neI, Int.toNat_natCast, Option.map_some, bindS_inl, bindS_inr, decNN, Bool.and_true, Bool.true_and, decide_true, decide_false, hin]
    refine Ok_some.2 ⟨rfl, L, hL, h3, h4, h5, fun j hj => ?_⟩
    rw [h6 j hj]
    by_cases h : j < 64
    · rw [if_pos h]
    · rw [if_neg h]
      unfold FF
      simp [h]
  · rw [if_neg (by omega)]
    by_cases hjN : j < N
    · rw [List.getElem?_append_left (by omega)]
      have : j < m.length := by omega
      simp [List.getD, this]
    · rw [List.getElem?_append_right (by omega)]
      have : m[j]? = none := List.getElem?_eq_none (by omega)
      rw [List.getElem?_replicate, if_pos (by omega)]
      simp [List.getD, this]
  · rintro ⟨st1, σ5⟩ ⟨w1, L, hL, h3, h4, h5, h6⟩
    simp only at w1 h3 h4 h5
    subst w1
    simp only [len0, len1, len2, len3, len4, len5, get0, get1, get2, get3, get4, get5, Option.bind_some, asI_i, asB_b, asS_s, asP_p, asPS_p, asSl_sl, asTup2, asTup3, asTup4, joinB, joinI, beq_true, beq_false, Bool.not_true, Bool.not_false, Bool.not_not, cond_true, cond_false, neI, Int.toNat_natCast, Option.map_some, bindS_inl, bindS_inr, decNN, Bool.and_true, Bool.true_and, decide_true, decide_false]
    have hwN : IntKind.i64.wrap (((N + 64 : Nat) : Int) - 64) = (N : Int) := by rw [i64_id (by omega) (by omega)]; omega
    simp only [hwN]
    -- the division
    refine Ok.step (Q := fun st : List AV × AH O => st.1 = [] ∧ ∃ L : List Bool, L.length = N + 64 ∧ Rd st.2 1 a2 (N + 64) (L.map AV.b) ∧ Own σ.next st.2 4 a2 ∧ But σ4 st.2 a2 ∧ ∀ j, N ≤ j → j < N + 64 → L[j]? = some (FF (crc s m) N m j))
      (Ok.count N (fun i (st : List AV × AH O) => ∃ (σ' : AH O) (L : List Bool), st = ([.i .i64 i], σ') ∧ L.length = N + 64 ∧ Rd σ' 1 a2 (N + 64) (L.map AV.b) ∧ Own σ.next σ' 4 a2 ∧ But σ4 σ' a2 ∧ ∀ j, i ≤ j → j < N + 64 → L[j]? = some (FF (crc s (m.take i)) i m j)) ?_ ?_
        ⟨σ5, L, rfl, hL, h3, h4, h5, fun j _ hj => h6 j hj⟩) ?_
    · rintro i st hi ⟨σ', L, rfl, hL, h3, h4, h5, h6⟩
      have hin : ((i : Int) < (N : Int)) := by omega
      have hin1 : decide ((i : Int) < ((N + 64 : Nat) : Int)) = true := decide_eq_true (by omega)
      have him : i < m.length := by omega
      have hmi : m.getD i false = m[i] := by simp [List.getD, him]
      have hnext : crc s (m.take (i + 1)) = feed (crc s (m.take i)) m[i] := by
        rw [List.take_succ_eq_append_getElem him, crc_app]; rfl
      generalize crc s (m.take i) = st at *
      have v1 := h6 i (Nat.le_refl _) (by omega)
      have hFi : FF st i m i = (st.getLsbD 63 ^^ m[i]) := by
        unfold FF
        rw [Nat.sub_self, hmi]; rfl
      have f1 := fun {B : Type} (f : AV → Option B) => h3.ld1 (map_getB v1) f
      simp only [len0, len1, len2, len3, len4, len5, get0, get1, get2, get3, get4, get5, Option.bind_some, asI_i, asB_b, asS_s, asP_p, asPS_p, asSl_sl, asTup2, asTup3, asTup4, joinB, joinI, beq_true, beq_false, Bool.not_true, Bool.not_false, Bool.not_not, cond_true, cond_false, neI, Int.toNat_natCast, Option.map_some, bindS_inl, bindS_inr, decNN, Bool.and_true, Bool.true_and, decide_true, decide_false, hin, hin1, f1]
      refine Ok.step (Q := fun r : List AV × AH O => ∃ L : List Bool, L.length = N + 64 ∧ Rd r.2 1 a2 (N + 64) (L.map AV.b) ∧ Own σ.next r.2 4 a2 ∧ But σ4 r.2 a2 ∧ ∀ j, i + 1 ≤ j → j < N + 64 → L[j]? = some (FF (feed st m[i]) (i + 1) m j)) ?_ ?_
      · cases hh : FF st i m i with
        | false =>
          rw [hh] at hFi
          simp only [len0, len1, len2, len3, len4, len5, get0, get1, get2, get3, get4, get5, Option.bind_some, asI_i, asB_b, asS_s, asP_p, asPS_p, asSl_sl, asTup2, asTup3, asTup4, joinB, joinI, beq_true, beq_false, Bool.not_true, Bool.not_false, Bool.not_not, cond_true, cond_false, neI, Int.toNat_natCast, Option.map_some, bindS_inl, bindS_inr, decNN, Bool.and_true, Bool.true_and, decide_true, decide_false]
          refine Ok_some.2 ⟨L, hL, h3, h4, h5, fun j hj1 hj2 => ?_⟩
          rw [h6 j (by omega) hj2, FF_next hj1, ← hFi]
          simp
        | true =>
          rw [hh] at hFi
          simp only [len0, len1, len2, len3, len4, len5, get0, get1, get2, get3, get4, get5, Option.bind_some, asI_i, asB_b, asS_s, asP_p, asPS_p, asSl_sl, asTup2, asTup3, asTup4, joinB, joinI, beq_true, beq_false, Bool.not_true, Bool.not_false, Bool.not_not, cond_true, cond_false, neI, Int.toNat_natCast, Option.map_some, bindS_inl, bindS_inr, decNN, Bool.and_true, Bool.true_and, decide_true, decide_false]
          refine Ok.step (Q := fun r : List AV × AH O => ∃ L : List Bool, L.length = N + 64 ∧ Rd r.2 1 a2 (N + 64) (L.map AV.b) ∧ Own σ.next r.2 4 a2 ∧ But σ4 r.2 a2 ∧ ∀ j, i + 1 ≤ j → j < N + 64 → L[j]? = some (FF (feed st m[i]) (i + 1) m j))
            (Ok.count 64 (fun k (s' : List AV × AH O) => ∃ (σ' : AH O) (L : List Bool), s' = ([.i .i64 k], σ') ∧ L.length = N + 64 ∧ Rd σ' 1 a2 (N + 64) (L.map AV.b) ∧ Own σ.next σ' 4 a2 ∧ But σ4 σ' a2 ∧ ∀ j, i + 1 ≤ j → j < N + 64 → L[j]? = some (if j < i + 1 + k then FF (feed st m[i]) (i + 1) m j else FF st i m j)) ?_ ?_
              ⟨σ', L, rfl, hL, h3, h4, h5, fun j hj1 hj2 => ?_⟩) ?_
          · rintro k s' hk ⟨σ', L, rfl, hL, h3, h4, h5, h6⟩
            have hin : ((k : Int) < 64) := by omega
            have ew : IntKind.i64.wrap (IntKind.i64.wrap ((i : Int) + 1) + (k : Int)) = ((i + 1 + k : Nat) : Int) := by
              rw [i64_id (n := (i : Int) + 1) (by omega) (by omega), i64_id (by omega) (by omega)]; omega
            have hin1 : decide (((i + 1 + k : Nat) : Int) < ((N + 64 : Nat) : Int)) = true := decide_eq_true (by omega)
            have hin2 : decide ((k : Int) < ((64 : Nat) : Int)) = true := decide_eq_true (by omega)
            have v1 := h6 (i + 1 + k) (by omega) (by omega)
            rw [if_neg (by omega)] at v1
            have f1 := fun {B : Type} (f : AV → Option B) => h3.ld1 (map_getB v1) f
            have f2 := fun {B : Type} (f : AV → Option B) => (Rd.but hP h5 apP).ld1 (map_getB (bitsW_get hk)) f
            simp only [len0, len1, len2, len3, len4, len5, get0, get1, get2, get3, get4, get5, Option.bind_some, asI_i, asB_b, asS_s, asP_p, asPS_p, asSl_sl, asTup2, asTup3, asTup4, joinB, joinI, beq_true, beq_false, Bool.not_true, Bool.not_false, Bool.not_not, cond_true, cond_false, neI, Int.toNat_natCast, Option.map_some, bindS_inl, bindS_inr, decNN, Bool.and_true, Bool.true_and, decide_true, decide_false, hin, ew, hin1, hin2, f1, f2]
            simp only [len0, len1, len2, len3, len4, len5, get0, get1, get2, get3, get4, get5, Ok_bind, Ok_some, Ok_none, Ok_bif, asI_i, asB_b, asS_s, asP_p, asPS_p, asSl_sl, decide_eq_true_eq, asTup2, asTup3, asTup4, joinB, joinI, beq_true, beq_false, Bool.not_true, Bool.not_false, Bool.not_not, cond_true, cond_false, Int.toNat_natCast, Option.map_some, decNN, Bool.and_true, Bool.true_and, not_beq_xor]
            refine Rd.set1 h3 h4 (i := i + 1 + k) (by omega) _ fun σ'' c1 c2 c3 c4 => ?_
            rw [i64_id (by omega) (by omega)]
            rw [set_mapB] at c1
            refine ⟨σ'', _, rfl, by simp [hL], c1, c2, h5.trans ⟨c3, c4⟩, fun j hj1 hj2 => ?_⟩
            rw [List.getElem?_set]
            by_cases hjk : i + 1 + k = j
            · subst hjk
              rw [if_pos rfl, if_pos (by omega), if_pos (by omega), FF_next hj1, ← hFi]
              have e : i + 1 + k - (i + 1) = k := by omega
              rw [e]
              simp [hk]
            · rw [if_neg hjk, h6 j hj1 hj2]
              congr 1
              by_cases h : j < i + 1 + k
              · rw [if_pos h, if_pos (by omega)]
              · rw [if_neg h, if_neg (by omega)]
          · rintro s' ⟨σ', L, rfl, hL, h3, h4, h5, h6⟩
            have hin : ¬ (((64 : Nat) : Int) < 64) := by omega
            simp only [len0, len1, len2, len3, len4, len5, get0, get1, get2, get3, get4, get5, Option.bind_some, asI_i, asB_b, asS_s, asP_p, asPS_p, asSl_sl, asTup2, asTup3, asTup4, joinB, joinI, beq_true, beq_false, Bool.not_true, Bool.not_false, Bool.not_not, cond_true, cond_false, neI, Int.toNat_natCast, Option.map_some, bindS_inl, bindS_inr, decNN, Bool.and_true, Bool.true_and, decide_true, decide_false, hin]
            refine Ok_some.2 ⟨L, hL, h3, h4, h5, fun j hj1 hj2 => ?_⟩
            rw [h6 j hj1 hj2]
            congr 1
            by_cases h : j < i + 1 + 64
            · rw [if_pos h]
            · rw [if_neg h, FF_next hj1]
              have : ¬ j - (i + 1) < 64 := by omega
              simp [this]
          · rw [if_neg (by omega)]; exact h6 j (by omega) hj2
          · rintro ⟨s1, s2⟩ ⟨L, hL, h3, h4, h5, h6⟩
            simp only [len0, len1, len2, len3, len4, len5, get0, get1, get2, get3, get4, get5, Option.bind_some, asI_i, asB_b, asS_s, asP_p, asPS_p, asSl_sl, asTup2, asTup3, asTup4, joinB, joinI, beq_true, beq_false, Bool.not_true, Bool.not_false, Bool.not_not, cond_true, cond_false, neI, Int.toNat_natCast, Option.map_some, bindS_inl, bindS_inr, decNN, Bool.and_true, Bool.true_and, decide_true, decide_false]
            exact Ok_some.2 ⟨L, hL, h3, h4, h5, h6⟩
      · rintro ⟨s1, s2⟩ ⟨L, hL, h3, h4, h5, h6⟩
        simp only [len0, len1, len2, len3, len4, len5, get0, get1, get2, get3, get4, get5, Option.bind_some, asI_i, asB_b, asS_s, asP_p, asPS_p, asSl_sl, asTup2, asTup3, asTup4, joinB, joinI, beq_true, beq_false, Bool.not_true, Bool.not_false, Bool.not_not, cond_true, cond_false, neI, Int.toNat_natCast, Option.map_some, bindS_inl, bindS_inr, decNN, Bool.and_true, Bool.true_and, decide_true, decide_false]
        rw [i64_id (by omega) (by omega)]
        refine Ok_some.2 ⟨s2, L, rfl, hL, h3, h4, h5, fun j hj1 hj2 => ?_⟩
        rw [hnext]
        exact h6 j hj1 hj2
    · rintro st ⟨σ', L, rfl, hL, h3, h4, h5, h6⟩
      have hin : ¬ ((N : Int) < (N : Int)) := by omega
      simp only [len0, len1, len2, len3, len4, len5, get0, get1, get2, get3, get4, get5, Option.bind_some, asI_i, asB_b, asS_s, asP_p, asPS_p, asSl_sl, asTup2, asTup3, asTup4, joinB, joinI, beq_true, beq_false, Bool.not_true, Bool.not_false, Bool.not_not, cond_true, cond_false, neI, Int.toNat_natCast, Option.map_some, bindS_inl, bindS_inr, decNN, Bool.and_true, Bool.true_and, decide_true, decide_false, hin]
      rw [List.take_of_length_le (by omega)] at h6
      exact Ok_some.2 ⟨rfl, L, hL, h3, h4, h5, h6⟩
    · rintro ⟨st1, σ6⟩ ⟨w1, L, hL, h3, h4, h5, h6⟩
      simp only at w1 h3 h4 h5
      subst w1
      have d1 : decide ((N : Int) ≤ ((N + 64 : Nat) : Int)) = true := decide_eq_true (by omega)
      have d2 : decide (((N + 64 : Nat) : Int) ≤ ((N + 64 : Nat) : Int)) = true := decide_eq_true (by omega)
      have e64 : N + 64 - N = 64 := by omega
      obtain ⟨a3, b1, b2, _⟩ := h3.adv (lo := N) (m := 64) (by omega)
      simp only [Nat.mul_one] at b2
      rw [← List.map_drop, ← List.map_take] at b2
      have hW : (L.drop N).take 64 = bitsW (crc s m) := by
        apply List.ext_getElem?
        intro k
        rw [List.getElem?_take]
        by_cases hk : k < 64
        · rw [if_pos hk, List.getElem?_drop, h6 (N + k) (by omega) (by omega), bitsW_get hk]
          unfold FF
          have e : N + k - N = k := by omega
          have : m.getD (N + k) false = false := by
            have : m[N + k]? = none := List.getElem?_eq_none (by omega)
            simp [List.getD, this]
          rw [e, this]
          simp [hk]
        · rw [if_neg hk, List.getElem?_eq_none (by rw [bitsW_len]; omega)]
      rw [hW] at b2
      simp only [len0, len1, len2, len3, len4, len5, get0, get1, get2, get3, get4, get5, Option.bind_some, asI_i, asB_b, asS_s, asP_p, asPS_p, asSl_sl, asTup2, asTup3, asTup4, joinB, joinI, beq_true, beq_false, Bool.not_true, Bool.not_false, Bool.not_not, cond_true, cond_false, neI, Int.toNat_natCast, Option.map_some, bindS_inl, bindS_inr, decNN, Bool.and_true, Bool.true_and, decide_true, decide_false, d1, d2, b1, e64]
      refine Ok.step (word_ok b2) fun r hr1 => ?_
      subst hr1
      simp only [len0, len1, len2, len3, len4, len5, get0, get1, get2, get3, get4, get5, Option.bind_some, asI_i, asB_b, asS_s, asP_p, asPS_p, asSl_sl, asTup2, asTup3, asTup4, joinB, joinI, beq_true, beq_false, Bool.not_true, Bool.not_false, Bool.not_not, cond_true, cond_false, neI, Int.toNat_natCast, Option.map_some, bindS_inl, bindS_inr, decNN, Bool.and_true, Bool.true_and, decide_true, decide_false]
      exact Ok_some.2 ⟨h5.ext hes4 oA, rfl⟩
end Go.Abs.Try
