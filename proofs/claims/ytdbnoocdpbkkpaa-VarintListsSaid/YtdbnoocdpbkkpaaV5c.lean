/-
  The functions of layer 5: lists of words, and the laws.
-/
import Derived.Test.YtdbnoocdpbkkpaaV5b
set_option linter.unusedVariables false
set_option linter.unusedSimpArgs false
set_option linter.unusedSimpArgs false
namespace Go.Abs.Try
open Go Go.Abs
variable {O : Type}

/-- what is split -/
def splitF : Nat → List Int → List Int × Int
  | 0, _ => ([], 0)
  | f + 1, bs =>
    if bs = [] then ([], 0)
    else if (getGo 0 bs).2.2 = 0 then
      (if (splitF f (bs.drop (getGo 0 bs).2.1.toNat)).2 = 0 then ((getGo 0 bs).1 :: (splitF f (bs.drop (getGo 0 bs).2.1.toNat)).1, 0) else ([], (splitF f (bs.drop (getGo 0 bs).2.1.toNat)).2))
    else ([], (getGo 0 bs).2.2)
theorem splitF_nil (f : Nat) : splitF f [] = ([], 0) := by cases f <;> simp [splitF]

theorem splitF_err : ∀ (f : Nat) (bs : List Int), (splitF f bs).2 ≠ 0 → (splitF f bs).1 = []
  | 0, _, _ => rfl
  | f + 1, bs, h => by
    simp only [splitF] at h ⊢
    split
    · rfl
    · rename_i h1
      rw [if_neg h1] at h
      split
      · rename_i h2
        rw [if_pos h2] at h
        split
        · rename_i h3; rw [if_pos h3] at h; exact absurd rfl h
        · rfl
      · rfl
theorem err_i64 : ∀ (bs : List Int) (i : Nat), (getGo i bs).2.2 = 0 ∨ (getGo i bs).2.2 = 5 ∨ (getGo i bs).2.2 = 6 ∨ (getGo i bs).2.2 = 7
  | [], i => by simp [getGo]
  | c :: bs, i => by
    simp only [getGo]
    split
    · simp
    · split
      · split
        · simp
        · exact err_i64 bs (i + 1)
      · split <;> simp

/-- what is read lies in the bytes -/
theorem get_pos {bs : List Int} (hb : Bytes bs) (h : (getGo 0 bs).2.2 = 0) : ∃ m : Nat, (getGo 0 bs).2.1 = (m : Int) ∧ 1 ≤ m ∧ m ≤ bs.length ∧ 0 ≤ (getGo 0 bs).1 ∧ (getGo 0 bs).1 < 18446744073709551616 ∧ enc (getGo 0 bs).1.toNat = bs.take m := by
  obtain ⟨_, g2, g3, _, m, g5, g6, g7⟩ := getGo_ok bs 0 (by omega) hb h
  exact ⟨m + 1, by rw [g5]; congr 1; omega, by omega, by omega, g2, g3, g7⟩

theorem own_ext {σ0 σ σ' : AH O} {el : Nat} {a : SA} (he : Ext σ0 σ) (ho : Own σ0.next σ el a) (hn : σ.next ≤ σ'.next) (hp : Apart σ σ' a) : Ext σ0 σ' :=
  ⟨Nat.le_trans he.next hn, fun b hb => by
    rw [hp b (Nat.lt_of_lt_of_le hb he.next) fun o e h => ?_, he.blk b hb]
    subst h
    have := ho.1; omega⟩

theorem split_ok {σ : AH O} {a : SA} {n : Nat} {bs : List Int} (hr : Rd σ 1 a n (bs.map (AV.i .u8))) (hb : Bytes bs) (hn : n ≤ 1000000000) :
    Ok (varint_Split [.sl a n] σ) fun r => Ext σ r.2 ∧ ∃ a' m, r.1 = .tup [.sl a' m, .i .i64 (splitF n bs).2] ∧ Rd r.2 1 a' m ((splitF n bs).1.map (AV.i .u64)) := by
  have hl : bs.length = n := by have := hr.len; simpa using this
  simp only [varint_Split, len1, get0, asSl_sl, Option.bind_some, Ok_bindS]
  refine Ok.mono (Q := fun r : (List AV × AH O) ⊕ (AV × AH O) => match r with
      | .inl s => Ext σ s.2 ∧ ∃ a' m, s.1 = [.sl a' m] ∧ Rd s.2 1 a' m ((splitF n bs).1.map (AV.i .u64)) ∧ (splitF n bs).2 = 0
      | .inr r => Ext σ r.2 ∧ ∃ a' m, r.1 = .tup [.sl a' m, .i .i64 (splitF n bs).2] ∧ Rd r.2 1 a' m ((splitF n bs).1.map (AV.i .u64)))
    (Ok.loop (fun k (s : List AV × AH O) => ∃ (i m : Nat) (a2 : SA) (σ2 : AH O) (ws : List Int), s = ([.sl a2 m, .i .i64 i], σ2) ∧ k = n - i ∧ i ≤ n ∧ Ext σ σ2 ∧ Rd σ2 1 a2 m (ws.map (AV.i .u64)) ∧ Own σ.next σ2 22 a2 ∧ m ≤ i ∧ ∃ f, n - i ≤ f ∧
        splitF n bs = (if (splitF f (bs.drop i)).2 = 0 then (ws ++ (splitF f (bs.drop i)).1, 0) else ([], (splitF f (bs.drop i)).2))) ?_ n _ ⟨0, 0, .nil, σ, [], rfl, rfl, by omega, Ext.refl σ, Rd.nil σ 1, trivial, by omega, n, by omega, ?_⟩) ?_
  · rintro k s ⟨i, m, a2, σ2, ws, rfl, hk, hi, he, h3, h4, hmi, f, hf, h5⟩
    by_cases hin : (i : Int) < (n : Int)
    · have hle : decide ((i : Int) ≤ (n : Int)) = true := by simp; omega
      have hnn : decide ((n : Int) ≤ (n : Int)) = true := by simp
      obtain ⟨a3, g1, g2, _⟩ := (hr.ext he).adv (lo := i) (m := n - i) (by omega)
      simp only [Nat.mul_one] at g2
      rw [← List.map_drop, ← List.map_take, List.take_of_length_le (by simp; omega)] at g2
      simp only [len0, len1, len2, len3, len4, len5, get0, get1, get2, get3, get4, get5, Option.bind_some, asI_i, asB_b, asS_s, asP_p, asPS_p, asSl_sl, asTup2, asTup3, asTup4, joinB, joinI, beq_true, beq_false, Bool.not_true, Bool.not_false, Bool.not_not, cond_true, cond_false, bne, Int.toNat_natCast, Option.map_some, bindS_inl, bindS_inr, decNN, Bool.and_true, Bool.true_and, decide_true, decide_false, hin, hle, hnn, g1, Ok_bind]
      refine (get_ok g2 (hb.drop i) (by omega)).mono fun r hr' => ?_
      subst hr'
      simp only [getV, len0, len1, len2, len3, len4, len5, get0, get1, get2, get3, get4, get5, Ok_bind, Ok_some, Ok_none, Ok_bif, asI_i, asB_b, asS_s, asP_p, asPS_p, asSl_sl, decide_eq_true_eq, asTup2, asTup3, asTup4, joinB, joinI, beq_true, beq_false, Bool.not_true, Bool.not_false, Bool.not_not, cond_true, cond_false, Int.toNat_natCast, Option.map_some, decNN, Bool.and_true, Bool.true_and]
      cases f with
      | zero => omega
      | succ f =>
        have hne : bs.drop i ≠ [] := by
          intro e
          have := congrArg List.length e
          simp at this; omega
        simp only [splitF, if_neg hne] at h5
        by_cases h0 : (getGo 0 (bs.drop i)).2.2 = 0
        · obtain ⟨q, q1, q2, q3, q4, q5, q6⟩ := get_pos (hb.drop i) h0
          have q3' : q ≤ n - i := by simpa [hl] using q3
          have hq : ((getGo 0 (bs.drop i)).2.1).toNat = q := by rw [q1]; rfl
          simp only [h0, q1, if_true, Int.toNat_natCast, List.drop_drop] at h5
          have hb0 : ((0 : Int) == 0) = true := rfl
          simp only [h0, hb0, q1, len0, len1, len2, len3, len4, len5, get0, get1, get2, get3, get4, get5, Ok_bind, Ok_some, Ok_none, Ok_bif, asI_i, asB_b, asS_s, asP_p, asPS_p, asSl_sl, decide_eq_true_eq, asTup2, asTup3, asTup4, joinB, joinI, beq_true, beq_false, Bool.not_true, Bool.not_false, Bool.not_not, cond_true, cond_false, Int.toNat_natCast, Option.map_some, decNN, Bool.and_true, Bool.true_and, Bool.false_eq_true, if_false]
          refine app1_ok (j := 0) (C := 35184372088832) (k := 2) h3 h4 he.next (by omega) rfl ?_ fun a4 σ4 k1 k2 k3 k4 => ?_
          · omega
          · simp only [len0, len1, len2, len3, len4, len5, get0, get1, get2, get3, get4, get5, Ok_bind, Ok_some, Ok_none, Ok_bif, asI_i, asB_b, asS_s, asP_p, asPS_p, asSl_sl, decide_eq_true_eq, asTup2, asTup3, asTup4, joinB, joinI, beq_true, beq_false, Bool.not_true, Bool.not_false, Bool.not_not, cond_true, cond_false, Int.toNat_natCast, Option.map_some, decNN, Bool.and_true, Bool.true_and]
            rw [i64_id (by omega) (by omega)]
            refine ⟨n - (i + q), by omega, i + q, m + 1, a4, σ4, ws ++ [(getGo 0 (bs.drop i)).1], rfl, rfl, by omega, own_ext he h4 (by omega) k4, by simpa using k1, k2, by omega, f, by omega, ?_⟩
            rw [h5]
            by_cases h6 : (splitF f (bs.drop (i + q))).2 = 0
            · simp only [h6, if_true, List.append_assoc, List.singleton_append]
            · simp only [h6, if_false]
        · simp only [h0, if_false] at h5
          have hb0 : ((getGo 0 (bs.drop i)).2.2 == 0) = false := by simpa using h0
          simp only [hb0, len0, len1, len2, len3, len4, len5, get0, get1, get2, get3, get4, get5, Ok_bind, Ok_some, Ok_none, Ok_bif, asI_i, asB_b, asS_s, asP_p, asPS_p, asSl_sl, decide_eq_true_eq, asTup2, asTup3, asTup4, joinB, joinI, beq_true, beq_false, Bool.not_true, Bool.not_false, Bool.not_not, cond_true, cond_false, Int.toNat_natCast, Option.map_some, decNN, Bool.and_true, Bool.true_and, if_true]
          refine ⟨he, .nil, 0, by rw [h5], ?_⟩
          rw [h5]
          exact Rd.nil _ 1
    · simp only [len0, len1, len2, len3, len4, len5, get0, get1, get2, get3, get4, get5, Option.bind_some, asI_i, asB_b, asS_s, asP_p, asPS_p, asSl_sl, asTup2, asTup3, asTup4, joinB, joinI, beq_true, beq_false, Bool.not_true, Bool.not_false, Bool.not_not, cond_true, cond_false, bne, Int.toNat_natCast, Option.map_some, bindS_inl, bindS_inr, decNN, Bool.and_true, Bool.true_and, decide_true, decide_false, hin]
      have hd : bs.drop i = [] := List.drop_eq_nil_of_le (by omega)
      rw [hd, splitF_nil] at h5
      simp only [if_true, List.append_nil] at h5
      rw [h5]
      exact Ok_some.2 ⟨he, a2, m, rfl, h3, rfl⟩
  · rw [List.drop_zero]
    split
    · rename_i h; exact Prod.ext rfl h
    · rename_i h; exact Prod.ext (splitF_err n bs h) rfl
  · rintro (s | r) h
    · obtain ⟨s1, s2⟩ := s
      obtain ⟨h1, a', m, h2, h3, h4⟩ := h
      simp only at h2
      subst h2
      simp only [len0, len1, len2, len3, len4, len5, get0, get1, get2, get3, get4, get5, Option.bind_some, asI_i, asB_b, asS_s, asP_p, asPS_p, asSl_sl, asTup2, asTup3, asTup4, joinB, joinI, beq_true, beq_false, Bool.not_true, Bool.not_false, Bool.not_not, cond_true, cond_false, bne, Int.toNat_natCast, Option.map_some, bindS_inl, bindS_inr, decNN, Bool.and_true, Bool.true_and, decide_true, decide_false]
      exact Ok_some.2 ⟨h1, a', m, by rw [h4], h3⟩
    · exact h

theorem refSplit_ok {σ : AH O} {a : SA} {n : Nat} {bs : List Int} (hr : Rd σ 1 a n (bs.map (AV.i .u8))) (hb : Bytes bs) (hn : n ≤ 1000000000) :
    Ok (haymowref05_Split [.sl a n] σ) fun r => Ext σ r.2 ∧ ∃ a' m, r.1 = .tup [.sl a' m, .i .i64 (splitF n bs).2] ∧ Rd r.2 1 a' m ((splitF n bs).1.map (AV.i .u64)) := by
  have hl : bs.length = n := by have := hr.len; simpa using this
  simp only [haymowref05_Split, len1, get0, asSl_sl, Option.bind_some, Ok_bindS]
  refine Ok.mono (Q := fun r : (List AV × AH O) ⊕ (AV × AH O) => match r with
      | .inl s => Ext σ s.2 ∧ ∃ a' m, s.1 = [.sl a' m] ∧ Rd s.2 1 a' m ((splitF n bs).1.map (AV.i .u64)) ∧ (splitF n bs).2 = 0
      | .inr r => Ext σ r.2 ∧ ∃ a' m, r.1 = .tup [.sl a' m, .i .i64 (splitF n bs).2] ∧ Rd r.2 1 a' m ((splitF n bs).1.map (AV.i .u64)))
    (Ok.loop (fun k (s : List AV × AH O) => ∃ (m : Nat) (a1 a2 : SA) (σ2 : AH O) (bs1 ws : List Int), s = ([.sl a1 k, .sl a2 m], σ2) ∧ k ≤ n ∧ Ext σ σ2 ∧ Rd σ 1 a1 k (bs1.map (AV.i .u8)) ∧ Bytes bs1 ∧ Rd σ2 1 a2 m (ws.map (AV.i .u64)) ∧ Own σ.next σ2 22 a2 ∧ m + k ≤ n ∧ ∃ f, k ≤ f ∧
        splitF n bs = (if (splitF f bs1).2 = 0 then (ws ++ (splitF f bs1).1, 0) else ([], (splitF f bs1).2))) ?_ n _ ⟨0, a, .nil, σ, bs, [], rfl, by omega, Ext.refl σ, hr, hb, Rd.nil σ 1, trivial, by omega, n, by omega, ?_⟩) ?_
  · rintro k s ⟨m, a1, a2, σ2, bs1, ws, rfl, hk, he, hr1, hb1, h3, h4, hmk, f, hf, h5⟩
    have hl1 : bs1.length = k := by have := hr1.len; simpa using this
    by_cases hin : (k : Int) > 0
    · simp only [len0, len1, len2, len3, len4, len5, get0, get1, get2, get3, get4, get5, Option.bind_some, asI_i, asB_b, asS_s, asP_p, asPS_p, asSl_sl, asTup2, asTup3, asTup4, joinB, joinI, beq_true, beq_false, Bool.not_true, Bool.not_false, Bool.not_not, cond_true, cond_false, bne, Int.toNat_natCast, Option.map_some, bindS_inl, bindS_inr, decNN, Bool.and_true, Bool.true_and, decide_true, decide_false, hin, Ok_bind]
      refine (refGet_ok (hr1.ext he) hb1 (by omega)).mono fun r hr' => ?_
      subst hr'
      simp only [getV, len0, len1, len2, len3, len4, len5, get0, get1, get2, get3, get4, get5, Ok_bind, Ok_some, Ok_none, Ok_bif, asI_i, asB_b, asS_s, asP_p, asPS_p, asSl_sl, decide_eq_true_eq, asTup2, asTup3, asTup4, joinB, joinI, beq_true, beq_false, Bool.not_true, Bool.not_false, Bool.not_not, cond_true, cond_false, Int.toNat_natCast, Option.map_some, decNN, Bool.and_true, Bool.true_and]
      cases f with
      | zero => omega
      | succ f =>
        have hne : bs1 ≠ [] := by rintro rfl; simp at hl1; omega
        simp only [splitF, if_neg hne] at h5
        by_cases h0 : (getGo 0 bs1).2.2 = 0
        · obtain ⟨q, q1, q2, q3, q4, q5, q6⟩ := get_pos hb1 h0
          rw [hl1] at q3
          simp only [h0, q1, if_true, Int.toNat_natCast] at h5
          have hb0 : ((0 : Int) == 0) = true := rfl
          have hle : decide ((q : Int) ≤ (k : Int)) = true := by simp; omega
          have hnn : decide ((k : Int) ≤ (k : Int)) = true := by simp
          simp only [h0, hb0, q1, hle, hnn, len0, len1, len2, len3, len4, len5, get0, get1, get2, get3, get4, get5, Ok_bind, Ok_some, Ok_none, Ok_bif, asI_i, asB_b, asS_s, asP_p, asPS_p, asSl_sl, decide_eq_true_eq, asTup2, asTup3, asTup4, joinB, joinI, beq_true, beq_false, Bool.not_true, Bool.not_false, Bool.not_not, cond_true, cond_false, Int.toNat_natCast, Option.map_some, decNN, Bool.and_true, Bool.true_and, Bool.false_eq_true, if_false]
          refine app1_ok (j := 0) (C := 35184372088832) (k := 2) h3 h4 he.next (by omega) rfl ?_ fun a4 σ4 k1 k2 k3 k4 => ?_
          · omega
          · have he4 := own_ext he h4 (by omega) k4
            obtain ⟨a5, g1, g2, _⟩ := hr1.adv (lo := q) (m := k - q) (by omega)
            simp only [Nat.mul_one] at g2
            rw [← List.map_drop, ← List.map_take, List.take_of_length_le (by simp; omega)] at g2
            simp only [len0, len1, len2, len3, len4, len5, get0, get1, get2, get3, get4, get5, Ok_bind, Ok_some, Ok_none, Ok_bif, asI_i, asB_b, asS_s, asP_p, asPS_p, asSl_sl, decide_eq_true_eq, asTup2, asTup3, asTup4, joinB, joinI, beq_true, beq_false, Bool.not_true, Bool.not_false, Bool.not_not, cond_true, cond_false, Int.toNat_natCast, Option.map_some, decNN, Bool.and_true, Bool.true_and, if_true, g1]
            refine ⟨k - q, by omega, m + 1, a5, a4, σ4, bs1.drop q, ws ++ [(getGo 0 bs1).1], rfl, by omega, he4, g2, hb1.drop q, by simpa using k1, k2, by omega, f, by omega, ?_⟩
            rw [h5]
            by_cases h6 : (splitF f (bs1.drop q)).2 = 0
            · simp only [h6, if_true, List.append_assoc, List.singleton_append]
            · simp only [h6, if_false]
        · simp only [h0, if_false] at h5
          have hb0 : ((getGo 0 bs1).2.2 == 0) = false := by simpa using h0
          simp only [hb0, len0, len1, len2, len3, len4, len5, get0, get1, get2, get3, get4, get5, Ok_bind, Ok_some, Ok_none, Ok_bif, asI_i, asB_b, asS_s, asP_p, asPS_p, asSl_sl, decide_eq_true_eq, asTup2, asTup3, asTup4, joinB, joinI, beq_true, beq_false, Bool.not_true, Bool.not_false, Bool.not_not, cond_true, cond_false, Int.toNat_natCast, Option.map_some, decNN, Bool.and_true, Bool.true_and, if_true]
          refine ⟨he, .nil, 0, by rw [h5], ?_⟩
          rw [h5]
          exact Rd.nil _ 1
    · simp only [len0, len1, len2, len3, len4, len5, get0, get1, get2, get3, get4, get5, Option.bind_some, asI_i, asB_b, asS_s, asP_p, asPS_p, asSl_sl, asTup2, asTup3, asTup4, joinB, joinI, beq_true, beq_false, Bool.not_true, Bool.not_false, Bool.not_not, cond_true, cond_false, bne, Int.toNat_natCast, Option.map_some, bindS_inl, bindS_inr, decNN, Bool.and_true, Bool.true_and, decide_true, decide_false, hin]
      have hd : bs1 = [] := List.length_eq_zero_iff.1 (by omega)
      rw [hd, splitF_nil] at h5
      simp only [if_true, List.append_nil] at h5
      rw [h5]
      exact Ok_some.2 ⟨he, a2, m, rfl, h3, rfl⟩
  · split
    · rename_i h; exact Prod.ext rfl h
    · rename_i h; exact Prod.ext (splitF_err n bs h) rfl
  · rintro (s | r) h
    · obtain ⟨s1, s2⟩ := s
      obtain ⟨h1, a', m, h2, h3, h4⟩ := h
      simp only at h2
      subst h2
      simp only [len0, len1, len2, len3, len4, len5, get0, get1, get2, get3, get4, get5, Option.bind_some, asI_i, asB_b, asS_s, asP_p, asPS_p, asSl_sl, asTup2, asTup3, asTup4, joinB, joinI, beq_true, beq_false, Bool.not_true, Bool.not_false, Bool.not_not, cond_true, cond_false, bne, Int.toNat_natCast, Option.map_some, bindS_inl, bindS_inr, decNN, Bool.and_true, Bool.true_and, decide_true, decide_false]
      exact Ok_some.2 ⟨h1, a', m, by rw [h4], h3⟩
    · exact h

theorem same5_ok {σ : AH O} {a b : SA} {n m : Nat} {ws : List Int} (hr : Rd σ 1 a n (ws.map (AV.i .u64))) (hr' : Rd σ 1 b m (ws.map (AV.i .u64))) (hn : n ≤ 1000000000) : Ok (haymowref05_Same [.sl a n, .sl b m] σ) fun r => r = (.b true, σ) := by
  have hl : ws.length = n := by have := hr.len; simpa using this
  have hl' : ws.length = m := by have := hr'.len; simpa using this
  subst hl'
  subst hl
  simp only [haymowref05_Same, len0, len1, len2, len3, len4, len5, get0, get1, get2, get3, get4, get5, Option.bind_some, asI_i, asB_b, asS_s, asP_p, asPS_p, asSl_sl, asTup2, asTup3, asTup4, joinB, joinI, beq_true, beq_false, Bool.not_true, Bool.not_false, Bool.not_not, cond_true, cond_false, bne, Int.toNat_natCast, Option.map_some, bindS_inl, bindS_inr, decNN, Bool.and_true, Bool.true_and, decide_true, decide_false, beq_self_eq_true, Ok_bindS]
  refine Ok.mono (Q := fun r : (List AV × AH O) ⊕ (AV × AH O) => r = .inl ([], σ)) (Ok.count ws.length (fun k (s : List AV × AH O) => s = ([.i .i64 k], σ)) ?_ ?_ rfl) ?_
  · rintro k s hk rfl
    have hin : ((k : Int) < (ws.length : Int)) := by omega
    have h1 := fun {B : Type} (f : AV → Option B) => hr.ld1 (map_get (k := .u64) hk) f
    have h2 := fun {B : Type} (f : AV → Option B) => hr'.ld1 (map_get (k := .u64) hk) f
    simp only [len0, len1, len2, len3, len4, len5, get0, get1, get2, get3, get4, get5, Option.bind_some, asI_i, asB_b, asS_s, asP_p, asPS_p, asSl_sl, asTup2, asTup3, asTup4, joinB, joinI, beq_true, beq_false, Bool.not_true, Bool.not_false, Bool.not_not, cond_true, cond_false, bne, Int.toNat_natCast, Option.map_some, bindS_inl, bindS_inr, decNN, Bool.and_true, Bool.true_and, decide_true, decide_false, hin, h1, h2, beq_self_eq_true]
    rw [i64_id (by omega) (by omega)]
    exact Ok_some.2 rfl
  · rintro s rfl
    have hin : ¬ ((ws.length : Int) < (ws.length : Int)) := by omega
    simp only [len0, len1, len2, len3, len4, len5, get0, get1, get2, get3, get4, get5, Option.bind_some, asI_i, asB_b, asS_s, asP_p, asPS_p, asSl_sl, asTup2, asTup3, asTup4, joinB, joinI, beq_true, beq_false, Bool.not_true, Bool.not_false, Bool.not_not, cond_true, cond_false, bne, Int.toNat_natCast, Option.map_some, bindS_inl, bindS_inr, decNN, Bool.and_true, Bool.true_and, decide_true, decide_false, hin]
    exact Ok_some.2 rfl
  · rintro r rfl
    simp only [len0, len1, len2, len3, len4, len5, get0, get1, get2, get3, get4, get5, Option.bind_some, asI_i, asB_b, asS_s, asP_p, asPS_p, asSl_sl, asTup2, asTup3, asTup4, joinB, joinI, beq_true, beq_false, Bool.not_true, Bool.not_false, Bool.not_not, cond_true, cond_false, bne, Int.toNat_natCast, Option.map_some, bindS_inl, bindS_inr, decNN, Bool.and_true, Bool.true_and, decide_true, decide_false]
    exact Ok_some.2 rfl

/-- the bytes of words -/
def encs (ws : List Int) : List Int := ws.flatMap fun w => enc w.toNat
def Words (ws : List Int) : Prop := ∀ w ∈ ws, 0 ≤ w ∧ w < 18446744073709551616
theorem encs_bytes (ws : List Int) : Bytes (encs ws) := fun x hx => by
  obtain ⟨w, _, h⟩ := List.mem_flatMap.1 hx
  exact enc_u8 _ x h
theorem encs_len : ∀ {ws : List Int}, Words ws → ws.length ≤ (encs ws).length ∧ (encs ws).length ≤ 10 * ws.length
  | [], _ => by simp [encs]
  | w :: ws, h => by
    have h1 := encs_len (ws := ws) fun x hx => h x (List.mem_cons_of_mem _ hx)
    have h2 := enc_len10 (w := w.toNat) (by have := h w List.mem_cons_self; omega)
    simp only [encs, List.flatMap_cons, List.length_append, List.length_cons] at h1 ⊢
    omega
theorem encs_take {ws : List Int} {k : Nat} (hk : k < ws.length) : encs (ws.take (k + 1)) = encs (ws.take k) ++ enc ws[k].toNat := by
  unfold encs
  rw [List.take_succ_eq_append_getElem hk, List.flatMap_append]
  simp only [List.flatMap_cons, List.flatMap_nil, List.append_nil]

theorem all_ok {σ : AH O} {a : SA} {n : Nat} {ws : List Int} (hr : Rd σ 1 a n (ws.map (AV.i .u64))) (hw : Words ws) (hn : n ≤ 1000000) :
    Ok (varint_All [.sl a n] σ) fun r => Ext σ r.2 ∧ ∃ a', r.1 = .sl a' (encs ws).length ∧ Rd r.2 1 a' (encs ws).length ((encs ws).map (AV.i .u8)) := by
  have hl : ws.length = n := by have := hr.len; simpa using this
  subst hl
  simp only [varint_All, len0, len1, len2, len3, len4, len5, get0, get1, get2, get3, get4, get5, Option.bind_some, asI_i, asB_b, asS_s, asP_p, asPS_p, asSl_sl, asTup2, asTup3, asTup4, joinB, joinI, beq_true, beq_false, Bool.not_true, Bool.not_false, Bool.not_not, cond_true, cond_false, bne, Int.toNat_natCast, Option.map_some, bindS_inl, bindS_inr, decNN, Bool.and_true, Bool.true_and, decide_true, decide_false]
  refine Ok.step (Q := fun s : List AV × AH O => Ext σ s.2 ∧ ∃ a', s.1 = [.sl a' (encs ws).length] ∧ Rd s.2 1 a' (encs ws).length ((encs ws).map (AV.i .u8)))
    (Ok.count ws.length (fun k (s : List AV × AH O) => ∃ (a' : SA) (σ2 : AH O), s = ([.sl a' (encs (ws.take k)).length, .i .i64 k], σ2) ∧ Ext σ σ2 ∧ Rd σ2 1 a' (encs (ws.take k)).length ((encs (ws.take k)).map (AV.i .u8))) ?_ ?_ ⟨.nil, σ, rfl, Ext.refl σ, Rd.nil σ 1⟩) ?_
  · rintro k s hk ⟨a', σ2, rfl, he, h3⟩
    have hin : ((k : Int) < (ws.length : Int)) := by omega
    have h1 := fun {B : Type} (f : AV → Option B) => (hr.ext he).ld1 (map_get (k := .u64) hk) f
    have hwk := hw _ (List.getElem_mem hk)
    have hlen := (encs_len (ws := ws.take k) fun x hx => hw x (List.mem_of_mem_take hx)).2
    have hlen' : (ws.take k).length ≤ ws.length := by simp; omega
    simp only [len0, len1, len2, len3, len4, len5, get0, get1, get2, get3, get4, get5, Option.bind_some, asI_i, asB_b, asS_s, asP_p, asPS_p, asSl_sl, asTup2, asTup3, asTup4, joinB, joinI, beq_true, beq_false, Bool.not_true, Bool.not_false, Bool.not_not, cond_true, cond_false, bne, Int.toNat_natCast, Option.map_some, bindS_inl, bindS_inr, decNN, Bool.and_true, Bool.true_and, decide_true, decide_false, hin, h1]
    refine Ok.step (put_ok h3 hwk.1 hwk.2 (by omega)) fun r ⟨g1, a3, g2, g3, _⟩ => ?_
    obtain ⟨r1, r2⟩ := r
    simp only at g2
    subst g2
    simp only [len0, len1, len2, len3, len4, len5, get0, get1, get2, get3, get4, get5, Option.bind_some, asI_i, asB_b, asS_s, asP_p, asPS_p, asSl_sl, asTup2, asTup3, asTup4, joinB, joinI, beq_true, beq_false, Bool.not_true, Bool.not_false, Bool.not_not, cond_true, cond_false, bne, Int.toNat_natCast, Option.map_some, bindS_inl, bindS_inr, decNN, Bool.and_true, Bool.true_and, decide_true, decide_false]
    rw [i64_id (by omega) (by omega)]
    have e : (encs (ws.take k)).length + (enc ws[k].toNat).length = (encs (ws.take (k + 1))).length := by rw [encs_take hk]; simp
    refine Ok_some.2 ⟨a3, r2, by rw [e]; rfl, he.trans g1, ?_⟩
    rw [e] at g3
    rw [encs_take hk, List.map_append, ← encs_take hk]
    exact g3
  · rintro s ⟨a', σ2, rfl, he, h3⟩
    have hin : ¬ ((ws.length : Int) < (ws.length : Int)) := by omega
    simp only [len0, len1, len2, len3, len4, len5, get0, get1, get2, get3, get4, get5, Option.bind_some, asI_i, asB_b, asS_s, asP_p, asPS_p, asSl_sl, asTup2, asTup3, asTup4, joinB, joinI, beq_true, beq_false, Bool.not_true, Bool.not_false, Bool.not_not, cond_true, cond_false, bne, Int.toNat_natCast, Option.map_some, bindS_inl, bindS_inr, decNN, Bool.and_true, Bool.true_and, decide_true, decide_false, hin]
    rw [List.take_length] at h3
    exact Ok_some.2 ⟨he, a', by rw [List.take_length], h3⟩
  · rintro ⟨s1, s2⟩ ⟨h1, a', h2, h3⟩
    simp only at h2
    subst h2
    simp only [len0, len1, len2, len3, len4, len5, get0, get1, get2, get3, get4, get5, Option.bind_some, asI_i, asB_b, asS_s, asP_p, asPS_p, asSl_sl, asTup2, asTup3, asTup4, joinB, joinI, beq_true, beq_false, Bool.not_true, Bool.not_false, Bool.not_not, cond_true, cond_false, bne, Int.toNat_natCast, Option.map_some, bindS_inl, bindS_inr, decNN, Bool.and_true, Bool.true_and, decide_true, decide_false]
    exact Ok_some.2 ⟨h1, a', rfl, h3⟩

theorem refBytes_ok {w : Int} {σ : AH O} (h : 0 ≤ w) (h' : w < 18446744073709551616) :
    Ok (haymowref05_Bytes [.i .u64 w] σ) fun r => Ext σ r.2 ∧ ∃ a', r.1 = .sl a' (enc w.toNat).length ∧ Rd r.2 1 a' (enc w.toNat).length ((enc w.toNat).map (AV.i .u8)) := by
  simp only [haymowref05_Bytes, len0, len1, len2, len3, len4, len5, get0, get1, get2, get3, get4, get5, Option.bind_some, asI_i, asB_b, asS_s, asP_p, asPS_p, asSl_sl, asTup2, asTup3, asTup4, joinB, joinI, beq_true, beq_false, Bool.not_true, Bool.not_false, Bool.not_not, cond_true, cond_false, bne, Int.toNat_natCast, Option.map_some, bindS_inl, bindS_inr, decNN, Bool.and_true, Bool.true_and, decide_true, decide_false]
  have h10 := enc_len10 (w := w.toNat) (by omega)
  refine Ok.step (Q := fun r : List AV × AH O => ∃ (k : Int) (a2 : SA) (σ2 : AH O) (cs2 : List Int), r = ([.i .u64 k, .sl a2 cs2.length], σ2) ∧ 0 ≤ k ∧ k < 128 ∧ Rd σ2 1 a2 cs2.length (cs2.map (AV.i .u8)) ∧ Own σ.next σ2 5 a2 ∧ Ext σ σ2 ∧ cs2 ++ [k] = enc w.toNat)
    (Ok.loop (fun j (s : List AV × AH O) => ∃ (k : Int) (a2 : SA) (σ2 : AH O) (cs2 : List Int), s = ([.i .u64 k, .sl a2 cs2.length], σ2) ∧ 0 ≤ k ∧ k < 18446744073709551616 ∧ j = k.toNat ∧ Rd σ2 1 a2 cs2.length (cs2.map (AV.i .u8)) ∧ Own σ.next σ2 5 a2 ∧ Ext σ σ2 ∧ cs2 ++ enc k.toNat = enc w.toNat)
      ?_ w.toNat _ ⟨w, .nil, σ, [], rfl, h, h', rfl, Rd.nil σ 1, trivial, Ext.refl σ, rfl⟩) ?_
  · rintro j s ⟨k, a2, σ2, cs2, rfl, h1, h2, rfl, h3, h4, h5, h6⟩
    have hl := congrArg List.length h6
    simp only [List.length_append] at hl
    have hlk := enc_len10 (w := k.toNat) (by omega)
    by_cases hge : k > 127
    · simp only [len0, len1, len2, len3, len4, len5, get0, get1, get2, get3, get4, get5, Option.bind_some, asI_i, asB_b, asS_s, asP_p, asPS_p, asSl_sl, asTup2, asTup3, asTup4, joinB, joinI, beq_true, beq_false, Bool.not_true, Bool.not_false, Bool.not_not, cond_true, cond_false, bne, Int.toNat_natCast, Option.map_some, bindS_inl, bindS_inr, decNN, Bool.and_true, Bool.true_and, decide_true, decide_false, hge]
      simp only [len0, len1, len2, len3, len4, len5, get0, get1, get2, get3, get4, get5, Ok_bind, Ok_some, Ok_none, Ok_bif, asI_i, asB_b, asS_s, asP_p, asPS_p, asSl_sl, decide_eq_true_eq, asTup2, asTup3, asTup4, joinB, joinI, beq_true, beq_false, Bool.not_true, Bool.not_false, Bool.not_not, cond_true, cond_false, Int.toNat_natCast, Option.map_some, decNN, Bool.and_true, Bool.true_and]
      refine app1_ok (j := 0) h3 h4 h5.next (by omega) rfl (by omega) fun a3 σ3 g1 g2 g3 g4 => ?_
      simp only [len0, len1, len2, len3, len4, len5, get0, get1, get2, get3, get4, get5, Ok_bind, Ok_some, Ok_none, Ok_bif, asI_i, asB_b, asS_s, asP_p, asPS_p, asSl_sl, decide_eq_true_eq, asTup2, asTup3, asTup4, joinB, joinI, beq_true, beq_false, Bool.not_true, Bool.not_false, Bool.not_not, cond_true, cond_false, Int.toNat_natCast, Option.map_some, decNN, Bool.and_true, Bool.true_and]
      have e : IntKind.u64.wrap (Int.tdiv k 128) = k / 128 := by rw [Int.tdiv_eq_ediv_of_nonneg (by omega), u64_id (by omega) (by omega)]
      have eb : IntKind.u8.wrap (IntKind.u64.wrap (128 + Int.tmod k 128)) = ((k.toNat % 128 + 128 : Nat) : Int) := by
        rw [Int.tmod_eq_emod_of_nonneg (by omega), u64_id (by omega) (by omega), u8_id (by omega) (by omega)]; omega
      rw [enc_ge (by omega)] at h6
      rw [e]
      have e4 : (k / 128).toNat = k.toNat / 128 := by omega
      refine ⟨(k / 128).toNat, by omega, k / 128, a3, σ3, cs2 ++ [((k.toNat % 128 + 128 : Nat) : Int)], by simp, by omega, by omega, rfl, ?_, g2, own_ext h5 h4 (by omega) g4, ?_⟩
      · rw [eb] at g1
        simpa using g1
      · rw [e4]; simpa using h6
    · simp only [len0, len1, len2, len3, len4, len5, get0, get1, get2, get3, get4, get5, Option.bind_some, asI_i, asB_b, asS_s, asP_p, asPS_p, asSl_sl, asTup2, asTup3, asTup4, joinB, joinI, beq_true, beq_false, Bool.not_true, Bool.not_false, Bool.not_not, cond_true, cond_false, bne, Int.toNat_natCast, Option.map_some, bindS_inl, bindS_inr, decNN, Bool.and_true, Bool.true_and, decide_true, decide_false, hge]
      refine Ok_some.2 ⟨k, a2, σ2, cs2, rfl, h1, by omega, h3, h4, h5, ?_⟩
      rw [enc_lt (by omega)] at h6
      rw [← h6]; congr 2; omega
  · rintro r ⟨k, a2, σ2, cs2, rfl, h1, h2, h3, h4, h5, h6⟩
    simp only [len0, len1, len2, len3, len4, len5, get0, get1, get2, get3, get4, get5, Ok_bind, Ok_some, Ok_none, Ok_bif, asI_i, asB_b, asS_s, asP_p, asPS_p, asSl_sl, decide_eq_true_eq, asTup2, asTup3, asTup4, joinB, joinI, beq_true, beq_false, Bool.not_true, Bool.not_false, Bool.not_not, cond_true, cond_false, Int.toNat_natCast, Option.map_some, decNN, Bool.and_true, Bool.true_and]
    have hl := congrArg List.length h6
    simp only [List.length_append, List.length_singleton] at hl
    refine app1_ok (j := 0) h3 h4 h5.next (by omega) rfl (by omega) fun a3 σ3 g1 g2 g3 g4 => ?_
    simp only [len0, len1, len2, len3, len4, len5, get0, get1, get2, get3, get4, get5, Ok_bind, Ok_some, Ok_none, Ok_bif, asI_i, asB_b, asS_s, asP_p, asPS_p, asSl_sl, decide_eq_true_eq, asTup2, asTup3, asTup4, joinB, joinI, beq_true, beq_false, Bool.not_true, Bool.not_false, Bool.not_not, cond_true, cond_false, Int.toNat_natCast, Option.map_some, decNN, Bool.and_true, Bool.true_and]
    rw [u8_id h1 (by omega)] at g1
    refine ⟨own_ext h5 h4 (by omega) g4, a3, by rw [← h6]; simp, ?_⟩
    rw [← h6]
    simpa using g1

/-- what is split is just what was there -/
theorem splitF_all : ∀ (f : Nat) (bs : List Int), Bytes bs → bs.length ≤ f → (splitF f bs).2 = 0 → encs (splitF f bs).1 = bs ∧ Words (splitF f bs).1
  | 0, bs, _, hf, _ => by
    have : bs = [] := List.length_eq_zero_iff.1 (by omega)
    subst this
    exact ⟨rfl, fun x hx => by cases hx⟩
  | f + 1, bs, hb, hf, h => by
    simp only [splitF] at h ⊢
    by_cases h0 : bs = []
    · subst h0; exact ⟨rfl, fun x hx => by simp at hx⟩
    · rw [if_neg h0] at h ⊢
      by_cases h1 : (getGo 0 bs).2.2 = 0
      · obtain ⟨q, q1, q2, q3, q4, q5, q6⟩ := get_pos hb h1
        simp only [h1, q1, if_true, Int.toNat_natCast] at h ⊢
        by_cases h2 : (splitF f (bs.drop q)).2 = 0
        · obtain ⟨g1, g2⟩ := splitF_all f (bs.drop q) (hb.drop q) (by simp; omega) h2
          simp only [h2, if_true]
          refine ⟨?_, fun x hx => ?_⟩
          · show enc (getGo 0 bs).1.toNat ++ encs (splitF f (bs.drop q)).1 = bs
            rw [g1, q6, List.take_append_drop]
          · rcases List.mem_cons.1 hx with rfl | hx
            · exact ⟨q4, q5⟩
            · exact g2 x hx
        · simp only [h2, if_false] at h
      · simp only [h1, if_false] at h
theorem splitF_encs : ∀ (ws : List Int) (f : Nat), Words ws → (encs ws).length ≤ f → splitF f (encs ws) = (ws, 0)
  | [], f, _, _ => splitF_nil f
  | w :: ws, f, hw, hf => by
    have h2 := enc_len10 (w := w.toNat) (by have := hw w List.mem_cons_self; omega)
    have e : encs (w :: ws) = enc w.toNat ++ encs ws := rfl
    cases f with
    | zero => rw [e] at hf; simp only [List.length_append] at hf; omega
    | succ f =>
      have hw0 := hw w List.mem_cons_self
      have hg := get_enc (w := w.toNat) (by omega) (encs ws)
      rw [e] at hf ⊢
      simp only [List.length_append] at hf
      have hne : enc w.toNat ++ encs ws ≠ [] := by
        intro h
        have := congrArg List.length h
        simp at this
        rw [this.1] at h2; simp at h2
      simp only [splitF, if_neg hne, hg, if_true, Int.toNat_natCast, List.drop_left]
      rw [splitF_encs ws f (fun x hx => hw x (List.mem_cons_of_mem _ hx)) (by omega)]
      simp only [if_true]
      rw [Int.toNat_of_nonneg hw0.1]

theorem varintReads_ok {a : SA} {n : Nat} {bs : List Int} {σ : AH O} (hr : Rd σ 1 a n (bs.map (AV.i .u8))) (hb : ∀ x ∈ bs, 0 ≤ x ∧ x < 256) : Ok (law05_VarintReads [.sl a n] σ) fun r => r.1 = .b true := by
  simp only [law05_VarintReads, len0, len1, len2, len3, len4, len5, get0, get1, get2, get3, get4, get5, Option.bind_some, asI_i, asB_b, asS_s, asP_p, asPS_p, asSl_sl, asTup2, asTup3, asTup4, joinB, joinI, beq_true, beq_false, Bool.not_true, Bool.not_false, Bool.not_not, cond_true, cond_false, bne, Int.toNat_natCast, Option.map_some, bindS_inl, bindS_inr, decNN, Bool.and_true, Bool.true_and, decide_true, decide_false]
  refine Ok.step awake5_ok fun r ⟨h1, he1⟩ => ?_
  obtain ⟨r1, σ1⟩ := r
  simp only at h1 he1
  subst h1
  simp only [len0, len1, len2, len3, len4, len5, get0, get1, get2, get3, get4, get5, Option.bind_some, asI_i, asB_b, asS_s, asP_p, asPS_p, asSl_sl, asTup2, asTup3, asTup4, joinB, joinI, beq_true, beq_false, Bool.not_true, Bool.not_false, Bool.not_not, cond_true, cond_false, bne, Int.toNat_natCast, Option.map_some, bindS_inl, bindS_inr, decNN, Bool.and_true, Bool.true_and, decide_true, decide_false]
  by_cases hn : (n : Int) > 400
  · simp only [len0, len1, len2, len3, len4, len5, get0, get1, get2, get3, get4, get5, Option.bind_some, asI_i, asB_b, asS_s, asP_p, asPS_p, asSl_sl, asTup2, asTup3, asTup4, joinB, joinI, beq_true, beq_false, Bool.not_true, Bool.not_false, Bool.not_not, cond_true, cond_false, bne, Int.toNat_natCast, Option.map_some, bindS_inl, bindS_inr, decNN, Bool.and_true, Bool.true_and, decide_true, decide_false, hn]; exact Ok_some.2 rfl
  · simp only [len0, len1, len2, len3, len4, len5, get0, get1, get2, get3, get4, get5, Option.bind_some, asI_i, asB_b, asS_s, asP_p, asPS_p, asSl_sl, asTup2, asTup3, asTup4, joinB, joinI, beq_true, beq_false, Bool.not_true, Bool.not_false, Bool.not_not, cond_true, cond_false, bne, Int.toNat_natCast, Option.map_some, bindS_inl, bindS_inr, decNN, Bool.and_true, Bool.true_and, decide_true, decide_false, hn]
    have hl : bs.length = n := by have := hr.len; simpa using this
    refine Ok.step (get_ok (hr.ext he1) hb (by omega)) fun r hr1 => ?_
    subst hr1
    simp only [getV, len0, len1, len2, len3, len4, len5, get0, get1, get2, get3, get4, get5, Option.bind_some, asI_i, asB_b, asS_s, asP_p, asPS_p, asSl_sl, asTup2, asTup3, asTup4, joinB, joinI, beq_true, beq_false, Bool.not_true, Bool.not_false, Bool.not_not, cond_true, cond_false, bne, Int.toNat_natCast, Option.map_some, bindS_inl, bindS_inr, decNN, Bool.and_true, Bool.true_and, decide_true, decide_false]
    refine Ok.step (refGet_ok (hr.ext he1) hb (by omega)) fun r hr1 => ?_
    subst hr1
    simp only [getV, len0, len1, len2, len3, len4, len5, get0, get1, get2, get3, get4, get5, Option.bind_some, asI_i, asB_b, asS_s, asP_p, asPS_p, asSl_sl, asTup2, asTup3, asTup4, joinB, joinI, beq_true, beq_false, Bool.not_true, Bool.not_false, Bool.not_not, cond_true, cond_false, bne, Int.toNat_natCast, Option.map_some, bindS_inl, bindS_inr, decNN, Bool.and_true, Bool.true_and, decide_true, decide_false]
    refine Ok.step (split_ok (hr.ext he1) hb (by omega)) fun r ⟨he2, a2, m2, h2, h3⟩ => ?_
    obtain ⟨r1, σ2⟩ := r
    simp only at h2 he2 h3
    subst h2
    simp only [len0, len1, len2, len3, len4, len5, get0, get1, get2, get3, get4, get5, Option.bind_some, asI_i, asB_b, asS_s, asP_p, asPS_p, asSl_sl, asTup2, asTup3, asTup4, joinB, joinI, beq_true, beq_false, Bool.not_true, Bool.not_false, Bool.not_not, cond_true, cond_false, bne, Int.toNat_natCast, Option.map_some, bindS_inl, bindS_inr, decNN, Bool.and_true, Bool.true_and, decide_true, decide_false]
    refine Ok.step (refSplit_ok ((hr.ext he1).ext he2) hb (by omega)) fun r ⟨he3, a3, m3, h4, h5⟩ => ?_
    obtain ⟨r1, σ3⟩ := r
    simp only at h4 he3 h5
    subst h4
    have hm2 : (splitF n bs).1.length = m2 := by have := h3.len; simpa using this
    have hws : (splitF n bs).1.length ≤ n := by
      by_cases h0 : (splitF n bs).2 = 0
      · obtain ⟨g1, g2⟩ := splitF_all n bs hb (by omega) h0
        have := encs_len g2
        rw [g1] at this; omega
      · rw [splitF_err n bs h0]; simp
    simp only [len0, len1, len2, len3, len4, len5, get0, get1, get2, get3, get4, get5, Option.bind_some, asI_i, asB_b, asS_s, asP_p, asPS_p, asSl_sl, asTup2, asTup3, asTup4, joinB, joinI, beq_true, beq_false, Bool.not_true, Bool.not_false, Bool.not_not, cond_true, cond_false, bne, Int.toNat_natCast, Option.map_some, bindS_inl, bindS_inr, decNN, Bool.and_true, Bool.true_and, decide_true, decide_false, beq_self_eq_true]
    refine Ok.step (Q := fun r : List AV × AH O => ∃ σ4, r = ([.b false], σ4) ∧ Ext σ3 σ4) ?_ ?_
    · refine Ok.step (same5_ok (h3.ext he3) h5 (by omega)) fun r hr1 => ?_
      subst hr1
      simp only [len0, len1, len2, len3, len4, len5, get0, get1, get2, get3, get4, get5, Option.bind_some, asI_i, asB_b, asS_s, asP_p, asPS_p, asSl_sl, asTup2, asTup3, asTup4, joinB, joinI, beq_true, beq_false, Bool.not_true, Bool.not_false, Bool.not_not, cond_true, cond_false, bne, Int.toNat_natCast, Option.map_some, bindS_inl, bindS_inr, decNN, Bool.and_true, Bool.true_and, decide_true, decide_false]
      exact Ok_some.2 ⟨σ3, rfl, Ext.refl _⟩
    · rintro r ⟨σ4, rfl, he4⟩
      simp only [len0, len1, len2, len3, len4, len5, get0, get1, get2, get3, get4, get5, Option.bind_some, asI_i, asB_b, asS_s, asP_p, asPS_p, asSl_sl, asTup2, asTup3, asTup4, joinB, joinI, beq_true, beq_false, Bool.not_true, Bool.not_false, Bool.not_not, cond_true, cond_false, bne, Int.toNat_natCast, Option.map_some, bindS_inl, bindS_inr, decNN, Bool.and_true, Bool.true_and, decide_true, decide_false, beq_self_eq_true]
      by_cases h0 : (splitF n bs).2 = 0
      · obtain ⟨g1, g2⟩ := splitF_all n bs hb (by omega) h0
        have hall := ((hr.ext he1).ext he2).ext (he3.trans he4)
        have hb0 : ((splitF n bs).2 == 0) = true := by simpa using h0
        simp only [hb0, len0, len1, len2, len3, len4, len5, get0, get1, get2, get3, get4, get5, Option.bind_some, asI_i, asB_b, asS_s, asP_p, asPS_p, asSl_sl, asTup2, asTup3, asTup4, joinB, joinI, beq_true, beq_false, Bool.not_true, Bool.not_false, Bool.not_not, cond_true, cond_false, bne, Int.toNat_natCast, Option.map_some, bindS_inl, bindS_inr, decNN, Bool.and_true, Bool.true_and, decide_true, decide_false, hall.rdSl, bytes_ok]
        refine Ok.step (Q := fun r : List AV × AH O => r.1 = [.b true]) ?_ ?_
        · refine Ok.step (all_ok ((h3.ext he3).ext he4) g2 (by omega)) fun r ⟨he5, a5, h6, h7⟩ => ?_
          obtain ⟨r1, σ5⟩ := r
          simp only at h6 he5 h7
          subst h6
          have h8 := h7.rdSl
          rw [g1] at h8
          have hc : chk True = some () := chk_true trivial
          simp only [len0, len1, len2, len3, len4, len5, get0, get1, get2, get3, get4, get5, Option.bind_some, asI_i, asB_b, asS_s, asP_p, asPS_p, asSl_sl, asTup2, asTup3, asTup4, joinB, joinI, beq_true, beq_false, Bool.not_true, Bool.not_false, Bool.not_not, cond_true, cond_false, bne, Int.toNat_natCast, Option.map_some, bindS_inl, bindS_inr, decNN, Bool.and_true, Bool.true_and, decide_true, decide_false, (hall.ext he5).rdSl, hc, g1, h8, bytes_ok, beq_self_eq_true]
          exact Ok_some.2 rfl
        · rintro ⟨r1, σ5⟩ h8
          simp only at h8
          subst h8
          simp only [len0, len1, len2, len3, len4, len5, get0, get1, get2, get3, get4, get5, Option.bind_some, asI_i, asB_b, asS_s, asP_p, asPS_p, asSl_sl, asTup2, asTup3, asTup4, joinB, joinI, beq_true, beq_false, Bool.not_true, Bool.not_false, Bool.not_not, cond_true, cond_false, bne, Int.toNat_natCast, Option.map_some, bindS_inl, bindS_inr, decNN, Bool.and_true, Bool.true_and, decide_true, decide_false]
          exact Ok_some.2 rfl
      · have hb0 : ((splitF n bs).2 == 0) = false := by simpa using h0
        simp only [hb0, len0, len1, len2, len3, len4, len5, get0, get1, get2, get3, get4, get5, Option.bind_some, asI_i, asB_b, asS_s, asP_p, asPS_p, asSl_sl, asTup2, asTup3, asTup4, joinB, joinI, beq_true, beq_false, Bool.not_true, Bool.not_false, Bool.not_not, cond_true, cond_false, bne, Int.toNat_natCast, Option.map_some, bindS_inl, bindS_inr, decNN, Bool.and_true, Bool.true_and, decide_true, decide_false]
        exact Ok_some.2 rfl

theorem varintWords_ok {w : Int} {a b : SA} {n m : Nat} {bs cs : List Int} {σ : AH O} (hw : 0 ≤ w) (hw' : w < 18446744073709551616) (hr : Rd σ 1 a n (bs.map (AV.i .u8))) (hb : ∀ x ∈ bs, 0 ≤ x ∧ x < 256)
    (hr' : Rd σ 1 b m (cs.map (AV.i .u8))) (hc : ∀ x ∈ cs, 0 ≤ x ∧ x < 256) : Ok (law05_VarintWords [.i .u64 w, .sl a n, .sl b m] σ) fun r => r.1 = .b true := by
  have hl : bs.length = n := by have := hr.len; simpa using this
  have hl' : cs.length = m := by have := hr'.len; simpa using this
  have h10 := enc_len10 (w := w.toNat) (by omega)
  simp only [law05_VarintWords, len0, len1, len2, len3, len4, len5, get0, get1, get2, get3, get4, get5, Option.bind_some, asI_i, asB_b, asS_s, asP_p, asPS_p, asSl_sl, asTup2, asTup3, asTup4, joinB, joinI, beq_true, beq_false, Bool.not_true, Bool.not_false, Bool.not_not, cond_true, cond_false, bne, Int.toNat_natCast, Option.map_some, bindS_inl, bindS_inr, decNN, Bool.and_true, Bool.true_and, decide_true, decide_false]
  refine Ok.step awake5_ok fun r ⟨h1, he1⟩ => ?_
  obtain ⟨r1, σ1⟩ := r
  simp only at h1 he1
  subst h1
  simp only [len0, len1, len2, len3, len4, len5, get0, get1, get2, get3, get4, get5, Option.bind_some, asI_i, asB_b, asS_s, asP_p, asPS_p, asSl_sl, asTup2, asTup3, asTup4, joinB, joinI, beq_true, beq_false, Bool.not_true, Bool.not_false, Bool.not_not, cond_true, cond_false, bne, Int.toNat_natCast, Option.map_some, bindS_inl, bindS_inr, decNN, Bool.and_true, Bool.true_and, decide_true, decide_false]
  by_cases hn : (n : Int) > 200
  · simp only [len0, len1, len2, len3, len4, len5, get0, get1, get2, get3, get4, get5, Option.bind_some, asI_i, asB_b, asS_s, asP_p, asPS_p, asSl_sl, asTup2, asTup3, asTup4, joinB, joinI, beq_true, beq_false, Bool.not_true, Bool.not_false, Bool.not_not, cond_true, cond_false, bne, Int.toNat_natCast, Option.map_some, bindS_inl, bindS_inr, decNN, Bool.and_true, Bool.true_and, decide_true, decide_false, hn]; exact Ok_some.2 rfl
  · by_cases hm : (m : Int) > 200
    · simp only [len0, len1, len2, len3, len4, len5, get0, get1, get2, get3, get4, get5, Option.bind_some, asI_i, asB_b, asS_s, asP_p, asPS_p, asSl_sl, asTup2, asTup3, asTup4, joinB, joinI, beq_true, beq_false, Bool.not_true, Bool.not_false, Bool.not_not, cond_true, cond_false, bne, Int.toNat_natCast, Option.map_some, bindS_inl, bindS_inr, decNN, Bool.and_true, Bool.true_and, decide_true, decide_false, hn, hm]; exact Ok_some.2 rfl
    · simp only [len0, len1, len2, len3, len4, len5, get0, get1, get2, get3, get4, get5, Option.bind_some, asI_i, asB_b, asS_s, asP_p, asPS_p, asSl_sl, asTup2, asTup3, asTup4, joinB, joinI, beq_true, beq_false, Bool.not_true, Bool.not_false, Bool.not_not, cond_true, cond_false, bne, Int.toNat_natCast, Option.map_some, bindS_inl, bindS_inr, decNN, Bool.and_true, Bool.true_and, decide_true, decide_false, hn, hm]
      refine Ok.step (put_ok (hr.ext he1) hw hw' (by omega)) fun r ⟨he2, a2, h2, h3, _⟩ => ?_
      obtain ⟨r1, σ2⟩ := r
      simp only at h2 he2 h3
      subst h2
      simp only [len0, len1, len2, len3, len4, len5, get0, get1, get2, get3, get4, get5, Option.bind_some, asI_i, asB_b, asS_s, asP_p, asPS_p, asSl_sl, asTup2, asTup3, asTup4, joinB, joinI, beq_true, beq_false, Bool.not_true, Bool.not_false, Bool.not_not, cond_true, cond_false, bne, Int.toNat_natCast, Option.map_some, bindS_inl, bindS_inr, decNN, Bool.and_true, Bool.true_and, decide_true, decide_false]
      refine Ok.step (refBytes_ok hw hw') fun r ⟨he3, a3, h4, h5⟩ => ?_
      obtain ⟨r1, σ3⟩ := r
      simp only at h4 he3 h5
      subst h4
      have hsum : Nat.ble ((bs.map fun x => UInt8.ofNat x.toNat).length + ((enc w.toNat).map fun x => UInt8.ofNat x.toNat).length) 9223372036854775807 = true := by
        apply Nat.ble_eq_true_of_le; simp; omega
      rw [← List.map_append] at h3
      have q1 := (h3.ext he3).rdSl
      have q2 := (((hr.ext he1).ext he2).ext he3).rdSl
      have q3 := h5.rdSl
      simp only [len0, len1, len2, len3, len4, len5, get0, get1, get2, get3, get4, get5, Option.bind_some, asI_i, asB_b, asS_s, asP_p, asPS_p, asSl_sl, asTup2, asTup3, asTup4, joinB, joinI, beq_true, beq_false, Bool.not_true, Bool.not_false, Bool.not_not, cond_true, cond_false, bne, Int.toNat_natCast, Option.map_some, bindS_inl, bindS_inr, decNN, Bool.and_true, Bool.true_and, decide_true, decide_false, q1, q2, q3, bytes_ok, hsum]
      simp only [List.map_append, beq_self_eq_true, len0, len1, len2, len3, len4, len5, get0, get1, get2, get3, get4, get5, Option.bind_some, asI_i, asB_b, asS_s, asP_p, asPS_p, asSl_sl, asTup2, asTup3, asTup4, joinB, joinI, beq_true, beq_false, Bool.not_true, Bool.not_false, Bool.not_not, cond_true, cond_false, bne, Int.toNat_natCast, Option.map_some, bindS_inl, bindS_inr, decNN, Bool.and_true, Bool.true_and, decide_true, decide_false]
      refine Ok.step (Q := fun r : List AV × AH O => r = ([.b false], σ3)) ?_ ?_
      · refine Ok.step (size_ok hw hw') fun r hr1 => ?_
        subst hr1
        simp only [len0, len1, len2, len3, len4, len5, get0, get1, get2, get3, get4, get5, Option.bind_some, asI_i, asB_b, asS_s, asP_p, asPS_p, asSl_sl, asTup2, asTup3, asTup4, joinB, joinI, beq_true, beq_false, Bool.not_true, Bool.not_false, Bool.not_not, cond_true, cond_false, bne, Int.toNat_natCast, Option.map_some, bindS_inl, bindS_inr, decNN, Bool.and_true, Bool.true_and, decide_true, decide_false, beq_self_eq_true]
        exact Ok_some.2 rfl
      · rintro r rfl
        simp only [len0, len1, len2, len3, len4, len5, get0, get1, get2, get3, get4, get5, Ok_bind, Ok_some, Ok_none, Ok_bif, asI_i, asB_b, asS_s, asP_p, asPS_p, asSl_sl, decide_eq_true_eq, asTup2, asTup3, asTup4, joinB, joinI, beq_true, beq_false, Bool.not_true, Bool.not_false, Bool.not_not, cond_true, cond_false, Int.toNat_natCast, Option.map_some, decNN, Bool.and_true, Bool.true_and, Bool.false_eq_true, if_false]
        have e0 : Ext σ3 ((σ3.bump 3).put σ3.next (.cells true 5 [])) := ((Ext.refl σ3).bump 3).put (Nat.le_refl _) _
        have r0 : Rd ((σ3.bump 3).put σ3.next (.cells true 5 [])) 1 (.loc σ3.next 0 1) 0 [] := Rd.new (el := 5) (by simp) (by simp) rfl
        refine appS_ok (base := σ3.next) r0 ⟨Nat.le_refl _, [], by simp⟩ (h5.ext e0) (by omega) (by simp) (by intro o e he; injection he; omega) (by omega) fun a4 σ4 k1 k2 k3 k4 kk => ?_
        simp only [len0, len1, len2, len3, len4, len5, get0, get1, get2, get3, get4, get5, Ok_bind, Ok_some, Ok_none, Ok_bif, asI_i, asB_b, asS_s, asP_p, asPS_p, asSl_sl, decide_eq_true_eq, asTup2, asTup3, asTup4, joinB, joinI, beq_true, beq_false, Bool.not_true, Bool.not_false, Bool.not_not, cond_true, cond_false, Int.toNat_natCast, Option.map_some, decNN, Bool.and_true, Bool.true_and]
        have e1 : Ext σ3 σ4 := ⟨by rw [k3]; exact e0.next, fun b hb => by
          rw [k4 b (by omega) (by intro o e he; injection he; omega)]
          exact e0.blk b hb⟩
        have hne : ∀ o e, a4 ≠ .loc (σ3.next + 1 + 1) o e := fun o e he => by have := kk _ _ _ he; omega
        refine appS_ok (base := σ3.next) k1 k2 (((hr'.ext he1).ext (he2.trans he3)).ext e1) (by omega) (by rw [k3]; simp) hne (by omega) fun a5 σ5 k5 k6 k7 k8 _ => ?_
        simp only [len0, len1, len2, len3, len4, len5, get0, get1, get2, get3, get4, get5, Ok_bind, Ok_some, Ok_none, Ok_bif, asI_i, asB_b, asS_s, asP_p, asPS_p, asSl_sl, decide_eq_true_eq, asTup2, asTup3, asTup4, joinB, joinI, beq_true, beq_false, Bool.not_true, Bool.not_false, Bool.not_not, cond_true, cond_false, Int.toNat_natCast, Option.map_some, decNN, Bool.and_true, Bool.true_and, Nat.zero_add]
        simp only [List.nil_append, Nat.zero_add] at k5
        rw [← List.map_append] at k5
        refine (get_ok k5 (Bytes.app (enc_u8 _) hc) (by omega)).mono fun r hr1 => ?_
        subst hr1
        have hg := get_enc (w := w.toNat) (by omega) cs
        simp only [getV, len0, len1, len2, len3, len4, len5, get0, get1, get2, get3, get4, get5, Ok_bind, Ok_some, Ok_none, Ok_bif, asI_i, asB_b, asS_s, asP_p, asPS_p, asSl_sl, decide_eq_true_eq, asTup2, asTup3, asTup4, joinB, joinI, beq_true, beq_false, Bool.not_true, Bool.not_false, Bool.not_not, cond_true, cond_false, Int.toNat_natCast, Option.map_some, decNN, Bool.and_true, Bool.true_and, hg, Int.toNat_of_nonneg hw, beq_self_eq_true, Nat.zero_add]

theorem varintLists_ok {a : SA} {n : Nat} {ws : List Int} {σ : AH O} (hr : Rd σ 1 a n (ws.map (AV.i .u64))) (hw : Words ws) : Ok (law05_VarintLists [.sl a n] σ) fun r => r.1 = .b true := by
  have hl : ws.length = n := by have := hr.len; simpa using this
  subst hl
  simp only [law05_VarintLists, len0, len1, len2, len3, len4, len5, get0, get1, get2, get3, get4, get5, Option.bind_some, asI_i, asB_b, asS_s, asP_p, asPS_p, asSl_sl, asTup2, asTup3, asTup4, joinB, joinI, beq_true, beq_false, Bool.not_true, Bool.not_false, Bool.not_not, cond_true, cond_false, bne, Int.toNat_natCast, Option.map_some, bindS_inl, bindS_inr, decNN, Bool.and_true, Bool.true_and, decide_true, decide_false]
  refine Ok.step awake5_ok fun r ⟨h1, he1⟩ => ?_
  obtain ⟨r1, σ1⟩ := r
  simp only at h1 he1
  subst h1
  simp only [len0, len1, len2, len3, len4, len5, get0, get1, get2, get3, get4, get5, Option.bind_some, asI_i, asB_b, asS_s, asP_p, asPS_p, asSl_sl, asTup2, asTup3, asTup4, joinB, joinI, beq_true, beq_false, Bool.not_true, Bool.not_false, Bool.not_not, cond_true, cond_false, bne, Int.toNat_natCast, Option.map_some, bindS_inl, bindS_inr, decNN, Bool.and_true, Bool.true_and, decide_true, decide_false]
  by_cases hn : (ws.length : Int) > 100
  · simp only [len0, len1, len2, len3, len4, len5, get0, get1, get2, get3, get4, get5, Option.bind_some, asI_i, asB_b, asS_s, asP_p, asPS_p, asSl_sl, asTup2, asTup3, asTup4, joinB, joinI, beq_true, beq_false, Bool.not_true, Bool.not_false, Bool.not_not, cond_true, cond_false, bne, Int.toNat_natCast, Option.map_some, bindS_inl, bindS_inr, decNN, Bool.and_true, Bool.true_and, decide_true, decide_false, hn]; exact Ok_some.2 rfl
  · simp only [len0, len1, len2, len3, len4, len5, get0, get1, get2, get3, get4, get5, Option.bind_some, asI_i, asB_b, asS_s, asP_p, asPS_p, asSl_sl, asTup2, asTup3, asTup4, joinB, joinI, beq_true, beq_false, Bool.not_true, Bool.not_false, Bool.not_not, cond_true, cond_false, bne, Int.toNat_natCast, Option.map_some, bindS_inl, bindS_inr, decNN, Bool.and_true, Bool.true_and, decide_true, decide_false, hn]
    refine Ok.step (Q := fun s : List AV × AH O => ∃ (a' : SA) (σ2 : AH O), s = ([.sl a' (encs ws).length], σ2) ∧ Ext σ1 σ2 ∧ Rd σ2 1 a' (encs ws).length ((encs ws).map (AV.i .u8)))
      (Ok.count ws.length (fun k (s : List AV × AH O) => ∃ (a' : SA) (σ2 : AH O), s = ([.sl a' (encs (ws.take k)).length, .i .i64 k], σ2) ∧ Ext σ1 σ2 ∧ Rd σ2 1 a' (encs (ws.take k)).length ((encs (ws.take k)).map (AV.i .u8)) ∧ Own σ1.next σ2 5 a') ?_ ?_ ⟨.nil, σ1, rfl, Ext.refl σ1, Rd.nil σ1 1, trivial⟩) ?_
    · rintro k s hk ⟨a', σ2, rfl, he, h3, h4⟩
      have hin : ((k : Int) < (ws.length : Int)) := by omega
      have eb : Ext σ2 (σ2.bump 1) := (Ext.refl σ2).bump 1
      have h1 := fun {B : Type} (f : AV → Option B) => (((hr.ext he1).ext he).ext eb).ld1 (map_get (k := .u64) hk) f
      have hwk := hw _ (List.getElem_mem hk)
      have hlen := (encs_len (ws := ws.take k) fun x hx => hw x (List.mem_of_mem_take hx)).2
      have hlen' : (ws.take k).length ≤ ws.length := by simp; omega
      have h10 := enc_len10 (w := ws[k].toNat) (by omega)
      simp only [len0, len1, len2, len3, len4, len5, get0, get1, get2, get3, get4, get5, Option.bind_some, asI_i, asB_b, asS_s, asP_p, asPS_p, asSl_sl, asTup2, asTup3, asTup4, joinB, joinI, beq_true, beq_false, Bool.not_true, Bool.not_false, Bool.not_not, cond_true, cond_false, bne, Int.toNat_natCast, Option.map_some, bindS_inl, bindS_inr, decNN, Bool.and_true, Bool.true_and, decide_true, decide_false, hin, h1]
      refine Ok.step (refBytes_ok hwk.1 hwk.2) fun r ⟨he3, a3, h5, h6⟩ => ?_
      obtain ⟨r1, σ3⟩ := r
      simp only at h5 he3 h6
      subst h5
      simp only [len0, len1, len2, len3, len4, len5, get0, get1, get2, get3, get4, get5, Ok_bind, Ok_some, Ok_none, Ok_bif, asI_i, asB_b, asS_s, asP_p, asPS_p, asSl_sl, decide_eq_true_eq, asTup2, asTup3, asTup4, joinB, joinI, beq_true, beq_false, Bool.not_true, Bool.not_false, Bool.not_not, cond_true, cond_false, Int.toNat_natCast, Option.map_some, decNN, Bool.and_true, Bool.true_and]
      have hex := eb.trans he3
      have ho3 : Own σ1.next σ3 5 a' := by
        cases a' with
        | loc b o e =>
          obtain ⟨g1, all, g2⟩ := h4
          exact ⟨g1, all, by rw [hex.blk b h3.lt]; exact g2⟩
        | nil => trivial
        | z => trivial
      refine appS_ok (base := σ1.next) (h3.ext hex) ho3 h6 he.next (by have := he3.next; simp at this; omega) (fun o e h => by subst h; have := h3.lt; omega) (by omega) fun a4 σ4 k1 k2 k3 k4 _ => ?_
      simp only [len0, len1, len2, len3, len4, len5, get0, get1, get2, get3, get4, get5, Ok_bind, Ok_some, Ok_none, Ok_bif, asI_i, asB_b, asS_s, asP_p, asPS_p, asSl_sl, decide_eq_true_eq, asTup2, asTup3, asTup4, joinB, joinI, beq_true, beq_false, Bool.not_true, Bool.not_false, Bool.not_not, cond_true, cond_false, Int.toNat_natCast, Option.map_some, decNN, Bool.and_true, Bool.true_and]
      have e : (encs (ws.take k)).length + (enc ws[k].toNat).length = (encs (ws.take (k + 1))).length := by rw [encs_take hk]; simp
      rw [i64_id (by omega) (by omega), e]
      refine ⟨a4, σ4, rfl, ⟨by have := he.next; have := hex.next; omega, fun b hb => ?_⟩, ?_, k2⟩
      · have := he.next
        rw [k4 b (by omega) (fun o e h => by subst h; have := h4.1; omega), hex.blk b (by omega), he.blk b hb]
      · rw [e, ← List.map_append, ← encs_take hk] at k1
        exact k1
    · rintro s ⟨a', σ2, rfl, he, h3, h4⟩
      have hin : ¬ ((ws.length : Int) < (ws.length : Int)) := by omega
      simp only [len0, len1, len2, len3, len4, len5, get0, get1, get2, get3, get4, get5, Option.bind_some, asI_i, asB_b, asS_s, asP_p, asPS_p, asSl_sl, asTup2, asTup3, asTup4, joinB, joinI, beq_true, beq_false, Bool.not_true, Bool.not_false, Bool.not_not, cond_true, cond_false, bne, Int.toNat_natCast, Option.map_some, bindS_inl, bindS_inr, decNN, Bool.and_true, Bool.true_and, decide_true, decide_false, hin]
      rw [List.take_length] at h3
      exact Ok_some.2 ⟨a', σ2, by rw [List.take_length], he, h3⟩
    · rintro r ⟨a2, σ2, rfl, he2, h3⟩
      have hlen := encs_len hw
      simp only [len0, len1, len2, len3, len4, len5, get0, get1, get2, get3, get4, get5, Option.bind_some, asI_i, asB_b, asS_s, asP_p, asPS_p, asSl_sl, asTup2, asTup3, asTup4, joinB, joinI, beq_true, beq_false, Bool.not_true, Bool.not_false, Bool.not_not, cond_true, cond_false, bne, Int.toNat_natCast, Option.map_some, bindS_inl, bindS_inr, decNN, Bool.and_true, Bool.true_and, decide_true, decide_false]
      refine Ok.step (all_ok ((hr.ext he1).ext he2) hw (by omega)) fun r ⟨he3, a3, h4, h5⟩ => ?_
      obtain ⟨r1, σ3⟩ := r
      simp only at h4 he3 h5
      subst h4
      simp only [len0, len1, len2, len3, len4, len5, get0, get1, get2, get3, get4, get5, Option.bind_some, asI_i, asB_b, asS_s, asP_p, asPS_p, asSl_sl, asTup2, asTup3, asTup4, joinB, joinI, beq_true, beq_false, Bool.not_true, Bool.not_false, Bool.not_not, cond_true, cond_false, bne, Int.toNat_natCast, Option.map_some, bindS_inl, bindS_inr, decNN, Bool.and_true, Bool.true_and, decide_true, decide_false]
      refine Ok.step (split_ok h5 (encs_bytes ws) (by omega)) fun r ⟨he4, a4, m4, h6, h7⟩ => ?_
      obtain ⟨r1, σ4⟩ := r
      simp only at h6 he4 h7
      subst h6
      rw [splitF_encs ws _ hw (Nat.le_refl _)] at h7
      simp only [len0, len1, len2, len3, len4, len5, get0, get1, get2, get3, get4, get5, Option.bind_some, asI_i, asB_b, asS_s, asP_p, asPS_p, asSl_sl, asTup2, asTup3, asTup4, joinB, joinI, beq_true, beq_false, Bool.not_true, Bool.not_false, Bool.not_not, cond_true, cond_false, bne, Int.toNat_natCast, Option.map_some, bindS_inl, bindS_inr, decNN, Bool.and_true, Bool.true_and, decide_true, decide_false, (h5.ext he4).rdSl, ((h3.ext he3).ext he4).rdSl, bytes_ok, beq_self_eq_true, splitF_encs ws _ hw (Nat.le_refl _)]
      refine Ok.step (Q := fun r : List AV × AH O => r = ([.b true], σ4)) ?_ ?_
      · refine Ok.step (same5_ok h7 ((((hr.ext he1).ext he2).ext he3).ext he4) (by have := h7.len; simp at this; omega)) fun r hr1 => ?_
        subst hr1
        simp only [len0, len1, len2, len3, len4, len5, get0, get1, get2, get3, get4, get5, Option.bind_some, asI_i, asB_b, asS_s, asP_p, asPS_p, asSl_sl, asTup2, asTup3, asTup4, joinB, joinI, beq_true, beq_false, Bool.not_true, Bool.not_false, Bool.not_not, cond_true, cond_false, bne, Int.toNat_natCast, Option.map_some, bindS_inl, bindS_inr, decNN, Bool.and_true, Bool.true_and, decide_true, decide_false]
        exact Ok_some.2 rfl
      · rintro r rfl
        simp only [len0, len1, len2, len3, len4, len5, get0, get1, get2, get3, get4, get5, Option.bind_some, asI_i, asB_b, asS_s, asP_p, asPS_p, asSl_sl, asTup2, asTup3, asTup4, joinB, joinI, beq_true, beq_false, Bool.not_true, Bool.not_false, Bool.not_not, cond_true, cond_false, bne, Int.toNat_natCast, Option.map_some, bindS_inl, bindS_inr, decNN, Bool.and_true, Bool.true_and, decide_true, decide_false]
        exact Ok_some.2 rfl
end Go.Abs.Try
