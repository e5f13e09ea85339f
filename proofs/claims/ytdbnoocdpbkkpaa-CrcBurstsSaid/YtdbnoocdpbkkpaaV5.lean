/-
  The functions of layer 5: varint.
-/
import Derived.Test.YtdbnoocdpbkkpaaS1
import Derived.Test.YtdbnoocdpbkkpaaAbsSl
set_option linter.unusedVariables false
set_option linter.unusedSimpArgs false
set_option linter.unusedSimpArgs false
namespace Go.Abs.Try
open Go Go.Abs
variable {O : Type}

theorem zig_eq {n : Int} {σ : AH O} (h : -9223372036854775808 ≤ n) (h' : n ≤ 9223372036854775807) : varint_Zig [.i .i64 n] σ = some (.i .u64 (if 0 ≤ n then 2 * n else -2 * n - 1), σ) := by
  simp only [varint_Zig, len1, get0, asI_i, Option.bind_some]
  congr 3
  by_cases hn : 0 ≤ n
  · have e1 : IntKind.u64.wrap (IntKind.u64.wrap n * 2 ^ 1) = 2 * n := by rw [wrap_u64, wrap_u64]; omega
    have e2 : IntKind.u64.wrap (Int.fdiv n (2 ^ 63)) = 0 := by rw [Int.fdiv_eq_ediv_of_nonneg _ (by decide), wrap_u64]; omega
    rw [e1, e2, xor_zero_u64 (by omega) (by omega), if_pos hn]
  · have e1 : IntKind.u64.wrap (IntKind.u64.wrap n * 2 ^ 1) = 2 * n + 18446744073709551616 := by rw [wrap_u64, wrap_u64]; omega
    have e2 : IntKind.u64.wrap (Int.fdiv n (2 ^ 63)) = 18446744073709551615 := by rw [Int.fdiv_eq_ediv_of_nonneg _ (by decide), wrap_u64]; omega
    rw [e1, e2, xor_ones_u64 (by omega) (by omega), if_neg hn]; omega

theorem zag_eq {n : Int} {σ : AH O} (h : 0 ≤ n) (h' : n < 18446744073709551616) : varint_Zag [.i .u64 n] σ = some (.i .i64 (if n % 2 = 0 then n / 2 else - (n / 2) - 1), σ) := by
  simp only [varint_Zag, len1, get0, asI_i, Option.bind_some]
  congr 3
  have e1 : IntKind.i64.wrap (Int.fdiv n (2 ^ 1)) = n / 2 := by rw [Int.fdiv_eq_ediv_of_nonneg _ (by decide), wrap_i64]; omega
  rw [e1, and_one_u64 h h']
  by_cases hn : n % 2 = 0
  · have e2 : IntKind.i64.wrap (0 - IntKind.i64.wrap (n % 2)) = 0 := by rw [wrap_i64, wrap_i64]; omega
    rw [e2, xor_zero_i64 (by omega) (by omega), if_pos hn]
  · have e2 : IntKind.i64.wrap (0 - IntKind.i64.wrap (n % 2)) = -1 := by rw [wrap_i64, wrap_i64]; omega
    rw [e2, xor_ones_i64 (by omega) (by omega), if_neg hn]

/-- a word's bytes -/
def enc (w : Nat) : List Int := if w < 128 then [(w : Int)] else ((w % 128 + 128 : Nat) : Int) :: enc (w / 128) termination_by w
theorem enc_lt {w : Nat} (h : w < 128) : enc w = [(w : Int)] := by rw [enc, if_pos h]
theorem enc_ge {w : Nat} (h : ¬ w < 128) : enc w = ((w % 128 + 128 : Nat) : Int) :: enc (w / 128) := by rw [enc, if_neg h]
theorem enc_u8 (w : Nat) : ∀ x ∈ enc w, 0 ≤ x ∧ x < 256 := by
  induction w using Nat.strongRecOn with
  | _ w ih =>
    by_cases h : w < 128
    · rw [enc_lt h]; intro x hx; simp at hx; subst hx; omega
    · rw [enc_ge h]; intro x hx
      rcases List.mem_cons.1 hx with rfl | hx
      · omega
      · exact ih _ (by omega) x hx
theorem enc_len (w : Nat) : ∀ k, w < 128 ^ (k + 1) → 1 ≤ (enc w).length ∧ (enc w).length ≤ k + 1 := by
  induction w using Nat.strongRecOn with
  | _ w ih =>
    intro k hk
    by_cases h : w < 128
    · rw [enc_lt h]; simp
    · rw [enc_ge h]
      cases k with
      | zero => simp at hk; omega
      | succ k =>
        have := ih (w / 128) (by omega) k (by rw [Nat.div_lt_iff_lt_mul (by omega)]; rw [Nat.pow_succ] at hk; exact hk)
        simp; omega
theorem enc_len10 {w : Nat} (h : w < 18446744073709551616) : 1 ≤ (enc w).length ∧ (enc w).length ≤ 10 := enc_len w 9 (by omega)

set_option maxRecDepth 10000 in
theorem or128 : ∀ x : Fin 256, x.val ||| 128 = x.val % 128 + 128 := by decide

theorem size_ok {w : Int} {σ : AH O} (h : 0 ≤ w) (h' : w < 18446744073709551616) : Ok (varint_Size [.i .u64 w] σ) fun r => r = (.i .i64 (enc w.toNat).length, σ) := by
  simp only [varint_Size, len0, len1, len2, len3, len4, len5, get0, get1, get2, get3, get4, get5, Ok_bind, Ok_some, Ok_none, Ok_bif, asI_i, asB_b, asS_s, asP_p, asPS_p, asSl_sl, decide_eq_true_eq, asTup2, asTup3, asTup4, joinB, joinI, beq_true, beq_false, Bool.not_true, Bool.not_false, Bool.not_not, cond_true, cond_false, Int.toNat_natCast, Option.map_some, decNN, Bool.and_true, Bool.true_and]
  have h10 := enc_len10 (w := w.toNat) (by omega)
  refine Ok.mono (Q := fun r : List AV × AH O => r = ([.i .i64 ((enc w.toNat).length : Int)], σ)) (Ok.loop (fun m (s : List AV × AH O) => ∃ n k : Int, s = ([.i .u64 n, .i .i64 k], σ) ∧ 0 ≤ n ∧ n < 18446744073709551616 ∧ m = n.toNat ∧ 1 ≤ k ∧ k + (enc n.toNat).length = (enc w.toNat).length + 1) ?_ w.toNat _ ⟨w, 1, rfl, h, h', rfl, by omega, by omega⟩) ?_
  · rintro m s ⟨n, k, rfl, h1, h2, rfl, h3, h4⟩
    simp only [len0, len1, len2, len3, len4, len5, get0, get1, get2, get3, get4, get5, Ok_bind, Ok_some, Ok_none, Ok_bif, asI_i, asB_b, asS_s, asP_p, asPS_p, asSl_sl, decide_eq_true_eq, asTup2, asTup3, asTup4, joinB, joinI, beq_true, beq_false, Bool.not_true, Bool.not_false, Bool.not_not, cond_true, cond_false, Int.toNat_natCast, Option.map_some, decNN, Bool.and_true, Bool.true_and]
    split
    · rename_i hge
      have e : Int.fdiv n (2 ^ 7) = n / 128 := by rw [Int.fdiv_eq_ediv_of_nonneg _ (by decide)]; rfl
      rw [enc_ge (w := n.toNat) (by omega)] at h4
      simp only [List.length_cons] at h4
      rw [i64_id (by omega) (by omega), e]
      refine ⟨(n / 128).toNat, by omega, n / 128, k + 1, rfl, by omega, by omega, rfl, by omega, ?_⟩
      have : (n / 128).toNat = n.toNat / 128 := by omega
      rw [this]; omega
    · rename_i hge
      rw [enc_lt (by omega)] at h4
      simp at h4
      rw [h4]
  · rintro r rfl
    simp only [len0, len1, len2, len3, len4, len5, get0, get1, get2, get3, get4, get5, Ok_bind, Ok_some, Ok_none, Ok_bif, asI_i, asB_b, asS_s, asP_p, asPS_p, asSl_sl, decide_eq_true_eq, asTup2, asTup3, asTup4, joinB, joinI, beq_true, beq_false, Bool.not_true, Bool.not_false, Bool.not_not, cond_true, cond_false, Int.toNat_natCast, Option.map_some, decNN, Bool.and_true, Bool.true_and]

theorem put_ok {w : Int} {σ : AH O} {a : SA} {n : Nat} {cs : List AV} (hr : Rd σ 1 a n cs) (h : 0 ≤ w) (h' : w < 18446744073709551616) (hn : n ≤ 10000000000000) :
    Ok (varint_Put [.sl a n, .i .u64 w] σ) fun r => Ext σ r.2 ∧ ∃ a', r.1 = .sl a' (n + (enc w.toNat).length) ∧ Rd r.2 1 a' (n + (enc w.toNat).length) (cs ++ (enc w.toNat).map (AV.i .u8)) ∧ Own σ.next r.2 5 a' := by
  simp only [varint_Put, len0, len1, len2, len3, len4, len5, get0, get1, get2, get3, get4, get5, Ok_bind, Ok_some, Ok_none, Ok_bif, asI_i, asB_b, asS_s, asP_p, asPS_p, asSl_sl, decide_eq_true_eq, asTup2, asTup3, asTup4, joinB, joinI, beq_true, beq_false, Bool.not_true, Bool.not_false, Bool.not_not, cond_true, cond_false, Int.toNat_natCast, Option.map_some, decNN, Bool.and_true, Bool.true_and]
  have h10 := enc_len10 (w := w.toNat) (by omega)
  have e0 : Ext σ ((σ.bump 2).put σ.next (.cells true 5 [])) := ((Ext.refl σ).bump 2).put (Nat.le_refl _) _
  have r0 : Rd ((σ.bump 2).put σ.next (.cells true 5 [])) 1 (.loc σ.next 0 1) 0 [] := Rd.new (el := 5) (by simp) (by simp) rfl
  refine appS_ok (base := σ.next) r0 ⟨Nat.le_refl _, [], by simp⟩ (hr.ext e0) (by omega) (by simp) (by intro o e he; injection he; omega) (by omega) fun a1 σ1 q1 q2 q3 q4 _ => ?_
  simp only [len0, len1, len2, len3, len4, len5, get0, get1, get2, get3, get4, get5, Ok_bind, Ok_some, Ok_none, Ok_bif, asI_i, asB_b, asS_s, asP_p, asPS_p, asSl_sl, decide_eq_true_eq, asTup2, asTup3, asTup4, joinB, joinI, beq_true, beq_false, Bool.not_true, Bool.not_false, Bool.not_not, cond_true, cond_false, Int.toNat_natCast, Option.map_some, decNN, Bool.and_true, Bool.true_and]
  have e1 : Ext σ σ1 := ⟨by rw [q3]; exact e0.next, fun b hb => by
    rw [q4 b (by omega) (by intro o e he; injection he; omega)]
    exact e0.blk b hb⟩
  rw [Nat.zero_add, List.nil_append] at q1
  rw [Nat.zero_add]
  refine Ok.mono (Q := fun r : List AV × AH O => ∃ (k : Int) (a2 : SA) (σ2 : AH O) (m : Nat) (cs2 : List Int), r = ([.i .u64 k, .sl a2 m], σ2) ∧ 0 ≤ k ∧ k < 128 ∧ Rd σ2 1 a2 m (cs ++ cs2.map (AV.i .u8)) ∧ Own σ.next σ2 5 a2 ∧ Ext σ σ2 ∧ cs2 ++ [k] = enc w.toNat ∧ m = n + cs2.length)
    (Ok.loop (fun j (s : List AV × AH O) => ∃ (k : Int) (a2 : SA) (σ2 : AH O) (m : Nat) (cs2 : List Int), s = ([.i .u64 k, .sl a2 m], σ2) ∧ 0 ≤ k ∧ k < 18446744073709551616 ∧ j = k.toNat ∧ Rd σ2 1 a2 m (cs ++ cs2.map (AV.i .u8)) ∧ Own σ.next σ2 5 a2 ∧ Ext σ σ2 ∧ cs2 ++ enc k.toNat = enc w.toNat ∧ m = n + cs2.length)
      ?_ w.toNat _ ⟨w, a1, σ1, n, [], rfl, h, h', rfl, by simpa using q1, q2, e1, rfl, rfl⟩) ?_
  · rintro j s ⟨k, a2, σ2, m, cs2, rfl, h1, h2, rfl, h3, h4, h5, h6, rfl⟩
    simp only [len0, len1, len2, len3, len4, len5, get0, get1, get2, get3, get4, get5, Ok_bind, Ok_some, Ok_none, Ok_bif, asI_i, asB_b, asS_s, asP_p, asPS_p, asSl_sl, decide_eq_true_eq, asTup2, asTup3, asTup4, joinB, joinI, beq_true, beq_false, Bool.not_true, Bool.not_false, Bool.not_not, cond_true, cond_false, Int.toNat_natCast, Option.map_some, decNN, Bool.and_true, Bool.true_and]
    have hl := congrArg List.length h6
    simp only [List.length_append] at hl
    have hlk := enc_len10 (w := k.toNat) (by omega)
    split
    · rename_i hge
      refine app1_ok (j := 0) h3 h4 h5.next (by omega) rfl (by omega) fun a3 σ3 g1 g2 g3 g4 => ?_
      simp only [len0, len1, len2, len3, len4, len5, get0, get1, get2, get3, get4, get5, Ok_bind, Ok_some, Ok_none, Ok_bif, asI_i, asB_b, asS_s, asP_p, asPS_p, asSl_sl, decide_eq_true_eq, asTup2, asTup3, asTup4, joinB, joinI, beq_true, beq_false, Bool.not_true, Bool.not_false, Bool.not_not, cond_true, cond_false, Int.toNat_natCast, Option.map_some, decNN, Bool.and_true, Bool.true_and]
      have e : Int.fdiv k (2 ^ 7) = k / 128 := by rw [Int.fdiv_eq_ediv_of_nonneg _ (by decide)]; rfl
      have eb : ibits .or .u8 (IntKind.u8.wrap k) 128 = ((k.toNat % 128 + 128 : Nat) : Int) := by
        rw [wrap_u8, or_u8 (by omega) (by omega) (by omega) (by omega)]
        have := or128 ⟨(k % 256).toNat, by omega⟩
        simp only at this
        rw [show (128 : Int).toNat = 128 from rfl, this]
        congr 2; omega
      rw [enc_ge (by omega)] at h6
      rw [e]
      have e4 : (k / 128).toNat = k.toNat / 128 := by omega
      refine ⟨(k / 128).toNat, by omega, k / 128, a3, σ3, _, cs2 ++ [((k.toNat % 128 + 128 : Nat) : Int)], rfl, by omega, by omega, rfl, ?_, g2, ?_, ?_, by simp; omega⟩
      · rw [eb] at g1
        simpa using g1
      · refine ⟨by have := h5.next; omega, fun b hb => ?_⟩
        rw [g4 b (by have := h5.next; omega) fun o e he => ?_, h5.blk b hb]
        subst he
        have := h4.1; omega
      · rw [e4]; simpa using h6
    · rename_i hge
      refine ⟨k, a2, σ2, _, cs2, rfl, h1, by omega, h3, h4, h5, ?_, rfl⟩
      rw [enc_lt (by omega)] at h6
      rw [← h6]; congr 2; omega
  · rintro r ⟨k, a2, σ2, m, cs2, rfl, h1, h2, h3, h4, h5, h6, rfl⟩
    simp only [len0, len1, len2, len3, len4, len5, get0, get1, get2, get3, get4, get5, Ok_bind, Ok_some, Ok_none, Ok_bif, asI_i, asB_b, asS_s, asP_p, asPS_p, asSl_sl, decide_eq_true_eq, asTup2, asTup3, asTup4, joinB, joinI, beq_true, beq_false, Bool.not_true, Bool.not_false, Bool.not_not, cond_true, cond_false, Int.toNat_natCast, Option.map_some, decNN, Bool.and_true, Bool.true_and]
    have hl := congrArg List.length h6
    simp only [List.length_append, List.length_singleton] at hl
    refine app1_ok (j := 0) h3 h4 h5.next (by omega) rfl (by omega) fun a3 σ3 g1 g2 g3 g4 => ?_
    simp only [len0, len1, len2, len3, len4, len5, get0, get1, get2, get3, get4, get5, Ok_bind, Ok_some, Ok_none, Ok_bif, asI_i, asB_b, asS_s, asP_p, asPS_p, asSl_sl, decide_eq_true_eq, asTup2, asTup3, asTup4, joinB, joinI, beq_true, beq_false, Bool.not_true, Bool.not_false, Bool.not_not, cond_true, cond_false, Int.toNat_natCast, Option.map_some, decNN, Bool.and_true, Bool.true_and]
    rw [u8_id h1 (by omega)] at g1
    refine ⟨⟨by have := h5.next; omega, fun b hb => ?_⟩, a3, by congr 1; omega, ?_, g2⟩
    · rw [g4 b (by have := h5.next; omega) fun o e he => ?_, h5.blk b hb]
      subst he
      have := h4.1; omega
    · rw [← h6]
      have e : n + (cs2 ++ [k]).length = n + cs2.length + 1 := by simp; omega
      rw [e]
      simpa using g1

theorem enc300 : enc 300 = [172, 2] := by rw [enc_ge (by omega), enc_lt (by omega)]; rfl

theorem awake5_ok {σ : AH O} : Ok (law05_awake [] σ) fun r => r.1 = .b true ∧ Ext σ r.2 := by
  simp only [law05_awake, len0, len1, len2, len3, len4, len5, get0, get1, get2, get3, get4, get5, Ok_bind, Ok_some, Ok_none, Ok_bif, asI_i, asB_b, asS_s, asP_p, asPS_p, asSl_sl, decide_eq_true_eq, asTup2, asTup3, asTup4, joinB, joinI, beq_true, beq_false, Bool.not_true, Bool.not_false, Bool.not_not, cond_true, cond_false, Int.toNat_natCast, Option.map_some, decNN, Bool.and_true, Bool.true_and]
  refine (put_ok (Rd.nil σ 1) (w := 300) (by omega) (by omega) (by omega)).mono fun r ⟨h1, a', h2, h3, _⟩ => ?_
  rw [h2]
  simp only [len0, len1, len2, len3, len4, len5, get0, get1, get2, get3, get4, get5, Ok_bind, Ok_some, Ok_none, Ok_bif, asI_i, asB_b, asS_s, asP_p, asPS_p, asSl_sl, decide_eq_true_eq, asTup2, asTup3, asTup4, joinB, joinI, beq_true, beq_false, Bool.not_true, Bool.not_false, Bool.not_not, cond_true, cond_false, Int.toNat_natCast, Option.map_some, decNN, Bool.and_true, Bool.true_and]
  have e : (300 : Int).toNat = 300 := rfl
  rw [e, enc300] at h3 ⊢
  refine Ok_of h3.rdSl ?_
  simp only [List.nil_append]
  rw [bytes_ok]
  simp only [len0, len1, len2, len3, len4, len5, get0, get1, get2, get3, get4, get5, Ok_bind, Ok_some, Ok_none, Ok_bif, asI_i, asB_b, asS_s, asP_p, asPS_p, asSl_sl, decide_eq_true_eq, asTup2, asTup3, asTup4, joinB, joinI, beq_true, beq_false, Bool.not_true, Bool.not_false, Bool.not_not, cond_true, cond_false, Int.toNat_natCast, Option.map_some, decNN, Bool.and_true, Bool.true_and, zig_eq (n := -1) (by omega) (by omega), zag_eq (n := 1) (by omega) (by omega)]
  refine (if_pos rfl).mpr ?_
  exact ⟨rfl, h1⟩

theorem zigs_ok {n w : Int} {σ : AH O} (h : -9223372036854775808 ≤ n) (h' : n ≤ 9223372036854775807) (k : 0 ≤ w) (k' : w < 18446744073709551616) : Ok (law05_VarintZigs [.i .i64 n, .i .u64 w] σ) fun r => r.1 = .b true := by
  simp only [law05_VarintZigs, len0, len1, len2, len3, len4, len5, get0, get1, get2, get3, get4, get5, Ok_bind, Ok_some, Ok_none, Ok_bif, asI_i, asB_b, asS_s, asP_p, asPS_p, asSl_sl, decide_eq_true_eq, asTup2, asTup3, asTup4, joinB, joinI, beq_true, beq_false, Bool.not_true, Bool.not_false, Bool.not_not, cond_true, cond_false, Int.toNat_natCast, Option.map_some, decNN, Bool.and_true, Bool.true_and]
  refine awake5_ok.mono fun r ⟨h1, h2⟩ => ?_
  rw [h1]
  have ez := zig_eq (O := O) (σ := r.2) h h'
  have hz : 0 ≤ (if 0 ≤ n then 2 * n else -2 * n - 1) ∧ (if 0 ≤ n then 2 * n else -2 * n - 1) < 18446744073709551616 := by split <;> omega
  have e1 : (if (if 0 ≤ n then 2 * n else -2 * n - 1) % 2 = 0 then (if 0 ≤ n then 2 * n else -2 * n - 1) / 2 else -((if 0 ≤ n then 2 * n else -2 * n - 1) / 2) - 1) = n := by
    by_cases hn : 0 ≤ n
    · simp only [if_pos hn]; rw [if_pos (by omega)]; omega
    · simp only [if_neg hn]; rw [if_neg (by omega)]; omega
  have e2 : (if 0 ≤ (if w % 2 = 0 then w / 2 else -(w / 2) - 1) then 2 * (if w % 2 = 0 then w / 2 else -(w / 2) - 1) else -2 * (if w % 2 = 0 then w / 2 else -(w / 2) - 1) - 1) = w := by
    by_cases hw : w % 2 = 0
    · simp only [if_pos hw]; rw [if_pos (by omega)]; omega
    · simp only [if_neg hw]; rw [if_neg (by omega)]; omega
  simp only [len0, len1, len2, len3, len4, len5, get0, get1, get2, get3, get4, get5, Ok_bind, Ok_some, Ok_none, Ok_bif, asI_i, asB_b, asS_s, asP_p, asPS_p, asSl_sl, decide_eq_true_eq, asTup2, asTup3, asTup4, joinB, joinI, beq_true, beq_false, Bool.not_true, Bool.not_false, Bool.not_not, cond_true, cond_false, Int.toNat_natCast, Option.map_some, decNN, Bool.and_true, Bool.true_and, ez, zag_eq hz.1 hz.2, e1, zag_eq k k', zig_eq (n := if w % 2 = 0 then w / 2 else -(w / 2) - 1) (by split <;> omega) (by split <;> omega), e2, bne_self_eq_false, beq_self_eq_true, Bool.not_true, Bool.false_eq_true, if_true, if_false]
  have e3 : ((if 0 ≤ n then 2 * n else -2 * n - 1).tmod 2 == 1) = decide (n < 0) := by
    by_cases hn : 0 ≤ n
    · simp only [if_pos hn]; rw [Int.tmod_eq_emod_of_nonneg (by omega)]
      have : (2 * n) % 2 = 0 := by omega
      rw [this]; simp; omega
    · simp only [if_neg hn]; rw [Int.tmod_eq_emod_of_nonneg (by omega)]
      have : (-2 * n - 1) % 2 = 1 := by omega
      rw [this]; simp; omega
  rw [e3]
  simp only [beq_self_eq_true, Bool.not_true, Bool.false_eq_true, if_false]
  refine (size_ok hz.1 hz.2).mono fun r2 hr2 => ?_
  subst hr2
  simp only [len0, len1, len2, len3, len4, len5, get0, get1, get2, get3, get4, get5, Ok_bind, Ok_some, Ok_none, Ok_bif, asI_i, asB_b, asS_s, asP_p, asPS_p, asSl_sl, decide_eq_true_eq, asTup2, asTup3, asTup4, joinB, joinI, beq_true, beq_false, Bool.not_true, Bool.not_false, Bool.not_not, cond_true, cond_false, Int.toNat_natCast, Option.map_some, decNN, Bool.and_true, Bool.true_and]
  have e4 : (((enc (if 0 ≤ n then 2 * n else -2 * n - 1).toNat).length : Int) == 1) = (decide (-64 ≤ n) && decide (n ≤ 63)) := by
    by_cases hl : (if 0 ≤ n then 2 * n else -2 * n - 1).toNat < 128
    · rw [enc_lt hl]
      have : -64 ≤ n ∧ n ≤ 63 := by split at hl <;> omega
      simp [this.1, this.2]
    · rw [enc_ge hl]
      have h10 := enc_len10 (w := (if 0 ≤ n then 2 * n else -2 * n - 1).toNat / 128) (by split <;> omega)
      have : ¬ (-64 ≤ n ∧ n ≤ 63) := by split at hl <;> omega
      have e : (((((if 0 ≤ n then 2 * n else -2 * n - 1).toNat % 128 + 128 : Nat) : Int) :: enc ((if 0 ≤ n then 2 * n else -2 * n - 1).toNat / 128)).length : Int) ≠ 1 := by
        simp only [List.length_cons]; omega
      rw [beq_eq_false_iff_ne.2 e]
      by_cases h1 : -64 ≤ n
      · have : ¬ n ≤ 63 := fun h2 => this ⟨h1, h2⟩
        simp [this]
      · simp [h1]
  rw [e4]
  by_cases h1 : -64 ≤ n
  · simp [h1]
  · simp [h1]
end Go.Abs.Try
