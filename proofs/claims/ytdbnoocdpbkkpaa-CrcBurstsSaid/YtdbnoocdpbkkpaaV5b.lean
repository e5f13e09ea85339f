/-
  The functions of layer 5: varint: reading.
-/
import Derived.Test.YtdbnoocdpbkkpaaV5
set_option linter.unusedVariables false
set_option linter.unusedSimpArgs false
set_option linter.unusedSimpArgs false
namespace Go.Abs.Try
open Go Go.Abs
variable {O : Type}

/-! ### What is read, as a function of the bytes -/
def getGo (i : Nat) : List Int → Int × Int × Int
  | [] => (0, 0, 6)
  | c :: bs =>
    if i = 10 ∨ (i = 9 ∧ 1 < c % 128) then (0, 0, 7)
    else if 128 ≤ c then (if (getGo (i + 1) bs).2.2 = 0 then (c % 128 + 128 * (getGo (i + 1) bs).1, (getGo (i + 1) bs).2.1, 0) else getGo (i + 1) bs)
    else if c = 0 ∧ 0 < i then (0, 0, 5)
    else (c, i + 1, 0)
def Bytes (bs : List Int) : Prop := ∀ x ∈ bs, 0 ≤ x ∧ x < 256
theorem Bytes.tail {c : Int} {bs : List Int} (h : Bytes (c :: bs)) : Bytes bs := fun x hx => h x (List.mem_cons_of_mem _ hx)
theorem Bytes.head {c : Int} {bs : List Int} (h : Bytes (c :: bs)) : 0 ≤ c ∧ c < 256 := h c List.mem_cons_self
theorem Bytes.drop {bs : List Int} (h : Bytes bs) (n : Nat) : Bytes (bs.drop n) := fun x hx => h x (List.mem_of_mem_drop hx)
theorem Bytes.app {bs cs : List Int} (h : Bytes bs) (h' : Bytes cs) : Bytes (bs ++ cs) := fun x hx => by
  rcases List.mem_append.1 hx with hx | hx
  · exact h x hx
  · exact h' x hx

/-- a failure has no word -/
theorem getGo_err : ∀ (bs : List Int) (i : Nat), (getGo i bs).2.2 ≠ 0 → (getGo i bs).1 = 0 ∧ (getGo i bs).2.1 = 0
  | [], i, _ => ⟨rfl, rfl⟩
  | c :: bs, i, h => by
    simp only [getGo] at h ⊢
    split
    · exact ⟨rfl, rfl⟩
    · split
      · split
        · rename_i h1 h2 h3
          rw [if_neg h1, if_pos h2, if_pos h3] at h
          exact absurd rfl h
        · rename_i h1 h2 h3
          exact getGo_err bs (i + 1) h3
      · split
        · exact ⟨rfl, rfl⟩
        · rename_i h1 h2 h3
          rw [if_neg h1, if_neg h2, if_neg h3] at h
          exact absurd rfl h
theorem pow_succ7 {i : Nat} (h : i ≤ 8) : (2 : Nat) ^ (64 - 7 * i) = 128 * 2 ^ (64 - 7 * (i + 1)) := by
  rw [show 64 - 7 * i = 7 + (64 - 7 * (i + 1)) by omega, Nat.pow_add]
/-- what is read: how many bytes, how great; its bytes are just those -/
theorem getGo_ok : ∀ (bs : List Int) (i : Nat), i ≤ 10 → Bytes bs → (getGo i bs).2.2 = 0 → i ≤ 9 ∧ 0 ≤ (getGo i bs).1 ∧ (getGo i bs).1 < ((2 ^ (64 - 7 * i) : Nat) : Int) ∧ (0 < i → 0 < (getGo i bs).1) ∧
    ∃ m : Nat, (getGo i bs).2.1 = (i + m + 1 : Nat) ∧ m < bs.length ∧ enc (getGo i bs).1.toNat = bs.take (m + 1)
  | [], i, _, _, h => by simp [getGo] at h
  | c :: bs, i, hi10, hb, h => by
    have hc := hb.head
    simp only [getGo] at h ⊢
    split
    · rename_i h1; rw [if_pos h1] at h; simp at h
    · rename_i h1
      rw [if_neg h1] at h
      split
      · rename_i h2
        rw [if_pos h2] at h
        split
        · rename_i h3
          obtain ⟨g1, g2, g3, g4, m, g5, g6, g7⟩ := getGo_ok bs (i + 1) (by omega) hb.tail h3
          have hp := pow_succ7 (i := i) (by omega)
          have g4' := g4 (by omega)
          generalize hW : (getGo (i + 1) bs).1 = W at *
          refine ⟨by omega, by simp only; omega, ?_, fun _ => by simp only; omega, m + 1, by simp only; rw [g5]; omega, by simp; omega, ?_⟩
          · simp only
            rw [hp]
            have : W + 1 ≤ ((2 ^ (64 - 7 * (i + 1)) : Nat) : Int) := g3
            push_cast at this ⊢
            omega
          · simp only
            rw [enc_ge (by omega), List.take_succ_cons]
            congr 1
            · omega
            · rw [← g7]; congr 1; omega
        · rename_i h3; rw [if_neg h3] at h; exact absurd h h3
      · rename_i h2
        rw [if_neg h2] at h
        split
        · rename_i h3; rw [if_pos h3] at h; simp at h
        · rename_i h3
          have hi : i ≤ 9 := by omega
          refine ⟨hi, hc.1, ?_, fun hi0 => ?_, 0, by simp, by simp, ?_⟩
          · simp only
            by_cases h9 : i = 9
            · subst h9
              have : (2 : Nat) ^ (64 - 7 * 9) = 2 := rfl
              rw [this]; omega
            · have : 2 ^ 7 ≤ (2 : Nat) ^ (64 - 7 * i) := Nat.pow_le_pow_right (by omega) (by omega)
              omega
          · have : ¬ c = 0 := fun e => h3 ⟨e, hi0⟩
            omega
          · show enc c.toNat = _
            rw [enc_lt (by omega)]
            simp; omega
/-- a word is read from its bytes -/
theorem getGo_enc : ∀ (k : Nat) (w : Nat) (i : Nat) (rest : List Int), w < 2 ^ (64 - 7 * i) → i ≤ 9 → (0 < i → 0 < w) → w ≤ k → getGo i (enc w ++ rest) = ((w : Int), ((i + (enc w).length : Nat) : Int), 0)
  | k, w, i, rest, h, hi, h0, hk => by
    by_cases hw : w < 128
    · rw [enc_lt hw]
      simp only [List.cons_append, List.nil_append, getGo]
      rw [if_neg, if_neg (by omega), if_neg (by omega)]
      · simp
      · rintro (h1 | ⟨rfl, h1⟩)
        · omega
        · have : (2 : Nat) ^ (64 - 7 * 9) = 2 := rfl
          rw [this] at h; omega
    · have hi8 : i ≤ 8 := by
        by_cases h9 : i = 9
        · subst h9
          have : (2 : Nat) ^ (64 - 7 * 9) = 2 := rfl
          rw [this] at h; omega
        · omega
      cases k with
      | zero => omega
      | succ k =>
        have hp := pow_succ7 hi8
        have ih := getGo_enc k (w / 128) (i + 1) rest (by omega) (by omega) (by omega) (by omega)
        rw [enc_ge hw]
        simp only [List.cons_append, getGo, ih, if_true]
        rw [if_neg (by omega), if_pos (by omega)]
        simp only [List.length_cons, Prod.mk.injEq, and_true]
        constructor <;> omega
theorem get_enc {w : Nat} (h : w < 18446744073709551616) (rest : List Int) : getGo 0 (enc w ++ rest) = ((w : Int), ((enc w).length : Int), 0) := by
  have := getGo_enc w w 0 rest (by simpa using h) (by omega) (by omega) (Nat.le_refl _)
  simpa using this

set_option maxRecDepth 10000 in
theorem andNot128 : ∀ c : Fin 256, ibits .andNot .u8 (c.val : Int) 128 = ((c.val % 128 : Nat) : Int) := by decide +kernel
set_option maxRecDepth 10000 in
theorem and128 : ∀ c : Fin 256, ibits .and .u8 (c.val : Int) 128 = if c.val < 128 then 0 else 128 := by decide +kernel
theorem andNot_u8 {c : Int} (h : 0 ≤ c ∧ c < 256) : ibits .andNot .u8 c 128 = c % 128 := by
  have := andNot128 ⟨c.toNat, by omega⟩
  simp only at this
  rw [Int.toNat_of_nonneg h.1] at this
  rw [this]; omega
theorem and_u8_128 {c : Int} (h : 0 ≤ c ∧ c < 256) : ibits .and .u8 c 128 = if c < 128 then 0 else 128 := by
  have := and128 ⟨c.toNat, by omega⟩
  simp only at this
  rw [Int.toNat_of_nonneg h.1] at this
  rw [this]
  by_cases hc : c < 128
  · rw [if_pos hc, if_pos (by omega)]
  · rw [if_neg hc, if_neg (by omega)]

/-- a number's bits above another's -/
theorem or_high {w p : Int} {k : Nat} (hw : 0 ≤ w) (hw' : w < ((2 ^ k : Nat) : Int)) (hp : 0 ≤ p) (hk : (p.toNat + 1) * 2 ^ k ≤ 18446744073709551616) : ibits .or .u64 w (p * 2 ^ k) = w + p * 2 ^ k := by
  have e : p * 2 ^ k = ((p.toNat * 2 ^ k : Nat) : Int) := by push_cast; rw [Int.toNat_of_nonneg hp]
  have h1 : 2 ^ k ≤ (p.toNat + 1) * 2 ^ k := Nat.le_mul_of_pos_left _ (by omega)
  have h2 : p.toNat * 2 ^ k + 2 ^ k ≤ 18446744073709551616 := by rw [← Nat.succ_mul]; exact hk
  rw [e, or_u64 hw (by omega) (by omega) (by omega)]
  have := Nat.two_pow_add_eq_or_of_lt (i := k) (b := w.toNat) (by omega) p.toNat
  have e2 : ((p.toNat * 2 ^ k : Nat) : Int).toNat = 2 ^ k * p.toNat := by rw [Int.toNat_natCast, Nat.mul_comm]
  rw [e2, Nat.or_comm, ← this, Nat.mul_comm]
  omega

@[simp] theorem map_some' {A B : Type} {f : A → B} {a : A} : Option.map f (some a) = some (f a) := rfl
theorem Ok_bindS {S R : Type} {m : Option (S ⊕ R)} {f : S → Option R} {Q : R → Prop} : Ok (bindS m f) Q ↔ Ok m fun r => match r with | .inl s => Ok (f s) Q | .inr r => Q r := by
  cases m with
  | none => simp [bindS]
  | some r => cases r <;> simp [bindS]

def getV (bs : List Int) : AV := .tup [.i .u64 (getGo 0 bs).1, .i .i64 (getGo 0 bs).2.1, .i .i64 (getGo 0 bs).2.2]

theorem bytes_get {bs : List Int} (hb : Bytes bs) {i : Nat} (hi : i < bs.length) : 0 ≤ bs[i] ∧ bs[i] < 256 := hb _ (List.getElem_mem hi)
theorem map_get {k : IntKind} {bs : List Int} {i : Nat} (hi : i < bs.length) : (bs.map (AV.i k))[i]? = some (.i k bs[i]) := by simp [hi]
theorem inr_fix {A B : Type} {a : A} {f : A → B} : (some a).map f = some (f a) := rfl

theorem get_ok {σ : AH O} {a : SA} {n : Nat} {bs : List Int} (hr : Rd σ 1 a n (bs.map (AV.i .u8))) (hb : Bytes bs) (hn : n ≤ 10000000000000) : Ok (varint_Get [.sl a n] σ) fun r => r = (getV bs, σ) := by
  have hl : bs.length = n := by have := hr.len; simpa using this
  simp only [varint_Get, len0, len1, len2, len3, len4, len5, get0, get1, get2, get3, get4, get5, Ok_bind, Ok_some, Ok_none, Ok_bif, asI_i, asB_b, asS_s, asP_p, asPS_p, asSl_sl, decide_eq_true_eq, asTup2, asTup3, asTup4, joinB, joinI, beq_true, beq_false, Bool.not_true, Bool.not_false, Bool.not_not, cond_true, cond_false, Int.toNat_natCast, Option.map_some, decNN, Bool.and_true, Bool.true_and, Ok_bindS]
  refine Ok.mono (Q := fun r : (List AV × AH O) ⊕ (AV × AH O) => match r with | .inl s => s.2 = σ ∧ getV bs = .tup [.i .u64 0, .i .i64 0, .i .i64 6] | .inr r => r = (getV bs, σ))
    (Ok.loop (fun m (s : List AV × AH O) => ∃ (i : Nat) (w : Int), s = ([.i .u64 w, .i .i64 i], σ) ∧ m = n - i ∧ i ≤ n ∧ i ≤ 10 ∧ 0 ≤ w ∧ w < ((2 ^ min (7 * i) 64 : Nat) : Int) ∧
        getV bs = (if (getGo i (bs.drop i)).2.2 = 0 then .tup [.i .u64 (w + (getGo i (bs.drop i)).1 * 2 ^ (7 * i)), .i .i64 (getGo i (bs.drop i)).2.1, .i .i64 0] else .tup [.i .u64 0, .i .i64 0, .i .i64 (getGo i (bs.drop i)).2.2])) ?_ n _ ⟨0, 0, rfl, rfl, by omega, by omega, by omega, by simp, ?_⟩) ?_
  · rintro m s ⟨i, w, rfl, rfl, hi, hi10, h1, h2, h3⟩
    simp only [len0, len1, len2, len3, len4, len5, get0, get1, get2, get3, get4, get5, Ok_bind, Ok_some, Ok_none, Ok_bif, asI_i, asB_b, asS_s, asP_p, asPS_p, asSl_sl, decide_eq_true_eq, asTup2, asTup3, asTup4, joinB, joinI, beq_true, beq_false, Bool.not_true, Bool.not_false, Bool.not_not, cond_true, cond_false, Int.toNat_natCast, Option.map_some, decNN, Bool.and_true, Bool.true_and]
    by_cases hin : (i : Int) < (n : Int)
    · have hi' : i < bs.length := by omega
      have hc := bytes_get hb hi'
      rw [if_pos hin, if_pos (by simp; omega)]
      refine hr.get1 (i := i) (map_get hi') ?_
      simp only [len0, len1, len2, len3, len4, len5, get0, get1, get2, get3, get4, get5, Ok_bind, Ok_some, Ok_none, Ok_bif, asI_i, asB_b, asS_s, asP_p, asPS_p, asSl_sl, decide_eq_true_eq, asTup2, asTup3, asTup4, joinB, joinI, beq_true, beq_false, Bool.not_true, Bool.not_false, Bool.not_not, cond_true, cond_false, Int.toNat_natCast, Option.map_some, decNN, Bool.and_true, Bool.true_and, andNot_u8 (bytes_get hb hi'), and_u8_128 (bytes_get hb hi')]
      have hd : bs.drop i = bs[i] :: bs.drop (i + 1) := List.drop_eq_getElem_cons hi'
      rw [hd] at h3
      generalize bs[i] = c at *
      have e1 : IntKind.u64.wrap (c % 128) = c % 128 := u64_id (by omega) (by omega)
      have e2 : IntKind.i64.wrap (7 * (i : Int)) = 7 * (i : Int) := i64_id (by omega) (by omega)
      have e3 : (7 * (i : Int)).toNat = 7 * i := by omega
      have e4 : IntKind.i64.wrap ((i : Int) + 1) = ((i + 1 : Nat) : Int) := by rw [i64_id (by omega) (by omega)]; rfl
      rw [e1, e2, e3, e4]
      by_cases h7 : i = 10 ∨ (i = 9 ∧ 1 < c % 128)
      · have hcond : (bif !bif (i : Int) == 9 then decide (c % 128 > 1) else false then (i : Int) == 10 else true) = true := by
          rcases h7 with rfl | ⟨rfl, h7⟩
          · rfl
          · simp; omega
        rw [if_pos hcond, h3]
        simp only [getGo, if_pos h7]
        rfl
      · have hcond : ¬ (bif !bif (i : Int) == 9 then decide (c % 128 > 1) else false then (i : Int) == 10 else true) = true := by
          rw [not_or] at h7
          by_cases h9 : i = 9
          · subst h9
            have : ¬ 1 < c % 128 := fun e => h7.2 ⟨rfl, e⟩
            simp [show decide (c % 128 > 1) = false by simpa using this]
          · have : ((i : Int) == 9) = false := by simp; omega
            rw [this]; simp; omega
        rw [if_neg hcond, if_neg (by omega)]
        have hi9 : i ≤ 9 := by omega
        have hp : (c % 128).toNat < (if i = 9 then 2 else 128) := by split <;> omega
        have hmin : min (7 * i) 64 = 7 * i := by omega
        have hk : ((c % 128).toNat + 1) * 2 ^ (7 * i) ≤ 18446744073709551616 := by
          by_cases h9 : i = 9
          · subst h9
            simp only [if_true] at hp
            have : (2 : Nat) ^ (7 * 9) = 9223372036854775808 := rfl
            rw [this]; omega
          · rw [if_neg h9] at hp
            have h5 : (2 : Nat) ^ (7 * i) ≤ 2 ^ 56 := Nat.pow_le_pow_right (by omega) (by omega)
            have h6 : ((c % 128).toNat + 1) * 2 ^ (7 * i) ≤ 128 * 2 ^ 56 := Nat.mul_le_mul (by omega) h5
            have : (128 : Nat) * 2 ^ 56 = 9223372036854775808 := rfl
            omega
        rw [hmin] at h2
        have hcast : (2 : Int) ^ (7 * i) = ((2 ^ (7 * i) : Nat) : Int) := by push_cast; rfl
        have hpn : (c % 128) * 2 ^ (7 * i) = (((c % 128).toNat * 2 ^ (7 * i) : Nat) : Int) := by push_cast; rw [Int.toNat_of_nonneg (by omega)]
        have hk' : (c % 128).toNat * 2 ^ (7 * i) + 2 ^ (7 * i) ≤ 18446744073709551616 := by rw [← Nat.succ_mul]; exact hk
        have hpos : 0 < 2 ^ (7 * i) := Nat.two_pow_pos _
        have e5 : IntKind.u64.wrap (c % 128 * 2 ^ min (7 * i) 64) = c % 128 * 2 ^ (7 * i) := by
          rw [hmin]; exact u64_id (by rw [hpn]; omega) (by rw [hpn]; omega)
        rw [e5, or_high h1 h2 (by omega) hk]
        simp only [getGo, if_neg h7] at h3
        by_cases h8 : c < 128
        · rw [if_pos h8, if_neg (by simp)]
          simp only [if_neg (show ¬ (128 : Int) ≤ c by omega)] at h3
          by_cases h0 : c = 0 ∧ 0 < i
          · simp only [if_pos h0] at h3
            rw [if_pos (by obtain ⟨rfl, h0⟩ := h0; have : decide ((i : Int) > 0) = true := by simp; omega
                           rw [this]; rfl), h3]
            rfl
          · simp only [if_neg h0, if_true] at h3
            rw [if_neg, h3]
            · have : c % 128 = c := by omega
              rw [this]; rfl
            · intro e
              apply h0
              cases hi0 : decide ((i : Int) > 0) with
              | false => rw [hi0] at e; cases e
              | true =>
                rw [hi0] at e
                exact ⟨by simpa using e, by simp at hi0; omega⟩
        · rw [if_neg h8, if_pos (by rfl)]
          simp only [if_pos (show (128 : Int) ≤ c by omega)] at h3
          refine ⟨n - (i + 1), by omega, i + 1, _, rfl, rfl, by omega, by omega, by rw [hpn]; omega, ?_, ?_⟩
          · rw [hpn]
            by_cases h9 : i = 9
            · subst h9
              have : (2 : Nat) ^ min (7 * (9 + 1)) 64 = 18446744073709551616 := rfl
              rw [this]; omega
            · have : min (7 * (i + 1)) 64 = 7 * i + 7 := by omega
              rw [this, Nat.pow_add]
              rw [if_neg h9] at hp
              have h6 : ((c % 128).toNat + 1) * 2 ^ (7 * i) ≤ 128 * 2 ^ (7 * i) := Nat.mul_le_mul_right _ (by omega)
              rw [Nat.succ_mul] at h6
              omega
          · rw [h3]
            by_cases he : (getGo (i + 1) (bs.drop (i + 1))).2.2 = 0
            · simp only [he, if_true]
              congr 3
              rw [show 7 * (i + 1) = 7 * i + 7 by omega, Int.pow_add]
              generalize (2 : Int) ^ (7 * i) = P
              generalize (getGo (i + 1) (List.drop (i + 1) bs)).1 = W
              rw [Int.add_mul, Int.add_assoc]
              congr 2
              rw [Int.mul_assoc, Int.mul_comm W P, ← Int.mul_assoc, Int.mul_comm 128 P, Int.mul_comm (P * 128) W]
              rw [show (2 : Int) ^ 7 = 128 from rfl]
            · simp only [he, if_false]
    · rw [if_neg hin]
      have hd : bs.drop i = [] := List.drop_eq_nil_of_le (by omega)
      rw [hd] at h3
      exact ⟨trivial, h3⟩
  · rw [List.drop_zero]
    unfold getV
    split
    · rename_i h; simp [h]
    · rename_i h
      obtain ⟨g1, g2⟩ := getGo_err bs 0 h
      rw [g1, g2]
  · rintro (s | r) h
    · simp only [len0, len1, len2, len3, len4, len5, get0, get1, get2, get3, get4, get5, Ok_bind, Ok_some, Ok_none, Ok_bif, asI_i, asB_b, asS_s, asP_p, asPS_p, asSl_sl, decide_eq_true_eq, asTup2, asTup3, asTup4, joinB, joinI, beq_true, beq_false, Bool.not_true, Bool.not_false, Bool.not_not, cond_true, cond_false, Int.toNat_natCast, Option.map_some, decNN, Bool.and_true, Bool.true_and]
      obtain ⟨h1, h2⟩ := h
      rw [h1, h2]
    · exact h

/-- the number in the first bytes -/
def low (bs : List Int) : Nat → Int
  | 0 => 0
  | i + 1 => low bs i + bs.getD i 0 % 128 * 2 ^ (7 * i)
theorem low_nonneg (bs : List Int) : ∀ i, 0 ≤ low bs i
  | 0 => Int.le_refl _
  | i + 1 => by
    have := low_nonneg bs i
    have h1 : 0 ≤ bs.getD i 0 % 128 * 2 ^ (7 * i) := Int.mul_nonneg (by omega) (Int.le_of_lt (Int.pow_pos (by omega)))
    simp only [low]; omega

theorem refGet_ok {σ : AH O} {a : SA} {n : Nat} {bs : List Int} (hr : Rd σ 1 a n (bs.map (AV.i .u8))) (hb : Bytes bs) (hn : n ≤ 10000000000000) : Ok (haymowref05_Get [.sl a n] σ) fun r => r = (getV bs, σ) := by
  have hl : bs.length = n := by have := hr.len; simpa using this
  simp only [haymowref05_Get, len0, len1, len2, len3, len4, len5, get0, get1, get2, get3, get4, get5, Ok_bind, Ok_some, Ok_none, Ok_bif, asI_i, asB_b, asS_s, asP_p, asPS_p, asSl_sl, decide_eq_true_eq, asTup2, asTup3, asTup4, joinB, joinI, beq_true, beq_false, Bool.not_true, Bool.not_false, Bool.not_not, cond_true, cond_false, Int.toNat_natCast, Option.map_some, decNN, Bool.and_true, Bool.true_and, Ok_bindS]
  refine Ok.mono (Q := fun r : (List AV × AH O) ⊕ (AV × AH O) => match r with | .inl s => s.2 = σ ∧ getV bs = .tup [.i .u64 0, .i .i64 0, .i .i64 6] | .inr r => r = (getV bs, σ))
    (Ok.loop (fun m (s : List AV × AH O) => ∃ (i : Nat), s = ([.i .i64 i], σ) ∧ m = n - i ∧ i ≤ n ∧ i ≤ 10 ∧
        getGo 0 bs = (if (getGo i (bs.drop i)).2.2 = 0 then (low bs i + (getGo i (bs.drop i)).1 * 2 ^ (7 * i), (getGo i (bs.drop i)).2.1, 0) else (0, 0, (getGo i (bs.drop i)).2.2))) ?_ n _ ⟨0, rfl, rfl, by omega, by omega, ?_⟩) ?_
  · rintro m s ⟨i, rfl, rfl, hi, hi10, h3⟩
    by_cases hin : (i : Int) < (n : Int)
    · have hi' : i < bs.length := by omega
      have hc := bytes_get hb hi'
      have hd : bs.drop i = bs[i] :: bs.drop (i + 1) := List.drop_eq_getElem_cons hi'
      rw [hd] at h3
      have hg : bs.getD i 0 = bs[i] := by simp [List.getD, hi']
      have hbound : (decide (0 ≤ (i : Int)) && decide ((i : Int) < (n : Int))) = true := by simp; omega
      have e4 : IntKind.i64.wrap ((i : Int) + 1) = ((i + 1 : Nat) : Int) := by rw [i64_id (by omega) (by omega)]; rfl
      have et : Int.tmod bs[i] 128 = bs[i] % 128 := Int.tmod_eq_emod_of_nonneg hc.1
      have hl1 := fun {B : Type} (f : AV → Option B) => hr.ld1 (map_get (k := .u8) hi') f
      simp only [len0, len1, len2, len3, len4, len5, get0, get1, get2, get3, get4, get5, Option.bind_some, asI_i, asB_b, asS_s, asP_p, asPS_p, asSl_sl, asTup2, asTup3, asTup4, joinB, joinI, beq_true, beq_false, Bool.not_true, Bool.not_false, Bool.not_not, cond_true, cond_false, neI, Int.toNat_natCast, Option.map_some, bindS_inl, bindS_inr, decNN, Bool.and_true, Bool.true_and, decide_true, decide_false, hin, hl1, et, e4]
      by_cases h7 : i = 10 ∨ (i = 9 ∧ 1 < bs[i] % 128)
      · have hcond : (bif !(i : Int) == 10 then bif (i : Int) == 9 then decide (bs[i] % 128 > 1) else false else true) = true := by
          rcases h7 with h7 | ⟨h7, h8⟩
          · have : ((i : Int) == 10) = true := by simp; omega
            rw [this]; rfl
          · have : ((i : Int) == 10) = false := by simp; omega
            have h9 : ((i : Int) == 9) = true := by simp; omega
            rw [this, h9]; simpa using h8
        rw [hcond]
        refine Ok_some.2 ?_
        simp only [getGo, if_pos h7] at h3
        unfold getV
        rw [h3]; rfl
      · have hcond : (bif !(i : Int) == 10 then bif (i : Int) == 9 then decide (bs[i] % 128 > 1) else false else true) = false := by
          rw [not_or] at h7
          have : ((i : Int) == 10) = false := by simp; omega
          rw [this]
          by_cases h9 : i = 9
          · have h10 : ((i : Int) == 9) = true := by simp; omega
            have : ¬ 1 < bs[i] % 128 := fun e => h7.2 ⟨h9, e⟩
            rw [h10]; simpa using this
          · have h10 : ((i : Int) == 9) = false := by simp; omega
            rw [h10]; rfl
        rw [hcond]
        simp only [getGo, if_neg h7] at h3
        by_cases h8 : bs[i] > 127
        · simp only [len0, len1, len2, len3, len4, len5, get0, get1, get2, get3, get4, get5, Option.bind_some, asI_i, asB_b, asS_s, asP_p, asPS_p, asSl_sl, asTup2, asTup3, asTup4, joinB, joinI, beq_true, beq_false, Bool.not_true, Bool.not_false, Bool.not_not, cond_true, cond_false, neI, Int.toNat_natCast, Option.map_some, bindS_inl, bindS_inr, decNN, Bool.and_true, Bool.true_and, decide_true, decide_false, h8]
          simp only [if_pos (show (128 : Int) ≤ bs[i] by omega)] at h3
          refine Ok_some.2 ⟨n - (i + 1), by omega, i + 1, rfl, rfl, by omega, by omega, ?_⟩
          rw [h3]
          by_cases he : (getGo (i + 1) (bs.drop (i + 1))).2.2 = 0
          · simp only [he, if_true]
            refine Prod.ext ?_ rfl
            simp only [low, hg]
            rw [show 7 * (i + 1) = 7 * i + 7 by omega, Int.pow_add]
            generalize (2 : Int) ^ (7 * i) = P
            generalize (getGo (i + 1) (List.drop (i + 1) bs)).1 = W
            rw [Int.add_mul, Int.add_assoc]
            congr 2
            rw [Int.mul_assoc, Int.mul_comm W P, ← Int.mul_assoc, Int.mul_comm 128 P, Int.mul_comm (P * 128) W]
            rw [show (2 : Int) ^ 7 = 128 from rfl]
          · simp only [he, if_false]
        · simp only [len0, len1, len2, len3, len4, len5, get0, get1, get2, get3, get4, get5, Option.bind_some, asI_i, asB_b, asS_s, asP_p, asPS_p, asSl_sl, asTup2, asTup3, asTup4, joinB, joinI, beq_true, beq_false, Bool.not_true, Bool.not_false, Bool.not_not, cond_true, cond_false, neI, Int.toNat_natCast, Option.map_some, bindS_inl, bindS_inr, decNN, Bool.and_true, Bool.true_and, decide_true, decide_false, h8]
          simp only [if_neg (show ¬ (128 : Int) ≤ bs[i] by omega)] at h3
          by_cases h0 : bs[i] = 0 ∧ 0 < i
          · simp only [if_pos h0] at h3
            have hc0 : (bif bs[i] == 0 then decide ((i : Int) > 0) else false) = true := by
              rw [h0.1]; simp; omega
            rw [hc0]
            refine Ok_some.2 ?_
            unfold getV
            rw [h3]; rfl
          · simp only [if_neg h0, if_true] at h3
            have hc0 : (bif bs[i] == 0 then decide ((i : Int) > 0) else false) = false := by
              cases hx : bs[i] == 0 with
              | false => rfl
              | true =>
                have : ¬ 0 < i := fun e => h0 ⟨by simpa using hx, e⟩
                simp; omega
            rw [hc0]
            simp only [cond_false]
            -- the word, from its last byte on
            have htot := getGo_ok bs 0 (by omega) hb (by rw [h3])
            rw [h3] at htot
            have hlt := htot.2.2.1
            have hbm : bs[i] % 128 = bs[i] := by omega
            have hlow : low bs (i + 1) = low bs i + bs[i] * 2 ^ (7 * i) := by simp only [low, hg, hbm]
            simp only [← hlow] at hlt h3
            simp only [Nat.mul_zero, Nat.sub_zero] at hlt
            have hlt' : low bs (i + 1) < 18446744073709551616 := hlt
            refine Ok.step (Q := fun r : List AV × AH O => r = ([.i .u64 (low bs (i + 1))], σ)) (Ok.loop (fun m (s : List AV × AH O) => ∃ (k : Nat) (w : Int), s = ([.i .u64 w, .i .i64 ((k : Int) - 1)], σ) ∧ m = k ∧ k ≤ i + 1 ∧ 0 ≤ w ∧ w * 2 ^ (7 * k) + low bs k = low bs (i + 1)) ?_ (i + 1) _ ⟨i + 1, 0, by simp, rfl, by omega, by omega, by simp⟩) ?_
            · rintro m s ⟨k, w, rfl, hm, hk, hw, h5⟩
              cases k with
              | zero =>
                have : decide (((0 : Nat) : Int) - 1 ≥ 0) = false := by decide
                simp only [len0, len1, len2, len3, len4, len5, get0, get1, get2, get3, get4, get5, Option.bind_some, asI_i, asB_b, asS_s, asP_p, asPS_p, asSl_sl, asTup2, asTup3, asTup4, joinB, joinI, beq_true, beq_false, Bool.not_true, Bool.not_false, Bool.not_not, cond_true, cond_false, neI, Int.toNat_natCast, Option.map_some, bindS_inl, bindS_inr, decNN, Bool.and_true, Bool.true_and, decide_true, decide_false, this]
                simp only [Nat.mul_zero, Int.pow_zero, Int.mul_one, low, Int.add_zero] at h5
                rw [h5]
                exact Ok_some.2 rfl
              | succ k =>
                have hk' : k < bs.length := by omega
                have ek : (((k + 1 : Nat) : Int) - 1) = (k : Int) := by omega
                have hck := bytes_get hb hk'
                have hgk : bs.getD k 0 = bs[k] := by simp [List.getD, hk']
                have hkn : ((k : Int) < (n : Int)) := by omega
                have hl2 := fun {B : Type} (f : AV → Option B) => hr.ld1 (map_get (k := .u8) hk') f
                have ge0 : decide ((k : Int) ≥ 0) = true := by simp
                simp only [ek, len0, len1, len2, len3, len4, len5, get0, get1, get2, get3, get4, get5, Option.bind_some, asI_i, asB_b, asS_s, asP_p, asPS_p, asSl_sl, asTup2, asTup3, asTup4, joinB, joinI, beq_true, beq_false, Bool.not_true, Bool.not_false, Bool.not_not, cond_true, cond_false, neI, Int.toNat_natCast, Option.map_some, bindS_inl, bindS_inr, decNN, Bool.and_true, Bool.true_and, decide_true, decide_false, ge0, hkn, hl2]
                have hP : (0 : Int) < 2 ^ (7 * k) := Int.pow_pos (by omega)
                have hlk1 : low bs (k + 1) = low bs k + bs[k] % 128 * 2 ^ (7 * k) := by simp only [low, hgk]
                rw [hlk1] at h5
                rw [show 7 * (k + 1) = 7 * k + 7 by omega, Int.pow_add, show (2 : Int) ^ 7 = 128 from rfl] at h5
                have hlk := low_nonneg bs k
                have h6 : (w * 128 + bs[k] % 128) * 2 ^ (7 * k) + low bs k = low bs (i + 1) := by
                  rw [← h5, Int.add_mul, Int.mul_assoc, Int.mul_comm 128]
                  omega
                have h7 : w * 128 + bs[k] % 128 < 18446744073709551616 := by
                  have : (w * 128 + bs[k] % 128) * 1 ≤ (w * 128 + bs[k] % 128) * 2 ^ (7 * k) := Int.mul_le_mul_of_nonneg_left (by omega) (by omega)
                  omega
                have e5 : IntKind.u64.wrap (IntKind.u64.wrap (w * 128) + Int.tmod (IntKind.u64.wrap bs[k]) 128) = w * 128 + bs[k] % 128 := by
                  rw [u64_id (n := bs[k]) (by omega) (by omega), Int.tmod_eq_emod_of_nonneg (by omega), u64_id (n := w * 128) (by omega) (by omega), u64_id (by omega) (by omega)]
                rw [e5, i64_id (by omega) (by omega)]
                exact Ok_some.2 ⟨k, by omega, k, _, rfl, rfl, by omega, by omega, h6⟩
            · rintro r rfl
              simp only [len0, len1, len2, len3, len4, len5, get0, get1, get2, get3, get4, get5, Option.bind_some, asI_i, asB_b, asS_s, asP_p, asPS_p, asSl_sl, asTup2, asTup3, asTup4, joinB, joinI, beq_true, beq_false, Bool.not_true, Bool.not_false, Bool.not_not, cond_true, cond_false, neI, Int.toNat_natCast, Option.map_some, bindS_inl, bindS_inr, decNN, Bool.and_true, Bool.true_and, decide_true, decide_false]
              refine Ok_some.2 ?_
              unfold getV
              rw [h3]; rfl
    · simp only [len0, len1, len2, len3, len4, len5, get0, get1, get2, get3, get4, get5, Option.bind_some, asI_i, asB_b, asS_s, asP_p, asPS_p, asSl_sl, asTup2, asTup3, asTup4, joinB, joinI, beq_true, beq_false, Bool.not_true, Bool.not_false, Bool.not_not, cond_true, cond_false, neI, Int.toNat_natCast, Option.map_some, bindS_inl, bindS_inr, decNN, Bool.and_true, Bool.true_and, decide_true, decide_false, hin, decide_false]
      have hd : bs.drop i = [] := List.drop_eq_nil_of_le (by omega)
      rw [hd] at h3
      refine Ok_some.2 ⟨rfl, ?_⟩
      unfold getV
      rw [h3]; rfl
  · rw [List.drop_zero]
    split
    · rename_i h
      simp only [low]
      refine Prod.ext (by simp) (Prod.ext rfl h)
    · rename_i h
      obtain ⟨g1, g2⟩ := getGo_err bs 0 h
      exact Prod.ext g1 (Prod.ext g2 rfl)
  · rintro (s | r) h
    · simp only [len0, len1, len2, len3, len4, len5, get0, get1, get2, get3, get4, get5, Ok_bind, Ok_some, Ok_none, Ok_bif, asI_i, asB_b, asS_s, asP_p, asPS_p, asSl_sl, decide_eq_true_eq, asTup2, asTup3, asTup4, joinB, joinI, beq_true, beq_false, Bool.not_true, Bool.not_false, Bool.not_not, cond_true, cond_false, Int.toNat_natCast, Option.map_some, decNN, Bool.and_true, Bool.true_and]
      obtain ⟨h1, h2⟩ := h
      rw [h1, h2]
    · exact h
end Go.Abs.Try
