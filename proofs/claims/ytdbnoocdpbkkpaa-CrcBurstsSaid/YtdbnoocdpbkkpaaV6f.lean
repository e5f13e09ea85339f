/-
  The functions of layer 6: checksums: bursts.
-/
import Derived.Test.YtdbnoocdpbkkpaaV6e
set_option linter.unusedVariables false
set_option linter.unusedSimpArgs false
set_option linter.unusedSimpArgs false
namespace Go.Abs.Try
open Go Go.Abs Go.Abs.Crc
variable {O : Type}

/-- bit j of bytes -/
def bitAt (xs : List Int) (j : Nat) : Bool := (xs.getD (j / 8) 0).toNat.testBit (7 - j % 8)
theorem bitsB_get : ∀ (xs : List Int) (j : Nat), j < 8 * xs.length → (bitsB xs)[j]? = some (bitAt xs j)
  | [], j, h => by simp at h
  | c :: xs, j, h => by
    show (bits8 c.toNat ++ bitsB xs)[j]? = _
    by_cases hj : j < 8
    · rw [List.getElem?_append_left (by simp [bits8]; omega)]
      have h1 := bits8_get c.toNat j hj
      have h2 : j < (bits8 c.toNat).length := by simp [bits8]; exact hj
      simp only [List.getD, List.getElem?_eq_getElem h2, Option.getD_some] at h1
      rw [List.getElem?_eq_getElem h2, h1]
      unfold bitAt
      have e : j / 8 = 0 := by omega
      have e' : j % 8 = j := by omega
      rw [e, e']; rfl
    · have h8 : (bits8 c.toNat).length = 8 := by simp [bits8]
      rw [List.getElem?_append_right (by omega), h8, bitsB_get xs (j - 8) (by simp at h; omega)]
      unfold bitAt
      have e : j / 8 = (j - 8) / 8 + 1 := by omega
      have e' : j % 8 = (j - 8) % 8 := by omega
      rw [e, e']; rfl
/-- the bits that are turned -/
def turned (at_ : Nat) (w : W) (i : Nat) (j : Nat) : Bool := decide (at_ ≤ j ∧ j < at_ + i) && w.getLsbD (63 - (j - at_))
theorem flip8 : ∀ (r : Fin 8) (k : Fin 8), (128 / 2 ^ r.val : Nat).testBit (7 - k.val) = decide (k.val = r.val) := by decide

theorem fdiv128 (r : Nat) : Int.fdiv 128 (2 ^ r) = ((128 / 2 ^ r : Nat) : Int) := by
  rw [Int.fdiv_eq_ediv_of_nonneg _ (Int.le_of_lt (Int.pow_pos (by omega))), Int.natCast_ediv, Int.natCast_pow]; rfl
theorem tdiv8 {q : Nat} (h : q < 100000000) : IntKind.i64.wrap (Int.tdiv (q : Int) 8) = ((q / 8 : Nat) : Int) := by
  rw [Int.tdiv_eq_ediv_of_nonneg (by omega), i64_id (by omega) (by omega)]; omega
theorem tmod8 {q : Nat} : IntKind.u64.wrap (Int.tmod (q : Int) 8) = ((q % 8 : Nat) : Int) := by
  rw [Int.tmod_eq_emod_of_nonneg (by omega), u64_id (by omega) (by omega)]; omega
theorem turned_step (at_ : Nat) (w : W) (i j : Nat) : turned at_ w (i + 1) j = (turned at_ w i j ^^ (decide (j = at_ + i) && w.getLsbD (63 - i))) := by
  unfold turned
  by_cases hj : j = at_ + i
  · subst hj
    have e : at_ + i - at_ = i := by omega
    have h1 : (at_ ≤ at_ + i ∧ at_ + i < at_ + (i + 1)) := by omega
    have h2 : ¬ (at_ ≤ at_ + i ∧ at_ + i < at_ + i) := by omega
    simp [e, h1, h2]
  · have : (at_ ≤ j ∧ j < at_ + (i + 1)) ↔ (at_ ≤ j ∧ j < at_ + i) := by omega
    simp [hj, this]
theorem turned_zero (at_ : Nat) (w : W) (j : Nat) : turned at_ w 0 j = false := by
  unfold turned
  rw [decide_eq_false (by omega)]; rfl
/-- a byte, one bit of it turned -/
theorem bitAt_set {xs : List Int} {q j : Nat} {z : Nat} (hq : q / 8 < xs.length) (hfl : ∀ k : Fin 8, z.testBit (7 - k.val) = decide (k.val = q % 8)) :
    bitAt (xs.set (q / 8) ((xs[q / 8].toNat ^^^ z : Nat) : Int)) j = (bitAt xs j ^^ decide (j = q)) := by
  unfold bitAt
  by_cases hjq : j / 8 = q / 8
  · have hg : (xs.set (q / 8) ((xs[q / 8].toNat ^^^ z : Nat) : Int)).getD (j / 8) 0 = ((xs[q / 8].toNat ^^^ z : Nat) : Int) := by
      rw [hjq]; simp [List.getD, hq]
    have hg' : xs.getD (j / 8) 0 = xs[q / 8] := by rw [hjq]; simp [List.getD, hq]
    rw [hg, hg', Int.toNat_natCast, Nat.testBit_xor]
    congr 1
    have := hfl ⟨j % 8, by omega⟩
    simp only at this
    rw [this]
    have : (j % 8 = q % 8) ↔ j = q := by omega
    simp [this]
  · have hg : (xs.set (q / 8) ((xs[q / 8].toNat ^^^ z : Nat) : Int)).getD (j / 8) 0 = xs.getD (j / 8) 0 := by
      simp only [List.getD]
      rw [List.getElem?_set_ne (by omega)]
    have : ¬ j = q := by omega
    rw [hg]
    simp [this]

theorem refTurn_ok {a : SA} {n at_ : Nat} {w : W} {bs : List Int} {σ : AH O} (hr : Rd σ 1 a n (bs.map (AV.i .u8))) (hb : Bytes bs) (hn : n ≤ 1000000) (hat : at_ ≤ 8 * n) :
    Ok (haymowref06_Turn [.sl a n, .i .i64 at_, .i .u64 (wI w)] σ) fun r => Ext σ r.2 ∧ ∃ a' xs, r.1 = .sl a' n ∧ Rd r.2 1 a' n (xs.map (AV.i .u8)) ∧ Bytes xs ∧ xs.length = n ∧ ∀ j, j < 8 * n → bitAt xs j = (bitAt bs j ^^ turned at_ w 64 j) := by
  have hl : bs.length = n := by have := hr.len; simpa using this
  simp only [haymowref06_Turn, len0, len1, len2, len3, len4, len5, get0, get1, get2, get3, get4, get5, Option.bind_some, asI_i, asB_b, asS_s, asP_p, asPS_p, asSl_sl, asTup2, asTup3, asTup4, joinB, joinI, beq_true, beq_false, Bool.not_true, Bool.not_false, Bool.not_not, cond_true, cond_false, neI, Int.toNat_natCast, Option.map_some, bindS_inl, bindS_inr, decNN, Bool.and_true, Bool.true_and, decide_true, decide_false]
  refine copy_bind hr (by omega) (by omega) fun a1 σ1 q1 q2 q3 e1 q5 => ?_
  simp only [len0, len1, len2, len3, len4, len5, get0, get1, get2, get3, get4, get5, Option.bind_some, asI_i, asB_b, asS_s, asP_p, asPS_p, asSl_sl, asTup2, asTup3, asTup4, joinB, joinI, beq_true, beq_false, Bool.not_true, Bool.not_false, Bool.not_not, cond_true, cond_false, neI, Int.toNat_natCast, Option.map_some, bindS_inl, bindS_inr, decNN, Bool.and_true, Bool.true_and, decide_true, decide_false]
  refine Ok.step list_ok fun r ⟨he2, g1, g2, g3⟩ => ?_
  obtain ⟨r1, σ2⟩ := r
  simp only at he2 g1 g2
  subst g1
  simp only [len0, len1, len2, len3, len4, len5, get0, get1, get2, get3, get4, get5, Option.bind_some, asI_i, asB_b, asS_s, asP_p, asPS_p, asSl_sl, asTup2, asTup3, asTup4, joinB, joinI, beq_true, beq_false, Bool.not_true, Bool.not_false, Bool.not_not, cond_true, cond_false, neI, Int.toNat_natCast, Option.map_some, bindS_inl, bindS_inr, decNN, Bool.and_true, Bool.true_and, decide_true, decide_false]
  have hA := q1.ext he2
  have oA := Own.ext q2 q1 he2
  have hlt := fun b o e (h : a1 = SA.loc b o e) => (show b < σ1.next by subst h; exact q1.lt)
  have apL : ∀ b o e o' e', SA.loc σ1.next 0 1 = .loc b o e → a1 ≠ .loc b o' e' := fun b o e o' e' h h' => by
    injection h with h1; have := hlt _ _ _ h'; omega
  refine Ok.step (Q := fun r : List AV × AH O => r.1 = [] ∧ ∃ xs : List Int, Rd r.2 1 a1 n (xs.map (AV.i .u8)) ∧ Own σ.next r.2 5 a1 ∧ But σ2 r.2 a1 ∧ Bytes xs ∧ xs.length = n ∧ ∀ j, j < 8 * n → bitAt xs j = (bitAt bs j ^^ turned at_ w 64 j))
    (Ok.loop (fun k (s : List AV × AH O) => ∃ (i : Nat) (σ' : AH O) (xs : List Int), s = ([.i .i64 i], σ') ∧ k = 64 - i ∧ i ≤ 64 ∧ Rd σ' 1 a1 n (xs.map (AV.i .u8)) ∧ Own σ.next σ' 5 a1 ∧ But σ2 σ' a1 ∧ Bytes xs ∧ xs.length = n ∧ ∀ j, j < 8 * n → bitAt xs j = (bitAt bs j ^^ turned at_ w i j)) ?_ 64 _
      ⟨0, σ2, bs, rfl, rfl, by omega, hA, oA, But.refl _ _, hb, hl, fun j hj => ?_⟩) ?_
  · rintro k s ⟨i, σ', xs, rfl, hk, hi, h3, h4, h5, h6, h7, h8⟩
    have ew : IntKind.i64.wrap ((at_ : Int) + (i : Int)) = ((at_ + i : Nat) : Int) := by rw [i64_id (by omega) (by omega)]; omega
    have e8 : IntKind.i64.wrap (8 * (n : Int)) = ((8 * n : Nat) : Int) := by rw [i64_id (by omega) (by omega)]; omega
    by_cases hgo : i < 64 ∧ at_ + i < 8 * n
    · have d1 : decide ((i : Int) < 64) = true := decide_eq_true (by omega)
      have d2 : decide (((at_ + i : Nat) : Int) < ((8 * n : Nat) : Int)) = true := decide_eq_true (by omega)
      have d3 : decide ((i : Int) < ((64 : Nat) : Int)) = true := decide_eq_true (by omega)
      have f1 := fun {B : Type} (f : AV → Option B) => (Rd.but g2 h5 apL).ld1 (map_getB (bitsW_get hgo.1)) f
      have hstep := turned_step at_ w i
      simp only [len0, len1, len2, len3, len4, len5, get0, get1, get2, get3, get4, get5, Option.bind_some, asI_i, asB_b, asS_s, asP_p, asPS_p, asSl_sl, asTup2, asTup3, asTup4, joinB, joinI, beq_true, beq_false, Bool.not_true, Bool.not_false, Bool.not_not, cond_true, cond_false, neI, Int.toNat_natCast, Option.map_some, bindS_inl, bindS_inr, decNN, Bool.and_true, Bool.true_and, decide_true, decide_false, ew, e8, d1, d2, d3, f1]
      cases hw : w.getLsbD (63 - i) with
      | false =>
        simp only [len0, len1, len2, len3, len4, len5, get0, get1, get2, get3, get4, get5, Option.bind_some, asI_i, asB_b, asS_s, asP_p, asPS_p, asSl_sl, asTup2, asTup3, asTup4, joinB, joinI, beq_true, beq_false, Bool.not_true, Bool.not_false, Bool.not_not, cond_true, cond_false, neI, Int.toNat_natCast, Option.map_some, bindS_inl, bindS_inr, decNN, Bool.and_true, Bool.true_and, decide_true, decide_false]
        rw [i64_id (by omega) (by omega)]
        refine Ok_some.2 ⟨63 - i, by omega, i + 1, σ', xs, rfl, by omega, by omega, h3, h4, h5, h6, h7, fun j hj => ?_⟩
        rw [h8 j hj, hstep j, hw]; simp
      | true =>
        have t1 := tdiv8 (q := at_ + i) (by omega)
        have t2 := tmod8 (q := at_ + i)
        have hq : (at_ + i) / 8 < xs.length := by omega
        have d4 : decide ((((at_ + i) / 8 : Nat) : Int) < (n : Int)) = true := decide_eq_true (by omega)
        have d5 : decide ((((at_ + i) % 8 : Nat) : Int) < 0) = false := decide_eq_false (by omega)
        have hmin : min ((at_ + i) % 8) 8 = (at_ + i) % 8 := by omega
        have f2 := fun {B : Type} (f : AV → Option B) => h3.ld1 (map_get (k := .u8) hq) f
        have hc := bytes_get h6 hq
        have hfd := fdiv128 ((at_ + i) % 8)
        have hle : 128 / 2 ^ ((at_ + i) % 8) ≤ 128 := Nat.div_le_self _ _
        have hfl := flip8 ⟨(at_ + i) % 8, by omega⟩
        simp only at hfl
        generalize 128 / 2 ^ ((at_ + i) % 8) = z at *
        simp only [len0, len1, len2, len3, len4, len5, get0, get1, get2, get3, get4, get5, Option.bind_some, asI_i, asB_b, asS_s, asP_p, asPS_p, asSl_sl, asTup2, asTup3, asTup4, joinB, joinI, beq_true, beq_false, Bool.not_true, Bool.not_false, Bool.not_not, cond_true, cond_false, neI, Int.toNat_natCast, Option.map_some, bindS_inl, bindS_inr, decNN, Bool.and_true, Bool.true_and, decide_true, decide_false, t1, t2, d4, d5, hmin, f2, hfd]
        rw [xor_u8 hc.1 hc.2 (by omega) (by omega), Int.toNat_natCast]
        have hlx := Nat.xor_lt_two_pow (n := 8) (x := xs[(at_ + i) / 8].toNat) (y := z) (by omega) (Nat.lt_of_le_of_lt hle (by omega))
        rw [Ok_bind]
        refine Rd.set1_bind h3 h4 (i := (at_ + i) / 8) (by omega) _ fun σ'' c1 c2 c3 c4 => ?_
        refine Ok_some.2 ?_
        simp only [len0, len1, len2, len3, len4, len5, get0, get1, get2, get3, get4, get5, Option.bind_some, asI_i, asB_b, asS_s, asP_p, asPS_p, asSl_sl, asTup2, asTup3, asTup4, joinB, joinI, beq_true, beq_false, Bool.not_true, Bool.not_false, Bool.not_not, cond_true, cond_false, neI, Int.toNat_natCast, Option.map_some, bindS_inl, bindS_inr, decNN, Bool.and_true, Bool.true_and, decide_true, decide_false]
        rw [i64_id (by omega) (by omega)]
        rw [show (xs.map (AV.i .u8)).set ((at_ + i) / 8) (.i .u8 ((xs[(at_ + i) / 8].toNat ^^^ z : Nat) : Int)) = (xs.set ((at_ + i) / 8) ((xs[(at_ + i) / 8].toNat ^^^ z : Nat) : Int)).map (AV.i .u8) by rw [List.map_set]] at c1
        refine Ok_some.2 ⟨63 - i, by omega, i + 1, σ'', _, rfl, by omega, by omega, c1, c2, h5.trans ⟨c3, c4⟩, fun x hx => ?_, by simp [h7], fun j hj => ?_⟩
        · rcases List.mem_or_eq_of_mem_set hx with hx | rfl
          · exact h6 x hx
          · omega
        · rw [hstep j, hw, Bool.and_true, ← Bool.xor_assoc, ← h8 j hj]
          exact bitAt_set hq hfl
    · have hcond : (bif decide ((i : Int) < 64) then decide (((at_ + i : Nat) : Int) < ((8 * n : Nat) : Int)) else false) = false := by
        by_cases h1 : i < 64
        · have d2 : decide (((at_ + i : Nat) : Int) < ((8 * n : Nat) : Int)) = false := decide_eq_false (by omega)
          rw [d2]; cases decide ((i : Int) < 64) <;> rfl
        · have d1 : decide ((i : Int) < 64) = false := decide_eq_false (by omega)
          rw [d1]; rfl
      simp only [len0, len1, len2, len3, len4, len5, get0, get1, get2, get3, get4, get5, Option.bind_some, asI_i, asB_b, asS_s, asP_p, asPS_p, asSl_sl, asTup2, asTup3, asTup4, joinB, joinI, beq_true, beq_false, Bool.not_true, Bool.not_false, Bool.not_not, cond_true, cond_false, neI, Int.toNat_natCast, Option.map_some, bindS_inl, bindS_inr, decNN, Bool.and_true, Bool.true_and, decide_true, decide_false, ew, e8, hcond]
      refine Ok_some.2 ⟨rfl, xs, h3, h4, h5, h6, h7, fun j hj => ?_⟩
      rw [h8 j hj]
      congr 1
      unfold turned
      have : (at_ ≤ j ∧ j < at_ + i) ↔ (at_ ≤ j ∧ j < at_ + 64) := by omega
      simp only [this]
  · rw [turned_zero, Bool.xor_false]
  · rintro ⟨r1, σ3⟩ ⟨w1, xs, h3, h4, h5, h6, h7, h8⟩
    simp only at w1
    subst w1
    simp only [len0, len1, len2, len3, len4, len5, get0, get1, get2, get3, get4, get5, Option.bind_some, asI_i, asB_b, asS_s, asP_p, asPS_p, asSl_sl, asTup2, asTup3, asTup4, joinB, joinI, beq_true, beq_false, Bool.not_true, Bool.not_false, Bool.not_not, cond_true, cond_false, neI, Int.toNat_natCast, Option.map_some, bindS_inl, bindS_inr, decNN, Bool.and_true, Bool.true_and, decide_true, decide_false]
    exact Ok_some.2 ⟨h5.ext (e1.trans he2) oA, a1, xs, rfl, h3, h6, h7, h8⟩

/-- what a burst leaves of the sum is not nought -/
theorem burst {xs bs : List Int} {n at_ : Nat} {w : W} (hx : Bytes xs) (hb : Bytes bs) (hxl : xs.length = n) (hbl : bs.length = n) (hat : at_ ≤ 8 * n) (h : ∀ j, j < 8 * n → bitAt xs j = (bitAt bs j ^^ turned at_ w 64 j))
    (hc : crc 0#64 (bitsB xs) = crc 0#64 (bitsB bs)) : xs = bs := by
  have hz : List.zipWith xor (bitsB xs) (bitsB bs) = List.replicate at_ false ++ (bitsW w).take (8 * n - at_) ++ List.replicate (8 * n - at_ - 64) false := by
    apply List.ext_getElem?
    intro j
    by_cases hj : j < 8 * n
    · rw [List.getElem?_zipWith, bitsB_get xs j (by omega), bitsB_get bs j (by omega)]
      simp only [h j hj]
      have e : ((bitAt bs j ^^ turned at_ w 64 j) ^^ bitAt bs j) = turned at_ w 64 j := by cases bitAt bs j <;> cases turned at_ w 64 j <;> rfl
      rw [e]
      unfold turned
      by_cases h1 : j < at_
      · rw [List.append_assoc, List.getElem?_append_left (by simpa using h1), List.getElem?_replicate, if_pos h1]
        have : ¬ (at_ ≤ j ∧ j < at_ + 64) := by omega
        simp [this]
      · by_cases h2 : j < at_ + 64
        · rw [List.append_assoc, List.getElem?_append_right (by simp; omega), List.getElem?_append_left (by simp [bitsW_len]; omega), List.getElem?_take, if_pos (by simp; omega), List.length_replicate, bitsW_get (by omega)]
          have : (at_ ≤ j ∧ j < at_ + 64) := by omega
          simp [this]
        · rw [List.getElem?_append_right (by simp [bitsW_len]; omega), List.getElem?_replicate, if_pos (by simp [bitsW_len]; omega)]
          have : ¬ (at_ ≤ j ∧ j < at_ + 64) := by omega
          simp [this]
    · rw [List.getElem?_eq_none (by simp [bitsB_len, hxl, hbl]; omega), List.getElem?_eq_none (by simp [bitsW_len]; omega)]
  have h0 : crc 0#64 (List.zipWith xor (bitsB xs) (bitsB bs)) = 0#64 := by
    have := crc_xor (bitsB xs) (bitsB bs) 0#64 0#64 (by rw [bitsB_len, bitsB_len, hxl, hbl])
    rw [BitVec.xor_self] at this
    rw [this, hc, BitVec.xor_self]
  have hfalse : ∀ b ∈ (bitsW w).take (8 * n - at_), b = false := by
    rw [hz] at h0
    exact crc_burst (by simp [bitsW_len]; omega) h0
  apply bitsB_inj hx hb
  apply List.ext_getElem?
  intro j
  by_cases hj : j < 8 * n
  · rw [bitsB_get xs j (by omega), bitsB_get bs j (by omega), h j hj]
    have : turned at_ w 64 j = false := by
      unfold turned
      by_cases h1 : at_ ≤ j ∧ j < at_ + 64
      · have hm : w.getLsbD (63 - (j - at_)) ∈ (bitsW w).take (8 * n - at_) := by
          apply List.mem_of_getElem? (i := j - at_)
          rw [List.getElem?_take, if_pos (by omega), bitsW_get (by omega)]
        rw [hfalse _ hm]; simp
      · simp [h1]
    rw [this, Bool.xor_false]
  · rw [List.getElem?_eq_none (by rw [bitsB_len]; omega), List.getElem?_eq_none (by rw [bitsB_len]; omega)]

theorem crcBursts_ok {a : SA} {n : Nat} {bs : List Int} {at_ x : Int} {σ : AH O} (hr : Rd σ 1 a n (bs.map (AV.i .u8))) (hb : ∀ x ∈ bs, 0 ≤ x ∧ x < 256) (hat : 0 ≤ at_) (hat' : at_ < 65536) (hx : 0 ≤ x) (hx' : x < 18446744073709551616) :
    Ok (law06_CrcBursts [.sl a n, .i .u16 at_, .i .u64 x] σ) fun r => r.1 = .b true := by
  obtain ⟨w, rfl⟩ : ∃ s : W, x = wI s := ⟨BitVec.ofNat 64 x.toNat, by unfold wI; rw [BitVec.toNat_ofNat]; omega⟩
  simp only [law06_CrcBursts, len0, len1, len2, len3, len4, len5, get0, get1, get2, get3, get4, get5, Option.bind_some, asI_i, asB_b, asS_s, asP_p, asPS_p, asSl_sl, asTup2, asTup3, asTup4, joinB, joinI, beq_true, beq_false, Bool.not_true, Bool.not_false, Bool.not_not, cond_true, cond_false, neI, Int.toNat_natCast, Option.map_some, bindS_inl, bindS_inr, decNN, Bool.and_true, Bool.true_and, decide_true, decide_false]
  refine Ok.step awake6_ok fun r ⟨h1, he1⟩ => ?_
  obtain ⟨r1, σ1⟩ := r
  simp only at h1 he1
  subst h1
  simp only [len0, len1, len2, len3, len4, len5, get0, get1, get2, get3, get4, get5, Option.bind_some, asI_i, asB_b, asS_s, asP_p, asPS_p, asSl_sl, asTup2, asTup3, asTup4, joinB, joinI, beq_true, beq_false, Bool.not_true, Bool.not_false, Bool.not_not, cond_true, cond_false, neI, Int.toNat_natCast, Option.map_some, bindS_inl, bindS_inr, decNN, Bool.and_true, Bool.true_and, decide_true, decide_false]
  refine Ok.step (few_ok (hr.ext he1)) fun r ⟨a1, h2, h3⟩ => ?_
  subst h2
  have hb1 : Bytes (bs.take 300) := fun x hx => hb x (List.mem_of_mem_take hx)
  have hl1 : (bs.take 300).length ≤ 300 := by simp; omega
  generalize bs.take 300 = p at *
  obtain ⟨m, hm⟩ : ∃ m, m = p.length := ⟨_, rfl⟩
  rw [← hm] at h3 hl1 ⊢
  simp only [len0, len1, len2, len3, len4, len5, get0, get1, get2, get3, get4, get5, Option.bind_some, asI_i, asB_b, asS_s, asP_p, asPS_p, asSl_sl, asTup2, asTup3, asTup4, joinB, joinI, beq_true, beq_false, Bool.not_true, Bool.not_false, Bool.not_not, cond_true, cond_false, neI, Int.toNat_natCast, Option.map_some, bindS_inl, bindS_inr, decNN, Bool.and_true, Bool.true_and, decide_true, decide_false]
  refine Ok.step (refSeal_ok h3 hb1 (by omega)) fun r ⟨he2, a2, g1, g2⟩ => ?_
  obtain ⟨r1, σ2⟩ := r
  simp only at he2 g1 g2
  subst g1
  have v1 : IntKind.i64.wrap (IntKind.i64.wrap (8 * (m : Int)) + 1) = ((8 * m + 1 : Nat) : Int) := by rw [i64_id (n := 8 * (m : Int)) (by omega) (by omega), i64_id (by omega) (by omega)]; omega
  have v2 : IntKind.i64.wrap (IntKind.i64.wrap (8 * ((m + 8 : Nat) : Int)) + 1) = ((8 * (m + 8) + 1 : Nat) : Int) := by rw [i64_id (n := 8 * ((m + 8 : Nat) : Int)) (by omega) (by omega), i64_id (by omega) (by omega)]; omega
  have z1 : (((8 * m + 1 : Nat) : Int) == 0) = false := beq_eq_false_iff_ne.2 (by omega)
  have z2 : (((8 * (m + 8) + 1 : Nat) : Int) == 0) = false := beq_eq_false_iff_ne.2 (by omega)
  have wa : IntKind.i64.wrap at_ = at_ := i64_id (by omega) (by omega)
  have t1 : Int.tmod at_ ((8 * m + 1 : Nat) : Int) = ((at_.toNat % (8 * m + 1) : Nat) : Int) := by
    rw [Int.tmod_eq_emod_of_nonneg hat, Int.natCast_emod, Int.toNat_of_nonneg hat]
  have t2 : Int.tmod at_ ((8 * (m + 8) + 1 : Nat) : Int) = ((at_.toNat % (8 * (m + 8) + 1) : Nat) : Int) := by
    rw [Int.tmod_eq_emod_of_nonneg hat, Int.natCast_emod, Int.toNat_of_nonneg hat]
  have l1 : at_.toNat % (8 * m + 1) ≤ 8 * m := by have := Nat.mod_lt at_.toNat (show 0 < 8 * m + 1 by omega); omega
  have l2 : at_.toNat % (8 * (m + 8) + 1) ≤ 8 * (m + 8) := by have := Nat.mod_lt at_.toNat (show 0 < 8 * (m + 8) + 1 by omega); omega
  generalize at_.toNat % (8 * m + 1) = A1 at *
  generalize at_.toNat % (8 * (m + 8) + 1) = A2 at *
  simp only [len0, len1, len2, len3, len4, len5, get0, get1, get2, get3, get4, get5, Option.bind_some, asI_i, asB_b, asS_s, asP_p, asPS_p, asSl_sl, asTup2, asTup3, asTup4, joinB, joinI, beq_true, beq_false, Bool.not_true, Bool.not_false, Bool.not_not, cond_true, cond_false, neI, Int.toNat_natCast, Option.map_some, bindS_inl, bindS_inr, decNN, Bool.and_true, Bool.true_and, decide_true, decide_false, v1, z1, wa, t1]
  refine Ok.step (refTurn_ok (h3.ext he2) hb1 (by omega) l1) fun r ⟨he3, a3, xs, g3, g4, g5, g6, g7⟩ => ?_
  obtain ⟨r1, σ3⟩ := r
  simp only at he3 g3 g4
  subst g3
  simp only [len0, len1, len2, len3, len4, len5, get0, get1, get2, get3, get4, get5, Option.bind_some, asI_i, asB_b, asS_s, asP_p, asPS_p, asSl_sl, asTup2, asTup3, asTup4, joinB, joinI, beq_true, beq_false, Bool.not_true, Bool.not_false, Bool.not_not, cond_true, cond_false, neI, Int.toNat_natCast, Option.map_some, bindS_inl, bindS_inr, decNN, Bool.and_true, Bool.true_and, decide_true, decide_false, v2, z2, wa, t2]
  have hsb : Bytes (sealed p) := sealed_bytes hb1
  have hsl : (sealed p).length = m + 8 := by rw [sealed_len, hm]
  refine Ok.step (refTurn_ok (g2.ext he3) hsb (by omega) l2) fun r ⟨he4, a4, ys, g8, g9, k1, k2, k3⟩ => ?_
  obtain ⟨r1, σ4⟩ := r
  simp only at he4 g8 g9
  subst g8
  simp only [len0, len1, len2, len3, len4, len5, get0, get1, get2, get3, get4, get5, Option.bind_some, asI_i, asB_b, asS_s, asP_p, asPS_p, asSl_sl, asTup2, asTup3, asTup4, joinB, joinI, beq_true, beq_false, Bool.not_true, Bool.not_false, Bool.not_not, cond_true, cond_false, neI, Int.toNat_natCast, Option.map_some, bindS_inl, bindS_inr, decNN, Bool.and_true, Bool.true_and, decide_true, decide_false]
  refine Ok.step (open_ok g9 k1 (by omega)) fun r ⟨he5, k4⟩ => ?_
  obtain ⟨r1, σ5⟩ := r
  simp only at he5 k4
  obtain ⟨a5, m5, n5, k5⟩ : ∃ a5 m5 n5, r1 = .tup [.sl a5 m5, .i .i64 n5] := by
    rcases k4 with ⟨_, h⟩ | ⟨_, _, h⟩ | ⟨_, _, a', h, _⟩ <;> exact ⟨_, _, _, h⟩
  subst k5
  have E25 := (he3.trans he4).trans he5
  have eb : Ext σ5 (σ5.bump 2) := (Ext.refl σ5).bump 2
  have hX := ((g4.ext he4).ext he5).ext eb
  have hP := ((h3.ext he2).ext E25).ext eb
  have hY := (g9.ext he5)
  have hS := g2.ext E25
  -- what is turned is seen in the sum
  have hne : ∀ (K : AV → AH O → Prop), True := fun _ => trivial
  simp only [len0, len1, len2, len3, len4, len5, get0, get1, get2, get3, get4, get5, Option.bind_some, asI_i, asB_b, asS_s, asP_p, asPS_p, asSl_sl, asTup2, asTup3, asTup4, joinB, joinI, beq_true, beq_false, Bool.not_true, Bool.not_false, Bool.not_not, cond_true, cond_false, neI, Int.toNat_natCast, Option.map_some, bindS_inl, bindS_inr, decNN, Bool.and_true, Bool.true_and, decide_true, decide_false, hX.rdSl, hP.rdSl, bytes_ok]
  refine Ok.step (Q := fun r : List AV × AH O => r.1 = [.b false] ∧ Ext σ5 r.2) ?_ ?_
  · by_cases hxb : xs = p
    · rw [hxb]
      simp only [len0, len1, len2, len3, len4, len5, get0, get1, get2, get3, get4, get5, Option.bind_some, asI_i, asB_b, asS_s, asP_p, asPS_p, asSl_sl, asTup2, asTup3, asTup4, joinB, joinI, beq_true, beq_false, Bool.not_true, Bool.not_false, Bool.not_not, cond_true, cond_false, neI, Int.toNat_natCast, Option.map_some, bindS_inl, bindS_inr, decNN, Bool.and_true, Bool.true_and, decide_true, decide_false, beq_self_eq_true]
      exact Ok_some.2 ⟨rfl, eb⟩
    · simp only [len0, len1, len2, len3, len4, len5, get0, get1, get2, get3, get4, get5, Option.bind_some, asI_i, asB_b, asS_s, asP_p, asPS_p, asSl_sl, asTup2, asTup3, asTup4, joinB, joinI, beq_true, beq_false, Bool.not_true, Bool.not_false, Bool.not_not, cond_true, cond_false, neI, Int.toNat_natCast, Option.map_some, bindS_inl, bindS_inr, decNN, Bool.and_true, Bool.true_and, decide_true, decide_false, str_ne g5 hb1 hxb]
      have e1 := eb.put (b := σ5.next) (Nat.le_refl _) (.cells true 32 [.sl a3 m])
      have hX1 : Ext σ3 ((σ5.bump 2).put σ5.next (.cells true 32 [.sl a3 m])) := (he4.trans he5).trans e1
      refine Ok.step (sum1_ok (b := σ5.next) (p := ⟨a3, m, xs⟩) (by simp) (by simp [Part.v]) ⟨g4.ext hX1, g5, by show m ≤ _; omega⟩) fun r hr1 => ?_
      subst hr1
      simp only [len0, len1, len2, len3, len4, len5, get0, get1, get2, get3, get4, get5, Option.bind_some, asI_i, asB_b, asS_s, asP_p, asPS_p, asSl_sl, asTup2, asTup3, asTup4, joinB, joinI, beq_true, beq_false, Bool.not_true, Bool.not_false, Bool.not_not, cond_true, cond_false, neI, Int.toNat_natCast, Option.map_some, bindS_inl, bindS_inr, decNN, Bool.and_true, Bool.true_and, decide_true, decide_false]
      have e2 := e1.put (b := σ5.next + 1) (by omega) (.cells true 32 [.sl a1 m])
      refine Ok.step (sum1_ok (b := σ5.next + 1) (p := ⟨a1, m, p⟩) (by simp) (by simp [Part.v]) ⟨((h3.ext he2).ext E25).ext e2, hb1, by show m ≤ _; omega⟩) fun r hr1 => ?_
      subst hr1
      have : (wI (crc 0#64 (bitsB xs)) == wI (crc 0#64 (bitsB p))) = false := by
        rw [beq_eq_false_iff_ne]
        exact fun e => hxb (burst g5 hb1 g6 hm.symm l1 g7 (wI_inj e))
      simp only [len0, len1, len2, len3, len4, len5, get0, get1, get2, get3, get4, get5, Option.bind_some, asI_i, asB_b, asS_s, asP_p, asPS_p, asSl_sl, asTup2, asTup3, asTup4, joinB, joinI, beq_true, beq_false, Bool.not_true, Bool.not_false, Bool.not_not, cond_true, cond_false, neI, Int.toNat_natCast, Option.map_some, bindS_inl, bindS_inr, decNN, Bool.and_true, Bool.true_and, decide_true, decide_false, this]
      exact Ok_some.2 ⟨rfl, e2⟩
  · rintro ⟨r1, σ6⟩ ⟨w1, he6⟩
    simp only at w1 he6
    subst w1
    simp only [len0, len1, len2, len3, len4, len5, get0, get1, get2, get3, get4, get5, Option.bind_some, asI_i, asB_b, asS_s, asP_p, asPS_p, asSl_sl, asTup2, asTup3, asTup4, joinB, joinI, beq_true, beq_false, Bool.not_true, Bool.not_false, Bool.not_not, cond_true, cond_false, neI, Int.toNat_natCast, Option.map_some, bindS_inl, bindS_inr, decNN, Bool.and_true, Bool.true_and, decide_true, decide_false, (hY.ext he6).rdSl, (hS.ext he6).rdSl, bytes_ok]
    have e8 : m + 8 - 8 = m := by omega
    rw [e8] at k4
    by_cases hys : ys = sealed p
    · have htk : ys.take m = p := by rw [hys, hm, sealed_take]
      rw [htk] at k4
      obtain ⟨a', hh, hrd⟩ : ∃ a', AV.tup [.sl a5 m5, .i .i64 n5] = .tup [.sl a' m, .i .i64 0] ∧ Rd σ5 1 a' m (p.map (AV.i .u8)) := by
        rcases k4 with ⟨h, _⟩ | ⟨_, h, _⟩ | ⟨_, _, h⟩
        · omega
        · exact absurd hys h
        · exact h
      injection hh with hh
      injection hh with hh1 hh2
      injection hh2 with hh2
      injection hh1 with hh0 hh1
      injection hh2 with _ hh2
      subst hh0 hh1 hh2
      rw [hys]
      simp only [len0, len1, len2, len3, len4, len5, get0, get1, get2, get3, get4, get5, Option.bind_some, asI_i, asB_b, asS_s, asP_p, asPS_p, asSl_sl, asTup2, asTup3, asTup4, joinB, joinI, beq_true, beq_false, Bool.not_true, Bool.not_false, Bool.not_not, cond_true, cond_false, neI, Int.toNat_natCast, Option.map_some, bindS_inl, bindS_inr, decNN, Bool.and_true, Bool.true_and, decide_true, decide_false, beq_self_eq_true, (hrd.ext he6).rdSl, ((h3.ext he2).ext (E25.trans he6)).rdSl, bytes_ok]
      exact Ok_some.2 rfl
    · have hbad : ys ≠ sealed (ys.take m) := fun e => hys (by
        have hl8 : (ys.drop m).length = 8 := by simp; omega
        have hb' : Bytes (ys.take m) := fun x hx => k1 x (List.mem_of_mem_take hx)
        have h0 := (own_sum (p := ys.take m) (q := ys.drop m) hb' (Bytes.drop k1 m) hl8).2 (by rw [List.take_append_drop]; exact e)
        rw [← crc_app, ← bitsB_app, List.take_append_drop] at h0
        have h1 : crc 0#64 (bitsB (sealed p)) = 0#64 := by
          unfold sealed
          rw [bitsB_app, crc_app]
          exact (own_sum hb1 (bytesW_bytes _) (bytesW_len _)).2 rfl
        exact burst k1 hsb k2 hsl l2 k3 (by rw [h0, h1]))
      obtain ⟨_, _, hh⟩ : 8 ≤ m + 8 ∧ ys ≠ sealed (ys.take m) ∧ AV.tup [.sl a5 m5, .i .i64 n5] = .tup [.sl .nil 0, .i .i64 60] := by
        rcases k4 with ⟨h, _⟩ | h | ⟨_, h, _⟩
        · omega
        · exact h
        · exact absurd h hbad
      injection hh with hh
      injection hh with hh1 hh2
      injection hh2 with hh2
      injection hh1 with _ hh1
      injection hh2 with _ hh2
      subst hh1 hh2
      simp only [len0, len1, len2, len3, len4, len5, get0, get1, get2, get3, get4, get5, Option.bind_some, asI_i, asB_b, asS_s, asP_p, asPS_p, asSl_sl, asTup2, asTup3, asTup4, joinB, joinI, beq_true, beq_false, Bool.not_true, Bool.not_false, Bool.not_not, cond_true, cond_false, neI, Int.toNat_natCast, Option.map_some, bindS_inl, bindS_inr, decNN, Bool.and_true, Bool.true_and, decide_true, decide_false, str_ne k1 hsb hys]
      exact Ok_some.2 rfl
end Go.Abs.Try
