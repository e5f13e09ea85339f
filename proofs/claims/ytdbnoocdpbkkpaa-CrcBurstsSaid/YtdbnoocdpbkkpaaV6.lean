/-
  Checksums: the arithmetic of bits.
-/
import Derived.Test.YtdbnoocdpbkkpaaAbsSl
set_option linter.unusedVariables false
set_option linter.unusedSimpArgs false
set_option linter.unusedSimpArgs false
namespace Go.Abs.Crc
open Go Go.Abs

abbrev W := BitVec 64
def poly : W := 0x42f0e1eba9ea3693#64
/-- one bit goes through -/
def feed0 (s : W) : W := (s <<< 1) ^^^ (if s.msb then poly else 0#64)
def bitTop (m : Bool) : W := if m then 0x8000000000000000#64 else 0#64
def feed (s : W) (m : Bool) : W := feed0 (s ^^^ bitTop m)
def crc (s : W) (l : List Bool) : W := l.foldl feed s

theorem msb_xor (s t : W) : (s ^^^ t).msb = (s.msb ^^ t.msb) := by simp [BitVec.msb_xor]
theorem feed0_xor (s t : W) : feed0 (s ^^^ t) = feed0 s ^^^ feed0 t := by
  unfold feed0
  rw [msb_xor, BitVec.shiftLeft_xor_distrib]
  have e : ∀ A B p : W, (A ^^^ p) ^^^ (B ^^^ p) = A ^^^ B := fun A B p => by rw [BitVec.xor_assoc, BitVec.xor_comm B p, ← BitVec.xor_assoc p p, BitVec.xor_self, BitVec.zero_xor]
  cases s.msb <;> cases t.msb
  · simp
  · simp only [Bool.false_xor, if_true, Bool.false_eq_true, if_false, BitVec.xor_zero]; ac_rfl
  · simp only [Bool.xor_false, if_true, Bool.false_eq_true, if_false, BitVec.xor_zero]; ac_rfl
  · simp only [Bool.xor_self, if_true, Bool.false_eq_true, if_false, BitVec.xor_zero]; rw [e]
theorem feed0_zero : feed0 0#64 = 0#64 := by decide
theorem feed0_inj {s : W} (h : feed0 s = 0#64) : s = 0#64 := by
  unfold feed0 at h
  have h0 := congrArg (fun x : W => x.getLsbD 0) h
  cases hm : s.msb with
  | true =>
    rw [hm] at h0
    have hp : poly[0] = true := by decide
    simp [BitVec.getLsbD_shiftLeft, hp] at h0
  | false =>
    rw [hm] at h
    simp only [Bool.false_eq_true, if_false, BitVec.xor_zero] at h
    apply BitVec.eq_of_getLsbD_eq
    intro i hi
    have h1 := congrArg (fun x : W => x.getLsbD (i + 1)) h
    by_cases h63 : i = 63
    · subst h63
      rw [BitVec.msb_eq_getLsbD_last] at hm
      simpa using hm
    · simp only [BitVec.getLsbD_shiftLeft, BitVec.getLsbD_zero] at h1
      have : i + 1 < 64 := by omega
      simpa [this] using h1
def feed0N : Nat → W → W
  | 0, s => s
  | n + 1, s => feed0N n (feed0 s)
theorem feed0N_xor : ∀ (n : Nat) (s t : W), feed0N n (s ^^^ t) = feed0N n s ^^^ feed0N n t
  | 0, _, _ => rfl
  | n + 1, s, t => by simp only [feed0N, feed0_xor, feed0N_xor n]
theorem feed0N_zero : ∀ n, feed0N n 0#64 = 0#64
  | 0 => rfl
  | n + 1 => by simp only [feed0N, feed0_zero, feed0N_zero n]
theorem feed0N_inj : ∀ (n : Nat) {s : W}, feed0N n s = 0#64 → s = 0#64
  | 0, _, h => h
  | n + 1, s, h => feed0_inj (feed0N_inj n h)
theorem bitTop_xor (a b : Bool) : bitTop (a ^^ b) = bitTop a ^^^ bitTop b := by cases a <;> cases b <;> decide
theorem feed_xor (s t : W) (a b : Bool) : feed (s ^^^ t) (a ^^ b) = feed s a ^^^ feed t b := by
  unfold feed
  rw [← feed0_xor, bitTop_xor]
  congr 1; ac_rfl
/-- the sum of an exclusive or -/
theorem crc_xor : ∀ (l m : List Bool) (s t : W), l.length = m.length → crc (s ^^^ t) (List.zipWith xor l m) = crc s l ^^^ crc t m
  | [], [], s, t, _ => rfl
  | a :: l, b :: m, s, t, h => by
    have := crc_xor l m (feed s a) (feed t b) (by simpa using h)
    rw [← feed_xor] at this
    exact this
  | [], _ :: _, _, _, h => by simp at h
  | _ :: _, [], _, _, h => by simp at h
theorem crc_app (s : W) (l m : List Bool) : crc s (l ++ m) = crc (crc s l) m := List.foldl_append
theorem crc_zeros : ∀ (n : Nat) (s : W), crc s (List.replicate n false) = feed0N n s
  | 0, s => rfl
  | n + 1, s => by
    show crc (feed s false) (List.replicate n false) = feed0N n (feed0 s)
    rw [crc_zeros n]; unfold feed bitTop; simp

/-- bits, at the top of a word -/
def top : List Bool → W
  | [] => 0#64
  | m :: l => bitTop m ^^^ (top l >>> 1)
theorem top_low : ∀ (l : List Bool) (k : Nat), k + l.length < 64 → (top l).getLsbD k = false
  | [], k, _ => by simp [top]
  | m :: l, k, h => by
    simp only [List.length_cons] at h
    have h1 := top_low l (k + 1) (by omega)
    have h2 : (bitTop m).getLsbD k = false := by
      unfold bitTop
      cases m with
      | false => simp
      | true =>
        have : (0x8000000000000000#64 : W) = (1#64) <<< 63 := by decide
        simp only [if_true, this, BitVec.getLsbD_shiftLeft]
        simp; omega
    simp only [top, BitVec.getLsbD_xor, BitVec.getLsbD_ushiftRight, h2, Bool.false_xor]
    rw [Nat.add_comm]; exact h1
theorem feed0_shr {t : W} (h : t.getLsbD 0 = false) : feed0 (t >>> 1) = t := by
  unfold feed0
  have hm : (t >>> 1).msb = false := by simp [BitVec.msb_eq_getLsbD_last]
  rw [hm]
  simp only [Bool.false_eq_true, if_false, BitVec.xor_zero]
  apply BitVec.eq_of_getLsbD_eq
  intro i hi
  rw [BitVec.getLsbD_shiftLeft]
  cases i with
  | zero => simpa using h.symm
  | succ i =>
    have : i + 1 < 64 := hi
    simp [hi, BitVec.getLsbD_ushiftRight, Nat.add_comm]
/-- bits go through as if they stood in the word -/
theorem crc_top : ∀ (l : List Bool) (s : W), l.length ≤ 64 → crc s l = feed0N l.length (s ^^^ top l)
  | [], s, _ => by simp [crc, feed0N, top]
  | m :: l, s, h => by
    have hl : l.length ≤ 63 := by simpa using h
    have h1 := crc_top l (feed s m) (by omega)
    show crc (feed s m) l = feed0N l.length (feed0 (s ^^^ top (m :: l)))
    rw [h1]
    congr 1
    unfold feed
    have h2 : top l = feed0 (top l >>> 1) := (feed0_shr (top_low l 0 (by omega))).symm
    show feed0 (s ^^^ bitTop m) ^^^ top l = feed0 (s ^^^ (bitTop m ^^^ (top l >>> 1)))
    rw [← BitVec.xor_assoc, feed0_xor (s ^^^ bitTop m), ← h2]
theorem top_inj : ∀ {l : List Bool}, l.length ≤ 64 → top l = 0#64 → ∀ b ∈ l, b = false
  | [], _, _ => fun b hb => by cases hb
  | m :: l, h, ht => by
    have hl : l.length ≤ 63 := by simpa using h
    have h63 := congrArg (fun x : W => x.getLsbD 63) ht
    have hm : m = false := by
      cases m with
      | false => rfl
      | true =>
        have : (0x8000000000000000#64 : W).getLsbD 63 = true := by decide
        simp [top, bitTop, this, BitVec.getLsbD_ushiftRight] at h63
    subst hm
    have h0 : bitTop false = 0#64 := rfl
    have h2 : top l >>> 1 = 0#64 := by
      have : top (false :: l) = bitTop false ^^^ (top l >>> 1) := rfl
      rw [this, h0, BitVec.zero_xor] at ht
      exact ht
    have h3 : top l = 0#64 := by
      rw [← feed0_shr (top_low l 0 (by omega)), h2]; exact feed0_zero
    intro b hb
    rcases List.mem_cons.1 hb with rfl | hb
    · rfl
    · exact top_inj (by omega) h3 b hb
/-- few bits that are not all nought leave a sum that is not nought, whatever noughts stand about them -/
theorem crc_burst {l : List Bool} {k n : Nat} (hl : l.length ≤ 64) (h : crc 0#64 (List.replicate k false ++ l ++ List.replicate n false) = 0#64) : ∀ b ∈ l, b = false := by
  rw [crc_app, crc_app, crc_zeros, crc_zeros, feed0N_zero] at h
  have h1 := feed0N_inj n h
  rw [crc_top l _ hl, BitVec.zero_xor] at h1
  exact top_inj hl (feed0N_inj _ h1)

/-- a word's bits -/
def bitsW (s : W) : List Bool := (List.range 64).map fun k => s.getLsbD (63 - k)
theorem top_get : ∀ (l : List Bool) (k : Nat), k < 64 → (top l).getLsbD (63 - k) = l.getD k false
  | [], k, _ => by simp [top]
  | m :: l, 0, _ => by
    simp only [top, BitVec.getLsbD_xor, BitVec.getLsbD_ushiftRight]
    have h64 : (top l).getLsbD (1 + (63 - 0)) = false := by simp
    rw [h64]
    cases m with
    | true =>
      have : (bitTop true).getLsbD 63 = true := by decide
      show ((bitTop true).getLsbD 63 ^^ false) = true
      rw [this]; rfl
    | false =>
      have : (bitTop false).getLsbD 63 = false := by decide
      show ((bitTop false).getLsbD 63 ^^ false) = false
      rw [this]; rfl
  | m :: l, k + 1, h => by
    have h1 := top_get l k (by omega)
    simp only [top, BitVec.getLsbD_xor, BitVec.getLsbD_ushiftRight]
    have e : 1 + (63 - (k + 1)) = 63 - k := by omega
    rw [e, h1]
    have h2 : (bitTop m).getLsbD (63 - (k + 1)) = false := by
      unfold bitTop
      cases m with
      | false => simp
      | true =>
        have : (0x8000000000000000#64 : W) = (1#64) <<< 63 := by decide
        simp only [if_true, this, BitVec.getLsbD_shiftLeft]
        simp; omega
    rw [h2]; simp
theorem top_bitsW (s : W) : top (bitsW s) = s := by
  apply BitVec.eq_of_getLsbD_eq
  intro i hi
  have := top_get (bitsW s) (63 - i) (by omega)
  rw [show 63 - (63 - i) = i by omega] at this
  rw [this]
  have : 63 - i < 64 := by omega
  simp [bitsW, List.getD, this]
  congr 1; omega
theorem bitsW_len (s : W) : (bitsW s).length = 64 := by simp [bitsW]
/-- a sum's own bits make it nought, and only these -/
theorem crc_own (s : W) (l : List Bool) (hl : l.length = 64) : crc s l = 0#64 ↔ l = bitsW s := by
  rw [crc_top l s (by omega)]
  constructor
  · intro h
    have h1 := feed0N_inj _ h
    have h2 : top l = s := by
      have : s ^^^ (s ^^^ top l) = s ^^^ 0#64 := by rw [h1]
      rw [← BitVec.xor_assoc, BitVec.xor_self, BitVec.zero_xor, BitVec.xor_zero] at this
      exact this
    apply List.ext_getElem
    · rw [hl, bitsW_len]
    · intro k h3 h4
      have h5 := top_get l k (by omega)
      rw [h2] at h5
      simp [bitsW, h5, List.getD, h3]
  · rintro rfl
    rw [top_bitsW, BitVec.xor_self, feed0N_zero]

/-! ### Bytes -/
def bits8 (c : Nat) : List Bool := [c.testBit 7, c.testBit 6, c.testBit 5, c.testBit 4, c.testBit 3, c.testBit 2, c.testBit 1, c.testBit 0]
def bitsB (bs : List Int) : List Bool := bs.flatMap fun c => bits8 c.toNat
set_option maxRecDepth 10000 in
theorem top_bits8 : ∀ c : Fin 256, top (bits8 c.val) = BitVec.ofNat 64 (c.val * 72057594037927936) := by decide +kernel
theorem bitsB_app (a b : List Int) : bitsB (a ++ b) = bitsB a ++ bitsB b := List.flatMap_append
theorem bitsB_len : ∀ bs : List Int, (bitsB bs).length = 8 * bs.length
  | [] => rfl
  | c :: bs => by
    have := bitsB_len bs
    simp only [bitsB, List.flatMap_cons, List.length_append, List.length_cons] at this ⊢
    rw [this]; simp [bits8]; omega
end Go.Abs.Crc
