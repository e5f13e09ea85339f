/-
  Words as bytes, and lists of them: plain facts, no program. No conditions.
-/
import Derived.Test.YthkpjongjnjfgaaAbsSl
import Derived.Test.YthkpjongjnjfgaaAbsBits
import Derived.Test.YthkpjongjnjfgaaN1
set_option linter.unusedVariables false
set_option linter.unusedSimpArgs false
set_option linter.constructorNameAsVariable false
set_option linter.unusedSimpArgs false
namespace Go.Abs
open Go
def enc (w : Nat) : List Int := if w < 128 then [(w : Int)] else ((w % 128 + 128 : Nat) : Int) :: enc (w / 128) termination_by w
theorem enc_lt {w : Nat} (h : w < 128) : enc w = [(w : Int)] := by rw [enc, if_pos h]
theorem enc_ge {w : Nat} (h : ¬ w < 128) : enc w = ((w % 128 + 128 : Nat) : Int) :: enc (w / 128) := by rw [enc, if_neg h]
theorem enc_u8 (w : Nat) : ∀ x ∈ enc w, 0 <= x /\ x < 256 := by
 induction w using Nat.strongRecOn with
 | _ w ih =>
  by_cases h : w < 128
  ·rw [enc_lt h]; intro x hx; simp at hx; subst hx; omega
  ·rw [enc_ge h]; intro x hx
   rcases List.mem_cons.1 hx with rfl | hx
   ·omega
   ·exact ih _ (by omega) x hx
theorem enc_len (w : Nat) : ∀ k, w < 128 ^ (k + 1) -> 1 <= (enc w).length /\ (enc w).length <= k + 1 := by
 induction w using Nat.strongRecOn with
 | _ w ih =>
  intro k hk
  by_cases h : w < 128
  ·rw [enc_lt h]; simp
  ·rw [enc_ge h]
   cases k with
   | zero => simp at hk; omega
   | succ k =>
    have := ih (w / 128) (by omega) k (by rw [Nat.div_lt_iff_lt_mul (by omega)]; rw [Nat.pow_succ] at hk; exact hk)
    simp; omega
theorem enc_len10 {w : Nat} (h : w < 18446744073709551616) : 1 <= (enc w).length /\ (enc w).length <= 10 := enc_len w 9 (by omega)
set_option maxRecDepth 10000 in
theorem or128 : ∀ x : Fin 256, x.val ||| 128 = x.val % 128 + 128 := by decide
def getGo (i : Nat) : List Int -> Int × Int × Int
 | [] => (0, 0, 6)
 | c :: bs =>
  if i = 10 ∨ (i = 9 /\ 1 < c % 128) then (0, 0, 7)
  else if 128 <= c then (if (getGo (i + 1) bs).2.2 = 0 then (c % 128 + 128 * (getGo (i + 1) bs).1, (getGo (i + 1) bs).2.1, 0) else getGo (i + 1) bs)
  else if c = 0 /\ 0 < i then (0, 0, 5)
  else (c, i + 1, 0)
def Bytes (bs : List Int) : Prop := ∀ x ∈ bs, 0 <= x /\ x < 256
theorem Bytes.tail {c : Int} {bs : List Int} (h : Bytes (c :: bs)) : Bytes bs := fun x hx => h x (List.mem_cons_of_mem _ hx)
theorem Bytes.head {c : Int} {bs : List Int} (h : Bytes (c :: bs)) : 0 <= c /\ c < 256 := h c List.mem_cons_self
theorem Bytes.drop {bs : List Int} (h : Bytes bs) (n : Nat) : Bytes (bs.drop n) := fun x hx => h x (List.mem_of_mem_drop hx)
theorem Bytes.app {bs cs : List Int} (h : Bytes bs) (h' : Bytes cs) : Bytes (bs ++ cs) := fun x hx => by
 rcases List.mem_append.1 hx with hx | hx
 ·exact h x hx
 ·exact h' x hx
theorem getGo_err : ∀ (bs : List Int) (i : Nat), (getGo i bs).2.2 ≠ 0 -> (getGo i bs).1 = 0 /\ (getGo i bs).2.1 = 0
 | [], i, _ => ⟨rfl, rfl⟩
 | c :: bs, i, h => by
  simp only [getGo] at h ⊢
  split
  ·exact ⟨rfl, rfl⟩
  ·split
   ·split
    ·rename_i h1 h2 h3
     rw [if_neg h1, if_pos h2, if_pos h3] at h
     exact absurd rfl h
    ·rename_i h1 h2 h3
     exact getGo_err bs (i + 1) h3
   ·split
    ·exact ⟨rfl, rfl⟩
    ·rename_i h1 h2 h3
     rw [if_neg h1, if_neg h2, if_neg h3] at h
     exact absurd rfl h
theorem pow_succ7 {i : Nat} (h : i <= 8) : (2 : Nat) ^ (64 - 7 * i) = 128 * 2 ^ (64 - 7 * (i + 1)) := by
 rw [show 64 - 7 * i = 7 + (64 - 7 * (i + 1)) by omega, Nat.pow_add]
theorem getGo_ok : ∀ (bs : List Int) (i : Nat), i <= 10 -> Bytes bs -> (getGo i bs).2.2 = 0 -> i <= 9 /\ 0 <= (getGo i bs).1 /\ (getGo i bs).1 < ((2 ^ (64 - 7 * i) : Nat) : Int) /\ (0 < i -> 0 < (getGo i bs).1) /\
  ∃ m : Nat, (getGo i bs).2.1 = (i + m + 1 : Nat) /\ m < bs.length /\ enc (getGo i bs).1.toNat = bs.take (m + 1)
 | [], i, _, _, h => by simp [getGo] at h
 | c :: bs, i, hi10, hb, h => by
  have hc := hb.head
  simp only [getGo] at h ⊢
  split
  ·rename_i h1; rw [if_pos h1] at h; simp at h
  ·rename_i h1
   rw [if_neg h1] at h
   split
   ·rename_i h2
    rw [if_pos h2] at h
    split
    ·rename_i h3
     obtain ⟨g1, g2, g3, g4, m, g5, g6, g7⟩ := getGo_ok bs (i + 1) (by omega) hb.tail h3
     have hp := pow_succ7 (i := i) (by omega)
     have g4' := g4 (by omega)
     generalize hW : (getGo (i + 1) bs).1 = W at *
     refine ⟨by omega, by simp only; omega, ?_, fun _ => by simp only; omega, m + 1, by simp only; rw [g5]; omega, by simp; omega, ?_⟩
     ·simp only
      rw [hp]
      have : W + 1 <= ((2 ^ (64 - 7 * (i + 1)) : Nat) : Int) := g3
      push_cast at this ⊢
      omega
     ·simp only
      rw [enc_ge (by omega), List.take_succ_cons]
      congr 1
      ·omega
      ·rw [<- g7]; congr 1; omega
    ·rename_i h3; rw [if_neg h3] at h; exact absurd h h3
   ·rename_i h2
    rw [if_neg h2] at h
    split
    ·rename_i h3; rw [if_pos h3] at h; simp at h
    ·rename_i h3
     have hi : i <= 9 := by omega
     refine ⟨hi, hc.1, ?_, fun hi0 => ?_, 0, by simp, by simp, ?_⟩
     ·simp only
      by_cases h9 : i = 9
      ·subst h9
       have : (2 : Nat) ^ (64 - 7 * 9) = 2 := rfl
       rw [this]; omega
      ·have : 2 ^ 7 <= (2 : Nat) ^ (64 - 7 * i) := Nat.pow_le_pow_right (by omega) (by omega)
       omega
     ·have : ¬ c = 0 := fun e => h3 ⟨e, hi0⟩
      omega
     ·show enc c.toNat = _
      rw [enc_lt (by omega)]
      simp; omega
theorem getGo_enc : ∀ (k : Nat) (w : Nat) (i : Nat) (rest : List Int), w < 2 ^ (64 - 7 * i) -> i <= 9 -> (0 < i -> 0 < w) -> w <= k -> getGo i (enc w ++ rest) = ((w : Int), ((i + (enc w).length : Nat) : Int), 0)
 | k, w, i, rest, h, hi, h0, hk => by
  by_cases hw : w < 128
  ·rw [enc_lt hw]
   simp only [List.cons_append, List.nil_append, getGo]
   rw [if_neg, if_neg (by omega), if_neg (by omega)]
   ·simp
   ·rintro (h1 | ⟨rfl, h1⟩)
    ·omega
    ·have : (2 : Nat) ^ (64 - 7 * 9) = 2 := rfl
     rw [this] at h; omega
  ·have hi8 : i <= 8 := by
    by_cases h9 : i = 9
    ·subst h9
     have : (2 : Nat) ^ (64 - 7 * 9) = 2 := rfl
     rw [this] at h; omega
    ·omega
   cases k with
   | zero => omega
   | succ k =>
    have hp := pow_succ7 hi8
    have ih := getGo_enc k (w / 128) (i + 1) rest (by omega) (by omega) (by omega) (by omega)
    rw [enc_ge hw]
    simp only [List.cons_append, getGo, ih, if_true]
    rw [if_neg (by omega), if_pos (by omega)]
    simp only [List.length_cons, Prod.mk.injEq, and_true]
    constructor <;> omega
theorem get_enc {w : Nat} (h : w < 18446744073709551616) (rest : List Int) : getGo 0 (enc w ++ rest) = ((w : Int), ((enc w).length : Int), 0) := by
 have := getGo_enc w w 0 rest (by simpa using h) (by omega) (by omega) (Nat.le_refl _)
 simpa using this
set_option maxRecDepth 10000 in
theorem andNot128 : ∀ c : Fin 256, ibits .andNot .u8 (c.val : Int) 128 = ((c.val % 128 : Nat) : Int) := by decide +kernel
set_option maxRecDepth 10000 in
theorem and128 : ∀ c : Fin 256, ibits .and .u8 (c.val : Int) 128 = if c.val < 128 then 0 else 128 := by decide +kernel
theorem andNot_u8 {c : Int} (h : 0 <= c /\ c < 256) : ibits .andNot .u8 c 128 = c % 128 := by
 have := andNot128 ⟨c.toNat, by omega⟩
 simp only at this
 rw [Int.toNat_of_nonneg h.1] at this
 rw [this]; omega
theorem and_u8_128 {c : Int} (h : 0 <= c /\ c < 256) : ibits .and .u8 c 128 = if c < 128 then 0 else 128 := by
 have := and128 ⟨c.toNat, by omega⟩
 simp only at this
 rw [Int.toNat_of_nonneg h.1] at this
 rw [this]
 by_cases hc : c < 128
 ·rw [if_pos hc, if_pos (by omega)]
 ·rw [if_neg hc, if_neg (by omega)]
theorem or_high {w p : Int} {k : Nat} (hw : 0 <= w) (hw' : w < ((2 ^ k : Nat) : Int)) (hp : 0 <= p) (hk : (p.toNat + 1) * 2 ^ k <= 18446744073709551616) : ibits .or .u64 w (p * 2 ^ k) = w + p * 2 ^ k := by
 have e : p * 2 ^ k = ((p.toNat * 2 ^ k : Nat) : Int) := by push_cast; rw [Int.toNat_of_nonneg hp]
 have h1 : 2 ^ k <= (p.toNat + 1) * 2 ^ k := Nat.le_mul_of_pos_left _ (by omega)
 have h2 : p.toNat * 2 ^ k + 2 ^ k <= 18446744073709551616 := by rw [<- Nat.succ_mul]; exact hk
 rw [e, or_u64 hw (by omega) (by omega) (by omega)]
 have := Nat.two_pow_add_eq_or_of_lt (i := k) (b := w.toNat) (by omega) p.toNat
 have e2 : ((p.toNat * 2 ^ k : Nat) : Int).toNat = 2 ^ k * p.toNat := by rw [Int.toNat_natCast, Nat.mul_comm]
 rw [e2, Nat.or_comm, <- this, Nat.mul_comm]
 omega
@[simp] theorem map_some' {A B : Type} {f : A -> B} {a : A} : Option.map f (some a) = some (f a) := rfl
def getV (bs : List Int) : AV := .tup [.i .u64 (getGo 0 bs).1, .i .i64 (getGo 0 bs).2.1, .i .i64 (getGo 0 bs).2.2]
theorem bytes_get {bs : List Int} (hb : Bytes bs) {i : Nat} (hi : i < bs.length) : 0 <= bs[i] /\ bs[i] < 256 := hb _ (List.getElem_mem hi)
theorem map_get {k : IntKind} {bs : List Int} {i : Nat} (hi : i < bs.length) : (bs.map (AV.i k))[i]? = some (.i k bs[i]) := by simp [hi]
def splitF : Nat -> List Int -> List Int × Int
 | 0, _ => ([], 0)
 | f + 1, bs =>
  if bs = [] then ([], 0)
  else if (getGo 0 bs).2.2 = 0 then
   (if (splitF f (bs.drop (getGo 0 bs).2.1.toNat)).2 = 0 then ((getGo 0 bs).1 :: (splitF f (bs.drop (getGo 0 bs).2.1.toNat)).1, 0) else ([], (splitF f (bs.drop (getGo 0 bs).2.1.toNat)).2))
  else ([], (getGo 0 bs).2.2)
theorem splitF_nil (f : Nat) : splitF f [] = ([], 0) := by cases f <;> simp [splitF]
theorem splitF_err : ∀ (f : Nat) (bs : List Int), (splitF f bs).2 ≠ 0 -> (splitF f bs).1 = []
 | 0, _, _ => rfl
 | f + 1, bs, h => by
  simp only [splitF] at h ⊢
  split
  ·rfl
  ·rename_i h1
   rw [if_neg h1] at h
   split
   ·rename_i h2
    rw [if_pos h2] at h
    split
    ·rename_i h3; rw [if_pos h3] at h; exact absurd rfl h
    ·rfl
   ·rfl
theorem get_pos {bs : List Int} (hb : Bytes bs) (h : (getGo 0 bs).2.2 = 0) : ∃ m : Nat, (getGo 0 bs).2.1 = (m : Int) /\ 1 <= m /\ m <= bs.length /\ 0 <= (getGo 0 bs).1 /\ (getGo 0 bs).1 < 18446744073709551616 /\ enc (getGo 0 bs).1.toNat = bs.take m := by
 obtain ⟨_, g2, g3, _, m, g5, g6, g7⟩ := getGo_ok bs 0 (by omega) hb h
 exact ⟨m + 1, by rw [g5]; congr 1; omega, by omega, by omega, g2, g3, g7⟩
def encs (ws : List Int) : List Int := ws.flatMap fun w => enc w.toNat
def Words (ws : List Int) : Prop := ∀ w ∈ ws, 0 <= w /\ w < 18446744073709551616
theorem encs_bytes (ws : List Int) : Bytes (encs ws) := fun x hx => by
 obtain ⟨w, _, h⟩ := List.mem_flatMap.1 hx
 exact enc_u8 _ x h
theorem encs_len : ∀ {ws : List Int}, Words ws -> ws.length <= (encs ws).length /\ (encs ws).length <= 10 * ws.length
 | [], _ => by simp [encs]
 | w :: ws, h => by
  have h1 := encs_len (ws := ws) fun x hx => h x (List.mem_cons_of_mem _ hx)
  have h2 := enc_len10 (w := w.toNat) (by have := h w List.mem_cons_self; omega)
  simp only [encs, List.flatMap_cons, List.length_append, List.length_cons] at h1 ⊢
  omega
theorem encs_take {ws : List Int} {k : Nat} (hk : k < ws.length) : encs (ws.take (k + 1)) = encs (ws.take k) ++ enc ws[k].toNat := by
 unfold encs
 rw [List.take_succ_eq_append_getElem hk, List.flatMap_append]
 simp only [List.flatMap_cons, List.flatMap_nil, List.append_nil]
theorem splitF_all : ∀ (f : Nat) (bs : List Int), Bytes bs -> bs.length <= f -> (splitF f bs).2 = 0 -> encs (splitF f bs).1 = bs /\ Words (splitF f bs).1
 | 0, bs, _, hf, _ => by
  have : bs = [] := List.length_eq_zero_iff.1 (by omega)
  subst this
  exact ⟨rfl, fun x hx => by cases hx⟩
 | f + 1, bs, hb, hf, h => by
  simp only [splitF] at h ⊢
  by_cases h0 : bs = []
  ·subst h0; exact ⟨rfl, fun x hx => by simp at hx⟩
  ·rw [if_neg h0] at h ⊢
   by_cases h1 : (getGo 0 bs).2.2 = 0
   ·obtain ⟨q, q1, q2, q3, q4, q5, q6⟩ := get_pos hb h1
    simp only [h1, q1, if_true, Int.toNat_natCast] at h ⊢
    by_cases h2 : (splitF f (bs.drop q)).2 = 0
    ·obtain ⟨g1, g2⟩ := splitF_all f (bs.drop q) (hb.drop q) (by simp; omega) h2
     simp only [h2, if_true]
     refine ⟨?_, fun x hx => ?_⟩
     ·show enc (getGo 0 bs).1.toNat ++ encs (splitF f (bs.drop q)).1 = bs
      rw [g1, q6, List.take_append_drop]
     ·rcases List.mem_cons.1 hx with rfl | hx
      ·exact ⟨q4, q5⟩
      ·exact g2 x hx
    ·simp only [h2, if_false] at h
   ·simp only [h1, if_false] at h
theorem splitF_encs : ∀ (ws : List Int) (f : Nat), Words ws -> (encs ws).length <= f -> splitF f (encs ws) = (ws, 0)
 | [], f, _, _ => splitF_nil f
 | w :: ws, f, hw, hf => by
  have h2 := enc_len10 (w := w.toNat) (by have := hw w List.mem_cons_self; omega)
  have e : encs (w :: ws) = enc w.toNat ++ encs ws := rfl
  cases f with
  | zero => rw [e] at hf; simp only [List.length_append] at hf; omega
  | succ f =>
   have hw0 := hw w List.mem_cons_self
   have hg := get_enc (w := w.toNat) (by omega) (encs ws)
   rw [e] at hf ⊢
   simp only [List.length_append] at hf
   have hne : enc w.toNat ++ encs ws ≠ [] := by
    intro h
    have := congrArg List.length h
    simp at this
    rw [this.1] at h2; simp at h2
   simp only [splitF, if_neg hne, hg, if_true, Int.toNat_natCast, List.drop_left]
   rw [splitF_encs ws f (fun x hx => hw x (List.mem_cons_of_mem _ hx)) (by omega)]
   simp only [if_true]
   rw [Int.toNat_of_nonneg hw0.1]
end Go.Abs
namespace Go.Abs
open Go
abbrev W := BitVec 64
def poly : W := 0x42f0e1eba9ea3693#64
def feed0 (s : W) : W := (s <<< 1) ^^^ (if s.msb then poly else 0#64)
def bitTop (m : Bool) : W := if m then 0x8000000000000000#64 else 0#64
def feed (s : W) (m : Bool) : W := feed0 (s ^^^ bitTop m)
def crc (s : W) (l : List Bool) : W := l.foldl feed s
theorem msb_xor (s t : W) : (s ^^^ t).msb = (s.msb ^^ t.msb) := by simp [BitVec.msb_xor]
theorem feed0_xor (s t : W) : feed0 (s ^^^ t) = feed0 s ^^^ feed0 t := by
 unfold feed0
 rw [msb_xor, BitVec.shiftLeft_xor_distrib]
 have e : ∀ A B p : W, (A ^^^ p) ^^^ (B ^^^ p) = A ^^^ B := fun A B p => by rw [BitVec.xor_assoc, BitVec.xor_comm B p, <- BitVec.xor_assoc p p, BitVec.xor_self, BitVec.zero_xor]
 cases s.msb <;> cases t.msb
 ·simp
 ·simp only [Bool.false_xor, if_true, Bool.false_eq_true, if_false, BitVec.xor_zero]; ac_rfl
 ·simp only [Bool.xor_false, if_true, Bool.false_eq_true, if_false, BitVec.xor_zero]; ac_rfl
 ·simp only [Bool.xor_self, if_true, Bool.false_eq_true, if_false, BitVec.xor_zero]; rw [e]
theorem feed0_zero : feed0 0#64 = 0#64 := by decide
theorem feed0_inj {s : W} (h : feed0 s = 0#64) : s = 0#64 := by
 unfold feed0 at h
 have h0 := congrArg (fun x : W => x.getLsbD 0) h
 cases hm : s.msb with
 | true =>
  rw [hm] at h0
  have hp : poly[0] = true := by decide
  simp [BitVec.getLsbD_shiftLeft, hp] at h0
 | false =>
  rw [hm] at h
  simp only [Bool.false_eq_true, if_false, BitVec.xor_zero] at h
  apply BitVec.eq_of_getLsbD_eq
  intro i hi
  have h1 := congrArg (fun x : W => x.getLsbD (i + 1)) h
  by_cases h63 : i = 63
  ·subst h63
   rw [BitVec.msb_eq_getLsbD_last] at hm
   simpa using hm
  ·simp only [BitVec.getLsbD_shiftLeft, BitVec.getLsbD_zero] at h1
   have : i + 1 < 64 := by omega
   simpa [this] using h1
def feed0N : Nat -> W -> W
 | 0, s => s
 | n + 1, s => feed0N n (feed0 s)
theorem feed0N_zero : ∀ n, feed0N n 0#64 = 0#64
 | 0 => rfl
 | n + 1 => by simp only [feed0N, feed0_zero, feed0N_zero n]
theorem feed0N_inj : ∀ (n : Nat) {s : W}, feed0N n s = 0#64 -> s = 0#64
 | 0, _, h => h
 | n + 1, s, h => feed0_inj (feed0N_inj n h)
theorem crc_app (s : W) (l m : List Bool) : crc s (l ++ m) = crc (crc s l) m := List.foldl_append
def top : List Bool -> W
 | [] => 0#64
 | m :: l => bitTop m ^^^ (top l >>> 1)
theorem top_low : ∀ (l : List Bool) (k : Nat), k + l.length < 64 -> (top l).getLsbD k = false
 | [], k, _ => by simp [top]
 | m :: l, k, h => by
  simp only [List.length_cons] at h
  have h1 := top_low l (k + 1) (by omega)
  have h2 : (bitTop m).getLsbD k = false := by
   unfold bitTop
   cases m with
   | false => simp
   | true =>
    have : (0x8000000000000000#64 : W) = (1#64) <<< 63 := by decide
    simp only [if_true, this, BitVec.getLsbD_shiftLeft]
    simp; omega
  simp only [top, BitVec.getLsbD_xor, BitVec.getLsbD_ushiftRight, h2, Bool.false_xor]
  rw [Nat.add_comm]; exact h1
theorem feed0_shr {t : W} (h : t.getLsbD 0 = false) : feed0 (t >>> 1) = t := by
 unfold feed0
 have hm : (t >>> 1).msb = false := by simp [BitVec.msb_eq_getLsbD_last]
 rw [hm]
 simp only [Bool.false_eq_true, if_false, BitVec.xor_zero]
 apply BitVec.eq_of_getLsbD_eq
 intro i hi
 rw [BitVec.getLsbD_shiftLeft]
 cases i with
 | zero => simpa using h.symm
 | succ i =>
  have : i + 1 < 64 := hi
  simp [hi, BitVec.getLsbD_ushiftRight, Nat.add_comm]
theorem crc_top : ∀ (l : List Bool) (s : W), l.length <= 64 -> crc s l = feed0N l.length (s ^^^ top l)
 | [], s, _ => by simp [crc, feed0N, top]
 | m :: l, s, h => by
  have hl : l.length <= 63 := by simpa using h
  have h1 := crc_top l (feed s m) (by omega)
  show crc (feed s m) l = feed0N l.length (feed0 (s ^^^ top (m :: l)))
  rw [h1]
  congr 1
  unfold feed
  have h2 : top l = feed0 (top l >>> 1) := (feed0_shr (top_low l 0 (by omega))).symm
  show feed0 (s ^^^ bitTop m) ^^^ top l = feed0 (s ^^^ (bitTop m ^^^ (top l >>> 1)))
  rw [<- BitVec.xor_assoc, feed0_xor (s ^^^ bitTop m), <- h2]
def bitsW (s : W) : List Bool := (List.range 64).map fun k => s.getLsbD (63 - k)
theorem top_get : ∀ (l : List Bool) (k : Nat), k < 64 -> (top l).getLsbD (63 - k) = l.getD k false
 | [], k, _ => by simp [top]
 | m :: l, 0, _ => by
  simp only [top, BitVec.getLsbD_xor, BitVec.getLsbD_ushiftRight]
  have h64 : (top l).getLsbD (1 + (63 - 0)) = false := by simp
  rw [h64]
  cases m with
  | true =>
   have : (bitTop true).getLsbD 63 = true := by decide
   show ((bitTop true).getLsbD 63 ^^ false) = true
   rw [this]; rfl
  | false =>
   have : (bitTop false).getLsbD 63 = false := by decide
   show ((bitTop false).getLsbD 63 ^^ false) = false
   rw [this]; rfl
 | m :: l, k + 1, h => by
  have h1 := top_get l k (by omega)
  simp only [top, BitVec.getLsbD_xor, BitVec.getLsbD_ushiftRight]
  have e : 1 + (63 - (k + 1)) = 63 - k := by omega
  rw [e, h1]
  have h2 : (bitTop m).getLsbD (63 - (k + 1)) = false := by
   unfold bitTop
   cases m with
   | false => simp
   | true =>
    have : (0x8000000000000000#64 : W) = (1#64) <<< 63 := by decide
    simp only [if_true, this, BitVec.getLsbD_shiftLeft]
    simp; omega
  rw [h2]; simp
theorem top_bitsW (s : W) : top (bitsW s) = s := by
 apply BitVec.eq_of_getLsbD_eq
 intro i hi
 have := top_get (bitsW s) (63 - i) (by omega)
 rw [show 63 - (63 - i) = i by omega] at this
 rw [this]
 have : 63 - i < 64 := by omega
 simp [bitsW, List.getD, this]
 congr 1; omega
theorem bitsW_len (s : W) : (bitsW s).length = 64 := by simp [bitsW]
theorem crc_own (s : W) (l : List Bool) (hl : l.length = 64) : crc s l = 0#64 ↔ l = bitsW s := by
 rw [crc_top l s (by omega)]
 constructor
 ·intro h
  have h1 := feed0N_inj _ h
  have h2 : top l = s := by
   have : s ^^^ (s ^^^ top l) = s ^^^ 0#64 := by rw [h1]
   rw [<- BitVec.xor_assoc, BitVec.xor_self, BitVec.zero_xor, BitVec.xor_zero] at this
   exact this
  apply List.ext_getElem
  ·rw [hl, bitsW_len]
  ·intro k h3 h4
   have h5 := top_get l k (by omega)
   rw [h2] at h5
   simp [bitsW, h5, List.getD, h3]
 ·rintro rfl
  rw [top_bitsW, BitVec.xor_self, feed0N_zero]
def bits8 (c : Nat) : List Bool := [c.testBit 7, c.testBit 6, c.testBit 5, c.testBit 4, c.testBit 3, c.testBit 2, c.testBit 1, c.testBit 0]
def bitsB (bs : List Int) : List Bool := bs.flatMap fun c => bits8 c.toNat
set_option maxRecDepth 10000 in
theorem top_bits8 : ∀ c : Fin 256, top (bits8 c.val) = BitVec.ofNat 64 (c.val * 72057594037927936) := by decide +kernel
theorem bitsB_app (a b : List Int) : bitsB (a ++ b) = bitsB a ++ bitsB b := List.flatMap_append
theorem bitsB_len : ∀ bs : List Int, (bitsB bs).length = 8 * bs.length
 | [] => rfl
 | c :: bs => by
  have := bitsB_len bs
  simp only [bitsB, List.flatMap_cons, List.length_append, List.length_cons] at this ⊢
  rw [this]; simp [bits8]; omega
def wI (s : W) : Int := (s.toNat : Int)
theorem wI_range (s : W) : 0 <= wI s /\ wI s < 18446744073709551616 := by
 have := s.isLt
 unfold wI; omega
theorem wI_inj {s t : W} (h : wI s = wI t) : s = t := BitVec.eq_of_toNat_eq (by unfold wI at h; omega)
theorem wI_zero : wI 0#64 = 0 := rfl
theorem feed0_int (s : W) : ibits .xor .u64 (IntKind.u64.wrap (wI s * 2 ^ 1)) (ibits .and .u64 4823603603198064275 (IntKind.u64.wrap (0 - Int.fdiv (wI s) (2 ^ 63)))) = wI (feed0 s) := by
 have hr := wI_range s
 have hs : ((s <<< 1).toNat : Int) = IntKind.u64.wrap (wI s * 2 ^ 1) := by
  rw [BitVec.toNat_shiftLeft, wrap_u64, Nat.shiftLeft_eq]
  unfold wI; omega
 rw [<- hs]
 have hmsb : s.msb = decide (2 ^ 63 <= s.toNat) := by rw [BitVec.msb_eq_decide]
 have hl := (s <<< 1).isLt
 rw [Int.fdiv_eq_ediv_of_nonneg _ (by decide)]
 unfold feed0
 cases hm : s.msb with
 | true =>
  have hge : 9223372036854775808 <= s.toNat := by rw [hmsb] at hm; simpa using hm
  have e1 : IntKind.u64.wrap (0 - wI s / 2 ^ 63) = 18446744073709551615 := by
   have := s.isLt
   rw [wrap_u64]; unfold wI; omega
  have e2 : ibits .and .u64 4823603603198064275 18446744073709551615 = 4823603603198064275 := by decide +kernel
  rw [e1, e2, xor_u64 (by omega) (by omega) (by omega) (by omega), if_pos rfl]
  unfold wI
  rw [BitVec.toNat_xor]
  rfl
 | false =>
  have hlt : s.toNat < 9223372036854775808 := by rw [hmsb] at hm; simpa using hm
  have e1 : IntKind.u64.wrap (0 - wI s / 2 ^ 63) = 0 := by rw [wrap_u64]; unfold wI; omega
  have e2 : ibits .and .u64 4823603603198064275 0 = 0 := by decide +kernel
  rw [e1, e2, xor_zero_u64 (by omega) (by omega)]
  simp [wI]
theorem feed0N_succ : ∀ (n : Nat) (s : W), feed0N (n + 1) s = feed0 (feed0N n s)
 | 0, _ => rfl
 | n + 1, s => by
  show feed0N (n + 1) (feed0 s) = _
  rw [feed0N_succ n]; rfl
theorem bitsB_take {bs : List Int} {k : Nat} (hk : k < bs.length) : bitsB (bs.take (k + 1)) = bitsB (bs.take k) ++ bits8 bs[k].toNat := by
 rw [List.take_succ_eq_append_getElem hk, bitsB_app]
 simp [bitsB]
def bytesW (s : W) : List Int := (List.range 8).map fun i => wI s / 2 ^ (56 - 8 * i) % 256
theorem bytesW_bytes (s : W) : Bytes (bytesW s) := fun x hx => by
 obtain ⟨i, _, rfl⟩ := List.mem_map.1 hx
 omega
theorem bits8_get (c : Nat) (k : Nat) (hk : k < 8) : (bits8 c).getD k false = c.testBit (7 - k) := by
 match k, hk with
 | 0, _ => rfl
 | 1, _ => rfl
 | 2, _ => rfl
 | 3, _ => rfl
 | 4, _ => rfl
 | 5, _ => rfl
 | 6, _ => rfl
 | 7, _ => rfl
theorem byteW_nat (s : W) (i : Nat) (hi : i < 8) : (wI s / 2 ^ (56 - 8 * i) % 256).toNat = s.toNat / 2 ^ (56 - 8 * i) % 256 := by
 generalize 56 - 8 * i = k
 have : wI s / 2 ^ k % 256 = ((s.toNat / 2 ^ k % 256 : Nat) : Int) := by unfold wI; rw [Int.natCast_emod, Int.natCast_ediv, Int.natCast_pow]; rfl
 rw [this]; rfl
set_option maxRecDepth 10000 in
theorem bits_bytesW (s : W) : bitsB (bytesW s) = bitsW s := by
 have h1 : ∀ i, i < 8 -> bits8 (wI s / 2 ^ (56 - 8 * i) % 256).toNat = (List.range 8).map fun k => s.getLsbD (63 - (8 * i + k)) := fun i hi => by
  rw [byteW_nat s i hi]
  have hb : ∀ k, k < 8 -> (s.toNat / 2 ^ (56 - 8 * i) % 256).testBit (7 - k) = s.getLsbD (63 - (8 * i + k)) := fun k hk => by
   have : (256 : Nat) = 2 ^ 8 := rfl
   rw [this, Nat.testBit_mod_two_pow, Nat.testBit_div_two_pow, BitVec.getLsbD]
   have e : 7 - k + (56 - 8 * i) = 63 - (8 * i + k) := by omega
   rw [e]
   simp; omega
  show [_, _, _, _, _, _, _, _] = [_, _, _, _, _, _, _, _]
  have b0 := hb 0 (by omega)
  have b1 := hb 1 (by omega)
  have b2 := hb 2 (by omega)
  have b3 := hb 3 (by omega)
  have b4 := hb 4 (by omega)
  have b5 := hb 5 (by omega)
  have b6 := hb 6 (by omega)
  have b7 := hb 7 (by omega)
  simp only [Nat.sub_zero, show 7 - 1 = 6 from rfl, show 7 - 2 = 5 from rfl, show 7 - 3 = 4 from rfl, show 7 - 4 = 3 from rfl, show 7 - 5 = 2 from rfl, show 7 - 6 = 1 from rfl, show 7 - 7 = 0 from rfl] at b0 b1 b2 b3 b4 b5 b6 b7
  rw [b0, b1, b2, b3, b4, b5, b6, b7]
 have r : List.range 8 = [0, 1, 2, 3, 4, 5, 6, 7] := rfl
 unfold bitsB bytesW
 rw [r]
 show bits8 _ ++ (bits8 _ ++ (bits8 _ ++ (bits8 _ ++ (bits8 _ ++ (bits8 _ ++ (bits8 _ ++ (bits8 _ ++ []))))))) = _
 rw [h1 0 (by omega), h1 1 (by omega), h1 2 (by omega), h1 3 (by omega), h1 4 (by omega), h1 5 (by omega), h1 6 (by omega), h1 7 (by omega)]
 rfl
theorem bits8_inj {c d : Nat} (hc : c < 256) (hd : d < 256) (h : bits8 c = bits8 d) : c = d := by
 apply Nat.eq_of_testBit_eq
 intro i
 by_cases hi : i < 8
 ·have e := congrArg (fun l : List Bool => l.getD (7 - i) false) h
  simp only [bits8_get _ _ (show 7 - i < 8 by omega)] at e
  rw [show 7 - (7 - i) = i by omega] at e
  exact e
 ·have h1 : 256 <= 2 ^ i := by
   have : (256 : Nat) = 2 ^ 8 := rfl
   rw [this]; exact Nat.pow_le_pow_right (by omega) (by omega)
  rw [Nat.testBit_lt_two_pow (by omega), Nat.testBit_lt_two_pow (by omega)]
theorem bitsB_inj : ∀ {b c : List Int}, Bytes b -> Bytes c -> bitsB b = bitsB c -> b = c
 | [], [], _, _, _ => rfl
 | [], d :: c, _, _, h => by simp [bitsB, bits8] at h
 | a :: b, [], _, _, h => by simp [bitsB, bits8] at h
 | a :: b, d :: c, hb, hc, h => by
  have h1 : bits8 a.toNat ++ bitsB b = bits8 d.toNat ++ bitsB c := h
  obtain ⟨g1, g2⟩ := List.append_inj h1 (by simp [bits8])
  have ha := hb.head
  have hd := hc.head
  have := bits8_inj (by omega) (by omega) g1
  rw [bitsB_inj hb.tail hc.tail g2]
  congr 1; omega
theorem bytesW_take {s : W} {k : Nat} (hk : k < 8) : (bytesW s).take (k + 1) = (bytesW s).take k ++ [wI s / 2 ^ (56 - 8 * k) % 256] := by
 have hl : k < (bytesW s).length := by simp [bytesW]; exact hk
 rw [List.take_succ_eq_append_getElem hl]
 simp [bytesW]
theorem bytesW_len (s : W) : (bytesW s).length = 8 := by simp [bytesW]
def sealed (bs : List Int) : List Int := bs ++ bytesW (crc 0#64 (bitsB bs))
theorem sealed_bytes {bs : List Int} (hb : Bytes bs) : Bytes (sealed bs) := hb.app (bytesW_bytes _)
theorem own_sum {p q : List Int} (hp : Bytes p) (hq : Bytes q) (hl : q.length = 8) : crc (crc 0#64 (bitsB p)) (bitsB q) = 0#64 ↔ p ++ q = sealed p := by
 rw [crc_own _ _ (by rw [bitsB_len, hl]), <- bits_bytesW]
 unfold sealed
 constructor
 ·intro h; rw [bitsB_inj hq (bytesW_bytes _) h]
 ·intro h; rw [List.append_cancel_left h]
theorem bit_eq' {c : Int} (h : 0 <= c) (j : Nat) : ((Int.tmod (Int.fdiv c (2 ^ j)) 2 : Int) == 1) = c.toNat.testBit j := by
 have hp : (0 : Int) < 2 ^ j := Int.pow_pos (by omega)
 rw [Int.fdiv_eq_ediv_of_nonneg _ (Int.le_of_lt hp)]
 have h1 : c / 2 ^ j = ((c.toNat / 2 ^ j : Nat) : Int) := by push_cast; rw [Int.toNat_of_nonneg h]
 rw [h1, Int.tmod_eq_emod_of_nonneg (Int.natCast_nonneg _), Nat.testBit_eq_decide_div_mod_eq]
 generalize c.toNat / 2 ^ j = q
 rw [Bool.eq_iff_iff]
 simp only [beq_iff_eq, decide_eq_true_eq]
 omega
theorem bitsW_get {s : W} {k : Nat} (hk : k < 64) : (bitsW s)[k]? = some (s.getLsbD (63 - k)) := by simp [bitsW, hk]
theorem rep_set {m : Nat} {b : Bool} {l : List Bool} : (List.replicate (m + 1) false ++ l).set m b = List.replicate m false ++ b :: l := by
 rw [List.replicate_succ', List.append_assoc, List.set_append_right _ _ (by simp)]
 simp
def valR : List Bool -> Nat
 | [] => 0
 | b :: l => 2 * valR l + b.toNat
theorem valR_bit : ∀ (l : List Bool) (j : Nat), (valR l).testBit j = l.getD j false
 | [], j => by simp [valR]
 | b :: l, 0 => by cases b <;> simp [valR, Nat.testBit_zero] <;> omega
 | b :: l, j + 1 => by
  have : (2 * valR l + b.toNat) / 2 = valR l := by have := Bool.toNat_lt b; omega
  simp only [valR, Nat.testBit_succ, this, valR_bit l j]
  simp
theorem valR_lt : ∀ l : List Bool, valR l < 2 ^ l.length
 | [] => by simp [valR]
 | b :: l => by
  have := valR_lt l
  have := Bool.toNat_lt b
  simp only [valR, List.length_cons, Nat.pow_succ]; omega
theorem valR_word (s : W) : valR (bitsW s).reverse = s.toNat := by
 apply Nat.eq_of_testBit_eq
 intro i
 rw [valR_bit]
 by_cases hi : i < 64
 ·have h1 : (bitsW s).reverse[i]? = some (s.getLsbD i) := by
   rw [List.getElem?_reverse (by rw [bitsW_len]; exact hi), bitsW_len, bitsW_get (by omega)]
   congr 2; omega
  simp only [List.getD, h1, Option.getD_some]; rfl
 ·have h1 : (bitsW s).reverse[i]? = none := List.getElem?_eq_none (by simp [bitsW_len]; omega)
  simp only [List.getD, h1, Option.getD_none]
  exact (Nat.testBit_lt_two_pow (Nat.lt_of_lt_of_le s.isLt (Nat.pow_le_pow_right (by omega) (by omega)))).symm
def FF (s : W) (i : Nat) (m : List Bool) (j : Nat) : Bool := (decide (j - i < 64) && s.getLsbD (63 - (j - i))) ^^ m.getD j false
theorem feed_bit (s : W) (b : Bool) (k : Nat) (hk : k < 64) : (feed s b).getLsbD (63 - k) = ((decide (k + 1 < 64) && s.getLsbD (63 - (k + 1))) ^^ ((s.getLsbD 63 ^^ b) && poly.getLsbD (63 - k))) := by
 have hm : (s ^^^ bitTop b).msb = (s.getLsbD 63 ^^ b) := by
  rw [msb_xor, BitVec.msb_eq_getLsbD_last]
  congr 1
  cases b <;> decide
 have hb : ∀ i, i < 63 -> (bitTop b).getLsbD i = false := fun i hi => by
  unfold bitTop
  cases b with
  | false => simp
  | true =>
   have : (0x8000000000000000#64 : W) = (1#64) <<< 63 := by decide
   simp only [if_true, this, BitVec.getLsbD_shiftLeft]
   simp; omega
 unfold feed feed0
 rw [hm, BitVec.getLsbD_xor]
 congr 1
 ·rw [BitVec.getLsbD_shiftLeft]
  by_cases h63 : k = 63
  ·subst h63; simp
  ·have e : 63 - k - 1 = 63 - (k + 1) := by omega
   rw [e, BitVec.getLsbD_xor, hb _ (by omega), Bool.xor_false]
   have h1 : 63 - k < 64 := by omega
   have h2 : ¬ 63 - k < 1 := by omega
   have h3 : k + 1 < 64 := by omega
   simp [h1, h2, h3]
 ·cases (s.getLsbD 63 ^^ b) <;> simp
theorem FF_next {s : W} {i j : Nat} {m : List Bool} {b : Bool} (hj : i + 1 <= j) : FF (feed s b) (i + 1) m j = (FF s i m j ^^ ((s.getLsbD 63 ^^ b) && (decide (j - (i + 1) < 64) && poly.getLsbD (63 - (j - (i + 1)))))) := by
 unfold FF
 by_cases h : j - (i + 1) < 64
 ·have h1 := feed_bit s b (j - (i + 1)) h
  have e : j - (i + 1) + 1 = j - i := by omega
  rw [e] at h1
  simp only [h, decide_true, Bool.true_and, h1]
  cases (decide (j - i < 64) && s.getLsbD (63 - (j - i))) <;> cases m.getD j false <;> cases ((s.getLsbD 63 ^^ b) && poly.getLsbD (63 - (j - (i + 1)))) <;> rfl
 ·have h2 : ¬ j - i < 64 := by omega
  simp [h, h2]
theorem not_beq_xor (a b : Bool) : (!(a == b)) = (a ^^ b) := by cases a <;> cases b <;> rfl
theorem poly_int : (4823603603198064275 : Int) = wI poly := by decide +kernel
theorem sealed_take (p : List Int) : (sealed p).take p.length = p := by unfold sealed; rw [List.take_left]
theorem sealed_len (p : List Int) : (sealed p).length = p.length + 8 := by unfold sealed; rw [List.length_append, bytesW_len]
end Go.Abs
namespace Go.Abs
open Go
def takeP (n : Nat) (l : List Int) : Option (List Int × List Int) := if n <= l.length /\ ∀ x ∈ l.take n, x <= 4194304 then some (l.take n, l.drop n) else none
theorem takeP_some {n : Nat} {l P r : List Int} (h : takeP n l = some (P, r)) : P = l.take n /\ r = l.drop n /\ n <= l.length /\ (∀ x ∈ P, x <= 4194304) /\ P ++ r = l := by
 unfold takeP at h
 split at h
 ·rename_i hc
  cases h
  exact ⟨rfl, rfl, hc.1, hc.2, List.take_append_drop _ _⟩
 ·cases h
section
variable (unp : Int -> Option HV) (pck : HV -> Int)
def nodeP (l : List Int) : Option (NV × List Int) :=
 match l with
 | [] => none
 | w :: l => match unp w with
  | none => none
  | some h => match takeP h.p.toNat l with
   | none => none
   | some (P, r) => if h.r.toNat <= r.length then some (⟨h, P, r.take h.r.toNat⟩, r.drop h.r.toNat) else none
def nodesP : Nat -> List Int -> Option (List NV × List Int)
 | 0, l => some ([], l)
 | n + 1, l => match nodeP unp l with
  | none => none
  | some (x, r) => match nodesP n r with
   | none => none
   | some (N, q) => some (x :: N, q)
def countP_ (l : List Int) : Option (List Int × List Int) :=
 match l with
 | [] => none
 | c :: r => if c <= r.length then takeP c.toNat r else none
def nodeW (x : NV) : List Int := pck x.h :: (x.P ++ x.R)
def listW (l : List Int) : List Int := (l.length : Int) :: l
def wordsW (F : FV) : List Int := (F.nodes.length : Int) :: (F.nodes.flatMap (nodeW pck) ++ (listW F.roots ++ listW F.weak))
variable {unp pck}
theorem nodeP_some {l r : List Int} {x : NV} (h : nodeP unp l = some (x, r)) (hu : ∀ w v, 0 <= w -> unp w = some v -> pck v = w) (h0 : ∀ w ∈ l, 0 <= w) : nodeW pck x ++ r = l /\ r.length < l.length /\ (∀ w ∈ r, w ∈ l) := by
 cases l with
 | nil => cases h
 | cons w l =>
  simp only [nodeP] at h
  cases hw : unp w with
  | none => rw [hw] at h; cases h
  | some hv =>
   rw [hw] at h
   simp only at h
   cases ht : takeP hv.p.toNat l with
   | none => rw [ht] at h; cases h
   | some q =>
    obtain ⟨P, q⟩ := q
    rw [ht] at h
    simp only at h
    obtain ⟨_, _, _, _, e⟩ := takeP_some ht
    split at h
    ·cases h
     unfold nodeW
     simp only
     refine ⟨?_, ?_, fun y hy => ?_⟩
     ·rw [hu w hv (h0 w List.mem_cons_self) hw, List.cons_append, List.append_assoc, List.take_append_drop, e]
     ·rw [<- e]; simp; omega
     ·rw [<- e]
      exact List.mem_cons_of_mem _ (List.mem_append_right _ (List.mem_of_mem_drop hy))
    ·cases h
theorem nodesP_some (hu : ∀ w v, 0 <= w -> unp w = some v -> pck v = w) : ∀ (n : Nat) {l r : List Int} {N : List NV}, nodesP unp n l = some (N, r) -> (∀ w ∈ l, 0 <= w) -> N.length = n /\ N.flatMap (nodeW pck) ++ r = l /\ r.length + n <= l.length /\ ∀ w ∈ r, w ∈ l
 | 0, l, r, N, h, h0 => by
  simp only [nodesP] at h
  cases h
  exact ⟨rfl, rfl, by omega, fun _ h => h⟩
 | n + 1, l, r, N, h, h0 => by
  simp only [nodesP] at h
  cases hx : nodeP unp l with
  | none => rw [hx] at h; cases h
  | some q =>
   obtain ⟨x, q⟩ := q
   rw [hx] at h
   simp only at h
   obtain ⟨e1, l1, m1⟩ := nodeP_some (pck := pck) hx hu h0
   cases hn : nodesP unp n q with
   | none => rw [hn] at h; cases h
   | some p =>
    obtain ⟨N', q'⟩ := p
    rw [hn] at h
    simp only at h
    cases h
    obtain ⟨g1, g2, g3, g4⟩ := nodesP_some hu n hn fun w hw => h0 w (m1 w hw)
    refine ⟨by simp [g1], ?_, by omega, fun w hw => m1 w (g4 w hw)⟩
    rw [List.flatMap_cons, List.append_assoc, g2, e1]
theorem countP_some {l r P : List Int} (h : countP_ l = some (P, r)) (h0 : ∀ w ∈ l, 0 <= w) : listW P ++ r = l /\ ∀ w ∈ r, w ∈ l := by
 cases l with
 | nil => cases h
 | cons c l =>
  simp only [countP_] at h
  split at h
  ·rename_i hc
   obtain ⟨e1, e2, e3, _, e5⟩ := takeP_some h
   have hc0 := h0 c List.mem_cons_self
   refine ⟨?_, fun w hw => List.mem_cons_of_mem _ (by rw [e2] at hw; exact List.mem_of_mem_drop hw)⟩
   unfold listW
   rw [List.cons_append, e5]
   congr 1
   rw [e1, List.length_take]
   omega
  ·cases h
theorem takeP_app {P r : List Int} (h : ∀ x ∈ P, x <= 4194304) : takeP P.length (P ++ r) = some (P, r) := by
 unfold takeP
 rw [List.take_left, List.drop_left, if_pos ⟨by simp, h⟩]
theorem nodeP_app {x : NV} {r : List Int} (hu : unp (pck x.h) = some x.h) (hp : x.P.length = x.h.p.toNat) (hr : x.R.length = x.h.r.toNat) (hs : ∀ y ∈ x.P, y <= 4194304) : nodeP unp (nodeW pck x ++ r) = some (x, r) := by
 unfold nodeW nodeP
 rw [List.cons_append]
 simp only [hu]
 rw [<- hp, List.append_assoc, takeP_app hs]
 simp only
 rw [<- hr, if_pos (by simp), List.take_left, List.drop_left]
theorem nodesP_app : ∀ (N : List NV) {r : List Int}, (∀ x ∈ N, unp (pck x.h) = some x.h /\ x.P.length = x.h.p.toNat /\ x.R.length = x.h.r.toNat /\ ∀ y ∈ x.P, y <= 4194304) -> nodesP unp N.length (N.flatMap (nodeW pck) ++ r) = some (N, r)
 | [], r, _ => rfl
 | x :: N, r, h => by
  obtain ⟨h1, h2, h3, h4⟩ := h x List.mem_cons_self
  rw [List.flatMap_cons, List.length_cons, List.append_assoc]
  simp only [nodesP]
  rw [nodeP_app h1 h2 h3 h4]
  simp only
  rw [nodesP_app N fun y hy => h y (List.mem_cons_of_mem _ hy)]
theorem countP_app {P r : List Int} (h : ∀ x ∈ P, x <= 4194304) : countP_ (listW P ++ r) = some (P, r) := by
 unfold listW countP_
 rw [List.cons_append]
 simp only
 rw [if_pos (by simp; omega), Int.toNat_natCast, takeP_app h]
end
def meetP (n : Int) (least : Int) : Int -> List Int -> Option Int
 | met, [] => some met
 | met, k :: l => if least <= k /\ k <= n /\ k <= met + 1 then meetP n least (max met k) l else none
def hdP (h : HV) : Bool := decide ((0 <= h.p /\ h.p <= 4095) /\ (0 <= h.r /\ h.r <= 4095) /\ (0 <= h.site /\ h.site <= 31) /\ (0 <= h.age /\ h.age <= 7))
def nodesR (n : Int) : Int -> Int -> List NV -> Bool
 | _, _, [] => true
 | i, met, x :: N => decide (i < met) && (hdP x.h && (decide ((x.P.length : Int) = x.h.p) && (decide ((x.R.length : Int) = x.h.r) && (match meetP n 0 met x.P with | none => false | some m => nodesR n (i + 1) m N))))
def rightP (F : FV) : Bool := (match meetP F.nodes.length 1 0 F.roots with | none => false | some m => nodesR F.nodes.length 0 m F.nodes) && F.weak.all fun k => decide (0 <= k /\ k <= F.nodes.length)
def formP (unp : Int -> Option HV) (l : List Int) : Option FV :=
 match l with
 | [] => none
 | c :: r => if c <= r.length then match nodesP unp c.toNat r with
   | none => none
   | some (N, r1) => match countP_ r1 with
    | none => none
    | some (R, r2) => match countP_ r2 with
     | none => none
     | some (K, r3) => if r3 = [] /\ rightP ⟨N, R, K⟩ = true then some ⟨N, R, K⟩ else none
  else none
theorem meetP_le {n least : Int} : ∀ {l : List Int} {met m : Int}, meetP n least met l = some m -> ∀ k ∈ l, least <= k /\ k <= n
 | [], _, _, _, k, hk => by cases hk
 | x :: l, met, m, h, k, hk => by
  simp only [meetP] at h
  split at h
  ·rename_i hc
   rcases List.mem_cons.1 hk with rfl | hk
   ·exact ⟨hc.1, hc.2.1⟩
   ·exact meetP_le h k hk
  ·cases h
theorem nodesR_at {n : Int} : ∀ {N : List NV} {i met : Int}, nodesR n i met N = true -> ∀ x ∈ N, hdP x.h = true /\ (x.P.length : Int) = x.h.p /\ (x.R.length : Int) = x.h.r /\ ∀ k ∈ x.P, 0 <= k /\ k <= n
 | [], _, _, _, x, hx => by cases hx
 | y :: N, i, met, h, x, hx => by
  simp only [nodesR, Bool.and_eq_true, decide_eq_true_eq] at h
  obtain ⟨_, h2, h3, h4, h5⟩ := h
  cases hm : meetP n 0 met y.P with
  | none => rw [hm] at h5; cases h5
  | some m =>
   rw [hm] at h5
   rcases List.mem_cons.1 hx with rfl | hx
   ·exact ⟨h2, h3, h4, meetP_le hm⟩
   ·exact nodesR_at h5 x hx
theorem rightP_at {F : FV} (h : rightP F = true) : (∀ x ∈ F.nodes, hdP x.h = true /\ (x.P.length : Int) = x.h.p /\ (x.R.length : Int) = x.h.r /\ ∀ k ∈ x.P, 0 <= k /\ k <= F.nodes.length) /\ (∀ k ∈ F.roots, 1 <= k /\ k <= F.nodes.length) /\ ∀ k ∈ F.weak, 0 <= k /\ k <= F.nodes.length := by
 unfold rightP at h
 rw [Bool.and_eq_true] at h
 obtain ⟨h1, h2⟩ := h
 cases hm : meetP F.nodes.length 1 0 F.roots with
 | none => rw [hm] at h1; cases h1
 | some m =>
  rw [hm] at h1
  refine ⟨nodesR_at h1, meetP_le hm, fun k hk => ?_⟩
  have := List.all_eq_true.1 h2 k hk
  simpa using this
theorem formP_words {unp : Int -> Option HV} {pck : HV -> Int} (hu : ∀ h, hdP h = true -> unp (pck h) = some h) {F : FV} (h : rightP F = true) (hn : F.nodes.length <= 4194304) : formP unp (wordsW pck F) = some F := by
 obtain ⟨h1, h2, h3⟩ := rightP_at h
 unfold wordsW formP
 simp only
 have e := nodesP_app (unp := unp) (pck := pck) F.nodes (r := listW F.roots ++ listW F.weak) fun x hx => by
  obtain ⟨a, b, c, d⟩ := h1 x hx
  exact ⟨hu _ a, by omega, by omega, fun y hy => by have := (d y hy).2; omega⟩
 rw [if_pos ?_, Int.toNat_natCast, e]
 ·simp only
  rw [countP_app fun x hx => by have := (h2 x hx).2; omega]
  simp only
  have e2 := countP_app (P := F.weak) (r := []) fun x hx => by have := (h3 x hx).2; omega
  rw [List.append_nil] at e2
  rw [e2]
  simp only
  rw [if_pos ⟨trivial, h⟩]
 ·have : F.nodes.length <= (F.nodes.flatMap (nodeW pck)).length := by
   generalize F.nodes = N
   induction N with
   | nil => simp
   | cons x N ih =>
    rw [List.flatMap_cons, List.length_append, List.length_cons]
    have : 1 <= (nodeW pck x).length := by unfold nodeW; simp
    omega
  simp only [List.length_append]
  omega
end Go.Abs
namespace Go.Abs
open Go
structure RdS where
 left : List Int
 bad : Bool
def nextR (s : RdS) : Int × RdS := match s.left with | [] => (0, ⟨[], true⟩) | w :: l => (w, ⟨l, s.bad⟩)
def countR (s : RdS) : Int × RdS := if (nextR s).1 > (nextR s).2.left.length then (0, ⟨(nextR s).2.left, true⟩) else nextR s
def numberR (s : RdS) : Int × RdS := if (nextR s).1 > 4194304 then (0, ⟨(nextR s).2.left, true⟩) else nextR s
def takeR : Nat -> RdS -> List Int × RdS
 | 0, s => ([], s)
 | k + 1, s => ((numberR s).1 :: (takeR k (numberR s).2).1, (takeR k (numberR s).2).2)
def takeB (f : RdS -> Int × RdS) : Nat -> RdS -> List Int × RdS
 | 0, s => ([], s)
 | k + 1, s => if s.bad = true then ([], s) else ((f s).1 :: (takeB f k (f s).2).1, (takeB f k (f s).2).2)
def listR (s : RdS) : List Int × RdS := takeR (countR s).1.toNat (countR s).2
def zeroH : HV := ⟨0, 0, 0, 0, false⟩
section
variable (unp : Int -> Option HV)
def nodeR (s : RdS) : NV × RdS := match unp (nextR s).1 with
 | none => (⟨zeroH, [], []⟩, ⟨(nextR s).2.left, true⟩)
 | some h => (⟨h, (takeB numberR h.p.toNat (nextR s).2).1, (takeB nextR h.r.toNat (takeB numberR h.p.toNat (nextR s).2).2).1⟩, (takeB nextR h.r.toNat (takeB numberR h.p.toNat (nextR s).2).2).2)
def nodesB : Nat -> RdS -> List NV × RdS
 | 0, s => ([], s)
 | k + 1, s => if s.bad = true then ([], s) else ((nodeR unp s).1 :: (nodesB k (nodeR unp s).2).1, (nodesB k (nodeR unp s).2).2)
end
theorem next_bad {s : RdS} (h : s.bad = true) : (nextR s).2.bad = true := by
 unfold nextR
 split
 ·rfl
 ·exact h
theorem number_bad {s : RdS} (h : s.bad = true) : (numberR s).2.bad = true := by
 unfold numberR
 split
 ·rfl
 ·exact next_bad h
theorem count_bad {s : RdS} (h : s.bad = true) : (countR s).2.bad = true := by
 unfold countR
 split
 ·rfl
 ·exact next_bad h
theorem takeR_bad : ∀ (k : Nat) {s : RdS}, s.bad = true -> (takeR k s).2.bad = true
 | 0, _, h => h
 | k + 1, s, h => takeR_bad k (number_bad h)
theorem list_bad {s : RdS} (h : s.bad = true) : (listR s).2.bad = true := takeR_bad _ (count_bad h)
theorem takeB_bad (f : RdS -> Int × RdS) {k : Nat} {s : RdS} (h : s.bad = true) : takeB f k s = ([], s) := by
 cases k with
 | zero => rfl
 | succ k => unfold takeB; rw [if_pos h]
theorem takeP_zero (l : List Int) : takeP 0 l = some ([], l) := by unfold takeP; simp
theorem takeP_cons {n : Nat} {w : Int} {l : List Int} : takeP (n + 1) (w :: l) = if w <= 4194304 then (takeP n l).map fun q => (w :: q.1, q.2) else none := by
 unfold takeP
 by_cases hw : w <= 4194304
 ·rw [if_pos hw]
  by_cases hc : n <= l.length /\ ∀ x ∈ l.take n, x <= 4194304
  ·rw [if_pos hc, if_pos ⟨by simp; omega, fun x hx => by
    rw [List.take_succ_cons] at hx
    rcases List.mem_cons.1 hx with rfl | hx
    ·exact hw
    ·exact hc.2 x hx⟩]
   simp
  ·rw [if_neg hc, if_neg fun h => hc ⟨by have := h.1; simp at this; omega, fun x hx => h.2 x (by rw [List.take_succ_cons]; exact List.mem_cons_of_mem _ hx)⟩]
   rfl
 ·rw [if_neg hw, if_neg fun h => hw (h.2 w (by rw [List.take_succ_cons]; exact List.mem_cons_self))]
theorem takeP_nil {n : Nat} : takeP (n + 1) [] = none := by unfold takeP; rw [if_neg fun h => by have := h.1; simp at this]
theorem takeR_ok : ∀ (k : Nat) (l : List Int), match takeP k l with | some (P, r) => takeR k ⟨l, false⟩ = (P, ⟨r, false⟩) | none => (takeR k ⟨l, false⟩).2.bad = true
 | 0, l => by rw [takeP_zero]; rfl
 | k + 1, [] => by
  rw [takeP_nil]
  exact takeR_bad k rfl
 | k + 1, w :: l => by
  rw [takeP_cons]
  by_cases hw : w <= 4194304
  ·rw [if_pos hw]
   have hn : numberR ⟨w :: l, false⟩ = (w, ⟨l, false⟩) := by unfold numberR nextR; simp only; rw [if_neg (by omega)]
   have ih := takeR_ok k l
   cases ht : takeP k l with
   | none =>
    rw [ht] at ih
    simp only [Option.map_none]
    unfold takeR
    rw [hn]; exact ih
   | some q =>
    obtain ⟨P, r⟩ := q
    rw [ht] at ih
    simp only at ih
    simp only [Option.map_some]
    unfold takeR
    rw [hn]; simp only; rw [ih]
  ·rw [if_neg hw]
   simp only
   unfold takeR
   refine takeR_bad k ?_
   unfold numberR nextR
   simp only
   rw [if_pos (by omega)]
theorem takeB_ok : ∀ (k : Nat) (l : List Int), match takeP k l with | some (P, r) => takeB numberR k ⟨l, false⟩ = (P, ⟨r, false⟩) | none => (takeB numberR k ⟨l, false⟩).2.bad = true
 | 0, l => by rw [takeP_zero]; rfl
 | k + 1, [] => by
  rw [takeP_nil]
  simp only
  unfold takeB
  rw [if_neg (by decide)]
  rw [takeB_bad numberR (s := (numberR ⟨[], false⟩).2) rfl]
  rfl
 | k + 1, w :: l => by
  rw [takeP_cons]
  by_cases hw : w <= 4194304
  ·rw [if_pos hw]
   have hn : numberR ⟨w :: l, false⟩ = (w, ⟨l, false⟩) := by unfold numberR nextR; simp only; rw [if_neg (by omega)]
   have ih := takeB_ok k l
   cases ht : takeP k l with
   | none =>
    rw [ht] at ih
    simp only [Option.map_none]
    unfold takeB
    rw [if_neg (by simp), hn]; exact ih
   | some q =>
    obtain ⟨P, r⟩ := q
    rw [ht] at ih
    simp only at ih
    simp only [Option.map_some]
    unfold takeB
    rw [if_neg (by simp), hn]; simp only; rw [ih]
  ·rw [if_neg hw]
   simp only
   have hn : numberR ⟨w :: l, false⟩ = (0, ⟨l, true⟩) := by unfold numberR nextR; simp only; rw [if_pos (by omega)]
   unfold takeB
   rw [if_neg (by simp), hn]
   simp only
   rw [takeB_bad numberR (s := ⟨l, true⟩) rfl]
theorem rawB_ok : ∀ (k : Nat) (l : List Int), if k <= l.length then takeB nextR k ⟨l, false⟩ = (l.take k, ⟨l.drop k, false⟩) else (takeB nextR k ⟨l, false⟩).2.bad = true
 | 0, l => by simp [takeB]
 | k + 1, [] => by
  rw [if_neg (by simp)]
  unfold takeB
  rw [if_neg (by decide)]
  rw [takeB_bad nextR (s := (nextR ⟨[], false⟩).2) rfl]
  rfl
 | k + 1, w :: l => by
  have ih := rawB_ok k l
  have hn : nextR ⟨w :: l, false⟩ = (w, ⟨l, false⟩) := rfl
  by_cases hk : k <= l.length
  ·rw [if_pos hk] at ih
   rw [if_pos (by simp; omega)]
   unfold takeB
   rw [if_neg (by simp), hn]
   simp only
   rw [ih]; simp
  ·rw [if_neg hk] at ih
   rw [if_neg (by simp; omega)]
   unfold takeB
   rw [if_neg (by simp), hn]
   exact ih
section
variable {unp : Int -> Option HV}
theorem nodeR_ok (h0 : unp 0 = none) (l : List Int) : match nodeP unp l with | some (x, r) => nodeR unp ⟨l, false⟩ = (x, ⟨r, false⟩) | none => (nodeR unp ⟨l, false⟩).2.bad = true := by
 cases l with
 | nil =>
  show (nodeR unp ⟨[], false⟩).2.bad = true
  unfold nodeR
  have : (nextR ⟨[], false⟩).1 = 0 := rfl
  rw [this, h0]
 | cons w l =>
  have hn : nextR ⟨w :: l, false⟩ = (w, ⟨l, false⟩) := rfl
  unfold nodeP nodeR
  rw [hn]
  simp only
  cases hw : unp w with
  | none => simp only
  | some h =>
   simp only
   have t := takeB_ok h.p.toNat l
   cases ht : takeP h.p.toNat l with
   | none =>
    rw [ht] at t
    simp only at t ⊢
    rw [takeB_bad nextR t]; exact t
   | some q =>
    obtain ⟨P, r⟩ := q
    rw [ht] at t
    simp only at t ⊢
    rw [t]
    simp only
    have u := rawB_ok h.r.toNat r
    by_cases hr : h.r.toNat <= r.length
    ·rw [if_pos hr] at u ⊢
     simp only
     rw [u]
    ·rw [if_neg hr] at u ⊢
     exact u
theorem nodesB_bad {k : Nat} {s : RdS} (h : s.bad = true) : nodesB unp k s = ([], s) := by
 cases k with
 | zero => rfl
 | succ k => unfold nodesB; rw [if_pos h]
theorem nodesB_ok (h0 : unp 0 = none) : ∀ (k : Nat) (l : List Int), match nodesP unp k l with | some (N, r) => nodesB unp k ⟨l, false⟩ = (N, ⟨r, false⟩) | none => (nodesB unp k ⟨l, false⟩).2.bad = true
 | 0, l => rfl
 | k + 1, l => by
  have t := nodeR_ok h0 l
  unfold nodesP nodesB
  rw [if_neg (show ¬ (⟨l, false⟩ : RdS).bad = true by simp)]
  cases hx : nodeP unp l with
  | none =>
   rw [hx] at t
   simp only at t ⊢
   rw [nodesB_bad t]; exact t
  | some q =>
   obtain ⟨x, r⟩ := q
   rw [hx] at t
   simp only at t ⊢
   rw [t]
   simp only
   have ih := nodesB_ok h0 k r
   cases hn : nodesP unp k r with
   | none =>
    rw [hn] at ih
    exact ih
   | some q =>
    obtain ⟨N, r'⟩ := q
    rw [hn] at ih
    simp only at ih ⊢
    rw [ih]
theorem listR_ok (l : List Int) (h0 : ∀ w ∈ l, 0 <= w) : match countP_ l with | some (P, r) => listR ⟨l, false⟩ = (P, ⟨r, false⟩) | none => (listR ⟨l, false⟩).2.bad = true := by
 cases l with
 | nil =>
  show (listR ⟨[], false⟩).2.bad = true
  unfold listR
  exact takeR_bad _ (by unfold countR nextR; simp)
 | cons c l =>
  unfold countP_ listR
  simp only
  have hn : nextR ⟨c :: l, false⟩ = (c, ⟨l, false⟩) := rfl
  by_cases hc : c <= l.length
  ·have e : countR ⟨c :: l, false⟩ = (c, ⟨l, false⟩) := by unfold countR; rw [hn]; simp only; rw [if_neg (by omega)]
   rw [if_pos hc, e]
   exact takeR_ok c.toNat l
  ·have e : countR ⟨c :: l, false⟩ = (0, ⟨l, true⟩) := by unfold countR; rw [hn]; simp only; rw [if_pos (by omega)]
   rw [if_neg hc, e]
   exact takeR_bad _ rfl
def readF (unp : Int -> Option HV) (l : List Int) : FV × RdS :=
 (⟨(nodesB unp (countR ⟨l, false⟩).1.toNat (countR ⟨l, false⟩).2).1, (listR (nodesB unp (countR ⟨l, false⟩).1.toNat (countR ⟨l, false⟩).2).2).1, (listR (listR (nodesB unp (countR ⟨l, false⟩).1.toNat (countR ⟨l, false⟩).2).2).2).1⟩,
  (listR (listR (nodesB unp (countR ⟨l, false⟩).1.toNat (countR ⟨l, false⟩).2).2).2).2)
theorem readF_ok (h0 : unp 0 = none) (hu : ∃ pck : HV -> Int, ∀ w v, 0 <= w -> unp w = some v -> pck v = w) (l : List Int) (hl : ∀ w ∈ l, 0 <= w) : formP unp l = if (readF unp l).2.bad = false /\ (readF unp l).2.left = [] /\ rightP (readF unp l).1 = true then some (readF unp l).1 else none := by
 obtain ⟨pck, hu⟩ := hu
 have no : ∀ {s : RdS}, s.bad = true -> (listR (listR s).2).2.bad = true := fun h => list_bad (list_bad h)
 cases l with
 | nil =>
  have : (readF unp []).2.bad = true := no (by
   have : (countR ⟨[], false⟩).2.bad = true := by unfold countR nextR; simp
   rw [nodesB_bad this]; exact this)
  rw [if_neg (by rw [this]; simp)]; rfl
 | cons c l =>
  have hn : nextR ⟨c :: l, false⟩ = (c, ⟨l, false⟩) := rfl
  unfold formP
  simp only
  by_cases hc : c <= l.length
  ·rw [if_pos hc]
   have e : countR ⟨c :: l, false⟩ = (c, ⟨l, false⟩) := by unfold countR; rw [hn]; simp only; rw [if_neg (by omega)]
   have t := nodesB_ok h0 c.toNat l
   cases hx : nodesP unp c.toNat l with
   | none =>
    rw [hx] at t
    simp only at t ⊢
    rw [if_neg]
    unfold readF
    rw [e]
    simp only
    rw [no t]; simp
   | some q =>
    obtain ⟨N, r1⟩ := q
    rw [hx] at t
    simp only at t ⊢
    obtain ⟨_, _, _, hm⟩ := nodesP_some (pck := pck) hu _ hx fun w hw => hl w (List.mem_cons_of_mem _ hw)
    have h1 : ∀ w ∈ r1, 0 <= w := fun w hw => hl w (List.mem_cons_of_mem _ (hm w hw))
    have u := listR_ok r1 h1
    cases hr : countP_ r1 with
    | none =>
     rw [hr] at u
     simp only at u ⊢
     rw [if_neg]
     unfold readF
     rw [e]
     simp only
     rw [t]
     simp only
     rw [list_bad u]; simp
    | some q =>
     obtain ⟨R, r2⟩ := q
     rw [hr] at u
     simp only at u ⊢
     obtain ⟨_, hm2⟩ := countP_some hr h1
     have v := listR_ok r2 fun w hw => h1 w (hm2 w hw)
     cases hk : countP_ r2 with
     | none =>
      rw [hk] at v
      simp only at v ⊢
      rw [if_neg]
      unfold readF
      rw [e]
      simp only
      rw [t]
      simp only
      rw [u]
      simp only
      rw [v]; simp
     | some q =>
      obtain ⟨K, r3⟩ := q
      rw [hk] at v
      simp only at v ⊢
      have er : readF unp (c :: l) = (⟨N, R, K⟩, ⟨r3, false⟩) := by
       unfold readF
       rw [e]
       simp only
       rw [t]
       simp only
       rw [u]
       simp only
       rw [v]
      rw [er]
      simp only [true_and]
  ·rw [if_neg hc]
   have e : countR ⟨c :: l, false⟩ = (0, ⟨l, true⟩) := by unfold countR; rw [hn]; simp only; rw [if_pos (by omega)]
   rw [if_neg]
   unfold readF
   rw [e]
   simp only
   rw [no (by rw [nodesB_bad rfl])]; simp
end
end Go.Abs
namespace Go.Abs
open Go
def pck (h : HV) : Int := 4611686018427387904 + (if h.large = true then 4294967296 else 0) + h.age * 536870912 + h.site * 16777216 + h.r * 4096 + h.p
def hdr (w : Int) : HV := ⟨w % 4096, w / 4096 % 4096, w / 16777216 % 32, w / 536870912 % 8, decide (w / 4294967296 % 2 = 1)⟩
def unp (w : Int) : Option HV := if pck (hdr w) = w then some (hdr w) else none
theorem unp_zero : unp 0 = none := by decide
theorem unp_pck {w : Int} {v : HV} (h : unp w = some v) : pck v = w := by
 unfold unp at h
 split at h
 ·cases h; assumption
 ·cases h
theorem hdr_pck {h : HV} (k : hdP h = true) : hdr (pck h) = h := by
 obtain ⟨p, r, s, g, l⟩ := h
 simp only [hdP, decide_eq_true_eq] at k
 obtain ⟨k1, k2, k3, k4⟩ := k
 cases l with
 | true =>
  simp only [hdr, pck, if_true]
  congr 1
  ·omega
  ·omega
  ·omega
  ·omega
  ·exact decide_eq_true (by omega)
 | false =>
  simp only [hdr, pck, Bool.false_eq_true, if_false]
  congr 1
  ·omega
  ·omega
  ·omega
  ·omega
  ·exact decide_eq_false (by omega)
theorem unp_of {h : HV} (k : hdP h = true) : unp (pck h) = some h := by
 unfold unp
 rw [hdr_pck k, if_pos rfl]
theorem pck_rng {h : HV} (k : hdP h = true) : 0 <= pck h /\ pck h < 18446744073709551616 := by
 simp only [hdP, decide_eq_true_eq] at k
 obtain ⟨k1, k2, k3, k4⟩ := k
 unfold pck
 split <;> omega
abbrev formW (l : List Int) : Option FV := formP unp l
theorem formW_words {F : FV} (h : rightP F = true) (hn : F.nodes.length <= 4194304) : formW (wordsW pck F) = some F := formP_words (fun h k => unp_of k) h hn
def getW (l : List Int) : FV × Int := match formW l with | some F => (F, 0) | none => (⟨[], [], []⟩, 5)
end Go.Abs
