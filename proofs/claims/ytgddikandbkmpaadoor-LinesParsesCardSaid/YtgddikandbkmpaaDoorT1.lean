/-
  Numbers as texts, by definition, and that they are read back. No conditions.
-/
import Derived.Lib.SplitLaws
import Derived.Lib.Join
set_option linter.unusedVariables false
set_option linter.unusedSimpArgs false
set_option linter.constructorNameAsVariable false
set_option linter.unusedSimpArgs false
namespace Go.Abs
abbrev Bs := List UInt8
def digs (u : Nat) : Bs := if h : u < 10 then [UInt8.ofNat (48 + u)] else digs (u / 10) ++ [UInt8.ofNat (48 + u % 10)]
termination_by u
decreasing_by omega
def numT (n : Int) : Bs := if n < 0 then 45 :: digs (-n).toNat else digs n.toNat
def isD (c : UInt8) : Bool := decide (48 ≤ c.toNat ∧ c.toNat ≤ 57)
def valF (a : Nat) (d : Bs) : Nat := d.foldl (fun u c => u * 10 + (c.toNat - 48)) a
def noSign (s : Bs) : Bs := if s.head? = some 45 then s.tail else s
def numR (s : Bs) : Int × Nat :=
 if noSign s = [] ∨ ((noSign s).head? = some 48 ∧ 1 < s.length) then (0, 5)
 else if (noSign s).all isD = false then (0, 5)
 else if 19 < (noSign s).length then (0, 2)
 else if (noSign s).length = s.length then (if 9223372036854775807 < valF 0 s then (0, 2) else ((valF 0 s : Int), 0))
 else (if 9223372036854775808 < valF 0 (noSign s) then (0, 2) else (-(valF 0 (noSign s) : Int), 0))
theorem valF_append (a : Nat) (d e : Bs) : valF a (d ++ e) = valF (valF a d) e := by unfold valF; rw [List.foldl_append]
theorem u8n {k : Nat} (h : k < 256) : (UInt8.ofNat k).toNat = k := by
 rw [UInt8.toNat_ofNat']; exact Nat.mod_eq_of_lt h
theorem digs_ne (u : Nat) : digs u ≠ [] := by
 unfold digs; split
 ·simp
 ·simp
theorem digs_val (u : Nat) : valF 0 (digs u) = u := by
 induction u using Nat.strongRecOn with
 | _ u ih =>
  unfold digs
  split
  ·rename_i h
   simp only [valF, List.foldl_cons, List.foldl_nil]
   rw [u8n (by omega)]; omega
  ·rename_i h
   rw [valF_append, ih (u / 10) (by omega)]
   simp only [valF, List.foldl_cons, List.foldl_nil]
   rw [u8n (by omega)]; omega
theorem digs_dig (u : Nat) : (digs u).all isD = true := by
 induction u using Nat.strongRecOn with
 | _ u ih =>
  unfold digs
  split
  ·rename_i h
   simp only [List.all_cons, List.all_nil, Bool.and_true, isD, decide_eq_true_eq]
   rw [u8n (by omega)]; omega
  ·rename_i h
   rw [List.all_append, ih (u / 10) (by omega)]
   simp only [List.all_cons, List.all_nil, Bool.and_true, Bool.true_and, isD, decide_eq_true_eq]
   rw [u8n (by omega)]; omega
theorem digs_head {u : Nat} (h : 0 < u) : ∃ c t, digs u = c :: t ∧ c ≠ 48 ∧ c ≠ 45 := by
 induction u using Nat.strongRecOn with
 | _ u ih =>
  unfold digs
  split
  ·rename_i h1
   refine ⟨_, [], rfl, fun e => ?_, fun e => ?_⟩
   ·have := congrArg UInt8.toNat e
    rw [u8n (by omega)] at this
    have q : (48 : UInt8).toNat = 48 := rfl
    omega
   ·have := congrArg UInt8.toNat e
    rw [u8n (by omega)] at this
    have q : (45 : UInt8).toNat = 45 := rfl
    omega
  ·rename_i h1
   obtain ⟨c, t, e, h2, h3⟩ := ih (u / 10) (by omega) (by omega)
   exact ⟨c, t ++ [UInt8.ofNat (48 + u % 10)], by rw [e]; rfl, h2, h3⟩
theorem digs_zero : digs 0 = [48] := by unfold digs; rfl
theorem digs_len {u k : Nat} (hk : 0 < k) (h : u < 10 ^ k) : (digs u).length ≤ k := by
 induction k generalizing u with
 | zero => omega
 | succ k ih =>
  unfold digs
  split
  ·simp
  ·rename_i h1
   rw [List.length_append, List.length_singleton]
   rcases Nat.eq_zero_or_pos k with e | e
   ·subst e; omega
   ·have := ih e (u := u / 10) (by rw [Nat.pow_succ] at h; omega)
    omega
theorem digs_ns (u : Nat) : (digs u).head? ≠ some 45 := by
 rcases Nat.eq_zero_or_pos u with e | e
 ·subst e; rw [digs_zero]; decide
 ·obtain ⟨c, t, h1, h2, h3⟩ := digs_head e
  rw [h1]; simpa using h3
theorem numR_numT {n : Int} (h0 : -9223372036854775808 ≤ n) (h1 : n ≤ 9223372036854775807) : numR (numT n) = (n, 0) := by
 by_cases c : n < 0
 ·have ns : noSign (numT n) = digs (-n).toNat := by unfold numT noSign; rw [if_pos c]; rfl
  have pos : 0 < (-n).toNat := by omega
  obtain ⟨x, t, e, h2, h3⟩ := digs_head pos
  have len := digs_len (u := (-n).toNat) (k := 19) (by decide) (by omega)
  unfold numR
  rw [ns, if_neg, if_neg, if_neg (by omega), if_neg, digs_val, if_neg (by omega)]
  ·congr 1; omega
  ·unfold numT; rw [if_pos c]; simp
  ·rw [digs_dig]; simp
  ·rw [e]; simp [h2]
 ·have tn : numT n = digs n.toNat := by unfold numT; rw [if_neg c]
  have ns : noSign (numT n) = digs n.toNat := by rw [tn]; unfold noSign; rw [if_neg (digs_ns _)]
  have len := digs_len (u := n.toNat) (k := 19) (by decide) (by omega)
  unfold numR
  rw [ns, if_neg, if_neg, if_neg (by omega), if_pos (by rw [tn]), tn, digs_val, if_neg (by omega)]
  ·congr 1; omega
  ·rw [digs_dig]; simp
  ·rw [tn]
   rcases Nat.eq_zero_or_pos n.toNat with e | e
   ·rw [e, digs_zero]; simp
   ·obtain ⟨x, t, e, h2, h3⟩ := digs_head e
    rw [e]; simp [h2]
theorem valF_lt (a : Nat) : ∀ d : Bs, d.all isD = true → valF a d < (a + 1) * 10 ^ d.length
 | [], _ => by simp [valF]
 | c :: d, h => by
  simp only [List.all_cons, Bool.and_eq_true] at h
  have hc := h.1
  simp only [isD, decide_eq_true_eq] at hc
  have := valF_lt (a * 10 + (c.toNat - 48)) d h.2
  show valF (a * 10 + (c.toNat - 48)) d < _
  refine Nat.lt_of_lt_of_le this ?_
  rw [List.length_cons, Nat.pow_succ, Nat.mul_comm (10 ^ d.length) 10, ← Nat.mul_assoc]
  exact Nat.mul_le_mul_right _ (by omega)
theorem valF_ge (a : Nat) : ∀ d : Bs, a * 10 ^ d.length ≤ valF a d
 | [] => by simp [valF]
 | c :: d => by
  have := valF_ge (a * 10 + (c.toNat - 48)) d
  show _ ≤ valF (a * 10 + (c.toNat - 48)) d
  refine Nat.le_trans ?_ this
  rw [List.length_cons, Nat.pow_succ, Nat.mul_comm (10 ^ d.length) 10, ← Nat.mul_assoc]
  exact Nat.mul_le_mul_right _ (by omega)
theorem digs_of (d : Bs) (h : d.all isD = true) (hne : d ≠ []) (h0 : d.head? = some 48 → d.length = 1) : digs (valF 0 d) = d := by
 generalize hn : d.length = n
 induction n using Nat.strongRecOn generalizing d with
 | _ n ih =>
  obtain ⟨e, c, rfl⟩ : ∃ e c, d = e ++ [c] := ⟨d.dropLast, d.getLast hne, (List.dropLast_concat_getLast hne).symm⟩
  rw [List.all_append, Bool.and_eq_true] at h
  have hc : 48 ≤ c.toNat ∧ c.toNat ≤ 57 := by
   have := h.2
   simpa [isD] using this
  have val : valF 0 (e ++ [c]) = valF 0 e * 10 + (c.toNat - 48) := by rw [valF_append]; rfl
  have back : UInt8.ofNat (48 + (c.toNat - 48)) = c := by
   apply UInt8.toNat_inj.1
   rw [u8n (by omega)]; omega
  rw [val]
  cases e with
  | nil =>
   unfold digs
   rw [dif_pos (by show valF 0 [] * 10 + _ < 10; simp only [valF, List.foldl_nil]; omega)]
   simp only [valF, List.foldl_nil, List.nil_append]
   rw [show 48 + (0 * 10 + (c.toNat - 48)) = 48 + (c.toNat - 48) by omega, back]
  | cons x e =>
   have hx : x ≠ 48 := fun ex => by
    have := h0 (by simp [ex])
    simp at this
   have hxd : 48 ≤ x.toNat ∧ x.toNat ≤ 57 := by
    have := h.1
    simp only [List.all_cons, Bool.and_eq_true, isD, decide_eq_true_eq] at this
    exact this.1
   have hx1 : 1 ≤ x.toNat - 48 := by
    rcases Nat.lt_or_ge 48 x.toNat with q | q
    ·omega
    ·exact absurd (UInt8.toNat_inj.1 (show x.toNat = (48 : UInt8).toNat by show _ = 48; omega)) hx
   have g : 1 ≤ valF 0 (x :: e) := by
    have := valF_ge (x.toNat - 48) e
    have p : 0 < 10 ^ e.length := Nat.pos_of_ne_zero (by simp)
    have q : valF 0 (x :: e) = valF (x.toNat - 48) e := by simp [valF]
    rw [q]
    refine Nat.le_trans ?_ this
    exact Nat.le_trans hx1 (Nat.le_mul_of_pos_right _ p)
   unfold digs
   rw [dif_neg (by omega)]
   have q1 : (valF 0 (x :: e) * 10 + (c.toNat - 48)) / 10 = valF 0 (x :: e) := by omega
   have q2 : (valF 0 (x :: e) * 10 + (c.toNat - 48)) % 10 = c.toNat - 48 := by omega
   rw [q1, q2, back, ih _ (by simp at hn; simp; omega) (x :: e) h.1 (by simp) (fun q => absurd (by simpa using q) hx) rfl]
theorem numT_numR {s : Bs} {n : Int} (h : numR s = (n, 0)) : numT n = s ∧ -9223372036854775808 ≤ n ∧ n ≤ 9223372036854775807 := by
 unfold numR at h
 split at h
 ·simp at h
 rename_i c1
 split at h
 ·simp at h
 rename_i c2
 split at h
 ·simp at h
 rename_i c3
 have hd : (noSign s).all isD = true := by simpa using c2
 have hne : noSign s ≠ [] := fun e => c1 (.inl e)
 split at h
 ·rename_i c4
  split at h
  ·simp at h
  rename_i c5
  simp only [Prod.mk.injEq, and_true] at h
  have es : noSign s = s := by
   unfold noSign at c4 hne ⊢
   split at c4
   ·rename_i q
    cases s with
    | nil => simp at q
    | cons x s => simp at c4
   ·rename_i q; rw [if_neg q]
  rw [es] at hd hne c1
  subst h
  refine ⟨?_, by omega, by omega⟩
  unfold numT
  rw [if_neg (by omega), Int.toNat_natCast]
  refine digs_of s hd hne fun q => ?_
  have := mt (fun r => (Or.inr ⟨q, r⟩ : s = [] ∨ (s.head? = some 48 ∧ 1 < s.length))) c1
  have : s.length ≠ 0 := fun e => hne (List.eq_nil_of_length_eq_zero e)
  omega
 ·rename_i c4
  split at h
  ·simp at h
  rename_i c5
  simp only [Prod.mk.injEq, and_true] at h
  obtain ⟨t, rfl⟩ : ∃ t, s = 45 :: t := by
   unfold noSign at c4
   split at c4
   ·rename_i q
    cases s with
    | nil => simp at q
    | cons x s =>
     simp only [List.head?_cons, Option.some.injEq] at q
     exact ⟨s, by rw [q]⟩
   ·exact absurd rfl c4
  have ns : noSign (45 :: t) = t := rfl
  rw [ns] at hd hne c1 c5 h
  have nz : t.head? ≠ some 48 := fun q => c1 (.inr ⟨q, by
   have : t.length ≠ 0 := fun e => hne (List.eq_nil_of_length_eq_zero e)
   simp; omega⟩)
  have pos : 0 < valF 0 t := by
   cases t with
   | nil => exact absurd rfl hne
   | cons x t =>
    simp only [List.all_cons, Bool.and_eq_true, isD, decide_eq_true_eq] at hd
    have hx1 : 1 ≤ x.toNat - 48 := by
     rcases Nat.lt_or_ge 48 x.toNat with q | q
     ·omega
     ·exact absurd (by rw [UInt8.toNat_inj.1 (show x.toNat = (48 : UInt8).toNat by show _ = 48; omega)]; rfl) nz
    have := valF_ge (x.toNat - 48) t
    have p : 0 < 10 ^ t.length := Nat.pos_of_ne_zero (by simp)
    have q : valF 0 (x :: t) = valF (x.toNat - 48) t := by simp [valF]
    rw [q]
    exact Nat.lt_of_lt_of_le hx1 (Nat.le_trans (Nat.le_mul_of_pos_right _ p) this)
  subst h
  refine ⟨?_, by omega, by omega⟩
  unfold numT
  rw [if_pos (by omega), show (- -(valF 0 t : Int)).toNat = valF 0 t by omega, digs_of t hd hne fun q => absurd q nz]
theorem val_big {d : Bs} (h : d.all isD = true) (h0 : d.head? ≠ some 48) (hl : 19 < d.length) : 9223372036854775808 < valF 0 d := by
 cases d with
 | nil => simp at hl
 | cons x t =>
  simp only [List.all_cons, Bool.and_eq_true, isD, decide_eq_true_eq] at h
  have hx1 : 1 ≤ x.toNat - 48 := by
   rcases Nat.lt_or_ge 48 x.toNat with q | q
   ·omega
   ·exact absurd (by rw [UInt8.toNat_inj.1 (show x.toNat = (48 : UInt8).toNat by show _ = 48; omega)]; rfl) h0
  have := valF_ge (x.toNat - 48) t
  have p : 10 ^ 19 ≤ 10 ^ t.length := Nat.pow_le_pow_right (by decide) (by simp at hl; omega)
  have q : valF 0 (x :: t) = valF (x.toNat - 48) t := by simp [valF]
  rw [q]
  have : 10 ^ 19 ≤ (x.toNat - 48) * 10 ^ t.length := Nat.le_trans p (Nat.le_mul_of_pos_left _ hx1)
  omega
end Go.Abs
namespace Go.Abs
def fig (d : Nat) : UInt8 := if d < 10 then UInt8.ofNat (48 + d) else UInt8.ofNat (87 + d)
def figV (c : UInt8) : Option Nat := if 48 ≤ c.toNat ∧ c.toNat ≤ 57 then some (c.toNat - 48) else if 97 ≤ c.toNat ∧ c.toNat ≤ 102 then some (c.toNat - 87) else none
def hexN : Nat → Nat → Bs
 | 0, _ => []
 | k + 1, w => hexN k (w / 16) ++ [fig (w % 16)]
def hexF : Nat → Bs → Option Nat
 | a, [] => some a
 | a, c :: s => match figV c with | some d => hexF (a * 16 + d) s | none => none
def hexT (w : Nat) : Bs := hexN 16 w
def hexR (s : Bs) : Option Nat := if s.length = 16 then hexF 0 s else none
theorem fig_nat {d : Nat} (h : d < 16) : (fig d).toNat = if d < 10 then 48 + d else 87 + d := by
 unfold fig; split <;> rw [u8n (by omega)]
theorem figV_fig {d : Nat} (h : d < 16) : figV (fig d) = some d := by
 unfold figV
 rw [fig_nat h]
 by_cases c : d < 10
 ·rw [if_pos c, if_pos (by omega)]; congr 1; omega
 ·rw [if_neg c, if_neg (by omega), if_pos (by omega)]; congr 1; omega
theorem fig_figV {c : UInt8} {d : Nat} (h : figV c = some d) : fig d = c ∧ d < 16 := by
 unfold figV at h
 split at h
 ·simp only [Option.some.injEq] at h
  refine ⟨UInt8.toNat_inj.1 ?_, by omega⟩
  rw [fig_nat (by omega), if_pos (by omega)]; omega
 ·split at h
  ·simp only [Option.some.injEq] at h
   refine ⟨UInt8.toNat_inj.1 ?_, by omega⟩
   rw [fig_nat (by omega), if_neg (by omega)]; omega
  ·cases h
theorem hexN_len : ∀ (k w : Nat), (hexN k w).length = k
 | 0, _ => rfl
 | k + 1, w => by rw [hexN, List.length_append, hexN_len k, List.length_singleton]
theorem hexF_append : ∀ (s t : Bs) (a : Nat), hexF a (s ++ t) = (hexF a s).bind fun b => hexF b t
 | [], t, a => rfl
 | c :: s, t, a => by
  simp only [List.cons_append, hexF]
  cases figV c with
  | none => rfl
  | some d => exact hexF_append s t _
theorem hexF_hexN : ∀ (k w a : Nat), w < 16 ^ k → hexF a (hexN k w) = some (a * 16 ^ k + w)
 | 0, w, a, h => by simp only [hexN, hexF, Nat.pow_zero] at *; congr 1; omega
 | k + 1, w, a, h => by
  have h2 : w / 16 < 16 ^ k := by rw [Nat.pow_succ] at h; exact Nat.div_lt_of_lt_mul (by rw [Nat.mul_comm]; exact h)
  rw [hexN, hexF_append, hexF_hexN k (w / 16) a h2]
  simp only [Option.bind_some, hexF, figV_fig (Nat.mod_lt w (by decide : 0 < 16))]
  congr 1
  rw [Nat.pow_succ, ← Nat.mul_assoc]
  generalize a * 16 ^ k = z
  omega
theorem hexR_hexT {w : Nat} (h : w < 18446744073709551616) : hexR (hexT w) = some w := by
 unfold hexR hexT
 rw [if_pos (hexN_len 16 w), hexF_hexN 16 w 0 (by omega)]; congr 1; omega
theorem hexF_lt : ∀ (s : Bs) (a b : Nat), hexF a s = some b → b < (a + 1) * 16 ^ s.length
 | [], a, b, h => by simp only [hexF, Option.some.injEq] at h; simp; omega
 | c :: s, a, b, h => by
  simp only [hexF] at h
  cases hc : figV c with
  | none => rw [hc] at h; cases h
  | some d =>
   rw [hc] at h
   have := hexF_lt s _ _ h
   refine Nat.lt_of_lt_of_le this ?_
   rw [List.length_cons, Nat.pow_succ, Nat.mul_comm (16 ^ s.length) 16, ← Nat.mul_assoc]
   have := (fig_figV hc).2
   exact Nat.mul_le_mul_right _ (by omega)
theorem hexN_hexF (s : Bs) : ∀ (b : Nat), hexF 0 s = some b → hexN s.length b = s := by
 generalize hn : s.length = n
 induction n generalizing s with
 | zero => intro b h; rw [List.eq_nil_of_length_eq_zero hn]; rfl
 | succ n ih =>
  intro b h
  have hne : s ≠ [] := fun e => by rw [e] at hn; cases hn
  obtain ⟨e, c, rfl⟩ : ∃ e c, s = e ++ [c] := ⟨s.dropLast, s.getLast hne, (List.dropLast_concat_getLast hne).symm⟩
  rw [hexF_append] at h
  cases he : hexF 0 e with
  | none => rw [he] at h; cases h
  | some a =>
   rw [he] at h
   simp only [Option.bind_some, hexF] at h
   cases hc : figV c with
   | none => rw [hc] at h; cases h
   | some d =>
    rw [hc] at h
    simp only [Option.some.injEq] at h
    obtain ⟨q1, q2⟩ := fig_figV hc
    rw [hexN, show b / 16 = a by omega, show b % 16 = d by omega, q1, ih e (by simp at hn; exact hn) a he]
theorem hexT_hexR {s : Bs} {w : Nat} (h : hexR s = some w) : hexT w = s ∧ w < 18446744073709551616 := by
 unfold hexR at h
 split at h
 ·rename_i hl
  have h1 := hexN_hexF s w h
  have h2 := hexF_lt s 0 w h
  rw [hl] at h1 h2
  exact ⟨h1, by simpa using h2⟩
 ·cases h
def cutB (c : UInt8) : Bs → List Bs
 | [] => [[]]
 | x :: s => if x = c then [] :: cutB c s else match cutB c s with | [] => [[x]] | w :: ws => (x :: w) :: ws
def joinS (c : UInt8) : List Bs → Bs
 | [] => []
 | [w] => w
 | w :: v :: ws => w ++ c :: joinS c (v :: ws)
theorem cutB_ne (c : UInt8) : ∀ s, cutB c s ≠ []
 | [] => by simp [cutB]
 | x :: s => by
  unfold cutB
  split
  ·simp
  ·split <;> simp
theorem join_cut (c : UInt8) : ∀ s, joinS c (cutB c s) = s
 | [] => rfl
 | x :: s => by
  have ih := join_cut c s
  have ne := cutB_ne c s
  unfold cutB
  split
  ·rename_i e
   subst e
   cases h : cutB x s with
   | nil => exact absurd h ne
   | cons w ws => rw [h] at ih; show [] ++ x :: joinS x (w :: ws) = _; rw [ih]; rfl
  ·cases h : cutB c s with
   | nil => exact absurd h ne
   | cons w ws =>
    rw [h] at ih
    show joinS c ((x :: w) :: ws) = _
    cases ws with
    | nil => show x :: w = _; rw [← ih]; rfl
    | cons v ws => show (x :: w) ++ c :: joinS c (v :: ws) = _; rw [← ih]; rfl
theorem cut_free (c : UInt8) : ∀ {w : Bs}, c ∉ w → cutB c w = [w]
 | [], _ => rfl
 | x :: w, h => by
  simp only [List.mem_cons, not_or] at h
  unfold cutB
  rw [if_neg (fun e => h.1 e.symm), cut_free c h.2]
theorem cut_app (c : UInt8) : ∀ {w : Bs} (s : Bs), c ∉ w → cutB c (w ++ c :: s) = w :: cutB c s
 | [], s, _ => by
  show cutB c (c :: s) = _
  conv => lhs; unfold cutB
  rw [if_pos rfl]
 | x :: w, s, h => by
  simp only [List.mem_cons, not_or] at h
  show cutB c (x :: (w ++ c :: s)) = _
  conv => lhs; unfold cutB
  rw [if_neg (fun e => h.1 e.symm), cut_app c s h.2]
theorem cut_join (c : UInt8) : ∀ {ws : List Bs}, ws ≠ [] → (∀ w ∈ ws, c ∉ w) → cutB c (joinS c ws) = ws
 | [], h, _ => absurd rfl h
 | [w], _, h => cut_free c (h w (by simp))
 | w :: v :: ws, _, h => by
  show cutB c (w ++ c :: joinS c (v :: ws)) = _
  rw [cut_app c _ (h w (by simp)), cut_join c (by simp) fun u hu => h u (List.mem_cons_of_mem _ hu)]
theorem joinS_cons (c : UInt8) (w : Bs) {ws : List Bs} (h : ws ≠ []) : joinS c (w :: ws) = w ++ c :: joinS c ws := by
 cases ws with
 | nil => exact absurd rfl h
 | cons v ws => rfl
theorem joinS_snoc (c : UInt8) : ∀ {ws : List Bs} (w : Bs), ws ≠ [] → joinS c (ws ++ [w]) = joinS c ws ++ c :: w
 | [], _, h => absurd rfl h
 | [v], w, _ => rfl
 | v :: u :: ws, w, _ => by
  show v ++ c :: joinS c (u :: ws ++ [w]) = (v ++ c :: joinS c (u :: ws)) ++ c :: w
  rw [joinS_snoc c w (by simp)]; simp
end Go.Abs
namespace Go.Abs
theorem idx_cons (x c : UInt8) (s : Bs) : Lib.index (x :: s) [c] = if x = c then 0 else if Lib.index s [c] == -1 then -1 else Lib.index s [c] + 1 := by
 rw [Lib.index]
 by_cases h : x = c
 ·subst h; simp [List.isPrefixOf]
 ·have : ([c] : List UInt8).isPrefixOf (x :: s) = false := by simp [List.isPrefixOf, Ne.symm h]
  rw [this, if_neg h]; rfl
theorem split_cut (c : UInt8) : ∀ s : Bs, Lib.splitK [c] 0 (Lib.count s [c]) s = cutB c s
 | [] => by rw [Lib.count_one]; rfl
 | x :: s => by
  have ih := split_cut c s
  by_cases h : x = c
  ·subst h
   rw [Lib.count_cons_eq, Nat.add_comm]
   unfold Lib.splitK cutB
   rw [idx_cons, if_pos rfl, if_pos rfl, if_neg (by decide)]
   show [] :: Lib.splitK [x] 0 (Lib.count s [x]) s = _
   rw [ih]
  ·rw [Lib.count_cons_ne x c s h]
   conv => rhs; unfold cutB
   rw [if_neg h]
   cases hk : Lib.count s [c] with
   | zero =>
    rw [hk] at ih
    rw [← ih]; rfl
   | succ k =>
    rw [hk] at ih
    unfold Lib.splitK at ih ⊢
    rw [idx_cons, if_neg h]
    by_cases hi : (Lib.index s [c] == -1) = true
    ·rw [if_pos hi] at ih
     rw [if_pos hi, if_pos (by decide), ← ih]
    ·rw [if_neg hi] at ih
     have hge := Lib.index_ge s [c]
     have hne : Lib.index s [c] ≠ -1 := fun e => hi (by rw [e]; rfl)
     have e2 : ¬ ((Lib.index s [c] + 1 == -1) = true) := fun e => by have := beq_iff_eq.1 e; omega
     rw [if_neg hi, if_neg e2, ← ih, show (Lib.index s [c] + 1).toNat = (Lib.index s [c]).toNat + 1 by omega]
     simp only [Nat.add_zero, List.take_succ_cons, List.length_singleton, List.drop_succ_cons]
theorem join_is (c : UInt8) : ∀ ws : List Bs, Lib.join ws [c] = joinS c ws
 | [] => rfl
 | [w] => by simp [Lib.join, joinS, List.intercalate]
 | w :: v :: ws => by
  have ih := join_is c (v :: ws)
  show _ = w ++ c :: joinS c (v :: ws)
  rw [← ih]
  simp [Lib.join, List.intercalate]
end Go.Abs
