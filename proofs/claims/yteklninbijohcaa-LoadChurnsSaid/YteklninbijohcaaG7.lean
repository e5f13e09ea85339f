/-
  Layer 44: numbers that nobody would guess. No conditions.
-/
import Derived.Test.YteklninbijohcaaG6
set_option linter.unusedVariables false
set_option linter.unusedSimpArgs false
set_option linter.constructorNameAsVariable false
set_option linter.unusedSimpArgs false
set_option linter.unusedVariables false
set_option linter.unusedSectionVars false
set_option maxHeartbeats 1000000
namespace Go.Abs.Try
open Go Go.Abs
variable {O : Type}

def nxt (s : Int) : Int := IntKind.u64.wrap (IntKind.u64.wrap (s * 6364136223846793005) + 1442695040888963407)
def below (s n : Int) : Int := if n < 1 then 0 else (s / 4294967296) % n
theorem nxt_rng (s : Int) : 0 ≤ nxt s ∧ nxt s < 18446744073709551616 := by
  unfold nxt
  rw [wrap_u64]; omega
theorem below_rng {s n : Int} : 0 ≤ below s n ∧ below s n ≤ 9223372036854775807 ∨ n > 9223372036854775807 := by
  unfold below
  split
  · exact .inl (by omega)
  · by_cases h : n > 9223372036854775807
    · exact .inr h
    · have h1 := Int.emod_nonneg (s / 4294967296) (show n ≠ 0 by omega)
      have h2 := Int.emod_lt_of_pos (s / 4294967296) (show 0 < n by omega)
      exact .inl (by omega)
theorem fdiv32 (n : Int) : Int.fdiv n (2 ^ 32) = n / 4294967296 := Int.fdiv_eq_ediv_of_nonneg _ (by decide)
theorem rnext {σ : AH O} {s : Int} : haymowref44_Next [.i .u64 s] σ = some (.i .u64 (nxt s), σ) := by
  simp -implicitDefEqProofs only [haymowref44_Next, haymowref44_Next_c, rsU, nxt]
theorem rbelow {σ : AH O} {s n : Int} (hs : 0 ≤ s ∧ s < 18446744073709551616) (hn : -9223372036854775808 ≤ n ∧ n ≤ 9223372036854775807) : haymowref44_Below [.i .u64 s, .i .i64 n] σ = some (.i .i64 (below s n), σ) := by
  by_cases c : n < 1
  · have c1 := decide_eq_true c
    have e : below s n = 0 := if_pos c
    simp (config := { maxSteps := 2000000 }) -implicitDefEqProofs (disch := (first | omega | rfl | assumption | (simp only [rsD]; first | omega | assumption))) only [haymowref44_Below, haymowref44_Below_c, c1, e, Nat.reduceAdd, Nat.reduceMul, Nat.reduceLT, Int.reduceToNat, Int.reduceAdd, Int.reduceSub, Int.reduceMul, rsU, rsC]
  · have c1 := decide_eq_false c
    have e : below s n = (s / 4294967296) % n := if_neg c
    have z := s_eqF (show n ≠ 0 by omega)
    have h1 := Int.emod_nonneg (s / 4294967296) (show n ≠ 0 by omega)
    have h2 := Int.emod_lt_of_pos (s / 4294967296) (show 0 < n by omega)
    have t1 := s_tdiv (b := 4294967296) hs.1
    have t2 := s_tmod (a := s / 4294967296) (b := n) (by omega)
    rw [e]
    simp (config := { maxSteps := 2000000 }) -implicitDefEqProofs (disch := (first | omega | rfl | assumption | (simp only [rsD]; first | omega | assumption))) only [haymowref44_Below, haymowref44_Below_c, c1, z, t1, t2, Nat.reduceAdd, Nat.reduceMul, Nat.reduceLT, Int.reduceToNat, Int.reduceAdd, Int.reduceSub, Int.reduceMul, rsU, rsC]
theorem dbelow {σ : AH O} {db el : Nat} {s n : Int} (hb : σ.blk db = some (.cells true el [.i .u64 s])) (hn : -9223372036854775808 ≤ n ∧ n ≤ 9223372036854775807) : load_Dice__Below [.p (some (.n db, 0)), .i .i64 n] σ = some (.i .i64 (below (nxt s) n), σ.put db (.cells true el [.i .u64 (nxt s)])) := by
  have hr := nxt_rng s
  have en : IntKind.u64.wrap (IntKind.u64.wrap (s * 6364136223846793005) + 1442695040888963407) = nxt s := rfl
  by_cases c : n < 1
  · have c1 := decide_eq_true c
    have e : below (nxt s) n = 0 := if_pos c
    simp (config := { maxSteps := 2000000 }) -implicitDefEqProofs (disch := (first | omega | rfl | assumption | (simp only [rsD]; first | omega | assumption))) only [load_Dice__Below, load_Dice__Below_c, hb, c1, e, en, Nat.reduceAdd, Nat.reduceMul, Nat.reduceLT, Int.reduceToNat, Int.reduceAdd, Int.reduceSub, Int.reduceMul, rsU, rsC]
  · have c1 := decide_eq_false c
    have e : below (nxt s) n = (nxt s / 4294967296) % n := if_neg c
    have z := s_eqF (show n ≠ 0 by omega)
    have h1 := Int.emod_nonneg (nxt s / 4294967296) (show n ≠ 0 by omega)
    have h2 := Int.emod_lt_of_pos (nxt s / 4294967296) (show 0 < n by omega)
    have t1 := fdiv32 (nxt s)
    have t2 := s_tmod (a := nxt s / 4294967296) (b := n) (by omega)
    rw [e]
    simp (config := { maxSteps := 2000000 }) -implicitDefEqProofs (disch := (first | omega | rfl | assumption | (simp only [rsD]; first | omega | assumption))) only [load_Dice__Below, load_Dice__Below_c, hb, c1, z, en, t1, t2, Nat.reduceAdd, Nat.reduceMul, Nat.reduceLT, Int.reduceToNat, Int.reduceAdd, Int.reduceSub, Int.reduceMul, rsU, rsC]
/-- the next ones below some -/
def nums (s : Int) : List Int → List Int × Int
  | [] => ([], s)
  | b :: bs => (below (nxt s) b :: (nums (nxt s) bs).1, (nums (nxt s) bs).2)
theorem nums_snoc (b : Int) : ∀ (l : List Int) (s : Int), nums s (l ++ [b]) = ((nums s l).1 ++ [below (nxt (nums s l).2) b], nxt (nums s l).2)
  | [], s => rfl
  | x :: l, s => by simp only [List.cons_append, nums, nums_snoc b l (nxt s)]
theorem nums_len : ∀ (l : List Int) (s : Int), (nums s l).1.length = l.length
  | [], _ => rfl
  | x :: l, s => by simp [nums, nums_len l]
theorem nums_rng : ∀ (l : List Int) (s : Int), 0 ≤ s ∧ s < 18446744073709551616 → 0 ≤ (nums s l).2 ∧ (nums s l).2 < 18446744073709551616
  | [], s, h => h
  | x :: l, s, h => nums_rng l _ (nxt_rng s)
theorem rnums {σ : AH O} {s : Int} {a : SA} {bs : List Int} (h : Rd σ 1 a bs.length (bs.map (AV.i .i64))) (ha : ∀ b ∈ SA.bk a, b < σ.next) (hl : bs.length ≤ 1000) (hr : ∀ b ∈ bs, -9223372036854775808 ≤ b ∧ b ≤ 9223372036854775807) (hs : 0 ≤ s ∧ s < 18446744073709551616) :
    Ok (haymowref44_numbers [.i .u64 s, .sl a bs.length] σ) fun r => (∃ o, r.1 = .tup [.sl o bs.length, .i .u64 (nums s bs).2] ∧ Ints .i64 o (nums s bs).1) ∧ Ext σ r.2 := by
  refine frz_ok (Q := fun v => ∃ o, v = .tup [.sl o bs.length, .i .u64 (nums s bs).2] ∧ Ints .i64 o (nums s bs).1) ?_
  simp (config := { maxSteps := 2000000 }) -implicitDefEqProofs (disch := (first | omega | rfl | assumption | (simp only [rsD]; first | omega | assumption))) only [haymowref44_numbers_c, Nat.reduceAdd, Nat.reduceMul, Nat.reduceLT, Int.reduceToNat, Int.reduceAdd, Int.reduceSub, Int.reduceMul, rsU, rsC]
  have lp : Ok (loopF (S := List AV × AH O) (T := List AV × AH O) (haymowref44_numbers_L1 (a, bs.length) haymowref44_Next haymowref44_Below) ([.i .u64 s, .sl .nil 0, .i .i64 0], σ)) fun r => ∃ o σ', r = ([.i .u64 (nums s bs).2, .sl o bs.length], σ') ∧ Bld σ' 3 1 (int1 .i64) o (nums s bs).1 ∧ (∀ b ∈ SA.bk o, σ.next ≤ b) ∧ Ext σ σ' := by
    refine Ok.count bs.length (fun k st => ∃ o σ', st = ([.i .u64 (nums s (bs.take k)).2, .sl o k, .i .i64 (k : Int)], σ') ∧ Bld σ' 3 1 (int1 .i64) o (nums s (bs.take k)).1 ∧ (∀ b ∈ SA.bk o, σ.next ≤ b) ∧ Ext σ σ') ?_ ?_ ⟨.nil, σ, rfl, Bld.nil _ _ (int1_len _), by simp [SA.bk], Ext.refl σ⟩
    · rintro k st hk ⟨o, σ1, rfl, B, hb, E⟩
      obtain ⟨b, hx⟩ : ∃ b, bs[k]? = some b := ⟨_, List.getElem?_eq_getElem hk⟩
      have hn := E.next
      have rd1 := h.of (σ' := σ1) fun b hb => E.blk b (ha b hb)
      obtain ⟨b1, o1, rfl, l1⟩ := rd1.at1 (i := k) (v := .i .i64 b) (by rw [List.getElem?_map, hx]; rfl)
      rw [Nat.mul_one] at l1
      have et : bs.take (k + 1) = bs.take k ++ [b] := by rw [List.take_add_one, hx]; rfl
      have en := nums_snoc b (bs.take k) s
      have hlen := nums_len (bs.take k) s
      rw [List.length_take, Nat.min_eq_left (by omega)] at hlen
      have q1 := rnext (σ := σ1) (s := (nums s (bs.take k)).2)
      have q2 := rbelow (σ := σ1.bump 2) (s := nxt (nums s (bs.take k)).2) (n := b) (nxt_rng _) (hr b (List.mem_of_getElem? hx))
      have l1' : (σ1.bump 2).ld b1 (o1 + k) = some (.i .i64 b) := l1
      rw [et, en]
      have B' : Bld ((σ1.bump 2).put σ1.next (.cells true 3 [.i .i64 (below (nxt (nums s (bs.take k)).2) b)])) 3 1 (int1 .i64) o (nums s (bs.take k)).1 := B.ext (ext_of (by (try simp only [rsD] at *); omega) (fun b hb => by (try simp only [rsD] at *); simp -implicitDefEqProofs (disch := (first | omega | rfl | assumption | (simp only [rsD]; first | omega | assumption))) only [s_bn, s_kn, bump_blk]))
      simp (config := { maxSteps := 2000000 }) -implicitDefEqProofs (disch := (first | omega | rfl | assumption | (simp only [rsD]; first | omega | assumption))) only [haymowref44_numbers_L1, q1, q2, l1', Nat.reduceAdd, Nat.reduceMul, Nat.reduceLT, Int.reduceToNat, Int.reduceAdd, Int.reduceSub, Int.reduceMul, rsU, rsC]
      have app := B'.app1 (nid := σ1.next + 1) (x := below (nxt (nums s (bs.take k)).2) b) (new := [.i .i64 (below (nxt (nums s (bs.take k)).2) b)]) (fun hm => by have := B.lt _ hm; omega) (by simp) (.cons (.lf rfl) .nil)
      rw [hlen] at app
      refine Ok.step app fun r ⟨o', g1, g2, g3, g4, g5⟩ => ?_
      obtain ⟨z, σ2⟩ := r
      simp only at g1 g2 g3 g4
      subst g1
      simp (config := { maxSteps := 2000000 }) -implicitDefEqProofs (disch := (first | omega | rfl | assumption | (simp only [rsD]; first | omega | assumption))) only [Nat.reduceAdd, Nat.reduceMul, Nat.reduceLT, Int.reduceToNat, Int.reduceAdd, Int.reduceSub, Int.reduceMul, rsU, rsC]
      refine Ok_some.2 ⟨o', σ2, by simp, g2, fun b hb => by have := g5 b hb; omega, ⟨by show σ.next ≤ σ2.next; rw [g3]; simp; omega, fun c hc => ?_⟩⟩
      show σ2.blk c = _
      rw [g4 c (by omega) (fun hm => by have := hb c hm; omega)]; ((have x0 := (E).next); (try simp only [rsD] at *); simp -implicitDefEqProofs (disch := (first | omega | rfl | assumption | (simp only [rsD]; first | omega | assumption))) only [s_bs, s_bn, s_kn, bump_blk, s_ext (E)])
    · rintro st ⟨o, σ1, rfl, B, hb, E⟩
      rw [List.take_length] at B ⊢
      simp (config := { maxSteps := 2000000 }) -implicitDefEqProofs (disch := (first | omega | rfl | assumption | (simp only [rsD]; first | omega | assumption))) only [haymowref44_numbers_L1, Nat.reduceAdd, Nat.reduceMul, Nat.reduceLT, Int.reduceToNat, Int.reduceAdd, Int.reduceSub, Int.reduceMul, rsU, rsC]
      exact Ok_some.2 ⟨o, σ1, rfl, B, hb, E⟩
  refine Ok.step lp ?_
  rintro _ ⟨o, σ1, rfl, B, hb, E⟩
  simp (config := { maxSteps := 2000000 }) -implicitDefEqProofs (disch := (first | omega | rfl | assumption | (simp only [rsD]; first | omega | assumption))) only [Nat.reduceAdd, Nat.reduceMul, Nat.reduceLT, Int.reduceToNat, Int.reduceAdd, Int.reduceSub, Int.reduceMul, rsU, rsC]
  obtain ⟨o', f1, f2⟩ := B.fz (d := 5) (H := σ1.blk) fun _ _ => rfl
  rw [nums_len] at f1
  have f3 := FZL.cons f1 (FZL.flat (vs := [.i .u64 (nums s bs).2]) rfl) (by simp)
  rw [List.append_nil] at f3
  exact Ok_some.2 ⟨_, _, FZ.tup f3, hb, E, o', rfl, f2⟩
def churn1 (h s : Int) : List Int × Int :=
  if below (nxt (nxt (nxt s))) 8 = 0 ∨ below (nxt (nxt (nxt s))) 8 = 1 ∨ below (nxt (nxt (nxt s))) 8 = 2 then ([0, below (nxt s) h, below (nxt (nxt (nxt (nxt s)))) 4, below (nxt (nxt (nxt (nxt (nxt s))))) 12, below (nxt (nxt (nxt (nxt (nxt (nxt s)))))) 4], nxt (nxt (nxt (nxt (nxt (nxt s))))))
  else if below (nxt (nxt (nxt s))) 8 = 3 ∨ below (nxt (nxt (nxt s))) 8 = 4 then ([11, below (nxt s) h, below (nxt (nxt (nxt (nxt s)))) 3, below (nxt (nxt s)) h], nxt (nxt (nxt (nxt s))))
  else if below (nxt (nxt (nxt s))) 8 = 5 then ([10, below (nxt s) h, below (nxt (nxt s)) h, below (nxt (nxt (nxt (nxt s)))) 3], nxt (nxt (nxt (nxt s))))
  else if below (nxt (nxt (nxt s))) 8 = 6 then ([8, below (nxt s) h, below (nxt (nxt s)) h], nxt (nxt (nxt s)))
  else ([9, below (nxt s) h], nxt (nxt (nxt s)))
def churnL (h s : Int) : Nat → List (List Int) × Int
  | 0 => ([], s)
  | n + 1 => ((churnL h s n).1 ++ [(churn1 h (churnL h s n).2).1], (churn1 h (churnL h s n).2).2)
theorem churnL_len (h s : Int) : ∀ n, (churnL h s n).1.length = n
  | 0 => rfl
  | n + 1 => by simp [churnL, churnL_len h s n]
theorem churn1_rng (h s : Int) : 0 ≤ (churn1 h s).2 ∧ (churn1 h s).2 < 18446744073709551616 := by
  unfold churn1
  split
  · exact nxt_rng _
  · split
    · exact nxt_rng _
    · split
      · exact nxt_rng _
      · split
        · exact nxt_rng _
        · exact nxt_rng _
theorem churnL_rng {h s : Int} (hs : 0 ≤ s ∧ s < 18446744073709551616) : ∀ n, 0 ≤ (churnL h s n).2 ∧ (churnL h s n).2 < 18446744073709551616
  | 0 => hs
  | n + 1 => churn1_rng _ _
def churn_ (s h n : Int) : List (List Int) := if h < 1 ∨ h > 200 ∨ n < 0 ∨ n > 200 then [] else List.replicate h.toNat [1] ++ (churnL h s n.toNat).1
theorem churn_out {h n : Int} (c : h < 1 ∨ h > 200 ∨ n < 0 ∨ n > 200) : (bif !(bif !(bif !decide (h < 1) then decide (h > 200) else true) then decide (n < 0) else true) then decide (n > 200) else true) = true := by
  rcases c with c | c | c | c
  · rw [decide_eq_true c]; rfl
  · rw [decide_eq_true c]; cases decide (h < 1) <;> rfl
  · rw [decide_eq_true c]; cases decide (h < 1) <;> cases decide (h > 200) <;> rfl
  · rw [decide_eq_true c]; cases decide (h < 1) <;> cases decide (h > 200) <;> cases decide (n < 0) <;> rfl
end Go.Abs.Try
