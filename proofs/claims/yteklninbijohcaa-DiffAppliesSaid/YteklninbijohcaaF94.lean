/-
  Of and Apply as plain functions: what they make of any two forms. No conditions.
-/
import Derived.Test.YteklninbijohcaaF93
import Derived.Test.YteklninbijohcaaN90
set_option linter.unusedVariables false
set_option linter.unusedSimpArgs false
set_option linter.constructorNameAsVariable false
set_option linter.unusedSimpArgs false
set_option linter.unusedVariables false
set_option linter.unusedSectionVars false
set_option maxHeartbeats 1000000
namespace Go.Abs.Try
open Go Go.Abs

theorem upto_one {F G : FV} {c : CV} (h : one F c = (0, G)) : upto F [c] = some G := by
  simp only [upto, h, if_pos]
theorem sized_self (l : List NV) : sized l l.length = l := by simp [sized]
theorem sized_get {l : List NV} {n k : Nat} (hk : k < n) : (sized l n)[k]? = some (l.getD k NV.zero) := by
  unfold sized
  rw [List.getElem?_take_of_lt hk]
  by_cases e : k < l.length
  · rw [List.getElem?_append_left e, List.getD_eq_getElem?_getD, List.getElem?_eq_getElem e]; rfl
  · rw [List.getElem?_append_right (by omega), List.getElem?_replicate, if_pos (by omega), List.getD_eq_getElem?_getD, List.getElem?_eq_none (by omega)]; rfl
theorem upto_size (a b : FV) (hb : b.nodes.length ≤ 1048576) : upto a (dsize a b) = some ⟨sized a.nodes b.nodes.length, a.roots, a.weak⟩ := by
  unfold dsize
  split
  · refine upto_one ?_
    simp only [one, if_pos]
    rw [if_neg (by omega)]
    simp
  · next h =>
    have e : b.nodes.length = a.nodes.length := by omega
    rw [e, sized_self]; rfl
theorem mix_get {α : Type} {xs ys : List α} {m i : Nat} (h : m ≤ ys.length) : (ys.take m ++ xs.drop m)[i]? = if i < m then ys[i]? else xs[i]? := by
  have e : (ys.take m).length = m := by simp; omega
  by_cases c : i < m
  · rw [List.getElem?_append_left (by omega), List.getElem?_take_of_lt c, if_pos c]
  · rw [List.getElem?_append_right (by omega), List.getElem?_drop, e, if_neg c]; congr 1; omega
theorem mix_same {α : Type} {xs ys : List α} {m : Nat} (h : m < ys.length) (e : xs[m]? = ys[m]?) : ys.take (m + 1) ++ xs.drop (m + 1) = ys.take m ++ xs.drop m := by
  refine List.ext_getElem? fun i => ?_
  rw [mix_get (by omega), mix_get (by omega)]
  by_cases c : i = m
  · subst c; rw [if_pos (by omega), if_neg (by omega), e]
  · by_cases d : i < m
    · rw [if_pos (by omega), if_pos d]
    · rw [if_neg (by omega), if_neg d]
theorem mix_set {α : Type} {xs ys : List α} {m : Nat} (h : m < ys.length) (hl : xs.length = ys.length) {v : α} (e : ys[m]? = some v) : ys.take (m + 1) ++ xs.drop (m + 1) = (ys.take m ++ xs.drop m).set m v := by
  refine List.ext_getElem? fun i => ?_
  rw [mix_get (by omega), List.getElem?_set, mix_get (by omega)]
  by_cases c : m = i
  · subst c; rw [if_pos (by omega), if_pos rfl, if_pos (by simp; omega), e]
  · rw [if_neg c]
    by_cases d : i < m
    · rw [if_pos (by omega), if_pos d]
    · rw [if_neg (by omega), if_neg d]
theorem mix_all {α : Type} {xs ys : List α} (hl : xs.length = ys.length) : ys.take ys.length ++ xs.drop ys.length = ys := by
  rw [List.take_length, ← hl, List.drop_length, List.append_nil]
theorem one_P {F : FV} {x : NV} {k s : Nat} {v : Int} (hx : F.nodes[k]? = some x) (hs : s < x.P.length) : one F (ch2 ((k : Int) + 1) s v) = (0, ⟨F.nodes.set k ⟨x.h, x.P.set s v, x.R⟩, F.roots, F.weak⟩) := by
  have hk := (List.getElem?_eq_some_iff.1 hx).1
  have e : ((k : Int) + 1 - 1).toNat = k := by omega
  simp only [one, ch2]
  rw [if_neg (by decide), if_neg (by decide), if_neg (by decide), if_neg (by decide), if_neg (by omega), e, hx]
  simp only
  rw [if_neg (by decide), if_neg (by omega)]
  simp
theorem one_R {F : FV} {x : NV} {k s : Nat} {v : Int} (hx : F.nodes[k]? = some x) (hs : s < x.R.length) : one F (ch3 ((k : Int) + 1) s v) = (0, ⟨F.nodes.set k ⟨x.h, x.P, x.R.set s v⟩, F.roots, F.weak⟩) := by
  have hk := (List.getElem?_eq_some_iff.1 hx).1
  have e : ((k : Int) + 1 - 1).toNat = k := by omega
  simp only [one, ch3]
  rw [if_neg (by decide), if_neg (by decide), if_neg (by decide), if_neg (by decide), if_neg (by omega), e, hx]
  simp only
  rw [if_neg (by decide), if_neg (by omega)]
  simp
theorem getD_some {l : List Int} {m : Nat} (h : m < l.length) : l[m]? = some (l.getD m 0) := by
  rw [List.getD_eq_getElem?_getD, List.getElem?_eq_getElem h]; rfl
theorem upto_P {N : List NV} {r w : List Int} {k : Nat} (hk : k < N.length) (h : HV) (R : List Int) {xs ys : List Int} (hl : xs.length = ys.length) :
    ∀ m, m ≤ ys.length → upto ⟨N.set k ⟨h, xs, R⟩, r, w⟩ (unlike (ch2 ((k : Int) + 1)) xs ys m) = some ⟨N.set k ⟨h, ys.take m ++ xs.drop m, R⟩, r, w⟩
  | 0, _ => by simp [unlike, upto]
  | m + 1, hm => by
    rw [unlike_succ, upto_app, upto_P hk h R hl m (by omega), Option.bind_some]
    split
    · next e => rw [mix_same (by omega) e]; rfl
    · rw [mix_set (by omega) hl (getD_some (by omega))]
      rw [upto_one (one_P (x := ⟨h, ys.take m ++ xs.drop m, R⟩) (by simp [hk]) (by simp; omega)), List.set_set]
theorem upto_R {N : List NV} {r w : List Int} {k : Nat} (hk : k < N.length) (h : HV) (P : List Int) {xs ys : List Int} (hl : xs.length = ys.length) :
    ∀ m, m ≤ ys.length → upto ⟨N.set k ⟨h, P, xs⟩, r, w⟩ (unlike (ch3 ((k : Int) + 1)) xs ys m) = some ⟨N.set k ⟨h, P, ys.take m ++ xs.drop m⟩, r, w⟩
  | 0, _ => by simp [unlike, upto]
  | m + 1, hm => by
    rw [unlike_succ, upto_app, upto_R hk h P hl m (by omega), Option.bind_some]
    split
    · next e => rw [mix_same (by omega) e]; rfl
    · rw [mix_set (by omega) hl (getD_some (by omega))]
      rw [upto_one (one_R (x := ⟨h, P, ys.take m ++ xs.drop m⟩) (by simp [hk]) (by simp; omega)), List.set_set]
theorem upto_dnodes {N : List NV} {r w : List Int} {k : Nat} {x : NV} (y : NV) (hx : N[k]? = some x) : upto ⟨N, r, w⟩ (dnodes ((k : Int) + 1) x y) = some ⟨N.set k y, r, w⟩ := by
  have hk := (List.getElem?_eq_some_iff.1 hx).1
  unfold dnodes
  split
  · refine upto_one ?_
    have e : ((k : Int) + 1 - 1).toNat = k := by omega
    simp only [one]
    rw [if_neg (by decide), if_neg (by decide), if_neg (by decide), if_neg (by decide), if_neg (by omega), e, hx]
    simp
  · next h =>
    obtain ⟨xh, xP, xR⟩ := x
    obtain ⟨yh, yP, yR⟩ := y
    have h1 : xh = yh := Decidable.not_not.1 fun c => h (.inl c)
    have h2 : xP.length = yP.length := Decidable.not_not.1 fun c => h (.inr (.inl c))
    have h3 : xR.length = yR.length := Decidable.not_not.1 fun c => h (.inr (.inr c))
    subst h1
    have e0 : N = N.set k ⟨xh, xP, xR⟩ := by
      refine List.ext_getElem? fun i => ?_
      rw [List.getElem?_set]
      by_cases c : k = i
      · subst c; rw [if_pos rfl, if_pos hk, hx]
      · rw [if_neg c]
    have p := upto_P (r := r) (w := w) hk xh xR h2 yP.length (Nat.le_refl _)
    have q := upto_R (r := r) (w := w) hk xh yP h3 yR.length (Nat.le_refl _)
    rw [mix_all h2] at p
    rw [mix_all h3] at q
    simp only
    rw [upto_app]
    conv => lhs; rw [e0]
    rw [p, Option.bind_some, q]
theorem upto_dmid (a b : FV) (r w : List Int) : ∀ k, k ≤ b.nodes.length → upto ⟨sized a.nodes b.nodes.length, r, w⟩ (dmid a b k) = some ⟨b.nodes.take k ++ (sized a.nodes b.nodes.length).drop k, r, w⟩
  | 0, _ => by simp [dmid, upto]
  | k + 1, hk => by
    rw [dmid_succ, upto_app, upto_dmid a b r w k (by omega), Option.bind_some]
    have e : b.nodes[k]? = some (b.nodes.getD k NV.zero) := by rw [List.getD_eq_getElem?_getD, List.getElem?_eq_getElem (by omega)]; rfl
    rw [upto_dnodes (b.nodes.getD k NV.zero) (x := a.nodes.getD k NV.zero) (by rw [mix_get (by omega), if_neg (by omega), sized_get (by omega)]), mix_set (by omega) (sized_len _ _) e]
theorem upto_roots (N : List NV) (r w q : List Int) : upto ⟨N, r, w⟩ (dlist 4 r q) = some ⟨N, q, w⟩ := by
  unfold dlist
  split
  · exact upto_one (by simp [one])
  · next h => rw [← Decidable.not_not.1 h]; rfl
theorem upto_weak (N : List NV) (r w q : List Int) : upto ⟨N, r, w⟩ (dlist 5 w q) = some ⟨N, r, q⟩ := by
  unfold dlist
  split
  · exact upto_one (by simp [one])
  · next h => rw [← Decidable.not_not.1 h]; rfl
theorem upto_dOf (a b : FV) (hb : b.nodes.length ≤ 1048576) : upto a (dOf a b) = some b := by
  unfold dOf
  rw [upto_app, upto_app, upto_app, upto_size a b hb, Option.bind_some, upto_dmid a b _ _ _ (Nat.le_refl _), Option.bind_some, mix_all (sized_len _ _), upto_roots, Option.bind_some, upto_weak]
theorem unlike_self (mk : Nat → Int → CV) (xs : List Int) (n : Nat) : unlike mk xs xs n = [] := by
  induction n with
  | zero => simp [unlike]
  | succ n ih => rw [unlike_succ, ih, if_pos rfl]; rfl
theorem dOf_self (a : FV) : dOf a a = [] := by
  have h : ∀ k, dmid a a k = [] := fun k => by
    induction k with
    | zero => simp [dmid]
    | succ k ih =>
      rw [dmid_succ, ih]
      simp [dnodes, unlike_self]
  unfold dOf
  rw [h]
  simp [dsize, dlist]
theorem dOf_nil {a b : FV} (hb : b.nodes.length ≤ 1048576) : dOf a b = [] ↔ a = b := by
  constructor
  · intro h
    have := upto_dOf a b hb
    rw [h] at this
    exact Option.some.inj this
  · rintro rfl; exact dOf_self a
theorem dOf_few {a b : FV} (fb : b.few) : ∀ c ∈ dOf a b, c.few := by
  have hz : NV.zero.few := zero_few
  have hl : ([] : List Int).length ≤ 100000 := by simp
  intro c hc
  simp only [dOf, List.mem_append] at hc
  rcases hc with ((hc | hc) | hc) | hc
  · unfold dsize at hc
    split at hc
    · simp only [List.mem_singleton] at hc; subst hc; exact ⟨hz, hl⟩
    · simp at hc
  · simp only [dmid, List.mem_flatMap, List.mem_range] at hc
    obtain ⟨i, hi, hc⟩ := hc
    unfold dnodes at hc
    split at hc
    · simp only [List.mem_singleton] at hc; subst hc; exact ⟨getD_few fb.x i, hl⟩
    · simp only [List.mem_append, unlike, List.mem_flatMap, List.mem_range] at hc
      rcases hc with ⟨j, hj, hc⟩ | ⟨j, hj, hc⟩
      · split at hc
        · simp at hc
        · simp only [List.mem_singleton] at hc; subst hc; exact ⟨hz, hl⟩
      · split at hc
        · simp at hc
        · simp only [List.mem_singleton] at hc; subst hc; exact ⟨hz, hl⟩
  · unfold dlist at hc
    split at hc
    · simp only [List.mem_singleton] at hc; subst hc; exact ⟨hz, fb.r⟩
    · simp at hc
  · unfold dlist at hc
    split at hc
    · simp only [List.mem_singleton] at hc; subst hc; exact ⟨hz, fb.w⟩
    · simp at hc
theorem dOf_len {a b : FV} (fb : b.few) (hn : b.nodes.length ≤ 20) : (dOf a b).length ≤ 100000000 := by
  have h1 := dmid_len a b fb b.nodes.length
  have h2 := dsize_len a b
  have h3 := dlist_len 4 a.roots b.roots
  have h4 := dlist_len 5 a.weak b.weak
  simp only [dOf, List.length_append]
  have : b.nodes.length * 200000 ≤ 20 * 200000 := Nat.mul_le_mul_right _ hn
  omega
end Go.Abs.Try
set_option linter.unusedSimpArgs false
set_option linter.unusedVariables false
set_option linter.unusedSectionVars false
set_option maxHeartbeats 1000000
namespace Go.Abs.Try
open Go Go.Abs
variable {O : Type}

def aNode (x : Int) : NV := ⟨⟨0, 1, 0, 0, false⟩, [], [x]⟩
def aForm (x : Int) : FV := ⟨[aNode x], [1], []⟩
def aCells (x : Int) : List AV := (aNode x).cells .nil (.loc (.f [.i .u64 x]) 0 1)
def aVal (x : Int) : AV := .agg [.sl (.loc (.f (aCells x)) 0 7) 1, .sl (.loc (.f [.i .i64 1]) 0 1) 1, .sl .nil 0]
theorem aForm_at (x : Int) : (aForm x).At (aVal x) := by
  refine ⟨_, _, _, rfl, ⟨fun _ => rfl, aCells x, Imm.f rfl, ?_⟩, Ints.mk (Imm.f rfl), nil_ints _⟩
  show ImL ((aNode x).row ++ []) (aCells x)
  rw [List.append_nil]
  exact NV.mk_ (nil_ints _) (Ints.mk (Imm.f rfl))
theorem aForm_few (x : Int) : (aForm x).few := ⟨by simp [aForm], fun y hy => by simp [aForm] at hy; subst hy; exact ⟨by simp [aNode], by simp [aNode]⟩, by simp [aForm], by simp [aForm]⟩
/-- a form's slices in blocks of their own -/
structure Lit (s : AH O) (p : Nat) (x : Int) : Prop where
  r : s.blk p = some (.cells true T_uint64 [.i .u64 x])
  n : s.blk (p + 1) = some (.cells true T_canon_Node [.i .i64 0, .i .i64 1, .i .i64 0, .i .i64 0, .b false, .sl .nil 0, .sl (.loc (.n p) 0 1) 1])
  o : s.blk (p + 2) = some (.cells true 3 [.i .i64 1])
/-- the same, never written again -/
structure Sld (s : AH O) (p : Nat) (x : Int) : Prop where
  n : s.blk (p + 1) = some (.cells false T_canon_Node (aCells x))
  o : s.blk (p + 2) = some (.cells false 3 [.i .i64 1])
theorem Lit.frz {s : AH O} {p : Nat} {x : Int} (h : Lit s p x) : ∃ s', frzA 8 s (.agg [.sl (.loc (.n (p + 1)) 0 7) 1, .sl (.loc (.n (p + 2)) 0 1) 1, .sl .nil 0]) = some (aVal x, s') ∧ s'.next = s.next ∧ Sld s' p x ∧ ∀ b, b < p ∨ p + 2 < b → s'.blk b = s.blk b := by
  have h1 : frzA 6 (s.kill (p + 1)) (.sl (.loc (.n p) 0 1) 1) = some (.sl (.loc (.f [.i .u64 x]) 0 1) 1, ((s.kill (p + 1)).kill p).put p (.cells false T_uint64 [.i .u64 x])) :=
    frzA_sl (d := 5) (b := p) (n := 1) (el := T_uint64) (cs := [.i .u64 x]) (by decide) (by rw [s_kn (by omega)]; exact h.r) (Nat.le_refl 1) (frzL_flt rfl)
  have h2 : frzA 7 s (.sl (.loc (.n (p + 1)) 0 7) 1) = some (.sl (.loc (.f (aCells x)) 0 7) 1, (((s.kill (p + 1)).kill p).put p (.cells false T_uint64 [.i .u64 x])).put (p + 1) (.cells false T_canon_Node (aCells x))) :=
    frzA_sl (d := 6) (b := p + 1) (n := 1) (by decide) h.n (by simp) (frzL_step (frzA_flt rfl) <| frzL_step (frzA_flt rfl) <| frzL_step (frzA_flt rfl) <| frzL_step (frzA_flt rfl) <| frzL_step (frzA_flt rfl) <| frzL_step (frzA_flt rfl) <| frzL_step h1 rfl)
  refine ⟨_, frzA_agg (frzL_step h2 (frzL_step (frzA_sl (n := 1) (el := 3) (cs := [.i .i64 1]) (by decide) ?_ (by decide) (frzL_flt rfl)) (frzL_step (frzA_flt rfl) rfl))), rfl, ⟨?_, s_bs⟩, fun b hb => ?_⟩
  · rw [s_bn (by omega), s_bn (by omega), s_kn (by omega), s_kn (by omega)]; exact h.o
  · rw [s_bn (by omega), s_kn (by omega), s_bs]
  · rw [s_bn (by omega), s_kn (by omega), s_bn (by omega), s_bn (by omega), s_kn (by omega), s_kn (by omega)]
theorem Sld.frz {s : AH O} {p : Nat} {x : Int} (h : Sld s p x) : frzA 8 s (.agg [.sl (.loc (.n (p + 1)) 0 7) 1, .sl (.loc (.n (p + 2)) 0 1) 1, .sl .nil 0]) = some (aVal x, s) :=
  frzA_agg (frzL_step (frzA_slF (by decide) h.n (Nat.le_refl 7)) (frzL_step (frzA_slF (by decide) h.o (by decide)) (frzL_step (frzA_flt rfl) rfl)))
theorem awake_of : dOf (aForm 1) (aForm 2) = [⟨3, 1, 0, 0, 2, NV.zero, []⟩] := rfl
theorem awake_ok {σ : AH O} : Ok (law47_awake [] σ) fun r => r.1 = .b true ∧ Ext σ r.2 := by
  simp (config := { maxSteps := 2000000 }) -implicitDefEqProofs (disch := (first | omega | rfl | assumption | (simp only [rsD]; first | omega | assumption))) only [law47_awake, law47_awake_c, Nat.reduceAdd, Nat.reduceMul, Nat.reduceLT, Int.reduceToNat, Int.reduceAdd, Int.reduceSub, Int.reduceMul, rsU, rsC]
  simp only [Nat.add_assoc, Nat.reduceAdd]
  generalize hs : AH.put (AH.put _ _ _) (σ.next + 8) _ = s
  have n0 : s.next = σ.next + 9 := by rw [← hs]; rfl
  have lo : ∀ b, b < σ.next → s.blk b = σ.blk b := fun b hb => by rw [← hs]; ((try simp only [rsD] at *); simp -implicitDefEqProofs (disch := (first | omega | rfl | assumption | (simp only [rsD]; first | omega | assumption))) only [s_bs, s_bn, s_kn, bump_blk])
  have la : Lit s (σ.next + 1) 1 := by constructor <;> (rw [← hs]; ((try simp only [rsD] at *); simp -implicitDefEqProofs (disch := (first | omega | rfl | assumption | (simp only [rsD]; first | omega | assumption))) only [s_bs, s_bn, s_kn, bump_blk]))
  have lb : Lit s (σ.next + 5) 2 := by constructor <;> (rw [← hs]; ((try simp only [rsD] at *); simp -implicitDefEqProofs (disch := (first | omega | rfl | assumption | (simp only [rsD]; first | omega | assumption))) only [s_bs, s_bn, s_kn, bump_blk]))
  have bx : s.blk (σ.next + 4) = some (.cells true T_canon_Form [.sl (.loc (.n (σ.next + 1 + 1)) 0 7) 1, .sl (.loc (.n (σ.next + 1 + 2)) 0 1) 1, .sl .nil 0]) := by rw [← hs]; ((try simp only [rsD] at *); simp -implicitDefEqProofs (disch := (first | omega | rfl | assumption | (simp only [rsD]; first | omega | assumption))) only [s_bs, s_bn, s_kn, bump_blk])
  clear hs
  obtain ⟨s1, a1, a2, a3, a4⟩ := la.frz
  have lb1 : Lit s1 (σ.next + 5) 2 := ⟨by rw [a4 _ (by omega)]; exact lb.r, by rw [a4 _ (by omega)]; exact lb.n, by rw [a4 _ (by omega)]; exact lb.o⟩
  obtain ⟨s2, b1, b2, b3, b4⟩ := lb1.frz
  have a5 : Sld s2 (σ.next + 1) 1 := ⟨by rw [b4 _ (by omega)]; exact a3.n, by rw [b4 _ (by omega)]; exact a3.o⟩
  have bx2 : s2.blk (σ.next + 4) = some (.cells true T_canon_Form [.sl (.loc (.n (σ.next + 1 + 1)) 0 7) 1, .sl (.loc (.n (σ.next + 1 + 2)) 0 1) 1, .sl .nil 0]) := by rw [b4 _ (by omega), a4 _ (by omega)]; exact bx
  have f1 : fza (diff_Of (O := O)) [.agg [.sl (.loc (.n (σ.next + 2)) 0 7) 1, .sl (.loc (.n (σ.next + 3)) 0 1) 1, .sl .nil 0], .agg [.sl (.loc (.n (σ.next + 6)) 0 7) 1, .sl (.loc (.n (σ.next + 7)) 0 1) 1, .sl .nil 0]] s = diff_Of [aVal 1, aVal 2] s2 :=
    fza_eq (frzL_step a1 (frzL_step b1 rfl))
  rw [f1]
  refine Ok.step (of_ok (aForm_at 1) (aForm_at 2) (aForm_few 1) (aForm_few 2)) fun r ⟨⟨e, g1, g2⟩, g3⟩ => ?_
  obtain ⟨z, s3⟩ := r
  simp only at g1 g3
  subst g1
  rw [awake_of] at g2 ⊢
  obtain ⟨b, o, p, q, t, rfl, _, _, _, l3⟩ := chg_at g2 (i := 0) rfl
  have l30 := l3 O s3 0 (by decide)
  have l31 := l3 O s3 1 (by decide)
  have l34 := l3 O s3 4 (by decide)
  simp only [Nat.zero_mul, Nat.add_zero, CV.cells, List.getElem?_cons_zero, List.getElem?_cons_succ] at l30 l31 l34
  have n3 := g3.next
  have bx3 : s3.blk (σ.next + 4) = some (.cells true T_canon_Form [.sl (.loc (.n (σ.next + 1 + 1)) 0 7) 1, .sl (.loc (.n (σ.next + 1 + 2)) 0 1) 1, .sl .nil 0]) := by rw [g3.blk _ (by omega)]; exact bx2
  have a6 : Sld s3 (σ.next + 1) 1 := ⟨by rw [g3.blk _ (by omega)]; exact a5.n, by rw [g3.blk _ (by omega)]; exact a5.o⟩
  have t3 : ((1 : Nat) : Int) = 1 := rfl
  simp (config := { maxSteps := 2000000 }) -implicitDefEqProofs (disch := (first | omega | rfl | assumption | (simp only [rsD]; first | omega | assumption))) only [l30, l31, l34, bx3, t3, Nat.reduceAdd, Nat.reduceMul, Nat.reduceLT, Int.reduceToNat, Int.reduceAdd, Int.reduceSub, Int.reduceMul, rsU, rsC]
  have f2 : fza (diff_Of (O := O)) [.agg [.sl (.loc (.n (σ.next + 1 + 1)) 0 7) 1, .sl (.loc (.n (σ.next + 1 + 2)) 0 1) 1, .sl .nil 0], .agg [.sl (.loc (.n (σ.next + 1 + 1)) 0 7) 1, .sl (.loc (.n (σ.next + 1 + 2)) 0 1) 1, .sl .nil 0]] s3 = diff_Of [aVal 1, aVal 1] s3 :=
    fza_eq (frzL_step a6.frz (frzL_step a6.frz rfl))
  rw [f2]
  refine Ok.step (of_ok (aForm_at 1) (aForm_at 1) (aForm_few 1) (aForm_few 1)) fun r ⟨⟨e, h1, h2⟩, h3⟩ => ?_
  obtain ⟨z, s4⟩ := r
  simp only at h1 h3
  subst h1
  rw [dOf_self]
  simp (config := { maxSteps := 2000000 }) -implicitDefEqProofs (disch := (first | omega | rfl | assumption | (simp only [rsD]; first | omega | assumption))) only [Nat.reduceAdd, Nat.reduceMul, Nat.reduceLT, Int.reduceToNat, Int.reduceAdd, Int.reduceSub, Int.reduceMul, rsU, rsC]
  refine Ok_some.2 ⟨by rfl, ⟨by have := h3.next; show σ.next ≤ s4.next; omega, fun b hb => ?_⟩⟩
  show s4.blk b = _
  rw [h3.blk _ (by omega), g3.blk _ (by omega), b4 _ (by omega), a4 _ (by omega), lo b hb]
end Go.Abs.Try
