/-
  Of and Apply as plain functions: what they make of any two forms. No conditions.
-/
import Derived.Test.YteklninbijohcaaF14
set_option linter.unusedVariables false
set_option linter.unusedSimpArgs false
set_option linter.constructorNameAsVariable false
set_option linter.unusedSimpArgs false
set_option linter.unusedVariables false
set_option linter.unusedSectionVars false
set_option maxHeartbeats 1000000
namespace Go.Abs.Try
open Go Go.Abs

theorem upto_one {F G : FV} {c : CV} (h : one F c = (0, G)) : upto F [c] = some G := by
  simp only [upto, h, if_pos]
theorem sized_self (l : List NV) : sized l l.length = l := by simp [sized]
theorem sized_get {l : List NV} {n k : Nat} (hk : k < n) : (sized l n)[k]? = some (l.getD k NV.zero) := by
  unfold sized
  rw [List.getElem?_take_of_lt hk]
  by_cases e : k < l.length
  · rw [List.getElem?_append_left e, List.getD_eq_getElem?_getD, List.getElem?_eq_getElem e]; rfl
  · rw [List.getElem?_append_right (by omega), List.getElem?_replicate, if_pos (by omega), List.getD_eq_getElem?_getD, List.getElem?_eq_none (by omega)]; rfl
theorem upto_size (a b : FV) (hb : b.nodes.length ≤ 1048576) : upto a (dsize a b) = some ⟨sized a.nodes b.nodes.length, a.roots, a.weak⟩ := by
  unfold dsize
  split
  · refine upto_one ?_
    simp only [one, if_pos]
    rw [if_neg (by omega)]
    simp
  · next h =>
    have e : b.nodes.length = a.nodes.length := by omega
    rw [e, sized_self]; rfl
theorem mix_get {α : Type} {xs ys : List α} {m i : Nat} (h : m ≤ ys.length) : (ys.take m ++ xs.drop m)[i]? = if i < m then ys[i]? else xs[i]? := by
  have e : (ys.take m).length = m := by simp; omega
  by_cases c : i < m
  · rw [List.getElem?_append_left (by omega), List.getElem?_take_of_lt c, if_pos c]
  · rw [List.getElem?_append_right (by omega), List.getElem?_drop, e, if_neg c]; congr 1; omega
theorem mix_same {α : Type} {xs ys : List α} {m : Nat} (h : m < ys.length) (e : xs[m]? = ys[m]?) : ys.take (m + 1) ++ xs.drop (m + 1) = ys.take m ++ xs.drop m := by
  refine List.ext_getElem? fun i => ?_
  rw [mix_get (by omega), mix_get (by omega)]
  by_cases c : i = m
  · subst c; rw [if_pos (by omega), if_neg (by omega), e]
  · by_cases d : i < m
    · rw [if_pos (by omega), if_pos d]
    · rw [if_neg (by omega), if_neg d]
theorem mix_set {α : Type} {xs ys : List α} {m : Nat} (h : m < ys.length) (hl : xs.length = ys.length) {v : α} (e : ys[m]? = some v) : ys.take (m + 1) ++ xs.drop (m + 1) = (ys.take m ++ xs.drop m).set m v := by
  refine List.ext_getElem? fun i => ?_
  rw [mix_get (by omega), List.getElem?_set, mix_get (by omega)]
  by_cases c : m = i
  · subst c; rw [if_pos (by omega), if_pos rfl, if_pos (by simp; omega), e]
  · rw [if_neg c]
    by_cases d : i < m
    · rw [if_pos (by omega), if_pos d]
    · rw [if_neg (by omega), if_neg d]
theorem mix_all {α : Type} {xs ys : List α} (hl : xs.length = ys.length) : ys.take ys.length ++ xs.drop ys.length = ys := by
  rw [List.take_length, ← hl, List.drop_length, List.append_nil]
theorem one_P {F : FV} {x : NV} {k s : Nat} {v : Int} (hx : F.nodes[k]? = some x) (hs : s < x.P.length) : one F (ch2 ((k : Int) + 1) s v) = (0, ⟨F.nodes.set k ⟨x.h, x.P.set s v, x.R⟩, F.roots, F.weak⟩) := by
  have hk := (List.getElem?_eq_some_iff.1 hx).1
  have e : ((k : Int) + 1 - 1).toNat = k := by omega
  simp only [one, ch2]
  rw [if_neg (by decide), if_neg (by decide), if_neg (by decide), if_neg (by decide), if_neg (by omega), e, hx]
  simp only
  rw [if_neg (by decide), if_neg (by omega)]
  simp
theorem one_R {F : FV} {x : NV} {k s : Nat} {v : Int} (hx : F.nodes[k]? = some x) (hs : s < x.R.length) : one F (ch3 ((k : Int) + 1) s v) = (0, ⟨F.nodes.set k ⟨x.h, x.P, x.R.set s v⟩, F.roots, F.weak⟩) := by
  have hk := (List.getElem?_eq_some_iff.1 hx).1
  have e : ((k : Int) + 1 - 1).toNat = k := by omega
  simp only [one, ch3]
  rw [if_neg (by decide), if_neg (by decide), if_neg (by decide), if_neg (by decide), if_neg (by omega), e, hx]
  simp only
  rw [if_neg (by decide), if_neg (by omega)]
  simp
theorem getD_some {l : List Int} {m : Nat} (h : m < l.length) : l[m]? = some (l.getD m 0) := by
  rw [List.getD_eq_getElem?_getD, List.getElem?_eq_getElem h]; rfl
theorem upto_P {N : List NV} {r w : List Int} {k : Nat} (hk : k < N.length) (h : HV) (R : List Int) {xs ys : List Int} (hl : xs.length = ys.length) :
    ∀ m, m ≤ ys.length → upto ⟨N.set k ⟨h, xs, R⟩, r, w⟩ (unlike (ch2 ((k : Int) + 1)) xs ys m) = some ⟨N.set k ⟨h, ys.take m ++ xs.drop m, R⟩, r, w⟩
  | 0, _ => by simp [unlike, upto]
  | m + 1, hm => by
    rw [unlike_succ, upto_app, upto_P hk h R hl m (by omega), Option.bind_some]
    split
    · next e => rw [mix_same (by omega) e]; rfl
    · rw [mix_set (by omega) hl (getD_some (by omega))]
      rw [upto_one (one_P (x := ⟨h, ys.take m ++ xs.drop m, R⟩) (by simp [hk]) (by simp; omega)), List.set_set]
theorem upto_R {N : List NV} {r w : List Int} {k : Nat} (hk : k < N.length) (h : HV) (P : List Int) {xs ys : List Int} (hl : xs.length = ys.length) :
    ∀ m, m ≤ ys.length → upto ⟨N.set k ⟨h, P, xs⟩, r, w⟩ (unlike (ch3 ((k : Int) + 1)) xs ys m) = some ⟨N.set k ⟨h, P, ys.take m ++ xs.drop m⟩, r, w⟩
  | 0, _ => by simp [unlike, upto]
  | m + 1, hm => by
    rw [unlike_succ, upto_app, upto_R hk h P hl m (by omega), Option.bind_some]
    split
    · next e => rw [mix_same (by omega) e]; rfl
    · rw [mix_set (by omega) hl (getD_some (by omega))]
      rw [upto_one (one_R (x := ⟨h, P, ys.take m ++ xs.drop m⟩) (by simp [hk]) (by simp; omega)), List.set_set]
theorem upto_dnodes {N : List NV} {r w : List Int} {k : Nat} {x : NV} (y : NV) (hx : N[k]? = some x) : upto ⟨N, r, w⟩ (dnodes ((k : Int) + 1) x y) = some ⟨N.set k y, r, w⟩ := by
  have hk := (List.getElem?_eq_some_iff.1 hx).1
  unfold dnodes
  split
  · refine upto_one ?_
    have e : ((k : Int) + 1 - 1).toNat = k := by omega
    simp only [one]
    rw [if_neg (by decide), if_neg (by decide), if_neg (by decide), if_neg (by decide), if_neg (by omega), e, hx]
    simp
  · next h =>
    obtain ⟨xh, xP, xR⟩ := x
    obtain ⟨yh, yP, yR⟩ := y
    have h1 : xh = yh := Decidable.not_not.1 fun c => h (.inl c)
    have h2 : xP.length = yP.length := Decidable.not_not.1 fun c => h (.inr (.inl c))
    have h3 : xR.length = yR.length := Decidable.not_not.1 fun c => h (.inr (.inr c))
    subst h1
    have e0 : N = N.set k ⟨xh, xP, xR⟩ := by
      refine List.ext_getElem? fun i => ?_
      rw [List.getElem?_set]
      by_cases c : k = i
      · subst c; rw [if_pos rfl, if_pos hk, hx]
      · rw [if_neg c]
    have p := upto_P (r := r) (w := w) hk xh xR h2 yP.length (Nat.le_refl _)
    have q := upto_R (r := r) (w := w) hk xh yP h3 yR.length (Nat.le_refl _)
    rw [mix_all h2] at p
    rw [mix_all h3] at q
    simp only
    rw [upto_app]
    conv => lhs; rw [e0]
    rw [p, Option.bind_some, q]
theorem upto_dmid (a b : FV) (r w : List Int) : ∀ k, k ≤ b.nodes.length → upto ⟨sized a.nodes b.nodes.length, r, w⟩ (dmid a b k) = some ⟨b.nodes.take k ++ (sized a.nodes b.nodes.length).drop k, r, w⟩
  | 0, _ => by simp [dmid, upto]
  | k + 1, hk => by
    rw [dmid_succ, upto_app, upto_dmid a b r w k (by omega), Option.bind_some]
    have e : b.nodes[k]? = some (b.nodes.getD k NV.zero) := by rw [List.getD_eq_getElem?_getD, List.getElem?_eq_getElem (by omega)]; rfl
    rw [upto_dnodes (b.nodes.getD k NV.zero) (x := a.nodes.getD k NV.zero) (by rw [mix_get (by omega), if_neg (by omega), sized_get (by omega)]), mix_set (by omega) (sized_len _ _) e]
theorem upto_roots (N : List NV) (r w q : List Int) : upto ⟨N, r, w⟩ (dlist 4 r q) = some ⟨N, q, w⟩ := by
  unfold dlist
  split
  · exact upto_one (by simp [one])
  · next h => rw [← Decidable.not_not.1 h]; rfl
theorem upto_weak (N : List NV) (r w q : List Int) : upto ⟨N, r, w⟩ (dlist 5 w q) = some ⟨N, r, q⟩ := by
  unfold dlist
  split
  · exact upto_one (by simp [one])
  · next h => rw [← Decidable.not_not.1 h]; rfl
theorem upto_dOf (a b : FV) (hb : b.nodes.length ≤ 1048576) : upto a (dOf a b) = some b := by
  unfold dOf
  rw [upto_app, upto_app, upto_app, upto_size a b hb, Option.bind_some, upto_dmid a b _ _ _ (Nat.le_refl _), Option.bind_some, mix_all (sized_len _ _), upto_roots, Option.bind_some, upto_weak]
theorem unlike_self (mk : Nat → Int → CV) (xs : List Int) (n : Nat) : unlike mk xs xs n = [] := by
  induction n with
  | zero => simp [unlike]
  | succ n ih => rw [unlike_succ, ih, if_pos rfl]; rfl
theorem dOf_self (a : FV) : dOf a a = [] := by
  have h : ∀ k, dmid a a k = [] := fun k => by
    induction k with
    | zero => simp [dmid]
    | succ k ih =>
      rw [dmid_succ, ih]
      simp [dnodes, unlike_self]
  unfold dOf
  rw [h]
  simp [dsize, dlist]
theorem dOf_nil {a b : FV} (hb : b.nodes.length ≤ 1048576) : dOf a b = [] ↔ a = b := by
  constructor
  · intro h
    have := upto_dOf a b hb
    rw [h] at this
    exact Option.some.inj this
  · rintro rfl; exact dOf_self a
theorem dOf_few {a b : FV} (fb : b.few) : ∀ c ∈ dOf a b, c.few := by
  have hz : NV.zero.few := zero_few
  have hl : ([] : List Int).length ≤ 100000 := by simp
  intro c hc
  simp only [dOf, List.mem_append] at hc
  rcases hc with ((hc | hc) | hc) | hc
  · unfold dsize at hc
    split at hc
    · simp only [List.mem_singleton] at hc; subst hc; exact ⟨hz, hl⟩
    · simp at hc
  · simp only [dmid, List.mem_flatMap, List.mem_range] at hc
    obtain ⟨i, hi, hc⟩ := hc
    unfold dnodes at hc
    split at hc
    · simp only [List.mem_singleton] at hc; subst hc; exact ⟨getD_few fb.x i, hl⟩
    · simp only [List.mem_append, unlike, List.mem_flatMap, List.mem_range] at hc
      rcases hc with ⟨j, hj, hc⟩ | ⟨j, hj, hc⟩
      · split at hc
        · simp at hc
        · simp only [List.mem_singleton] at hc; subst hc; exact ⟨hz, hl⟩
      · split at hc
        · simp at hc
        · simp only [List.mem_singleton] at hc; subst hc; exact ⟨hz, hl⟩
  · unfold dlist at hc
    split at hc
    · simp only [List.mem_singleton] at hc; subst hc; exact ⟨hz, fb.r⟩
    · simp at hc
  · unfold dlist at hc
    split at hc
    · simp only [List.mem_singleton] at hc; subst hc; exact ⟨hz, fb.w⟩
    · simp at hc
theorem dOf_len {a b : FV} (fb : b.few) (hn : b.nodes.length ≤ 20) : (dOf a b).length ≤ 100000000 := by
  have h1 := dmid_len a b fb b.nodes.length
  have h2 := dsize_len a b
  have h3 := dlist_len 4 a.roots b.roots
  have h4 := dlist_len 5 a.weak b.weak
  simp only [dOf, List.length_append]
  have : b.nodes.length * 200000 ≤ 20 * 200000 := Nat.mul_le_mul_right _ hn
  omega
end Go.Abs.Try
