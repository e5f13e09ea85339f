/-
  AbsIn: what comes in, decoded.
-/
import Derived.Test.YtncohicmiihjiaaGreatAbsArgs
import Derived.Test.YtncohicmiihjiaaGreatAbsSl
set_option linter.unusedVariables false
set_option linter.unusedSimpArgs false
set_option linter.constructorNameAsVariable false
namespace Go.Abs
open Go
variable {P : Program}
theorem in2 {t u : TypeId} {xs : List AV} (h : ArgsAre P [t, u] xs) : ∃ x y, xs = [x, y] /\ ArgIs P t x /\ ArgIs P u y := by
 match xs, h with
 | [x, y], h => exact ⟨x, y, rfl, h.1, h.2.1⟩
theorem ClsI {d : Nat} {t : TypeId} {k : IntKind} {cs : List AV} (hu : P.underlying t = some (.int k)) (h : Cls P d t cs) : ∃ n, cs = [.i k n] /\ k.min <= n /\ n <= k.max := by
 cases d with
 | zero => exact h.elim
 | succ d => unfold Cls at h; rw [hu] at h; exact h
theorem flat_len' {es : Nat} : ∀ {els : List (List AV)}, (∀ el ∈ els, el.length = es) -> els.flatten.length = els.length * es
 | [], _ => by simp
 | e :: els, h => by
  have := flat_len' (es := es) (els := els) fun x hx => h x (List.mem_cons_of_mem _ hx)
  have := h e List.mem_cons_self
  simp only [List.flatten_cons, List.length_append, List.length_cons, Nat.succ_mul]; omega
theorem ClsSl {d : Nat} {t e : TypeId} {cs : List AV} (hu : P.underlying t = some (.slice e)) (h : Cls P (d + 1) t cs) (hl : ∀ el, Cls P d e el -> el.length = P.cellsOf e) :
  ∃ (sa : SA) (els : List (List AV)), cs = [.sl sa els.length] /\ els.length <= maxLen /\ Imm (P.cellsOf e) sa els.length els.flatten /\ ∀ el ∈ els, Cls P d e el := by
 unfold Cls at h; rw [hu] at h
 obtain ⟨els, sa, h1, h2, h3, h4⟩ := h
 refine ⟨sa, els, h1, h2, ?_, h3⟩
 rcases h4 with ⟨rfl, rfl⟩ | ⟨rfl, rfl⟩ | rfl
 ·exact Imm.nil _
 ·exact Imm.z _
 ·exact Imm.f (flat_len' fun el hel => hl el (h3 el hel))
theorem ClsA {d : Nat} {t n e : Nat} {k : IntKind} {cs : List AV} (hu : P.underlying t = some (.array n e)) (he : P.underlying e = some (.int k)) (h : Cls P (d + 1) t cs) : ∃ ns : List Int, cs = ns.map (AV.i k) /\ ns.length = n /\ ∀ x ∈ ns, k.min <= x /\ x <= k.max := by
 unfold Cls at h; rw [hu] at h
 obtain ⟨els, rfl, rfl, h3⟩ := h
 clear hu
 induction els with
 | nil => exact ⟨[], rfl, rfl, by simp⟩
 | cons el els ih =>
  obtain ⟨m, rfl, hm⟩ := ClsI he (h3 el List.mem_cons_self)
  obtain ⟨ns, e1, e2, e3⟩ := ih fun x hx => h3 x (List.mem_cons_of_mem _ hx)
  exact ⟨m :: ns, by simp [e1], by simp [e2], fun x hx => by
   rcases List.mem_cons.1 hx with rfl | hx
   ·exact hm
   ·exact e3 x hx⟩
theorem argSl {t e : TypeId} {x : AV} (hu : P.underlying t = some (.slice e)) (h : ArgIs P t x) : Cls P 12 t [x] := by
 unfold ArgIs at h; rw [hu] at h; exact h
theorem argAr {t n e : Nat} {x : AV} (hu : P.underlying t = some (.array n e)) (h : ArgIs P t x) : ∃ cs, x = .agg cs /\ Cls P 12 t cs := by
 unfold ArgIs at h; rw [hu] at h; exact h
end Go.Abs
