/-
  Changes that come in as arguments. No conditions.
-/
import Derived.Test.YteklninbijohcaaD1
import Derived.Test.YteklninbijohcaaF90
set_option linter.unusedVariables false
set_option linter.unusedSimpArgs false
set_option linter.constructorNameAsVariable false
set_option linter.unusedVariables false
set_option maxRecDepth 100000
namespace Go.Abs.Try
open Go Go.Abs Go.Proofs

theorem chg_in {d : Nat} {cs : List AV} (h : Cls Try.prog (d + 5) 76 cs) : ∃ (c : CV) (p q r : SA), cs = c.cells p q r ∧ Ints .i64 p c.whole.P ∧ Ints .u64 q c.whole.R ∧ Ints .i64 r c.list := by
  obtain ⟨parts, rfl, hl, hp⟩ := ClsF Try.underlying76 h
  match parts, hl, hp with
  | [p0, p1, p2, p3, p4, p5, p6], _, hp =>
    obtain ⟨a0, rfl, _⟩ := ClsI (k := .i64) Try.underlying67 (hp 0 _ p0 rfl rfl)
    obtain ⟨a1, rfl, _⟩ := ClsI (k := .i64) Try.underlying3 (hp 1 _ p1 rfl rfl)
    obtain ⟨a2, rfl, _⟩ := ClsI (k := .i64) Try.underlying3 (hp 2 _ p2 rfl rfl)
    obtain ⟨a3, rfl, _⟩ := ClsI (k := .i64) Try.underlying3 (hp 3 _ p3 rfl rfl)
    obtain ⟨a4, rfl, _⟩ := ClsI (k := .u64) Try.underlying22 (hp 4 _ p4 rfl rfl)
    obtain ⟨x, u, w, rfl, iu, iw, _⟩ := node_in (d := d) (hp 5 _ p5 rfl rfl)
    obtain ⟨b, L, rfl, _, ib, hb⟩ := ClsIs (d := d + 3) (k := .i64) Try.underlying24 Try.underlying3 (by kernel_rfl) (hp 6 _ p6 rfl rfl)
    exact ⟨⟨a0, a1, a2, a3, a4, x, L⟩, u, w, b, rfl, iu, iw, Ints.mk ib⟩
theorem chgs_in {d : Nat} : ∀ {els : List (List AV)}, (∀ el ∈ els, Cls Try.prog (d + 5) 76 el) → ∃ l : List CV, l.length = els.length ∧ ImL (l.flatMap CV.row) els.flatten
  | [], _ => ⟨[], rfl, .nil⟩
  | e :: els, h => by
    obtain ⟨c, p, q, r, rfl, ip, iq, ir⟩ := chg_in (h e List.mem_cons_self)
    obtain ⟨l, h1, h2⟩ := chgs_in (d := d) (els := els) fun y hy => h y (List.mem_cons_of_mem _ hy)
    refine ⟨c :: l, by simp [h1], ?_⟩
    rw [List.flatMap_cons, List.flatten_cons]; exact (CV.mk_ ip iq ir).app h2
theorem list_in {t : Nat} {x : AV} (hu : Try.prog.underlying t = some (.slice 76)) (h : ArgIs Try.prog t x) : ∃ (a : SA) (l : List CV), x = .sl a l.length ∧ Chgs a l := by
  have c13 : Try.prog.cellsOf 76 = 13 := by kernel_rfl
  obtain ⟨a, els, e, _, ia, ha⟩ := ClsSl (d := 11) hu (argSl hu h) (fun el hel => by obtain ⟨c, p, q, r, rfl, _⟩ := chg_in (d := 6) hel; rw [c13]; rfl)
  simp only [List.cons.injEq, and_true] at e
  subst e
  obtain ⟨l, h1, h2⟩ := chgs_in (d := 6) ha
  rw [c13, ← h1] at ia
  exact ⟨a, l, by rw [h1], ⟨fun _ => rfl, _, ia, h2⟩⟩
end Go.Abs.Try
