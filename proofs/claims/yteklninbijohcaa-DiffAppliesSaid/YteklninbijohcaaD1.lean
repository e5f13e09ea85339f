/-
  Forms that come in as arguments. No conditions.
-/
import Derived.Test.YteklninbijohcaaAbsIn
import Derived.Test.YteklninbijohcaaF90
import Derived.Test.YteklninbijohcaaS4b
set_option linter.unusedVariables false
set_option linter.unusedSimpArgs false
set_option linter.constructorNameAsVariable false
set_option linter.unusedVariables false
set_option maxRecDepth 100000
namespace Go.Abs
open Go
variable {P : Program}
def R64 (n : Int) : Prop := -9223372036854775808 ≤ n ∧ n ≤ 9223372036854775807
def U64 (n : Int) : Prop := 0 ≤ n ∧ n < 18446744073709551616
structure HV.rng (h : HV) : Prop where
  p : R64 h.p
  r : R64 h.r
  site : R64 h.site
  age : R64 h.age
structure NV.rng (x : NV) : Prop where
  h : x.h.rng
  P : ∀ z ∈ x.P, R64 z
  R : ∀ z ∈ x.R, U64 z
structure FV.rng (F : FV) : Prop where
  n : ∀ x ∈ F.nodes, x.rng
  r : ∀ z ∈ F.roots, R64 z
  w : ∀ z ∈ F.weak, R64 z
theorem r64_of {n : Int} (h : IntKind.i64.min ≤ n ∧ n ≤ IntKind.i64.max) : R64 n := h
theorem u64_of {n : Int} (h : IntKind.u64.min ≤ n ∧ n ≤ IntKind.u64.max) : U64 n := ⟨h.1, Int.lt_add_one_of_le h.2⟩
theorem ClsF {d : Nat} {t : TypeId} {fs : Array Field} {cs : List AV} (hu : P.underlying t = some (.struct fs)) (h : Cls P (d + 1) t cs) :
    ∃ parts : List (List AV), cs = parts.flatten ∧ parts.length = fs.toList.length ∧ ∀ (i : Nat) (f : Field) (part : List AV), fs.toList[i]? = some f → parts[i]? = some part → Cls P d f.type part := by
  unfold Cls at h; rw [hu] at h; exact h
end Go.Abs
namespace Go.Abs.Try
open Go Go.Abs Go.Proofs

theorem shape_in {d : Nat} {cs : List AV} (h : Cls Try.prog (d + 2) 69 cs) : ∃ p r, cs = [.i .i64 p, .i .i64 r] ∧ R64 p ∧ R64 r := by
  obtain ⟨parts, rfl, hl, hp⟩ := ClsF Try.underlying69 h
  match parts, hl, hp with
  | [p0, p1], _, hp =>
    obtain ⟨a, rfl, ha⟩ := ClsI (k := .i64) Try.underlying3 (hp 0 _ p0 rfl rfl)
    obtain ⟨b, rfl, hb⟩ := ClsI (k := .i64) Try.underlying3 (hp 1 _ p1 rfl rfl)
    exact ⟨a, b, rfl, ha, hb⟩
theorem header_in {d : Nat} {cs : List AV} (h : Cls Try.prog (d + 3) 71 cs) : ∃ x : HV, cs = x.cs ∧ x.rng := by
  obtain ⟨parts, rfl, hl, hp⟩ := ClsF Try.underlying71 h
  match parts, hl, hp with
  | [p0, p1, p2, p3], _, hp =>
    obtain ⟨p, r, rfl, ip, ir⟩ := shape_in (d := d) (hp 0 _ p0 rfl rfl)
    obtain ⟨a, rfl, ha⟩ := ClsI (k := .i64) Try.underlying3 (hp 1 _ p1 rfl rfl)
    obtain ⟨b, rfl, hb⟩ := ClsI (k := .i64) Try.underlying3 (hp 2 _ p2 rfl rfl)
    obtain ⟨c, rfl⟩ := ClsB Try.underlying4 (hp 3 _ p3 rfl rfl)
    exact ⟨⟨p, r, a, b, c⟩, rfl, ip, ir, ha, hb⟩
theorem node_in {d : Nat} {cs : List AV} (h : Cls Try.prog (d + 4) 74 cs) : ∃ (x : NV) (a b : SA), cs = x.cells a b ∧ Ints .i64 a x.P ∧ Ints .u64 b x.R ∧ x.rng := by
  obtain ⟨parts, rfl, hl, hp⟩ := ClsF Try.underlying74 h
  match parts, hl, hp with
  | [p0, p1, p2], _, hp =>
    obtain ⟨hv, rfl, ih⟩ := header_in (d := d) (hp 0 _ p0 rfl rfl)
    obtain ⟨a, P, rfl, _, ia, ha⟩ := ClsIs (d := d + 2) (k := .i64) Try.underlying24 Try.underlying3 (by kernel_rfl) (hp 1 _ p1 rfl rfl)
    obtain ⟨b, R, rfl, _, ib, hb⟩ := ClsIs (d := d + 2) (k := .u64) Try.underlying72 Try.underlying22 (by kernel_rfl) (hp 2 _ p2 rfl rfl)
    exact ⟨⟨hv, P, R⟩, a, b, rfl, Ints.mk ia, Ints.mk ib, ih, fun z hz => r64_of (ha z hz), fun z hz => u64_of (hb z hz)⟩
theorem nodes_in {d : Nat} : ∀ {els : List (List AV)}, (∀ el ∈ els, Cls Try.prog (d + 4) 74 el) → ∃ l : List NV, l.length = els.length ∧ ImL (l.flatMap NV.row) els.flatten ∧ ∀ x ∈ l, x.rng
  | [], _ => ⟨[], rfl, .nil, by simp⟩
  | e :: els, h => by
    obtain ⟨x, a, b, rfl, ia, ib, hx⟩ := node_in (h e List.mem_cons_self)
    obtain ⟨l, h1, h2, h3⟩ := nodes_in (d := d) (els := els) fun y hy => h y (List.mem_cons_of_mem _ hy)
    refine ⟨x :: l, by simp [h1], ?_, fun y hy => ?_⟩
    · rw [List.flatMap_cons, List.flatten_cons]; exact (NV.mk_ ia ib).app h2
    · rcases List.mem_cons.1 hy with rfl | hy
      · exact hx
      · exact h3 y hy
theorem form_in {x : AV} (h : ArgIs Try.prog 39 x) : ∃ F : FV, F.At x ∧ F.rng := by
  obtain ⟨cs, rfl, hc⟩ := argSt Try.underlying39 h
  obtain ⟨parts, rfl, hl, hp⟩ := ClsF (d := 11) Try.underlying39 hc
  match parts, hl, hp with
  | [p0, p1, p2], _, hp =>
    have c7 : Try.prog.cellsOf 74 = 7 := by kernel_rfl
    obtain ⟨a, els, rfl, _, ia, ha⟩ := ClsSl (d := 10) Try.underlying37 (hp 0 _ p0 rfl rfl) (fun el hel => by obtain ⟨x, a, b, rfl, _⟩ := node_in (d := 6) hel; rw [c7]; rfl)
    obtain ⟨b, R, rfl, _, ib, hb⟩ := ClsIs (d := 10) (k := .i64) Try.underlying24 Try.underlying3 (by kernel_rfl) (hp 1 _ p1 rfl rfl)
    obtain ⟨c, W, rfl, _, ic, hc⟩ := ClsIs (d := 10) (k := .i64) Try.underlying24 Try.underlying3 (by kernel_rfl) (hp 2 _ p2 rfl rfl)
    obtain ⟨N, h1, h2, h3⟩ := nodes_in (d := 6) ha
    rw [c7, ← h1] at ia
    refine ⟨⟨N, R, W⟩, ⟨a, b, c, ?_, ⟨fun _ => rfl, _, ia, h2⟩, Ints.mk ib, Ints.mk ic⟩, h3, fun z hz => r64_of (hb z hz), fun z hz => r64_of (hc z hz)⟩
    show AV.agg [_, _, _] = _
    rw [← h1]
end Go.Abs.Try
