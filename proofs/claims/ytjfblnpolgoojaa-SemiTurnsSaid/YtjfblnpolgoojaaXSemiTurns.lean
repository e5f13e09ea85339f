/-
  'Ytjfblnpolgoojaa.Rows.SemiTurnsSaid' is proved: the statement's function of the given program returns true for every input, and turns nothing that was there. No conditions.
-/
import Derived.Test.YtjfblnpolgoojaaRows
import Derived.WalkKit
import Derived.ProofKit
import Derived.OpenShut
import Derived.ShutString
import Derived.ChangeOld
import Derived.Below
import Derived.Test.YtjfblnpolgoojaaAbsIn
import Derived.Test.YtjfblnpolgoojaaL14b
namespace Go.Proofs.Ytjfblnpolgoojaa.semiTurns
open Go.Abs Go.Abs.Try Go.ChangeShapes Go.WideShapes Go.ChangeAt Go.RowKit
set_option linter.unusedVariables false
set_option linter.unusedSimpArgs false

theorem own : ownKnob Try.prog.godebug = none := by kernel_rfl
theorem laidOut : laidOutB Try.prog = true := by kernel_rfl
set_option maxRecDepth 100000 in
theorem row62 {cs : List AV} (h : Cls Try.prog 11 62 cs) : ∃ ns : List Int, cs = ns.map (AV.i .u8) ∧ ns.length = 2 ∧ ∀ x ∈ ns, IntKind.u8.min ≤ x ∧ x ≤ IntKind.u8.max := ClsA (d := 10) Try.underlying62 Try.underlying5 h
set_option maxRecDepth 100000 in
theorem len62 (el : List AV) (h : Cls Try.prog 11 62 el) : el.length = Try.prog.cellsOf 62 := by
  obtain ⟨n, rfl, l, _⟩ := row62 h
  rw [List.length_map, l]; kernel_rfl
set_option maxRecDepth 100000 in
theorem runs (xs : List AV) (hx : ArgsAre Try.prog [94, 118, 5] xs) : Ok (law14_SemiTurns (O := Unit) xs startH) fun r => r.1 = .b true := by
  obtain ⟨y0, y1, y2, rfl, x0, x1, x2⟩ := in3 hx
  obtain ⟨sa0, z0, e0, l0, i0, h0⟩ := ClsIs (P := Try.prog) (d := 11) Try.underlying94 Try.underlying22 (by kernel_rfl) (argSl Try.underlying94 x0)
  simp only [List.cons.injEq, and_true] at e0
  subst e0
  obtain ⟨sa1, e1, q1, l1, i1, h1⟩ := ClsSl (P := Try.prog) (d := 11) Try.underlying118 (argSl Try.underlying118 x1) (len62)
  simp only [List.cons.injEq, and_true] at q1
  subst q1
  have cc1 : Try.prog.cellsOf 62 = 2 := by kernel_rfl
  rw [cc1] at i1
  have g1 := fun el hel => row62 (h1 el hel)
  obtain ⟨a2, rfl, h2⟩ := argI Try.underlying5 x2
  obtain ⟨ps, e, ho, hp⟩ := pairsOf g1 i1; rw [e]; exact semiTurns_ok i0 ho hp (by have := wf_u8 h2; omega)

set_option maxRecDepth 100000 in
theorem lifted (os : Os) (started : os.Started) (H : Type) (enc : TypeId × Value → H) :
    ReturnsInHanded {} Try.checked os 12 .any (Rows.semiTurnsSpec.pre6 enc Try.prog Try.f12 Rows.semiTurnsRow.domain false) (Rows.semiTurnsSpec.post enc Try.prog Try.f12 false true false false) := by
  refine returnsInHanded_of_change (C := Try.checked) own started (by kernel_rfl) Try.func12
    (ChangeSpec.witness6 (enc := enc) (C := Try.checked) false ⟨#[], #[.slice none 0 0, .slice none 0 0, .int .u8 0], []⟩ 8 (by kernel_rfl) (by kernel_rfl) (by kernel_rfl) (by kernel_rfl)) ?_
  intro W base args ds gs before hval0 hW hcnd _
  have hval : ∀ (j : Nat) t v, Try.f12.params[j]? = some t → args[j]? = some v → Value.okWide Try.prog W .any base t v := hval0
  have hW' := hW
  obtain ⟨p, q, hA0, hV, rfl, hfz, hnd⟩ := hW
  have hA : DataW.TrodAll enc Try.prog W 0 (fun _ => true) true Try.f12.params.toList args.toList ds p := hA0
  rw [Try.params12] at hA hval
  have run := lift (P := Try.prog) (f := 12) law14_SemiTurns_sound (by kernel_rfl) hA (fun j t v h1 h2 => hval j t v (by simpa using h1) (by simpa using h2)) runs
  obtain ⟨v0, vs0, d0, ds0, p0, q0, hargs, rfl, rfl, k0, r0⟩ := trodAll_cons hA
  obtain ⟨v1, vs1, d1, ds1, p1, q1, rfl, rfl, rfl, k1, r1⟩ := trodAll_cons r0
  obtain ⟨v2, vs2, d2, ds2, p2, q2, rfl, rfl, rfl, k2, r2⟩ := trodAll_cons r1
  obtain ⟨rfl, rfl, rfl⟩ := trodAll_nil r2
  obtain rfl : args = #[v0, v1, v2] := by cases args; simp_all
  obtain ⟨rfl, rfl⟩ := trodVars_none hV
  have lt0 : ∀ x ∈ p0, x.block < W.heap.size := by obtain ⟨m, hm⟩ := k0; exact DataW.trod_lt m _ _ _ hm
  have lt1 : ∀ x ∈ p1, x.block < W.heap.size := by obtain ⟨m, hm⟩ := k1; exact DataW.trod_lt m _ _ _ hm
  have lt2 : ∀ x ∈ p2, x.block < W.heap.size := by obtain ⟨m, hm⟩ := k2; exact DataW.trod_lt m _ _ _ hm
  clear hA0 hval0
  refine run.mono fun e W' ⟨he, bel⟩ => ?_
  subst he
  exact ⟨_, rfl, _, _, _, [], _, [], hW', trodAll_mk1 (shut_bool Try.underlying4 _), (trodAll_cons_mk (Below.trod laidOut (by kernel_rfl) (of_decide_eq_true (by kernel_rfl)) k0 bel lt0) (trodAll_cons_mk (Below.trod laidOut (by kernel_rfl) (of_decide_eq_true (by kernel_rfl)) k1 bel lt1) (trodAll_cons_mk (Below.trod laidOut (by kernel_rfl) (of_decide_eq_true (by kernel_rfl)) k2 bel lt2) trodAll_mk0))), rfl, bel.frame _, fun h => by cases h⟩

theorem over : Rows.semiTurnsRow.holds Try.pinned (OpenSpec.ofChange Rows.semiTurnsSpec) :=
  OpenClaim.holds_of_wide 12 Try.f12 rfl rfl rfl rfl rfl rfl rfl ⟨rfl, rfl, rfl, rfl, rfl⟩ rfl rfl rfl rfl rfl (by kernel_rfl) Try.func12 (by kernel_rfl)
    (of_decide_eq_true (by kernel_rfl)) (by unfold Func.isWrapper; first | (rw [if_pos (by decide +kernel)]; kernel_rfl) | (rw [if_neg (by decide +kernel)]; exact ⟨rfl, rfl⟩))
    (fun os started H enc _ => lifted os started H enc)

/-- the statement -/
theorem proved : Rows.SemiTurnsSaid := over
end Go.Proofs.Ytjfblnpolgoojaa.semiTurns
