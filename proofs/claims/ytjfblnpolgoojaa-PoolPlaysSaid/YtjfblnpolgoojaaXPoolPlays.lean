/-
  'Ytjfblnpolgoojaa.Rows.PoolPlaysSaid' is proved: the statement's function of the given program returns true for every input, and turns nothing that was there. No conditions.
-/
import Derived.Test.YtjfblnpolgoojaaRows
import Derived.WalkKit
import Derived.ProofKit
import Derived.OpenShut
import Derived.ShutString
import Derived.ChangeOld
import Derived.Below
import Derived.Test.YtjfblnpolgoojaaAbsIn
import Derived.Test.YtjfblnpolgoojaaL10f
namespace Go.Proofs.Ytjfblnpolgoojaa.poolPlays
open Go.Abs Go.Abs.Try Go.ChangeShapes Go.WideShapes Go.ChangeAt Go.RowKit
set_option linter.unusedVariables false
set_option linter.unusedSimpArgs false

theorem own : ownKnob Try.prog.godebug = none := by kernel_rfl
theorem laidOut : laidOutB Try.prog = true := by kernel_rfl
set_option maxRecDepth 100000 in
theorem row116 {cs : List AV} (h : Cls Try.prog 11 116 cs) : ∃ ns : List Int, cs = List.zipWith AV.i [.i64, .i64, .i64, .u64] ns ∧ ns.length = 4 ∧ ∀ (i : Nat) (k : IntKind) (n : Int), ([.i64, .i64, .i64, .u64] : List IntKind)[i]? = some k → ns[i]? = some n → k.min ≤ n ∧ n ≤ k.max := ClsR (d := 10) Try.underlying116 [.i64, .i64, .i64, .u64] rfl h
set_option maxRecDepth 100000 in
theorem len116 (el : List AV) (h : Cls Try.prog 11 116 el) : el.length = Try.prog.cellsOf 116 := by
  obtain ⟨n, rfl, l, _⟩ := row116 h
  rw [List.length_zipWith, l]; kernel_rfl
set_option maxRecDepth 100000 in
theorem runs (xs : List AV) (hx : ArgsAre Try.prog [5, 109] xs) : Ok (law10_PoolPlays (O := Unit) xs startH) fun r => r.1 = .b true := by
  obtain ⟨y0, y1, rfl, x0, x1⟩ := in2 hx
  obtain ⟨a0, rfl, h0⟩ := argI Try.underlying5 x0
  obtain ⟨sa1, e1, q1, l1, i1, h1⟩ := ClsSl (P := Try.prog) (d := 11) Try.underlying109 (argSl Try.underlying109 x1) (len116)
  simp only [List.cons.injEq, and_true] at q1
  subst q1
  have cc1 : Try.prog.cellsOf 116 = 4 := by kernel_rfl
  rw [cc1] at i1
  have g1 := fun el hel => row116 (h1 el hel)
  have h0 := wf_u8 h0; obtain ⟨ops, e, i, r⟩ := popsOf g1 i1; rw [e]; exact poolPlays_ok (by omega) i r

set_option maxRecDepth 100000 in
theorem lifted (os : Os) (started : os.Started) (H : Type) (enc : TypeId × Value → H) :
    ReturnsInHanded {} Try.checked os 13 .any (Rows.poolPlaysSpec.pre6 enc Try.prog Try.f13 Rows.poolPlaysRow.domain false) (Rows.poolPlaysSpec.post enc Try.prog Try.f13 false true false false) := by
  refine returnsInHanded_of_change (C := Try.checked) own started (by kernel_rfl) Try.func13
    (ChangeSpec.witness6 (enc := enc) (C := Try.checked) false ⟨#[], #[.int .u8 0, .slice none 0 0], []⟩ 8 (by kernel_rfl) (by kernel_rfl) (by kernel_rfl) (by kernel_rfl)) ?_
  intro W base args ds gs before hval0 hW hcnd _
  have hval : ∀ (j : Nat) t v, Try.f13.params[j]? = some t → args[j]? = some v → Value.okWide Try.prog W .any base t v := hval0
  have hW' := hW
  obtain ⟨p, q, hA0, hV, rfl, hfz, hnd⟩ := hW
  have hA : DataW.TrodAll enc Try.prog W 0 (fun _ => true) true Try.f13.params.toList args.toList ds p := hA0
  rw [Try.params13] at hA hval
  have run := lift (P := Try.prog) (f := 13) law10_PoolPlays_sound (by kernel_rfl) hA (fun j t v h1 h2 => hval j t v (by simpa using h1) (by simpa using h2)) runs
  obtain ⟨v0, vs0, d0, ds0, p0, q0, hargs, rfl, rfl, k0, r0⟩ := trodAll_cons hA
  obtain ⟨v1, vs1, d1, ds1, p1, q1, rfl, rfl, rfl, k1, r1⟩ := trodAll_cons r0
  obtain ⟨rfl, rfl, rfl⟩ := trodAll_nil r1
  obtain rfl : args = #[v0, v1] := by cases args; simp_all
  obtain ⟨rfl, rfl⟩ := trodVars_none hV
  have lt0 : ∀ x ∈ p0, x.block < W.heap.size := by obtain ⟨m, hm⟩ := k0; exact DataW.trod_lt m _ _ _ hm
  have lt1 : ∀ x ∈ p1, x.block < W.heap.size := by obtain ⟨m, hm⟩ := k1; exact DataW.trod_lt m _ _ _ hm
  clear hA0 hval0
  refine run.mono fun e W' ⟨he, bel⟩ => ?_
  subst he
  exact ⟨_, rfl, _, _, _, [], _, [], hW', trodAll_mk1 (shut_bool Try.underlying4 _), (trodAll_cons_mk (Below.trod laidOut (by kernel_rfl) (of_decide_eq_true (by kernel_rfl)) k0 bel lt0) (trodAll_cons_mk (Below.trod laidOut (by kernel_rfl) (of_decide_eq_true (by kernel_rfl)) k1 bel lt1) trodAll_mk0)), rfl, bel.frame _, fun h => by cases h⟩

set_option maxHeartbeats 8000000 in
theorem closed : joinedFacts Try.prog 13 Try.f13 Rows.poolPlaysSpec Rows.poolPlaysRow = true := by
  unfold joinedFacts
  simp only [Bool.and_eq_true]
  and_intros
  all_goals (as_aux_lemma => kernel_rfl)

set_option maxHeartbeats 8000000 in
theorem over : Rows.poolPlaysRow.holds Try.pinned (OpenSpec.ofChange Rows.poolPlaysSpec) :=
  OpenClaim.holds_of_wide 13 Try.f13 rfl rfl rfl rfl rfl rfl rfl ⟨rfl, rfl, rfl, rfl, rfl⟩ rfl rfl rfl rfl rfl (by as_aux_lemma => kernel_rfl) Try.func13 closed
    (of_decide_eq_true (by as_aux_lemma => kernel_rfl)) (by unfold Func.isWrapper; first | (rw [if_pos (by decide +kernel)]; kernel_rfl) | (rw [if_neg (by decide +kernel)]; exact ⟨rfl, rfl⟩))
    (fun os started H enc _ => lifted os started H enc)

/-- the statement -/
theorem proved : Rows.PoolPlaysSaid := over
end Go.Proofs.Ytjfblnpolgoojaa.poolPlays
