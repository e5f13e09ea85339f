/-
  'YtlgnboohmahbaaaGreatDoor.Rows.TopWrittenCardSaid' is proved: the statement's function of the given program returns true for every input, and turns nothing that was there; the two library tables that the row lists (unicode/utf8.acceptRanges, unicode/utf8.first) are tied to the program's text; no step reads them. No conditions.
-/
import Derived.Test.YtlgnboohmahbaaaGreatDoorTie
import Derived.Test.YtlgnboohmahbaaaGreatDoorCards
import Derived.WalkKit
import Derived.ProofKit
import Derived.OpenShut
import Derived.ShutString
import Derived.ChangeOld
import Derived.Below
import Derived.LaidMore
import Derived.Lay
import Derived.SevenTiedAt
import Derived.Stop.Joined
import Derived.Test.YtlgnboohmahbaaaGreatDoorAbsIn
import Derived.Test.YtlgnboohmahbaaaGreatDoorW1
namespace Go.Proofs.YtlgnboohmahbaaaGreatDoor.topWritten
open Go.Abs Go.Abs.Tryz Go.ChangeShapes Go.WideShapes Go.ChangeAt Go.RowKit
set_option linter.unusedVariables false
set_option linter.unusedSimpArgs false

theorem own : ownKnob Tryz.prog.godebug = none := by kernel_rfl
theorem laidOut : laidOutB Tryz.prog = true := by kernel_rfl
set_option maxRecDepth 100000 in
theorem runs (xs : List AV) (hx : ArgsAre Tryz.prog [25] xs) : Ok (haymowtop_TopWritten (O := Unit) 200 xs startH) fun r => r.1 = .b true := by
  obtain ⟨y0, rfl, x0⟩ := in1 hx
  obtain ⟨F, hF, hr⟩ := form_in x0
  exact topWritten_ok hF hr

set_option maxRecDepth 100000 in
theorem lifted (os : Os) (started : os.Started) (H : Type) (enc : TypeId × Value → H) :
    ReturnsInHanded {} Tryz.checked os 3 .any (fun w args => (Rows.topWrittenSpec.pre enc Tryz.prog Tryz.f3 Rows.topWrittenRow.domain false w args ∧ laidMetH Tryz.prog Rows.topWrittenRow.laid w) ∧ sizedMet enc Tryz.prog Tryz.f3 (OpenSpec.ofChange Rows.topWrittenSpec) false w args)
      (Rows.topWrittenSpec.post enc Tryz.prog Tryz.f3 false true false false) := by
  refine returnsInHanded_of_change_and (C := Tryz.checked) (X := fun w _ => laidMetH Tryz.prog Rows.topWrittenRow.laid w) (fun _ _ _ hh h => h.of_heap hh) own started (by kernel_rfl) Tryz.func3
    (ChangeSpec.witness_shaped (enc := enc) (C := Tryz.checked) (os := os) (X := fun w _ => laidMetH Tryz.prog Rows.topWrittenRow.laid w) false (World.laidAll Tryz.prog os Rows.topWrittenRow.laid) #[.agg #[.slice none 0 0, .slice none 0 0, .slice none 0 0]] 8 (World.laidAll_os _ _ _)
      (World.shaped_of_ZipB (by kernel_rfl) (by kernel_rfl)) (by kernel_rfl) (by kernel_rfl) (by kernel_rfl)
      (by rw [MakeChecks.laidMetH_plain _ _ _ (by kernel_rfl)]; exact laidMet_laidAll _ (by kernel_rfl) (by kernel_rfl))) ?_
  intro W base args ds gs before hval0 hW hcnd _ hL _
  have hval : ∀ (j : Nat) t v, Tryz.f3.params[j]? = some t → args[j]? = some v → Value.okWide Tryz.prog W .any base t v := hval0
  have hW' := hW
  obtain ⟨p, q, hA0, hV, rfl, hfz, hnd⟩ := hW
  have hA : DataW.TrodAll enc Tryz.prog W 0 (fun _ => true) true Tryz.f3.params.toList args.toList ds p := hA0
  rw [Tryz.params3] at hA hval
  have run := lift (P := Tryz.prog) (f := 3) (haymowtop_TopWritten_sound 200) (by kernel_rfl) hA (fun j t v h1 h2 => hval j t v (by simpa using h1) (by simpa using h2)) runs
  obtain ⟨v0, vs0, d0, ds0, p0, q0, hargs, rfl, rfl, k0, r0⟩ := trodAll_cons hA
  obtain ⟨rfl, rfl, rfl⟩ := trodAll_nil r0
  obtain rfl : args = #[v0] := by cases args; simp_all
  obtain ⟨rfl, rfl⟩ := trodVars_none hV
  have lt0 : ∀ x ∈ p0, x.block < W.heap.size := by obtain ⟨m, hm⟩ := k0; exact DataW.trod_lt m _ _ _ hm
  clear hA0 hval0
  refine run.mono fun e W' ⟨he, bel⟩ => ?_
  subst he
  exact ⟨_, rfl, _, _, _, [], _, [], hW', trodAll_mk1 (shut_bool Tryz.underlying4 _), (trodAll_cons_mk (Below.trod laidOut (by kernel_rfl) (of_decide_eq_true (by kernel_rfl)) k0 bel lt0) trodAll_mk0), rfl, bel.frame _, fun h => by cases h⟩

set_option maxHeartbeats 8000000 in
theorem closed : joinedFacts Tryz.prog 3 Tryz.f3 Rows.topWrittenSpec Rows.topWrittenRow = true := by
  unfold joinedFacts
  simp only [Bool.and_eq_true]
  and_intros
  all_goals (as_aux_lemma => kernel_rfl)

set_option maxHeartbeats 8000000 in
theorem over : Rows.topWrittenRow.holds Tryz.pinned (OpenSpec.ofChange Rows.topWrittenSpec) :=
  OpenClaim.holds_of_wide 3 Tryz.f3 rfl rfl rfl rfl rfl rfl rfl ⟨rfl, rfl, rfl, rfl, rfl⟩ rfl rfl rfl rfl rfl (by as_aux_lemma => kernel_rfl) Tryz.func3 closed
    (of_decide_eq_true (by as_aux_lemma => kernel_rfl)) (by unfold Func.isWrapper; first | (rw [if_pos (by decide +kernel)]; kernel_rfl) | (rw [if_neg (by decide +kernel)]; exact ⟨rfl, rfl⟩))
    (fun os started H enc _ => lifted os started H enc)

theorem none_goes : Tryz.pinned.checked.prog.funcs.any Func.goes = false := by kernel_rfl
theorem goes_no {P : Program} (h : P.funcs.any Func.goes = false) (f : FuncId) : P.goes f = false := by
  unfold Program.goes
  rw [h, Bool.and_false, Bool.or_false]
  rw [List.any_eq_false]
  intro g _
  cases hg : P.funcs[g]? with
  | none => simp
  | some fn =>
    simp only [Option.any_some]
    have := Array.any_eq_false.1 h
    obtain ⟨hi, e⟩ := Array.getElem?_eq_some_iff.1 hg
    rw [← e]
    exact this g hi
theorem goes_by {P : Program} {c : OpenClaim} (h : P.funcs.any Func.goes = false) (hs : c.start = .entering) : false = c.goesBy P := by
  unfold OpenClaim.goesBy Program.goesAt Program.goesFrom
  rw [hs]
  have : ∀ o : Option FuncId, o.any P.goes = false := fun o => by cases o with
    | none => rfl
    | some f => exact goes_no h f
  rw [this]; rfl
theorem goes_row : false = Rows.topWrittenRow.goesBy Tryz.pinned.checked.prog := goes_by none_goes rfl
theorem row_text : Rows.topWrittenRow.wfByText (OpenSpec.ofChange Rows.topWrittenSpec) = true := by kernel_rfl
theorem row_main : Tryz.pinned.checked.prog.mainIs = some (true, "e10001f70590097837e555f1c07020f4281e8cec3170305ae8cee01c3fa318c3".toList) := by kernel_rfl
theorem row_looks : false = Tryz.pinned.checked.prog.looks [] := by kernel_rfl
theorem row_named : Tryz.prog.funcNamed "haymow/haymowtop.TopWritten" = some 3 := by kernel_rfl
theorem row_stand : ([25].all fun u => !Tryz.prog.wantsStandIn u) = true := by kernel_rfl
theorem card (over : Rows.topWrittenRow.holds Tryz.pinned (OpenSpec.ofChange Rows.topWrittenSpec)) : Rows.TopWrittenCardSaid :=
  Claim7.holds_tied_plain_at .later [] [.data, .pinned] true (true, "e10001f70590097837e555f1c07020f4281e8cec3170305ae8cee01c3fa318c3") false over (fun _ h => by cases h) row_text (fun _ h => by cases h) topWritten_row_tie rfl ⟨rfl, rfl⟩ row_main rfl
    (fun f fn hf hfn => by
      obtain rfl : f = 3 := Option.some.inj (row_named.symm.trans hf) |>.symm
      obtain rfl : fn = Tryz.f3 := (Option.some.inj (Tryz.func3.symm.trans hfn)).symm
      exact ⟨row_looks, fun j t ht => by
        rw [Tryz.params3] at ht
        have hm : t ∈ [25] := by simpa using Array.mem_of_getElem? ht
        exact (show Tryz.prog.wantsStandIn t = false by simpa using List.all_eq_true.1 row_stand t hm)⟩)
    goes_row

/-- the statement: the tied card -/
theorem proved : Rows.TopWrittenCardSaid := card over
end Go.Proofs.YtlgnboohmahbaaaGreatDoor.topWritten
