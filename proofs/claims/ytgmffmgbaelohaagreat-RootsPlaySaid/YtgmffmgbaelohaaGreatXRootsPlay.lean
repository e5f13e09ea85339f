/-
  'YtgmffmgbaelohaaGreat.Rows.RootsPlaySaid' is proved: the statement's function of the given program returns true for every input, and turns nothing that was there. No conditions.
-/
import Derived.Test.YtgmffmgbaelohaaGreatRows
import Derived.WalkKit
import Derived.ProofKit
import Derived.OpenShut
import Derived.ShutString
import Derived.ChangeOld
import Derived.Below
import Derived.Test.YtgmffmgbaelohaaGreatAbsIn
import Derived.Test.YtgmffmgbaelohaaGreatL19
namespace Go.Proofs.YtgmffmgbaelohaaGreat.rootsPlay
open Go.Abs Go.Abs.Tryz Go.ChangeShapes Go.WideShapes Go.ChangeAt Go.RowKit
set_option linter.unusedVariables false
set_option linter.unusedSimpArgs false

theorem own : ownKnob Tryz.prog.godebug = none := by kernel_rfl
theorem laidOut : laidOutB Tryz.prog = true := by kernel_rfl
set_option maxRecDepth 100000 in
theorem row42 {cs : List AV} (h : Cls Tryz.prog 11 42 cs) : ∃ ns : List Int, cs = List.zipWith AV.i [.i64, .i64, .u64] ns ∧ ns.length = 3 ∧ ∀ (i : Nat) (k : IntKind) (n : Int), ([.i64, .i64, .u64] : List IntKind)[i]? = some k → ns[i]? = some n → k.min ≤ n ∧ n ≤ k.max := ClsR (d := 10) Tryz.underlying42 [.i64, .i64, .u64] rfl h
set_option maxRecDepth 100000 in
theorem len42 (el : List AV) (h : Cls Tryz.prog 11 42 el) : el.length = Tryz.prog.cellsOf 42 := by
  obtain ⟨n, rfl, l, _⟩ := row42 h
  rw [List.length_zipWith, l]; kernel_rfl
set_option maxRecDepth 100000 in
theorem runs (xs : List AV) (hx : ArgsAre Tryz.prog [22] xs) : Ok (law19_RootsPlay (O := Unit)  xs startH) fun r => r.1 = .b true := by
  obtain ⟨y0, rfl, x0⟩ := in1 hx
  obtain ⟨sa0, e0, q0, l0, i0, h0⟩ := ClsSl (P := Tryz.prog) (d := 11) Tryz.underlying22 (argSl Tryz.underlying22 x0) (len42)
  simp only [List.cons.injEq, and_true] at q0
  subst q0
  have cc0 : Tryz.prog.cellsOf 42 = 3 := by kernel_rfl
  rw [cc0] at i0
  have g0 := fun el hel => row42 (h0 el hel)
  have g1 : ∀ el ∈ e0, el.length = 3 ∧ ∀ (i : Nat) (k : Option IntKind) (v : AV), ([some .i64, some .i64, some .u64] : List (Option IntKind))[i]? = some k → el[i]? = some v → FldIs k v := (fun el hel => by obtain ⟨ns, rfl, l, hn⟩ := g0 el hel; obtain ⟨a, b, c, rfl⟩ : ∃ a b c, ns = [a, b, c] := (by match ns, l with | [a, b, c], _ => exact ⟨a, b, c, rfl⟩); refine ⟨rfl, fun i k v hk hv => ?_⟩; rcases i with _ | _ | _ | i; (cases hk; cases hv; exact ⟨a, rfl, hn 0 _ _ rfl rfl⟩); (cases hk; cases hv; exact ⟨b, rfl, hn 1 _ _ rfl rfl⟩); (cases hk; cases hv; exact ⟨c, rfl, hn 2 _ _ rfl rfl⟩); (simp at hk)); obtain ⟨ops, hl, hi, hr⟩ := ropsOf g1 i0; rw [hl]; exact rootsPlay_ok hi hr

set_option maxRecDepth 100000 in
theorem lifted (os : Os) (started : os.Started) (H : Type) (enc : TypeId × Value → H) :
    ReturnsInHanded {} Tryz.checked os 3 .any (Rows.rootsPlaySpec.pre6 enc Tryz.prog Tryz.f3 Rows.rootsPlayRow.domain false) (Rows.rootsPlaySpec.post enc Tryz.prog Tryz.f3 false true false false) := by
  refine returnsInHanded_of_change (C := Tryz.checked) own started (by kernel_rfl) Tryz.func3
    (ChangeSpec.witness6 (enc := enc) (C := Tryz.checked) false ⟨#[], #[.slice none 0 0], []⟩ 8 (by kernel_rfl) (by kernel_rfl) (by kernel_rfl) (by kernel_rfl)) ?_
  intro W base args ds gs before hval0 hW hcnd _
  have hval : ∀ (j : Nat) t v, Tryz.f3.params[j]? = some t → args[j]? = some v → Value.okWide Tryz.prog W .any base t v := hval0
  have hW' := hW
  obtain ⟨p, q, hA0, hV, rfl, hfz, hnd⟩ := hW
  have hA : DataW.TrodAll enc Tryz.prog W 0 (fun _ => true) true Tryz.f3.params.toList args.toList ds p := hA0
  rw [Tryz.params3] at hA hval
  have run := lift (P := Tryz.prog) (f := 3) (law19_RootsPlay_sound ) (by kernel_rfl) hA (fun j t v h1 h2 => hval j t v (by simpa using h1) (by simpa using h2)) runs
  obtain ⟨v0, vs0, d0, ds0, p0, q0, hargs, rfl, rfl, k0, r0⟩ := trodAll_cons hA
  obtain ⟨rfl, rfl, rfl⟩ := trodAll_nil r0
  obtain rfl : args = #[v0] := by cases args; simp_all
  obtain ⟨rfl, rfl⟩ := trodVars_none hV
  have lt0 : ∀ x ∈ p0, x.block < W.heap.size := by obtain ⟨m, hm⟩ := k0; exact DataW.trod_lt m _ _ _ hm
  clear hA0 hval0
  refine run.mono fun e W' ⟨he, bel⟩ => ?_
  subst he
  exact ⟨_, rfl, _, _, _, [], _, [], hW', trodAll_mk1 (shut_bool Tryz.underlying4 _), (trodAll_cons_mk (Below.trod laidOut (by kernel_rfl) (of_decide_eq_true (by kernel_rfl)) k0 bel lt0) trodAll_mk0), rfl, bel.frame _, fun h => by cases h⟩

set_option maxHeartbeats 8000000 in
theorem closed : joinedFacts Tryz.prog 3 Tryz.f3 Rows.rootsPlaySpec Rows.rootsPlayRow = true := by
  unfold joinedFacts
  simp only [Bool.and_eq_true]
  and_intros
  all_goals (as_aux_lemma => kernel_rfl)

set_option maxHeartbeats 8000000 in
theorem over : Rows.rootsPlayRow.holds Tryz.pinned (OpenSpec.ofChange Rows.rootsPlaySpec) :=
  OpenClaim.holds_of_wide 3 Tryz.f3 rfl rfl rfl rfl rfl rfl rfl ⟨rfl, rfl, rfl, rfl, rfl⟩ rfl rfl rfl rfl rfl (by as_aux_lemma => kernel_rfl) Tryz.func3 closed
    (of_decide_eq_true (by as_aux_lemma => kernel_rfl)) (by unfold Func.isWrapper; first | (rw [if_pos (by decide +kernel)]; kernel_rfl) | (rw [if_neg (by decide +kernel)]; exact ⟨rfl, rfl⟩))
    (fun os started H enc _ => lifted os started H enc)

/-- the statement -/
theorem proved : Rows.RootsPlaySaid := over
end Go.Proofs.YtgmffmgbaelohaaGreat.rootsPlay
