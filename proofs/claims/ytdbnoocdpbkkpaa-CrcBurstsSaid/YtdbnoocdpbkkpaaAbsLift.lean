/-
  AbsLift: from what is run to what a row asks: the arguments in memory, and what was there is there still.
-/
import Derived.Test.YtdbnoocdpbkkpaaAbsExec
import Derived.Test.YtdbnoocdpbkkpaaAbsOk
import Derived.Below
set_option linter.unusedVariables false
set_option linter.unusedSimpArgs false
namespace Go.Abs
open Go Go.RowKit
variable {O : Type} {RO : O → Loc → (Nat → Option Obj) → Prop} {P : Program}

/-- a block that came in -/
structure RowIn where
  L : Loc
  cs : List AV
def startH (rs : List (Option RowIn)) : AH O := ⟨fun b => match rs[b]? with | some (some r) => some (.cells false 0 r.cs) | _ => none, rs.length⟩
def startI (rs : List (Option RowIn)) : Inj := fun b => match rs[b]? with | some (some r) => some r.L | _ => none
def RowOK (ρ : Inj) (w : World) (r : RowIn) : Prop :=
  r.L.B < w.heap.size ∧ r.cs.length ≤ r.L.size ∧ ∀ i v, r.cs[i]? = some v → v.isOne = true ∧ ∃ u, w.cell? ⟨r.L.B, r.L.O + i, none⟩ = some u ∧ VRel ρ v u

theorem start_rel {rs : List (Option RowIn)} {w : World} (h : ∀ (j : Nat) (r : RowIn), rs[j]? = some (some r) → RowOK (startI rs) w r) : Rel (O := O) RO P (startI rs) (fun _ _ => none) (startH rs) w := by
  refine ⟨fun b hb => ?_, fun b x L hx hL => ?_, fun _ _ => rfl, fun _ _ _ h => (by cases h), fun _ _ _ h => absurd rfl h, fun _ _ _ _ _ _ _ => rfl⟩
  · have : rs[b]? = none := List.getElem?_eq_none hb
    simp [startI, startH, this]
  · simp only [startH] at hx
    simp only [startI] at hL
    split at hx
    · rename_i r hr
      rw [hr] at hL
      cases hx; cases hL
      obtain ⟨h1, h2, h3⟩ := h b r hr
      exact ⟨rfl, h1, h2, h3⟩
    · cases hx

/-- the statement's function returns true, and nothing that was there has turned -/
theorem lift {f : FuncId} {s : Sm O} {xs : List AV} {rs : List (Option RowIn)} {args : Array Value} {w : World} (hs : FSound RO P f s) (hr : ∀ (j : Nat) (r : RowIn), rs[j]? = some (some r) → RowOK (startI rs) w r)
    (hx : VRels (startI rs) xs args.toList) (hv : Ok (s xs (startH rs)) fun r => r.1 = .b true) : Calls P f args w fun e w' => e = .returned (.bool true) ∧ Below w.heap.size w w' := by
  obtain ⟨⟨v, σ'⟩, h1, h2⟩ := hv
  simp only at h2
  subst h2
  refine (hs xs _ _ σ' h1 _ _ w args hx (start_rel hr)).mono fun e w' h => ?_
  obtain ⟨ρ', fp', u, rfl, hu, hp⟩ := h
  have : u = .bool true := by cases hu; rfl
  subst this
  exact ⟨rfl, hp.fr.os, hp.fr.tape, hp.fr.output, hp.fr.size, fun k hk => hp.fr.keep k hk fun _ => rfl⟩

/-- a slice of integers that came in -/
def IsInts (k : IntKind) (w : World) (a : Option Addr) (len cap : Nat) (zs : List Int) : Prop :=
  (a = none ∧ len = 0 ∧ cap = 0 ∧ zs = []) ∨
  ∃ x, a = some x ∧ len ≤ cap ∧ cap ≤ maxLen ∧ zs.length = cap ∧ (∀ i, i < zs.length → w.cell? (x.add i) = some (.int k (zs.getD i 0))) ∧ ∀ n ∈ zs, (Lit.int k n).wf = true

/-- what stands for a slice of integers -/
inductive IntsIn (k : IntKind) (w : World) (j : Nat) (a : Option Addr) (len cap : Nat) (zs : List Int) : AV → Option RowIn → Prop
  | nil (h : a = none ∧ len = 0 ∧ cap = 0 ∧ zs = []) : IntsIn k w j a len cap zs (.sl .nil 0) none
  | z (x : Addr) (h : a = some x ∧ len = 0 ∧ cap = 0 ∧ zs = []) : IntsIn k w j a len cap zs (.sl .z 0) none
  | row (B o : Nat) (h : a = some ⟨B, o, none⟩ ∧ len ≤ cap ∧ cap ≤ maxLen ∧ zs.length = cap ∧ 0 < cap) (hB : B < w.heap.size) (hc : ∀ i, i < zs.length → w.cell? ⟨B, o + i, none⟩ = some (.int k (zs.getD i 0))) :
      IntsIn k w j a len cap zs (.sl (.loc j 0 1) len) (some ⟨⟨B, o, cap, 1⟩, zs.map (AV.i k)⟩)

theorem IsInts.to {k : IntKind} {w : World} {a : Option Addr} {len cap : Nat} {zs : List Int} (h : IsInts k w a len cap zs) (j : Nat) : (∃ v r, IntsIn k w j a len cap zs v r) ∧ ∀ n ∈ zs, (Lit.int k n).wf = true := by
  rcases h with h | ⟨x, h1, h2, h3, h4, h5, h6⟩
  · refine ⟨⟨_, _, .nil h⟩, ?_⟩
    rw [h.2.2.2]; simp
  · refine ⟨?_, h6⟩
    by_cases hc : cap = 0
    · subst hc
      refine ⟨_, _, .z x ⟨h1, by omega, rfl, by simpa using h4⟩⟩
    · have h0 := h5 0 (by omega)
      have hx : x.add 0 = x := by simp [Addr.add]
      rw [hx] at h0
      have hsp : x.spot = none ∧ x.block < w.heap.size := by
        unfold World.cell? at h0
        split at h0
        · rename_i c e f hb
          split at h0
          · cases h0
          · rename_i hs
            exact ⟨by simpa using hs, (Array.getElem?_eq_some_iff.1 hb).1⟩
        · cases h0
      obtain ⟨B, o, sp⟩ := x
      obtain ⟨rfl, hB⟩ := hsp
      refine ⟨_, _, .row B o ⟨h1, h2, h3, h4, by omega⟩ hB fun i hi => ?_⟩
      have := h5 i hi
      unfold Addr.add at this
      split at this
      · rename_i hi0; subst hi0; simpa using this
      · exact this

theorem IntsIn.ok {k : IntKind} {w : World} {j : Nat} {a : Option Addr} {len cap : Nat} {zs : List Int} {v : AV} {r : Option RowIn} (h : IntsIn k w j a len cap zs v r) (ρ : Inj) : ∀ r', r = some r' → RowOK ρ w r' := by
  cases h with
  | nil => intro r' e; cases e
  | z => intro r' e; cases e
  | row B o h hB hc =>
    intro r' e; cases e
    refine ⟨hB, by simp [h.2.2.2.1], fun i v hv => ?_⟩
    rw [List.getElem?_map] at hv
    obtain ⟨n, hn, rfl⟩ := Option.map_eq_some_iff.1 hv
    have hi := (List.getElem?_eq_some_iff.1 hn).1
    refine ⟨rfl, _, hc i hi, ?_⟩
    rw [List.getD_eq_getElem?_getD, hn]
    exact .i k n
theorem IntsIn.rel {k : IntKind} {w : World} {j : Nat} {a : Option Addr} {len cap : Nat} {zs : List Int} {v : AV} {r : Option RowIn} (h : IntsIn k w j a len cap zs v r) {rs : List (Option RowIn)} (hj : rs[j]? = some r) : VRel (startI rs) v (.slice a len cap) := by
  cases h with
  | nil h => obtain ⟨rfl, rfl, rfl, _⟩ := h; exact .sln
  | z x h => obtain ⟨rfl, rfl, rfl, _⟩ := h; exact .slz x
  | row B o h hB hc =>
    obtain ⟨rfl, h1, h2, h3, h4⟩ := h
    have : startI rs j = some ⟨B, o, cap, 1⟩ := by simp [startI, hj]
    have := VRel.sl (ρ := startI rs) j 0 len cap ⟨B, o, cap, 1⟩ this h1 h2 (by simp)
    simpa using this
/-- how such a slice is read -/
theorem IntsIn.rd {k : IntKind} {w : World} {j : Nat} {a : Option Addr} {len cap : Nat} {zs : List Int} {v : AV} {r : Option RowIn} (h : IntsIn k w j a len cap zs v r) {rs : List (Option RowIn)} (hj : rs[j]? = some r) :
    ∃ sa, v = .sl sa len ∧ Rd (startH (O := O) rs) 1 sa len ((zs.take len).map (AV.i k)) := by
  have hlt : j < rs.length := (List.getElem?_eq_some_iff.1 hj).1
  cases h with
  | nil h => obtain ⟨rfl, rfl, rfl, rfl⟩ := h; exact ⟨_, rfl, by simp, rfl, by simp⟩
  | z x h => obtain ⟨rfl, rfl, rfl, rfl⟩ := h; exact ⟨_, rfl, by simp, rfl, by simp⟩
  | row B o h hB hc =>
    obtain ⟨rfl, h1, h2, h3, h4⟩ := h
    refine ⟨_, rfl, by simp; omega, rfl, hlt, false, 0, zs.map (AV.i k), by simp [startH, hj], by simp; omega, by simp [List.map_take]⟩

/-- that an integer argument fits its kind -/
theorem wf_lo {k : IntKind} {n : Int} (h : (Lit.int k n).wf = true) : k.min ≤ n ∧ n ≤ k.max := by
  simpa [Lit.wf] using h

end Go.Abs
