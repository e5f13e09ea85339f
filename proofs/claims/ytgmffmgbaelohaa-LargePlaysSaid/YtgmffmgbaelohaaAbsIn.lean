/-
  AbsIn: what comes in, decoded.
-/
import Derived.Test.YtgmffmgbaelohaaAbsArgs
import Derived.Test.YtgmffmgbaelohaaAbsSl
set_option linter.unusedVariables false
set_option linter.unusedSimpArgs false
set_option linter.constructorNameAsVariable false
namespace Go.Abs
open Go
variable {P : Program}
theorem in1 {t : TypeId} {xs : List AV} (h : ArgsAre P [t] xs) : ∃ x, xs = [x] /\ ArgIs P t x := by
 match xs, h with
 | [x], h => exact ⟨x, rfl, h.1⟩
theorem ClsI {d : Nat} {t : TypeId} {k : IntKind} {cs : List AV} (hu : P.underlying t = some (.int k)) (h : Cls P d t cs) : ∃ n, cs = [.i k n] /\ k.min <= n /\ n <= k.max := by
 cases d with
 | zero => exact h.elim
 | succ d => unfold Cls at h; rw [hu] at h; exact h
theorem flat_len' {es : Nat} : ∀ {els : List (List AV)}, (∀ el ∈ els, el.length = es) -> els.flatten.length = els.length * es
 | [], _ => by simp
 | e :: els, h => by
  have := flat_len' (es := es) (els := els) fun x hx => h x (List.mem_cons_of_mem _ hx)
  have := h e List.mem_cons_self
  simp only [List.flatten_cons, List.length_append, List.length_cons, Nat.succ_mul]; omega
theorem ClsSl {d : Nat} {t e : TypeId} {cs : List AV} (hu : P.underlying t = some (.slice e)) (h : Cls P (d + 1) t cs) (hl : ∀ el, Cls P d e el -> el.length = P.cellsOf e) :
  ∃ (sa : SA) (els : List (List AV)), cs = [.sl sa els.length] /\ els.length <= maxLen /\ Imm (P.cellsOf e) sa els.length els.flatten /\ ∀ el ∈ els, Cls P d e el := by
 unfold Cls at h; rw [hu] at h
 obtain ⟨els, sa, h1, h2, h3, h4⟩ := h
 refine ⟨sa, els, h1, h2, ?_, h3⟩
 rcases h4 with ⟨rfl, rfl⟩ | ⟨rfl, rfl⟩ | rfl
 ·exact Imm.nil _
 ·exact Imm.z _
 ·exact Imm.f (flat_len' fun el hel => hl el (h3 el hel))
theorem ClsR {d : Nat} {t : TypeId} {fs : Array Field} {cs : List AV} (hu : P.underlying t = some (.struct fs)) (ks : List IntKind) (hk : fs.toList.map (fun f => P.underlying f.type) = ks.map (fun k => some (.int k))) (h : Cls P (d + 1) t cs) :
  ∃ ns : List Int, cs = List.zipWith AV.i ks ns /\ ns.length = ks.length /\ ∀ (i : Nat) (k : IntKind) (n : Int), ks[i]? = some k -> ns[i]? = some n -> k.min <= n /\ n <= k.max := by
 unfold Cls at h; rw [hu] at h
 obtain ⟨parts, rfl, hl, hp⟩ := h
 have hlen : fs.toList.length = ks.length := by have := congrArg List.length hk; simpa using this
 have key : ∀ (ks : List IntKind) (parts : List (List AV)), parts.length = ks.length -> (∀ (i : Nat) (k : IntKind) (part : List AV), ks[i]? = some k -> parts[i]? = some part -> ∃ n, part = [.i k n] /\ k.min <= n /\ n <= k.max) ->
   ∃ ns : List Int, parts.flatten = List.zipWith AV.i ks ns /\ ns.length = ks.length /\ ∀ (i : Nat) (k : IntKind) (n : Int), ks[i]? = some k -> ns[i]? = some n -> k.min <= n /\ n <= k.max := by
  intro ks
  induction ks with
  | nil =>
   intro parts hl _
   have : parts = [] := List.eq_nil_of_length_eq_zero hl
   subst this
   exact ⟨[], rfl, rfl, fun i k n h => by simp at h⟩
  | cons k ks ih =>
   intro parts hl hp
   match parts, hl with
   | p :: ps, hl =>
    obtain ⟨n, rfl, hn⟩ := hp 0 k p (by simp) (by simp)
    obtain ⟨ns, e1, e2, e3⟩ := ih ps (by simpa using hl) fun i k part h1 h2 => hp (i + 1) k part (by simpa using h1) (by simpa using h2)
    refine ⟨n :: ns, by simp [e1], by simp [e2], fun i k' n' h1 h2 => ?_⟩
    cases i with
    | zero => simp at h1 h2; subst h1; subst h2; exact hn
    | succ i => simp at h1 h2; exact e3 i k' n' h1 h2
 refine key ks parts (by omega) fun i k part h1 h2 => ?_
 have hi : i < fs.toList.length := by have := (List.getElem?_eq_some_iff.1 h1).1; omega
 have hf := List.getElem?_eq_getElem hi
 refine ClsI ?_ (hp i _ part hf h2)
 have := congrArg (·[i]?) hk
 simp only [List.getElem?_map, hf, h1, Option.map_some, Option.some.injEq] at this
 exact this
theorem argSl {t e : TypeId} {x : AV} (hu : P.underlying t = some (.slice e)) (h : ArgIs P t x) : Cls P 12 t [x] := by
 unfold ArgIs at h; rw [hu] at h; exact h
end Go.Abs
