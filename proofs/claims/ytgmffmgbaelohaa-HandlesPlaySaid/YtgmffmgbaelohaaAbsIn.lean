/-
  AbsIn: what comes in, decoded.
-/
import Derived.Test.YtgmffmgbaelohaaAbsArgs
import Derived.Test.YtgmffmgbaelohaaAbsSl
set_option linter.unusedVariables false
set_option linter.unusedSimpArgs false
set_option linter.constructorNameAsVariable false
namespace Go.Abs
open Go
variable {P : Program}

theorem in1 {t : TypeId} {xs : List AV} (h : ArgsAre P [t] xs) : ∃ x, xs = [x] ∧ ArgIs P t x := by
  match xs, h with
  | [x], h => exact ⟨x, rfl, h.1⟩
theorem in2 {t u : TypeId} {xs : List AV} (h : ArgsAre P [t, u] xs) : ∃ x y, xs = [x, y] ∧ ArgIs P t x ∧ ArgIs P u y := by
  match xs, h with
  | [x, y], h => exact ⟨x, y, rfl, h.1, h.2.1⟩
theorem in3 {t u v : TypeId} {xs : List AV} (h : ArgsAre P [t, u, v] xs) : ∃ x y z, xs = [x, y, z] ∧ ArgIs P t x ∧ ArgIs P u y ∧ ArgIs P v z := by
  match xs, h with
  | [x, y, z], h => exact ⟨x, y, z, rfl, h.1, h.2.1, h.2.2.1⟩
theorem in4 {t u v s : TypeId} {xs : List AV} (h : ArgsAre P [t, u, v, s] xs) : ∃ x y z a, xs = [x, y, z, a] ∧ ArgIs P t x ∧ ArgIs P u y ∧ ArgIs P v z ∧ ArgIs P s a := by
  match xs, h with
  | [x, y, z, a], h => exact ⟨x, y, z, a, rfl, h.1, h.2.1, h.2.2.1, h.2.2.2.1⟩
theorem ClsI {d : Nat} {t : TypeId} {k : IntKind} {cs : List AV} (hu : P.underlying t = some (.int k)) (h : Cls P d t cs) : ∃ n, cs = [.i k n] ∧ k.min ≤ n ∧ n ≤ k.max := by
  cases d with
  | zero => exact h.elim
  | succ d => unfold Cls at h; rw [hu] at h; exact h
theorem ClsB {d : Nat} {t : TypeId} {cs : List AV} (hu : P.underlying t = some .bool) (h : Cls P d t cs) : ∃ x, cs = [.b x] := by
  cases d with
  | zero => exact h.elim
  | succ d => unfold Cls at h; rw [hu] at h; exact h
theorem ClsS {d : Nat} {t : TypeId} {cs : List AV} (hu : P.underlying t = some .string) (h : Cls P d t cs) : ∃ s, cs = [.s s] ∧ s.length ≤ maxLen := by
  cases d with
  | zero => exact h.elim
  | succ d => unfold Cls at h; rw [hu] at h; exact h
theorem flat_len' {es : Nat} : ∀ {els : List (List AV)}, (∀ el ∈ els, el.length = es) → els.flatten.length = els.length * es
  | [], _ => by simp
  | e :: els, h => by
    have := flat_len' (es := es) (els := els) fun x hx => h x (List.mem_cons_of_mem _ hx)
    have := h e List.mem_cons_self
    simp only [List.flatten_cons, List.length_append, List.length_cons, Nat.succ_mul]; omega
/-- a slice: its elements -/
theorem ClsSl {d : Nat} {t e : TypeId} {cs : List AV} (hu : P.underlying t = some (.slice e)) (h : Cls P (d + 1) t cs) (hl : ∀ el, Cls P d e el → el.length = P.cellsOf e) :
    ∃ (sa : SA) (els : List (List AV)), cs = [.sl sa els.length] ∧ els.length ≤ maxLen ∧ Imm (P.cellsOf e) sa els.length els.flatten ∧ ∀ el ∈ els, Cls P d e el := by
  unfold Cls at h; rw [hu] at h
  obtain ⟨els, sa, h1, h2, h3, h4⟩ := h
  refine ⟨sa, els, h1, h2, ?_, h3⟩
  rcases h4 with ⟨rfl, rfl⟩ | ⟨rfl, rfl⟩ | rfl
  · exact Imm.nil _
  · exact Imm.z _
  · exact Imm.f (flat_len' fun el hel => hl el (h3 el hel))
/-- a struct of numbers -/
theorem ClsR {d : Nat} {t : TypeId} {fs : Array Field} {cs : List AV} (hu : P.underlying t = some (.struct fs)) (ks : List IntKind) (hk : fs.toList.map (fun f => P.underlying f.type) = ks.map (fun k => some (.int k))) (h : Cls P (d + 1) t cs) :
    ∃ ns : List Int, cs = List.zipWith AV.i ks ns ∧ ns.length = ks.length ∧ ∀ (i : Nat) (k : IntKind) (n : Int), ks[i]? = some k → ns[i]? = some n → k.min ≤ n ∧ n ≤ k.max := by
  unfold Cls at h; rw [hu] at h
  obtain ⟨parts, rfl, hl, hp⟩ := h
  have hlen : fs.toList.length = ks.length := by have := congrArg List.length hk; simpa using this
  have key : ∀ (ks : List IntKind) (parts : List (List AV)), parts.length = ks.length → (∀ (i : Nat) (k : IntKind) (part : List AV), ks[i]? = some k → parts[i]? = some part → ∃ n, part = [.i k n] ∧ k.min ≤ n ∧ n ≤ k.max) →
      ∃ ns : List Int, parts.flatten = List.zipWith AV.i ks ns ∧ ns.length = ks.length ∧ ∀ (i : Nat) (k : IntKind) (n : Int), ks[i]? = some k → ns[i]? = some n → k.min ≤ n ∧ n ≤ k.max := by
    intro ks
    induction ks with
    | nil =>
      intro parts hl _
      have : parts = [] := List.eq_nil_of_length_eq_zero hl
      subst this
      exact ⟨[], rfl, rfl, fun i k n h => by simp at h⟩
    | cons k ks ih =>
      intro parts hl hp
      match parts, hl with
      | p :: ps, hl =>
        obtain ⟨n, rfl, hn⟩ := hp 0 k p (by simp) (by simp)
        obtain ⟨ns, e1, e2, e3⟩ := ih ps (by simpa using hl) fun i k part h1 h2 => hp (i + 1) k part (by simpa using h1) (by simpa using h2)
        refine ⟨n :: ns, by simp [e1], by simp [e2], fun i k' n' h1 h2 => ?_⟩
        cases i with
        | zero => simp at h1 h2; subst h1; subst h2; exact hn
        | succ i => simp at h1 h2; exact e3 i k' n' h1 h2
  refine key ks parts (by omega) fun i k part h1 h2 => ?_
  have hi : i < fs.toList.length := by have := (List.getElem?_eq_some_iff.1 h1).1; omega
  have hf := List.getElem?_eq_getElem hi
  refine ClsI ?_ (hp i _ part hf h2)
  have := congrArg (·[i]?) hk
  simp only [List.getElem?_map, hf, h1, Option.map_some, Option.some.injEq] at this
  exact this
/-- a field of a number (its kind) or of a bool -/
def FldIs (k : Option IntKind) (v : AV) : Prop :=
  match k with
  | some k => ∃ n, v = .i k n ∧ k.min ≤ n ∧ n ≤ k.max
  | none => ∃ b, v = .b b
def fldT (k : Option IntKind) : Option TypeDesc :=
  match k with
  | some k => some (.int k)
  | none => some .bool
/-- a struct of numbers and bools -/
theorem ClsM {d : Nat} {t : TypeId} {fs : Array Field} {cs : List AV} (hu : P.underlying t = some (.struct fs)) (ks : List (Option IntKind)) (hk : fs.toList.map (fun f => P.underlying f.type) = ks.map fldT) (h : Cls P (d + 1) t cs) :
    cs.length = ks.length ∧ ∀ (i : Nat) (k : Option IntKind) (v : AV), ks[i]? = some k → cs[i]? = some v → FldIs k v := by
  unfold Cls at h; rw [hu] at h
  obtain ⟨parts, rfl, hl, hp⟩ := h
  have hlen : fs.toList.length = ks.length := by have := congrArg List.length hk; simpa using this
  have key : ∀ (ks : List (Option IntKind)) (parts : List (List AV)), parts.length = ks.length → (∀ (i : Nat) (k : Option IntKind) (part : List AV), ks[i]? = some k → parts[i]? = some part → ∃ v, part = [v] ∧ FldIs k v) →
      parts.flatten.length = ks.length ∧ ∀ (i : Nat) (k : Option IntKind) (v : AV), ks[i]? = some k → parts.flatten[i]? = some v → FldIs k v := by
    intro ks
    induction ks with
    | nil =>
      intro parts hl _
      have : parts = [] := List.eq_nil_of_length_eq_zero hl
      subst this
      exact ⟨rfl, fun i k n h => by simp at h⟩
    | cons k ks ih =>
      intro parts hl hp
      match parts, hl with
      | p :: ps, hl =>
        obtain ⟨n, rfl, hn⟩ := hp 0 k p (by simp) (by simp)
        obtain ⟨e1, e2⟩ := ih ps (by simpa using hl) fun i k part h1 h2 => hp (i + 1) k part (by simpa using h1) (by simpa using h2)
        refine ⟨by simp [e1], fun i k' v h1 h2 => ?_⟩
        cases i with
        | zero => simp at h1 h2; subst h1; subst h2; exact hn
        | succ i => simp at h1 h2; exact e2 i k' v h1 (by simpa using h2)
  refine key ks parts (by omega) fun i k part h1 h2 => ?_
  have hi : i < fs.toList.length := by have := (List.getElem?_eq_some_iff.1 h1).1; omega
  have hf := List.getElem?_eq_getElem hi
  have hc := hp i _ part hf h2
  have := congrArg (·[i]?) hk
  simp only [List.getElem?_map, hf, h1, Option.map_some, Option.some.injEq] at this
  cases k with
  | none => obtain ⟨x, e⟩ := ClsB this hc; exact ⟨_, e, x, rfl⟩
  | some k => obtain ⟨n, e, hn⟩ := ClsI this hc; exact ⟨_, e, n, rfl, hn⟩
/-- an array of numbers -/
theorem ClsA {d : Nat} {t n e : Nat} {k : IntKind} {cs : List AV} (hu : P.underlying t = some (.array n e)) (he : P.underlying e = some (.int k)) (h : Cls P (d + 1) t cs) : ∃ ns : List Int, cs = ns.map (AV.i k) ∧ ns.length = n ∧ ∀ x ∈ ns, k.min ≤ x ∧ x ≤ k.max := by
  unfold Cls at h; rw [hu] at h
  obtain ⟨els, rfl, rfl, h3⟩ := h
  clear hu
  induction els with
  | nil => exact ⟨[], rfl, rfl, by simp⟩
  | cons el els ih =>
    obtain ⟨m, rfl, hm⟩ := ClsI he (h3 el List.mem_cons_self)
    obtain ⟨ns, e1, e2, e3⟩ := ih fun x hx => h3 x (List.mem_cons_of_mem _ hx)
    exact ⟨m :: ns, by simp [e1], by simp [e2], fun x hx => by
      rcases List.mem_cons.1 hx with rfl | hx
      · exact hm
      · exact e3 x hx⟩
/-- a slice of numbers -/
theorem ClsIs {d : Nat} {t e : TypeId} {k : IntKind} {cs : List AV} (hu : P.underlying t = some (.slice e)) (he : P.underlying e = some (.int k)) (hc : P.cellsOf e = 1) (h : Cls P (d + 1) t cs) :
    ∃ (sa : SA) (zs : List Int), cs = [.sl sa zs.length] ∧ zs.length ≤ maxLen ∧ Imm 1 sa zs.length (zs.map (AV.i k)) ∧ ∀ z ∈ zs, k.min ≤ z ∧ z ≤ k.max := by
  obtain ⟨sa, els, e1, e2, e3, e4⟩ := ClsSl hu h fun el hel => by obtain ⟨n, rfl, _⟩ := ClsI he hel; rw [hc]; rfl
  have : ∃ zs : List Int, els = zs.map (fun z => [AV.i k z]) ∧ ∀ z ∈ zs, k.min ≤ z ∧ z ≤ k.max := by
    clear e1 e2 e3
    induction els with
    | nil => exact ⟨[], rfl, by simp⟩
    | cons el els ih =>
      obtain ⟨n, rfl, hn⟩ := ClsI he (e4 el List.mem_cons_self)
      obtain ⟨zs, g1, g2⟩ := ih fun x hx => e4 x (List.mem_cons_of_mem _ hx)
      exact ⟨n :: zs, by rw [g1]; rfl, fun x hx => by
        rcases List.mem_cons.1 hx with rfl | hx
        · exact hn
        · exact g2 x hx⟩
  obtain ⟨zs, rfl, hz⟩ := this
  refine ⟨sa, zs, by simpa using e1, by simpa using e2, ?_, hz⟩
  rw [hc] at e3
  have hf : (zs.map fun z => [AV.i k z]).flatten = zs.map (AV.i k) := by
    clear e1 e2 e3 hz e4
    induction zs with
    | nil => rfl
    | cons z zs ih => simp only [List.map_cons, List.flatten_cons, ih]; rfl
  rw [hf] at e3
  simpa using e3
theorem argI {t : TypeId} {k : IntKind} {x : AV} (hu : P.underlying t = some (.int k)) (h : ArgIs P t x) : ∃ n, x = .i k n ∧ k.min ≤ n ∧ n ≤ k.max := by
  unfold ArgIs at h; rw [hu] at h
  obtain ⟨n, e, hn⟩ := ClsI hu h
  exact ⟨n, by simpa using e, hn⟩
theorem argB {t : TypeId} {x : AV} (hu : P.underlying t = some .bool) (h : ArgIs P t x) : ∃ b, x = .b b := by
  unfold ArgIs at h; rw [hu] at h
  obtain ⟨n, e⟩ := ClsB hu h
  exact ⟨n, by simpa using e⟩
theorem argS {t : TypeId} {x : AV} (hu : P.underlying t = some .string) (h : ArgIs P t x) : ∃ s, x = .s s ∧ s.length ≤ maxLen := by
  unfold ArgIs at h; rw [hu] at h
  obtain ⟨n, e, hn⟩ := ClsS hu h
  exact ⟨n, by simpa using e, hn⟩
theorem argSl {t e : TypeId} {x : AV} (hu : P.underlying t = some (.slice e)) (h : ArgIs P t x) : Cls P 12 t [x] := by
  unfold ArgIs at h; rw [hu] at h; exact h
theorem argSt {t : TypeId} {fs : Array Field} {x : AV} (hu : P.underlying t = some (.struct fs)) (h : ArgIs P t x) : ∃ cs, x = .agg cs ∧ Cls P 12 t cs := by
  unfold ArgIs at h; rw [hu] at h; exact h
theorem argAr {t n e : Nat} {x : AV} (hu : P.underlying t = some (.array n e)) (h : ArgIs P t x) : ∃ cs, x = .agg cs ∧ Cls P 12 t cs := by
  unfold ArgIs at h; rw [hu] at h; exact h
end Go.Abs
