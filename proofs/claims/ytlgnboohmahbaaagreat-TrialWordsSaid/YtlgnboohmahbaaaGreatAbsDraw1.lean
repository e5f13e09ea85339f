/-
  AbsDraw1: operations in another heap, and in another environment.
-/
import Derived.Test.YtlgnboohmahbaaaGreatAbsDraw0
set_option linter.unusedVariables false
set_option linter.unusedSimpArgs false
set_option linter.constructorNameAsVariable false
namespace Go.Abs
open Go
variable {O : Type} {RO : O → Loc → (Nat → Option Obj) → Prop} {P : Program} {G : List (Nat × Sm O)} {n : Nat}
theorem opK_congr {R : Type} {op : Op} {ty : TypeId} {e e' : Env} {σ : AH O} {nid : Nat} {K : AV → AH O → Option R} (h : ∀ x ∈ op.operands.toList, ev e x = ev e' x) : opK P G op ty e σ nid K = opK P G op ty e' σ nid K := by
 have pairs : ∀ ps : Array (Nat × Operand), (∀ x ∈ (ps.toList.map (·.2)), ev e x = ev e' x) → (ps.toList.map fun x => (x.1, ev e x.2)) = (ps.toList.map fun x => (x.1, ev e' x.2)) := fun ps hp =>
  List.map_congr_left fun p hm => by rw [hp p.2 (List.mem_map.2 ⟨p, hm, rfl⟩)]
 have maps : ∀ ps : List Operand, (∀ x ∈ ps, ev e x = ev e' x) → ps.map (ev e) = ps.map (ev e') := fun ps hp => List.map_congr_left hp
 cases op <;> simp only [Op.operands] at h
 case build t ps =>
  simp only [opK, pureK]
  rw [pairs ps fun x hx => h x (by simpa using hx)]
 case buildSlice t m ps =>
  simp only [opK]
  rw [pairs ps fun x hx => h x (by simpa using hx)]
 case makeFunc fn first captured =>
  simp only [opK, pureK]
  rw [maps first.toList fun x hx => h x (by simp at hx ⊢; exact .inl hx), maps captured.toList fun x hx => h x (by simp at hx ⊢; exact .inr hx)]
 case call c =>
  obtain ⟨cal, as_, ts⟩ := c
  simp only [Call.operands] at h
  have ha : as_.toList.map (ev e) = as_.toList.map (ev e') := maps _ fun x hx => h x (by simp at hx ⊢; exact .inr hx)
  cases cal with
  | value f =>
   have hf : ev e f = ev e' f := h f (by simp)
   simp only [opK, ha, hf]
  | invoke r m => simp only [opK, pureK]
  | builtin b => cases b <;> simp only [opK, pureK, ha]
 case makeMap t x =>
  cases x with
  | none => rfl
  | some y => have hy := h y (by simp); simp only [opK, hy]
 case slice t x lo hi mx =>
  have hx := h x (by simp)
  have h1 : ∀ o, lo = some o → ev e o = ev e' o := fun o ho => h o (by simp [ho])
  have h2 : ∀ o, hi = some o → ev e o = ev e' o := fun o ho => h o (by simp [ho])
  have h3 : ∀ o, mx = some o → ev e o = ev e' o := fun o ho => h o (by simp [ho])
  cases lo with
  | none =>
   cases hi with
   | none =>
    cases mx with
    | none =>
     simp only [opK, pureK, hx]
    | some mxv =>
     have gh3 := h3 mxv rfl
     simp only [opK, pureK, hx]
   | some hiv =>
    have gh2 := h2 hiv rfl
    cases mx with
    | none =>
     simp only [opK, pureK, hx]; cases ev e' x <;> first | rfl | (simp only [gh2]; done)
    | some mxv =>
     have gh3 := h3 mxv rfl
     simp only [opK, pureK, hx]; cases ev e' x <;> first | rfl | (simp only [gh2, gh3]; done)
  | some lov =>
   have gh1 := h1 lov rfl
   cases hi with
   | none =>
    cases mx with
    | none =>
     simp only [opK, pureK, hx]; cases ev e' x <;> first | rfl | (simp only [gh1]; done)
    | some mxv =>
     have gh3 := h3 mxv rfl
     simp only [opK, pureK, hx]; cases ev e' x <;> first | rfl | (simp only [gh1, gh3]; done)
   | some hiv =>
    have gh2 := h2 hiv rfl
    cases mx with
    | none =>
     simp only [opK, pureK, hx]; cases ev e' x <;> first | rfl | (simp only [gh1, gh2]; done)
    | some mxv =>
     have gh3 := h3 mxv rfl
     simp only [opK, pureK, hx]; cases ev e' x <;> first | rfl | (simp only [gh1, gh2, gh3]; done)
 all_goals (simp only [opK, pureK]; try (simp_all; done))
theorem opK_pure {op : Op} {ty : TypeId} {e : Env} {σ σ' : AH O} {nid : Nat} {v : AV} (h : opK P G op ty e σ nid two = some (v, σ')) (h1 : turns op = false) (h2 : allocs op = false) (h3 : loads op = false) :
  σ' = σ ∧ ∀ σ2 nid2, opK P G op ty e σ2 nid2 two = some (v, σ2) := by
 have key : opK P G op ty e σ nid two = pureK P op ty e (fun v => two v σ) → (∀ σ2 nid2, opK P G op ty e σ2 nid2 two = pureK P op ty e (fun v => two v σ2)) → σ' = σ ∧ ∀ σ2 nid2, opK P G op ty e σ2 nid2 two = some (v, σ2) := by
  intro k1 k2
  rw [k1, pureK_nat] at h
  obtain ⟨x, hx, h⟩ := Option.bind_eq_some_iff.1 h
  simp only [two, Option.some.injEq, Prod.mk.injEq] at h
  obtain ⟨rfl, rfl⟩ := h
  refine ⟨rfl, fun σ2 nid2 => ?_⟩
  rw [k2, pureK_nat, hx]; rfl
 cases op <;> first | (simp [turns, allocs, loads] at h1 h2 h3; done) | skip
 case call c =>
  obtain ⟨cal, as_, ts⟩ := c
  cases cal with
  | value f => simp [turns] at h1
  | invoke r m => simp [turns] at h1
  | builtin b => cases b <;> first | (simp [turns] at h1; done) | exact key rfl (fun _ _ => rfl)
 all_goals exact key rfl (fun _ _ => rfl)
theorem opK_alloc {op : Op} {ty : TypeId} {e : Env} {σ σ' : AH O} {nid : Nat} {v : AV} (h : opK P G op ty e σ nid two = some (v, σ')) (h1 : turns op = false) (h2 : allocs op = true) :
  ∃ el cs, σ' = σ.put nid (.cells true el cs) ∧ ∀ σ2, opK P G op ty e σ2 nid two = some (v, σ2.put nid (.cells true el cs)) := by
 cases op <;> first | (simp [allocs] at h2; done) | skip
 case alloc t =>
  simp only [opK] at h ⊢
  split at h
  ·simp only [two, Option.some.injEq, Prod.mk.injEq] at h
   obtain ⟨rfl, rfl⟩ := h
   exact ⟨_, _, rfl, fun σ2 => rfl⟩
  ·cases h
 case box t x =>
  simp only [opK] at h ⊢
  obtain ⟨hc, h⟩ := bif_some h
  simp only [two, Option.some.injEq, Prod.mk.injEq] at h
  obtain ⟨rfl, rfl⟩ := h
  exact ⟨_, _, rfl, fun σ2 => by rw [hc]; rfl⟩
 case buildSlice t m ps =>
  simp only [opK] at h ⊢
  split at h
  ·split at h
   ·obtain ⟨hc, h⟩ := bif_some h
    split at h
    ·simp only [two, Option.some.injEq, Prod.mk.injEq] at h
     obtain ⟨rfl, rfl⟩ := h
     exact ⟨_, _, rfl, fun σ2 => by rw [hc]; rfl⟩
    ·cases h
   ·cases h
  ·cases h
 case makeSlice t l c =>
  simp only [opK] at h ⊢
  split at h
  ·obtain ⟨hc, h⟩ := bif_some h
   split at h
   ·simp only [two, Option.some.injEq, Prod.mk.injEq] at h
    obtain ⟨rfl, rfl⟩ := h
    exact ⟨_, _, rfl, fun σ2 => by rw [hc]; rfl⟩
   ·cases h
  ·cases h
 case makeMap t x => cases h1
 case range t x => cases h1
 case call c =>
  obtain ⟨cal, as_, ts⟩ := c
  cases cal with
  | value f => simp [turns] at h1
  | invoke r m => simp [turns] at h1
  | builtin b => cases b <;> first | (simp [turns] at h1; done) | (simp [allocs] at h2; done)
theorem loadK_again {σ σ2 : AH O} {b : Bid} : ∀ (ls : List Leaf) (o : Nat) (vs : List AV), loadK σ b ls o some = some vs → (∀ k v, vs[k]? = some v → σ.ld b (o + k) = some v) ∧ ((∀ k v, vs[k]? = some v → σ2.ld b (o + k) = some v) → loadK σ2 b ls o some = some vs)
 | [], o, vs, h => by cases h; exact ⟨fun k v hv => by simp at hv, fun _ => rfl⟩
 | l :: ls, o, vs, h => by
  simp only [loadK] at h
  obtain ⟨v, hv, h⟩ := Option.bind_eq_some_iff.1 h
  rw [asLeaf_nat] at h
  obtain ⟨v', hv', h2⟩ := Option.bind_eq_some_iff.1 h
  have e : v = v' := by have := asLeaf_spec hv'; simpa using this
  subst e
  obtain ⟨h1, h3⟩ := bif_some h2
  rw [loadK_nat] at h3
  obtain ⟨r, hr, h4⟩ := Option.bind_eq_some_iff.1 h3
  cases h4
  obtain ⟨g1, g2⟩ := loadK_again (σ2 := σ2) ls (o + 1) r hr
  refine ⟨fun k x hk => ?_, fun hh => ?_⟩
  ·cases k with
   | zero => cases hk; exact hv
   | succ k => rw [← g1 k x (by simpa using hk)]; congr 1; omega
  ·simp only [loadK]
   rw [show σ2.ld b o = some v from hh 0 v rfl, Option.bind_some, asLeaf_nat, hv', Option.bind_some, h1, cond_true, loadK_nat, g2 fun k x hk => by rw [← hh (k + 1) x (by simpa using hk)]; congr 1; omega]
   rfl
theorem load_again {t ty : TypeId} {x : Operand} {e : Env} {σ σ' : AH O} {nid : Nat} {v : AV} (h : opK P G (.load t x) ty e σ nid two = some (v, σ')) :
  σ' = σ ∧ ∃ b f, ev e x = .p (some (b, f)) ∧ (∀ k c, v.cells[k]? = some c → σ.ld b (f + k) = some c) ∧ ∀ σ2 nid2, (∀ k c, v.cells[k]? = some c → σ2.ld b (f + k) = some c) → opK P G (.load t x) ty e σ2 nid2 two = some (v, σ2) := by
 simp only [opK] at h ⊢
 obtain ⟨b, f, hx, h⟩ := asPS_spec h
 obtain ⟨hty, h⟩ := bif_some h
 rw [hx]
 simp only at h
 rw [loadT_nat] at h
 obtain ⟨v', hv', h⟩ := Option.bind_eq_some_iff.1 h
 simp only [two, Option.some.injEq, Prod.mk.injEq] at h
 obtain ⟨rfl, rfl⟩ := h
 refine ⟨rfl, b, f, rfl, ?_⟩
 have fin : ∀ σ2 : AH O, loadT σ2 b f (tyOf P t) some = some v' → ((AV.p (some (b, f))).asPS.bind fun q => bif tyOK P t then loadT σ2 q.fst q.snd (tyOf P t) fun v => two v σ2 else none) = some (v', σ2) := fun σ2 h2 => by
  show (bif tyOK P t then loadT σ2 b f (tyOf P t) fun v => two v σ2 else none) = _
  rw [hty, cond_true, loadT_nat, h2]; rfl
 cases hT : tyOf P t with
 | one l =>
  rw [hT] at hv' fin
  simp only [loadT] at hv'
  obtain ⟨c, hc, h⟩ := Option.bind_eq_some_iff.1 hv'
  rw [asLeaf_nat] at h
  obtain ⟨c', hc', h2⟩ := Option.bind_eq_some_iff.1 h
  have e : c = c' := by have := asLeaf_spec hc'; simpa using this
  subst e
  obtain ⟨h1, h3⟩ := bif_some h2
  cases h3
  have hcs : v'.cells = [v'] := by cases v' <;> first | rfl | (simp [AV.isOne] at h1; done)
  rw [hcs]
  refine ⟨fun k c hk => ?_, fun σ2 _ hh => fin σ2 ?_⟩
  ·cases k with
   | zero => cases hk; exact hc
   | succ k => simp at hk
  ·simp only [loadT]
   rw [show σ2.ld b f = some v' from hh 0 v' rfl, Option.bind_some, asLeaf_nat, hc', Option.bind_some, h1]; rfl
 | agg ls =>
  rw [hT] at hv' fin
  simp only [loadT] at hv'
  rw [loadK_nat] at hv'
  obtain ⟨vs, hvs, h⟩ := Option.bind_eq_some_iff.1 hv'
  cases h
  refine ⟨(loadK_again (σ2 := σ) ls f vs hvs).1, fun σ2 _ hh => fin σ2 ?_⟩
  simp only [loadT]
  rw [loadK_nat, (loadK_again (σ2 := σ2) ls f vs hvs).2 hh]; rfl
 | tup ts => rw [hT] at hv'; cases hv'
theorem conv_again {t t' ty : TypeId} {x : Operand} {e : Env} {σ σ' : AH O} {nid : Nat} {v : AV} (h : opK P G (.convert t t' x) ty e σ nid two = some (v, σ')) :
  σ' = σ ∧ ∀ σ2 nid2, (∀ a m, ev e x = .sl a m → σ2.rdSl a m 1 = σ.rdSl a m 1) → opK P G (.convert t t' x) ty e σ2 nid2 two = some (v, σ2) := by
 simp only [opK] at h ⊢
 split at h
 ·rename_i a m hx
  rw [hx]
  split at h
  ·rename_i el hu hu'
   split at h
   ·rename_i hel
    obtain ⟨cs, hcs, h⟩ := Option.bind_eq_some_iff.1 h
    obtain ⟨l, hl, h⟩ := Option.bind_eq_some_iff.1 h
    simp only [two, Option.some.injEq, Prod.mk.injEq] at h
    obtain ⟨rfl, rfl⟩ := h
    refine ⟨rfl, fun σ2 _ hh => ?_⟩
    simp only [hh a m rfl, hcs, Option.bind_some, hl]
   ·cases h
  ·cases h
 ·rename_i l hx
  rw [hx]
  split at h
  ·rename_i d0 el hu hu'
   split at h
   ·rename_i hel
    obtain ⟨hc, h⟩ := bif_some h
    simp only [two, Option.some.injEq, Prod.mk.injEq] at h
    obtain ⟨rfl, rfl⟩ := h
    refine ⟨rfl, fun σ2 _ _ => ?_⟩
    simp only [hc, cond_true, two]
   ·cases h
  ·rename_i hne
   rw [pureK_nat] at h
   obtain ⟨x', hx, h⟩ := Option.bind_eq_some_iff.1 h
   simp only [two, Option.some.injEq, Prod.mk.injEq] at h
   obtain ⟨rfl, rfl⟩ := h
   refine ⟨rfl, fun σ2 nid2 _ => ?_⟩
   rw [pureK_nat, hx]; rfl
 ·rename_i hne
  rw [pureK_nat] at h
  obtain ⟨x', hx, h⟩ := Option.bind_eq_some_iff.1 h
  simp only [two, Option.some.injEq, Prod.mk.injEq] at h
  obtain ⟨rfl, rfl⟩ := h
  refine ⟨rfl, fun σ2 nid2 _ => ?_⟩
  rw [pureK_nat, hx]; rfl
end Go.Abs
