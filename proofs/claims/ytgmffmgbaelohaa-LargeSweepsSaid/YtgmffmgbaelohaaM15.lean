/-
  Layers above the pool: what a call costs and leaves alone; pools alike; large objects: their state. No conditions.
-/
import Derived.Test.YtgmffmgbaelohaaM10i
set_option linter.unusedVariables false
set_option linter.unusedSimpArgs false
set_option linter.constructorNameAsVariable false
set_option linter.unusedSimpArgs false
set_option linter.unusedVariables false
set_option linter.unusedSectionVars false
set_option maxHeartbeats 1000000
namespace Go.Abs.Try
open Go Go.Abs
variable {O : Type}

theorem nodup_le : ∀ (n : Nat) (l : List Nat), l.Nodup → (∀ x ∈ l, x < n) → l.length ≤ n := by
  intro n
  induction n with
  | zero => intro l _ hx; cases l with | nil => simp | cons a l => exact absurd (hx a List.mem_cons_self) (by omega)
  | succ n ih =>
    intro l hn hx
    by_cases hm : n ∈ l
    · have h1 := ih (l.erase n) (hn.erase n) fun x hx' => by
        have := hx x (List.mem_of_mem_erase hx')
        have hne : x ≠ n := fun e => by subst e; exact (List.Nodup.not_mem_erase hn) hx'
        omega
      rw [List.length_erase_of_mem hm] at h1; omega
    · have := ih l hn fun x hx' => by
        have := hx x hx'
        have hne : x ≠ n := fun e => hm (e ▸ hx')
        omega
      omega

/-! ### What a call costs, and what it leaves alone -/
/-- at most k steps more, so many words held more, so many spaces more; the spaces Y are as they were -/
structure Beh (Y : List Int) (M M' : MemS) (k dh dc : Int) : Prop where
  r : M.met.r ≤ M'.met.r
  w : M.met.w ≤ M'.met.w
  k : M'.met.r + M'.met.w ≤ M.met.r + M.met.w + k
  held : M'.met.held = M.met.held + dh
  count : M'.count = M.count + dc
  keep : ∀ y ∈ Y, wordsOf M'.sp y = wordsOf M.sp y
theorem Beh.refl (Y : List Int) (M : MemS) : Beh Y M M 0 0 0 := ⟨by omega, by omega, by omega, by omega, by omega, fun _ _ => rfl⟩
theorem Beh.trans {Y : List Int} {M M' M'' : MemS} {k a c k' a' c' : Int} (h : Beh Y M M' k a c) (g : Beh Y M' M'' k' a' c') : Beh Y M M'' (k + k') (a + a') (c + c') :=
  ⟨by have := h.r; have := g.r; omega, by have := h.w; have := g.w; omega, by have := h.k; have := g.k; omega, by have := h.held; have := g.held; omega, by have := h.count; have := g.count; omega, fun y hy => (g.keep y hy).trans (h.keep y hy)⟩
theorem Beh.as {Y : List Int} {M M' : MemS} {k a c k' a' c' : Int} (h : Beh Y M M' k a c) (h1 : k ≤ k') (h2 : a = a') (h3 : c = c') : Beh Y M M' k' a' c' := by
  subst h2; subst h3; exact ⟨h.r, h.w, by have := h.k; omega, h.held, h.count, h.keep⟩
theorem Beh.mono {Y Z : List Int} {M M' : MemS} {k a c : Int} (h : Beh Y M M' k a c) (hs : ∀ y ∈ Z, y ∈ Y) : Beh Z M M' k a c := ⟨h.r, h.w, h.k, h.held, h.count, fun y hy => h.keep y (hs y hy)⟩
theorem Beh.wrt {Y : List Int} {M M' : MemS} {id : Int} {w w' : List Int} {dr dw : Int} (hok : M.ok) (hok' : M'.ok) (hw : wordsOf M.sp id = some w) (h : Wrt M M' id w' dr dw) (h0 : 0 ≤ dr) (h1 : 0 ≤ dw) (hY : id ∉ Y) : Beh Y M M' (dr + dw) ((w'.length : Int) - w.length) 0 := by
  obtain ⟨i0, hi⟩ := wordsOf_some hw
  have hs : (M.sp.map fun s => s.2.length)[id.toNat]? = some w.length := by rw [List.getElem?_map, hi]; rfl
  have e1 := sum_set (x := w'.length) hs
  have e2 := cnt_set (p := fun s : Bool × List Int => s.1) (x := (true, w')) hi
  have e3 := hok.held
  have e4 := hok'.held
  have e5 := hok.count
  have e6 := hok'.count
  rw [h.sp] at e4 e6
  rw [List.map_set] at e4
  simp only at e4
  simp only [if_true] at e2
  have hr := h.r
  have hw2 := h.w
  refine ⟨by omega, by omega, by omega, ?_, ?_, fun y hy => h.other i0 fun e => hY (e ▸ hy)⟩
  · rw [e4, e3]; omega
  · rw [e5, e6]; omega
theorem MemS.ok.opn' {M : MemS} (hok : M.ok) {n : Int} (h1 : 0 ≤ n) (h2 : n ≤ 4194304) (h3 : M.count < 262144) {Y : List Int} (hY : ∀ y ∈ Y, wordsOf M.sp y ≠ none) : Beh Y M (M.opn (ff M.sp) n) 0 n 1 := by
  refine ⟨by simp [MemS.opn, Met.hold], by simp [MemS.opn, Met.hold], by simp [MemS.opn, Met.hold], by simp [MemS.opn, Met.hold], by simp [MemS.opn], fun y hy => ?_⟩
  cases hw : wordsOf M.sp y with
  | none => exact absurd hw (hY y hy)
  | some w => exact (opn_other hw).1
theorem cls_other {M : MemS} {id y : Int} {w : List Int} (h0 : 0 ≤ id) (hne : y ≠ id) : wordsOf (M.close id.toNat w).sp y = wordsOf M.sp y := wordsOf_other hne h0
/-- a space is shut -/
theorem closeX {σ : AH O} {mb : Nat} {M : MemS} {X : List Nat} (h : MemIn σ mb M X) (hc : M.calm) {id : Int} {w : List Int} (hw : wordsOf M.sp id = some w) (hid : id ≤ 9223372036854775807) :
    Ok (mem_Mem__Close [.p (some (.n mb, 0)), .i .i64 id] σ) fun r => r.1 = .i .i64 0 ∧ MemIn r.2 mb (M.close id.toNat w) X ∧ Keep X σ r.2 := by
  have hR : M.closeR id = (M.close id.toNat w, 0) := by unfold MemS.closeR; rw [hw]
  have key : ∀ F, MemAt σ mb F M → Ok (mem_Mem__Close [.p (some (.n mb, 0)), .i .i64 id] σ) fun r => r.1 = .i .i64 0 ∧ Behind σ mb F (M.close id.toNat w) r.2 := fun F hF => by
    have := closeT (id := id) hF h.ok hc hid
    rw [hR] at this; exact this
  have hh := h
  obtain ⟨F, g1, _⟩ := hh
  obtain ⟨r, e, p1, _⟩ := key F g1
  refine ⟨r, e, p1, ?_⟩
  exact h.behind (F := F) (σ' := r.2) fun F hF => by
    obtain ⟨r', e', _, b⟩ := key F hF
    rw [e] at e'; cases e'; exact b
theorem Beh.close {Y : List Int} {M : MemS} {id : Int} {w : List Int} (h0 : 0 ≤ id) (hY : id ∉ Y) : Beh Y M (M.close id.toNat w) 0 (-(w.length : Int)) (-1) :=
  ⟨by simp [MemS.close, Met.free], by simp [MemS.close, Met.free], by simp [MemS.close, Met.free], by simp only [MemS.close, Met.free]; omega, by simp only [MemS.close]; omega, fun y hy => cls_other h0 fun e => hY (e ▸ hy)⟩

/-! ### Pools that are alike but for their words -/
structure Alike (S S' : PoolS) : Prop where
  id : S'.id = S.id
  words : S'.words = S.words
  room : S'.room = S.room
  free : S'.free = S.free
  taken : S'.taken = S.taken
  len : S'.E.length = S.E.length
  at_ : ∀ (i : Nat) (e : PE), S.E[i]? = some e → ∃ e', S'.E[i]? = some e' ∧ e'.tk = e.tk ∧ e'.gen = e.gen
theorem Alike.refl (S : PoolS) : Alike S S := ⟨rfl, rfl, rfl, rfl, rfl, rfl, fun i e h => ⟨e, h, rfl, rfl⟩⟩
theorem Alike.trans {S S' S'' : PoolS} (h : Alike S S') (g : Alike S' S'') : Alike S S'' :=
  ⟨g.id.trans h.id, g.words.trans h.words, g.room.trans h.room, g.free.trans h.free, g.taken.trans h.taken, g.len.trans h.len, fun i e he => by
    obtain ⟨e1, a1, a2, a3⟩ := h.at_ i e he
    obtain ⟨e2, b1, b2, b3⟩ := g.at_ i e1 a1
    exact ⟨e2, b1, b2.trans a2, b3.trans a3⟩⟩
theorem Alike.back {S S' : PoolS} (h : Alike S S') {i : Nat} {e' : PE} (he : S'.E[i]? = some e') : ∃ e, S.E[i]? = some e ∧ e'.tk = e.tk ∧ e'.gen = e.gen := by
  have hi := (List.getElem?_eq_some_iff.1 he).1
  rw [h.len] at hi
  obtain ⟨e2, a1, a2, a3⟩ := h.at_ i _ (List.getElem?_eq_getElem hi)
  rw [he] at a1; cases a1
  exact ⟨_, List.getElem?_eq_getElem hi, a2, a3⟩
theorem Alike.same {S : PoolS} {E' : List PE} {nx pv : Nat} (h : SameBut nx pv S.E E') : Alike S { S with E := E' } :=
  ⟨rfl, rfl, rfl, rfl, rfl, h.len, fun i e he => by obtain ⟨y, a, b, c, _⟩ := h.at_ i e he; exact ⟨y, a, b, c⟩⟩
theorem Alike.set {S : PoolS} {i : Nat} {e : PE} {ws : List Int} (he : S.E[i]? = some e) : Alike S { S with E := S.E.set i { e with ws := ws } } :=
  ⟨rfl, rfl, rfl, rfl, rfl, by simp, fun j x hx => by
    show ∃ e', (S.E.set i _)[j]? = some e' ∧ _
    rw [List.getElem?_set]
    by_cases hj : i = j
    · subst hj
      rw [he] at hx; cases hx
      simp [(List.getElem?_eq_some_iff.1 he).1]
    · rw [if_neg hj]; exact ⟨x, hx, rfl, rfl⟩⟩
/-- who is taken next, and the pool then -/
def PoolS.took (S : PoolS) : Nat × PoolS :=
  match S.free with
  | [] => (S.E.length, { S with room := S.more, E := S.E ++ [PE.fresh S.words], taken := S.taken + 1 })
  | f :: r => (f - 1, { S with E := S.E.set (f - 1) ⟨true, ((S.E[f - 1]?).map PE.gen).getD 0, List.replicate S.words 0⟩, free := r, taken := S.taken + 1 })
theorem ptake_p {σ : AH O} {pb mb : Nat} {M : MemS} {S : PoolS} {w : List Int} {X : List Nat} (h : PoolAt σ pb mb M S w X) (hc : M.calm) (hE : S.E.length < 1048576) (hR : S.more * (S.words + 1) ≤ 4194304) (hm : M.met.r + 100 < 85070591730234615865843651857942052864 ∧ M.met.w + 100 < 85070591730234615865843651857942052864) :
    Ok (pool_Pool__Take [.p (some (.n pb, 0))] σ) fun q => ∃ g, q.1 = .tup [.i .i64 (((S.took.1 : Nat) : Int) + 1), .i .i64 0] ∧ Took S S.took.2 S.took.1 g ∧ ∃ M' w' dr dw, PoolAt q.2 pb mb M' S.took.2 w' X ∧ Wrt M M' S.id w' dr dw ∧ 0 ≤ dr ∧ dr ≤ 2 ∧ 1 ≤ dw ∧ dr + dw ≤ 3 + S.words ∧ Keep X σ q.2 := by
  cases hf : S.free with
  | nil =>
    have e0 : S.took = (S.E.length, { S with room := S.more, E := S.E ++ [PE.fresh S.words], taken := S.taken + 1 }) := by unfold PoolS.took; rw [hf]
    rw [e0]
    refine (ptake_new h hc hf hE hR hm.2).mono fun q ⟨g1, M', w', g2, g3, g4⟩ => ⟨0, g1, ⟨rfl, rfl, ?_, fun j hj => ?_, fun e he => ?_, fun _ => rfl, ?_, rfl, .inr rfl, fun j r e => by rw [hf] at e; cases e⟩, M', w', 0, 1, g2, g3, by omega, by omega, by omega, by omega, g4⟩
    · show (S.E ++ [PE.fresh S.words])[S.E.length]? = _
      simp [PE.fresh]
    · show (S.E ++ [PE.fresh S.words])[j]? = _
      rcases Nat.lt_or_ge j S.E.length with g | g
      · rw [List.getElem?_append_left g]
      · rw [List.getElem?_eq_none (by simp; omega), List.getElem?_eq_none (by omega)]
    · have := (List.getElem?_eq_some_iff.1 he).1; simp only at this; omega
    · simp
  | cons j r =>
    have hch := h.p.ch
    rw [hf] at hch
    obtain ⟨⟨e, h1, _⟩, _⟩ := hch
    obtain ⟨i, rfl⟩ : ∃ i, j = i + 1 := ⟨j - 1, by omega⟩
    obtain ⟨e, he, htk, g⟩ := ptake_old h hc hf hm
    have hi := (List.getElem?_eq_some_iff.1 he).1
    have e0 : S.took = (i, { S with E := S.E.set i ⟨true, e.gen, List.replicate S.words 0⟩, free := r, taken := S.taken + 1 }) := by unfold PoolS.took; rw [hf]; simp [he]
    rw [e0]
    refine g.mono fun q ⟨g1, M', w', g2, g3, g4⟩ => ⟨e.gen, g1, ⟨rfl, rfl, ?_, fun j hj => ?_, fun e' he' => ?_, fun hn => ?_, ?_, rfl, .inl rfl, fun j' r' e => by rw [hf] at e; cases e; rfl⟩, M', w', 2, 1 + S.words, g2, g3, by omega, by omega, by omega, by omega, g4⟩
    · show (S.E.set i _)[i]? = _
      rw [List.getElem?_set]; simp [hi]
    · show (S.E.set i _)[j]? = _
      rw [List.getElem?_set, if_neg (fun e => hj e.symm)]
    · rw [he] at he'; cases he'; exact ⟨htk, rfl⟩
    · rw [he] at hn; cases hn
    · simp
theorem Alike.more {S S' : PoolS} (h : Alike S S') : S'.more = S.more := by unfold PoolS.more; rw [h.len, h.room]
theorem Alike.took {S S' : PoolS} (h : Alike S S') : S'.took.1 = S.took.1 ∧ Alike S.took.2 S'.took.2 := by
  unfold PoolS.took
  rw [h.free]
  cases hf : S.free with
  | nil =>
    refine ⟨h.len, ⟨h.id, h.words, h.more, rfl, by simp [h.taken], by simp [h.len], fun i e he => ?_⟩⟩
    show ∃ e', (S'.E ++ [PE.fresh S'.words])[i]? = some e' ∧ _
    have he : (S.E ++ [PE.fresh S.words])[i]? = some e := he
    rcases Nat.lt_or_ge i S.E.length with g | g
    · rw [List.getElem?_append_left g] at he
      rw [List.getElem?_append_left (by rw [h.len]; exact g)]
      exact h.at_ i e he
    · rw [List.getElem?_append_right g] at he
      rw [List.getElem?_append_right (by rw [h.len]; exact g), h.len]
      cases hk : i - S.E.length with
      | zero => rw [hk] at he; simp at he; subst he; exact ⟨_, rfl, rfl, rfl⟩
      | succ k => rw [hk] at he; simp at he
  | cons f r =>
    refine ⟨rfl, ⟨h.id, h.words, h.room, rfl, by simp [h.taken], by simp [h.len], fun i e he => ?_⟩⟩
    show ∃ e', (S'.E.set (f - 1) _)[i]? = some e' ∧ _
    have he : (S.E.set (f - 1) ⟨true, ((S.E[f - 1]?).map PE.gen).getD 0, List.replicate S.words 0⟩)[i]? = some e := he
    rw [List.getElem?_set] at he ⊢
    by_cases hj : f - 1 = i
    · subst hj
      rw [if_pos rfl] at he ⊢
      by_cases hl : f - 1 < S.E.length
      · rw [if_pos hl] at he
        rw [if_pos (by rw [h.len]; exact hl)]
        cases he
        obtain ⟨e', a, b, c⟩ := h.at_ _ _ (List.getElem?_eq_getElem hl)
        exact ⟨_, rfl, rfl, by simp only; rw [a, List.getElem?_eq_getElem hl]; simp [c]⟩
      · rw [if_neg hl] at he; cases he
    · rw [if_neg hj] at he ⊢
      exact h.at_ i e he

/-! ### Large objects -/
structure LarS where
  H : List Nat
  W : List Nat
  ep : Int
  last : Int
  words : Int
  ob : Nat → Option (List Int)
def LarS.cells (L : LarS) (pb mb : Nat) : List AV :=
  [.p (some (.n mb, 0)), .p (some (.n pb, 0)), .i .i64 (hdI L.H : Int), .i .i64 (tlI L.H : Int), .i .i64 (L.H.length : Int), .i .i64 (hdI L.W : Int), .i .i64 (tlI L.W : Int), .i .i64 (L.W.length : Int), .i .u64 L.ep, .i .i64 L.last, .i .i64 L.words]
def LarS.len (L : LarS) (i : Nat) : Nat := ((L.ob i).getD []).length
/-- what is told of an entry: its space, its size, its mark -/
def v5 (E : List PE) (j : Nat) : Option (Int × Int × Int) := (E[j]?).bind fun e => if e.tk = true then (e.ws[0]?).bind fun a => (e.ws[1]?).bind fun b => (e.ws[4]?).bind fun c => some (a, b, c) else none
theorem v5_some {E : List PE} {j : Nat} {a b c : Int} (h : v5 E j = some (a, b, c)) : ∃ e, E[j]? = some e ∧ e.tk = true ∧ e.ws[0]? = some a ∧ e.ws[1]? = some b ∧ e.ws[4]? = some c := by
  unfold v5 at h
  obtain ⟨e, he, h⟩ := Option.bind_eq_some_iff.1 h
  split at h
  · rename_i ht
    obtain ⟨a', h1, h⟩ := Option.bind_eq_some_iff.1 h
    obtain ⟨b', h2, h⟩ := Option.bind_eq_some_iff.1 h
    obtain ⟨c', h3, h⟩ := Option.bind_eq_some_iff.1 h
    cases h
    exact ⟨e, he, ht, h1, h2, h3⟩
  · cases h
theorem v5_mk {E : List PE} {j : Nat} {a b c : Int} {e : PE} (he : E[j]? = some e) (ht : e.tk = true) (h1 : e.ws[0]? = some a) (h2 : e.ws[1]? = some b) (h3 : e.ws[4]? = some c) : v5 E j = some (a, b, c) := by
  unfold v5; rw [he]; simp [ht, h1, h2, h3]
theorem v5_same {E E' : List PE} (hs : SameBut 2 3 E E') : v5 E' = v5 E := by
  funext j
  cases hj : E[j]? with
  | none =>
    have : E'[j]? = none := List.getElem?_eq_none (by rw [hs.len]; exact List.getElem?_eq_none_iff.1 hj)
    simp [v5, hj, this]
  | some x =>
    obtain ⟨y, g1, g2, g3, g4⟩ := hs.at_ j x hj
    simp only [v5, hj, g1, Option.bind_some, g2, g4 0 (by decide) (by decide), g4 1 (by decide) (by decide), g4 4 (by decide) (by decide)]
theorem v5_set {E : List PE} {i : Nat} {e : PE} (hi : i < E.length) : v5 (E.set i e) = fun j => if j = i then v5 [e] 0 else v5 E j := by
  funext j
  by_cases hj : j = i
  · subst hj; simp [v5, hi]
  · rw [if_neg hj]; unfold v5; rw [List.getElem?_set, if_neg (fun e => hj e.symm)]
/-- what the entries say of their objects; Y: the spaces of others -/
structure Objs (M : MemS) (V : Nat → Option (Int × Int × Int)) (sid : Int) (ob : Nat → Option (List Int)) (ep : Int) (H : List Nat) (Y : List Int) : Prop where
  non : ∀ i, ob i = none → V i = none
  at_ : ∀ (i : Nat) (ws : List Int), ob i = some ws → ∃ sp mk, V i = some (sp, (ws.length : Int), mk) ∧ 0 ≤ mk ∧ mk ≤ ep ∧ (mk = ep ↔ i ∈ H) ∧ wordsOf M.sp sp = some ws ∧ sp ≠ sid ∧ sp ∉ Y
  apart : ∀ (i j : Nat) (x a b c d : Int), V i = some (x, a, b) → V j = some (x, c, d) → i = j
  others : ∀ y ∈ Y, wordsOf M.sp y ≠ none ∧ y ≠ sid
structure LarAt (σ : AH O) (lb pb mb : Nat) (M : MemS) (S : PoolS) (w : List Int) (L : LarS) (X : List Nat) (Y : List Int) : Prop where
  p : PoolAt σ pb mb M S w (lb :: X)
  b : ∃ el, σ.blk lb = some (.cells true el (L.cells pb mb))
  nx : lb ∉ X
  five : S.words = 5
  lH : Linked S.E 2 3 L.H
  lW : Linked S.E 2 3 L.W
  dis : ∀ i ∈ L.H, i ∉ L.W
  all : ∀ i, L.ob i ≠ none → i ∈ L.H ∨ i ∈ L.W
  o : Objs M (v5 S.E) S.id L.ob L.ep L.H Y
  ep : 0 ≤ L.ep ∧ L.ep < 4611686018427387904
  last : 0 ≤ L.last ∧ L.last ≤ 4611686018427387904
  sum : L.words = ((((L.H ++ L.W).map L.len).sum : Nat) : Int)
theorem Objs.mem {M M' : MemS} {V : Nat → Option (Int × Int × Int)} {sid : Int} {ob : Nat → Option (List Int)} {ep : Int} {H : List Nat} {Y : List Int} (h : Objs M V sid ob ep H Y) (hw : ∀ y v, y ≠ sid → wordsOf M.sp y = some v → wordsOf M'.sp y = some v) : Objs M' V sid ob ep H Y :=
  ⟨h.non, fun i ws ho => by
    obtain ⟨sp, mk, a1, a2, a3, a4, a5, a6, a7⟩ := h.at_ i ws ho
    exact ⟨sp, mk, a1, a2, a3, a4, hw sp ws a6 a5, a6, a7⟩, h.apart, fun y hy => ⟨by
    obtain ⟨g1, g2⟩ := h.others y hy
    cases hv : wordsOf M.sp y with
    | none => exact absurd hv g1
    | some v => rw [hw y v g2 hv]; simp, (h.others y hy).2⟩⟩
theorem Wrt.oth {M M' : MemS} {id : Int} {w w' : List Int} {dr dw : Int} (hw : wordsOf M.sp id = some w) (h : Wrt M M' id w' dr dw) : ∀ y v, y ≠ id → wordsOf M.sp y = some v → wordsOf M'.sp y = some v := fun y v hy hv => (h.other (wordsOf_some hw).1 hy).trans hv
section
variable {σ : AH O} {lb pb mb : Nat} {M : MemS} {S : PoolS} {w : List Int} {L : LarS} {X : List Nat} {Y : List Int} (h : LarAt σ lb pb mb M S w L X Y)
include h
theorem LarAt.lt : lb < σ.next := h.p.mi.lt _ (by simp)
theorem LarAt.lX : ∀ b ∈ X, b < σ.next := fun b hb => h.p.mi.lt _ (by simp [hb])
theorem LarAt.idY : S.id ∉ Y := fun hm => (h.o.others _ hm).2 rfl
theorem LarAt.wl : w.length = S.room * 6 := by have := h.p.p.len; rw [h.five] at this; exact this
theorem LarAt.room : S.room * 6 ≤ 4194304 := by have := h.p.mi.wlen h.p.now; rw [h.wl] at this; exact this
theorem LarAt.el : S.E.length ≤ 699050 := by have := h.p.p.made; have := h.room; omega
theorem LarAt.at {i : Nat} {ws : List Int} (ho : L.ob i = some ws) : ∃ e sp mk, S.E[i]? = some e ∧ e.tk = true ∧ e.ws[0]? = some sp ∧ e.ws[1]? = some (ws.length : Int) ∧ e.ws[4]? = some mk ∧ 0 ≤ mk ∧ mk ≤ L.ep ∧ (mk = L.ep ↔ i ∈ L.H) ∧ wordsOf M.sp sp = some ws ∧ sp ≠ S.id ∧ sp ∉ Y := by
  obtain ⟨sp, mk, a1, a2, a3, a4, a5, a6, a7⟩ := h.o.at_ i ws ho
  obtain ⟨e, b1, b2, b3, b4, b5⟩ := v5_some a1
  exact ⟨e, sp, mk, b1, b2, b3, b4, b5, a2, a3, a4, a5, a6, a7⟩
theorem LarAt.tkn {i : Nat} {e : PE} (he : S.E[i]? = some e) (ht : e.tk = true) : ∃ ws, L.ob i = some ws := by
  cases ho : L.ob i with
  | some ws => exact ⟨ws, rfl⟩
  | none =>
    have hl := h.p.p.wl e (List.mem_of_getElem? he)
    rw [h.five] at hl
    have := h.o.non i ho
    rw [v5_mk he ht (List.getElem?_eq_getElem (show 0 < e.ws.length by omega)) (List.getElem?_eq_getElem (show 1 < e.ws.length by omega)) (List.getElem?_eq_getElem (show 4 < e.ws.length by omega))] at this
    cases this
theorem LarAt.mem {i : Nat} (hi : i ∈ L.H ∨ i ∈ L.W) : ∃ e ws, S.E[i]? = some e ∧ e.tk = true ∧ L.ob i = some ws := by
  have key : ∃ e, S.E[i]? = some e ∧ e.tk = true := by
    rcases hi with hi | hi
    · obtain ⟨j, hj⟩ := List.getElem?_of_mem hi
      obtain ⟨e, he, hl⟩ := h.lH.at_ j i hj
      exact ⟨e, he, hl.tk⟩
    · obtain ⟨j, hj⟩ := List.getElem?_of_mem hi
      obtain ⟨e, he, hl⟩ := h.lW.at_ j i hj
      exact ⟨e, he, hl.tk⟩
  obtain ⟨e, he, ht⟩ := key
  obtain ⟨ws, ho⟩ := h.tkn he ht
  exact ⟨e, ws, he, ht, ho⟩
theorem LarAt.nd : (L.H ++ L.W).Nodup := List.nodup_append.2 ⟨h.lH.nd, h.lW.nd, fun a ha b hb e => h.dis a ha (e ▸ hb)⟩
theorem LarAt.hw : L.H.length + L.W.length ≤ 699050 := by
  have h2 := nodup_le S.E.length (L.H ++ L.W) h.nd fun x hx => by
    obtain ⟨e, _, he, _⟩ := h.mem (List.mem_append.1 hx)
    exact (List.getElem?_eq_some_iff.1 he).1
  have := h.el
  simp only [List.length_append] at h2
  omega
theorem LarAt.ol {i : Nat} {ws : List Int} (ho : L.ob i = some ws) : ws.length ≤ 4194304 := by
  obtain ⟨e, sp, mk, _, _, _, _, _, _, _, _, a7, _⟩ := h.at ho
  exact h.p.mi.wlen a7
theorem LarAt.wb : 0 ≤ L.words ∧ L.words ≤ 2932031007040 := by
  have h1 := h.sum
  have h2 := sum_le (l := (L.H ++ L.W).map L.len) (c := 4194304) fun x hx => by
    obtain ⟨i, hi, rfl⟩ := List.mem_map.1 hx
    obtain ⟨e, ws, he, _, ho⟩ := h.mem (List.mem_append.1 hi)
    unfold LarS.len
    rw [ho]
    exact h.ol ho
  have h3 := h.hw
  simp only [List.length_map, List.length_append] at h2
  omega
/-- the same objects in another memory; the pool's words alone have turned -/
theorem LarAt.re {σ' : AH O} {M' : MemS} {w' : List Int} (hp : PoolAt σ' pb mb M' S w' (lb :: X)) (hb : σ'.blk lb = σ.blk lb) (hw : ∀ y v, y ≠ S.id → wordsOf M.sp y = some v → wordsOf M'.sp y = some v) : LarAt σ' lb pb mb M' S w' L X Y :=
  { h with p := hp, b := by obtain ⟨el, e⟩ := h.b; exact ⟨el, hb.trans e⟩, o := h.o.mem hw }
theorem LarAt.read {σ' : AH O} {M' : MemS} {dr : Int} (hp : PoolAt σ' pb mb M' S w (lb :: X)) (hk : Keep (lb :: X) σ σ') (hq : Wrt M M' S.id w dr 0) : LarAt σ' lb pb mb M' S w L X Y := h.re hp hk.head (hq.oth h.p.now)
theorem LarAt.beh {M' : MemS} {w' : List Int} {dr dw : Int} (hq : Wrt M M' S.id w' dr dw) (hok : M'.ok) (h0 : 0 ≤ dr) (h1 : 0 ≤ dw) (hl : w'.length = w.length) : Beh Y M M' (dr + dw) 0 0 := by
  have := Beh.wrt h.p.mi.ok hok h.p.now hq h0 h1 h.idY
  rw [hl, Int.sub_self] at this
  exact this
theorem LarAt.ext {σ' : AH O} (he : Ext σ σ') : LarAt σ' lb pb mb M S w L X Y := { h with p := h.p.ext he, b := by obtain ⟨el, e⟩ := h.b; exact ⟨el, (he.blk _ h.lt).trans e⟩ }
theorem LarAt.turn {σ' : AH O} {K Z : List Nat} (hc : Chg K σ σ') (hl : ∀ b ∈ K, b ∈ X ∨ σ.next ≤ b) (hY : ∀ b ∈ Z, b ∈ X ∨ (σ.next ≤ b ∧ b < σ'.next)) : LarAt σ' lb pb mb M S w L Z Y :=
  { h with
    p := h.p.turn hc (fun b hb => by
      rcases hl b hb with g | g
      · exact .inl (by simp [g])
      · exact .inr g) (fun b hb => by
      rcases List.mem_cons.1 hb with rfl | hb
      · exact .inl (by simp)
      · rcases hY b hb with g | g
        · exact .inl (by simp [g])
        · exact .inr g)
    b := by
      obtain ⟨el, e⟩ := h.b
      refine ⟨el, (hc.blk _ h.lt fun hm => ?_).trans e⟩
      rcases hl _ hm with g | g
      · exact h.nx g
      · have := h.lt; omega
    nx := fun hm => by
      rcases hY _ hm with g | g
      · exact h.nx g
      · have := h.lt; omega }
end
end Go.Abs.Try
