/-
  Layers above the pool: what a call costs and leaves alone; pools alike; large objects: their state. No conditions.
-/
import Derived.Test.YtgmffmgbaelohaaM10
import Derived.Test.YtgmffmgbaelohaaAbsArgs
set_option linter.unusedVariables false
set_option linter.unusedSimpArgs false
set_option linter.constructorNameAsVariable false
set_option linter.unusedSimpArgs false
set_option linter.unusedVariables false
set_option linter.unusedSectionVars false
set_option maxHeartbeats 1000000
namespace Go.Abs.Try
open Go Go.Abs
variable {O : Type}
theorem nodup_le : ∀ (n : Nat) (l : List Nat), l.Nodup -> (∀ x ∈ l, x < n) -> l.length <= n := by
 intro n
 induction n with
 | zero => intro l _ hx; cases l with | nil => simp | cons a l => exact absurd (hx a List.mem_cons_self) (by omega)
 | succ n ih =>
  intro l hn hx
  by_cases hm : n ∈ l
  ·have h1 := ih (l.erase n) (hn.erase n) fun x hx' => by
    have := hx x (List.mem_of_mem_erase hx')
    have hne : x ≠ n := fun e => by subst e; exact (List.Nodup.not_mem_erase hn) hx'
    omega
   rw [List.length_erase_of_mem hm] at h1; omega
  ·have := ih l hn fun x hx' => by
    have := hx x hx'
    have hne : x ≠ n := fun e => hm (e ▸ hx')
    omega
   omega
structure Beh (Y : List Int) (M M' : MemS) (k dh dc : Int) : Prop where
 r : M.met.r <= M'.met.r
 w : M.met.w <= M'.met.w
 k : M'.met.r + M'.met.w <= M.met.r + M.met.w + k
 held : M'.met.held = M.met.held + dh
 count : M'.count = M.count + dc
 keep : ∀ y ∈ Y, wordsOf M'.sp y = wordsOf M.sp y
theorem Beh.refl (Y : List Int) (M : MemS) : Beh Y M M 0 0 0 := ⟨by omega, by omega, by omega, by omega, by omega, fun _ _ => rfl⟩
theorem Beh.trans {Y : List Int} {M M' M'' : MemS} {k a c k' a' c' : Int} (h : Beh Y M M' k a c) (g : Beh Y M' M'' k' a' c') : Beh Y M M'' (k + k') (a + a') (c + c') :=
 ⟨by have := h.r; have := g.r; omega, by have := h.w; have := g.w; omega, by have := h.k; have := g.k; omega, by have := h.held; have := g.held; omega, by have := h.count; have := g.count; omega, fun y hy => (g.keep y hy).trans (h.keep y hy)⟩
theorem Beh.as {Y : List Int} {M M' : MemS} {k a c k' a' c' : Int} (h : Beh Y M M' k a c) (h1 : k <= k') (h2 : a = a') (h3 : c = c') : Beh Y M M' k' a' c' := by
 subst h2; subst h3; exact ⟨h.r, h.w, by have := h.k; omega, h.held, h.count, h.keep⟩
theorem Beh.mono {Y Z : List Int} {M M' : MemS} {k a c : Int} (h : Beh Y M M' k a c) (hs : ∀ y ∈ Z, y ∈ Y) : Beh Z M M' k a c := ⟨h.r, h.w, h.k, h.held, h.count, fun y hy => h.keep y (hs y hy)⟩
theorem Beh.wrt {Y : List Int} {M M' : MemS} {id : Int} {w w' : List Int} {dr dw : Int} (hok : M.ok) (hok' : M'.ok) (hw : wordsOf M.sp id = some w) (h : Wrt M M' id w' dr dw) (h0 : 0 <= dr) (h1 : 0 <= dw) (hY : id ∉ Y) : Beh Y M M' (dr + dw) ((w'.length : Int) - w.length) 0 := by
 obtain ⟨i0, hi⟩ := wordsOf_some hw
 have hs : (M.sp.map fun s => s.2.length)[id.toNat]? = some w.length := by rw [List.getElem?_map, hi]; rfl
 have e1 := sum_set (x := w'.length) hs
 have e2 := cnt_set (p := fun s : Bool × List Int => s.1) (x := (true, w')) hi
 have e3 := hok.held
 have e4 := hok'.held
 have e5 := hok.count
 have e6 := hok'.count
 rw [h.sp] at e4 e6
 rw [List.map_set] at e4
 simp only at e4
 simp only [if_true] at e2
 have hr := h.r
 have hw2 := h.w
 refine ⟨by omega, by omega, by omega, ?_, ?_, fun y hy => h.other i0 fun e => hY (e ▸ hy)⟩
 ·rw [e4, e3]; omega
 ·rw [e5, e6]; omega
theorem MemS.ok.opn' {M : MemS} (hok : M.ok) {n : Int} (h1 : 0 <= n) (h2 : n <= 4194304) (h3 : M.count < 262144) {Y : List Int} (hY : ∀ y ∈ Y, wordsOf M.sp y ≠ none) : Beh Y M (M.opn (ff M.sp) n) 0 n 1 := by
 refine ⟨by simp [MemS.opn, Met.hold], by simp [MemS.opn, Met.hold], by simp [MemS.opn, Met.hold], by simp [MemS.opn, Met.hold], by simp [MemS.opn], fun y hy => ?_⟩
 cases hw : wordsOf M.sp y with
 | none => exact absurd hw (hY y hy)
 | some w => exact (opn_other hw).1
theorem cls_other {M : MemS} {id y : Int} {w : List Int} (h0 : 0 <= id) (hne : y ≠ id) : wordsOf (M.close id.toNat w).sp y = wordsOf M.sp y := wordsOf_other hne h0
theorem closeX {J : AH O} {mb : Nat} {M : MemS} {X : List Nat} (h : MemIn J mb M X) (hc : M.calm) {id : Int} {w : List Int} (hw : wordsOf M.sp id = some w) (hid : id <= 9223372036854775807) :
  Ok (mem_Mem__Close [.p (some (.n mb, 0)), .i .i64 id] J) fun r => r.1 = .i .i64 0 /\ MemIn r.2 mb (M.close id.toNat w) X /\ Keep X J r.2 := by
 have hR : M.closeR id = (M.close id.toNat w, 0) := by unfold MemS.closeR; rw [hw]
 have key : ∀ F, MemAt J mb F M -> Ok (mem_Mem__Close [.p (some (.n mb, 0)), .i .i64 id] J) fun r => r.1 = .i .i64 0 /\ Behind J mb F (M.close id.toNat w) r.2 := fun F hF => by
  have := closeT (id := id) hF h.ok hc hid
  rw [hR] at this; exact this
 have hh := h
 obtain ⟨F, g1, _⟩ := hh
 obtain ⟨r, e, p1, _⟩ := key F g1
 refine ⟨r, e, p1, ?_⟩
 exact h.behind (F := F) (J' := r.2) fun F hF => by
  obtain ⟨r', e', _, b⟩ := key F hF
  rw [e] at e'; cases e'; exact b
theorem Beh.close {Y : List Int} {M : MemS} {id : Int} {w : List Int} (h0 : 0 <= id) (hY : id ∉ Y) : Beh Y M (M.close id.toNat w) 0 (-(w.length : Int)) (-1) :=
 ⟨by simp [MemS.close, Met.free], by simp [MemS.close, Met.free], by simp [MemS.close, Met.free], by simp only [MemS.close, Met.free]; omega, by simp only [MemS.close]; omega, fun y hy => cls_other h0 fun e => hY (e ▸ hy)⟩
structure Alike (S S' : PoolS) : Prop where
 id : S'.id = S.id
 words : S'.words = S.words
 room : S'.room = S.room
 free : S'.free = S.free
 taken : S'.taken = S.taken
 len : S'.E.length = S.E.length
 at_ : ∀ (i : Nat) (e : PE), S.E[i]? = some e -> ∃ e', S'.E[i]? = some e' /\ e'.tk = e.tk /\ e'.gen = e.gen
theorem Alike.refl (S : PoolS) : Alike S S := ⟨rfl, rfl, rfl, rfl, rfl, rfl, fun i e h => ⟨e, h, rfl, rfl⟩⟩
theorem Alike.trans {S S' S'' : PoolS} (h : Alike S S') (g : Alike S' S'') : Alike S S'' :=
 ⟨g.id.trans h.id, g.words.trans h.words, g.room.trans h.room, g.free.trans h.free, g.taken.trans h.taken, g.len.trans h.len, fun i e he => by
  obtain ⟨e1, a1, a2, a3⟩ := h.at_ i e he
  obtain ⟨e2, b1, b2, b3⟩ := g.at_ i e1 a1
  exact ⟨e2, b1, b2.trans a2, b3.trans a3⟩⟩
theorem Alike.back {S S' : PoolS} (h : Alike S S') {i : Nat} {e' : PE} (he : S'.E[i]? = some e') : ∃ e, S.E[i]? = some e /\ e'.tk = e.tk /\ e'.gen = e.gen := by
 have hi := (List.getElem?_eq_some_iff.1 he).1
 rw [h.len] at hi
 obtain ⟨e2, a1, a2, a3⟩ := h.at_ i _ (List.getElem?_eq_getElem hi)
 rw [he] at a1; cases a1
 exact ⟨_, List.getElem?_eq_getElem hi, a2, a3⟩
theorem Alike.same {S : PoolS} {E' : List PE} {nx pv : Nat} (h : SameBut nx pv S.E E') : Alike S { S with E := E' } :=
 ⟨rfl, rfl, rfl, rfl, rfl, h.len, fun i e he => by obtain ⟨y, a, b, c, _⟩ := h.at_ i e he; exact ⟨y, a, b, c⟩⟩
theorem Alike.set {S : PoolS} {i : Nat} {e : PE} {ws : List Int} (he : S.E[i]? = some e) : Alike S { S with E := S.E.set i { e with ws := ws } } :=
 ⟨rfl, rfl, rfl, rfl, rfl, by simp, fun j x hx => by
  show ∃ e', (S.E.set i _)[j]? = some e' /\ _
  rw [List.getElem?_set]
  by_cases hj : i = j
  ·subst hj
   rw [he] at hx; cases hx
   simp [(List.getElem?_eq_some_iff.1 he).1]
  ·rw [if_neg hj]; exact ⟨x, hx, rfl, rfl⟩⟩
def PoolS.took (S : PoolS) : Nat × PoolS :=
 match S.free with
 | [] => (S.E.length, { S with room := S.more, E := S.E ++ [PE.fresh S.words], taken := S.taken + 1 })
 | f :: r => (f - 1, { S with E := S.E.set (f - 1) ⟨true, ((S.E[f - 1]?).map PE.gen).getD 0, List.replicate S.words 0⟩, free := r, taken := S.taken + 1 })
theorem ptake_p {J : AH O} {pb mb : Nat} {M : MemS} {S : PoolS} {w : List Int} {X : List Nat} (h : PoolAt J pb mb M S w X) (hc : M.calm) (hE : S.E.length < 1048576) (hR : S.more * (S.words + 1) <= 4194304) (hm : M.met.r + 100 < 85070591730234615865843651857942052864 /\ M.met.w + 100 < 85070591730234615865843651857942052864) :
  Ok (pool_Pool__Take [.p (some (.n pb, 0))] J) fun q => ∃ g, q.1 = .tup [.i .i64 (((S.took.1 : Nat) : Int) + 1), .i .i64 0] /\ Took S S.took.2 S.took.1 g /\ ∃ M' w' dr dw, PoolAt q.2 pb mb M' S.took.2 w' X /\ Wrt M M' S.id w' dr dw /\ 0 <= dr /\ dr <= 2 /\ 1 <= dw /\ dr + dw <= 3 + S.words /\ Keep X J q.2 := by
 cases hf : S.free with
 | nil =>
  have e0 : S.took = (S.E.length, { S with room := S.more, E := S.E ++ [PE.fresh S.words], taken := S.taken + 1 }) := by unfold PoolS.took; rw [hf]
  rw [e0]
  refine (ptake_new h hc hf hE hR hm.2).mono fun q ⟨g1, M', w', g2, g3, g4⟩ => ⟨0, g1, ⟨rfl, rfl, ?_, fun j hj => ?_, fun e he => ?_, fun _ => rfl, ?_, rfl, .inr rfl, fun j r e => (by rw [hf] at e; cases e), .inl ⟨hf, rfl, hf, rfl, by simp⟩⟩, M', w', 0, 1, g2, g3, by omega, by omega, by omega, by omega, g4⟩
  ·show (S.E ++ [PE.fresh S.words])[S.E.length]? = _
   simp [PE.fresh]
  ·show (S.E ++ [PE.fresh S.words])[j]? = _
   rcases Nat.lt_or_ge j S.E.length with g | g
   ·rw [List.getElem?_append_left g]
   ·rw [List.getElem?_eq_none (by simp; omega), List.getElem?_eq_none (by omega)]
  ·have := (List.getElem?_eq_some_iff.1 he).1; simp only at this; omega
  ·simp
 | cons j r =>
  have hch := h.p.ch
  rw [hf] at hch
  obtain ⟨⟨e, h1, _⟩, _⟩ := hch
  obtain ⟨i, rfl⟩ : ∃ i, j = i + 1 := ⟨j - 1, by omega⟩
  obtain ⟨e, he, htk, g⟩ := ptake_old h hc hf hm
  have hi := (List.getElem?_eq_some_iff.1 he).1
  have e0 : S.took = (i, { S with E := S.E.set i ⟨true, e.gen, List.replicate S.words 0⟩, free := r, taken := S.taken + 1 }) := by unfold PoolS.took; rw [hf]; simp [he]
  rw [e0]
  refine g.mono fun q ⟨g1, M', w', g2, g3, g4⟩ => ⟨e.gen, g1, ⟨rfl, rfl, ?_, fun j hj => ?_, fun e' he' => ?_, fun hn => ?_, ?_, rfl, .inl rfl, fun j' r' e => (by rw [hf] at e; cases e; rfl), .inr ⟨hf, rfl, by simp⟩⟩, M', w', 2, 1 + S.words, g2, g3, by omega, by omega, by omega, by omega, g4⟩
  ·show (S.E.set i _)[i]? = _
   rw [List.getElem?_set]; simp [hi]
  ·show (S.E.set i _)[j]? = _
   rw [List.getElem?_set, if_neg (fun e => hj e.symm)]
  ·rw [he] at he'; cases he'; exact ⟨htk, rfl⟩
  ·rw [he] at hn; cases hn
  ·simp
theorem Alike.more {S S' : PoolS} (h : Alike S S') : S'.more = S.more := by unfold PoolS.more; rw [h.len, h.room]
theorem Alike.took {S S' : PoolS} (h : Alike S S') : S'.took.1 = S.took.1 /\ Alike S.took.2 S'.took.2 := by
 unfold PoolS.took
 rw [h.free]
 cases hf : S.free with
 | nil =>
  refine ⟨h.len, ⟨h.id, h.words, h.more, rfl, by simp [h.taken], by simp [h.len], fun i e he => ?_⟩⟩
  show ∃ e', (S'.E ++ [PE.fresh S'.words])[i]? = some e' /\ _
  have he : (S.E ++ [PE.fresh S.words])[i]? = some e := he
  rcases Nat.lt_or_ge i S.E.length with g | g
  ·rw [List.getElem?_append_left g] at he
   rw [List.getElem?_append_left (by rw [h.len]; exact g)]
   exact h.at_ i e he
  ·rw [List.getElem?_append_right g] at he
   rw [List.getElem?_append_right (by rw [h.len]; exact g), h.len]
   cases hk : i - S.E.length with
   | zero => rw [hk] at he; simp at he; subst he; exact ⟨_, rfl, rfl, rfl⟩
   | succ k => rw [hk] at he; simp at he
 | cons f r =>
  refine ⟨rfl, ⟨h.id, h.words, h.room, rfl, by simp [h.taken], by simp [h.len], fun i e he => ?_⟩⟩
  show ∃ e', (S'.E.set (f - 1) _)[i]? = some e' /\ _
  have he : (S.E.set (f - 1) ⟨true, ((S.E[f - 1]?).map PE.gen).getD 0, List.replicate S.words 0⟩)[i]? = some e := he
  rw [List.getElem?_set] at he ⊢
  by_cases hj : f - 1 = i
  ·subst hj
   rw [if_pos rfl] at he ⊢
   by_cases hl : f - 1 < S.E.length
   ·rw [if_pos hl] at he
    rw [if_pos (by rw [h.len]; exact hl)]
    cases he
    obtain ⟨e', a, b, c⟩ := h.at_ _ _ (List.getElem?_eq_getElem hl)
    exact ⟨_, rfl, rfl, by simp only; rw [a, List.getElem?_eq_getElem hl]; simp [c]⟩
   ·rw [if_neg hl] at he; cases he
  ·rw [if_neg hj] at he ⊢
   exact h.at_ i e he
structure LarS where
 H : List Nat
 W : List Nat
 ep : Int
 last : Int
 words : Int
 ob : Nat -> Option (List Int)
def LarS.cells (L : LarS) (pb mb : Nat) : List AV :=
 [.p (some (.n mb, 0)), .p (some (.n pb, 0)), .i .i64 (hdI L.H : Int), .i .i64 (tlI L.H : Int), .i .i64 (L.H.length : Int), .i .i64 (hdI L.W : Int), .i .i64 (tlI L.W : Int), .i .i64 (L.W.length : Int), .i .u64 L.ep, .i .i64 L.last, .i .i64 L.words]
def LarS.len (L : LarS) (i : Nat) : Nat := ((L.ob i).getD []).length
def v5 (E : List PE) (j : Nat) : Option (Int × Int × Int) := (E[j]?).bind fun e => if e.tk = true then (e.ws[0]?).bind fun a => (e.ws[1]?).bind fun b => (e.ws[4]?).bind fun c => some (a, b, c) else none
theorem v5_some {E : List PE} {j : Nat} {a b c : Int} (h : v5 E j = some (a, b, c)) : ∃ e, E[j]? = some e /\ e.tk = true /\ e.ws[0]? = some a /\ e.ws[1]? = some b /\ e.ws[4]? = some c := by
 unfold v5 at h
 obtain ⟨e, he, h⟩ := Option.bind_eq_some_iff.1 h
 split at h
 ·rename_i ht
  obtain ⟨a', h1, h⟩ := Option.bind_eq_some_iff.1 h
  obtain ⟨b', h2, h⟩ := Option.bind_eq_some_iff.1 h
  obtain ⟨c', h3, h⟩ := Option.bind_eq_some_iff.1 h
  cases h
  exact ⟨e, he, ht, h1, h2, h3⟩
 ·cases h
theorem v5_mk {E : List PE} {j : Nat} {a b c : Int} {e : PE} (he : E[j]? = some e) (ht : e.tk = true) (h1 : e.ws[0]? = some a) (h2 : e.ws[1]? = some b) (h3 : e.ws[4]? = some c) : v5 E j = some (a, b, c) := by
 unfold v5; rw [he]; simp [ht, h1, h2, h3]
theorem v5_same {E E' : List PE} (hs : SameBut 2 3 E E') : v5 E' = v5 E := by
 funext j
 cases hj : E[j]? with
 | none =>
  have : E'[j]? = none := List.getElem?_eq_none (by rw [hs.len]; exact List.getElem?_eq_none_iff.1 hj)
  simp [v5, hj, this]
 | some x =>
  obtain ⟨y, g1, g2, g3, g4⟩ := hs.at_ j x hj
  simp only [v5, hj, g1, Option.bind_some, g2, g4 0 (by decide) (by decide), g4 1 (by decide) (by decide), g4 4 (by decide) (by decide)]
theorem v5_set {E : List PE} {i : Nat} {e : PE} (hi : i < E.length) : v5 (E.set i e) = fun j => if j = i then v5 [e] 0 else v5 E j := by
 funext j
 by_cases hj : j = i
 ·subst hj; simp [v5, hi]
 ·rw [if_neg hj]; unfold v5; rw [List.getElem?_set, if_neg (fun e => hj e.symm)]
structure Objs (M : MemS) (V : Nat -> Option (Int × Int × Int)) (sid : Int) (ob : Nat -> Option (List Int)) (ep : Int) (H : List Nat) (Y : List Int) : Prop where
 non : ∀ i, ob i = none -> V i = none
 at_ : ∀ (i : Nat) (ws : List Int), ob i = some ws -> ∃ sp mk, V i = some (sp, (ws.length : Int), mk) /\ 0 <= mk /\ mk <= ep /\ (mk = ep ↔ i ∈ H) /\ wordsOf M.sp sp = some ws /\ sp ≠ sid /\ sp ∉ Y
 apart : ∀ (i j : Nat) (x a b c d : Int), V i = some (x, a, b) -> V j = some (x, c, d) -> i = j
 others : ∀ y ∈ Y, wordsOf M.sp y ≠ none /\ y ≠ sid
structure LarAt (J : AH O) (lb pb mb : Nat) (M : MemS) (S : PoolS) (w : List Int) (L : LarS) (X : List Nat) (Y : List Int) : Prop where
 p : PoolAt J pb mb M S w (lb :: X)
 b : ∃ el, J.blk lb = some (.cells true el (L.cells pb mb))
 nx : lb ∉ X
 five : S.words = 5
 lH : Linked S.E 2 3 L.H
 lW : Linked S.E 2 3 L.W
 dis : ∀ i ∈ L.H, i ∉ L.W
 all : ∀ i, L.ob i ≠ none -> i ∈ L.H ∨ i ∈ L.W
 o : Objs M (v5 S.E) S.id L.ob L.ep L.H Y
 ep : 0 <= L.ep /\ L.ep < 4611686018427387904
 last : 0 <= L.last /\ L.last <= 4611686018427387904
 sum : L.words = ((((L.H ++ L.W).map L.len).sum : Nat) : Int)
theorem Objs.mem {M M' : MemS} {V : Nat -> Option (Int × Int × Int)} {sid : Int} {ob : Nat -> Option (List Int)} {ep : Int} {H : List Nat} {Y : List Int} (h : Objs M V sid ob ep H Y) (hw : ∀ y v, y ≠ sid -> wordsOf M.sp y = some v -> wordsOf M'.sp y = some v) : Objs M' V sid ob ep H Y :=
 ⟨h.non, fun i ws ho => by
  obtain ⟨sp, mk, a1, a2, a3, a4, a5, a6, a7⟩ := h.at_ i ws ho
  exact ⟨sp, mk, a1, a2, a3, a4, hw sp ws a6 a5, a6, a7⟩, h.apart, fun y hy => ⟨by
  obtain ⟨g1, g2⟩ := h.others y hy
  cases hv : wordsOf M.sp y with
  | none => exact absurd hv g1
  | some v => rw [hw y v g2 hv]; simp, (h.others y hy).2⟩⟩
theorem Wrt.oth {M M' : MemS} {id : Int} {w w' : List Int} {dr dw : Int} (hw : wordsOf M.sp id = some w) (h : Wrt M M' id w' dr dw) : ∀ y v, y ≠ id -> wordsOf M.sp y = some v -> wordsOf M'.sp y = some v := fun y v hy hv => (h.other (wordsOf_some hw).1 hy).trans hv
section
variable {J : AH O} {lb pb mb : Nat} {M : MemS} {S : PoolS} {w : List Int} {L : LarS} {X : List Nat} {Y : List Int} (h : LarAt J lb pb mb M S w L X Y)
include h
theorem LarAt.lt : lb < J.next := h.p.mi.lt _ (by simp)
theorem LarAt.lX : ∀ b ∈ X, b < J.next := fun b hb => h.p.mi.lt _ (by simp [hb])
theorem LarAt.idY : S.id ∉ Y := fun hm => (h.o.others _ hm).2 rfl
theorem LarAt.wl : w.length = S.room * 6 := by have := h.p.p.len; rw [h.five] at this; exact this
theorem LarAt.room : S.room * 6 <= 4194304 := by have := h.p.mi.wlen h.p.now; rw [h.wl] at this; exact this
theorem LarAt.el : S.E.length <= 699050 := by have := h.p.p.made; have := h.room; omega
theorem LarAt.at {i : Nat} {ws : List Int} (ho : L.ob i = some ws) : ∃ e sp mk, S.E[i]? = some e /\ e.tk = true /\ e.ws[0]? = some sp /\ e.ws[1]? = some (ws.length : Int) /\ e.ws[4]? = some mk /\ 0 <= mk /\ mk <= L.ep /\ (mk = L.ep ↔ i ∈ L.H) /\ wordsOf M.sp sp = some ws /\ sp ≠ S.id /\ sp ∉ Y := by
 obtain ⟨sp, mk, a1, a2, a3, a4, a5, a6, a7⟩ := h.o.at_ i ws ho
 obtain ⟨e, b1, b2, b3, b4, b5⟩ := v5_some a1
 exact ⟨e, sp, mk, b1, b2, b3, b4, b5, a2, a3, a4, a5, a6, a7⟩
theorem LarAt.tkn {i : Nat} {e : PE} (he : S.E[i]? = some e) (ht : e.tk = true) : ∃ ws, L.ob i = some ws := by
 cases ho : L.ob i with
 | some ws => exact ⟨ws, rfl⟩
 | none =>
  have hl := h.p.p.wl e (List.mem_of_getElem? he)
  rw [h.five] at hl
  have := h.o.non i ho
  rw [v5_mk he ht (List.getElem?_eq_getElem (show 0 < e.ws.length by omega)) (List.getElem?_eq_getElem (show 1 < e.ws.length by omega)) (List.getElem?_eq_getElem (show 4 < e.ws.length by omega))] at this
  cases this
theorem LarAt.mem {i : Nat} (hi : i ∈ L.H ∨ i ∈ L.W) : ∃ e ws, S.E[i]? = some e /\ e.tk = true /\ L.ob i = some ws := by
 have key : ∃ e, S.E[i]? = some e /\ e.tk = true := by
  rcases hi with hi | hi
  ·obtain ⟨j, hj⟩ := List.getElem?_of_mem hi
   obtain ⟨e, he, hl⟩ := h.lH.at_ j i hj
   exact ⟨e, he, hl.tk⟩
  ·obtain ⟨j, hj⟩ := List.getElem?_of_mem hi
   obtain ⟨e, he, hl⟩ := h.lW.at_ j i hj
   exact ⟨e, he, hl.tk⟩
 obtain ⟨e, he, ht⟩ := key
 obtain ⟨ws, ho⟩ := h.tkn he ht
 exact ⟨e, ws, he, ht, ho⟩
theorem LarAt.nd : (L.H ++ L.W).Nodup := List.nodup_append.2 ⟨h.lH.nd, h.lW.nd, fun a ha b hb e => h.dis a ha (e ▸ hb)⟩
theorem LarAt.hw : L.H.length + L.W.length <= 699050 := by
 have h2 := nodup_le S.E.length (L.H ++ L.W) h.nd fun x hx => by
  obtain ⟨e, _, he, _⟩ := h.mem (List.mem_append.1 hx)
  exact (List.getElem?_eq_some_iff.1 he).1
 have := h.el
 simp only [List.length_append] at h2
 omega
theorem LarAt.ol {i : Nat} {ws : List Int} (ho : L.ob i = some ws) : ws.length <= 4194304 := by
 obtain ⟨e, sp, mk, _, _, _, _, _, _, _, _, a7, _⟩ := h.at ho
 exact h.p.mi.wlen a7
theorem LarAt.wb : 0 <= L.words /\ L.words <= 2932031007040 := by
 have h1 := h.sum
 have h2 := sum_le (l := (L.H ++ L.W).map L.len) (c := 4194304) fun x hx => by
  obtain ⟨i, hi, rfl⟩ := List.mem_map.1 hx
  obtain ⟨e, ws, he, _, ho⟩ := h.mem (List.mem_append.1 hi)
  unfold LarS.len
  rw [ho]
  exact h.ol ho
 have h3 := h.hw
 simp only [List.length_map, List.length_append] at h2
 omega
theorem LarAt.re {J' : AH O} {M' : MemS} {w' : List Int} (hp : PoolAt J' pb mb M' S w' (lb :: X)) (hb : J'.blk lb = J.blk lb) (hw : ∀ y v, y ≠ S.id -> wordsOf M.sp y = some v -> wordsOf M'.sp y = some v) : LarAt J' lb pb mb M' S w' L X Y :=
 { h with p := hp, b := by obtain ⟨el, e⟩ := h.b; exact ⟨el, hb.trans e⟩, o := h.o.mem hw }
theorem LarAt.read {J' : AH O} {M' : MemS} {dr : Int} (hp : PoolAt J' pb mb M' S w (lb :: X)) (hk : Keep (lb :: X) J J') (hq : Wrt M M' S.id w dr 0) : LarAt J' lb pb mb M' S w L X Y := h.re hp hk.head (hq.oth h.p.now)
theorem LarAt.beh {M' : MemS} {w' : List Int} {dr dw : Int} (hq : Wrt M M' S.id w' dr dw) (hok : M'.ok) (h0 : 0 <= dr) (h1 : 0 <= dw) (hl : w'.length = w.length) : Beh Y M M' (dr + dw) 0 0 := by
 have := Beh.wrt h.p.mi.ok hok h.p.now hq h0 h1 h.idY
 rw [hl, Int.sub_self] at this
 exact this
theorem LarAt.ext {J' : AH O} (he : Ext J J') : LarAt J' lb pb mb M S w L X Y := { h with p := h.p.ext he, b := by obtain ⟨el, e⟩ := h.b; exact ⟨el, (he.blk _ h.lt).trans e⟩ }
theorem LarAt.turn {J' : AH O} {K Z : List Nat} (hc : Chg K J J') (hl : ∀ b ∈ K, b ∈ X ∨ J.next <= b) (hY : ∀ b ∈ Z, b ∈ X ∨ (J.next <= b /\ b < J'.next)) : LarAt J' lb pb mb M S w L Z Y :=
 { h with
  p := h.p.turn hc (fun b hb => by
   rcases hl b hb with g | g
   ·exact .inl (by simp [g])
   ·exact .inr g) (fun b hb => by
   rcases List.mem_cons.1 hb with rfl | hb
   ·exact .inl (by simp)
   ·rcases hY b hb with g | g
    ·exact .inl (by simp [g])
    ·exact .inr g)
  b := by
   obtain ⟨el, e⟩ := h.b
   refine ⟨el, (hc.blk _ h.lt fun hm => ?_).trans e⟩
   rcases hl _ hm with g | g
   ·exact h.nx g
   ·have := h.lt; omega
  nx := fun hm => by
   rcases hY _ hm with g | g
   ·exact h.nx g
   ·have := h.lt; omega }
end
end Go.Abs.Try
namespace Go.Abs.Try
open Go Go.Abs
variable {O : Type}
def MemS.far (M : MemS) (k : Int) : Prop := M.met.r + k < 85070591730234615865843651857942052864 /\ M.met.w + k < 85070591730234615865843651857942052864
theorem MemS.far.calm {M : MemS} {k : Int} (h : M.far k) (h0 : 0 <= k) : M.calm := ⟨by have := h.1; omega, by have := h.2; omega⟩
theorem Beh.far {Y : List Int} {M M' : MemS} {k a c d : Int} (h : Beh Y M M' k a c) (hf : M.far (k + d)) : M'.far d := by
 have := h.r; have := h.w; have := h.k; have := hf.1; have := hf.2
 exact ⟨by omega, by omega⟩
theorem MemS.far.less {M : MemS} {k d : Int} (h : M.far k) (hd : d <= k) : M.far d := ⟨by have := h.1; omega, by have := h.2; omega⟩
theorem wrong1 {l : Sps} {sp at_ : Int} {ws : List Int} (h : wordsOf l sp = some ws) : wrongR l sp at_ 1 = if 0 <= at_ /\ at_ < ws.length then 0 else 11 := by
 unfold wrongR
 rw [h]
 simp only
 by_cases hc : 0 <= at_ /\ at_ < ws.length
 ·rw [if_pos hc, if_neg (by omega)]
 ·rw [if_neg hc, if_pos (by omega)]
theorem readR_of {M : MemS} {sp at_ : Int} {ws : List Int} (h : wordsOf M.sp sp = some ws) : M.readR sp at_ = if 0 <= at_ /\ at_ < ws.length then (M.rd 1, ws.getD at_.toNat 0, 0) else (M, 0, 11) := by
 unfold MemS.readR
 rw [wrong1 h, h]
 by_cases hc : 0 <= at_ /\ at_ < ws.length
 ·rw [if_pos hc, if_pos hc]; rfl
 ·rw [if_neg hc, if_neg hc]; rfl
theorem writeR_of {M : MemS} {sp at_ x : Int} {ws : List Int} (h : wordsOf M.sp sp = some ws) : M.writeR sp at_ x = if 0 <= at_ /\ at_ < ws.length then ((M.wr 1).put sp.toNat (ws.set at_.toNat x), 0) else (M, 11) := by
 unfold MemS.writeR
 rw [wrong1 h, h]
 by_cases hc : 0 <= at_ /\ at_ < ws.length
 ·rw [if_pos hc, if_pos hc]; rfl
 ·rw [if_neg hc, if_neg hc]; rfl
theorem readXT {J : AH O} {mb : Nat} {M : MemS} {X : List Nat} (h : MemIn J mb M X) (hc : M.calm) {id at_ : Int} (ha : -9223372036854775808 <= at_ /\ at_ <= 9223372036854775807) :
  Ok (mem_Mem__Read [.p (some (.n mb, 0)), .i .i64 id, .i .i64 at_] J) fun r => r.1 = .tup [.i .u64 (M.readR id at_).2.1, .i .i64 (M.readR id at_).2.2] /\ MemIn r.2 mb (M.readR id at_).1 X /\ Keep X J r.2 := by
 have key : ∀ F, MemAt J mb F M -> Ok (mem_Mem__Read [.p (some (.n mb, 0)), .i .i64 id, .i .i64 at_] J) fun r => r.1 = .tup [.i .u64 (M.readR id at_).2.1, .i .i64 (M.readR id at_).2.2] /\ Behind J mb F (M.readR id at_).1 r.2 := fun F hF => readT hF h.ok hc ha
 have hh := h
 obtain ⟨F, g1, _⟩ := hh
 obtain ⟨r, e, p1, _⟩ := key F g1
 refine ⟨r, e, p1, ?_⟩
 exact h.behind (F := F) (J' := r.2) fun F hF => by
  obtain ⟨r', e', _, b⟩ := key F hF
  rw [e] at e'; cases e'; exact b
theorem writeXT {J : AH O} {mb : Nat} {M : MemS} {X : List Nat} (h : MemIn J mb M X) (hc : M.calm) {id at_ x : Int} (ha : -9223372036854775808 <= at_ /\ at_ <= 9223372036854775807) :
  Ok (mem_Mem__Write [.p (some (.n mb, 0)), .i .i64 id, .i .i64 at_, .i .u64 x] J) fun r => r.1 = .i .i64 (M.writeR id at_ x).2 /\ MemIn r.2 mb (M.writeR id at_ x).1 X /\ Keep X J r.2 := by
 have key : ∀ F, MemAt J mb F M -> Ok (mem_Mem__Write [.p (some (.n mb, 0)), .i .i64 id, .i .i64 at_, .i .u64 x] J) fun r => r.1 = .i .i64 (M.writeR id at_ x).2 /\ Behind J mb F (M.writeR id at_ x).1 r.2 := fun F hF => writeT hF h.ok hc ha
 have hh := h
 obtain ⟨F, g1, _⟩ := hh
 obtain ⟨r, e, p1, _⟩ := key F g1
 refine ⟨r, e, p1, ?_⟩
 exact h.behind (F := F) (J' := r.2) fun F hF => by
  obtain ⟨r', e', _, b⟩ := key F hF
  rw [e] at e'; cases e'; exact b
theorem spSmall {M : MemS} (hok : M.ok) {sp : Int} {ws : List Int} (h : wordsOf M.sp sp = some ws) : 0 <= sp /\ sp < 262144 := by
 obtain ⟨h0, h1⟩ := wordsOf_some h
 have := (List.getElem?_eq_some_iff.1 h1).1
 have := hok.few
 omega
theorem Beh.rd {Y : List Int} {M : MemS} : Beh Y M (M.rd 1) 1 0 0 := ⟨by simp only [MemS.rd]; omega, by simp only [MemS.rd]; omega, by simp only [MemS.rd]; omega, by simp only [MemS.rd]; omega, by simp only [MemS.rd]; omega, fun _ _ => rfl⟩
theorem Beh.wrp {Y : List Int} {M : MemS} {id : Int} {w : List Int} (h0 : 0 <= id) (hY : id ∉ Y) : Beh Y M ((M.wr 1).put id.toNat w) 1 0 0 :=
 ⟨by simp only [MemS.wr, MemS.put]; omega, by simp only [MemS.wr, MemS.put]; omega, by simp only [MemS.wr, MemS.put]; omega, by simp only [MemS.wr, MemS.put]; omega, by simp only [MemS.wr, MemS.put]; omega, fun y hy => wordsOf_other (fun e => hY (e ▸ hy)) h0⟩
theorem lnew_ok {J : AH O} {mb : Nat} {M : MemS} {X : List Nat} {Y : List Int} (h : MemIn J mb M X) (hf : M.calm) (hcnt : M.count < 262144) (hY : ∀ y ∈ Y, wordsOf M.sp y ≠ none) :
  Ok (large_New [.p (some (.n mb, 0))] J) fun r => ∃ lb pb M' S, r.1 = .tup [.p (some (.n lb, 0)), .i .i64 0] /\ LarAt r.2 lb pb mb M' S [] ⟨[], [], 0, 0, 0, fun _ => none⟩ X Y /\ S = ⟨ff M.sp, 5, 0, [], [], 0⟩ /\ M' = M.opn (ff M.sp) 0 /\ Beh Y M M' 0 0 1 /\ Keep X J r.2 := by
 simp (maxSteps := 2000000) -implicitDefEqProofs (disch := (first | omega | rfl | assumption | (simp only [rsD]; first | omega | assumption))) only [large_New, large_New_c, Nat.reduceAdd, Nat.reduceMul, Nat.reduceLT, Int.reduceToNat, Int.reduceAdd, Int.reduceSub, Int.reduceMul, rsU, rsC]
 refine Ok.step (pnew_ok h hf hcnt (n := 5) (by decide)) fun r ⟨pb, g1, g2, g3, g4⟩ => ?_
 obtain ⟨q, J1⟩ := r
 simp only at g1 g2 g4
 subst g1
 have e0 : ((0 : Int) != 0) = false := rfl
 simp (maxSteps := 2000000) -implicitDefEqProofs (disch := (first | omega | rfl | assumption | (simp only [rsD]; first | omega | assumption))) only [e0, Nat.reduceAdd, Nat.reduceMul, Nat.reduceLT, Int.reduceToNat, Int.reduceAdd, Int.reduceSub, Int.reduceMul, rsU, rsC]
 have hlX : ∀ b ∈ X, b < J1.next := fun b hb => g2.mi.lt _ (by simp [hb])
 have hbh : Beh Y M (M.opn (ff M.sp) 0) 0 0 1 := h.ok.opn' (by decide) (by decide) hcnt hY
 have hne : J1.next ∉ X := fun hm => by have := hlX _ hm; omega
 refine Ok_some.2 ⟨J1.next, pb, _, _, rfl, ⟨g2.turn (L := [J1.next]) ⟨by simp, fun b hb hm => by simp -implicitDefEqProofs (disch := omega) only [s_bn, s_bs, s_kn, bump_blk]⟩ (fun b hb => .inr (by simp at hb; omega)) (fun b hb => ?_), ⟨_, s_bs⟩, hne, rfl, Linked.nil _ _ _, Linked.nil _ _ _, fun i hi => by simp at hi, fun i hi => absurd rfl hi, ⟨fun i _ => rfl, fun i ws ho => by simp at ho, fun i j x a b c d hi => by simp [v5] at hi, fun y hy => ⟨by rw [hbh.keep y hy]; exact hY y hy, fun e => ?_⟩⟩, by decide, by decide, rfl⟩, rfl, rfl, hbh, g4.trans ⟨by simp, fun b hb => by have := hlX b hb; simp -implicitDefEqProofs (disch := omega) only [s_bn, s_bs, s_kn, bump_blk]⟩⟩
 ·rcases List.mem_cons.1 hb with rfl | hb
  ·exact .inr (by simp)
  ·exact .inl hb
 ·have := hY y hy
  cases hw : wordsOf M.sp y with
  | none => exact this hw
  | some ws => exact (opn_other (n := 0) hw).2 e
theorem ltab_ok {J : AH O} {lb pb mb : Nat} {M : MemS} {S : PoolS} {w : List Int} {X : List Nat} (hp : PoolAt J pb mb M S w (lb :: X)) (hw : S.words = 5) {el : TypeId} {a : AV} {cs : List AV} (hbb : J.blk lb = some (.cells true el (a :: .p (some (.n pb, 0)) :: cs))) :
  Ok (large_Large__table [.p (some (.n lb, 0))] J) fun r => r.1 = tbl S mb 2 3 /\ Ext J r.2 := by
 have hlt := hp.mi.lt lb (by simp)
 simp (maxSteps := 2000000) -implicitDefEqProofs (disch := (first | omega | rfl | assumption | (simp only [rsD]; first | omega | assumption))) only [large_Large__table, large_Large__table_c, hbb, Nat.reduceAdd, Nat.reduceMul, Nat.reduceLT, Int.reduceToNat, Int.reduceAdd, Int.reduceSub, Int.reduceMul, rsU, rsC]
 generalize hJ : (J.bump 1).put J.next (.cells true _ _) = J1
 obtain ⟨E1, b1, n1⟩ := boxed hJ
 clear hJ
 have pt := ptable_ok (hp.ext E1) (nx := 2) (pv := 3) (by omega) (by omega)
 rw [show ((2 : Nat) : Int) = 2 from rfl, show ((3 : Nat) : Int) = 3 from rfl] at pt
 refine Ok.step pt fun r ⟨g1, g2⟩ => ?_
 obtain ⟨q, J2⟩ := r
 simp only [tbl] at g1 g2
 subst g1
 have b2 : J2.blk J.next = _ := (g2.blk _ (by omega)).trans b1
 have n2 := g2.next
 simp (maxSteps := 2000000) -implicitDefEqProofs (disch := (first | omega | rfl | assumption | (simp only [rsD]; first | omega | assumption))) only [b2, Nat.reduceAdd, Nat.reduceMul, Nat.reduceLT, Int.reduceToNat, Int.reduceAdd, Int.reduceSub, Int.reduceMul, rsU, rsC]
 exact Ok_some.2 ⟨rfl, (E1.trans g2).put (Nat.le_refl _) _⟩
section
variable {J : AH O} {lb pb mb : Nat} {M : MemS} {S : PoolS} {w : List Int} {L : LarS} {X : List Nat} {Y : List Int} (h : LarAt J lb pb mb M S w L X Y)
include h
theorem lwords_ok : large_Large__Words [.p (some (.n lb, 0))] J = some (.i .i64 L.words, J) := by
 obtain ⟨el, hb⟩ := h.b
 simp only [LarS.cells] at hb
 simp (maxSteps := 2000000) -implicitDefEqProofs (disch := (first | omega | rfl | assumption | (simp only [rsD]; first | omega | assumption))) only [large_Large__Words, large_Large__Words_c, hb, Nat.reduceAdd, Nat.reduceMul, Nat.reduceLT, Int.reduceToNat, Int.reduceAdd, Int.reduceSub, Int.reduceMul, rsU, rsC]
theorem ltable_ok : Ok (large_Large__table [.p (some (.n lb, 0))] J) fun r => r.1 = tbl S mb 2 3 /\ Ext J r.2 := by
 obtain ⟨el, hbb⟩ := h.b
 simp only [LarS.cells] at hbb
 exact ltab_ok h.p h.five hbb
variable (hf : M.far 1000)
include hf
theorem lget_no {id : Int} {k : Int} (hn : ∀ i : Nat, id = (i : Int) + 1 -> L.ob i = none) :
  Ok (pool_Pool__Get [.p (some (.n pb, 0)), .i .i64 id, .i .i64 k] J) fun r => r.1 = .tup [.i .u64 0, .i .i64 4] /\ ∃ M', LarAt r.2 lb pb mb M' S w L X Y /\ Beh Y M M' 1 0 0 /\ Keep X J r.2 := by
 have hc := hf.calm (by decide)
 by_cases hr : id < 1 ∨ id > S.E.length
 ·exact ⟨_, pget_no h.p hc hr, rfl, M, h, (Beh.refl Y M).as (by decide) rfl rfl, Keep.refl _ _⟩
 ·obtain ⟨i, rfl⟩ : ∃ i : Nat, id = (i : Int) + 1 := ⟨(id - 1).toNat, by omega⟩
  have he := List.getElem?_eq_getElem (show i < S.E.length by omega)
  have htk : (S.E[i]).tk = false := by
   cases ht : (S.E[i]).tk with
   | false => rfl
   | true => obtain ⟨ws, ho⟩ := h.tkn he ht; rw [hn i rfl] at ho; cases ho
  have hp : pwrong S (S.E[i]) k = 4 := by simp [pwrong, htk]
  have g := pget_bad h.p hc he (k := k) (by rw [hp]; decide)
  rw [hp] at g
  refine g.mono fun r ⟨g1, M', g2, g3, g4⟩ => ⟨g1, M', h.read g2 g4 g3, (h.beh g3 g2.mi.ok (by decide) (by decide) rfl).as (by decide) rfl rfl, g4.tail⟩
theorem lget_ok {i : Nat} {ws : List Int} (ho : L.ob i = some ws) {e : PE} (he : S.E[i]? = some e) {k : Nat} (hk : k < 5) {x : Int} (hx : e.ws[k]? = some x) :
  Ok (pool_Pool__Get [.p (some (.n pb, 0)), .i .i64 ((i : Int) + 1), .i .i64 (k : Int)] J) fun r => r.1 = .tup [.i .u64 x, .i .i64 0] /\ ∃ M', LarAt r.2 lb pb mb M' S w L X Y /\ Wrt M M' S.id w 2 0 /\ Keep (lb :: X) J r.2 := by
 have hc := hf.calm (by decide)
 obtain ⟨e', sp, mk, he', htk, _⟩ := h.at ho
 rw [he] at he'; cases he'
 refine (pget_ok h.p hc he htk (by rw [h.five]; exact hk) (by have := hf.1; omega)).mono fun r ⟨g1, M', g2, g3, g4⟩ => ⟨?_, M', h.read g2 g4 g3, g3, g4⟩
 rw [g1, List.getD_eq_getElem?_getD, hx]; rfl
theorem LarAt.beh2 {M' : MemS} (g3 : Wrt M M' S.id w 2 0) (hok : M'.ok) : Beh Y M M' 2 0 0 := (h.beh g3 hok (by decide) (by decide) rfl).as (by decide) rfl rfl
theorem lread_no {id at_ : Int} (hn : ∀ i : Nat, id = (i : Int) + 1 -> L.ob i = none) :
  Ok (large_Large__Read [.p (some (.n lb, 0)), .i .i64 id, .i .i64 at_] J) fun r => r.1 = .tup [.i .u64 0, .i .i64 4] /\ ∃ M', LarAt r.2 lb pb mb M' S w L X Y /\ Beh Y M M' 1 0 0 /\ Keep X J r.2 := by
 obtain ⟨el, hb⟩ := h.b
 simp only [LarS.cells] at hb
 have e4 : ((4 : Int) != 0) = true := rfl
 simp (maxSteps := 2000000) -implicitDefEqProofs (disch := (first | omega | rfl | assumption | (simp only [rsD]; first | omega | assumption))) only [large_Large__Read, large_Large__Read_c, hb, Nat.reduceAdd, Nat.reduceMul, Nat.reduceLT, Int.reduceToNat, Int.reduceAdd, Int.reduceSub, Int.reduceMul, rsU, rsC]
 refine Ok.step (lget_no h hf hn) fun r ⟨g1, M', g2, g3, g4⟩ => ?_
 obtain ⟨q, J1⟩ := r
 simp only at g1 g2 g4
 subst g1
 simp (maxSteps := 2000000) -implicitDefEqProofs (disch := (first | omega | rfl | assumption | (simp only [rsD]; first | omega | assumption))) only [e4, Nat.reduceAdd, Nat.reduceMul, Nat.reduceLT, Int.reduceToNat, Int.reduceAdd, Int.reduceSub, Int.reduceMul, rsU, rsC]
 exact Ok_some.2 ⟨rfl, M', g2, g3, g4⟩
theorem lread_ok {i : Nat} {ws : List Int} (ho : L.ob i = some ws) {at_ : Int} (ha : -9223372036854775808 <= at_ /\ at_ <= 9223372036854775807) :
  Ok (large_Large__Read [.p (some (.n lb, 0)), .i .i64 ((i : Int) + 1), .i .i64 at_] J) fun r => r.1 = (if 0 <= at_ /\ at_ < ws.length then .tup [.i .u64 (ws.getD at_.toNat 0), .i .i64 0] else .tup [.i .u64 0, .i .i64 11]) /\ ∃ M', LarAt r.2 lb pb mb M' S w L X Y /\ Beh Y M M' 3 0 0 /\ Keep X J r.2 := by
 obtain ⟨el, hb⟩ := h.b
 simp only [LarS.cells] at hb
 obtain ⟨e, sp, mk, he, htk, a1, a2, a3, a4, a5, a6, a7, a8, a9⟩ := h.at ho
 have hs := spSmall h.p.mi.ok a7
 simp (maxSteps := 2000000) -implicitDefEqProofs (disch := (first | omega | rfl | assumption | (simp only [rsD]; first | omega | assumption))) only [large_Large__Read, large_Large__Read_c, hb, Nat.reduceAdd, Nat.reduceMul, Nat.reduceLT, Int.reduceToNat, Int.reduceAdd, Int.reduceSub, Int.reduceMul, rsU, rsC]
 have g := lget_ok h hf ho he (k := 0) (by decide) a1
 rw [show ((0 : Nat) : Int) = 0 from rfl] at g
 refine Ok.step g fun r ⟨g1, M1, g2, g3, g4⟩ => ?_
 obtain ⟨q, J1⟩ := r
 simp only at g1 g2 g4
 subst g1
 have e0 : ((0 : Int) != 0) = false := rfl
 obtain ⟨el1, hb1⟩ := g2.b
 simp only [LarS.cells] at hb1
 simp (maxSteps := 2000000) -implicitDefEqProofs (disch := (first | omega | rfl | assumption | (simp only [rsD]; first | omega | assumption))) only [e0, hb1, Nat.reduceAdd, Nat.reduceMul, Nat.reduceLT, Int.reduceToNat, Int.reduceAdd, Int.reduceSub, Int.reduceMul, rsU, rsC]
 have b1 := h.beh2 hf g3 g2.p.mi.ok
 have hf1 : M1.far 998 := b1.far (hf.less (by decide))
 have rd := readXT g2.p.mi (hf1.calm (by decide)) (id := sp) (at_ := at_) ha
 have a7' : wordsOf M1.sp sp = some ws := g3.oth h.p.now sp ws a8 a7
 rw [readR_of a7'] at rd
 refine Ok.step rd fun r ⟨k1, k2, k3⟩ => ?_
 obtain ⟨q, J2⟩ := r
 simp only at k1 k2 k3
 subst k1
 simp (maxSteps := 2000000) -implicitDefEqProofs (disch := (first | omega | rfl | assumption | (simp only [rsD]; first | omega | assumption))) only [Nat.reduceAdd, Nat.reduceMul, Nat.reduceLT, Int.reduceToNat, Int.reduceAdd, Int.reduceSub, Int.reduceMul, rsU, rsC]
 by_cases hc : 0 <= at_ /\ at_ < ws.length
 ·rw [if_pos hc] at k2 ⊢
  refine Ok_some.2 ⟨by rw [if_pos hc], M1.rd 1, g2.re { g2.p with mi := k2, b := (k3.head).trans g2.p.b } (k3.tail).head fun y v _ hv => hv, (b1.trans Beh.rd).as (by decide) rfl rfl, g4.tail.trans k3.tail.tail⟩
 ·rw [if_neg hc] at k2 ⊢
  refine Ok_some.2 ⟨by rw [if_neg hc], M1, g2.re { g2.p with mi := k2, b := (k3.head).trans g2.p.b } (k3.tail).head fun y v _ hv => hv, b1.as (by decide) rfl rfl, g4.tail.trans k3.tail.tail⟩
omit hf in
theorem LarAt.wrote {J' : AH O} {M' : MemS} {i : Nat} {e : PE} {ws ws' : List Int} {sp : Int} (he : S.E[i]? = some e) (ho : L.ob i = some ws) (hsp : e.ws[0]? = some sp) (hl : ws'.length = ws.length)
  (hw : wordsOf M'.sp sp = some ws') (hoth : ∀ y, y ≠ sp -> wordsOf M'.sp y = wordsOf M.sp y) (hm : MemIn J' mb M' (pb :: lb :: X)) (hk : Keep (pb :: lb :: X) J J') :
  LarAt J' lb pb mb M' S w { L with ob := fun j => if j = i then some ws' else L.ob j } X Y := by
 obtain ⟨e', sp', mk, he', htk, a1, a2, a3, a4, a5, a6, a7, a8, a9⟩ := h.at ho
 rw [he] at he'; cases he'
 rw [hsp] at a1; cases a1
 have hlen : ∀ j, (LarS.len { L with ob := fun j => if j = i then some ws' else L.ob j } j) = L.len j := fun j => by
  unfold LarS.len
  simp only
  by_cases hj : j = i
  ·subst hj; rw [if_pos rfl, ho]; exact hl
  ·rw [if_neg hj]
 have hv : v5 S.E i = some (sp, (ws.length : Int), mk) := v5_mk he htk hsp a2 a3
 refine { h with p := { h.p with mi := hm, b := hk.head.trans h.p.b, now := (hoth _ (Ne.symm a8)).trans h.p.now }, b := by obtain ⟨el, hb⟩ := h.b; exact ⟨el, hk.tail.head.trans hb⟩, all := fun j hj => ?_, o := ⟨fun j hj => ?_, fun j vs hj => ?_, h.o.apart, fun y hy => ⟨?_, (h.o.others y hy).2⟩⟩, sum := ?_ }
 ·simp only at hj
  by_cases hji : j = i
  ·subst hji; exact h.all j (by rw [ho]; simp)
  ·rw [if_neg hji] at hj; exact h.all j hj
 ·simp only at hj
  by_cases hji : j = i
  ·rw [if_pos hji] at hj; cases hj
  ·rw [if_neg hji] at hj; exact h.o.non j hj
 ·simp only at hj
  by_cases hji : j = i
  ·subst hji
   rw [if_pos rfl] at hj; cases hj
   exact ⟨sp, mk, by rw [hl]; exact hv, a4, a5, a6, hw, a8, a9⟩
  ·rw [if_neg hji] at hj
   obtain ⟨sq, mq, c1, c4, c5, c6, c7, c8, c9⟩ := h.o.at_ j vs hj
   refine ⟨sq, mq, c1, c4, c5, c6, (hoth sq fun e0 => hji ?_).trans c7, c8, c9⟩
   subst e0
   exact h.o.apart j i _ _ _ _ _ c1 hv
 ·rw [hoth y fun e0 => a9 (e0 ▸ hy)]; exact (h.o.others y hy).1
 ·rw [h.sum]
  congr 2
  exact List.map_congr_left fun j _ => (hlen j).symm
theorem lwrite_no {id at_ x : Int} (hn : ∀ i : Nat, id = (i : Int) + 1 -> L.ob i = none) :
  Ok (large_Large__Write [.p (some (.n lb, 0)), .i .i64 id, .i .i64 at_, .i .u64 x] J) fun r => r.1 = .i .i64 4 /\ ∃ M', LarAt r.2 lb pb mb M' S w L X Y /\ Beh Y M M' 1 0 0 /\ Keep X J r.2 := by
 obtain ⟨el, hb⟩ := h.b
 simp only [LarS.cells] at hb
 have e4 : ((4 : Int) != 0) = true := rfl
 simp (maxSteps := 2000000) -implicitDefEqProofs (disch := (first | omega | rfl | assumption | (simp only [rsD]; first | omega | assumption))) only [large_Large__Write, large_Large__Write_c, hb, Nat.reduceAdd, Nat.reduceMul, Nat.reduceLT, Int.reduceToNat, Int.reduceAdd, Int.reduceSub, Int.reduceMul, rsU, rsC]
 refine Ok.step (lget_no h hf hn) fun r ⟨g1, M', g2, g3, g4⟩ => ?_
 obtain ⟨q, J1⟩ := r
 simp only at g1 g2 g4
 subst g1
 simp (maxSteps := 2000000) -implicitDefEqProofs (disch := (first | omega | rfl | assumption | (simp only [rsD]; first | omega | assumption))) only [e4, Nat.reduceAdd, Nat.reduceMul, Nat.reduceLT, Int.reduceToNat, Int.reduceAdd, Int.reduceSub, Int.reduceMul, rsU, rsC]
 exact Ok_some.2 ⟨rfl, M', g2, g3, g4⟩
theorem lwrite_ok {i : Nat} {ws : List Int} (ho : L.ob i = some ws) {at_ x : Int} (ha : 0 <= at_ /\ at_ < ws.length) :
  Ok (large_Large__Write [.p (some (.n lb, 0)), .i .i64 ((i : Int) + 1), .i .i64 at_, .i .u64 x] J) fun r => r.1 = .i .i64 0 /\ ∃ M', LarAt r.2 lb pb mb M' S w { L with ob := fun j => if j = i then some (ws.set at_.toNat x) else L.ob j } X Y /\ Beh Y M M' 3 0 0 /\ Keep X J r.2 := by
 obtain ⟨el, hb⟩ := h.b
 simp only [LarS.cells] at hb
 obtain ⟨e, sp, mk, he, htk, a1, a2, a3, a4, a5, a6, a7, a8, a9⟩ := h.at ho
 have hs := spSmall h.p.mi.ok a7
 have hl := h.p.mi.wlen a7
 simp (maxSteps := 2000000) -implicitDefEqProofs (disch := (first | omega | rfl | assumption | (simp only [rsD]; first | omega | assumption))) only [large_Large__Write, large_Large__Write_c, hb, Nat.reduceAdd, Nat.reduceMul, Nat.reduceLT, Int.reduceToNat, Int.reduceAdd, Int.reduceSub, Int.reduceMul, rsU, rsC]
 have g := lget_ok h hf ho he (k := 0) (by decide) a1
 rw [show ((0 : Nat) : Int) = 0 from rfl] at g
 refine Ok.step g fun r ⟨g1, M1, g2, g3, g4⟩ => ?_
 obtain ⟨q, J1⟩ := r
 simp only at g1 g2 g4
 subst g1
 have e0 : ((0 : Int) != 0) = false := rfl
 obtain ⟨el1, hb1⟩ := g2.b
 simp only [LarS.cells] at hb1
 simp (maxSteps := 2000000) -implicitDefEqProofs (disch := (first | omega | rfl | assumption | (simp only [rsD]; first | omega | assumption))) only [e0, hb1, Nat.reduceAdd, Nat.reduceMul, Nat.reduceLT, Int.reduceToNat, Int.reduceAdd, Int.reduceSub, Int.reduceMul, rsU, rsC]
 have b1 := h.beh2 hf g3 g2.p.mi.ok
 have hf1 : M1.far 998 := b1.far (hf.less (by decide))
 have wr := writeXT g2.p.mi (hf1.calm (by decide)) (id := sp) (at_ := at_) (x := x) (by omega)
 have a7' : wordsOf M1.sp sp = some ws := g3.oth h.p.now sp ws a8 a7
 rw [writeR_of a7', if_pos ha] at wr
 refine Ok.step wr fun r ⟨k1, k2, k3⟩ => ?_
 obtain ⟨q, J2⟩ := r
 simp only at k1 k2 k3
 subst k1
 simp (maxSteps := 2000000) -implicitDefEqProofs (disch := (first | omega | rfl | assumption | (simp only [rsD]; first | omega | assumption))) only [Nat.reduceAdd, Nat.reduceMul, Nat.reduceLT, Int.reduceToNat, Int.reduceAdd, Int.reduceSub, Int.reduceMul, rsU, rsC]
 have hin : wordsOf ((M1.wr 1).put sp.toNat (ws.set at_.toNat x)).sp sp = some (ws.set at_.toNat x) := by
  obtain ⟨h0, h1⟩ := wordsOf_some a7'
  refine wordsOf_mk h0 ?_
  show (M1.sp.set sp.toNat _)[sp.toNat]? = _
  rw [List.getElem?_set]; simp [(List.getElem?_eq_some_iff.1 h1).1]
 exact Ok_some.2 ⟨rfl, _, g2.wrote he ho a1 (by simp) hin (fun y hy => wordsOf_other hy hs.1) k2 k3, (b1.trans (Beh.wrp hs.1 a9)).as (by decide) rfl rfl, g4.tail.trans k3.tail.tail⟩
theorem lwrite_out {i : Nat} {ws : List Int} (ho : L.ob i = some ws) {at_ x : Int} (hr : -9223372036854775808 <= at_ /\ at_ <= 9223372036854775807) (ha : ¬ (0 <= at_ /\ at_ < ws.length)) :
  Ok (large_Large__Write [.p (some (.n lb, 0)), .i .i64 ((i : Int) + 1), .i .i64 at_, .i .u64 x] J) fun r => r.1 = .i .i64 11 /\ ∃ M', LarAt r.2 lb pb mb M' S w L X Y /\ Beh Y M M' 2 0 0 /\ Keep X J r.2 := by
 obtain ⟨el, hb⟩ := h.b
 simp only [LarS.cells] at hb
 obtain ⟨e, sp, mk, he, htk, a1, a2, a3, a4, a5, a6, a7, a8, a9⟩ := h.at ho
 have hs := spSmall h.p.mi.ok a7
 simp (maxSteps := 2000000) -implicitDefEqProofs (disch := (first | omega | rfl | assumption | (simp only [rsD]; first | omega | assumption))) only [large_Large__Write, large_Large__Write_c, hb, Nat.reduceAdd, Nat.reduceMul, Nat.reduceLT, Int.reduceToNat, Int.reduceAdd, Int.reduceSub, Int.reduceMul, rsU, rsC]
 have g := lget_ok h hf ho he (k := 0) (by decide) a1
 rw [show ((0 : Nat) : Int) = 0 from rfl] at g
 refine Ok.step g fun r ⟨g1, M1, g2, g3, g4⟩ => ?_
 obtain ⟨q, J1⟩ := r
 simp only at g1 g2 g4
 subst g1
 have e0 : ((0 : Int) != 0) = false := rfl
 obtain ⟨el1, hb1⟩ := g2.b
 simp only [LarS.cells] at hb1
 simp (maxSteps := 2000000) -implicitDefEqProofs (disch := (first | omega | rfl | assumption | (simp only [rsD]; first | omega | assumption))) only [e0, hb1, Nat.reduceAdd, Nat.reduceMul, Nat.reduceLT, Int.reduceToNat, Int.reduceAdd, Int.reduceSub, Int.reduceMul, rsU, rsC]
 have b1 := h.beh2 hf g3 g2.p.mi.ok
 have hf1 : M1.far 998 := b1.far (hf.less (by decide))
 have wr := writeXT g2.p.mi (hf1.calm (by decide)) (id := sp) (at_ := at_) (x := x) hr
 have a7' : wordsOf M1.sp sp = some ws := g3.oth h.p.now sp ws a8 a7
 rw [writeR_of a7', if_neg ha] at wr
 refine Ok.step wr fun r ⟨k1, k2, k3⟩ => ?_
 obtain ⟨q, J2⟩ := r
 simp only at k1 k2 k3
 subst k1
 simp (maxSteps := 2000000) -implicitDefEqProofs (disch := (first | omega | rfl | assumption | (simp only [rsD]; first | omega | assumption))) only [Nat.reduceAdd, Nat.reduceMul, Nat.reduceLT, Int.reduceToNat, Int.reduceAdd, Int.reduceSub, Int.reduceMul, rsU, rsC]
 exact Ok_some.2 ⟨rfl, M1, g2.re { g2.p with mi := k2, b := (k3.head).trans g2.p.b } (k3.tail).head fun y v _ hv => hv, b1, g4.tail.trans k3.tail.tail⟩
theorem lmarked_no {id : Int} (hn : ∀ i : Nat, id = (i : Int) + 1 -> L.ob i = none) :
  Ok (large_Large__Marked [.p (some (.n lb, 0)), .i .i64 id] J) fun r => r.1 = .tup [.b false, .i .i64 4] /\ ∃ M', LarAt r.2 lb pb mb M' S w L X Y /\ Beh Y M M' 1 0 0 /\ Keep X J r.2 := by
 obtain ⟨el, hb⟩ := h.b
 simp only [LarS.cells] at hb
 have e4 : ((4 : Int) == 0) = false := rfl
 simp (maxSteps := 2000000) -implicitDefEqProofs (disch := (first | omega | rfl | assumption | (simp only [rsD]; first | omega | assumption))) only [large_Large__Marked, large_Large__Marked_c, hb, Nat.reduceAdd, Nat.reduceMul, Nat.reduceLT, Int.reduceToNat, Int.reduceAdd, Int.reduceSub, Int.reduceMul, rsU, rsC]
 refine Ok.step (lget_no h hf hn) fun r ⟨g1, M', g2, g3, g4⟩ => ?_
 obtain ⟨q, J1⟩ := r
 simp only at g1 g2 g4
 subst g1
 simp (maxSteps := 2000000) -implicitDefEqProofs (disch := (first | omega | rfl | assumption | (simp only [rsD]; first | omega | assumption))) only [e4, Nat.reduceAdd, Nat.reduceMul, Nat.reduceLT, Int.reduceToNat, Int.reduceAdd, Int.reduceSub, Int.reduceMul, rsU, rsC]
 exact Ok_some.2 ⟨rfl, M', g2, g3, g4⟩
theorem lmarked_ok {i : Nat} {ws : List Int} (ho : L.ob i = some ws) :
  Ok (large_Large__Marked [.p (some (.n lb, 0)), .i .i64 ((i : Int) + 1)] J) fun r => r.1 = .tup [.b (decide (i ∈ L.H)), .i .i64 0] /\ ∃ M', LarAt r.2 lb pb mb M' S w L X Y /\ Wrt M M' S.id w 2 0 /\ Keep (lb :: X) J r.2 := by
 obtain ⟨el, hb⟩ := h.b
 simp only [LarS.cells] at hb
 obtain ⟨e, sp, mk, he, htk, a1, a2, a3, a4, a5, a6, a7, a8, a9⟩ := h.at ho
 simp (maxSteps := 2000000) -implicitDefEqProofs (disch := (first | omega | rfl | assumption | (simp only [rsD]; first | omega | assumption))) only [large_Large__Marked, large_Large__Marked_c, hb, Nat.reduceAdd, Nat.reduceMul, Nat.reduceLT, Int.reduceToNat, Int.reduceAdd, Int.reduceSub, Int.reduceMul, rsU, rsC]
 have g := lget_ok h hf ho he (k := 4) (by decide) a3
 rw [show ((4 : Nat) : Int) = 4 from rfl] at g
 refine Ok.step g fun r ⟨g1, M', g2, g3, g4⟩ => ?_
 obtain ⟨q, J1⟩ := r
 simp only at g1 g2 g4
 subst g1
 have e0 : ((0 : Int) == 0) = true := rfl
 obtain ⟨el1, hb1⟩ := g2.b
 simp only [LarS.cells] at hb1
 have em : (mk == L.ep) = decide (i ∈ L.H) := by
  rw [Bool.eq_iff_iff]; simp [a6]
 simp (maxSteps := 2000000) -implicitDefEqProofs (disch := (first | omega | rfl | assumption | (simp only [rsD]; first | omega | assumption))) only [e0, hb1, em, Nat.reduceAdd, Nat.reduceMul, Nat.reduceLT, Int.reduceToNat, Int.reduceAdd, Int.reduceSub, Int.reduceMul, rsU, rsC]
 exact Ok_some.2 ⟨rfl, M', g2, g3, g4⟩
end
end Go.Abs.Try
namespace Go.Abs.Try
open Go Go.Abs
variable {O : Type}
theorem Objs.add {M M' : MemS} {V V' : Nat -> Option (Int × Int × Int)} {sid : Int} {ob : Nat -> Option (List Int)} {ep : Int} {H : List Nat} {Y : List Int} (h : Objs M V sid ob ep H Y) {i : Nat} (hi : ob i = none) {sp : Int} {n : Nat} (h0 : 0 <= ep)
  (hV : ∀ j, V' j = if j = i then some (sp, (n : Int), ep) else V j) (hw : ∀ y v, y ≠ sid -> wordsOf M.sp y = some v -> wordsOf M'.sp y = some v) (hsp : wordsOf M'.sp sp = some (List.replicate n 0)) (hne : sp ≠ sid) (hY : sp ∉ Y) (hfr : ∀ y v, wordsOf M.sp y = some v -> y ≠ sp) :
  Objs M' V' sid (fun j => if j = i then some (List.replicate n 0) else ob j) ep (H ++ [i]) Y := by
 have far : ∀ (j : Nat) (x a b : Int), V j = some (x, a, b) -> x ≠ sp := fun j x a b hj => by
  cases ho : ob j with
  | none => rw [h.non j ho] at hj; cases hj
  | some ws =>
   obtain ⟨sq, mk, c1, _, _, _, c7, _⟩ := h.at_ j ws ho
   rw [c1] at hj; cases hj
   exact hfr _ _ c7
 refine ⟨fun j hj => ?_, fun j ws hj => ?_, fun j k x a b c d hj hk => ?_, (h.mem hw).others⟩
 ·by_cases hji : j = i
  ·rw [if_pos hji] at hj; cases hj
  ·rw [if_neg hji] at hj
   rw [hV, if_neg hji]; exact h.non j hj
 ·by_cases hji : j = i
  ·rw [if_pos hji] at hj; cases hj
   refine ⟨sp, ep, by rw [hV, if_pos hji]; simp, h0, Int.le_refl _, ?_, hsp, hne, hY⟩
   simp [hji]
  ·rw [if_neg hji] at hj
   obtain ⟨sq, mk, c1, c4, c5, c6, c7, c8, c9⟩ := h.at_ j ws hj
   refine ⟨sq, mk, by rw [hV, if_neg hji]; exact c1, c4, c5, ?_, hw _ _ c8 c7, c8, c9⟩
   rw [c6]; simp [hji]
 ·rw [hV] at hj hk
  by_cases hji : j = i
  ·by_cases hki : k = i
   ·rw [hji, hki]
   ·rw [if_pos hji] at hj; cases hj
    rw [if_neg hki] at hk
    exact absurd rfl (far _ _ _ _ hk)
  ·rw [if_neg hji] at hj
   by_cases hki : k = i
   ·rw [if_pos hki] at hk; cases hk
    exact absurd rfl (far _ _ _ _ hj)
   ·rw [if_neg hki] at hk
    exact h.apart _ _ _ _ _ _ _ hj hk
theorem len_congr {L L' : LarS} {l : List Nat} (h : ∀ j ∈ l, L'.ob j = L.ob j) : (l.map L'.len).sum = (l.map L.len).sum := by
 congr 1
 exact List.map_congr_left fun j hj => by unfold LarS.len; rw [h j hj]
theorem openXT {J : AH O} {mb : Nat} {M : MemS} {X : List Nat} (h : MemIn J mb M X) (hc : M.calm) {n : Int} :
  Ok (mem_Mem__Open [.p (some (.n mb, 0)), .i .i64 n] J) fun r => r.1 = .tup [.i .i64 (M.opnR n).2.1, .i .i64 (M.opnR n).2.2] /\ MemIn r.2 mb (M.opnR n).1 X /\ Keep X J r.2 := by
 have key : ∀ F, MemAt J mb F M -> Ok (mem_Mem__Open [.p (some (.n mb, 0)), .i .i64 n] J) fun r => r.1 = .tup [.i .i64 (M.opnR n).2.1, .i .i64 (M.opnR n).2.2] /\ Behind J mb F (M.opnR n).1 r.2 := fun F hF => openT hF h.ok hc
 have hh := h
 obtain ⟨F, g1, _⟩ := hh
 obtain ⟨r, e, p1, _⟩ := key F g1
 refine ⟨r, e, p1, ?_⟩
 exact h.behind (F := F) (J' := r.2) fun F hF => by
  obtain ⟨r', e', _, b⟩ := key F hF
  rw [e] at e'; cases e'; exact b
section
variable {J : AH O} {lb pb mb : Nat} {M : MemS} {S : PoolS} {w : List Int} {L : LarS} {X : List Nat} {Y : List Int} (h : LarAt J lb pb mb M S w L X Y) (hf : M.far 1000)
include h hf
theorem ladd_few {n : Int} (hn : n < 1) : large_Large__Add [.p (some (.n lb, 0)), .i .i64 n] J = some (.tup [.i .i64 0, .i .i64 1], J) := by
 simp (maxSteps := 2000000) -implicitDefEqProofs (disch := (first | omega | rfl | assumption | (simp only [rsD]; first | omega | assumption))) only [large_Large__Add, large_Large__Add_c, Nat.reduceAdd, Nat.reduceMul, Nat.reduceLT, Int.reduceToNat, Int.reduceAdd, Int.reduceSub, Int.reduceMul, rsU, rsC]
theorem ladd_big {n : Int} (hn : 4194304 < n) : Ok (large_Large__Add [.p (some (.n lb, 0)), .i .i64 n] J) fun r => r.1 = .tup [.i .i64 0, .i .i64 7] /\ LarAt r.2 lb pb mb M S w L X Y /\ Keep X J r.2 := by
 obtain ⟨el, hb⟩ := h.b
 simp only [LarS.cells] at hb
 have e7 : ((7 : Int) != 0) = true := rfl
 simp (maxSteps := 2000000) -implicitDefEqProofs (disch := (first | omega | rfl | assumption | (simp only [rsD]; first | omega | assumption))) only [large_Large__Add, large_Large__Add_c, hb, Nat.reduceAdd, Nat.reduceMul, Nat.reduceLT, Int.reduceToNat, Int.reduceAdd, Int.reduceSub, Int.reduceMul, rsU, rsC]
 have g := openXT h.p.mi (hf.calm (by decide)) (n := n)
 rw [show M.opnR n = (M, 0, 7) by unfold MemS.opnR; rw [if_neg (by omega), if_pos (by omega)]] at g
 refine Ok.step g fun r ⟨g1, g2, g3⟩ => ?_
 obtain ⟨q, J1⟩ := r
 simp only at g1 g2 g3
 subst g1
 simp (maxSteps := 2000000) -implicitDefEqProofs (disch := (first | omega | rfl | assumption | (simp only [rsD]; first | omega | assumption))) only [e7, Nat.reduceAdd, Nat.reduceMul, Nat.reduceLT, Int.reduceToNat, Int.reduceAdd, Int.reduceSub, Int.reduceMul, rsU, rsC]
 exact Ok_some.2 ⟨rfl, h.re { h.p with mi := g2, b := g3.head.trans h.p.b } g3.tail.head fun y v _ hv => hv, g3.tail.tail⟩
theorem ladd_ok {n : Int} (h1 : 1 <= n) (h2 : n <= 4194304) (hcnt : M.count < 262144) (hR : S.more * 6 <= 4194304) :
  Ok (large_Large__Add [.p (some (.n lb, 0)), .i .i64 n] J) fun r => r.1 = .tup [.i .i64 (((S.took.1 : Nat) : Int) + 1), .i .i64 0] /\ L.ob S.took.1 = none /\ ∃ M' S' w', LarAt r.2 lb pb mb M' S' w' { L with H := L.H ++ [S.took.1], words := L.words + n, ob := fun j => if j = S.took.1 then some (List.replicate n.toNat 0) else L.ob j } X Y /\ Alike S.took.2 S' /\ Beh Y M M' 24 (n + 6 * ((S.took.2.room : Int) - S.room)) 1 /\ Keep X J r.2 := by
 obtain ⟨el, hb⟩ := h.b
 simp only [LarS.cells] at hb
 have hc := hf.calm (by decide)
 have e0 : ((0 : Int) != 0) = false := rfl
 have h5 := h.five
 have hel := h.el
 have hhw := h.hw
 have hwb := h.wb
 have hep := h.ep
 simp (maxSteps := 2000000) -implicitDefEqProofs (disch := (first | omega | rfl | assumption | (simp only [rsD]; first | omega | assumption))) only [large_Large__Add, large_Large__Add_c, hb, Nat.reduceAdd, Nat.reduceMul, Nat.reduceLT, Int.reduceToNat, Int.reduceAdd, Int.reduceSub, Int.reduceMul, rsU, rsC]
 refine Ok.step (openX h.p.mi hc (n := n) (by omega) h2 hcnt) fun r ⟨g1, g2, g3⟩ => ?_
 obtain ⟨q, J1⟩ := r
 simp only at g1 g2 g3
 subst g1
 have b1 : Beh Y M (M.opn (ff M.sp) n) 0 n 1 := h.p.mi.ok.opn' (by omega) h2 hcnt (fun y hy => (h.o.others y hy).1)
 have w1 : ∀ y v, wordsOf M.sp y = some v -> wordsOf (M.opn (ff M.sp) n).sp y = some v /\ y ≠ ff M.sp := fun y v hv => opn_other hv
 have hnow : wordsOf (M.opn (ff M.sp) n).sp (ff M.sp) = some (List.replicate n.toNat 0) := opn_words
 generalize hffe : ((ff M.sp : Nat) : Int) = sp at *
 generalize M.opn (ff M.sp) n = M1 at *
 have hsp := spSmall g2.ok hnow
 have p1 : PoolAt J1 pb mb M1 S w (lb :: X) := { h.p with mi := g2, b := g3.head.trans h.p.b, now := (w1 _ _ h.p.now).1 }
 have hb1 : J1.blk lb = _ := g3.tail.head.trans hb
 have f1 : M1.far 1000 := b1.far (hf.less (by decide))
 simp (maxSteps := 2000000) -implicitDefEqProofs (disch := (first | omega | rfl | assumption | (simp only [rsD]; first | omega | assumption))) only [e0, hb1, Nat.reduceAdd, Nat.reduceMul, Nat.reduceLT, Int.reduceToNat, Int.reduceAdd, Int.reduceSub, Int.reduceMul, rsU, rsC]
 refine Ok.step (ptake_p p1 (f1.calm (by decide)) (by omega) (by rw [h.five]; exact hR) ⟨by have := f1.1; omega, by have := f1.2; omega⟩) fun r ⟨g, k1, t, M2, w2, dr, dw, p2, q2, d1, d2, d3, d4, kp2⟩ => ?_
 obtain ⟨q, J2⟩ := r
 simp only at k1 p2 kp2
 subst k1
 have hte := p2.p.len
 generalize S.took.1 = i at *
 generalize S.took.2 = S1 at *
 have hid : S1.id = S.id := t.id
 have hw1 : S1.words = 5 := t.words.trans h.five
 have hnow1 : S1.E[i]? = some ⟨true, g, [0, 0, 0, 0, 0]⟩ := by rw [t.now, h.five]; rfl
 have hi1 := (List.getElem?_eq_some_iff.1 hnow1).1
 have hobi : L.ob i = none := by
  cases ho : L.ob i with
  | none => rfl
  | some ws =>
   obtain ⟨e, sq, mk, he, htk, _⟩ := h.at ho
   have := (t.was e he).1
   rw [htk] at this; cases this
 have hiH : i ∉ L.H := fun hm => by obtain ⟨e, ws, _, _, ho⟩ := h.mem (.inl hm); rw [hobi] at ho; cases ho
 have hiW : i ∉ L.W := fun hm => by obtain ⟨e, ws, _, _, ho⟩ := h.mem (.inr hm); rw [hobi] at ho; cases ho
 have hL1 : Linked S1.E 2 3 L.H := h.lH.other fun j hj => t.other j fun e => hiH (e ▸ hj)
 have hW1 : Linked S1.E 2 3 L.W := h.lW.other fun j hj => t.other j fun e => hiW (e ▸ hj)
 have hb2 : J2.blk lb = _ := kp2.head.trans hb1
 have c2 := Beh.wrt p1.mi.ok p2.mi.ok p1.now q2 d1 (by omega) h.idY
 have f2 : M2.far 990 := c2.far (f1.less (by omega))
 simp (maxSteps := 2000000) -implicitDefEqProofs (disch := (first | omega | rfl | assumption | (simp only [rsD]; first | omega | assumption))) only [e0, hb2, Nat.reduceAdd, Nat.reduceMul, Nat.reduceLT, Int.reduceToNat, Int.reduceAdd, Int.reduceSub, Int.reduceMul, rsU, rsC]
 have ps := pset_ok p2 (f2.calm (by decide)) (k := 0) (x := sp) hnow1 rfl (by omega) (by have := f2.1; omega)
 rw [show ((0 : Nat) : Int) = 0 from rfl] at ps
 refine Ok.step ps fun r ⟨s1, M3, w3, p3, q3, kp3⟩ => ?_
 obtain ⟨q, J3⟩ := r
 simp only [List.set_cons_zero, List.set_cons_succ] at s1 p3 kp3
 subst s1
 have hb3 : J3.blk lb = _ := kp3.head.trans hb2
 have c3 := Beh.wrt p2.mi.ok p3.mi.ok p2.now q3 (by decide) (by decide) (hid ▸ h.idY)
 have f3 : M3.far 980 := c3.far (f2.less (by decide))
 have hnow3 : (S1.E.set i ⟨true, g, [sp, 0, 0, 0, 0]⟩)[i]? = some ⟨true, g, [sp, 0, 0, 0, 0]⟩ := by rw [List.getElem?_set]; simp [hi1]
 simp (maxSteps := 2000000) -implicitDefEqProofs (disch := (first | omega | rfl | assumption | (simp only [rsD]; first | omega | assumption))) only [hb3, Nat.reduceAdd, Nat.reduceMul, Nat.reduceLT, Int.reduceToNat, Int.reduceAdd, Int.reduceSub, Int.reduceMul, rsU, rsC]
 have ps := pset_ok p3 (f3.calm (by decide)) (k := 1) (x := n) hnow3 rfl (by show 1 < S1.words; omega) (by have := f3.1; omega)
 rw [show ((1 : Nat) : Int) = 1 from rfl] at ps
 refine Ok.step ps fun r ⟨s1, M4, w4, p4, q4, kp4⟩ => ?_
 obtain ⟨q, J4⟩ := r
 simp only [List.set_cons_zero, List.set_cons_succ, List.set_set] at s1 p4 kp4
 subst s1
 have hb4 : J4.blk lb = _ := kp4.head.trans hb3
 have c4 := Beh.wrt p3.mi.ok p4.mi.ok p3.now q4 (by decide) (by decide) (hid ▸ h.idY)
 have f4 : M4.far 970 := c4.far (f3.less (by decide))
 have hnow4 : (S1.E.set i ⟨true, g, [sp, n, 0, 0, 0]⟩)[i]? = some ⟨true, g, [sp, n, 0, 0, 0]⟩ := by rw [List.getElem?_set]; simp [hi1]
 simp (maxSteps := 2000000) -implicitDefEqProofs (disch := (first | omega | rfl | assumption | (simp only [rsD]; first | omega | assumption))) only [hb4, Nat.reduceAdd, Nat.reduceMul, Nat.reduceLT, Int.reduceToNat, Int.reduceAdd, Int.reduceSub, Int.reduceMul, rsU, rsC]
 have ps := pset_ok p4 (f4.calm (by decide)) (k := 4) (x := L.ep) hnow4 rfl (by show 4 < S1.words; omega) (by have := f4.1; omega)
 rw [show ((4 : Nat) : Int) = 4 from rfl] at ps
 refine Ok.step ps fun r ⟨s1, M5, w5, p5, q5, kp5⟩ => ?_
 obtain ⟨q, J5⟩ := r
 simp only [List.set_cons_zero, List.set_cons_succ, List.set_set] at s1 p5 kp5
 subst s1
 have hb5 : J5.blk lb = _ := kp5.head.trans hb4
 have c5 := Beh.wrt p4.mi.ok p5.mi.ok p4.now q5 (by decide) (by decide) (hid ▸ h.idY)
 have f5 : M5.far 960 := c5.far (f4.less (by decide))
 have hnow5 : (S1.E.set i ⟨true, g, [sp, n, 0, 0, L.ep]⟩)[i]? = some ⟨true, g, [sp, n, 0, 0, L.ep]⟩ := by rw [List.getElem?_set]; simp [hi1]
 have oth5 : ∀ j, j ≠ i -> (S1.E.set i (⟨true, g, [sp, n, 0, 0, L.ep]⟩ : PE))[j]? = S1.E[j]? := fun j hj => by rw [List.getElem?_set, if_neg (fun e : i = j => hj e.symm)]
 have hL5 : Linked (S1.E.set i ⟨true, g, [sp, n, 0, 0, L.ep]⟩) 2 3 L.H := hL1.other fun j hj => oth5 j fun e => hiH (e ▸ hj)
 have hW5 : Linked (S1.E.set i ⟨true, g, [sp, n, 0, 0, L.ep]⟩) 2 3 L.W := hW1.other fun j hj => oth5 j fun e => hiW (e ▸ hj)
 simp (maxSteps := 2000000) -implicitDefEqProofs (disch := (first | omega | rfl | assumption | (simp only [rsD]; first | omega | assumption))) only [hb5, Nat.reduceAdd, Nat.reduceMul, Nat.reduceLT, Int.reduceToNat, Int.reduceAdd, Int.reduceSub, Int.reduceMul, rsU, rsC]
 refine Ok.step (ltab_ok p5 hw1 hb5) fun r ⟨g1, g6⟩ => ?_
 obtain ⟨q, J6⟩ := r
 simp only [tbl] at g1 g6
 subst g1
 have hlt5 : lb < J5.next := p5.mi.lt _ (by simp)
 have hb6 : J6.blk lb = _ := (g6.blk _ hlt5).trans hb5
 simp (maxSteps := 2000000) -implicitDefEqProofs (disch := (first | omega | rfl | assumption | (simp only [rsD]; first | omega | assumption))) only [hb6, Nat.reduceAdd, Nat.reduceMul, Nat.reduceLT, Int.reduceToNat, Int.reduceAdd, Int.reduceSub, Int.reduceMul, rsU, rsC]
 have tp := tpush_okF (p5.ext g6) (nx := 2) (pv := 3) (by show 2 < S1.words; omega) (by show 3 < S1.words; omega) (by decide) hL5 ⟨by have := f5.1; omega, by have := f5.2; omega⟩ (by omega) hiH hnow5 rfl
 simp only [tbl, chn] at tp
 refine Ok.step tp fun r ⟨s1, M7, w7, E7, dw7, p7, sb7, l7, q7, z1, z2, kp7, fr7⟩ => ?_
 obtain ⟨q, J7⟩ := r
 simp only at s1 p7 kp7
 subst s1
 have hb7 : J7.blk lb = _ := kp7.head.trans hb6
 have hlt7 := p7.mi.lt lb (by simp)
 have c7 := Beh.wrt (p5.ext g6).mi.ok p7.mi.ok (p5.ext g6).now q7 (by decide) (by omega) (hid ▸ h.idY)
 simp (maxSteps := 2000000) -implicitDefEqProofs (disch := (first | omega | rfl | assumption | (simp only [rsD]; first | omega | assumption))) only [hb7, Nat.reduceAdd, Nat.reduceMul, Nat.reduceLT, Int.reduceToNat, Int.reduceAdd, Int.reduceSub, Int.reduceMul, rsU, rsC]
 have hlen7 : w7.length = S1.room * 6 := by have := p7.p.len; simp only at this; rw [hw1] at this; exact this
 have hpx := p7.nx
 have hv7 : v5 E7 = fun j => if j = i then some (sp, ((n.toNat : Nat) : Int), L.ep) else v5 S.E j := by
  rw [v5_same sb7]
  funext j
  rw [v5_set hi1]
  by_cases hj : j = i
  ·subst hj; simp only [↓reduceIte]; rw [Int.toNat_of_nonneg (by omega)]; rfl
  ·simp only [if_neg hj]
   unfold v5; rw [t.other j hj]
 have al : Alike S1 { S1 with E := E7 } := (Alike.set (S := S1) (ws := [sp, n, 0, 0, L.ep]) hnow1).trans (Alike.same (S := { S1 with E := S1.E.set i ⟨true, g, [sp, n, 0, 0, L.ep]⟩ }) sb7)
 have w71 : ∀ y v, y ≠ S.id -> wordsOf M1.sp y = some v -> wordsOf M7.sp y = some v := fun y v hy hv => by
  have hy1 : y ≠ S1.id := by rw [hid]; exact hy
  exact q7.oth (p5.ext g6).now y v hy1 (q5.oth p4.now y v hy1 (q4.oth p3.now y v hy1 (q3.oth p2.now y v hy1 (q2.oth p1.now y v hy hv))))
 have spn : sp ≠ S.id := fun e => (w1 _ _ h.p.now).2 e.symm
 have bt := (((((b1.trans c2).trans c3).trans c4).trans c5).trans c7)
 refine Ok_some.2 ⟨rfl, hobi, M7, _, w7, ⟨p7.turn (L := [lb]) ⟨by simp, fun b hb hm => by simp at hm; simp -implicitDefEqProofs (disch := omega) only [s_bn, s_bs, s_kn, bump_blk]⟩ (fun b hb => by simp at hb; subst hb; exact .inl (by simp)) fun b hb => .inl hb, ⟨_, s_bs⟩, h.nx, hw1, l7, hW5.other fun j hj => fr7 j (fun hm => h.dis j hm hj) (fun e => hiW (e ▸ hj)), fun j hj hjW => ?_, fun j hj => ?_, ?_, h.ep, h.last, ?_⟩, al, bt.as (by omega) ?_ rfl, ?_⟩
 ·rcases List.mem_append.1 hj with hj | hj
  ·exact h.dis j hj hjW
  ·simp at hj; subst hj; exact hiW hjW
 ·simp only at hj
  by_cases hji : j = i
  ·exact .inl (by simp [hji])
  ·rw [if_neg hji] at hj
   rcases h.all j hj with g | g
   ·exact .inl (by simp [g])
   ·exact .inr g
 ·show Objs M7 (v5 E7) S1.id _ _ _ _
  rw [hid]
  exact h.o.add hobi hep.1 (fun j => by rw [hv7]) (fun y v hy hv => w71 y v hy (w1 y v hv).1) (w71 sp _ spn hnow) spn (fun hm => by
   obtain ⟨g, _⟩ := h.o.others sp hm
   cases hv : wordsOf M.sp sp with
   | none => exact g hv
   | some v => exact (w1 _ _ hv).2 rfl) (fun y v hv => (w1 y v hv).2)
 ·have hs := h.sum
  have e1 := len_congr (L := L) (L' := { L with H := L.H ++ [i], words := L.words + n, ob := fun j => if j = i then some (List.replicate n.toNat 0) else L.ob j }) (l := L.H) (fun j hj => if_neg (fun e : j = i => hiH (e ▸ hj)))
  have e2 := len_congr (L := L) (L' := { L with H := L.H ++ [i], words := L.words + n, ob := fun j => if j = i then some (List.replicate n.toNat 0) else L.ob j }) (l := L.W) (fun j hj => if_neg (fun e : j = i => hiW (e ▸ hj)))
  have e3 : LarS.len { L with H := L.H ++ [i], words := L.words + n, ob := fun j => if j = i then some (List.replicate n.toNat 0) else L.ob j } i = n.toNat := by unfold LarS.len; simp
  simp only [List.map_append, List.sum_append, List.map_cons, List.map_nil, List.sum_cons, List.sum_nil] at hs ⊢
  omega
 ·have := h.wl
  have e2 := p2.p.len
  have e3 := p3.p.len
  have e4 := p4.p.len
  have e5 := p5.p.len
  simp only at e2 e3 e4 e5
  rw [hw1] at e2 e3 e4 e5
  omega
 ·exact ((((((g3.tail.tail.trans kp2.tail).trans kp3.tail).trans kp4.tail).trans kp5.tail).trans ⟨g6.next, fun b hb => g6.blk b (p5.mi.lt b (by simp [hb]))⟩).trans kp7.tail).trans (Keep.put h.nx _)
end
end Go.Abs.Try
namespace Go.Abs.Try
open Go Go.Abs
variable {O : Type}
theorem Objs.begin {M : MemS} {V : Nat -> Option (Int × Int × Int)} {sid : Int} {ob : Nat -> Option (List Int)} {ep : Int} {H : List Nat} {Y : List Int} (h : Objs M V sid ob ep H Y) : Objs M V sid ob (ep + 1) [] Y :=
 ⟨h.non, fun i ws ho => by
  obtain ⟨sp, mk, a1, a2, a3, a4, a5, a6, a7⟩ := h.at_ i ws ho
  exact ⟨sp, mk, a1, a2, by omega, ⟨fun e => by omega, fun hm => by cases hm⟩, a5, a6, a7⟩, h.apart, h.others⟩
theorem Objs.mark {M : MemS} {V V' : Nat -> Option (Int × Int × Int)} {sid : Int} {ob : Nat -> Option (List Int)} {ep : Int} {H : List Nat} {Y : List Int} (h : Objs M V sid ob ep H Y) {i : Nat} {ws : List Int} (ho : ob i = some ws) {sp mk : Int} (h0 : 0 <= ep) (hi : V i = some (sp, (ws.length : Int), mk))
  (hV : ∀ j, V' j = if j = i then some (sp, (ws.length : Int), ep) else V j) : Objs M V' sid ob ep (H ++ [i]) Y := by
 have back : ∀ (j : Nat) (x a b : Int), V' j = some (x, a, b) -> ∃ a' b', V j = some (x, a', b') := fun j x a b hj => by
  rw [hV] at hj
  split at hj
  ·rename_i e; subst e; cases hj; exact ⟨_, _, hi⟩
  ·exact ⟨_, _, hj⟩
 refine ⟨fun j hj => ?_, fun j vs hj => ?_, fun j k x a b c d hj hk => ?_, h.others⟩
 ·rw [hV, if_neg (fun e => by subst e; rw [ho] at hj; cases hj)]; exact h.non j hj
 ·obtain ⟨sq, mq, c1, c4, c5, c6, c7, c8, c9⟩ := h.at_ j vs hj
  by_cases hji : j = i
  ·subst hji
   rw [ho] at hj; cases hj
   rw [hi] at c1
   simp only [Option.some.injEq, Prod.mk.injEq] at c1
   obtain ⟨rfl, _, rfl⟩ := c1
   exact ⟨sp, ep, by rw [hV, if_pos rfl], h0, Int.le_refl _, by simp, c7, c8, c9⟩
  ·exact ⟨sq, mq, by rw [hV, if_neg hji]; exact c1, c4, c5, by rw [c6]; simp [hji], c7, c8, c9⟩
 ·obtain ⟨a', b', g1⟩ := back j x a b hj
  obtain ⟨c', d', g2⟩ := back k x c d hk
  exact h.apart _ _ _ _ _ _ _ g1 g2
theorem eraseIdx_filter : ∀ {W : List Nat} {d i : Nat}, W.Nodup -> W[d]? = some i -> W.eraseIdx d = W.filter (fun j => j != i)
 | [], d, i, _, h => by simp at h
 | a :: W, 0, i, hn, h => by
  simp at h; subst h
  have := List.nodup_cons.1 hn
  simp only [List.eraseIdx_cons_zero]
  rw [List.filter_cons_of_neg (by simp)]
  exact (List.filter_eq_self.2 fun x hx => by simp; exact fun e => this.1 (e ▸ hx)).symm
 | a :: W, d + 1, i, hn, h => by
  have hn := List.nodup_cons.1 hn
  have hm := List.mem_of_getElem? (show W[d]? = some i by simpa using h)
  rw [List.eraseIdx_cons_succ, List.filter_cons_of_pos (by simp; exact fun e => hn.1 (e ▸ hm)), eraseIdx_filter hn.2 (by simpa using h)]
theorem sum_erase {f : Nat -> Nat} : ∀ {W : List Nat} {d i : Nat}, W[d]? = some i -> ((W.eraseIdx d).map f).sum + f i = (W.map f).sum
 | [], d, i, h => by simp at h
 | a :: W, 0, i, h => by simp at h; subst h; simp; omega
 | a :: W, d + 1, i, h => by
  simp only [List.eraseIdx_cons_succ, List.map_cons, List.sum_cons]
  have := sum_erase (f := f) (W := W) (d := d) (i := i) (by simpa using h)
  omega
theorem put_facts {J J1 : AH O} {b : Nat} {x : Blk O} (h : J.put b x = J1) : J1.blk b = some x /\ J1.next = J.next /\ ∀ q, q ≠ b -> J1.blk q = J.blk q := by
 subst h; exact ⟨s_bs, rfl, fun q hq => s_bn hq⟩
theorem hd_pid1 {H : List Nat} (h : 0 < H.length) : hdI H = pid H 1 := by
 cases H with
 | nil => simp at h
 | cons a r => rfl
section
variable {J : AH O} {lb pb mb : Nat} {M : MemS} {S : PoolS} {w : List Int} {L : LarS} {X : List Nat} {Y : List Int} (h : LarAt J lb pb mb M S w L X Y) (hf : M.far 1000)
include h hf
omit hf in
theorem LarAt.mid {J' : AH O} {M' : MemS} {E' : List PE} {w' : List Int} {dr dw : Int} (hp : PoolAt J' pb mb M' { S with E := E' } w' (lb :: X)) (hq : Wrt M M' S.id w' dr dw) (h0 : 0 <= dr) (h1 : 0 <= dw) (hs : SameBut 2 3 S.E E') : Beh Y M M' (dr + dw) 0 0 := by
 refine h.beh hq hp.mi.ok h0 h1 ?_
 have := hp.p.len
 simp only at this
 rw [this, h.five, h.wl]
theorem lbegin_ok (hep : L.ep + 1 < 4611686018427387904) :
  Ok (large_Large__Begin [.p (some (.n lb, 0))] J) fun r => r.1 = .tup [] /\ ∃ M' S' w', LarAt r.2 lb pb mb M' S' w' { L with H := [], W := L.W ++ L.H, ep := L.ep + 1, last := 0 } X Y /\ Alike S S' /\ Beh Y M M' 2 0 0 /\ Keep X J r.2 := by
 obtain ⟨el, hb⟩ := h.b
 simp only [LarS.cells] at hb
 have hel := h.el
 have hhw := h.hw
 have hep0 := h.ep
 simp (maxSteps := 2000000) -implicitDefEqProofs (disch := (first | omega | rfl | assumption | (simp only [rsD]; first | omega | assumption))) only [large_Large__Begin, large_Large__Begin_c, hb, Nat.reduceAdd, Nat.reduceMul, Nat.reduceLT, Int.reduceToNat, Int.reduceAdd, Int.reduceSub, Int.reduceMul, rsU, rsC]
 generalize hJ : J.put lb (.cells true el _) = J1
 obtain ⟨hb1, n1, _⟩ := put_facts hJ
 have k1 : Keep X J J1 := by rw [<- hJ]; exact Keep.put h.nx _
 have p1 : PoolAt J1 pb mb M S w (lb :: X) := by
  rw [<- hJ]
  exact h.p.turn (L := [lb]) ⟨by simp, fun b hb hm => by simp at hm; simp -implicitDefEqProofs (disch := omega) only [s_bn, s_bs, s_kn, bump_blk]⟩ (fun b hb => by simp at hb; subst hb; exact .inl (by simp)) fun b hb => .inl hb
 clear hJ
 refine Ok.step (ltab_ok p1 h.five hb1) fun r ⟨g1, g2⟩ => ?_
 obtain ⟨q, J2⟩ := r
 simp only [tbl] at g1 g2
 subst g1
 have hlt1 := p1.mi.lt lb (by simp)
 have hb2 : J2.blk lb = _ := (g2.blk _ hlt1).trans hb1
 simp (maxSteps := 2000000) -implicitDefEqProofs (disch := (first | omega | rfl | assumption | (simp only [rsD]; first | omega | assumption))) only [hb2, Nat.reduceAdd, Nat.reduceMul, Nat.reduceLT, Int.reduceToNat, Int.reduceAdd, Int.reduceSub, Int.reduceMul, rsU, rsC]
 have tj := tjoin_ok (p1.ext g2) (nx := 2) (pv := 3) (by rw [h.five]; decide) (by rw [h.five]; decide) (by decide) h.lW h.lH (fun i hi hm => h.dis i hm hi) ⟨by have := hf.1; omega, by have := hf.2; omega⟩ (by omega) (by omega)
 simp only [tbl, chn] at tj
 refine Ok.step tj fun r ⟨s1, M3, w3, E3, dw3, p3, sb3, l3, q3, z1, z2, kp3, fr3⟩ => ?_
 obtain ⟨q, J3⟩ := r
 simp only at s1 p3 kp3
 subst s1
 have hb3 : J3.blk lb = _ := kp3.head.trans hb2
 simp (maxSteps := 2000000) -implicitDefEqProofs (disch := (first | omega | rfl | assumption | (simp only [rsD]; first | omega | assumption))) only [hb3, Nat.reduceAdd, Nat.reduceMul, Nat.reduceLT, Int.reduceToNat, Int.reduceAdd, Int.reduceSub, Int.reduceMul, rsU, rsC]
 refine Ok_some.2 ⟨rfl, M3, _, w3, ⟨p3.turn (L := [lb]) ⟨by simp, fun b hb hm => by simp at hm; simp -implicitDefEqProofs (disch := omega) only [s_bn, s_bs, s_kn, bump_blk]⟩ (fun b hb => by simp at hb; subst hb; exact .inl (by simp)) fun b hb => .inl hb, ⟨_, s_bs⟩, h.nx, h.five, Linked.nil _ _ _, l3, fun i hi => by simp at hi, fun j hj => ?_, ?_, ⟨by simp only; omega, by simp only; omega⟩, by simp only; omega, ?_⟩, Alike.same sb3, (h.mid p3 q3 (by decide) z1 sb3).as (by omega) rfl rfl, ?_⟩
 ·exact .inr (List.mem_append.2 ((h.all j hj).symm))
 ·show Objs M3 (v5 E3) S.id _ _ _ _
  rw [v5_same sb3]
  exact (h.o.begin).mem (q3.oth h.p.now)
 ·have hs := h.sum
  show L.words = (((([] ++ (L.W ++ L.H)).map L.len).sum : Nat) : Int)
  simp only [List.nil_append, List.map_append, List.sum_append] at hs ⊢
  omega
 ·exact ((k1.trans ⟨g2.next, fun b hb => g2.blk b (p1.mi.lt b (by simp [hb]))⟩).trans kp3.tail).trans (Keep.put h.nx _)
theorem lmark_no {id : Int} (hn : ∀ i : Nat, id = (i : Int) + 1 -> L.ob i = none) :
  Ok (large_Large__Mark [.p (some (.n lb, 0)), .i .i64 id] J) fun r => r.1 = .tup [.b false, .i .i64 4] /\ ∃ M', LarAt r.2 lb pb mb M' S w L X Y /\ Beh Y M M' 1 0 0 /\ Keep X J r.2 := by
 have e4 : ((4 : Int) != 0) = true := rfl
 simp (maxSteps := 2000000) -implicitDefEqProofs (disch := (first | omega | rfl | assumption | (simp only [rsD]; first | omega | assumption))) only [large_Large__Mark, large_Large__Mark_c, Nat.reduceAdd, Nat.reduceMul, Nat.reduceLT, Int.reduceToNat, Int.reduceAdd, Int.reduceSub, Int.reduceMul, rsU, rsC]
 refine Ok.step (lmarked_no h hf hn) fun r ⟨g1, M', g2, g3, g4⟩ => ?_
 obtain ⟨q, J1⟩ := r
 simp only at g1 g2 g4
 subst g1
 simp (maxSteps := 2000000) -implicitDefEqProofs (disch := (first | omega | rfl | assumption | (simp only [rsD]; first | omega | assumption))) only [e4, Nat.reduceAdd, Nat.reduceMul, Nat.reduceLT, Int.reduceToNat, Int.reduceAdd, Int.reduceSub, Int.reduceMul, rsU, rsC]
 exact Ok_some.2 ⟨rfl, M', g2, g3, g4⟩
theorem lmark_old {i : Nat} (hi : i ∈ L.H) :
  Ok (large_Large__Mark [.p (some (.n lb, 0)), .i .i64 ((i : Int) + 1)] J) fun r => r.1 = .tup [.b false, .i .i64 0] /\ ∃ M', LarAt r.2 lb pb mb M' S w L X Y /\ Beh Y M M' 2 0 0 /\ Keep X J r.2 := by
 obtain ⟨e, ws, _, _, ho⟩ := h.mem (.inl hi)
 have g := lmarked_ok h hf ho
 rw [decide_eq_true hi] at g
 simp (maxSteps := 2000000) -implicitDefEqProofs (disch := (first | omega | rfl | assumption | (simp only [rsD]; first | omega | assumption))) only [large_Large__Mark, large_Large__Mark_c, Nat.reduceAdd, Nat.reduceMul, Nat.reduceLT, Int.reduceToNat, Int.reduceAdd, Int.reduceSub, Int.reduceMul, rsU, rsC]
 refine Ok.step g fun r ⟨g1, M', g2, g3, g4⟩ => ?_
 obtain ⟨q, J1⟩ := r
 simp only at g1 g2 g4
 subst g1
 simp (maxSteps := 2000000) -implicitDefEqProofs (disch := (first | omega | rfl | assumption | (simp only [rsD]; first | omega | assumption))) only [Nat.reduceAdd, Nat.reduceMul, Nat.reduceLT, Int.reduceToNat, Int.reduceAdd, Int.reduceSub, Int.reduceMul, rsU, rsC]
 exact Ok_some.2 ⟨rfl, M', g2, h.beh2 hf g3 g2.p.mi.ok, g4.tail⟩
theorem lmark_ok {i : Nat} {ws : List Int} (ho : L.ob i = some ws) (hi : i ∉ L.H) :
  Ok (large_Large__Mark [.p (some (.n lb, 0)), .i .i64 ((i : Int) + 1)] J) fun r => r.1 = .tup [.b true, .i .i64 0] /\ ∃ M' S' w', LarAt r.2 lb pb mb M' S' w' { L with H := L.H ++ [i], W := L.W.filter (fun j => j != i) } X Y /\ Alike S S' /\ Beh Y M M' 12 0 0 /\ Keep X J r.2 := by
 have g := lmarked_ok h hf ho
 rw [decide_eq_false hi] at g
 have e0 : ((0 : Int) != 0) = false := rfl
 have hiW : i ∈ L.W := (h.all i (by rw [ho]; simp)).resolve_left hi
 obtain ⟨d, hd⟩ := List.getElem?_of_mem hiW
 have hel := h.el
 have hhw := h.hw
 have hep0 := h.ep
 simp (maxSteps := 2000000) -implicitDefEqProofs (disch := (first | omega | rfl | assumption | (simp only [rsD]; first | omega | assumption))) only [large_Large__Mark, large_Large__Mark_c, Nat.reduceAdd, Nat.reduceMul, Nat.reduceLT, Int.reduceToNat, Int.reduceAdd, Int.reduceSub, Int.reduceMul, rsU, rsC]
 refine Ok.step g fun r ⟨g1, M1, p1, q1, k1⟩ => ?_
 obtain ⟨q, J1⟩ := r
 simp only at g1 p1 k1
 subst g1
 have c1 := h.beh2 hf q1 p1.p.mi.ok
 have f1 : M1.far 998 := c1.far (hf.less (by decide))
 obtain ⟨el, hb1⟩ := p1.b
 simp only [LarS.cells] at hb1
 simp (maxSteps := 2000000) -implicitDefEqProofs (disch := (first | omega | rfl | assumption | (simp only [rsD]; first | omega | assumption))) only [e0, hb1, Nat.reduceAdd, Nat.reduceMul, Nat.reduceLT, Int.reduceToNat, Int.reduceAdd, Int.reduceSub, Int.reduceMul, rsU, rsC]
 refine Ok.step (ltab_ok p1.p h.five hb1) fun r ⟨g1, g2⟩ => ?_
 obtain ⟨q, J2⟩ := r
 simp only [tbl] at g1 g2
 subst g1
 have hb2 : J2.blk lb = _ := (g2.blk _ p1.lt).trans hb1
 simp (maxSteps := 2000000) -implicitDefEqProofs (disch := (first | omega | rfl | assumption | (simp only [rsD]; first | omega | assumption))) only [hb2, Nat.reduceAdd, Nat.reduceMul, Nat.reduceLT, Int.reduceToNat, Int.reduceAdd, Int.reduceSub, Int.reduceMul, rsU, rsC]
 have td := tdrop_okF (p1.p.ext g2) (nx := 2) (pv := 3) (by rw [h.five]; decide) (by rw [h.five]; decide) (by decide) h.lW ⟨by have := f1.1; omega, by have := f1.2; omega⟩ (by omega) hd
 simp only [tbl, chn] at td
 refine Ok.step td fun r ⟨s1, M3, w3, E3, dw3, p3, sb3, l3, q3, z1, z2, kp3, fr3⟩ => ?_
 obtain ⟨q, J3⟩ := r
 simp only at s1 p3 kp3
 subst s1
 have hb3 : J3.blk lb = _ := kp3.head.trans hb2
 have c3 := p1.mid p3 q3 (by decide) z1 sb3
 have f3 : M3.far 990 := c3.far (f1.less (by omega))
 simp (maxSteps := 2000000) -implicitDefEqProofs (disch := (first | omega | rfl | assumption | (simp only [rsD]; first | omega | assumption))) only [hb3, Nat.reduceAdd, Nat.reduceMul, Nat.reduceLT, Int.reduceToNat, Int.reduceAdd, Int.reduceSub, Int.reduceMul, rsU, rsC]
 generalize hJ : J3.put lb (.cells true el _) = J4
 obtain ⟨hb4, _, _⟩ := put_facts hJ
 have k4 : Keep X J3 J4 := by rw [<- hJ]; exact Keep.put h.nx _
 have p4 : PoolAt J4 pb mb M3 { S with E := E3 } w3 (lb :: X) := by
  rw [<- hJ]
  exact p3.turn (L := [lb]) ⟨by simp, fun b hb hm => by simp at hm; simp -implicitDefEqProofs (disch := omega) only [s_bn, s_bs, s_kn, bump_blk]⟩ (fun b hb => by simp at hb; subst hb; exact .inl (by simp)) fun b hb => .inl hb
 clear hJ
 refine Ok.step (ltab_ok p4 h.five hb4) fun r ⟨g1, g5⟩ => ?_
 obtain ⟨q, J5⟩ := r
 simp only [tbl] at g1 g5
 subst g1
 have hlt4 := p4.mi.lt lb (by simp)
 have hb5 : J5.blk lb = _ := (g5.blk _ hlt4).trans hb4
 simp (maxSteps := 2000000) -implicitDefEqProofs (disch := (first | omega | rfl | assumption | (simp only [rsD]; first | omega | assumption))) only [hb5, Nat.reduceAdd, Nat.reduceMul, Nat.reduceLT, Int.reduceToNat, Int.reduceAdd, Int.reduceSub, Int.reduceMul, rsU, rsC]
 obtain ⟨e, sp, mk, he, htk, a1, a2, a3, a4, a5, a6, a7, a8, a9⟩ := h.at ho
 obtain ⟨e3, he3, ht3, hg3, hk3⟩ := sb3.at_ i e he
 have lH3 : Linked E3 2 3 L.H := h.lH.other fun j hj => fr3 j fun hm => h.dis j hj hm
 have hWd : ∀ j ∈ L.W.eraseIdx d, j ∈ L.W /\ j ≠ i := fun j hj => by
  rw [eraseIdx_filter h.lW.nd hd] at hj
  obtain ⟨g1, g2⟩ := List.mem_filter.1 hj
  exact ⟨g1, by simpa using g2⟩
 have tp := tpush_okF (p4.ext g5) (nx := 2) (pv := 3) (by show 2 < S.words; rw [h.five]; decide) (by show 3 < S.words; rw [h.five]; decide) (by decide) lH3 ⟨by have := f3.1; omega, by have := f3.2; omega⟩ (by omega) hi he3 (ht3.trans htk)
 simp only [tbl, chn] at tp
 refine Ok.step tp fun r ⟨s1, M6, w6, E6, dw6, p6, sb6, l6, q6, y1, y2, kp6, fr6⟩ => ?_
 obtain ⟨q, J6⟩ := r
 simp only at s1 p6 kp6
 subst s1
 have hb6 : J6.blk lb = _ := kp6.head.trans hb5
 have c6 : Beh Y M3 M6 (0 + dw6) 0 0 := by
  have := Beh.wrt p4.mi.ok p6.mi.ok p4.now q6 (by decide) (by omega) h.idY
  have l1 := p4.p.len
  have l2 := p6.p.len
  simp only at l1 l2
  rw [l1, l2, Int.sub_self] at this
  exact this
 have f6 : M6.far 980 := c6.far (f3.less (by omega))
 simp (maxSteps := 2000000) -implicitDefEqProofs (disch := (first | omega | rfl | assumption | (simp only [rsD]; first | omega | assumption))) only [hb6, Nat.reduceAdd, Nat.reduceMul, Nat.reduceLT, Int.reduceToNat, Int.reduceAdd, Int.reduceSub, Int.reduceMul, rsU, rsC]
 generalize hJ : J6.put lb (.cells true el _) = J7
 obtain ⟨hb7, _, _⟩ := put_facts hJ
 have k7 : Keep X J6 J7 := by rw [<- hJ]; exact Keep.put h.nx _
 have p7 : PoolAt J7 pb mb M6 { S with E := E6 } w6 (lb :: X) := by
  rw [<- hJ]
  exact p6.turn (L := [lb]) ⟨by simp, fun b hb hm => by simp at hm; simp -implicitDefEqProofs (disch := omega) only [s_bn, s_bs, s_kn, bump_blk]⟩ (fun b hb => by simp at hb; subst hb; exact .inl (by simp)) fun b hb => .inl hb
 clear hJ
 obtain ⟨e6, he6, ht6, hg6, hk6⟩ := sb6.at_ i e3 he3
 have hi6 := (List.getElem?_eq_some_iff.1 he6).1
 have ps := pset_ok p7 (f6.calm (by decide)) (k := 4) (x := L.ep) he6 (ht6.trans (ht3.trans htk)) (by show 4 < S.words; rw [h.five]; decide) (by have := f6.1; omega)
 rw [show ((4 : Nat) : Int) = 4 from rfl] at ps
 refine Ok.step ps fun r ⟨s1, M8, w8, p8, q8, kp8⟩ => ?_
 obtain ⟨q, J8⟩ := r
 simp only at s1 p8 kp8
 subst s1
 have hb8 : J8.blk lb = _ := kp8.head.trans hb7
 have c8 : Beh Y M6 M8 2 0 0 := by
  have := Beh.wrt p7.mi.ok p8.mi.ok p7.now q8 (by decide) (by decide) h.idY
  have l1 := p7.p.len
  have l2 := p8.p.len
  simp only at l1 l2
  rw [l1, l2, Int.sub_self] at this
  exact this.as (by decide) rfl rfl
 simp (maxSteps := 2000000) -implicitDefEqProofs (disch := (first | omega | rfl | assumption | (simp only [rsD]; first | omega | assumption))) only [Nat.reduceAdd, Nat.reduceMul, Nat.reduceLT, Int.reduceToNat, Int.reduceAdd, Int.reduceSub, Int.reduceMul, rsU, rsC]
 have hv8 : v5 (E6.set i { e6 with ws := e6.ws.set 4 L.ep }) = fun j => if j = i then some (sp, (ws.length : Int), L.ep) else v5 S.E j := by
  rw [v5_set hi6]
  funext j
  by_cases hj : j = i
  ·subst hj
   rw [if_pos rfl, if_pos rfl]
   have l6' : e6.ws.length = 5 := by have := p6.p.wl e6 (List.mem_of_getElem? he6); simp only at this; rw [this]; exact h.five
   refine v5_mk (e := { e6 with ws := e6.ws.set 4 L.ep }) rfl (ht6.trans (ht3.trans htk)) ?_ ?_ ?_
   ·simp only; rw [List.getElem?_set, if_neg (by decide), hk6 0 (by decide) (by decide), hk3 0 (by decide) (by decide)]; exact a1
   ·simp only; rw [List.getElem?_set, if_neg (by decide), hk6 1 (by decide) (by decide), hk3 1 (by decide) (by decide)]; exact a2
   ·simp only; rw [List.getElem?_set, if_pos rfl, if_pos (by omega)]
  ·rw [if_neg hj, if_neg hj, v5_same sb6, v5_same sb3]
 have lW6 : Linked E6 2 3 (L.W.eraseIdx d) := l3.other fun j hj => fr6 j (fun hm => h.dis j hm (hWd j hj).1) (hWd j hj).2
 have oth8 : ∀ y v, y ≠ S.id -> wordsOf M.sp y = some v -> wordsOf M8.sp y = some v := fun y v hy hv =>
  q8.oth p7.now y v hy (q6.oth p4.now y v hy (q3.oth p1.p.now y v hy (q1.oth h.p.now y v hy hv)))
 refine Ok_some.2 ⟨rfl, M8, _, w8, ⟨p8, ⟨_, hb8.trans (by rw [<- eraseIdx_filter h.lW.nd hd]; rfl)⟩, h.nx, h.five, l6.words he6 (by decide) (by decide), ?_, fun j hj hjW => ?_, fun j hj => ?_, ?_, h.ep, h.last, ?_⟩, ((Alike.same sb3).trans (Alike.same (S := { S with E := E3 }) sb6)).trans (Alike.set (S := { S with E := E6 }) he6), (((c1.trans c3).trans c6).trans c8).as (by omega) rfl rfl, ?_⟩
 ·simp only
  rw [<- eraseIdx_filter h.lW.nd hd]
  exact lW6.words he6 (by decide) (by decide)
 ·simp only at hj hjW
  obtain ⟨g1, g2⟩ := List.mem_filter.1 hjW
  rcases List.mem_append.1 hj with hj | hj
  ·exact h.dis j hj g1
  ·simp at hj; subst hj; simp at g2
 ·simp only at hj ⊢
  rcases h.all j hj with g | g
  ·exact .inl (by simp [g])
  ·by_cases hji : j = i
   ·exact .inl (by simp [hji])
   ·exact .inr (List.mem_filter.2 ⟨g, by simpa using hji⟩)
 ·show Objs M8 (v5 (E6.set i { e6 with ws := e6.ws.set 4 L.ep })) S.id _ _ _ _
  exact (h.o.mark ho hep0.1 (v5_mk he htk a1 a2 a3) fun j => by rw [hv8]).mem oth8
 ·have hs := h.sum
  show L.words = (((((L.H ++ [i]) ++ L.W.filter (fun j => j != i)).map L.len).sum : Nat) : Int)
  have hs2 : ((L.W.filter fun j => j != i).map L.len).sum + L.len i = (L.W.map L.len).sum := by
   rw [<- eraseIdx_filter h.lW.nd hd]; exact sum_erase hd
  simp only [List.map_append, List.sum_append, List.map_cons, List.map_nil, List.sum_cons, List.sum_nil] at hs ⊢
  omega
 ·exact (((((((k1.tail.trans ⟨g2.next, fun b hb => g2.blk b (p1.p.mi.lt b (by simp [hb]))⟩).trans kp3.tail).trans k4).trans ⟨g5.next, fun b hb => g5.blk b (p4.mi.lt b (by simp [hb]))⟩).trans kp6.tail).trans k7).trans kp8.tail)
theorem lgrey_ok {t : Nat} (ht : t < L.H.length) (hl : L.last = (pid L.H t : Int)) :
  Ok (large_Large__Grey [.p (some (.n lb, 0))] J) fun r => r.1 = .tup [.i .i64 (pid L.H (t + 1) : Int), .b true] /\ ∃ M', LarAt r.2 lb pb mb M' S w { L with last := (pid L.H (t + 1) : Int) } X Y /\ Beh Y M M' 1 0 0 /\ Keep X J r.2 := by
 obtain ⟨el, hb⟩ := h.b
 simp only [LarS.cells] at hb
 have hi := List.getElem?_eq_getElem ht
 have hp1 : pid L.H (t + 1) = L.H[t] + 1 := pid_some hi
 have hne : ((pid L.H (t + 1) : Int) == 0) = false := beq_eq_false_iff_ne.2 (by omega)
 obtain ⟨s1, s2, s3⟩ := h.lH.small (B := 699050) h.el
 cases t with
 | zero =>
  have e0 : ((L.last : Int) == 0) = true := by rw [hl]; rfl
  have eh : (hdI L.H : Int) = (pid L.H (0 + 1) : Int) := by rw [hd_pid1 ht]
  simp (maxSteps := 2000000) -implicitDefEqProofs (disch := (first | omega | rfl | assumption | (simp only [rsD]; first | omega | assumption))) only [large_Large__Grey, large_Large__Grey_c, hb, e0, Nat.reduceAdd, Nat.reduceMul, Nat.reduceLT, Int.reduceToNat, Int.reduceAdd, Int.reduceSub, Int.reduceMul, rsU, rsC]
  rw [eh]
  simp (maxSteps := 2000000) -implicitDefEqProofs (disch := (first | omega | rfl | assumption | (simp only [rsD]; first | omega | assumption))) only [hne, hb, Nat.reduceAdd, Nat.reduceMul, Nat.reduceLT, Int.reduceToNat, Int.reduceAdd, Int.reduceSub, Int.reduceMul, rsU, rsC]
  refine Ok_some.2 ⟨rfl, M, { h with p := h.p.turn (L := [lb]) ⟨by simp, fun b hb hm => by simp at hm; simp -implicitDefEqProofs (disch := omega) only [s_bn, s_bs, s_kn, bump_blk]⟩ (fun b hb => by simp at hb; subst hb; exact .inl (by simp)) (fun b hb => .inl hb), b := ⟨_, s_bs.trans (by rw [LarS.cells, eh])⟩, last := ⟨by simp only; omega, by have := (s3 1).2; simp only; omega⟩ }, (Beh.refl Y M).as (by decide) rfl rfl, Keep.put h.nx _⟩
 | succ t =>
  have hi0 := List.getElem?_eq_getElem (show t < L.H.length by omega)
  have e0 : ((L.last : Int) == 0) = false := beq_eq_false_iff_ne.2 (by rw [hl, pid_some hi0]; omega)
  have el1 : L.last = (L.H[t] : Int) + 1 := by rw [hl, pid_some hi0]; simp
  obtain ⟨e, he, hlk⟩ := h.lH.at_ t _ hi0
  have hn : nid L.H t = L.H[t + 1] + 1 := nid_some hi
  have hnb := (s3 t).1
  simp (maxSteps := 2000000) -implicitDefEqProofs (disch := (first | omega | rfl | assumption | (simp only [rsD]; first | omega | assumption))) only [large_Large__Grey, large_Large__Grey_c, hb, e0, Nat.reduceAdd, Nat.reduceMul, Nat.reduceLT, Int.reduceToNat, Int.reduceAdd, Int.reduceSub, Int.reduceMul, rsU, rsC]
  refine Ok.step (ltable_ok h) fun r ⟨g1, g2⟩ => ?_
  obtain ⟨q, J1⟩ := r
  simp only [tbl] at g1 g2
  subst g1
  have hb1 : J1.blk lb = _ := (g2.blk _ h.lt).trans hb
  simp (maxSteps := 2000000) -implicitDefEqProofs (disch := (first | omega | rfl | assumption | (simp only [rsD]; first | omega | assumption))) only [hb1, Nat.reduceAdd, Nat.reduceMul, Nat.reduceLT, Int.reduceToNat, Int.reduceAdd, Int.reduceSub, Int.reduceMul, rsU, rsC]
  have ta := tafter_ok (h.p.ext g2) (nx := 2) (pv := 3) (by rw [h.five]; decide) (by rw [h.five]; decide) (by decide) (hf.calm (by decide)) he hlk.n (by omega)
  simp only [tbl] at ta
  rw [<- el1] at ta
  refine Ok.step ta fun r ⟨k1, M2, p2, q2, k2⟩ => ?_
  obtain ⟨q, J2⟩ := r
  simp only at k1 p2 k2
  subst k1
  have hb2 : J2.blk lb = _ := k2.head.trans hb1
  have en : (nid L.H t : Int) = (pid L.H (t + 1 + 1) : Int) := by rw [hn, hp1]
  rw [en]
  simp (maxSteps := 2000000) -implicitDefEqProofs (disch := (first | omega | rfl | assumption | (simp only [rsD]; first | omega | assumption))) only [hne, hb2, Nat.reduceAdd, Nat.reduceMul, Nat.reduceLT, Int.reduceToNat, Int.reduceAdd, Int.reduceSub, Int.reduceMul, rsU, rsC]
  have r2 := h.read p2 ⟨by have := g2.next; have := k2.next; omega, fun b hb => (k2.blk b hb).trans (g2.blk b (h.p.mi.lt b (List.mem_cons_of_mem _ hb)))⟩ q2
  refine Ok_some.2 ⟨rfl, M2, { r2 with p := p2.turn (L := [lb]) ⟨by simp, fun b hb hm => by simp at hm; simp -implicitDefEqProofs (disch := omega) only [s_bn, s_bs, s_kn, bump_blk]⟩ (fun b hb => by simp at hb; subst hb; exact .inl (by simp)) (fun b hb => .inl hb), b := ⟨_, s_bs⟩, last := ⟨by simp only; omega, by have := (s3 (t + 1 + 1)).2; simp only; omega⟩ }, (h.beh q2 p2.mi.ok (by decide) (by decide) rfl).as (by decide) rfl rfl, (Keep.trans ⟨g2.next, fun b hb => g2.blk b (h.lX b hb)⟩ k2.tail).trans (Keep.put h.nx _)⟩
theorem lgrey_no (hl : L.last = (pid L.H L.H.length : Int)) :
  Ok (large_Large__Grey [.p (some (.n lb, 0))] J) fun r => r.1 = .tup [.i .i64 0, .b false] /\ ∃ M', LarAt r.2 lb pb mb M' S w L X Y /\ Beh Y M M' 1 0 0 /\ Keep X J r.2 := by
 obtain ⟨el, hb⟩ := h.b
 simp only [LarS.cells] at hb
 have z0 : ((0 : Int) == 0) = true := rfl
 rcases Nat.eq_zero_or_pos L.H.length with hz | hz
 ·have hH := List.eq_nil_of_length_eq_zero hz
  have e0 : ((L.last : Int) == 0) = true := by rw [hl, hH]; rfl
  have eh : (hdI L.H : Int) = 0 := by rw [hH]; rfl
  simp (maxSteps := 2000000) -implicitDefEqProofs (disch := (first | omega | rfl | assumption | (simp only [rsD]; first | omega | assumption))) only [large_Large__Grey, large_Large__Grey_c, hb, e0, Nat.reduceAdd, Nat.reduceMul, Nat.reduceLT, Int.reduceToNat, Int.reduceAdd, Int.reduceSub, Int.reduceMul, rsU, rsC]
  exact Ok_some.2 ⟨rfl, M, h, (Beh.refl Y M).as (by decide) rfl rfl, Keep.refl _ _⟩
 ·obtain ⟨t, htl⟩ : ∃ t, L.H.length = t + 1 := ⟨L.H.length - 1, by omega⟩
  have hi0 := List.getElem?_eq_getElem (show t < L.H.length by omega)
  rw [htl] at hl
  have e0 : ((L.last : Int) == 0) = false := beq_eq_false_iff_ne.2 (by rw [hl, pid_some hi0]; omega)
  have el1 : L.last = (L.H[t] : Int) + 1 := by rw [hl, pid_some hi0]; simp
  obtain ⟨e, he, hlk⟩ := h.lH.at_ t _ hi0
  have hn : nid L.H t = 0 := nid_none (by omega)
  have hln := hlk.n
  rw [hn] at hln
  simp (maxSteps := 2000000) -implicitDefEqProofs (disch := (first | omega | rfl | assumption | (simp only [rsD]; first | omega | assumption))) only [large_Large__Grey, large_Large__Grey_c, hb, e0, Nat.reduceAdd, Nat.reduceMul, Nat.reduceLT, Int.reduceToNat, Int.reduceAdd, Int.reduceSub, Int.reduceMul, rsU, rsC]
  refine Ok.step (ltable_ok h) fun r ⟨g1, g2⟩ => ?_
  obtain ⟨q, J1⟩ := r
  simp only [tbl] at g1 g2
  subst g1
  have hb1 : J1.blk lb = _ := (g2.blk _ h.lt).trans hb
  simp (maxSteps := 2000000) -implicitDefEqProofs (disch := (first | omega | rfl | assumption | (simp only [rsD]; first | omega | assumption))) only [hb1, Nat.reduceAdd, Nat.reduceMul, Nat.reduceLT, Int.reduceToNat, Int.reduceAdd, Int.reduceSub, Int.reduceMul, rsU, rsC]
  have ta := tafter_ok (h.p.ext g2) (nx := 2) (pv := 3) (by rw [h.five]; decide) (by rw [h.five]; decide) (by decide) (hf.calm (by decide)) he hln (by omega)
  simp only [tbl] at ta
  rw [<- el1, show ((0 : Nat) : Int) = 0 from rfl] at ta
  refine Ok.step ta fun r ⟨k1, M2, p2, q2, k2⟩ => ?_
  obtain ⟨q, J2⟩ := r
  simp only at k1 p2 k2
  subst k1
  simp (maxSteps := 2000000) -implicitDefEqProofs (disch := (first | omega | rfl | assumption | (simp only [rsD]; first | omega | assumption))) only [z0, Nat.reduceAdd, Nat.reduceMul, Nat.reduceLT, Int.reduceToNat, Int.reduceAdd, Int.reduceSub, Int.reduceMul, rsU, rsC]
  have r2 := h.read p2 ⟨by have := g2.next; have := k2.next; omega, fun b hb => (k2.blk b hb).trans (g2.blk b (h.p.mi.lt b (List.mem_cons_of_mem _ hb)))⟩ q2
  exact Ok_some.2 ⟨rfl, M2, r2, (h.beh q2 p2.mi.ok (by decide) (by decide) rfl).as (by decide) rfl rfl, Keep.trans ⟨g2.next, fun b hb => g2.blk b (h.lX b hb)⟩ k2.tail⟩
end
end Go.Abs.Try
namespace Go.Abs.Try
open Go Go.Abs
variable {O : Type}
def PoolS.gave (S : PoolS) (i : Nat) : PoolS := match S.E[i]? with
 | some e => { S with E := S.E.set i ⟨false, e.gen + 1, e.ws.set 0 (hd S.free)⟩, free := (i + 1) :: S.free, taken := S.taken - 1 }
 | none => S
theorem gave_of {S : PoolS} {i : Nat} {e : PE} (he : S.E[i]? = some e) : S.gave i = { S with E := S.E.set i ⟨false, e.gen + 1, e.ws.set 0 (hd S.free)⟩, free := (i + 1) :: S.free, taken := S.taken - 1 } := by unfold PoolS.gave; rw [he]
theorem gave_id (S : PoolS) (i : Nat) : (S.gave i).id = S.id /\ (S.gave i).words = S.words /\ (S.gave i).room = S.room /\ (S.gave i).E.length = S.E.length := by
 unfold PoolS.gave
 split <;> simp
theorem gave_other {S : PoolS} {i j : Nat} (h : j ≠ i) : (S.gave i).E[j]? = S.E[j]? := by
 unfold PoolS.gave
 split
 ·simp only; rw [List.getElem?_set, if_neg (Ne.symm h)]
 ·rfl
def PoolS.gaves (S : PoolS) (l : List Nat) : PoolS := l.foldl PoolS.gave S
theorem gaves_id : ∀ (l : List Nat) (S : PoolS), (S.gaves l).id = S.id /\ (S.gaves l).words = S.words /\ (S.gaves l).room = S.room /\ (S.gaves l).E.length = S.E.length
 | [], S => ⟨rfl, rfl, rfl, rfl⟩
 | i :: l, S => by
  obtain ⟨a, b, c, d⟩ := gave_id S i
  obtain ⟨a', b', c', d'⟩ := gaves_id l (S.gave i)
  exact ⟨a'.trans a, b'.trans b, c'.trans c, d'.trans d⟩
theorem gaves_other : ∀ (l : List Nat) (S : PoolS) (j : Nat), j ∉ l -> (S.gaves l).E[j]? = S.E[j]?
 | [], S, j, _ => rfl
 | i :: l, S, j, h => by
  simp only [List.mem_cons, not_or] at h
  exact (gaves_other l (S.gave i) j h.2).trans (gave_other h.1)
theorem gaves_snoc (l : List Nat) (S : PoolS) (i : Nat) : S.gaves (l ++ [i]) = (S.gaves l).gave i := by unfold PoolS.gaves; rw [List.foldl_append]; rfl
theorem Alike.gave {S S' : PoolS} (h : Alike S S') (i : Nat) : Alike (S.gave i) (S'.gave i) := by
 unfold PoolS.gave
 cases he : S.E[i]? with
 | none =>
  have : S'.E[i]? = none := List.getElem?_eq_none (by rw [h.len]; exact List.getElem?_eq_none_iff.1 he)
  rw [this]; exact h
 | some e =>
  obtain ⟨e', a, b, c⟩ := h.at_ i e he
  rw [a]
  have hi := (List.getElem?_eq_some_iff.1 he).1
  refine ⟨h.id, h.words, h.room, by simp [h.free], by simp [h.taken], by simp [h.len], fun j x hx => ?_⟩
  simp only at hx ⊢
  rw [List.getElem?_set] at hx ⊢
  by_cases hj : i = j
  ·subst hj
   rw [if_pos rfl, if_pos hi] at hx; cases hx
   exact ⟨⟨false, e'.gen + 1, e'.ws.set 0 (Abs.Try.hd S'.free)⟩, by rw [if_pos rfl, if_pos (by rw [h.len]; exact hi)], rfl, by simp [c]⟩
  ·rw [if_neg hj] at hx ⊢
   exact h.at_ j x hx
theorem Alike.gaves {S S' : PoolS} (h : Alike S S') (l : List Nat) : Alike (S.gaves l) (S'.gaves l) := by
 induction l generalizing S S' with
 | nil => exact h
 | cons i l ih => exact ih (h.gave i)
theorem Objs.gone {M M' : MemS} {V V' : Nat -> Option (Int × Int × Int)} {sid : Int} {ob ob' : Nat -> Option (List Int)} {ep : Int} {H : List Nat} {Y : List Int} (h : Objs M V sid ob ep H Y) {i : Nat} {ws : List Int} (ho : ob i = some ws) {sp : Int} {n mk : Int} (hi : V i = some (sp, n, mk))
  (hV : ∀ j, V' j = if j = i then none else V j) (hob : ∀ j, ob' j = if j = i then none else ob j) (hw : ∀ y v, y ≠ sid -> y ≠ sp -> wordsOf M.sp y = some v -> wordsOf M'.sp y = some v) : Objs M' V' sid ob' ep H Y := by
 have hsY : sp ∉ Y := by
  obtain ⟨sq, mq, c1, _, _, _, _, _, c9⟩ := h.at_ i ws ho
  rw [hi] at c1; cases c1; exact c9
 refine ⟨fun j hj => ?_, fun j vs hj => ?_, fun j k x a b c d hj hk => ?_, fun y hy => ⟨?_, (h.others y hy).2⟩⟩
 ·rw [hV]; rw [hob] at hj
  by_cases hji : j = i
  ·rw [if_pos hji]
  ·rw [if_neg hji] at hj ⊢; exact h.non j hj
 ·rw [hob] at hj
  by_cases hji : j = i
  ·rw [if_pos hji] at hj; cases hj
  ·rw [if_neg hji] at hj
   obtain ⟨sq, mq, c1, c4, c5, c6, c7, c8, c9⟩ := h.at_ j vs hj
   refine ⟨sq, mq, by rw [hV, if_neg hji]; exact c1, c4, c5, c6, hw _ _ c8 (fun e => hji ?_) c7, c8, c9⟩
   subst e
   exact h.apart _ _ _ _ _ _ _ c1 hi
 ·rw [hV] at hj hk
  split at hj
  ·cases hj
  ·split at hk
   ·cases hk
   ·exact h.apart _ _ _ _ _ _ _ hj hk
 ·obtain ⟨g1, g2⟩ := h.others y hy
  cases hv : wordsOf M.sp y with
  | none => exact absurd hv g1
  | some v => rw [hw y v g2 (fun e => hsY (e ▸ hy)) hv]; simp
structure Swp (J : AH O) (lb pb mb : Nat) (M0 : MemS) (S : PoolS) (L : LarS) (X : List Nat) (Y : List Int) (J0 : AH O) (k : Nat) (M : MemS) (w : List Int) : Prop where
 p : PoolAt J pb mb M (S.gaves (L.W.take k)) w (lb :: X)
 b : J.blk lb = J0.blk lb
 o : Objs M (v5 (S.gaves (L.W.take k)).E) S.id (fun j => if j ∈ L.W.take k then none else L.ob j) L.ep L.H Y
 c : Beh Y M0 M (8 * k) (-((((L.W.take k).map L.len).sum : Nat) : Int)) (-(k : Int))
 x : Keep X J0 J
section
variable {J : AH O} {lb pb mb : Nat} {M : MemS} {S : PoolS} {w : List Int} {L : LarS} {X : List Nat} {Y : List Int} (h : LarAt J lb pb mb M S w L X Y) (hf : M.far 20000000)
include h hf
theorem lsweep_ok (hg : ∀ e ∈ S.E, e.gen < 4611686018427387903) :
  Ok (large_Large__Sweep [.p (some (.n lb, 0))] J) fun r => r.1 = .tup [.i .i64 (L.W.length : Int), .i .i64 (((L.W.map L.len).sum : Nat) : Int)] /\ ∃ M' w', LarAt r.2 lb pb mb M' (S.gaves L.W) w' { L with W := [], words := L.words - ((L.W.map L.len).sum : Nat), ob := fun j => if j ∈ L.W then none else L.ob j } X Y /\ Beh Y M M' (8 * L.W.length) (-(((L.W.map L.len).sum : Nat) : Int)) (-(L.W.length : Int)) /\ Keep X J r.2 := by
 obtain ⟨el, hb⟩ := h.b
 have hb0 := hb
 simp only [LarS.cells] at hb
 have hhw := h.hw
 have hel := h.el
 have hwb := h.wb
 have hsum := h.sum
 have hsl : ∀ k, (((L.W.take k).map L.len).sum : Nat) <= (L.W.map L.len).sum := fun k => by
  rw [<- List.take_append_drop k (L.W.map L.len), List.sum_append, <- List.map_take]; omega
 simp only [List.map_append, List.sum_append] at hsum
 simp (maxSteps := 2000000) -implicitDefEqProofs (disch := (first | omega | rfl | assumption | (simp only [rsD]; first | omega | assumption))) only [large_Large__Sweep, large_Large__Sweep_c, hb, Nat.reduceAdd, Nat.reduceMul, Nat.reduceLT, Int.reduceToNat, Int.reduceAdd, Int.reduceSub, Int.reduceMul, rsU, rsC]
 refine Ok.step (Ok.count (Q := fun r => ∃ J' M' w', r = ([.i .i64 (L.W.length : Int), .i .i64 (((L.W.map L.len).sum : Nat) : Int)], J') /\ Swp J' lb pb mb M S L X Y J L.W.length M' w') L.W.length
  (fun k s => ∃ J' M' w', s = ([.i .i64 (k : Int), .i .i64 ((((L.W.take k).map L.len).sum : Nat) : Int), .i .i64 ((match L.W[k]? with | some i => i + 1 | none => 0 : Nat) : Int), .i .i64 (k : Int)], J') /\ Swp J' lb pb mb M S L X Y J k M' w') ?_ ?_ ?_) ?_
 ·rintro k _ hk ⟨J1, M1, w1, rfl, s⟩
  have hi := List.getElem?_eq_getElem hk
  generalize hii : L.W[k] = i at hi
  rw [hi]
  simp only
  have hiW := List.mem_of_getElem? hi
  have htk : L.W.take (k + 1) = L.W.take k ++ [i] := by rw [List.take_succ_eq_append_getElem hk, hii]
  have hit : i ∉ L.W.take k := fun hm => by
   obtain ⟨j, hj⟩ := List.getElem?_of_mem hm
   rw [List.getElem?_take] at hj
   split at hj
   ·rename_i hjk
    have := nodup_at h.lW.nd hj hi
    omega
   ·cases hj
  obtain ⟨e0, ws, he0, ht0, ho0⟩ := h.mem (.inr hiW)
  obtain ⟨gid, gw, gr, gl⟩ := gaves_id (L.W.take k) S
  have he : (S.gaves (L.W.take k)).E[i]? = some e0 := (gaves_other _ S i hit).trans he0
  obtain ⟨e0', sp, mk, he0', htk', a1, a2, a3, a4, a5, a6, a7, a8, a9⟩ := h.at ho0
  rw [he0] at he0'; cases he0'
  have hol := h.ol ho0
  obtain ⟨e1, he1, hlk⟩ := h.lW.at_ k i hi
  rw [he0] at he1; cases he1
  have f1 : M1.far 1000 := s.c.far (hf.less (by omega))
  obtain ⟨n1, n2, n3⟩ := h.lW.small (B := 699050) h.el
  have hnb := (n3 k).1
  have hgw : (S.gaves (L.W.take k)).words = 5 := gw.trans h.five
  have hb1 : J1.blk lb = _ := s.b.trans hb
  have hs1 := hsl k
  have hs2 := hsl (k + 1)
  have hlen0 : L.len i = ws.length := by unfold LarS.len; rw [ho0]; rfl
  have hmk : (((L.W.take (k + 1)).map L.len).sum : Nat) = ((L.W.take k).map L.len).sum + ws.length := by rw [htk]; simp [hlen0]
  simp (maxSteps := 2000000) -implicitDefEqProofs (disch := (first | omega | rfl | assumption | (simp only [rsD]; first | omega | assumption))) only [large_Large__Sweep_L1, Nat.reduceAdd, Nat.reduceMul, Nat.reduceLT, Int.reduceToNat, Int.reduceAdd, Int.reduceSub, Int.reduceMul, rsU, rsC]
  refine Ok.step (ltab_ok s.p hgw hb1) fun r ⟨g1, g2⟩ => ?_
  obtain ⟨q, J2⟩ := r
  simp only [tbl] at g1 g2
  subst g1
  have hb2 : J2.blk lb = _ := (g2.blk _ (s.p.mi.lt _ (by simp))).trans hb1
  simp (maxSteps := 2000000) -implicitDefEqProofs (disch := (first | omega | rfl | assumption | (simp only [rsD]; first | omega | assumption))) only [Nat.reduceAdd, Nat.reduceMul, Nat.reduceLT, Int.reduceToNat, Int.reduceAdd, Int.reduceSub, Int.reduceMul, rsU, rsC]
  have ta := tafter_ok (s.p.ext g2) (nx := 2) (pv := 3) (by rw [hgw]; decide) (by rw [hgw]; decide) (by decide) (f1.calm (by decide)) he hlk.n (by omega)
  simp only [tbl] at ta
  refine Ok.step ta fun r ⟨k1, M2, p2, q2, k2⟩ => ?_
  obtain ⟨q, J3⟩ := r
  simp only at k1 p2 k2
  subst k1
  have hb3 : J3.blk lb = _ := k2.head.trans hb2
  have c2 : Beh Y M1 M2 1 0 0 := by
   have := Beh.wrt s.p.mi.ok p2.mi.ok s.p.now q2 (by decide) (by decide) (gid ▸ h.idY)
   rw [Int.sub_self] at this
   exact this.as (by decide) rfl rfl
  have f2 : M2.far 990 := c2.far (f1.less (by decide))
  simp (maxSteps := 2000000) -implicitDefEqProofs (disch := (first | omega | rfl | assumption | (simp only [rsD]; first | omega | assumption))) only [hb3, Nat.reduceAdd, Nat.reduceMul, Nat.reduceLT, Int.reduceToNat, Int.reduceAdd, Int.reduceSub, Int.reduceMul, rsU, rsC]
  have pg := pget_ok p2 (f2.calm (by decide)) (k := 0) he ht0 (by rw [hgw]; decide) (by have := f2.1; omega)
  rw [show ((0 : Nat) : Int) = 0 from rfl, List.getD_eq_getElem?_getD, a1] at pg
  refine Ok.step pg fun r ⟨k1, M3, p3, q3, k3⟩ => ?_
  obtain ⟨q, J4⟩ := r
  simp only [Option.getD_some] at k1 p3 k3
  subst k1
  have hb4 : J4.blk lb = _ := k3.head.trans hb3
  have c3 : Beh Y M2 M3 2 0 0 := by
   have := Beh.wrt p2.mi.ok p3.mi.ok p2.now q3 (by decide) (by decide) (gid ▸ h.idY)
   rw [Int.sub_self] at this
   exact this.as (by decide) rfl rfl
  have f3 : M3.far 980 := c3.far (f2.less (by decide))
  simp (maxSteps := 2000000) -implicitDefEqProofs (disch := (first | omega | rfl | assumption | (simp only [rsD]; first | omega | assumption))) only [hb4, Nat.reduceAdd, Nat.reduceMul, Nat.reduceLT, Int.reduceToNat, Int.reduceAdd, Int.reduceSub, Int.reduceMul, rsU, rsC]
  have pg := pget_ok p3 (f3.calm (by decide)) (k := 1) he ht0 (by rw [hgw]; decide) (by have := f3.1; omega)
  rw [show ((1 : Nat) : Int) = 1 from rfl, List.getD_eq_getElem?_getD, a2] at pg
  refine Ok.step pg fun r ⟨k1, M4, p4, q4, k4⟩ => ?_
  obtain ⟨q, J5⟩ := r
  simp only [Option.getD_some] at k1 p4 k4
  subst k1
  have hb5 : J5.blk lb = _ := k4.head.trans hb4
  have c4 : Beh Y M3 M4 2 0 0 := by
   have := Beh.wrt p3.mi.ok p4.mi.ok p3.now q4 (by decide) (by decide) (gid ▸ h.idY)
   rw [Int.sub_self] at this
   exact this.as (by decide) rfl rfl
  have f4 : M4.far 970 := c4.far (f3.less (by decide))
  have hoik : (fun j => if j ∈ L.W.take k then none else L.ob j) i = some ws := by simp only; rw [if_neg hit]; exact ho0
  have hvi : v5 (S.gaves (L.W.take k)).E i = some (sp, (ws.length : Int), mk) := v5_mk he ht0 a1 a2 a3
  obtain ⟨sq, mq, d1, d2, d3, d4, d5, d6, d7⟩ := s.o.at_ i ws hoik
  rw [hvi] at d1; cases d1
  have x2 := q2.oth s.p.now
  have x3 := q3.oth p2.now
  have x4 := q4.oth p3.now
  rw [gid] at x2 x3 x4
  have hw4 : wordsOf M4.sp sp = some ws := x4 _ _ a8 (x3 _ _ a8 (x2 _ _ a8 d5))
  have hsp := spSmall p4.mi.ok hw4
  simp (maxSteps := 2000000) -implicitDefEqProofs (disch := (first | omega | rfl | assumption | (simp only [rsD]; first | omega | assumption))) only [hb5, Nat.reduceAdd, Nat.reduceMul, Nat.reduceLT, Int.reduceToNat, Int.reduceAdd, Int.reduceSub, Int.reduceMul, rsU, rsC]
  refine Ok.step (closeX p4.mi (f4.calm (by decide)) hw4 (by omega)) fun r ⟨k1, p5, k5⟩ => ?_
  obtain ⟨q, J6⟩ := r
  simp only at k1 p5 k5
  subst k1
  have hb6 : J6.blk lb = _ := k5.tail.head.trans hb5
  have c5 : Beh Y M4 (M4.close sp.toNat ws) 0 (-(ws.length : Int)) (-1) := Beh.close hsp.1 a9
  have f5 : (M4.close sp.toNat ws).far 960 := c5.far (f4.less (by decide))
  have x5 : ∀ y v, y ≠ sp -> wordsOf M4.sp y = some v -> wordsOf (M4.close sp.toNat ws).sp y = some v := fun y v hy hv => (cls_other hsp.1 hy).trans hv
  have p6 : PoolAt J6 pb mb (M4.close sp.toNat ws) (S.gaves (L.W.take k)) w1 (lb :: X) := { p4 with mi := p5, b := k5.head.trans p4.b, now := x5 _ _ (by rw [gid]; exact Ne.symm a8) p4.now }
  generalize M4.close sp.toNat ws = M5 at *
  simp (maxSteps := 2000000) -implicitDefEqProofs (disch := (first | omega | rfl | assumption | (simp only [rsD]; first | omega | assumption))) only [hb6, Nat.reduceAdd, Nat.reduceMul, Nat.reduceLT, Int.reduceToNat, Int.reduceAdd, Int.reduceSub, Int.reduceMul, rsU, rsC]
  have hgen := hg e0 (List.mem_of_getElem? he0)
  refine Ok.step (pgive_ok p6 (f5.calm (by decide)) he ht0 (by omega) ⟨by have := f5.1; omega, by have := f5.2; omega⟩) fun r ⟨k1, M6, w6, p7, q7, k7⟩ => ?_
  obtain ⟨q, J7⟩ := r
  simp only at k1 p7 k7
  subst k1
  rw [<- gave_of he, <- gaves_snoc, <- htk] at p7
  have c7 : Beh Y M5 M6 3 0 0 := by
   have := Beh.wrt p6.mi.ok p7.mi.ok p6.now q7 (by decide) (by decide) (gid ▸ h.idY)
   have l1 := p6.p.len
   have l2 := p7.p.len
   obtain ⟨_, gw', gr', _⟩ := gaves_id (L.W.take (k + 1)) S
   rw [gr', gw'] at l2
   rw [gr, gw] at l1
   rw [l1, l2, Int.sub_self] at this
   exact this.as (by decide) rfl rfl
  have x7 := q7.oth p6.now
  rw [gid] at x7
  simp (maxSteps := 2000000) -implicitDefEqProofs (disch := (first | omega | rfl | assumption | (simp only [rsD]; first | omega | assumption))) only [Nat.reduceAdd, Nat.reduceMul, Nat.reduceLT, Int.reduceToNat, Int.reduceAdd, Int.reduceSub, Int.reduceMul, rsU, rsC]
  refine Ok_some.2 ⟨J7, M6, w6, ?_, p7, (k7.head.trans hb6).trans hb.symm, ?_, ?_, ?_⟩
  ·have hn : nid L.W k = (match L.W[k + 1]? with | some i => i + 1 | none => 0 : Nat) := rfl
   rw [hmk]
   simp only [<- hn, Int.natCast_add]
   rfl
  ·have hE : (S.gaves (L.W.take (k + 1))).E = (S.gaves (L.W.take k)).E.set i ⟨false, e0.gen + 1, e0.ws.set 0 (hd (S.gaves (L.W.take k)).free)⟩ := by rw [htk, gaves_snoc, gave_of he]
   refine s.o.gone hoik hvi (fun j => ?_) (fun j => ?_) (fun y v hy hy2 hv => x7 y v hy (x5 y v hy2 (x4 y v hy (x3 y v hy (x2 y v hy hv)))))
   ·rw [hE, v5_set (List.getElem?_eq_some_iff.1 he).1]
    by_cases hj : j = i
    ·subst hj; simp only [↓reduceIte]; rfl
    ·simp only [if_neg hj]
   ·rw [htk]
    by_cases hj : j = i
    ·subst hj; simp
    ·simp [hj]
  ·rw [hmk]
   exact (((((s.c.trans c2).trans c3).trans c4).trans c5).trans c7).as (by omega) (by omega) (by omega)
  ·exact (((((s.x.trans ⟨g2.next, fun b hb => g2.blk b (s.p.mi.lt b (by simp [hb]))⟩).trans k2.tail).trans k3.tail).trans k4.tail).trans k5.tail.tail).trans k7.tail
 ·rintro _ ⟨J1, M1, w1, rfl, s⟩
  rw [List.getElem?_eq_none (Nat.le_refl _)]
  simp (maxSteps := 2000000) -implicitDefEqProofs (disch := (first | omega | rfl | assumption | (simp only [rsD]; first | omega | assumption))) only [large_Large__Sweep_L1, Nat.reduceAdd, Nat.reduceMul, Nat.reduceLT, Int.reduceToNat, Int.reduceAdd, Int.reduceSub, Int.reduceMul, rsU, rsC]
  exact Ok_some.2 ⟨J1, M1, w1, rfl, s⟩
 ·refine ⟨J, M, w, ?_, ⟨?_, rfl, ?_, ?_, Keep.refl _ _⟩⟩
  ·have : (hdI L.W : Nat) = (match L.W[0]? with | some i => i + 1 | none => 0 : Nat) := by cases L.W <;> rfl
   rw [<- this]; rfl
  ·rw [List.take_zero]; exact h.p
  ·rw [List.take_zero]
   have : (fun j => if j ∈ ([] : List Nat) then none else L.ob j) = L.ob := by funext j; simp
   rw [this]; exact h.o
  ·rw [List.take_zero]; exact (Beh.refl Y M).as (by decide) rfl rfl
 ·rintro _ ⟨J1, M1, w1, rfl, s⟩
  have hb1 : J1.blk lb = _ := s.b.trans hb
  simp (maxSteps := 2000000) -implicitDefEqProofs (disch := (first | omega | rfl | assumption | (simp only [rsD]; first | omega | assumption))) only [hb1, Nat.reduceAdd, Nat.reduceMul, Nat.reduceLT, Int.reduceToNat, Int.reduceAdd, Int.reduceSub, Int.reduceMul, rsU, rsC]
  have sp := s.p
  have so := s.o
  have sc := s.c
  rw [List.take_length] at sp so sc
  obtain ⟨gid, gw, gr, gl⟩ := gaves_id L.W S
  refine Ok_some.2 ⟨rfl, M1, w1, ⟨sp.turn (L := [lb]) ⟨by simp, fun b hb hm => by simp at hm; simp -implicitDefEqProofs (disch := omega) only [s_bn, s_bs, s_kn, bump_blk]⟩ (fun b hb => by simp at hb; subst hb; exact .inl (by simp)) fun b hb => .inl hb, ⟨_, s_bs⟩, h.nx, gw.trans h.five, h.lH.other fun j hj => gaves_other _ S j (h.dis j hj), Linked.nil _ _ _, fun i _ hm => by simp at hm, fun j hj => ?_, ?_, h.ep, h.last, ?_⟩, sc, s.x.trans (Keep.put h.nx _)⟩
  ·simp only at hj
   by_cases hjW : j ∈ L.W
   ·rw [if_pos hjW] at hj; exact absurd rfl hj
   ·rw [if_neg hjW] at hj
    exact .inl ((h.all j hj).resolve_right hjW)
  ·rw [gid]; exact so
  ·have e1 := len_congr (L := L) (L' := { L with W := [], words := L.words - ((L.W.map L.len).sum : Nat), ob := fun j => if j ∈ L.W then none else L.ob j }) (l := L.H) (fun j hj => if_neg (h.dis j hj))
   simp only [List.append_nil]
   omega
end
end Go.Abs.Try
namespace Go.Abs.Try
open Go Go.Abs
variable {O : Type}
theorem awake15 : ∃ J : AH O, law15_awake (O := O) [] startH = some (.b true, J) := by
 have h : (law15_awake (O := O) [] startH).map (fun r => r.1) = some (.b true) := by kernel_rfl
 obtain ⟨⟨q, J⟩, e, h⟩ := Option.map_eq_some_iff.1 h
 simp only at h
 subst h
 exact ⟨J, e⟩
theorem grow1 {J : AH O} {el : TypeId} {a : SA} {n : Nat} {cs : List AV} {v : AV} (ho : OwnS J el 1 a n cs) :
  Ok (((J.bump 2).put J.next (.cells true el [v])).appSl (J.next + 1) el 1 a n 1 [v]) fun r => ∃ a', r.1 = .sl a' (n + 1) /\ OwnS r.2 el 1 a' (n + 1) (cs ++ [v]) /\ Chg (SA.bk a) J r.2 /\ ∀ b ∈ SA.bk a', J.next <= b /\ b < r.2.next := by
 have hlt := ho.lt
 generalize hJ : (J.bump 2).put J.next (.cells true el [v]) = J1
 have n1 : J1.next = J.next + 2 := by rw [<- hJ]; rfl
 have b1 : ∀ b, b < J.next -> J1.blk b = J.blk b := fun b hb => by rw [<- hJ, s_bn (by omega)]; rfl
 clear hJ
 have ho1 : OwnS J1 el 1 a n cs := ho.of (by omega) fun b hb => b1 b (hlt b hb)
 refine (app_ok (nid := J.next + 1) ho1 (fun hm => by have := hlt _ hm; omega) (by omega) (show ([v] : List AV).length = 1 * 1 from rfl)).mono fun r ⟨a', g1, g2, g3, g4, g5⟩ => ⟨a', g1, g2, ⟨by omega, fun b hb hm => (g4 b (by omega) hm).trans (b1 b hb)⟩, fun b hb => by have := g5 b hb; omega⟩
theorem same_cells {J : AH O} {a b : SA} {l : List Int} (ha : Rd J 1 a l.length (l.map (AV.i .i64))) (hb : Rd J 1 b l.length (l.map (AV.i .i64))) (hn : l.length <= 1000000) : Ok (haymowref02_Same [.sl a l.length, .sl b l.length] J) fun r => r = (.b true, J) := by
 have q0 : ((l.length : Int) != (l.length : Int)) = false := by simp
 simp (maxSteps := 2000000) -implicitDefEqProofs (disch := (first | omega | rfl | assumption | (simp only [rsD]; first | omega | assumption))) only [haymowref02_Same, haymowref02_Same_c, q0, Nat.reduceAdd, Nat.reduceMul, Nat.reduceLT, Int.reduceToNat, Int.reduceAdd, Int.reduceSub, Int.reduceMul, rsU, rsC]
 refine Ok.bindS (Q := fun r => r = .inl ([], J)) ?_ ?_ (fun r h => by cases h)
 ·refine Ok.count l.length (fun k s => s = ([.i .i64 (k : Int)], J)) ?_ ?_ rfl
  ·rintro k s hk rfl
   have hv := List.getElem?_eq_getElem hk
   have hc : (l.map (AV.i .i64))[k]? = some (.i .i64 l[k]) := by rw [List.getElem?_map, hv]; rfl
   obtain ⟨b1, o1, e1, l1⟩ := ha.at1 hc
   obtain ⟨b2, o2, e2, l2⟩ := hb.at1 hc
   have r1 : SA.ref a = some (b1, o1) := by rw [e1]; rfl
   have r2 : SA.ref b = some (b2, o2) := by rw [e2]; rfl
   simp only [Nat.mul_one] at l1 l2
   have q1 : (l[k] != l[k]) = false := by simp
   simp (maxSteps := 2000000) -implicitDefEqProofs (disch := (first | omega | rfl | assumption | (simp only [rsD]; first | omega | assumption))) only [haymowref02_Same_L1, r1, r2, l1, l2, q1, Nat.reduceAdd, Nat.reduceMul, Nat.reduceLT, Int.reduceToNat, Int.reduceAdd, Int.reduceSub, Int.reduceMul, rsU, rsC]
   exact Ok_some.2 (by simp)
  ·rintro s rfl
   simp (maxSteps := 2000000) -implicitDefEqProofs (disch := (first | omega | rfl | assumption | (simp only [rsD]; first | omega | assumption))) only [haymowref02_Same_L1, Nat.reduceAdd, Nat.reduceMul, Nat.reduceLT, Int.reduceToNat, Int.reduceAdd, Int.reduceSub, Int.reduceMul, rsU, rsC]
   exact Ok_some.2 rfl
 ·rintro _ h
  cases h
  exact Ok_some.2 rfl
section
variable {J : AH O} {lb pb mb : Nat} {M : MemS} {S : PoolS} {w : List Int} {L : LarS} {X : List Nat} {Y : List Int} (h : LarAt J lb pb mb M S w L X Y) (hf : M.far 1000)
include h hf
end
def MemS.few (M : MemS) (k c : Int) : Prop := M.met.r + M.met.w <= k /\ M.count <= c
theorem Beh.few {Y : List Int} {M M' : MemS} {d a n k c : Int} (h : Beh Y M M' d a n) (g : M.few k c) : M'.few (k + d) (c + n) := ⟨by have := h.k; have := g.1; omega, by have := h.count; have := g.2; omega⟩
theorem MemS.few.le {M : MemS} {k c k' c' : Int} (h : M.few k c) (h1 : k <= k') (h2 : c <= c') : M.few k' c' := ⟨by have := h.1; omega, by have := h.2; omega⟩
theorem MemS.few.far {M : MemS} {k c d : Int} (h : M.few k c) (hok : M.ok) (hk : k + d < 85070591730234615865843651857942052864) : M.far d := by
 have h1 := hok.met.r
 have h2 := hok.met.w
 have := h.1
 exact ⟨by omega, by omega⟩
theorem made15 {J : AH O} : Ok (law15_made [] J) fun r => ∃ mb lb pb M, r.1 = .tup [.p (some (.n mb, 0)), .p (some (.n lb, 0)), .b true] /\ LarAt r.2 lb pb mb M ⟨0, 5, 0, [], [], 0⟩ [] ⟨[], [], 0, 0, 0, fun _ => none⟩ [] [] /\ M.few 0 1 /\ M.met.held = 0 := by
 simp (maxSteps := 2000000) -implicitDefEqProofs (disch := (first | omega | rfl | assumption | (simp only [rsD]; first | omega | assumption))) only [law15_made, law15_made_c, Nat.reduceAdd, Nat.reduceMul, Nat.reduceLT, Int.reduceToNat, Int.reduceAdd, Int.reduceSub, Int.reduceMul, rsU, rsC]
 refine Ok.step (newX (X := []) (by simp)) fun r ⟨g1, g2, g3⟩ => ?_
 obtain ⟨q, J1⟩ := r
 simp only at g1 g2
 subst g1
 simp (maxSteps := 2000000) -implicitDefEqProofs (disch := (first | omega | rfl | assumption | (simp only [rsD]; first | omega | assumption))) only [Nat.reduceAdd, Nat.reduceMul, Nat.reduceLT, Int.reduceToNat, Int.reduceAdd, Int.reduceSub, Int.reduceMul, rsU, rsC]
 refine Ok.step (lnew_ok (Y := []) g2 ⟨by decide, by decide⟩ (by decide) (by simp)) fun r ⟨lb, pb, M', S, k1, k2, k3, k4, k5, k6⟩ => ?_
 obtain ⟨q, J2⟩ := r
 simp only at k1 k2
 subst k1
 have e0 : ((0 : Int) == 0) = true := rfl
 simp (maxSteps := 2000000) -implicitDefEqProofs (disch := (first | omega | rfl | assumption | (simp only [rsD]; first | omega | assumption))) only [e0, Nat.reduceAdd, Nat.reduceMul, Nat.reduceLT, Int.reduceToNat, Int.reduceAdd, Int.reduceSub, Int.reduceMul, rsU, rsC]
 have hff : ff MemS.new.sp = 0 := rfl
 rw [hff] at k3
 subst k3
 refine Ok_some.2 ⟨J.next, lb, pb, M', rfl, k2, ?_, ?_⟩
 ·have := k5.few (k := 0) (c := 0) ⟨by decide, by decide⟩
  exact this.le (by decide) (by decide)
 ·have := k5.held
  simp [MemS.new, Met.zero] at this
  exact this
structure Addd (S : PoolS) (L : LarS) (k : Nat) : Prop where
 free : S.free = []
 len : S.E.length = k
 room : S.room <= 80
 H : L.H = List.range k
 W : L.W = []
 last : L.last = 0
 ep : L.ep = 0
 gen : ∀ e ∈ S.E, e.gen = 0
theorem Addd.more {S : PoolS} {L : LarS} {k : Nat} (h : Addd S L k) (hk : k <= 40) : S.more <= 80 := by
 have := h.len
 have := h.room
 unfold PoolS.more; split <;> omega
theorem Addd.took {S S' : PoolS} {L : LarS} {k : Nat} {n : Int} {v : List Int} (h : Addd S L k) (hk : k <= 40) (ha : Alike S.took.2 S') : S.took.1 = k /\ Addd S' { L with H := L.H ++ [S.took.1], words := L.words + n, ob := fun j => if j = S.took.1 then some v else L.ob j } (k + 1) := by
 have e0 : S.took = (S.E.length, { S with room := S.more, E := S.E ++ [PE.fresh S.words], taken := S.taken + 1 }) := by unfold PoolS.took; rw [h.free]
 have hm := h.more hk
 rw [e0] at ha ⊢
 refine ⟨h.len, ?_⟩
 refine ⟨ha.free.trans h.free, ?_, by rw [ha.room]; exact hm, by simp only; rw [h.H, h.len, List.range_succ], h.W, h.last, h.ep, fun e he => ?_⟩
 ·rw [ha.len]; simp [h.len]
 ·obtain ⟨i, hi⟩ := List.getElem?_of_mem he
  obtain ⟨e1, h1, _, h3⟩ := ha.back hi
  rw [h3]
  have h1 : (S.E ++ [PE.fresh S.words])[i]? = some e1 := h1
  have := List.mem_of_getElem? h1
  rcases List.mem_append.1 this with g | g
  ·exact h.gen _ g
  ·simp at g; subst g; rfl
def nums (C : List Nat) : List Int := C.map fun (i : Nat) => (i : Int) + 1
theorem nums_len (C : List Nat) : (nums C).length = C.length := by simp [nums]
theorem nums_snoc (C : List Nat) (i : Nat) : (nums (C ++ [i])).map (AV.i .i64) = (nums C).map (AV.i .i64) ++ [.i .i64 ((i : Int) + 1)] := by simp [nums]
theorem pid_append {H : List Nat} {i t : Nat} (ht : t <= H.length) : pid (H ++ [i]) t = pid H t := by
 cases t with
 | zero => rfl
 | succ t =>
  show (match (H ++ [i])[t]? with | some i => i + 1 | none => 0) = (match H[t]? with | some i => i + 1 | none => 0)
  rw [List.getElem?_append_left (by omega)]
end Go.Abs.Try
set_option maxHeartbeats 2000000
namespace Go.Abs.Try
open Go Go.Abs
variable {O : Type}
def toldEnv (x0 x1 ob : Nat) : List (Nat × AV) := [(2, .p (some (.n x0, 0))), (3, .p (some (.n x1, 0))), (5, .p (some (.n ob, 0)))]
structure Tl (J : AH O) (lb pb mb : Nat) (M : MemS) (S : PoolS) (w : List Int) (L : LarS) (X : List Nat) (Y : List Int) (x0 x1 ob b1 : Nat) (a : SA) (l : List Nat) : Prop where
 p : LarAt J lb pb mb M S w L (ob :: b1 :: (SA.bk a ++ X)) Y
 o : J.blk ob = some (.cells true 29 [.sl a l.length])
 own : OwnS J 3 1 a l.length ((nums l).map (AV.i .i64))
 l1 : J.blk b1 = some (.loop 35000 (toldEnv x0 x1 ob) .ready)
 n1 : ob ≠ b1
 n2 : ob ∉ SA.bk a /\ b1 ∉ SA.bk a
 n3 : ob ∉ X /\ b1 ∉ X
 n4 : ∀ b ∈ SA.bk a, b ∉ X
theorem told_round {J : AH O} {lb pb mb : Nat} {M : MemS} {S : PoolS} {w : List Int} {L : LarS} {X : List Nat} {Y : List Int} {x0 x1 ob b1 : Nat} {a : SA} {l : List Nat} (h : Tl J lb pb mb M S w L X Y x0 x1 ob b1 a l) (hl : l.length <= 200) {i : Nat} :
  Ok (law15_told_R0 [.p (some (.n b1, 0)), .i .i64 ((i : Int) + 1)] J) fun r => r.1 = .b true /\ ∃ a', Tl r.2 lb pb mb M S w L X Y x0 x1 ob b1 a' (l ++ [i]) /\ Keep X J r.2 := by
 have hbl := h.l1
 have hbo := h.o
 simp only [toldEnv] at hbl
 have hgl := h.n1
 have hgl2 : b1 ≠ ob := fun e => hgl e.symm
 have q32 : Nat.beq 3 2 = false := rfl
 have q52 : Nat.beq 5 2 = false := rfl
 have q53 : Nat.beq 5 3 = false := rfl
 have hltl : b1 < J.next := h.p.lX _ (by simp)
 have hlto : ob < J.next := h.p.lX _ (by simp)
 simp (maxSteps := 2000000) -implicitDefEqProofs (disch := (first | omega | rfl | assumption | (simp only [rsD]; first | omega | assumption))) only [law15_told_R0, law15_told_R0_c, roundW, busyL, hbl, envOf, hbo, q32, q52, q53, Nat.reduceAdd, Nat.reduceMul, Nat.reduceLT, Int.reduceToNat, Int.reduceAdd, Int.reduceSub, Int.reduceMul, rsU, rsC]
 generalize hJ : ((J.put b1 _).bump 2).put J.next (.cells true _ _) = J3
 have n3 : J3.next = J.next + 2 := by rw [<- hJ]; rfl
 have l3 : J3.blk b1 = some (.loop 35000 (toldEnv x0 x1 ob) .busy) := by rw [<- hJ, s_bn (by omega)]; exact s_bs
 have o3 : ∀ b, b ≠ b1 -> b ≠ J.next -> J3.blk b = J.blk b := fun b hb hb2 => by rw [<- hJ, s_bn hb2]; exact s_bn hb
 clear hJ
 have og3 : OwnS J3 3 1 a l.length ((nums l).map (AV.i .i64)) := h.own.of (by omega) fun b hb => o3 b (fun e => h.n2.2 (e ▸ hb)) (by have := h.own.lt b hb; omega)
 refine Ok.step (app_ok (nid := J.next + 1) og3 (fun hm => by have := h.own.lt _ hm; omega) (by omega) (show ([.i .i64 ((i : Int) + 1)] : List AV).length = 1 * 1 from rfl)) fun q ⟨a2, m1, m2, m3, m4, m5⟩ => ?_
 obtain ⟨q, J4⟩ := q
 simp only at m1 m2 m3 m4
 subst m1
 have g4 : J4.blk ob = some (.cells true 29 [.sl a l.length]) := by rw [m4 ob (by omega) h.n2.1, o3 ob hgl (by omega)]; exact hbo
 have l4 : J4.blk b1 = _ := (m4 b1 (by omega) h.n2.2).trans l3
 simp (maxSteps := 2000000) -implicitDefEqProofs (disch := (first | omega | rfl | assumption | (simp only [rsD]; first | omega | assumption))) only [g4, l4, markL, hgl2, Nat.reduceAdd, Nat.reduceMul, Nat.reduceLT, Int.reduceToNat, Int.reduceAdd, Int.reduceSub, Int.reduceMul, rsU, rsC]
 generalize hJ : (J4.put ob _).put b1 _ = J5
 have n5 : J5.next = J4.next := by rw [<- hJ]; rfl
 have l5 : J5.blk b1 = some (.loop 35000 (toldEnv x0 x1 ob) .ready) := by rw [<- hJ]; exact s_bs
 have g5 : J5.blk ob = some (.cells true 29 [.sl a2 (l.length + 1)]) := by rw [<- hJ, s_bn hgl]; exact s_bs
 have o5 : ∀ b, b ≠ b1 -> b ≠ ob -> J5.blk b = J4.blk b := fun b hb hb2 => by rw [<- hJ, s_bn hb]; exact s_bn hb2
 clear hJ
 have oa : ∀ b, b < J.next -> b ≠ b1 -> b ≠ ob -> b ∉ SA.bk a -> J5.blk b = J.blk b := fun b hb h1 h2 h3 => by rw [o5 b h1 h2, m4 b (by omega) h3, o3 b h1 (by omega)]
 have chg : Chg (b1 :: ob :: SA.bk a) J J5 := ⟨by omega, fun b hb hm => by
  simp only [List.mem_cons, not_or] at hm
  exact oa b hb hm.1 hm.2.1 hm.2.2⟩
 have hX : ∀ b ∈ X, b < J.next := fun b hb => h.p.lX _ (by simp [hb])
 have p5 := h.p.turn (Z := ob :: b1 :: (SA.bk a2 ++ X)) chg (fun b hb => .inl (by
  simp only [List.mem_cons] at hb
  rcases hb with rfl | rfl | hb
  ·simp
  ·simp
  ·simp [hb])) fun b hb => by
  simp only [List.mem_cons, List.mem_append] at hb
  rcases hb with rfl | rfl | hb | hb
  ·exact .inl (by simp)
  ·exact .inl (by simp)
  ·have := m5 b hb; exact .inr (by omega)
  ·exact .inl (by simp [hb])
 refine Ok_some.2 ⟨rfl, a2, ⟨p5, ?_, ?_, l5, hgl, ⟨fun hm => ?_, fun hm => ?_⟩, h.n3, fun b hb hm => ?_⟩, ⟨(by show J.next <= J5.next; omega), fun b hb => oa b (hX b hb) (fun e => h.n3.2 (e ▸ hb)) (fun e => h.n3.1 (e ▸ hb)) (fun hm => h.n4 b hm hb)⟩⟩
 ·simp only [List.length_append, List.length_cons, List.length_nil]; exact g5
 ·simp only [List.length_append, List.length_cons, List.length_nil, nums_snoc]
  exact m2.of (show J4.next <= J5.next by omega) fun b hb => by have := m5 b hb; exact o5 b (by omega) (by omega)
 ·have := m5 _ hm; omega
 ·have := m5 _ hm; omega
 ·have := m5 _ hb; have := hX b hm; omega
theorem Tl.turn {J J' : AH O} {lb pb mb : Nat} {M M' : MemS} {S : PoolS} {w : List Int} {L : LarS} {X Z : List Nat} {Y : List Int} {x0 x1 ob b1 : Nat} {a : SA} {l : List Nat} (h : Tl J lb pb mb M S w L X Y x0 x1 ob b1 a l)
  (hp : LarAt J' lb pb mb M' S w L (ob :: b1 :: (SA.bk a ++ Z)) Y) (hk : Keep (ob :: b1 :: SA.bk a) J J') (hz : ∀ b ∈ Z, b ∈ X ∨ J.next <= b) : Tl J' lb pb mb M' S w L Z Y x0 x1 ob b1 a l := by
 have key : ∀ b, b < J.next -> b ∉ X -> b ∉ Z := fun b hb hx hm => by
  rcases hz b hm with g | g
  ·exact hx g
  ·omega
 exact ⟨hp, (hk.blk _ (by simp)).trans h.o, h.own.of hk.next fun b hb => hk.blk b (by simp [hb]), (hk.blk _ (by simp)).trans h.l1, h.n1, h.n2, ⟨key _ (h.p.lX _ (by simp)) h.n3.1, key _ (h.p.lX _ (by simp)) h.n3.2⟩, fun b hb => key b (h.own.lt b hb) (h.n4 b hb)⟩
theorem Tl.chg {J J' : AH O} {lb pb mb : Nat} {M : MemS} {S : PoolS} {w : List Int} {L : LarS} {X Z K : List Nat} {Y : List Int} {x0 x1 ob b1 : Nat} {a : SA} {l : List Nat} (h : Tl J lb pb mb M S w L X Y x0 x1 ob b1 a l)
  (hc : Chg K J J') (hK : ∀ b ∈ K, b ∈ X ∨ J.next <= b) (hz : ∀ b ∈ Z, b ∈ X ∨ (J.next <= b /\ b < J'.next)) : Tl J' lb pb mb M S w L Z Y x0 x1 ob b1 a l := by
 have hK2 : ∀ b, b < J.next -> b ∉ X -> b ∉ K := fun b hb hx hm => by
  rcases hK b hm with g | g
  ·exact hx g
  ·omega
 refine h.turn (h.p.turn hc (fun b hb => ?_) fun b hb => ?_) ⟨hc.next, fun b hb => ?_⟩ fun b hb => ?_
 ·rcases hK b hb with g | g
  ·exact .inl (by simp [g])
  ·exact .inr g
 ·simp only [List.mem_cons, List.mem_append] at hb
  rcases hb with rfl | rfl | hb | hb
  ·exact .inl (by simp)
  ·exact .inl (by simp)
  ·exact .inl (by simp [hb])
  ·rcases hz b hb with g | g
   ·exact .inl (by simp [g])
   ·exact .inr g
 ·simp only [List.mem_cons] at hb
  rcases hb with rfl | rfl | hb
  ·exact hc.blk _ (h.p.lX _ (by simp)) (hK2 _ (h.p.lX _ (by simp)) h.n3.1)
  ·exact hc.blk _ (h.p.lX _ (by simp)) (hK2 _ (h.p.lX _ (by simp)) h.n3.2)
  ·exact hc.blk _ (h.own.lt b hb) (hK2 _ (h.own.lt b hb) (h.n4 b hb))
 ·rcases hz b hb with g | g
  ·exact .inl g
  ·exact .inr g.1
theorem all_round {J : AH O} {lb pb mb : Nat} {M : MemS} {S : PoolS} {w : List Int} {L : LarS} {X : List Nat} {Y : List Int} {x0 x1 ob b1 : Nat} {a : SA} {l : List Nat} (h : Tl J lb pb mb M S w L X Y x0 x1 ob b1 a l) (hl : l.length <= 200) {i fb b2 : Nat} (hfX : fb ∈ X) (h2X : b2 ∈ X) (hne : fb ≠ b2)
  (hfb : J.blk fb = some (.cells true 217 [.fn (some (.yield b1, [], []))])) (hb2 : J.blk b2 = some (.loop 144000 [(2, .p (some (.n fb, 0)))] .ready)) :
  Ok (large_Large__All_1_R0 law15_told_R0 [.p (some (.n b2, 0)), .i .i64 ((i : Int) + 1)] J) fun r => r.1 = .b true /\ ∃ a', Tl r.2 lb pb mb M S w L X Y x0 x1 ob b1 a' (l ++ [i]) /\ Keep X J r.2 := by
 have hlt : b2 < J.next := h.p.lX _ (by simp [h2X])
 have hq : Nat.beq 144000 144000 = true := rfl
 simp (maxSteps := 2000000) -implicitDefEqProofs (disch := (first | omega | rfl | assumption | (simp only [rsD]; first | omega | assumption))) only [large_Large__All_1_R0, large_Large__All_1_R0_c, roundW, busyL, hb2, envOf, hfb, s_callY, getG, Nat.reduceAdd, Nat.reduceMul, Nat.reduceLT, Int.reduceToNat, Int.reduceAdd, Int.reduceSub, Int.reduceMul, rsU, rsC]
 generalize hJ : J.put b2 _ = J1
 have n1 : J1.next = J.next := by rw [<- hJ]; rfl
 have bb1 : J1.blk b2 = some (.loop 144000 [(2, .p (some (.n fb, 0)))] .busy) := by rw [<- hJ]; exact s_bs
 have o1 : ∀ b, b ≠ b2 -> J1.blk b = J.blk b := fun b hb => by rw [<- hJ]; exact s_bn hb
 clear hJ
 have h1 := h.chg (Z := X) (K := [b2]) (J' := J1) ⟨by omega, fun b hb hm => o1 b (by simpa using hm)⟩ (fun b hb => .inl (by simp at hb; rw [hb]; exact h2X)) fun b hb => .inl hb
 refine Ok.step (told_round h1 hl) fun r ⟨g1, a', g2, g3⟩ => ?_
 obtain ⟨q, J2⟩ := r
 simp only at g1 g2 g3
 subst g1
 have bb2 : J2.blk b2 = _ := (g3.blk _ h2X).trans bb1
 simp (maxSteps := 2000000) -implicitDefEqProofs (disch := (first | omega | rfl | assumption | (simp only [rsD]; first | omega | assumption))) only [bb2, markL, Nat.reduceAdd, Nat.reduceMul, Nat.reduceLT, Int.reduceToNat, Int.reduceAdd, Int.reduceSub, Int.reduceMul, rsU, rsC]
 refine Ok_some.2 ⟨rfl, a', g2.chg (Z := X) (K := [b2]) ⟨by simp, fun b hb hm => by simp at hm; simp -implicitDefEqProofs (disch := omega) only [s_bn, s_bs, s_kn, bump_blk]⟩ (fun b hb => .inl (by simp at hb; rw [hb]; exact h2X)) (fun b hb => .inl hb), ⟨by have := g3.next; simp only [put_next]; omega, fun b hb => ?_⟩⟩
 by_cases hbb : b = b2
 ·subst hbb; rw [s_bs, hb2]
 ·rw [s_bn hbb, g3.blk b hb, o1 b hbb]
theorem chain_told {J : AH O} {lb pb mb : Nat} {M : MemS} {S : PoolS} {w : List Int} {L : LarS} {X : List Nat} {Y : List Int} {x0 x1 ob b1 : Nat} {a : SA} {l : List Nat} (h : Tl J lb pb mb M S w L X Y x0 x1 ob b1 a l) (hf : M.far 1000) {C : List Nat} (hL : Linked S.E 2 3 C) (hl : l.length + C.length <= 201) {fb b2 tb cb : Nat}
  (hfX : fb ∈ X) (h2X : b2 ∈ X) (htX : tb ∈ X) (hne : fb ≠ b2) (hfb : J.blk fb = some (.cells true 217 [.fn (some (.yield b1, [], []))])) (hb2 : J.blk b2 = some (.loop 144000 [(2, .p (some (.n fb, 0)))] .ready))
  {el el' : TypeId} (htb : J.blk tb = some (.cells true el (tblc S mb 2 3))) (hcb : J.blk cb = some (.cells true el' (chnc C))) :
  Ok (chain_Table__All_1 (large_Large__All_1_R0 law15_told_R0) [.fn (some (.yield b2, [], [])), .p (some (.n cb, 0)), .p (some (.n tb, 0))] J) fun r => r.1 = .tup [] /\ ∃ M' a', Tl r.2 lb pb mb M' S w L X Y x0 x1 ob b1 a' (l ++ C) /\ Beh Y M M' C.length 0 0 /\ Keep X J r.2 := by
 have five := h.p.five
 have := tallr_ok (ky := large_Large__All_1_R0 law15_told_R0) (b := b2) (pb := pb) (mb := mb) (nx := 2) (pv := 3) (S := S) (w := w) (C := C) (cb := cb) (tb := tb) (fun k J' M' => ∃ a', Tl J' lb pb mb M' S w L X Y x0 x1 ob b1 a' (l ++ C.take k) /\ Beh Y M M' k 0 0 /\ Keep X J J') (by omega) (by omega) (by decide) hL (by omega)
  (fun k i J1 M1 hk ⟨a1, t1, c1, k1⟩ => by
   have hkC := (List.getElem?_eq_some_iff.1 hk).1
   refine (all_round t1 (by simp only [List.length_append, List.length_take]; omega) hfX h2X hne ((k1.blk _ hfX).trans hfb) ((k1.blk _ h2X).trans hb2)).mono fun r ⟨g1, a2, t2, k2⟩ => ⟨g1, M1, _, t2.p.p, (c1.far (d := 0) (hf.less (by omega))).calm (by decide), ⟨_, ((k1.trans k2).blk _ htX).trans htb⟩, fun J' M'' p q kp => ⟨a2, ?_, ?_, (k1.trans k2).trans (kp.mono fun b hb => by simp [hb])⟩⟩
   ·have et : C.take (k + 1) = C.take k ++ [i] := by
     rw [List.take_succ_eq_append_getElem hkC]
     rw [List.getElem?_eq_getElem hkC] at hk
     cases hk; rfl
    rw [et, <- List.append_assoc]
    exact t2.turn (t2.p.read p kp q) (kp.mono fun b hb => by
     simp only [List.mem_cons] at hb
     rcases hb with rfl | rfl | hb
     ·simp
     ·simp
     ·simp [hb]) fun b hb => .inl hb
   ·exact (c1.trans (t2.p.beh q p.mi.ok (by decide) (by decide) rfl)).as (by push_cast; omega) rfl rfl)
  h.p.p hcb ⟨a, by simpa using h, (Beh.refl Y M).as (by omega) rfl rfl, Keep.refl _ _⟩ (x := []) (y := [])
 refine this.mono fun r ⟨g1, M', a', t, c, k⟩ => ⟨g1, M', a', by rw [List.take_length] at t; exact t, c, k⟩
end Go.Abs.Try
namespace Go.Abs.Try
open Go Go.Abs
variable {O : Type}
theorem all_step {J : AH O} {lb pb mb : Nat} {M : MemS} {S : PoolS} {w : List Int} {L : LarS} {X : List Nat} {Y : List Int} {x0 x1 ob b1 : Nat} {a : SA} {l : List Nat} (t : Tl J lb pb mb M S w L X Y x0 x1 ob b1 a l) (hf : M.far 1000) {C : List Nat} (hL : Linked S.E 2 3 C) (hl : l.length + C.length <= 201)
  {fb cap arr : Nat} (hfX : fb ∈ X) (hcX : cap ∈ X) (haX : arr ∈ X) (hfb : J.blk fb = some (.cells true 217 [.fn (some (.yield b1, [], []))])) {elc : TypeId} (hcap : J.blk cap = some (.cells true elc [.p (some (.n lb, 0))]))
  {ela : TypeId} {cs : List AV} (harr : J.blk arr = some (.cells true ela cs)) {k : Int} (k0 : 0 <= k) (k2 : k < 2) (g0 : cs[k.toNat * 3]? = some (.i .i64 (hdI C : Int))) (g1 : cs[k.toNat * 3 + 1]? = some (.i .i64 (tlI C : Int))) (g2 : cs[k.toNat * 3 + 1 + 1]? = some (.i .i64 (C.length : Int)))
  {J2 J0 : AH O} (h2 : J2.next = arr) (h0 : J0.next = fb) {f : AV} :
  Ok (large_Large__All_1_L1 J2 [f, .p (some (.n cap, 0))] large_Large__table chain_Table__All (chain_Table__All_1 (large_Large__All_1_R0 law15_told_R0)) law15_told_R0 J0 ([.i .i64 k], J)) fun r => ∃ J' M' a', r = .inl ([.i .i64 (k + 1)], J') /\ Tl J' lb pb mb M' S w L X Y x0 x1 ob b1 a' (l ++ C) /\ Beh Y M M' C.length 0 0 /\ Keep X J J' := by
 have hltX : ∀ b ∈ X, b < J.next := fun b hb => t.p.lX _ (by simp [hb])
 have lf := hltX _ hfX
 have lc := hltX _ hcX
 have la := hltX _ haX
 simp (maxSteps := 2000000) -implicitDefEqProofs (disch := (first | omega | rfl | assumption | (simp only [rsD]; first | omega | assumption))) only [large_Large__All_1_L1, h2, h0, harr, hcap, g0, g1, g2, Nat.reduceAdd, Nat.reduceMul, Nat.reduceLT, Int.reduceToNat, Int.reduceAdd, Int.reduceSub, Int.reduceMul, rsU, rsC]
 generalize hJ : (J.bump 1).put J.next (.cells true _ _) = J3
 obtain ⟨E3, c3, n3⟩ := boxed hJ
 clear hJ
 have t3 := t.chg (Z := X) (K := []) E3.chg (by simp) fun b hb => .inl hb
 refine Ok.step (ltable_ok t3.p) fun r ⟨s1, E4⟩ => ?_
 obtain ⟨q, J4⟩ := r
 simp only [tbl] at s1 E4
 subst s1
 have c4 : J4.blk J.next = _ := (E4.blk _ (by omega)).trans c3
 have n4 := E4.next
 have ta := tall_ok (J := J4) (S := S) (mb := mb) (nx := 2) (pv := 3) (C := C)
 simp only [tbl, chn] at ta
 simp (maxSteps := 2000000) -implicitDefEqProofs (disch := (first | omega | rfl | assumption | (simp only [rsD]; first | omega | assumption))) only [c4, ta, s_rangeV, getG, s_nf, Nat.reduceAdd, Nat.reduceMul, Nat.reduceLT, Int.reduceToNat, Int.reduceAdd, Int.reduceSub, Int.reduceMul, rsU, rsC]
 generalize hJ : ((((J4.bump 2).put J4.next (.cells true _ _)).put (J4.next + 1) (.cells true _ _)).bump 1).put (J4.next + 2) (.loop _ _ _) = J5
 have n5 : J5.next = J4.next + 3 := by rw [<- hJ]; rfl
 have o5 : ∀ b, b < J4.next -> J5.blk b = J4.blk b := fun b hb => by rw [<- hJ]; simp -implicitDefEqProofs (disch := omega) only [s_bn, s_bs, s_kn, bump_blk]
 have bt5 : J5.blk J4.next = some (.cells true T_chain_Table (tblc S mb 2 3)) := by rw [<- hJ]; simp -implicitDefEqProofs (disch := omega) only [s_bn, s_bs, s_kn, bump_blk]
 have bc5 : J5.blk (J4.next + 1) = some (.cells true T_chain_Chain (chnc C)) := by rw [<- hJ]; simp -implicitDefEqProofs (disch := omega) only [s_bn, s_bs, s_kn, bump_blk]
 have bl5 : J5.blk (J4.next + 2) = some (.loop 144000 [(2, .p (some (.n fb, 0)))] .ready) := by rw [<- hJ]; exact s_bs
 clear hJ
 have E5 : Ext J4 J5 := ext_of (by omega) o5
 have E35 := (E3.trans E4).trans E5
 have t5 := t.chg (Z := (J4.next + 2) :: J4.next :: X) (K := []) (J' := J5) E35.chg (by simp) fun b hb => by
  simp only [List.mem_cons] at hb
  rcases hb with rfl | rfl | hb
  ·exact .inr (by omega)
  ·exact .inr (by omega)
  ·exact .inl hb
 refine Ok.step (chain_told t5 hf hL hl (fb := fb) (b2 := J4.next + 2) (tb := J4.next) (cb := J4.next + 1) (by simp [hfX]) (by simp) (by simp) (by omega) ((E35.blk _ lf).trans hfb) bl5 bt5 bc5) fun r ⟨u1, M6, a6, u2, u3, u4⟩ => ?_
 obtain ⟨q, J6⟩ := r
 simp only at u1 u2 u4
 subst u1
 have bl6 : J6.blk (J4.next + 2) = _ := (u4.blk _ (by simp)).trans bl5
 have n6 := u4.next
 simp (maxSteps := 2000000) -implicitDefEqProofs (disch := (first | omega | rfl | assumption | (simp only [rsD]; first | omega | assumption))) only [lstN, bl6, LSt.code, Nat.reduceAdd, Nat.reduceMul, Nat.reduceLT, Int.reduceToNat, Int.reduceAdd, Int.reduceSub, Int.reduceMul, rsU, rsC]
 refine Ok_some.2 ⟨_, M6, a6, rfl, u2.chg (Z := X) (K := [J4.next + 2]) ⟨Nat.le_refl _, fun b hb hm => s_kn (by simpa using hm)⟩ (fun b hb => .inl (by simp at hb; simp [hb])) (fun b hb => .inl (by simp [hb])), u3, ⟨by simp only [kill_next]; omega, fun b hb => ?_⟩⟩
 have := hltX b hb
 rw [s_kn (by omega), u4.blk b (by simp [hb]), E35.blk b this]
theorem all1_ok {J : AH O} {lb pb mb : Nat} {M : MemS} {S : PoolS} {w : List Int} {L : LarS} {X : List Nat} {Y : List Int} {x0 x1 ob b1 : Nat} {a : SA} {l : List Nat} (t : Tl J lb pb mb M S w L X Y x0 x1 ob b1 a l) (hf : M.far 2000) (hl : l.length + L.H.length + L.W.length <= 201)
  {cap : Nat} (hcX : cap ∈ X) {elc : TypeId} (hcap : J.blk cap = some (.cells true elc [.p (some (.n lb, 0))])) :
  Ok (large_Large__All_1 law15_told_R0 [.fn (some (.yield b1, [], [])), .p (some (.n cap, 0))] J) fun r => r.1 = .tup [] /\ ∃ M' a', Tl r.2 lb pb mb M' S w L X Y x0 x1 ob b1 a' (l ++ (L.H ++ L.W)) /\ Beh Y M M' (L.H.length + L.W.length) 0 0 /\ Keep X J r.2 := by
 obtain ⟨el, hb⟩ := t.p.b
 simp only [LarS.cells] at hb
 have hlt := t.p.lt
 have hltX : ∀ b ∈ X, b < J.next := fun b hb => t.p.lX _ (by simp [hb])
 have lc := hltX _ hcX
 simp (maxSteps := 2000000) -implicitDefEqProofs (disch := (first | omega | rfl | assumption | (simp only [rsD]; first | omega | assumption))) only [large_Large__All_1, large_Large__All_1_c, hcap, hb, Nat.reduceAdd, Nat.reduceMul, Nat.reduceLT, Int.reduceToNat, Int.reduceAdd, Int.reduceSub, Int.reduceMul, rsU, rsC]
 generalize hJ : (((J.bump 1).put J.next (.cells true _ _)).bump 1).put (J.next + 1) (.cells true _ _) = J1
 have n1 : J1.next = J.next + 2 := by rw [<- hJ]; rfl
 have o1 : ∀ b, b < J.next -> J1.blk b = J.blk b := fun b hb => by rw [<- hJ]; simp -implicitDefEqProofs (disch := omega) only [s_bn, s_bs, s_kn, bump_blk]
 have bf1 : J1.blk J.next = some (.cells true 217 [.fn (some (.yield b1, [], []))]) := by rw [<- hJ]; simp -implicitDefEqProofs (disch := omega) only [s_bn, s_bs, s_kn, bump_blk]
 have ba1 : J1.blk (J.next + 1) = some (.cells true 130 [.i .i64 (hdI L.H : Int), .i .i64 (tlI L.H : Int), .i .i64 (L.H.length : Int), .i .i64 (hdI L.W : Int), .i .i64 (tlI L.W : Int), .i .i64 (L.W.length : Int)]) := by rw [<- hJ]; exact s_bs
 clear hJ
 have E1 : Ext J J1 := ext_of (by omega) o1
 have t1 := t.chg (Z := J.next :: (J.next + 1) :: X) (K := []) E1.chg (by simp) fun b hb => by
  simp only [List.mem_cons] at hb
  rcases hb with rfl | rfl | hb
  ·exact .inr (by omega)
  ·exact .inr (by omega)
  ·exact .inl hb
 refine Ok.bindS (Q := fun r => ∃ J' M' a', r = .inl ([], J') /\ Tl J' lb pb mb M' S w L (J.next :: (J.next + 1) :: X) Y x0 x1 ob b1 a' (l ++ (L.H ++ L.W)) /\ Beh Y M M' (L.H.length + L.W.length) 0 0 /\ Keep (J.next :: (J.next + 1) :: X) J1 J') ?_ ?_ (fun r h => by obtain ⟨_, _, _, e, _⟩ := h; cases e)
 ·rw [loopF_eq]
  refine Ok.bindS (all_step t1 (hf.less (by decide)) t1.p.lH (by omega) (fb := J.next) (cap := cap) (arr := J.next + 1) (by simp) (by simp [hcX]) (by simp) bf1 ((E1.blk _ lc).trans hcap) ba1 (k := 0) (by decide) (by decide) rfl rfl rfl rfl rfl) ?_ (fun r h => by obtain ⟨_, _, _, e, _⟩ := h; cases e)
  rintro _ ⟨J2, M2, a2, e, t2, c2, k2⟩
  simp only [Sum.inl.injEq] at e
  subst e
  rw [loopF_eq]
  refine Ok.bindS (all_step t2 (c2.far (hf.less (by omega))) t2.p.lW (by simp only [List.length_append]; omega) (fb := J.next) (cap := cap) (arr := J.next + 1) (by simp) (by simp [hcX]) (by simp) ((k2.blk _ (by simp)).trans bf1) ((k2.blk _ (by simp [hcX])).trans ((E1.blk _ lc).trans hcap)) ((k2.blk _ (by simp)).trans ba1) (k := 0 + 1) (by decide) (by decide) rfl rfl rfl rfl rfl) ?_ (fun r h => by obtain ⟨_, _, _, e, _⟩ := h; cases e)
  rintro _ ⟨J3, M3, a3, e, t3, c3, k3⟩
  simp only [Sum.inl.injEq] at e
  subst e
  rw [loopF_eq]
  rw [show (0 + 1 + 1 : Int) = 2 from rfl]
  simp (maxSteps := 2000000) -implicitDefEqProofs (disch := (first | omega | rfl | assumption | (simp only [rsD]; first | omega | assumption))) only [large_Large__All_1_L1, Nat.reduceAdd, Nat.reduceMul, Nat.reduceLT, Int.reduceToNat, Int.reduceAdd, Int.reduceSub, Int.reduceMul, rsU, rsC]
  exact Ok_some.2 ⟨J3, M3, a3, rfl, by rw [<- List.append_assoc]; exact t3, c2.trans c3, k2.trans k3⟩
 ·rintro _ ⟨J', M', a', e, t', c', k'⟩
  simp only [Sum.inl.injEq] at e
  subst e
  simp (maxSteps := 2000000) -implicitDefEqProofs (disch := (first | omega | rfl | assumption | (simp only [rsD]; first | omega | assumption))) only [Nat.reduceAdd, Nat.reduceMul, Nat.reduceLT, Int.reduceToNat, Int.reduceAdd, Int.reduceSub, Int.reduceMul, rsU, rsC]
  refine Ok_some.2 ⟨rfl, M', a', t'.chg (Z := X) (K := []) (Chg.refl _ _) (by simp) (fun b hb => .inl (by simp [hb])), c', ⟨by have := k'.next; simp only; omega, fun b hb => (k'.blk b (by simp [hb])).trans (o1 b (hltX b hb))⟩⟩
theorem told15_ok {J : AH O} {lb pb mb : Nat} {M : MemS} {S : PoolS} {w : List Int} {L : LarS} {X : List Nat} {Y : List Int} (h : LarAt J lb pb mb M S w L X Y) (hf : M.far 2000) (hl : L.H.length + L.W.length <= 201) :
  Ok (law15_told [.p (some (.n lb, 0))] J) fun r => ∃ a M', r.1 = .tup [.sl a (L.H.length + L.W.length), .b true] /\ LarAt r.2 lb pb mb M' S w L (SA.bk a ++ X) Y /\ OwnS r.2 3 1 a (L.H.length + L.W.length) ((nums (L.H ++ L.W)).map (AV.i .i64)) /\ Beh Y M M' (L.H.length + L.W.length) 0 0 /\ Keep X J r.2 /\ ∀ b ∈ SA.bk a, b ∉ X := by
 have hlt := h.lt
 have hltX := h.lX
 simp (maxSteps := 2000000) -implicitDefEqProofs (disch := (first | omega | rfl | assumption | (simp only [rsD]; first | omega | assumption))) only [law15_told, law15_told_c, large_Large__All, large_Large__All_c, s_rangeV, getG, s_nf, Nat.reduceAdd, Nat.reduceMul, Nat.reduceLT, Int.reduceToNat, Int.reduceAdd, Int.reduceSub, Int.reduceMul, rsU, rsC]
 generalize hJ : ((((((((J.bump 2).put J.next (.cells true _ _)).put (J.next + 1) (.cells true _ _)).bump 1).put (J.next + 2) (.cells true _ _)).bump 1).put (J.next + 2 + 1) (.cells true _ _)).bump 1).put (J.next + 2 + 1 + 1) (.loop _ _ _) = J1
 have n1 : J1.next = J.next + 5 := by rw [<- hJ]; rfl
 have o1 : ∀ b, b < J.next -> J1.blk b = J.blk b := fun b hb => by rw [<- hJ]; simp -implicitDefEqProofs (disch := omega) only [s_bn, s_bs, s_kn, bump_blk]
 have b0 : J1.blk J.next = some (.cells true 29 [.sl .nil 0]) := by rw [<- hJ]; simp -implicitDefEqProofs (disch := omega) only [s_bn, s_bs, s_kn, bump_blk]
 have b1 : J1.blk (J.next + 1) = some (.cells true 4 [.b false]) := by rw [<- hJ]; simp -implicitDefEqProofs (disch := omega) only [s_bn, s_bs, s_kn, bump_blk]
 have bc : J1.blk (J.next + 2) = some (.cells true 67 [.p (some (.n lb, 0))]) := by rw [<- hJ]; simp -implicitDefEqProofs (disch := omega) only [s_bn, s_bs, s_kn, bump_blk]
 have bo : J1.blk (J.next + 2 + 1) = some (.cells true 29 [.sl .nil 0]) := by rw [<- hJ]; simp -implicitDefEqProofs (disch := omega) only [s_bn, s_bs, s_kn, bump_blk]
 have bl : J1.blk (J.next + 2 + 1 + 1) = some (.loop 35000 (toldEnv J.next (J.next + 1) (J.next + 2 + 1)) .ready) := by rw [<- hJ]; exact s_bs
 clear hJ
 have E1 : Ext J J1 := ext_of (by omega) o1
 have hnX : ∀ b, J.next <= b -> b ∉ X := fun b hb hm => by have := hltX b hm; omega
 have p1 := h.turn (Z := (J.next + 2 + 1) :: (J.next + 2 + 1 + 1) :: (SA.bk .nil ++ ((J.next + 2) :: J.next :: (J.next + 1) :: X))) (K := []) E1.chg (by simp) fun b hb => by
  simp only [SA.bk, List.nil_append, List.mem_cons] at hb
  rcases hb with rfl | rfl | rfl | rfl | rfl | hb
  ·exact .inr (by omega)
  ·exact .inr (by omega)
  ·exact .inr (by omega)
  ·exact .inr (by omega)
  ·exact .inr (by omega)
  ·exact .inl hb
 have t1 : Tl J1 lb pb mb M S w L ((J.next + 2) :: J.next :: (J.next + 1) :: X) Y J.next (J.next + 1) (J.next + 2 + 1) (J.next + 2 + 1 + 1) .nil [] :=
  ⟨p1, bo, OwnS.nil _ _ _, bl, by omega, by simp [SA.bk], ⟨fun hm => ?_, fun hm => ?_⟩, by simp [SA.bk]⟩
 ·refine Ok.step (all1_ok t1 hf (by simp; omega) (cap := J.next + 2) (by simp) bc) fun r ⟨u1, M2, a2, t2, c2, k2⟩ => ?_
  obtain ⟨q, J2⟩ := r
  simp only [List.nil_append] at u1 t2 k2
  subst u1
  have bl2 := t2.l1
  have bo2 := t2.o
  have n2 := k2.next
  have b02 : J2.blk J.next = _ := (k2.blk _ (by simp)).trans b0
  have b12 : J2.blk (J.next + 1) = _ := (k2.blk _ (by simp)).trans b1
  simp only [List.length_append] at bo2
  simp (maxSteps := 2000000) -implicitDefEqProofs (disch := (first | omega | rfl | assumption | (simp only [rsD]; first | omega | assumption))) only [lstN, bl2, LSt.code, bo2, b02, b12, s_kn, Nat.reduceAdd, Nat.reduceMul, Nat.reduceLT, Int.reduceToNat, Int.reduceAdd, Int.reduceSub, Int.reduceMul, rsU, rsC]
  have hna : ∀ b ∈ SA.bk a2, b ≠ J.next /\ b ≠ J.next + 1 /\ b ≠ J.next + 2 + 1 + 1 := fun b hb => ⟨fun e => t2.n4 b hb (by simp [e]), fun e => t2.n4 b hb (by simp [e]), fun e => t2.n2.2 (e ▸ hb)⟩
  refine Ok_some.2 ⟨a2, M2, rfl, t2.p.turn (K := [J.next + 2 + 1 + 1, J.next, J.next + 1]) ⟨by simp, fun b hb hm => ?_⟩ (fun b hb => .inl ?_) (fun b hb => .inl ?_), ?_, c2, ⟨by simp; omega, fun b hb => ?_⟩, fun b hb hm => t2.n4 b hb (by simp [hm])⟩
  ·simp only [List.mem_cons, List.not_mem_nil, or_false, not_or] at hm
   rw [s_bn hm.2.2, s_bn hm.2.1, s_kn hm.1]
  ·simp only [List.mem_cons, List.not_mem_nil, or_false] at hb
   rcases hb with rfl | rfl | rfl <;> simp
  ·rcases List.mem_append.1 hb with hb | hb <;> simp [hb]
  ·have := t2.own
   simp only [List.length_append] at this
   exact this.of (by simp) fun b hb => by
    obtain ⟨e1, e2, e3⟩ := hna b hb
    rw [s_bn e2, s_bn e1, s_kn e3]
  ·have := hltX b hb
   rw [s_bn (by omega), s_bn (by omega), s_kn (by omega), k2.blk b (by simp [hb]), o1 b this]
 ·simp only [List.mem_cons] at hm
  rcases hm with e | e | e | hm
  ·omega
  ·omega
  ·omega
  ·exact hnX _ (by omega) hm
 ·simp only [List.mem_cons] at hm
  rcases hm with e | e | e | hm
  ·omega
  ·omega
  ·omega
  ·exact hnX _ (by omega) hm
end Go.Abs.Try
set_option maxHeartbeats 1000000
namespace Go.Abs.Try
open Go Go.Abs
variable {O : Type}
theorem has_cells {J : AH O} {a : SA} {l : List Int} (ha : Rd J 1 a l.length (l.map (AV.i .i64))) (hn : l.length <= 1000000) {x : Int} : Ok (haymowref15_Has [.sl a l.length, .i .i64 x] J) fun r => r = (.b (decide (x ∈ l)), J) := by
 simp (maxSteps := 2000000) -implicitDefEqProofs (disch := (first | omega | rfl | assumption | (simp only [rsD]; first | omega | assumption))) only [haymowref15_Has, haymowref15_Has_c, Nat.reduceAdd, Nat.reduceMul, Nat.reduceLT, Int.reduceToNat, Int.reduceAdd, Int.reduceSub, Int.reduceMul, rsU, rsC]
 refine Ok.bindS (Q := fun r => (r = .inl ([], J) /\ x ∉ l) ∨ (r = .inr (.b true, J) /\ x ∈ l)) ?_ ?_ ?_
 ·refine Ok.count l.length (fun k s => s = ([.i .i64 (k : Int)], J) /\ x ∉ l.take k) ?_ ?_ ⟨rfl, by simp⟩
  ·rintro k s hk ⟨rfl, hx⟩
   have hv := List.getElem?_eq_getElem hk
   have hc : (l.map (AV.i .i64))[k]? = some (.i .i64 l[k]) := by rw [List.getElem?_map, hv]; rfl
   obtain ⟨b1, o1, e1, l1⟩ := ha.at1 hc
   have r1 : SA.ref a = some (b1, o1) := by rw [e1]; rfl
   simp only [Nat.mul_one] at l1
   by_cases hxk : l[k] = x
   ·have q1 : (l[k] == x) = true := by simp [hxk]
    simp (maxSteps := 2000000) -implicitDefEqProofs (disch := (first | omega | rfl | assumption | (simp only [rsD]; first | omega | assumption))) only [haymowref15_Has_L1, r1, l1, q1, Nat.reduceAdd, Nat.reduceMul, Nat.reduceLT, Int.reduceToNat, Int.reduceAdd, Int.reduceSub, Int.reduceMul, rsU, rsC]
    exact Ok_some.2 (.inr ⟨rfl, hxk ▸ List.getElem_mem hk⟩)
   ·have q1 : (l[k] == x) = false := by simp [hxk]
    simp (maxSteps := 2000000) -implicitDefEqProofs (disch := (first | omega | rfl | assumption | (simp only [rsD]; first | omega | assumption))) only [haymowref15_Has_L1, r1, l1, q1, Nat.reduceAdd, Nat.reduceMul, Nat.reduceLT, Int.reduceToNat, Int.reduceAdd, Int.reduceSub, Int.reduceMul, rsU, rsC]
    refine Ok_some.2 ⟨by simp, ?_⟩
    rw [List.take_succ_eq_append_getElem hk, List.mem_append]
    rintro (h | h)
    ·exact hx h
    ·simp at h; exact hxk h.symm
  ·rintro s ⟨rfl, hx⟩
   rw [List.take_length] at hx
   simp (maxSteps := 2000000) -implicitDefEqProofs (disch := (first | omega | rfl | assumption | (simp only [rsD]; first | omega | assumption))) only [haymowref15_Has_L1, Nat.reduceAdd, Nat.reduceMul, Nat.reduceLT, Int.reduceToNat, Int.reduceAdd, Int.reduceSub, Int.reduceMul, rsU, rsC]
   exact Ok_some.2 (.inl ⟨rfl, hx⟩)
 ·rintro s (⟨h, hx⟩ | ⟨h, _⟩)
  ·cases h
   simp (maxSteps := 2000000) -implicitDefEqProofs (disch := (first | omega | rfl | assumption | (simp only [rsD]; first | omega | assumption))) only [Nat.reduceAdd, Nat.reduceMul, Nat.reduceLT, Int.reduceToNat, Int.reduceAdd, Int.reduceSub, Int.reduceMul, rsU, rsC]
   exact Ok_some.2 (by simp [hx])
  ·cases h
 ·rintro r (⟨h, _⟩ | ⟨h, hx⟩)
  ·cases h
  ·cases h; simp [hx]
end Go.Abs.Try
namespace Go.Abs.Try
open Go Go.Abs
variable {O : Type}
section
variable {J : AH O} {lb pb mb : Nat} {M : MemS} {S : PoolS} {w : List Int} {L : LarS} {X : List Nat} {Y : List Int} (h : LarAt J lb pb mb M S w L X Y)
include h
theorem lcount_ok : large_Large__Count [.p (some (.n lb, 0))] J = some (.i .i64 ((L.H.length : Int) + L.W.length), J) := by
 obtain ⟨el, hb⟩ := h.b
 simp only [LarS.cells] at hb
 have := h.hw
 simp (maxSteps := 2000000) -implicitDefEqProofs (disch := (first | omega | rfl | assumption | (simp only [rsD]; first | omega | assumption))) only [large_Large__Count, large_Large__Count_c, hb, Nat.reduceAdd, Nat.reduceMul, Nat.reduceLT, Int.reduceToNat, Int.reduceAdd, Int.reduceSub, Int.reduceMul, rsU, rsC]
variable (hf : M.far 1000)
include hf
theorem lsize_no {id : Int} (hn : ∀ i : Nat, id = (i : Int) + 1 -> L.ob i = none) :
  Ok (large_Large__Size [.p (some (.n lb, 0)), .i .i64 id] J) fun r => r.1 = .tup [.i .i64 0, .i .i64 4] /\ ∃ M', LarAt r.2 lb pb mb M' S w L X Y /\ Beh Y M M' 1 0 0 /\ Keep X J r.2 := by
 obtain ⟨el, hb⟩ := h.b
 simp only [LarS.cells] at hb
 simp (maxSteps := 2000000) -implicitDefEqProofs (disch := (first | omega | rfl | assumption | (simp only [rsD]; first | omega | assumption))) only [large_Large__Size, large_Large__Size_c, hb, Nat.reduceAdd, Nat.reduceMul, Nat.reduceLT, Int.reduceToNat, Int.reduceAdd, Int.reduceSub, Int.reduceMul, rsU, rsC]
 refine Ok.step (lget_no h hf hn) fun r ⟨g1, M', g2, g3, g4⟩ => ?_
 obtain ⟨q, J1⟩ := r
 simp only at g1 g2 g4
 subst g1
 simp (maxSteps := 2000000) -implicitDefEqProofs (disch := (first | omega | rfl | assumption | (simp only [rsD]; first | omega | assumption))) only [Nat.reduceAdd, Nat.reduceMul, Nat.reduceLT, Int.reduceToNat, Int.reduceAdd, Int.reduceSub, Int.reduceMul, rsU, rsC]
 exact Ok_some.2 ⟨rfl, M', g2, g3, g4⟩
theorem lsize_ok {i : Nat} {ws : List Int} (ho : L.ob i = some ws) :
  Ok (large_Large__Size [.p (some (.n lb, 0)), .i .i64 ((i : Int) + 1)] J) fun r => r.1 = .tup [.i .i64 (ws.length : Int), .i .i64 0] /\ ∃ M', LarAt r.2 lb pb mb M' S w L X Y /\ Beh Y M M' 2 0 0 /\ Keep X J r.2 := by
 obtain ⟨el, hb⟩ := h.b
 simp only [LarS.cells] at hb
 obtain ⟨e, sp, mk, he, htk, a1, a2, a3, a4, a5, a6, a7, a8, a9⟩ := h.at ho
 have hl := h.p.mi.wlen a7
 simp (maxSteps := 2000000) -implicitDefEqProofs (disch := (first | omega | rfl | assumption | (simp only [rsD]; first | omega | assumption))) only [large_Large__Size, large_Large__Size_c, hb, Nat.reduceAdd, Nat.reduceMul, Nat.reduceLT, Int.reduceToNat, Int.reduceAdd, Int.reduceSub, Int.reduceMul, rsU, rsC]
 have g := lget_ok h hf ho he (k := 1) (by decide) a2
 rw [show ((1 : Nat) : Int) = 1 from rfl] at g
 refine Ok.step g fun r ⟨g1, M', g2, g3, g4⟩ => ?_
 obtain ⟨q, J1⟩ := r
 simp only at g1 g2 g4
 subst g1
 simp (maxSteps := 2000000) -implicitDefEqProofs (disch := (first | omega | rfl | assumption | (simp only [rsD]; first | omega | assumption))) only [Nat.reduceAdd, Nat.reduceMul, Nat.reduceLT, Int.reduceToNat, Int.reduceAdd, Int.reduceSub, Int.reduceMul, rsU, rsC]
 exact Ok_some.2 ⟨rfl, M', g2, h.beh2 hf g3 g2.p.mi.ok, g4.tail⟩
end
end Go.Abs.Try
