/-
  Layers above the pool: what a call costs and leaves alone; pools alike; large objects: their state. No conditions.
-/
import Derived.Test.YtncohicmiihjiaaGreatM10
set_option linter.unusedVariables false
set_option linter.unusedSimpArgs false
set_option linter.constructorNameAsVariable false
set_option linter.unusedSimpArgs false
set_option linter.unusedVariables false
set_option linter.unusedSectionVars false
set_option maxHeartbeats 1000000
namespace Go.Abs.Tryz
open Go Go.Abs
variable {O : Type}
theorem nodup_le : ∀ (n : Nat) (l : List Nat), l.Nodup -> (∀ x ∈ l, x < n) -> l.length <= n := by
 intro n
 induction n with
 | zero => intro l _ hx; cases l with | nil => simp | cons a l => exact absurd (hx a List.mem_cons_self) (by omega)
 | succ n ih =>
  intro l hn hx
  by_cases hm : n ∈ l
  ·have h1 := ih (l.erase n) (hn.erase n) fun x hx' => by
    have := hx x (List.mem_of_mem_erase hx')
    have hne : x ≠ n := fun e => by subst e; exact (List.Nodup.not_mem_erase hn) hx'
    omega
   rw [List.length_erase_of_mem hm] at h1; omega
  ·have := ih l hn fun x hx' => by
    have := hx x hx'
    have hne : x ≠ n := fun e => hm (e ▸ hx')
    omega
   omega
structure Beh (Y : List Int) (M M' : MemS) (k dh dc : Int) : Prop where
 r : M.met.r <= M'.met.r
 w : M.met.w <= M'.met.w
 k : M'.met.r + M'.met.w <= M.met.r + M.met.w + k
 held : M'.met.held = M.met.held + dh
 count : M'.count = M.count + dc
 keep : ∀ y ∈ Y, wordsOf M'.sp y = wordsOf M.sp y
theorem Beh.refl (Y : List Int) (M : MemS) : Beh Y M M 0 0 0 := ⟨by omega, by omega, by omega, by omega, by omega, fun _ _ => rfl⟩
theorem Beh.trans {Y : List Int} {M M' M'' : MemS} {k a c k' a' c' : Int} (h : Beh Y M M' k a c) (g : Beh Y M' M'' k' a' c') : Beh Y M M'' (k + k') (a + a') (c + c') :=
 ⟨by have := h.r; have := g.r; omega, by have := h.w; have := g.w; omega, by have := h.k; have := g.k; omega, by have := h.held; have := g.held; omega, by have := h.count; have := g.count; omega, fun y hy => (g.keep y hy).trans (h.keep y hy)⟩
theorem Beh.as {Y : List Int} {M M' : MemS} {k a c k' a' c' : Int} (h : Beh Y M M' k a c) (h1 : k <= k') (h2 : a = a') (h3 : c = c') : Beh Y M M' k' a' c' := by
 subst h2; subst h3; exact ⟨h.r, h.w, by have := h.k; omega, h.held, h.count, h.keep⟩
theorem Beh.mono {Y Z : List Int} {M M' : MemS} {k a c : Int} (h : Beh Y M M' k a c) (hs : ∀ y ∈ Z, y ∈ Y) : Beh Z M M' k a c := ⟨h.r, h.w, h.k, h.held, h.count, fun y hy => h.keep y (hs y hy)⟩
theorem Beh.wrt {Y : List Int} {M M' : MemS} {id : Int} {w w' : List Int} {dr dw : Int} (hok : M.ok) (hok' : M'.ok) (hw : wordsOf M.sp id = some w) (h : Wrt M M' id w' dr dw) (h0 : 0 <= dr) (h1 : 0 <= dw) (hY : id ∉ Y) : Beh Y M M' (dr + dw) ((w'.length : Int) - w.length) 0 := by
 obtain ⟨i0, hi⟩ := wordsOf_some hw
 have hs : (M.sp.map fun s => s.2.length)[id.toNat]? = some w.length := by rw [List.getElem?_map, hi]; rfl
 have e1 := sum_set (x := w'.length) hs
 have e2 := cnt_set (p := fun s : Bool × List Int => s.1) (x := (true, w')) hi
 have e3 := hok.held
 have e4 := hok'.held
 have e5 := hok.count
 have e6 := hok'.count
 rw [h.sp] at e4 e6
 rw [List.map_set] at e4
 simp only at e4
 simp only [if_true] at e2
 have hr := h.r
 have hw2 := h.w
 refine ⟨by omega, by omega, by omega, ?_, ?_, fun y hy => h.other i0 fun e => hY (e ▸ hy)⟩
 ·rw [e4, e3]; omega
 ·rw [e5, e6]; omega
theorem MemS.ok.opn' {M : MemS} (hok : M.ok) {n : Int} (h1 : 0 <= n) (h2 : n <= 4194304) (h3 : M.count < 262144) {Y : List Int} (hY : ∀ y ∈ Y, wordsOf M.sp y ≠ none) : Beh Y M (M.opn (ff M.sp) n) 0 n 1 := by
 refine ⟨by simp [MemS.opn, Met.hold], by simp [MemS.opn, Met.hold], by simp [MemS.opn, Met.hold], by simp [MemS.opn, Met.hold], by simp [MemS.opn], fun y hy => ?_⟩
 cases hw : wordsOf M.sp y with
 | none => exact absurd hw (hY y hy)
 | some w => exact (opn_other hw).1
structure Alike (S S' : PoolS) : Prop where
 id : S'.id = S.id
 words : S'.words = S.words
 room : S'.room = S.room
 free : S'.free = S.free
 taken : S'.taken = S.taken
 len : S'.E.length = S.E.length
 at_ : ∀ (i : Nat) (e : PE), S.E[i]? = some e -> ∃ e', S'.E[i]? = some e' /\ e'.tk = e.tk /\ e'.gen = e.gen
theorem Alike.refl (S : PoolS) : Alike S S := ⟨rfl, rfl, rfl, rfl, rfl, rfl, fun i e h => ⟨e, h, rfl, rfl⟩⟩
theorem Alike.trans {S S' S'' : PoolS} (h : Alike S S') (g : Alike S' S'') : Alike S S'' :=
 ⟨g.id.trans h.id, g.words.trans h.words, g.room.trans h.room, g.free.trans h.free, g.taken.trans h.taken, g.len.trans h.len, fun i e he => by
  obtain ⟨e1, a1, a2, a3⟩ := h.at_ i e he
  obtain ⟨e2, b1, b2, b3⟩ := g.at_ i e1 a1
  exact ⟨e2, b1, b2.trans a2, b3.trans a3⟩⟩
theorem Alike.back {S S' : PoolS} (h : Alike S S') {i : Nat} {e' : PE} (he : S'.E[i]? = some e') : ∃ e, S.E[i]? = some e /\ e'.tk = e.tk /\ e'.gen = e.gen := by
 have hi := (List.getElem?_eq_some_iff.1 he).1
 rw [h.len] at hi
 obtain ⟨e2, a1, a2, a3⟩ := h.at_ i _ (List.getElem?_eq_getElem hi)
 rw [he] at a1; cases a1
 exact ⟨_, List.getElem?_eq_getElem hi, a2, a3⟩
theorem Alike.same {S : PoolS} {E' : List PE} {nx pv : Nat} (h : SameBut nx pv S.E E') : Alike S { S with E := E' } :=
 ⟨rfl, rfl, rfl, rfl, rfl, h.len, fun i e he => by obtain ⟨y, a, b, c, _⟩ := h.at_ i e he; exact ⟨y, a, b, c⟩⟩
theorem Alike.set {S : PoolS} {i : Nat} {e : PE} {ws : List Int} (he : S.E[i]? = some e) : Alike S { S with E := S.E.set i { e with ws := ws } } :=
 ⟨rfl, rfl, rfl, rfl, rfl, by simp, fun j x hx => by
  show ∃ e', (S.E.set i _)[j]? = some e' /\ _
  rw [List.getElem?_set]
  by_cases hj : i = j
  ·subst hj
   rw [he] at hx; cases hx
   simp [(List.getElem?_eq_some_iff.1 he).1]
  ·rw [if_neg hj]; exact ⟨x, hx, rfl, rfl⟩⟩
def PoolS.took (S : PoolS) : Nat × PoolS :=
 match S.free with
 | [] => (S.E.length, { S with room := S.more, E := S.E ++ [PE.fresh S.words], taken := S.taken + 1 })
 | f :: r => (f - 1, { S with E := S.E.set (f - 1) ⟨true, ((S.E[f - 1]?).map PE.gen).getD 0, List.replicate S.words 0⟩, free := r, taken := S.taken + 1 })
theorem ptake_p {J : AH O} {pb mb : Nat} {M : MemS} {S : PoolS} {w : List Int} {X : List Nat} (h : PoolAt J pb mb M S w X) (hc : M.calm) (hE : S.E.length < 1048576) (hR : S.more * (S.words + 1) <= 4194304) (hm : M.met.r + 100 < 85070591730234615865843651857942052864 /\ M.met.w + 100 < 85070591730234615865843651857942052864) :
  Ok (qgy [.p (some (.n pb, 0))] J) fun q => ∃ g, q.1 = .tup [.i .i64 (((S.took.1 : Nat) : Int) + 1), .i .i64 0] /\ Took S S.took.2 S.took.1 g /\ ∃ M' w' dr dw, PoolAt q.2 pb mb M' S.took.2 w' X /\ Wrt M M' S.id w' dr dw /\ 0 <= dr /\ dr <= 2 /\ 1 <= dw /\ dr + dw <= 3 + S.words /\ Keep X J q.2 := by
 cases hf : S.free with
 | nil =>
  have e0 : S.took = (S.E.length, { S with room := S.more, E := S.E ++ [PE.fresh S.words], taken := S.taken + 1 }) := by unfold PoolS.took; rw [hf]
  rw [e0]
  refine (ptake_new h hc hf hE hR hm.2).mono fun q ⟨g1, M', w', g2, g3, g4⟩ => ⟨0, g1, ⟨rfl, rfl, ?_, fun j hj => ?_, fun e he => ?_, fun _ => rfl, ?_, rfl, .inr rfl, fun j r e => (by rw [hf] at e; cases e), .inl ⟨hf, rfl, hf, rfl, by simp⟩⟩, M', w', 0, 1, g2, g3, by omega, by omega, by omega, by omega, g4⟩
  ·show (S.E ++ [PE.fresh S.words])[S.E.length]? = _
   simp [PE.fresh]
  ·show (S.E ++ [PE.fresh S.words])[j]? = _
   rcases Nat.lt_or_ge j S.E.length with g | g
   ·rw [List.getElem?_append_left g]
   ·rw [List.getElem?_eq_none (by simp; omega), List.getElem?_eq_none (by omega)]
  ·have := (List.getElem?_eq_some_iff.1 he).1; simp only at this; omega
  ·simp
 | cons j r =>
  have hch := h.p.ch
  rw [hf] at hch
  obtain ⟨⟨e, h1, _⟩, _⟩ := hch
  obtain ⟨i, rfl⟩ : ∃ i, j = i + 1 := ⟨j - 1, by omega⟩
  obtain ⟨e, he, htk, g⟩ := ptake_old h hc hf hm
  have hi := (List.getElem?_eq_some_iff.1 he).1
  have e0 : S.took = (i, { S with E := S.E.set i ⟨true, e.gen, List.replicate S.words 0⟩, free := r, taken := S.taken + 1 }) := by unfold PoolS.took; rw [hf]; simp [he]
  rw [e0]
  refine g.mono fun q ⟨g1, M', w', g2, g3, g4⟩ => ⟨e.gen, g1, ⟨rfl, rfl, ?_, fun j hj => ?_, fun e' he' => ?_, fun hn => ?_, ?_, rfl, .inl rfl, fun j' r' e => (by rw [hf] at e; cases e; rfl), .inr ⟨hf, rfl, by simp⟩⟩, M', w', 2, 1 + S.words, g2, g3, by omega, by omega, by omega, by omega, g4⟩
  ·show (S.E.set i _)[i]? = _
   rw [List.getElem?_set]; simp [hi]
  ·show (S.E.set i _)[j]? = _
   rw [List.getElem?_set, if_neg (fun e => hj e.symm)]
  ·rw [he] at he'; cases he'; exact ⟨htk, rfl⟩
  ·rw [he] at hn; cases hn
  ·simp
theorem Alike.more {S S' : PoolS} (h : Alike S S') : S'.more = S.more := by unfold PoolS.more; rw [h.len, h.room]
theorem Alike.took {S S' : PoolS} (h : Alike S S') : S'.took.1 = S.took.1 /\ Alike S.took.2 S'.took.2 := by
 unfold PoolS.took
 rw [h.free]
 cases hf : S.free with
 | nil =>
  refine ⟨h.len, ⟨h.id, h.words, h.more, rfl, by simp [h.taken], by simp [h.len], fun i e he => ?_⟩⟩
  show ∃ e', (S'.E ++ [PE.fresh S'.words])[i]? = some e' /\ _
  have he : (S.E ++ [PE.fresh S.words])[i]? = some e := he
  rcases Nat.lt_or_ge i S.E.length with g | g
  ·rw [List.getElem?_append_left g] at he
   rw [List.getElem?_append_left (by rw [h.len]; exact g)]
   exact h.at_ i e he
  ·rw [List.getElem?_append_right g] at he
   rw [List.getElem?_append_right (by rw [h.len]; exact g), h.len]
   cases hk : i - S.E.length with
   | zero => rw [hk] at he; simp at he; subst he; exact ⟨_, rfl, rfl, rfl⟩
   | succ k => rw [hk] at he; simp at he
 | cons f r =>
  refine ⟨rfl, ⟨h.id, h.words, h.room, rfl, by simp [h.taken], by simp [h.len], fun i e he => ?_⟩⟩
  show ∃ e', (S'.E.set (f - 1) _)[i]? = some e' /\ _
  have he : (S.E.set (f - 1) ⟨true, ((S.E[f - 1]?).map PE.gen).getD 0, List.replicate S.words 0⟩)[i]? = some e := he
  rw [List.getElem?_set] at he ⊢
  by_cases hj : f - 1 = i
  ·subst hj
   rw [if_pos rfl] at he ⊢
   by_cases hl : f - 1 < S.E.length
   ·rw [if_pos hl] at he
    rw [if_pos (by rw [h.len]; exact hl)]
    cases he
    obtain ⟨e', a, b, c⟩ := h.at_ _ _ (List.getElem?_eq_getElem hl)
    exact ⟨_, rfl, rfl, by simp only; rw [a, List.getElem?_eq_getElem hl]; simp [c]⟩
   ·rw [if_neg hl] at he; cases he
  ·rw [if_neg hj] at he ⊢
   exact h.at_ i e he
structure LarS where
 H : List Nat
 W : List Nat
 ep : Int
 last : Int
 words : Int
 ob : Nat -> Option (List Int)
def LarS.cells (L : LarS) (pb mb : Nat) : List AV :=
 [.p (some (.n mb, 0)), .p (some (.n pb, 0)), .i .i64 (hdI L.H : Int), .i .i64 (tlI L.H : Int), .i .i64 (L.H.length : Int), .i .i64 (hdI L.W : Int), .i .i64 (tlI L.W : Int), .i .i64 (L.W.length : Int), .i .u64 L.ep, .i .i64 L.last, .i .i64 L.words]
def LarS.len (L : LarS) (i : Nat) : Nat := ((L.ob i).getD []).length
def v5 (E : List PE) (j : Nat) : Option (Int × Int × Int) := (E[j]?).bind fun e => if e.tk = true then (e.ws[0]?).bind fun a => (e.ws[1]?).bind fun b => (e.ws[4]?).bind fun c => some (a, b, c) else none
theorem v5_some {E : List PE} {j : Nat} {a b c : Int} (h : v5 E j = some (a, b, c)) : ∃ e, E[j]? = some e /\ e.tk = true /\ e.ws[0]? = some a /\ e.ws[1]? = some b /\ e.ws[4]? = some c := by
 unfold v5 at h
 obtain ⟨e, he, h⟩ := Option.bind_eq_some_iff.1 h
 split at h
 ·rename_i ht
  obtain ⟨a', h1, h⟩ := Option.bind_eq_some_iff.1 h
  obtain ⟨b', h2, h⟩ := Option.bind_eq_some_iff.1 h
  obtain ⟨c', h3, h⟩ := Option.bind_eq_some_iff.1 h
  cases h
  exact ⟨e, he, ht, h1, h2, h3⟩
 ·cases h
theorem v5_mk {E : List PE} {j : Nat} {a b c : Int} {e : PE} (he : E[j]? = some e) (ht : e.tk = true) (h1 : e.ws[0]? = some a) (h2 : e.ws[1]? = some b) (h3 : e.ws[4]? = some c) : v5 E j = some (a, b, c) := by
 unfold v5; rw [he]; simp [ht, h1, h2, h3]
theorem v5_same {E E' : List PE} (hs : SameBut 2 3 E E') : v5 E' = v5 E := by
 funext j
 cases hj : E[j]? with
 | none =>
  have : E'[j]? = none := List.getElem?_eq_none (by rw [hs.len]; exact List.getElem?_eq_none_iff.1 hj)
  simp [v5, hj, this]
 | some x =>
  obtain ⟨y, g1, g2, g3, g4⟩ := hs.at_ j x hj
  simp only [v5, hj, g1, Option.bind_some, g2, g4 0 (by decide) (by decide), g4 1 (by decide) (by decide), g4 4 (by decide) (by decide)]
theorem v5_set {E : List PE} {i : Nat} {e : PE} (hi : i < E.length) : v5 (E.set i e) = fun j => if j = i then v5 [e] 0 else v5 E j := by
 funext j
 by_cases hj : j = i
 ·subst hj; simp [v5, hi]
 ·rw [if_neg hj]; unfold v5; rw [List.getElem?_set, if_neg (fun e => hj e.symm)]
structure Objs (M : MemS) (V : Nat -> Option (Int × Int × Int)) (sid : Int) (ob : Nat -> Option (List Int)) (ep : Int) (H : List Nat) (Y : List Int) : Prop where
 non : ∀ i, ob i = none -> V i = none
 at_ : ∀ (i : Nat) (ws : List Int), ob i = some ws -> ∃ sp mk, V i = some (sp, (ws.length : Int), mk) /\ 0 <= mk /\ mk <= ep /\ (mk = ep ↔ i ∈ H) /\ wordsOf M.sp sp = some ws /\ sp ≠ sid /\ sp ∉ Y
 apart : ∀ (i j : Nat) (x a b c d : Int), V i = some (x, a, b) -> V j = some (x, c, d) -> i = j
 others : ∀ y ∈ Y, wordsOf M.sp y ≠ none /\ y ≠ sid
structure LarAt (J : AH O) (lb pb mb : Nat) (M : MemS) (S : PoolS) (w : List Int) (L : LarS) (X : List Nat) (Y : List Int) : Prop where
 p : PoolAt J pb mb M S w (lb :: X)
 b : ∃ el, J.blk lb = some (.cells true el (L.cells pb mb))
 nx : lb ∉ X
 five : S.words = 5
 lH : Linked S.E 2 3 L.H
 lW : Linked S.E 2 3 L.W
 dis : ∀ i ∈ L.H, i ∉ L.W
 all : ∀ i, L.ob i ≠ none -> i ∈ L.H ∨ i ∈ L.W
 o : Objs M (v5 S.E) S.id L.ob L.ep L.H Y
 ep : 0 <= L.ep /\ L.ep < 4611686018427387904
 last : 0 <= L.last /\ L.last <= 4611686018427387904
 sum : L.words = ((((L.H ++ L.W).map L.len).sum : Nat) : Int)
theorem Objs.mem {M M' : MemS} {V : Nat -> Option (Int × Int × Int)} {sid : Int} {ob : Nat -> Option (List Int)} {ep : Int} {H : List Nat} {Y : List Int} (h : Objs M V sid ob ep H Y) (hw : ∀ y v, y ≠ sid -> wordsOf M.sp y = some v -> wordsOf M'.sp y = some v) : Objs M' V sid ob ep H Y :=
 ⟨h.non, fun i ws ho => by
  obtain ⟨sp, mk, a1, a2, a3, a4, a5, a6, a7⟩ := h.at_ i ws ho
  exact ⟨sp, mk, a1, a2, a3, a4, hw sp ws a6 a5, a6, a7⟩, h.apart, fun y hy => ⟨by
  obtain ⟨g1, g2⟩ := h.others y hy
  cases hv : wordsOf M.sp y with
  | none => exact absurd hv g1
  | some v => rw [hw y v g2 hv]; simp, (h.others y hy).2⟩⟩
theorem Wrt.oth {M M' : MemS} {id : Int} {w w' : List Int} {dr dw : Int} (hw : wordsOf M.sp id = some w) (h : Wrt M M' id w' dr dw) : ∀ y v, y ≠ id -> wordsOf M.sp y = some v -> wordsOf M'.sp y = some v := fun y v hy hv => (h.other (wordsOf_some hw).1 hy).trans hv
section
variable {J : AH O} {lb pb mb : Nat} {M : MemS} {S : PoolS} {w : List Int} {L : LarS} {X : List Nat} {Y : List Int} (h : LarAt J lb pb mb M S w L X Y)
include h
theorem LarAt.lt : lb < J.next := h.p.mi.lt _ (by simp)
theorem LarAt.lX : ∀ b ∈ X, b < J.next := fun b hb => h.p.mi.lt _ (by simp [hb])
theorem LarAt.idY : S.id ∉ Y := fun hm => (h.o.others _ hm).2 rfl
theorem LarAt.wl : w.length = S.room * 6 := by have := h.p.p.len; rw [h.five] at this; exact this
theorem LarAt.room : S.room * 6 <= 4194304 := by have := h.p.mi.wlen h.p.now; rw [h.wl] at this; exact this
theorem LarAt.el : S.E.length <= 699050 := by have := h.p.p.made; have := h.room; omega
theorem LarAt.at {i : Nat} {ws : List Int} (ho : L.ob i = some ws) : ∃ e sp mk, S.E[i]? = some e /\ e.tk = true /\ e.ws[0]? = some sp /\ e.ws[1]? = some (ws.length : Int) /\ e.ws[4]? = some mk /\ 0 <= mk /\ mk <= L.ep /\ (mk = L.ep ↔ i ∈ L.H) /\ wordsOf M.sp sp = some ws /\ sp ≠ S.id /\ sp ∉ Y := by
 obtain ⟨sp, mk, a1, a2, a3, a4, a5, a6, a7⟩ := h.o.at_ i ws ho
 obtain ⟨e, b1, b2, b3, b4, b5⟩ := v5_some a1
 exact ⟨e, sp, mk, b1, b2, b3, b4, b5, a2, a3, a4, a5, a6, a7⟩
theorem LarAt.tkn {i : Nat} {e : PE} (he : S.E[i]? = some e) (ht : e.tk = true) : ∃ ws, L.ob i = some ws := by
 cases ho : L.ob i with
 | some ws => exact ⟨ws, rfl⟩
 | none =>
  have hl := h.p.p.wl e (List.mem_of_getElem? he)
  rw [h.five] at hl
  have := h.o.non i ho
  rw [v5_mk he ht (List.getElem?_eq_getElem (show 0 < e.ws.length by omega)) (List.getElem?_eq_getElem (show 1 < e.ws.length by omega)) (List.getElem?_eq_getElem (show 4 < e.ws.length by omega))] at this
  cases this
theorem LarAt.mem {i : Nat} (hi : i ∈ L.H ∨ i ∈ L.W) : ∃ e ws, S.E[i]? = some e /\ e.tk = true /\ L.ob i = some ws := by
 have key : ∃ e, S.E[i]? = some e /\ e.tk = true := by
  rcases hi with hi | hi
  ·obtain ⟨j, hj⟩ := List.getElem?_of_mem hi
   obtain ⟨e, he, hl⟩ := h.lH.at_ j i hj
   exact ⟨e, he, hl.tk⟩
  ·obtain ⟨j, hj⟩ := List.getElem?_of_mem hi
   obtain ⟨e, he, hl⟩ := h.lW.at_ j i hj
   exact ⟨e, he, hl.tk⟩
 obtain ⟨e, he, ht⟩ := key
 obtain ⟨ws, ho⟩ := h.tkn he ht
 exact ⟨e, ws, he, ht, ho⟩
theorem LarAt.nd : (L.H ++ L.W).Nodup := List.nodup_append.2 ⟨h.lH.nd, h.lW.nd, fun a ha b hb e => h.dis a ha (e ▸ hb)⟩
theorem LarAt.hw : L.H.length + L.W.length <= 699050 := by
 have h2 := nodup_le S.E.length (L.H ++ L.W) h.nd fun x hx => by
  obtain ⟨e, _, he, _⟩ := h.mem (List.mem_append.1 hx)
  exact (List.getElem?_eq_some_iff.1 he).1
 have := h.el
 simp only [List.length_append] at h2
 omega
theorem LarAt.ol {i : Nat} {ws : List Int} (ho : L.ob i = some ws) : ws.length <= 4194304 := by
 obtain ⟨e, sp, mk, _, _, _, _, _, _, _, _, a7, _⟩ := h.at ho
 exact h.p.mi.wlen a7
theorem LarAt.wb : 0 <= L.words /\ L.words <= 2932031007040 := by
 have h1 := h.sum
 have h2 := sum_le (l := (L.H ++ L.W).map L.len) (c := 4194304) fun x hx => by
  obtain ⟨i, hi, rfl⟩ := List.mem_map.1 hx
  obtain ⟨e, ws, he, _, ho⟩ := h.mem (List.mem_append.1 hi)
  unfold LarS.len
  rw [ho]
  exact h.ol ho
 have h3 := h.hw
 simp only [List.length_map, List.length_append] at h2
 omega
theorem LarAt.re {J' : AH O} {M' : MemS} {w' : List Int} (hp : PoolAt J' pb mb M' S w' (lb :: X)) (hb : J'.blk lb = J.blk lb) (hw : ∀ y v, y ≠ S.id -> wordsOf M.sp y = some v -> wordsOf M'.sp y = some v) : LarAt J' lb pb mb M' S w' L X Y :=
 { h with p := hp, b := by obtain ⟨el, e⟩ := h.b; exact ⟨el, hb.trans e⟩, o := h.o.mem hw }
theorem LarAt.read {J' : AH O} {M' : MemS} {dr : Int} (hp : PoolAt J' pb mb M' S w (lb :: X)) (hk : Keep (lb :: X) J J') (hq : Wrt M M' S.id w dr 0) : LarAt J' lb pb mb M' S w L X Y := h.re hp hk.head (hq.oth h.p.now)
theorem LarAt.beh {M' : MemS} {w' : List Int} {dr dw : Int} (hq : Wrt M M' S.id w' dr dw) (hok : M'.ok) (h0 : 0 <= dr) (h1 : 0 <= dw) (hl : w'.length = w.length) : Beh Y M M' (dr + dw) 0 0 := by
 have := Beh.wrt h.p.mi.ok hok h.p.now hq h0 h1 h.idY
 rw [hl, Int.sub_self] at this
 exact this
theorem LarAt.ext {J' : AH O} (he : Ext J J') : LarAt J' lb pb mb M S w L X Y := { h with p := h.p.ext he, b := by obtain ⟨el, e⟩ := h.b; exact ⟨el, (he.blk _ h.lt).trans e⟩ }
theorem LarAt.turn {J' : AH O} {K Z : List Nat} (hc : Chg K J J') (hl : ∀ b ∈ K, b ∈ X ∨ J.next <= b) (hY : ∀ b ∈ Z, b ∈ X ∨ (J.next <= b /\ b < J'.next)) : LarAt J' lb pb mb M S w L Z Y :=
 { h with
  p := h.p.turn hc (fun b hb => by
   rcases hl b hb with g | g
   ·exact .inl (by simp [g])
   ·exact .inr g) (fun b hb => by
   rcases List.mem_cons.1 hb with rfl | hb
   ·exact .inl (by simp)
   ·rcases hY b hb with g | g
    ·exact .inl (by simp [g])
    ·exact .inr g)
  b := by
   obtain ⟨el, e⟩ := h.b
   refine ⟨el, (hc.blk _ h.lt fun hm => ?_).trans e⟩
   rcases hl _ hm with g | g
   ·exact h.nx g
   ·have := h.lt; omega
  nx := fun hm => by
   rcases hY _ hm with g | g
   ·exact h.nx g
   ·have := h.lt; omega }
end
end Go.Abs.Tryz
namespace Go.Abs.Tryz
open Go Go.Abs
variable {O : Type}
def MemS.far (M : MemS) (k : Int) : Prop := M.met.r + k < 85070591730234615865843651857942052864 /\ M.met.w + k < 85070591730234615865843651857942052864
theorem MemS.far.calm {M : MemS} {k : Int} (h : M.far k) (h0 : 0 <= k) : M.calm := ⟨by have := h.1; omega, by have := h.2; omega⟩
theorem Beh.far {Y : List Int} {M M' : MemS} {k a c d : Int} (h : Beh Y M M' k a c) (hf : M.far (k + d)) : M'.far d := by
 have := h.r; have := h.w; have := h.k; have := hf.1; have := hf.2
 exact ⟨by omega, by omega⟩
theorem MemS.far.less {M : MemS} {k d : Int} (h : M.far k) (hd : d <= k) : M.far d := ⟨by have := h.1; omega, by have := h.2; omega⟩
theorem wrong1 {l : Sps} {sp at_ : Int} {ws : List Int} (h : wordsOf l sp = some ws) : wrongR l sp at_ 1 = if 0 <= at_ /\ at_ < ws.length then 0 else 11 := by
 unfold wrongR
 rw [h]
 simp only
 by_cases hc : 0 <= at_ /\ at_ < ws.length
 ·rw [if_pos hc, if_neg (by omega)]
 ·rw [if_neg hc, if_pos (by omega)]
theorem readR_of {M : MemS} {sp at_ : Int} {ws : List Int} (h : wordsOf M.sp sp = some ws) : M.readR sp at_ = if 0 <= at_ /\ at_ < ws.length then (M.rd 1, ws.getD at_.toNat 0, 0) else (M, 0, 11) := by
 unfold MemS.readR
 rw [wrong1 h, h]
 by_cases hc : 0 <= at_ /\ at_ < ws.length
 ·rw [if_pos hc, if_pos hc]; rfl
 ·rw [if_neg hc, if_neg hc]; rfl
theorem writeR_of {M : MemS} {sp at_ x : Int} {ws : List Int} (h : wordsOf M.sp sp = some ws) : M.writeR sp at_ x = if 0 <= at_ /\ at_ < ws.length then ((M.wr 1).put sp.toNat (ws.set at_.toNat x), 0) else (M, 11) := by
 unfold MemS.writeR
 rw [wrong1 h, h]
 by_cases hc : 0 <= at_ /\ at_ < ws.length
 ·rw [if_pos hc, if_pos hc]; rfl
 ·rw [if_neg hc, if_neg hc]; rfl
theorem readXT {J : AH O} {mb : Nat} {M : MemS} {X : List Nat} (h : MemIn J mb M X) (hc : M.calm) {id at_ : Int} (ha : -9223372036854775808 <= at_ /\ at_ <= 9223372036854775807) :
  Ok (qgo [.p (some (.n mb, 0)), .i .i64 id, .i .i64 at_] J) fun r => r.1 = .tup [.i .u64 (M.readR id at_).2.1, .i .i64 (M.readR id at_).2.2] /\ MemIn r.2 mb (M.readR id at_).1 X /\ Keep X J r.2 := by
 have key : ∀ F, MemAt J mb F M -> Ok (qgo [.p (some (.n mb, 0)), .i .i64 id, .i .i64 at_] J) fun r => r.1 = .tup [.i .u64 (M.readR id at_).2.1, .i .i64 (M.readR id at_).2.2] /\ Behind J mb F (M.readR id at_).1 r.2 := fun F hF => readT hF h.ok hc ha
 have hh := h
 obtain ⟨F, g1, _⟩ := hh
 obtain ⟨r, e, p1, _⟩ := key F g1
 refine ⟨r, e, p1, ?_⟩
 exact h.behind (F := F) (J' := r.2) fun F hF => by
  obtain ⟨r', e', _, b⟩ := key F hF
  rw [e] at e'; cases e'; exact b
theorem writeXT {J : AH O} {mb : Nat} {M : MemS} {X : List Nat} (h : MemIn J mb M X) (hc : M.calm) {id at_ x : Int} (ha : -9223372036854775808 <= at_ /\ at_ <= 9223372036854775807) :
  Ok (qgj [.p (some (.n mb, 0)), .i .i64 id, .i .i64 at_, .i .u64 x] J) fun r => r.1 = .i .i64 (M.writeR id at_ x).2 /\ MemIn r.2 mb (M.writeR id at_ x).1 X /\ Keep X J r.2 := by
 have key : ∀ F, MemAt J mb F M -> Ok (qgj [.p (some (.n mb, 0)), .i .i64 id, .i .i64 at_, .i .u64 x] J) fun r => r.1 = .i .i64 (M.writeR id at_ x).2 /\ Behind J mb F (M.writeR id at_ x).1 r.2 := fun F hF => writeT hF h.ok hc ha
 have hh := h
 obtain ⟨F, g1, _⟩ := hh
 obtain ⟨r, e, p1, _⟩ := key F g1
 refine ⟨r, e, p1, ?_⟩
 exact h.behind (F := F) (J' := r.2) fun F hF => by
  obtain ⟨r', e', _, b⟩ := key F hF
  rw [e] at e'; cases e'; exact b
theorem spSmall {M : MemS} (hok : M.ok) {sp : Int} {ws : List Int} (h : wordsOf M.sp sp = some ws) : 0 <= sp /\ sp < 262144 := by
 obtain ⟨h0, h1⟩ := wordsOf_some h
 have := (List.getElem?_eq_some_iff.1 h1).1
 have := hok.few
 omega
theorem Beh.rd {Y : List Int} {M : MemS} : Beh Y M (M.rd 1) 1 0 0 := ⟨by simp only [MemS.rd]; omega, by simp only [MemS.rd]; omega, by simp only [MemS.rd]; omega, by simp only [MemS.rd]; omega, by simp only [MemS.rd]; omega, fun _ _ => rfl⟩
theorem Beh.wrp {Y : List Int} {M : MemS} {id : Int} {w : List Int} (h0 : 0 <= id) (hY : id ∉ Y) : Beh Y M ((M.wr 1).put id.toNat w) 1 0 0 :=
 ⟨by simp only [MemS.wr, MemS.put]; omega, by simp only [MemS.wr, MemS.put]; omega, by simp only [MemS.wr, MemS.put]; omega, by simp only [MemS.wr, MemS.put]; omega, by simp only [MemS.wr, MemS.put]; omega, fun y hy => wordsOf_other (fun e => hY (e ▸ hy)) h0⟩
theorem lnew_ok {J : AH O} {mb : Nat} {M : MemS} {X : List Nat} {Y : List Int} (h : MemIn J mb M X) (hf : M.calm) (hcnt : M.count < 262144) (hY : ∀ y ∈ Y, wordsOf M.sp y ≠ none) :
  Ok (qcf [.p (some (.n mb, 0))] J) fun r => ∃ lb pb M' S, r.1 = .tup [.p (some (.n lb, 0)), .i .i64 0] /\ LarAt r.2 lb pb mb M' S [] ⟨[], [], 0, 0, 0, fun _ => none⟩ X Y /\ S = ⟨ff M.sp, 5, 0, [], [], 0⟩ /\ M' = M.opn (ff M.sp) 0 /\ Beh Y M M' 0 0 1 /\ Keep X J r.2 := by
 simp (maxSteps := 2000000) -implicitDefEqProofs (disch := (first | omega | rfl | assumption | (simp only [rsD]; first | omega | assumption))) only [qcf, qce, Nat.reduceAdd, Nat.reduceMul, Nat.reduceLT, Int.reduceToNat, Int.reduceAdd, Int.reduceSub, Int.reduceMul, rsU, rsC]
 refine Ok.step (pnew_ok h hf hcnt (n := 5) (by decide)) fun r ⟨pb, g1, g2, g3, g4⟩ => ?_
 obtain ⟨q, J1⟩ := r
 simp only at g1 g2 g4
 subst g1
 have e0 : ((0 : Int) != 0) = false := rfl
 simp (maxSteps := 2000000) -implicitDefEqProofs (disch := (first | omega | rfl | assumption | (simp only [rsD]; first | omega | assumption))) only [e0, Nat.reduceAdd, Nat.reduceMul, Nat.reduceLT, Int.reduceToNat, Int.reduceAdd, Int.reduceSub, Int.reduceMul, rsU, rsC]
 have hlX : ∀ b ∈ X, b < J1.next := fun b hb => g2.mi.lt _ (by simp [hb])
 have hbh : Beh Y M (M.opn (ff M.sp) 0) 0 0 1 := h.ok.opn' (by decide) (by decide) hcnt hY
 have hne : J1.next ∉ X := fun hm => by have := hlX _ hm; omega
 refine Ok_some.2 ⟨J1.next, pb, _, _, rfl, ⟨g2.turn (L := [J1.next]) ⟨by simp, fun b hb hm => by simp -implicitDefEqProofs (disch := omega) only [s_bn, s_bs, s_kn, bump_blk]⟩ (fun b hb => .inr (by simp at hb; omega)) (fun b hb => ?_), ⟨_, s_bs⟩, hne, rfl, Linked.nil _ _ _, Linked.nil _ _ _, fun i hi => by simp at hi, fun i hi => absurd rfl hi, ⟨fun i _ => rfl, fun i ws ho => by simp at ho, fun i j x a b c d hi => by simp [v5] at hi, fun y hy => ⟨by rw [hbh.keep y hy]; exact hY y hy, fun e => ?_⟩⟩, by decide, by decide, rfl⟩, rfl, rfl, hbh, g4.trans ⟨by simp, fun b hb => by have := hlX b hb; simp -implicitDefEqProofs (disch := omega) only [s_bn, s_bs, s_kn, bump_blk]⟩⟩
 ·rcases List.mem_cons.1 hb with rfl | hb
  ·exact .inr (by simp)
  ·exact .inl hb
 ·have := hY y hy
  cases hw : wordsOf M.sp y with
  | none => exact this hw
  | some ws => exact (opn_other (n := 0) hw).2 e
theorem ltab_ok {J : AH O} {lb pb mb : Nat} {M : MemS} {S : PoolS} {w : List Int} {X : List Nat} (hp : PoolAt J pb mb M S w (lb :: X)) (hw : S.words = 5) {el : TypeId} {a : AV} {cs : List AV} (hbb : J.blk lb = some (.cells true el (a :: .p (some (.n pb, 0)) :: cs))) :
  Ok (qh2 [.p (some (.n lb, 0))] J) fun r => r.1 = tbl S mb 2 3 /\ Ext J r.2 := by
 have hlt := hp.mi.lt lb (by simp)
 simp (maxSteps := 2000000) -implicitDefEqProofs (disch := (first | omega | rfl | assumption | (simp only [rsD]; first | omega | assumption))) only [qh2, qh1, hbb, Nat.reduceAdd, Nat.reduceMul, Nat.reduceLT, Int.reduceToNat, Int.reduceAdd, Int.reduceSub, Int.reduceMul, rsU, rsC]
 generalize hJ : (J.bump 1).put J.next (.cells true _ _) = J1
 obtain ⟨E1, b1, n1⟩ := boxed hJ
 clear hJ
 have pt := ptable_ok (hp.ext E1) (nx := 2) (pv := 3) (by omega) (by omega)
 rw [show ((2 : Nat) : Int) = 2 from rfl, show ((3 : Nat) : Int) = 3 from rfl] at pt
 refine Ok.step pt fun r ⟨g1, g2⟩ => ?_
 obtain ⟨q, J2⟩ := r
 simp only [tbl] at g1 g2
 subst g1
 have b2 : J2.blk J.next = _ := (g2.blk _ (by omega)).trans b1
 have n2 := g2.next
 simp (maxSteps := 2000000) -implicitDefEqProofs (disch := (first | omega | rfl | assumption | (simp only [rsD]; first | omega | assumption))) only [b2, Nat.reduceAdd, Nat.reduceMul, Nat.reduceLT, Int.reduceToNat, Int.reduceAdd, Int.reduceSub, Int.reduceMul, rsU, rsC]
 exact Ok_some.2 ⟨rfl, (E1.trans g2).put (Nat.le_refl _) _⟩
section
variable {J : AH O} {lb pb mb : Nat} {M : MemS} {S : PoolS} {w : List Int} {L : LarS} {X : List Nat} {Y : List Int} (h : LarAt J lb pb mb M S w L X Y)
include h
variable (hf : M.far 1000)
include hf
theorem lget_ok {i : Nat} {ws : List Int} (ho : L.ob i = some ws) {e : PE} (he : S.E[i]? = some e) {k : Nat} (hk : k < 5) {x : Int} (hx : e.ws[k]? = some x) :
  Ok (qjg [.p (some (.n pb, 0)), .i .i64 ((i : Int) + 1), .i .i64 (k : Int)] J) fun r => r.1 = .tup [.i .u64 x, .i .i64 0] /\ ∃ M', LarAt r.2 lb pb mb M' S w L X Y /\ Wrt M M' S.id w 2 0 /\ Keep (lb :: X) J r.2 := by
 have hc := hf.calm (by decide)
 obtain ⟨e', sp, mk, he', htk, _⟩ := h.at ho
 rw [he] at he'; cases he'
 refine (pget_ok h.p hc he htk (by rw [h.five]; exact hk) (by have := hf.1; omega)).mono fun r ⟨g1, M', g2, g3, g4⟩ => ⟨?_, M', h.read g2 g4 g3, g3, g4⟩
 rw [g1, List.getD_eq_getElem?_getD, hx]; rfl
theorem LarAt.beh2 {M' : MemS} (g3 : Wrt M M' S.id w 2 0) (hok : M'.ok) : Beh Y M M' 2 0 0 := (h.beh g3 hok (by decide) (by decide) rfl).as (by decide) rfl rfl
omit hf in
theorem LarAt.wrote {J' : AH O} {M' : MemS} {i : Nat} {e : PE} {ws ws' : List Int} {sp : Int} (he : S.E[i]? = some e) (ho : L.ob i = some ws) (hsp : e.ws[0]? = some sp) (hl : ws'.length = ws.length)
  (hw : wordsOf M'.sp sp = some ws') (hoth : ∀ y, y ≠ sp -> wordsOf M'.sp y = wordsOf M.sp y) (hm : MemIn J' mb M' (pb :: lb :: X)) (hk : Keep (pb :: lb :: X) J J') :
  LarAt J' lb pb mb M' S w { L with ob := fun j => if j = i then some ws' else L.ob j } X Y := by
 obtain ⟨e', sp', mk, he', htk, a1, a2, a3, a4, a5, a6, a7, a8, a9⟩ := h.at ho
 rw [he] at he'; cases he'
 rw [hsp] at a1; cases a1
 have hlen : ∀ j, (LarS.len { L with ob := fun j => if j = i then some ws' else L.ob j } j) = L.len j := fun j => by
  unfold LarS.len
  simp only
  by_cases hj : j = i
  ·subst hj; rw [if_pos rfl, ho]; exact hl
  ·rw [if_neg hj]
 have hv : v5 S.E i = some (sp, (ws.length : Int), mk) := v5_mk he htk hsp a2 a3
 refine { h with p := { h.p with mi := hm, b := hk.head.trans h.p.b, now := (hoth _ (Ne.symm a8)).trans h.p.now }, b := by obtain ⟨el, hb⟩ := h.b; exact ⟨el, hk.tail.head.trans hb⟩, all := fun j hj => ?_, o := ⟨fun j hj => ?_, fun j vs hj => ?_, h.o.apart, fun y hy => ⟨?_, (h.o.others y hy).2⟩⟩, sum := ?_ }
 ·simp only at hj
  by_cases hji : j = i
  ·subst hji; exact h.all j (by rw [ho]; simp)
  ·rw [if_neg hji] at hj; exact h.all j hj
 ·simp only at hj
  by_cases hji : j = i
  ·rw [if_pos hji] at hj; cases hj
  ·rw [if_neg hji] at hj; exact h.o.non j hj
 ·simp only at hj
  by_cases hji : j = i
  ·subst hji
   rw [if_pos rfl] at hj; cases hj
   exact ⟨sp, mk, by rw [hl]; exact hv, a4, a5, a6, hw, a8, a9⟩
  ·rw [if_neg hji] at hj
   obtain ⟨sq, mq, c1, c4, c5, c6, c7, c8, c9⟩ := h.o.at_ j vs hj
   refine ⟨sq, mq, c1, c4, c5, c6, (hoth sq fun e0 => hji ?_).trans c7, c8, c9⟩
   subst e0
   exact h.o.apart j i _ _ _ _ _ c1 hv
 ·rw [hoth y fun e0 => a9 (e0 ▸ hy)]; exact (h.o.others y hy).1
 ·rw [h.sum]
  congr 2
  exact List.map_congr_left fun j _ => (hlen j).symm
theorem lwrite_ok {i : Nat} {ws : List Int} (ho : L.ob i = some ws) {at_ x : Int} (ha : 0 <= at_ /\ at_ < ws.length) :
  Ok (qjl [.p (some (.n lb, 0)), .i .i64 ((i : Int) + 1), .i .i64 at_, .i .u64 x] J) fun r => r.1 = .i .i64 0 /\ ∃ M', LarAt r.2 lb pb mb M' S w { L with ob := fun j => if j = i then some (ws.set at_.toNat x) else L.ob j } X Y /\ Beh Y M M' 3 0 0 /\ Keep X J r.2 := by
 obtain ⟨el, hb⟩ := h.b
 simp only [LarS.cells] at hb
 obtain ⟨e, sp, mk, he, htk, a1, a2, a3, a4, a5, a6, a7, a8, a9⟩ := h.at ho
 have hs := spSmall h.p.mi.ok a7
 have hl := h.p.mi.wlen a7
 simp (maxSteps := 2000000) -implicitDefEqProofs (disch := (first | omega | rfl | assumption | (simp only [rsD]; first | omega | assumption))) only [qjl, qjk, hb, Nat.reduceAdd, Nat.reduceMul, Nat.reduceLT, Int.reduceToNat, Int.reduceAdd, Int.reduceSub, Int.reduceMul, rsU, rsC]
 have g := lget_ok h hf ho he (k := 0) (by decide) a1
 rw [show ((0 : Nat) : Int) = 0 from rfl] at g
 refine Ok.step g fun r ⟨g1, M1, g2, g3, g4⟩ => ?_
 obtain ⟨q, J1⟩ := r
 simp only at g1 g2 g4
 subst g1
 have e0 : ((0 : Int) != 0) = false := rfl
 obtain ⟨el1, hb1⟩ := g2.b
 simp only [LarS.cells] at hb1
 simp (maxSteps := 2000000) -implicitDefEqProofs (disch := (first | omega | rfl | assumption | (simp only [rsD]; first | omega | assumption))) only [e0, hb1, Nat.reduceAdd, Nat.reduceMul, Nat.reduceLT, Int.reduceToNat, Int.reduceAdd, Int.reduceSub, Int.reduceMul, rsU, rsC]
 have b1 := h.beh2 hf g3 g2.p.mi.ok
 have hf1 : M1.far 998 := b1.far (hf.less (by decide))
 have wr := writeXT g2.p.mi (hf1.calm (by decide)) (id := sp) (at_ := at_) (x := x) (by omega)
 have a7' : wordsOf M1.sp sp = some ws := g3.oth h.p.now sp ws a8 a7
 rw [writeR_of a7', if_pos ha] at wr
 refine Ok.step wr fun r ⟨k1, k2, k3⟩ => ?_
 obtain ⟨q, J2⟩ := r
 simp only at k1 k2 k3
 subst k1
 simp (maxSteps := 2000000) -implicitDefEqProofs (disch := (first | omega | rfl | assumption | (simp only [rsD]; first | omega | assumption))) only [Nat.reduceAdd, Nat.reduceMul, Nat.reduceLT, Int.reduceToNat, Int.reduceAdd, Int.reduceSub, Int.reduceMul, rsU, rsC]
 have hin : wordsOf ((M1.wr 1).put sp.toNat (ws.set at_.toNat x)).sp sp = some (ws.set at_.toNat x) := by
  obtain ⟨h0, h1⟩ := wordsOf_some a7'
  refine wordsOf_mk h0 ?_
  show (M1.sp.set sp.toNat _)[sp.toNat]? = _
  rw [List.getElem?_set]; simp [(List.getElem?_eq_some_iff.1 h1).1]
 exact Ok_some.2 ⟨rfl, _, g2.wrote he ho a1 (by simp) hin (fun y hy => wordsOf_other hy hs.1) k2 k3, (b1.trans (Beh.wrp hs.1 a9)).as (by decide) rfl rfl, g4.tail.trans k3.tail.tail⟩
theorem lmarked_ok {i : Nat} {ws : List Int} (ho : L.ob i = some ws) :
  Ok (qp7 [.p (some (.n lb, 0)), .i .i64 ((i : Int) + 1)] J) fun r => r.1 = .tup [.b (decide (i ∈ L.H)), .i .i64 0] /\ ∃ M', LarAt r.2 lb pb mb M' S w L X Y /\ Wrt M M' S.id w 2 0 /\ Keep (lb :: X) J r.2 := by
 obtain ⟨el, hb⟩ := h.b
 simp only [LarS.cells] at hb
 obtain ⟨e, sp, mk, he, htk, a1, a2, a3, a4, a5, a6, a7, a8, a9⟩ := h.at ho
 simp (maxSteps := 2000000) -implicitDefEqProofs (disch := (first | omega | rfl | assumption | (simp only [rsD]; first | omega | assumption))) only [qp7, qp6, hb, Nat.reduceAdd, Nat.reduceMul, Nat.reduceLT, Int.reduceToNat, Int.reduceAdd, Int.reduceSub, Int.reduceMul, rsU, rsC]
 have g := lget_ok h hf ho he (k := 4) (by decide) a3
 rw [show ((4 : Nat) : Int) = 4 from rfl] at g
 refine Ok.step g fun r ⟨g1, M', g2, g3, g4⟩ => ?_
 obtain ⟨q, J1⟩ := r
 simp only at g1 g2 g4
 subst g1
 have e0 : ((0 : Int) == 0) = true := rfl
 obtain ⟨el1, hb1⟩ := g2.b
 simp only [LarS.cells] at hb1
 have em : (mk == L.ep) = decide (i ∈ L.H) := by
  rw [Bool.eq_iff_iff]; simp [a6]
 simp (maxSteps := 2000000) -implicitDefEqProofs (disch := (first | omega | rfl | assumption | (simp only [rsD]; first | omega | assumption))) only [e0, hb1, em, Nat.reduceAdd, Nat.reduceMul, Nat.reduceLT, Int.reduceToNat, Int.reduceAdd, Int.reduceSub, Int.reduceMul, rsU, rsC]
 exact Ok_some.2 ⟨rfl, M', g2, g3, g4⟩
end
end Go.Abs.Tryz
namespace Go.Abs.Tryz
open Go Go.Abs
variable {O : Type}
theorem Objs.add {M M' : MemS} {V V' : Nat -> Option (Int × Int × Int)} {sid : Int} {ob : Nat -> Option (List Int)} {ep : Int} {H : List Nat} {Y : List Int} (h : Objs M V sid ob ep H Y) {i : Nat} (hi : ob i = none) {sp : Int} {n : Nat} (h0 : 0 <= ep)
  (hV : ∀ j, V' j = if j = i then some (sp, (n : Int), ep) else V j) (hw : ∀ y v, y ≠ sid -> wordsOf M.sp y = some v -> wordsOf M'.sp y = some v) (hsp : wordsOf M'.sp sp = some (List.replicate n 0)) (hne : sp ≠ sid) (hY : sp ∉ Y) (hfr : ∀ y v, wordsOf M.sp y = some v -> y ≠ sp) :
  Objs M' V' sid (fun j => if j = i then some (List.replicate n 0) else ob j) ep (H ++ [i]) Y := by
 have far : ∀ (j : Nat) (x a b : Int), V j = some (x, a, b) -> x ≠ sp := fun j x a b hj => by
  cases ho : ob j with
  | none => rw [h.non j ho] at hj; cases hj
  | some ws =>
   obtain ⟨sq, mk, c1, _, _, _, c7, _⟩ := h.at_ j ws ho
   rw [c1] at hj; cases hj
   exact hfr _ _ c7
 refine ⟨fun j hj => ?_, fun j ws hj => ?_, fun j k x a b c d hj hk => ?_, (h.mem hw).others⟩
 ·by_cases hji : j = i
  ·rw [if_pos hji] at hj; cases hj
  ·rw [if_neg hji] at hj
   rw [hV, if_neg hji]; exact h.non j hj
 ·by_cases hji : j = i
  ·rw [if_pos hji] at hj; cases hj
   refine ⟨sp, ep, by rw [hV, if_pos hji]; simp, h0, Int.le_refl _, ?_, hsp, hne, hY⟩
   simp [hji]
  ·rw [if_neg hji] at hj
   obtain ⟨sq, mk, c1, c4, c5, c6, c7, c8, c9⟩ := h.at_ j ws hj
   refine ⟨sq, mk, by rw [hV, if_neg hji]; exact c1, c4, c5, ?_, hw _ _ c8 c7, c8, c9⟩
   rw [c6]; simp [hji]
 ·rw [hV] at hj hk
  by_cases hji : j = i
  ·by_cases hki : k = i
   ·rw [hji, hki]
   ·rw [if_pos hji] at hj; cases hj
    rw [if_neg hki] at hk
    exact absurd rfl (far _ _ _ _ hk)
  ·rw [if_neg hji] at hj
   by_cases hki : k = i
   ·rw [if_pos hki] at hk; cases hk
    exact absurd rfl (far _ _ _ _ hj)
   ·rw [if_neg hki] at hk
    exact h.apart _ _ _ _ _ _ _ hj hk
theorem len_congr {L L' : LarS} {l : List Nat} (h : ∀ j ∈ l, L'.ob j = L.ob j) : (l.map L'.len).sum = (l.map L.len).sum := by
 congr 1
 exact List.map_congr_left fun j hj => by unfold LarS.len; rw [h j hj]
theorem openXT {J : AH O} {mb : Nat} {M : MemS} {X : List Nat} (h : MemIn J mb M X) (hc : M.calm) {n : Int} :
  Ok (qb0 [.p (some (.n mb, 0)), .i .i64 n] J) fun r => r.1 = .tup [.i .i64 (M.opnR n).2.1, .i .i64 (M.opnR n).2.2] /\ MemIn r.2 mb (M.opnR n).1 X /\ Keep X J r.2 := by
 have key : ∀ F, MemAt J mb F M -> Ok (qb0 [.p (some (.n mb, 0)), .i .i64 n] J) fun r => r.1 = .tup [.i .i64 (M.opnR n).2.1, .i .i64 (M.opnR n).2.2] /\ Behind J mb F (M.opnR n).1 r.2 := fun F hF => openT hF h.ok hc
 have hh := h
 obtain ⟨F, g1, _⟩ := hh
 obtain ⟨r, e, p1, _⟩ := key F g1
 refine ⟨r, e, p1, ?_⟩
 exact h.behind (F := F) (J' := r.2) fun F hF => by
  obtain ⟨r', e', _, b⟩ := key F hF
  rw [e] at e'; cases e'; exact b
section
variable {J : AH O} {lb pb mb : Nat} {M : MemS} {S : PoolS} {w : List Int} {L : LarS} {X : List Nat} {Y : List Int} (h : LarAt J lb pb mb M S w L X Y) (hf : M.far 1000)
include h hf
theorem ladd_ok {n : Int} (h1 : 1 <= n) (h2 : n <= 4194304) (hcnt : M.count < 262144) (hR : S.more * 6 <= 4194304) :
  Ok (qjb [.p (some (.n lb, 0)), .i .i64 n] J) fun r => r.1 = .tup [.i .i64 (((S.took.1 : Nat) : Int) + 1), .i .i64 0] /\ L.ob S.took.1 = none /\ ∃ M' S' w', LarAt r.2 lb pb mb M' S' w' { L with H := L.H ++ [S.took.1], words := L.words + n, ob := fun j => if j = S.took.1 then some (List.replicate n.toNat 0) else L.ob j } X Y /\ Alike S.took.2 S' /\ Beh Y M M' 24 (n + 6 * ((S.took.2.room : Int) - S.room)) 1 /\ Keep X J r.2 := by
 obtain ⟨el, hb⟩ := h.b
 simp only [LarS.cells] at hb
 have hc := hf.calm (by decide)
 have e0 : ((0 : Int) != 0) = false := rfl
 have h5 := h.five
 have hel := h.el
 have hhw := h.hw
 have hwb := h.wb
 have hep := h.ep
 simp (maxSteps := 2000000) -implicitDefEqProofs (disch := (first | omega | rfl | assumption | (simp only [rsD]; first | omega | assumption))) only [qjb, qja, hb, Nat.reduceAdd, Nat.reduceMul, Nat.reduceLT, Int.reduceToNat, Int.reduceAdd, Int.reduceSub, Int.reduceMul, rsU, rsC]
 refine Ok.step (openX h.p.mi hc (n := n) (by omega) h2 hcnt) fun r ⟨g1, g2, g3⟩ => ?_
 obtain ⟨q, J1⟩ := r
 simp only at g1 g2 g3
 subst g1
 have b1 : Beh Y M (M.opn (ff M.sp) n) 0 n 1 := h.p.mi.ok.opn' (by omega) h2 hcnt (fun y hy => (h.o.others y hy).1)
 have w1 : ∀ y v, wordsOf M.sp y = some v -> wordsOf (M.opn (ff M.sp) n).sp y = some v /\ y ≠ ff M.sp := fun y v hv => opn_other hv
 have hnow : wordsOf (M.opn (ff M.sp) n).sp (ff M.sp) = some (List.replicate n.toNat 0) := opn_words
 generalize hffe : ((ff M.sp : Nat) : Int) = sp at *
 generalize M.opn (ff M.sp) n = M1 at *
 have hsp := spSmall g2.ok hnow
 have p1 : PoolAt J1 pb mb M1 S w (lb :: X) := { h.p with mi := g2, b := g3.head.trans h.p.b, now := (w1 _ _ h.p.now).1 }
 have hb1 : J1.blk lb = _ := g3.tail.head.trans hb
 have f1 : M1.far 1000 := b1.far (hf.less (by decide))
 simp (maxSteps := 2000000) -implicitDefEqProofs (disch := (first | omega | rfl | assumption | (simp only [rsD]; first | omega | assumption))) only [e0, hb1, Nat.reduceAdd, Nat.reduceMul, Nat.reduceLT, Int.reduceToNat, Int.reduceAdd, Int.reduceSub, Int.reduceMul, rsU, rsC]
 refine Ok.step (ptake_p p1 (f1.calm (by decide)) (by omega) (by rw [h.five]; exact hR) ⟨by have := f1.1; omega, by have := f1.2; omega⟩) fun r ⟨g, k1, t, M2, w2, dr, dw, p2, q2, d1, d2, d3, d4, kp2⟩ => ?_
 obtain ⟨q, J2⟩ := r
 simp only at k1 p2 kp2
 subst k1
 have hte := p2.p.len
 generalize S.took.1 = i at *
 generalize S.took.2 = S1 at *
 have hid : S1.id = S.id := t.id
 have hw1 : S1.words = 5 := t.words.trans h.five
 have hnow1 : S1.E[i]? = some ⟨true, g, [0, 0, 0, 0, 0]⟩ := by rw [t.now, h.five]; rfl
 have hi1 := (List.getElem?_eq_some_iff.1 hnow1).1
 have hobi : L.ob i = none := by
  cases ho : L.ob i with
  | none => rfl
  | some ws =>
   obtain ⟨e, sq, mk, he, htk, _⟩ := h.at ho
   have := (t.was e he).1
   rw [htk] at this; cases this
 have hiH : i ∉ L.H := fun hm => by obtain ⟨e, ws, _, _, ho⟩ := h.mem (.inl hm); rw [hobi] at ho; cases ho
 have hiW : i ∉ L.W := fun hm => by obtain ⟨e, ws, _, _, ho⟩ := h.mem (.inr hm); rw [hobi] at ho; cases ho
 have hL1 : Linked S1.E 2 3 L.H := h.lH.other fun j hj => t.other j fun e => hiH (e ▸ hj)
 have hW1 : Linked S1.E 2 3 L.W := h.lW.other fun j hj => t.other j fun e => hiW (e ▸ hj)
 have hb2 : J2.blk lb = _ := kp2.head.trans hb1
 have c2 := Beh.wrt p1.mi.ok p2.mi.ok p1.now q2 d1 (by omega) h.idY
 have f2 : M2.far 990 := c2.far (f1.less (by omega))
 simp (maxSteps := 2000000) -implicitDefEqProofs (disch := (first | omega | rfl | assumption | (simp only [rsD]; first | omega | assumption))) only [e0, hb2, Nat.reduceAdd, Nat.reduceMul, Nat.reduceLT, Int.reduceToNat, Int.reduceAdd, Int.reduceSub, Int.reduceMul, rsU, rsC]
 have ps := pset_ok p2 (f2.calm (by decide)) (k := 0) (x := sp) hnow1 rfl (by omega) (by have := f2.1; omega)
 rw [show ((0 : Nat) : Int) = 0 from rfl] at ps
 refine Ok.step ps fun r ⟨s1, M3, w3, p3, q3, kp3⟩ => ?_
 obtain ⟨q, J3⟩ := r
 simp only [List.set_cons_zero, List.set_cons_succ] at s1 p3 kp3
 subst s1
 have hb3 : J3.blk lb = _ := kp3.head.trans hb2
 have c3 := Beh.wrt p2.mi.ok p3.mi.ok p2.now q3 (by decide) (by decide) (hid ▸ h.idY)
 have f3 : M3.far 980 := c3.far (f2.less (by decide))
 have hnow3 : (S1.E.set i ⟨true, g, [sp, 0, 0, 0, 0]⟩)[i]? = some ⟨true, g, [sp, 0, 0, 0, 0]⟩ := by rw [List.getElem?_set]; simp [hi1]
 simp (maxSteps := 2000000) -implicitDefEqProofs (disch := (first | omega | rfl | assumption | (simp only [rsD]; first | omega | assumption))) only [hb3, Nat.reduceAdd, Nat.reduceMul, Nat.reduceLT, Int.reduceToNat, Int.reduceAdd, Int.reduceSub, Int.reduceMul, rsU, rsC]
 have ps := pset_ok p3 (f3.calm (by decide)) (k := 1) (x := n) hnow3 rfl (by show 1 < S1.words; omega) (by have := f3.1; omega)
 rw [show ((1 : Nat) : Int) = 1 from rfl] at ps
 refine Ok.step ps fun r ⟨s1, M4, w4, p4, q4, kp4⟩ => ?_
 obtain ⟨q, J4⟩ := r
 simp only [List.set_cons_zero, List.set_cons_succ, List.set_set] at s1 p4 kp4
 subst s1
 have hb4 : J4.blk lb = _ := kp4.head.trans hb3
 have c4 := Beh.wrt p3.mi.ok p4.mi.ok p3.now q4 (by decide) (by decide) (hid ▸ h.idY)
 have f4 : M4.far 970 := c4.far (f3.less (by decide))
 have hnow4 : (S1.E.set i ⟨true, g, [sp, n, 0, 0, 0]⟩)[i]? = some ⟨true, g, [sp, n, 0, 0, 0]⟩ := by rw [List.getElem?_set]; simp [hi1]
 simp (maxSteps := 2000000) -implicitDefEqProofs (disch := (first | omega | rfl | assumption | (simp only [rsD]; first | omega | assumption))) only [hb4, Nat.reduceAdd, Nat.reduceMul, Nat.reduceLT, Int.reduceToNat, Int.reduceAdd, Int.reduceSub, Int.reduceMul, rsU, rsC]
 have ps := pset_ok p4 (f4.calm (by decide)) (k := 4) (x := L.ep) hnow4 rfl (by show 4 < S1.words; omega) (by have := f4.1; omega)
 rw [show ((4 : Nat) : Int) = 4 from rfl] at ps
 refine Ok.step ps fun r ⟨s1, M5, w5, p5, q5, kp5⟩ => ?_
 obtain ⟨q, J5⟩ := r
 simp only [List.set_cons_zero, List.set_cons_succ, List.set_set] at s1 p5 kp5
 subst s1
 have hb5 : J5.blk lb = _ := kp5.head.trans hb4
 have c5 := Beh.wrt p4.mi.ok p5.mi.ok p4.now q5 (by decide) (by decide) (hid ▸ h.idY)
 have f5 : M5.far 960 := c5.far (f4.less (by decide))
 have hnow5 : (S1.E.set i ⟨true, g, [sp, n, 0, 0, L.ep]⟩)[i]? = some ⟨true, g, [sp, n, 0, 0, L.ep]⟩ := by rw [List.getElem?_set]; simp [hi1]
 have oth5 : ∀ j, j ≠ i -> (S1.E.set i (⟨true, g, [sp, n, 0, 0, L.ep]⟩ : PE))[j]? = S1.E[j]? := fun j hj => by rw [List.getElem?_set, if_neg (fun e : i = j => hj e.symm)]
 have hL5 : Linked (S1.E.set i ⟨true, g, [sp, n, 0, 0, L.ep]⟩) 2 3 L.H := hL1.other fun j hj => oth5 j fun e => hiH (e ▸ hj)
 have hW5 : Linked (S1.E.set i ⟨true, g, [sp, n, 0, 0, L.ep]⟩) 2 3 L.W := hW1.other fun j hj => oth5 j fun e => hiW (e ▸ hj)
 simp (maxSteps := 2000000) -implicitDefEqProofs (disch := (first | omega | rfl | assumption | (simp only [rsD]; first | omega | assumption))) only [hb5, Nat.reduceAdd, Nat.reduceMul, Nat.reduceLT, Int.reduceToNat, Int.reduceAdd, Int.reduceSub, Int.reduceMul, rsU, rsC]
 refine Ok.step (ltab_ok p5 hw1 hb5) fun r ⟨g1, g6⟩ => ?_
 obtain ⟨q, J6⟩ := r
 simp only [tbl] at g1 g6
 subst g1
 have hlt5 : lb < J5.next := p5.mi.lt _ (by simp)
 have hb6 : J6.blk lb = _ := (g6.blk _ hlt5).trans hb5
 simp (maxSteps := 2000000) -implicitDefEqProofs (disch := (first | omega | rfl | assumption | (simp only [rsD]; first | omega | assumption))) only [hb6, Nat.reduceAdd, Nat.reduceMul, Nat.reduceLT, Int.reduceToNat, Int.reduceAdd, Int.reduceSub, Int.reduceMul, rsU, rsC]
 have tp := tpush_okF (p5.ext g6) (nx := 2) (pv := 3) (by show 2 < S1.words; omega) (by show 3 < S1.words; omega) (by decide) hL5 ⟨by have := f5.1; omega, by have := f5.2; omega⟩ (by omega) hiH hnow5 rfl
 simp only [tbl, chn] at tp
 refine Ok.step tp fun r ⟨s1, M7, w7, E7, dw7, p7, sb7, l7, q7, z1, z2, kp7, fr7⟩ => ?_
 obtain ⟨q, J7⟩ := r
 simp only at s1 p7 kp7
 subst s1
 have hb7 : J7.blk lb = _ := kp7.head.trans hb6
 have hlt7 := p7.mi.lt lb (by simp)
 have c7 := Beh.wrt (p5.ext g6).mi.ok p7.mi.ok (p5.ext g6).now q7 (by decide) (by omega) (hid ▸ h.idY)
 simp (maxSteps := 2000000) -implicitDefEqProofs (disch := (first | omega | rfl | assumption | (simp only [rsD]; first | omega | assumption))) only [hb7, Nat.reduceAdd, Nat.reduceMul, Nat.reduceLT, Int.reduceToNat, Int.reduceAdd, Int.reduceSub, Int.reduceMul, rsU, rsC]
 have hlen7 : w7.length = S1.room * 6 := by have := p7.p.len; simp only at this; rw [hw1] at this; exact this
 have hpx := p7.nx
 have hv7 : v5 E7 = fun j => if j = i then some (sp, ((n.toNat : Nat) : Int), L.ep) else v5 S.E j := by
  rw [v5_same sb7]
  funext j
  rw [v5_set hi1]
  by_cases hj : j = i
  ·subst hj; simp only [↓reduceIte]; rw [Int.toNat_of_nonneg (by omega)]; rfl
  ·simp only [if_neg hj]
   unfold v5; rw [t.other j hj]
 have al : Alike S1 { S1 with E := E7 } := (Alike.set (S := S1) (ws := [sp, n, 0, 0, L.ep]) hnow1).trans (Alike.same (S := { S1 with E := S1.E.set i ⟨true, g, [sp, n, 0, 0, L.ep]⟩ }) sb7)
 have w71 : ∀ y v, y ≠ S.id -> wordsOf M1.sp y = some v -> wordsOf M7.sp y = some v := fun y v hy hv => by
  have hy1 : y ≠ S1.id := by rw [hid]; exact hy
  exact q7.oth (p5.ext g6).now y v hy1 (q5.oth p4.now y v hy1 (q4.oth p3.now y v hy1 (q3.oth p2.now y v hy1 (q2.oth p1.now y v hy hv))))
 have spn : sp ≠ S.id := fun e => (w1 _ _ h.p.now).2 e.symm
 have bt := (((((b1.trans c2).trans c3).trans c4).trans c5).trans c7)
 refine Ok_some.2 ⟨rfl, hobi, M7, _, w7, ⟨p7.turn (L := [lb]) ⟨by simp, fun b hb hm => by simp at hm; simp -implicitDefEqProofs (disch := omega) only [s_bn, s_bs, s_kn, bump_blk]⟩ (fun b hb => by simp at hb; subst hb; exact .inl (by simp)) fun b hb => .inl hb, ⟨_, s_bs⟩, h.nx, hw1, l7, hW5.other fun j hj => fr7 j (fun hm => h.dis j hm hj) (fun e => hiW (e ▸ hj)), fun j hj hjW => ?_, fun j hj => ?_, ?_, h.ep, h.last, ?_⟩, al, bt.as (by omega) ?_ rfl, ?_⟩
 ·rcases List.mem_append.1 hj with hj | hj
  ·exact h.dis j hj hjW
  ·simp at hj; subst hj; exact hiW hjW
 ·simp only at hj
  by_cases hji : j = i
  ·exact .inl (by simp [hji])
  ·rw [if_neg hji] at hj
   rcases h.all j hj with g | g
   ·exact .inl (by simp [g])
   ·exact .inr g
 ·show Objs M7 (v5 E7) S1.id _ _ _ _
  rw [hid]
  exact h.o.add hobi hep.1 (fun j => by rw [hv7]) (fun y v hy hv => w71 y v hy (w1 y v hv).1) (w71 sp _ spn hnow) spn (fun hm => by
   obtain ⟨g, _⟩ := h.o.others sp hm
   cases hv : wordsOf M.sp sp with
   | none => exact g hv
   | some v => exact (w1 _ _ hv).2 rfl) (fun y v hv => (w1 y v hv).2)
 ·have hs := h.sum
  have e1 := len_congr (L := L) (L' := { L with H := L.H ++ [i], words := L.words + n, ob := fun j => if j = i then some (List.replicate n.toNat 0) else L.ob j }) (l := L.H) (fun j hj => if_neg (fun e : j = i => hiH (e ▸ hj)))
  have e2 := len_congr (L := L) (L' := { L with H := L.H ++ [i], words := L.words + n, ob := fun j => if j = i then some (List.replicate n.toNat 0) else L.ob j }) (l := L.W) (fun j hj => if_neg (fun e : j = i => hiW (e ▸ hj)))
  have e3 : LarS.len { L with H := L.H ++ [i], words := L.words + n, ob := fun j => if j = i then some (List.replicate n.toNat 0) else L.ob j } i = n.toNat := by unfold LarS.len; simp
  simp only [List.map_append, List.sum_append, List.map_cons, List.map_nil, List.sum_cons, List.sum_nil] at hs ⊢
  omega
 ·have := h.wl
  have e2 := p2.p.len
  have e3 := p3.p.len
  have e4 := p4.p.len
  have e5 := p5.p.len
  simp only at e2 e3 e4 e5
  rw [hw1] at e2 e3 e4 e5
  omega
 ·exact ((((((g3.tail.tail.trans kp2.tail).trans kp3.tail).trans kp4.tail).trans kp5.tail).trans ⟨g6.next, fun b hb => g6.blk b (p5.mi.lt b (by simp [hb]))⟩).trans kp7.tail).trans (Keep.put h.nx _)
end
end Go.Abs.Tryz
namespace Go.Abs.Tryz
open Go Go.Abs
variable {O : Type}
theorem Objs.begin {M : MemS} {V : Nat -> Option (Int × Int × Int)} {sid : Int} {ob : Nat -> Option (List Int)} {ep : Int} {H : List Nat} {Y : List Int} (h : Objs M V sid ob ep H Y) : Objs M V sid ob (ep + 1) [] Y :=
 ⟨h.non, fun i ws ho => by
  obtain ⟨sp, mk, a1, a2, a3, a4, a5, a6, a7⟩ := h.at_ i ws ho
  exact ⟨sp, mk, a1, a2, by omega, ⟨fun e => by omega, fun hm => by cases hm⟩, a5, a6, a7⟩, h.apart, h.others⟩
theorem Objs.mark {M : MemS} {V V' : Nat -> Option (Int × Int × Int)} {sid : Int} {ob : Nat -> Option (List Int)} {ep : Int} {H : List Nat} {Y : List Int} (h : Objs M V sid ob ep H Y) {i : Nat} {ws : List Int} (ho : ob i = some ws) {sp mk : Int} (h0 : 0 <= ep) (hi : V i = some (sp, (ws.length : Int), mk))
  (hV : ∀ j, V' j = if j = i then some (sp, (ws.length : Int), ep) else V j) : Objs M V' sid ob ep (H ++ [i]) Y := by
 have back : ∀ (j : Nat) (x a b : Int), V' j = some (x, a, b) -> ∃ a' b', V j = some (x, a', b') := fun j x a b hj => by
  rw [hV] at hj
  split at hj
  ·rename_i e; subst e; cases hj; exact ⟨_, _, hi⟩
  ·exact ⟨_, _, hj⟩
 refine ⟨fun j hj => ?_, fun j vs hj => ?_, fun j k x a b c d hj hk => ?_, h.others⟩
 ·rw [hV, if_neg (fun e => by subst e; rw [ho] at hj; cases hj)]; exact h.non j hj
 ·obtain ⟨sq, mq, c1, c4, c5, c6, c7, c8, c9⟩ := h.at_ j vs hj
  by_cases hji : j = i
  ·subst hji
   rw [ho] at hj; cases hj
   rw [hi] at c1
   simp only [Option.some.injEq, Prod.mk.injEq] at c1
   obtain ⟨rfl, _, rfl⟩ := c1
   exact ⟨sp, ep, by rw [hV, if_pos rfl], h0, Int.le_refl _, by simp, c7, c8, c9⟩
  ·exact ⟨sq, mq, by rw [hV, if_neg hji]; exact c1, c4, c5, by rw [c6]; simp [hji], c7, c8, c9⟩
 ·obtain ⟨a', b', g1⟩ := back j x a b hj
  obtain ⟨c', d', g2⟩ := back k x c d hk
  exact h.apart _ _ _ _ _ _ _ g1 g2
theorem eraseIdx_filter : ∀ {W : List Nat} {d i : Nat}, W.Nodup -> W[d]? = some i -> W.eraseIdx d = W.filter (fun j => j != i)
 | [], d, i, _, h => by simp at h
 | a :: W, 0, i, hn, h => by
  simp at h; subst h
  have := List.nodup_cons.1 hn
  simp only [List.eraseIdx_cons_zero]
  rw [List.filter_cons_of_neg (by simp)]
  exact (List.filter_eq_self.2 fun x hx => by simp; exact fun e => this.1 (e ▸ hx)).symm
 | a :: W, d + 1, i, hn, h => by
  have hn := List.nodup_cons.1 hn
  have hm := List.mem_of_getElem? (show W[d]? = some i by simpa using h)
  rw [List.eraseIdx_cons_succ, List.filter_cons_of_pos (by simp; exact fun e => hn.1 (e ▸ hm)), eraseIdx_filter hn.2 (by simpa using h)]
theorem sum_erase {f : Nat -> Nat} : ∀ {W : List Nat} {d i : Nat}, W[d]? = some i -> ((W.eraseIdx d).map f).sum + f i = (W.map f).sum
 | [], d, i, h => by simp at h
 | a :: W, 0, i, h => by simp at h; subst h; simp; omega
 | a :: W, d + 1, i, h => by
  simp only [List.eraseIdx_cons_succ, List.map_cons, List.sum_cons]
  have := sum_erase (f := f) (W := W) (d := d) (i := i) (by simpa using h)
  omega
theorem put_facts {J J1 : AH O} {b : Nat} {x : Blk O} (h : J.put b x = J1) : J1.blk b = some x /\ J1.next = J.next /\ ∀ q, q ≠ b -> J1.blk q = J.blk q := by
 subst h; exact ⟨s_bs, rfl, fun q hq => s_bn hq⟩
section
variable {J : AH O} {lb pb mb : Nat} {M : MemS} {S : PoolS} {w : List Int} {L : LarS} {X : List Nat} {Y : List Int} (h : LarAt J lb pb mb M S w L X Y) (hf : M.far 1000)
include h hf
omit hf in
theorem LarAt.mid {J' : AH O} {M' : MemS} {E' : List PE} {w' : List Int} {dr dw : Int} (hp : PoolAt J' pb mb M' { S with E := E' } w' (lb :: X)) (hq : Wrt M M' S.id w' dr dw) (h0 : 0 <= dr) (h1 : 0 <= dw) (hs : SameBut 2 3 S.E E') : Beh Y M M' (dr + dw) 0 0 := by
 refine h.beh hq hp.mi.ok h0 h1 ?_
 have := hp.p.len
 simp only at this
 rw [this, h.five, h.wl]
theorem lbegin_ok (hep : L.ep + 1 < 4611686018427387904) :
  Ok (qn9 [.p (some (.n lb, 0))] J) fun r => r.1 = .tup [] /\ ∃ M' S' w', LarAt r.2 lb pb mb M' S' w' { L with H := [], W := L.W ++ L.H, ep := L.ep + 1, last := 0 } X Y /\ Alike S S' /\ Beh Y M M' 2 0 0 /\ Keep X J r.2 := by
 obtain ⟨el, hb⟩ := h.b
 simp only [LarS.cells] at hb
 have hel := h.el
 have hhw := h.hw
 have hep0 := h.ep
 simp (maxSteps := 2000000) -implicitDefEqProofs (disch := (first | omega | rfl | assumption | (simp only [rsD]; first | omega | assumption))) only [qn9, qn8, hb, Nat.reduceAdd, Nat.reduceMul, Nat.reduceLT, Int.reduceToNat, Int.reduceAdd, Int.reduceSub, Int.reduceMul, rsU, rsC]
 generalize hJ : J.put lb (.cells true el _) = J1
 obtain ⟨hb1, n1, _⟩ := put_facts hJ
 have k1 : Keep X J J1 := by rw [<- hJ]; exact Keep.put h.nx _
 have p1 : PoolAt J1 pb mb M S w (lb :: X) := by
  rw [<- hJ]
  exact h.p.turn (L := [lb]) ⟨by simp, fun b hb hm => by simp at hm; simp -implicitDefEqProofs (disch := omega) only [s_bn, s_bs, s_kn, bump_blk]⟩ (fun b hb => by simp at hb; subst hb; exact .inl (by simp)) fun b hb => .inl hb
 clear hJ
 refine Ok.step (ltab_ok p1 h.five hb1) fun r ⟨g1, g2⟩ => ?_
 obtain ⟨q, J2⟩ := r
 simp only [tbl] at g1 g2
 subst g1
 have hlt1 := p1.mi.lt lb (by simp)
 have hb2 : J2.blk lb = _ := (g2.blk _ hlt1).trans hb1
 simp (maxSteps := 2000000) -implicitDefEqProofs (disch := (first | omega | rfl | assumption | (simp only [rsD]; first | omega | assumption))) only [hb2, Nat.reduceAdd, Nat.reduceMul, Nat.reduceLT, Int.reduceToNat, Int.reduceAdd, Int.reduceSub, Int.reduceMul, rsU, rsC]
 have tj := tjoin_ok (p1.ext g2) (nx := 2) (pv := 3) (by rw [h.five]; decide) (by rw [h.five]; decide) (by decide) h.lW h.lH (fun i hi hm => h.dis i hm hi) ⟨by have := hf.1; omega, by have := hf.2; omega⟩ (by omega) (by omega)
 simp only [tbl, chn] at tj
 refine Ok.step tj fun r ⟨s1, M3, w3, E3, dw3, p3, sb3, l3, q3, z1, z2, kp3, fr3⟩ => ?_
 obtain ⟨q, J3⟩ := r
 simp only at s1 p3 kp3
 subst s1
 have hb3 : J3.blk lb = _ := kp3.head.trans hb2
 simp (maxSteps := 2000000) -implicitDefEqProofs (disch := (first | omega | rfl | assumption | (simp only [rsD]; first | omega | assumption))) only [hb3, Nat.reduceAdd, Nat.reduceMul, Nat.reduceLT, Int.reduceToNat, Int.reduceAdd, Int.reduceSub, Int.reduceMul, rsU, rsC]
 refine Ok_some.2 ⟨rfl, M3, _, w3, ⟨p3.turn (L := [lb]) ⟨by simp, fun b hb hm => by simp at hm; simp -implicitDefEqProofs (disch := omega) only [s_bn, s_bs, s_kn, bump_blk]⟩ (fun b hb => by simp at hb; subst hb; exact .inl (by simp)) fun b hb => .inl hb, ⟨_, s_bs⟩, h.nx, h.five, Linked.nil _ _ _, l3, fun i hi => by simp at hi, fun j hj => ?_, ?_, ⟨by simp only; omega, by simp only; omega⟩, by simp only; omega, ?_⟩, Alike.same sb3, (h.mid p3 q3 (by decide) z1 sb3).as (by omega) rfl rfl, ?_⟩
 ·exact .inr (List.mem_append.2 ((h.all j hj).symm))
 ·show Objs M3 (v5 E3) S.id _ _ _ _
  rw [v5_same sb3]
  exact (h.o.begin).mem (q3.oth h.p.now)
 ·have hs := h.sum
  show L.words = (((([] ++ (L.W ++ L.H)).map L.len).sum : Nat) : Int)
  simp only [List.nil_append, List.map_append, List.sum_append] at hs ⊢
  omega
 ·exact ((k1.trans ⟨g2.next, fun b hb => g2.blk b (p1.mi.lt b (by simp [hb]))⟩).trans kp3.tail).trans (Keep.put h.nx _)
theorem lmark_old {i : Nat} (hi : i ∈ L.H) :
  Ok (qqm [.p (some (.n lb, 0)), .i .i64 ((i : Int) + 1)] J) fun r => r.1 = .tup [.b false, .i .i64 0] /\ ∃ M', LarAt r.2 lb pb mb M' S w L X Y /\ Beh Y M M' 2 0 0 /\ Keep X J r.2 := by
 obtain ⟨e, ws, _, _, ho⟩ := h.mem (.inl hi)
 have g := lmarked_ok h hf ho
 rw [decide_eq_true hi] at g
 simp (maxSteps := 2000000) -implicitDefEqProofs (disch := (first | omega | rfl | assumption | (simp only [rsD]; first | omega | assumption))) only [qqm, qql, Nat.reduceAdd, Nat.reduceMul, Nat.reduceLT, Int.reduceToNat, Int.reduceAdd, Int.reduceSub, Int.reduceMul, rsU, rsC]
 refine Ok.step g fun r ⟨g1, M', g2, g3, g4⟩ => ?_
 obtain ⟨q, J1⟩ := r
 simp only at g1 g2 g4
 subst g1
 simp (maxSteps := 2000000) -implicitDefEqProofs (disch := (first | omega | rfl | assumption | (simp only [rsD]; first | omega | assumption))) only [Nat.reduceAdd, Nat.reduceMul, Nat.reduceLT, Int.reduceToNat, Int.reduceAdd, Int.reduceSub, Int.reduceMul, rsU, rsC]
 exact Ok_some.2 ⟨rfl, M', g2, h.beh2 hf g3 g2.p.mi.ok, g4.tail⟩
theorem lmark_ok {i : Nat} {ws : List Int} (ho : L.ob i = some ws) (hi : i ∉ L.H) :
  Ok (qqm [.p (some (.n lb, 0)), .i .i64 ((i : Int) + 1)] J) fun r => r.1 = .tup [.b true, .i .i64 0] /\ ∃ M' S' w', LarAt r.2 lb pb mb M' S' w' { L with H := L.H ++ [i], W := L.W.filter (fun j => j != i) } X Y /\ Alike S S' /\ Beh Y M M' 12 0 0 /\ Keep X J r.2 := by
 have g := lmarked_ok h hf ho
 rw [decide_eq_false hi] at g
 have e0 : ((0 : Int) != 0) = false := rfl
 have hiW : i ∈ L.W := (h.all i (by rw [ho]; simp)).resolve_left hi
 obtain ⟨d, hd⟩ := List.getElem?_of_mem hiW
 have hel := h.el
 have hhw := h.hw
 have hep0 := h.ep
 simp (maxSteps := 2000000) -implicitDefEqProofs (disch := (first | omega | rfl | assumption | (simp only [rsD]; first | omega | assumption))) only [qqm, qql, Nat.reduceAdd, Nat.reduceMul, Nat.reduceLT, Int.reduceToNat, Int.reduceAdd, Int.reduceSub, Int.reduceMul, rsU, rsC]
 refine Ok.step g fun r ⟨g1, M1, p1, q1, k1⟩ => ?_
 obtain ⟨q, J1⟩ := r
 simp only at g1 p1 k1
 subst g1
 have c1 := h.beh2 hf q1 p1.p.mi.ok
 have f1 : M1.far 998 := c1.far (hf.less (by decide))
 obtain ⟨el, hb1⟩ := p1.b
 simp only [LarS.cells] at hb1
 simp (maxSteps := 2000000) -implicitDefEqProofs (disch := (first | omega | rfl | assumption | (simp only [rsD]; first | omega | assumption))) only [e0, hb1, Nat.reduceAdd, Nat.reduceMul, Nat.reduceLT, Int.reduceToNat, Int.reduceAdd, Int.reduceSub, Int.reduceMul, rsU, rsC]
 refine Ok.step (ltab_ok p1.p h.five hb1) fun r ⟨g1, g2⟩ => ?_
 obtain ⟨q, J2⟩ := r
 simp only [tbl] at g1 g2
 subst g1
 have hb2 : J2.blk lb = _ := (g2.blk _ p1.lt).trans hb1
 simp (maxSteps := 2000000) -implicitDefEqProofs (disch := (first | omega | rfl | assumption | (simp only [rsD]; first | omega | assumption))) only [hb2, Nat.reduceAdd, Nat.reduceMul, Nat.reduceLT, Int.reduceToNat, Int.reduceAdd, Int.reduceSub, Int.reduceMul, rsU, rsC]
 have td := tdrop_okF (p1.p.ext g2) (nx := 2) (pv := 3) (by rw [h.five]; decide) (by rw [h.five]; decide) (by decide) h.lW ⟨by have := f1.1; omega, by have := f1.2; omega⟩ (by omega) hd
 simp only [tbl, chn] at td
 refine Ok.step td fun r ⟨s1, M3, w3, E3, dw3, p3, sb3, l3, q3, z1, z2, kp3, fr3⟩ => ?_
 obtain ⟨q, J3⟩ := r
 simp only at s1 p3 kp3
 subst s1
 have hb3 : J3.blk lb = _ := kp3.head.trans hb2
 have c3 := p1.mid p3 q3 (by decide) z1 sb3
 have f3 : M3.far 990 := c3.far (f1.less (by omega))
 simp (maxSteps := 2000000) -implicitDefEqProofs (disch := (first | omega | rfl | assumption | (simp only [rsD]; first | omega | assumption))) only [hb3, Nat.reduceAdd, Nat.reduceMul, Nat.reduceLT, Int.reduceToNat, Int.reduceAdd, Int.reduceSub, Int.reduceMul, rsU, rsC]
 generalize hJ : J3.put lb (.cells true el _) = J4
 obtain ⟨hb4, _, _⟩ := put_facts hJ
 have k4 : Keep X J3 J4 := by rw [<- hJ]; exact Keep.put h.nx _
 have p4 : PoolAt J4 pb mb M3 { S with E := E3 } w3 (lb :: X) := by
  rw [<- hJ]
  exact p3.turn (L := [lb]) ⟨by simp, fun b hb hm => by simp at hm; simp -implicitDefEqProofs (disch := omega) only [s_bn, s_bs, s_kn, bump_blk]⟩ (fun b hb => by simp at hb; subst hb; exact .inl (by simp)) fun b hb => .inl hb
 clear hJ
 refine Ok.step (ltab_ok p4 h.five hb4) fun r ⟨g1, g5⟩ => ?_
 obtain ⟨q, J5⟩ := r
 simp only [tbl] at g1 g5
 subst g1
 have hlt4 := p4.mi.lt lb (by simp)
 have hb5 : J5.blk lb = _ := (g5.blk _ hlt4).trans hb4
 simp (maxSteps := 2000000) -implicitDefEqProofs (disch := (first | omega | rfl | assumption | (simp only [rsD]; first | omega | assumption))) only [hb5, Nat.reduceAdd, Nat.reduceMul, Nat.reduceLT, Int.reduceToNat, Int.reduceAdd, Int.reduceSub, Int.reduceMul, rsU, rsC]
 obtain ⟨e, sp, mk, he, htk, a1, a2, a3, a4, a5, a6, a7, a8, a9⟩ := h.at ho
 obtain ⟨e3, he3, ht3, hg3, hk3⟩ := sb3.at_ i e he
 have lH3 : Linked E3 2 3 L.H := h.lH.other fun j hj => fr3 j fun hm => h.dis j hj hm
 have hWd : ∀ j ∈ L.W.eraseIdx d, j ∈ L.W /\ j ≠ i := fun j hj => by
  rw [eraseIdx_filter h.lW.nd hd] at hj
  obtain ⟨g1, g2⟩ := List.mem_filter.1 hj
  exact ⟨g1, by simpa using g2⟩
 have tp := tpush_okF (p4.ext g5) (nx := 2) (pv := 3) (by show 2 < S.words; rw [h.five]; decide) (by show 3 < S.words; rw [h.five]; decide) (by decide) lH3 ⟨by have := f3.1; omega, by have := f3.2; omega⟩ (by omega) hi he3 (ht3.trans htk)
 simp only [tbl, chn] at tp
 refine Ok.step tp fun r ⟨s1, M6, w6, E6, dw6, p6, sb6, l6, q6, y1, y2, kp6, fr6⟩ => ?_
 obtain ⟨q, J6⟩ := r
 simp only at s1 p6 kp6
 subst s1
 have hb6 : J6.blk lb = _ := kp6.head.trans hb5
 have c6 : Beh Y M3 M6 (0 + dw6) 0 0 := by
  have := Beh.wrt p4.mi.ok p6.mi.ok p4.now q6 (by decide) (by omega) h.idY
  have l1 := p4.p.len
  have l2 := p6.p.len
  simp only at l1 l2
  rw [l1, l2, Int.sub_self] at this
  exact this
 have f6 : M6.far 980 := c6.far (f3.less (by omega))
 simp (maxSteps := 2000000) -implicitDefEqProofs (disch := (first | omega | rfl | assumption | (simp only [rsD]; first | omega | assumption))) only [hb6, Nat.reduceAdd, Nat.reduceMul, Nat.reduceLT, Int.reduceToNat, Int.reduceAdd, Int.reduceSub, Int.reduceMul, rsU, rsC]
 generalize hJ : J6.put lb (.cells true el _) = J7
 obtain ⟨hb7, _, _⟩ := put_facts hJ
 have k7 : Keep X J6 J7 := by rw [<- hJ]; exact Keep.put h.nx _
 have p7 : PoolAt J7 pb mb M6 { S with E := E6 } w6 (lb :: X) := by
  rw [<- hJ]
  exact p6.turn (L := [lb]) ⟨by simp, fun b hb hm => by simp at hm; simp -implicitDefEqProofs (disch := omega) only [s_bn, s_bs, s_kn, bump_blk]⟩ (fun b hb => by simp at hb; subst hb; exact .inl (by simp)) fun b hb => .inl hb
 clear hJ
 obtain ⟨e6, he6, ht6, hg6, hk6⟩ := sb6.at_ i e3 he3
 have hi6 := (List.getElem?_eq_some_iff.1 he6).1
 have ps := pset_ok p7 (f6.calm (by decide)) (k := 4) (x := L.ep) he6 (ht6.trans (ht3.trans htk)) (by show 4 < S.words; rw [h.five]; decide) (by have := f6.1; omega)
 rw [show ((4 : Nat) : Int) = 4 from rfl] at ps
 refine Ok.step ps fun r ⟨s1, M8, w8, p8, q8, kp8⟩ => ?_
 obtain ⟨q, J8⟩ := r
 simp only at s1 p8 kp8
 subst s1
 have hb8 : J8.blk lb = _ := kp8.head.trans hb7
 have c8 : Beh Y M6 M8 2 0 0 := by
  have := Beh.wrt p7.mi.ok p8.mi.ok p7.now q8 (by decide) (by decide) h.idY
  have l1 := p7.p.len
  have l2 := p8.p.len
  simp only at l1 l2
  rw [l1, l2, Int.sub_self] at this
  exact this.as (by decide) rfl rfl
 simp (maxSteps := 2000000) -implicitDefEqProofs (disch := (first | omega | rfl | assumption | (simp only [rsD]; first | omega | assumption))) only [Nat.reduceAdd, Nat.reduceMul, Nat.reduceLT, Int.reduceToNat, Int.reduceAdd, Int.reduceSub, Int.reduceMul, rsU, rsC]
 have hv8 : v5 (E6.set i { e6 with ws := e6.ws.set 4 L.ep }) = fun j => if j = i then some (sp, (ws.length : Int), L.ep) else v5 S.E j := by
  rw [v5_set hi6]
  funext j
  by_cases hj : j = i
  ·subst hj
   rw [if_pos rfl, if_pos rfl]
   have l6' : e6.ws.length = 5 := by have := p6.p.wl e6 (List.mem_of_getElem? he6); simp only at this; rw [this]; exact h.five
   refine v5_mk (e := { e6 with ws := e6.ws.set 4 L.ep }) rfl (ht6.trans (ht3.trans htk)) ?_ ?_ ?_
   ·simp only; rw [List.getElem?_set, if_neg (by decide), hk6 0 (by decide) (by decide), hk3 0 (by decide) (by decide)]; exact a1
   ·simp only; rw [List.getElem?_set, if_neg (by decide), hk6 1 (by decide) (by decide), hk3 1 (by decide) (by decide)]; exact a2
   ·simp only; rw [List.getElem?_set, if_pos rfl, if_pos (by omega)]
  ·rw [if_neg hj, if_neg hj, v5_same sb6, v5_same sb3]
 have lW6 : Linked E6 2 3 (L.W.eraseIdx d) := l3.other fun j hj => fr6 j (fun hm => h.dis j hm (hWd j hj).1) (hWd j hj).2
 have oth8 : ∀ y v, y ≠ S.id -> wordsOf M.sp y = some v -> wordsOf M8.sp y = some v := fun y v hy hv =>
  q8.oth p7.now y v hy (q6.oth p4.now y v hy (q3.oth p1.p.now y v hy (q1.oth h.p.now y v hy hv)))
 refine Ok_some.2 ⟨rfl, M8, _, w8, ⟨p8, ⟨_, hb8.trans (by rw [<- eraseIdx_filter h.lW.nd hd]; rfl)⟩, h.nx, h.five, l6.words he6 (by decide) (by decide), ?_, fun j hj hjW => ?_, fun j hj => ?_, ?_, h.ep, h.last, ?_⟩, ((Alike.same sb3).trans (Alike.same (S := { S with E := E3 }) sb6)).trans (Alike.set (S := { S with E := E6 }) he6), (((c1.trans c3).trans c6).trans c8).as (by omega) rfl rfl, ?_⟩
 ·simp only
  rw [<- eraseIdx_filter h.lW.nd hd]
  exact lW6.words he6 (by decide) (by decide)
 ·simp only at hj hjW
  obtain ⟨g1, g2⟩ := List.mem_filter.1 hjW
  rcases List.mem_append.1 hj with hj | hj
  ·exact h.dis j hj g1
  ·simp at hj; subst hj; simp at g2
 ·simp only at hj ⊢
  rcases h.all j hj with g | g
  ·exact .inl (by simp [g])
  ·by_cases hji : j = i
   ·exact .inl (by simp [hji])
   ·exact .inr (List.mem_filter.2 ⟨g, by simpa using hji⟩)
 ·show Objs M8 (v5 (E6.set i { e6 with ws := e6.ws.set 4 L.ep })) S.id _ _ _ _
  exact (h.o.mark ho hep0.1 (v5_mk he htk a1 a2 a3) fun j => by rw [hv8]).mem oth8
 ·have hs := h.sum
  show L.words = (((((L.H ++ [i]) ++ L.W.filter (fun j => j != i)).map L.len).sum : Nat) : Int)
  have hs2 : ((L.W.filter fun j => j != i).map L.len).sum + L.len i = (L.W.map L.len).sum := by
   rw [<- eraseIdx_filter h.lW.nd hd]; exact sum_erase hd
  simp only [List.map_append, List.sum_append, List.map_cons, List.map_nil, List.sum_cons, List.sum_nil] at hs ⊢
  omega
 ·exact (((((((k1.tail.trans ⟨g2.next, fun b hb => g2.blk b (p1.p.mi.lt b (by simp [hb]))⟩).trans kp3.tail).trans k4).trans ⟨g5.next, fun b hb => g5.blk b (p4.mi.lt b (by simp [hb]))⟩).trans kp6.tail).trans k7).trans kp8.tail)
end
end Go.Abs.Tryz
