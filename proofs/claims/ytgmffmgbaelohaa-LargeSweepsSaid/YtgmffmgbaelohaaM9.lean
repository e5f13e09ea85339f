/-
  Layer 8 for the layers above it: the memory beside blocks of others; calls upon one space. No conditions.
-/
import Derived.Test.YtgmffmgbaelohaaM8f
set_option linter.unusedVariables false
set_option linter.unusedSimpArgs false
set_option linter.constructorNameAsVariable false
set_option linter.unusedSimpArgs false
set_option linter.unusedVariables false
set_option linter.unusedSectionVars false
set_option maxHeartbeats 2000000
namespace Go.Abs.Try
open Go Go.Abs
variable {O : Type}

/-- the memory; the blocks X are there and are none of it -/
def MemIn (σ : AH O) (mb : Nat) (M : MemS) (X : List Nat) : Prop := ∃ F, MemAt σ mb F M ∧ M.ok ∧ ∀ b ∈ X, b < σ.next ∧ b ∉ F
/-- these blocks stand as they stood -/
structure Keep (X : List Nat) (σ σ' : AH O) : Prop where
  next : σ.next ≤ σ'.next
  blk : ∀ b ∈ X, σ'.blk b = σ.blk b
theorem Keep.refl (X : List Nat) (σ : AH O) : Keep X σ σ := ⟨Nat.le_refl _, fun _ _ => rfl⟩
theorem Keep.trans {X : List Nat} {σ σ' σ'' : AH O} (h : Keep X σ σ') (k : Keep X σ' σ'') : Keep X σ σ'' := ⟨Nat.le_trans h.next k.next, fun b hb => (k.blk b hb).trans (h.blk b hb)⟩
theorem Keep.mono {X Y : List Nat} {σ σ' : AH O} (h : Keep X σ σ') (hs : ∀ b ∈ Y, b ∈ X) : Keep Y σ σ' := ⟨h.next, fun b hb => h.blk b (hs b hb)⟩
theorem Keep.tail {b : Nat} {X : List Nat} {σ σ' : AH O} (h : Keep (b :: X) σ σ') : Keep X σ σ' := h.mono fun _ => List.mem_cons_of_mem _
theorem Keep.head {b : Nat} {X : List Nat} {σ σ' : AH O} (h : Keep (b :: X) σ σ') : σ'.blk b = σ.blk b := h.blk b List.mem_cons_self
section
variable {σ : AH O} {mb : Nat} {M : MemS} {X : List Nat} (h : MemIn σ mb M X)
include h
theorem MemIn.ok : M.ok := by obtain ⟨F, _, h, _⟩ := h; exact h
theorem MemIn.lt : ∀ b ∈ X, b < σ.next := fun b hb => by obtain ⟨F, _, _, h⟩ := h; exact (h b hb).1
theorem MemIn.mlt : mb < σ.next := by obtain ⟨F, h, _⟩ := h; exact h.mlt
theorem MemIn.mono {Y : List Nat} (hs : ∀ b ∈ Y, b ∈ X) : MemIn σ mb M Y := by obtain ⟨F, h1, h2, h3⟩ := h; exact ⟨F, h1, h2, fun b hb => h3 b (hs b hb)⟩
/-- what is none of it has turned -/
theorem MemIn.chg {σ' : AH O} {L : List Nat} (hc : Chg L σ σ') (hl : ∀ b ∈ L, b ∈ X ∨ σ.next ≤ b) : MemIn σ' mb M X := by
  obtain ⟨F, h1, h2, h3⟩ := h
  exact ⟨F, h1.chg hc fun b hb hm => by
    rcases hl b hm with g | g
    · exact (h3 b g).2 hb
    · have := h1.lt b hb; omega, h2, fun b hb => ⟨Nat.lt_of_lt_of_le (h3 b hb).1 hc.next, (h3 b hb).2⟩⟩
theorem MemIn.ext {σ' : AH O} (hc : Ext σ σ') : MemIn σ' mb M X := h.chg (L := []) hc.chg (by simp)
theorem MemIn.new {σ' : AH O} (hc : Ext σ σ') {b : Nat} (h1 : σ.next ≤ b) (h2 : b < σ'.next) : MemIn σ' mb M (b :: X) := by
  obtain ⟨F, g1, g2, g3⟩ := h
  refine ⟨F, g1.ext hc, g2, fun c hm => ?_⟩
  rcases List.mem_cons.1 hm with rfl | hm
  · exact ⟨h2, fun hm => by have := g1.lt c hm; omega⟩
  · exact ⟨Nat.lt_of_lt_of_le (g3 c hm).1 hc.next, (g3 c hm).2⟩
theorem MemIn.keep {σ' : AH O} {L : List Nat} (hc : Chg L σ σ') (hl : ∀ b ∈ L, b ∉ X) : Keep X σ σ' := ⟨hc.next, fun b hb => hc.blk b (h.lt b hb) fun hm => hl b hm hb⟩
/-- a block of ours turns -/
theorem MemIn.put {b : Nat} (hb : b ∈ X) (x : Blk O) : MemIn (σ.put b x) mb M X := h.chg (L := [b]) ⟨by simp, fun c hc hm => s_bn (by simpa using hm)⟩ fun c hc => .inl (by simp at hc; rw [hc]; exact hb)
theorem MemIn.keepExt {σ' : AH O} (hc : Ext σ σ') : Keep X σ σ' := ⟨hc.next, fun b hb => hc.blk b (h.lt b hb)⟩
theorem MemIn.behind {F : List Nat} {M' : MemS} {σ' : AH O} (hb : ∀ F, MemAt σ mb F M → Behind σ mb F M' σ') : MemIn σ' mb M' X ∧ Keep X σ σ' := by
  obtain ⟨F, g1, g2, g3⟩ := h
  obtain ⟨⟨F', k1, k2⟩, k3, k4⟩ := hb F g1
  exact ⟨⟨F', k1, k4, fun b hb => ⟨Nat.lt_of_lt_of_le (g3 b hb).1 k3.next, fun hm => by
    rcases k2 b hm with g | g
    · exact (g3 b hb).2 g
    · have := (g3 b hb).1; omega⟩⟩, k3.next, fun b hb => k3.blk b (g3 b hb).1 (g3 b hb).2⟩
end
theorem MemIn.tail {σ : AH O} {mb : Nat} {M : MemS} {b : Nat} {Y : List Nat} (h : MemIn σ mb M (b :: Y)) : MemIn σ mb M Y := h.mono fun _ => List.mem_cons_of_mem _
theorem Keep.put {X : List Nat} {σ : AH O} {b : Nat} (hb : b ∉ X) (x : Blk O) : Keep X σ (σ.put b x) := ⟨by simp, fun c hc => s_bn fun e => hb (e ▸ hc)⟩
theorem Keep.bump (X : List Nat) (σ : AH O) (k : Nat) : Keep X σ (σ.bump k) := ⟨by simp, fun _ _ => rfl⟩

theorem wrongZ {l : Sps} {id at_ n : Int} {w : List Int} (hw : wordsOf l id = some w) (h0 : 0 ≤ at_) (h1 : 0 ≤ n) (h2 : at_ + n ≤ w.length) : wrongR l id at_ n = 0 := by
  unfold wrongR
  rw [hw]
  simp only []
  rw [if_neg (by omega)]
/-- blocks turned that were none of it, or are new; others are looked at now -/
theorem MemIn.turn {σ σ' : AH O} {mb : Nat} {M : MemS} {X Y L : List Nat} (h : MemIn σ mb M X) (hc : Chg L σ σ') (hl : ∀ b ∈ L, b ∈ X ∨ σ.next ≤ b) (hY : ∀ b ∈ Y, b ∈ X ∨ (σ.next ≤ b ∧ b < σ'.next)) : MemIn σ' mb M Y := by
  obtain ⟨F, h1, h2, h3⟩ := h
  refine ⟨F, h1.chg hc fun b hb hm => ?_, h2, fun b hb => ?_⟩
  · rcases hl b hm with g | g
    · exact (h3 b g).2 hb
    · have := h1.lt b hb; omega
  · rcases hY b hb with g | ⟨g, g'⟩
    · exact ⟨Nat.lt_of_lt_of_le (h3 b g).1 hc.next, (h3 b g).2⟩
    · exact ⟨g', fun hm => by have := h1.lt b hm; omega⟩
/-- a space has other words now, so many more reads and writes are counted -/
structure Wrt (M M' : MemS) (id : Int) (w' : List Int) (dr dw : Int) : Prop where
  sp : M'.sp = M.sp.set id.toNat (true, w')
  r : M'.met.r = M.met.r + dr
  w : M'.met.w = M.met.w + dw
theorem wordsOf_other {l : Sps} {id id2 : Int} {x : Bool × List Int} (hne : id2 ≠ id) (h0 : 0 ≤ id) : wordsOf (l.set id.toNat x) id2 = wordsOf l id2 := by
  unfold wordsOf
  by_cases h : 0 ≤ id2
  · rw [if_pos h, if_pos h, List.getElem?_set, if_neg (by omega)]
  · rw [if_neg h, if_neg h]
theorem Wrt.other {M M' : MemS} {id id2 : Int} {w' : List Int} {dr dw : Int} (h : Wrt M M' id w' dr dw) (h0 : 0 ≤ id) (hne : id2 ≠ id) : wordsOf M'.sp id2 = wordsOf M.sp id2 := by rw [h.sp]; exact wordsOf_other hne h0
theorem Wrt.words {M M' : MemS} {id : Int} {w w' : List Int} {dr dw : Int} (h : Wrt M M' id w' dr dw) (hw : wordsOf M.sp id = some w) : wordsOf M'.sp id = some w' := by
  obtain ⟨h0, h1⟩ := wordsOf_some hw
  rw [h.sp]
  exact wordsOf_mk h0 (by rw [List.getElem?_set]; simp [(List.getElem?_eq_some_iff.1 h1).1])
theorem Wrt.trans {M M' M'' : MemS} {id : Int} {w w' : List Int} {a b c d : Int} (h : Wrt M M' id w a b) (k : Wrt M' M'' id w' c d) : Wrt M M'' id w' (a + c) (b + d) :=
  ⟨by rw [k.sp, h.sp, List.set_set], by rw [k.r, h.r]; omega, by rw [k.w, h.w]; omega⟩
theorem Wrt.refl {M : MemS} {id : Int} {w : List Int} (hw : wordsOf M.sp id = some w) : Wrt M M id w 0 0 := by
  obtain ⟨h0, h1⟩ := wordsOf_some hw
  refine ⟨?_, by omega, by omega⟩
  apply List.ext_getElem?
  intro j
  rw [List.getElem?_set]
  split
  · rename_i hij; subst hij
    have := (List.getElem?_eq_some_iff.1 h1).1
    rw [h1]; simp [this]
  · rfl
theorem Wrt.as {M M' : MemS} {id : Int} {w w' : List Int} {a b c d : Int} (h : Wrt M M' id w a b) (h1 : w = w') (h2 : a = c) (h3 : b = d) : Wrt M M' id w' c d := by subst h1; subst h2; subst h3; exact h
theorem Wrt.len {M M' : MemS} {id : Int} {w' : List Int} {dr dw : Int} (h : Wrt M M' id w' dr dw) : M'.sp.length = M.sp.length := by rw [h.sp, List.length_set]

section
variable {σ : AH O} {mb : Nat} {M : MemS} {X : List Nat} (h : MemIn σ mb M X) (hc : M.calm) {id : Int} {w : List Int} (hw : wordsOf M.sp id = some w)
include h hw
theorem MemIn.wlen : w.length ≤ 4194304 := h.ok.len (wordsOf_some hw).2
theorem sizeX : mem_Mem__Size [.p (some (.n mb, 0)), .i .i64 id] σ = some (.tup [.i .i64 (w.length : Int), .i .i64 0], σ) := by
  obtain ⟨F, h1, _⟩ := h
  obtain ⟨h0, hw⟩ := wordsOf_some hw
  exact size_ok h1 h0 hw
include hc
theorem readX {at_ : Int} (h0 : 0 ≤ at_) (h1 : at_ < w.length) : Ok (mem_Mem__Read [.p (some (.n mb, 0)), .i .i64 id, .i .i64 at_] σ) fun r => r.1 = .tup [.i .u64 (w.getD at_.toNat 0), .i .i64 0] ∧ ∃ M', MemIn r.2 mb M' X ∧ Wrt M M' id w 1 0 ∧ Keep X σ r.2 := by
  have hl := h.wlen hw
  have hR : M.readR id at_ = (M.rd 1, w.getD at_.toNat 0, 0) := by
    unfold MemS.readR
    rw [wrongZ hw h0 (by decide) (by omega), hw]; rfl
  have key : ∀ F, MemAt σ mb F M → Ok (mem_Mem__Read [.p (some (.n mb, 0)), .i .i64 id, .i .i64 at_] σ) fun r => r.1 = .tup [.i .u64 (w.getD at_.toNat 0), .i .i64 0] ∧ Behind σ mb F (M.rd 1) r.2 := fun F hF => by
    have := readT (id := id) (at_ := at_) hF h.ok hc (by omega)
    rw [hR] at this; exact this
  have hh := h
  obtain ⟨F, g1, _⟩ := hh
  obtain ⟨r, e, p1, _⟩ := key F g1
  refine ⟨r, e, p1, M.rd 1, ?_⟩
  obtain ⟨q1, q2⟩ := h.behind (F := F) (σ' := r.2) (M' := M.rd 1) fun F hF => by
    obtain ⟨r', e', _, b⟩ := key F hF
    rw [e] at e'; cases e'; exact b
  exact ⟨q1, ⟨(Wrt.refl hw).sp, rfl, by simp [MemS.rd]⟩, q2⟩
theorem writeX {at_ x : Int} (h0 : 0 ≤ at_) (h1 : at_ < w.length) : Ok (mem_Mem__Write [.p (some (.n mb, 0)), .i .i64 id, .i .i64 at_, .i .u64 x] σ) fun r => r.1 = .i .i64 0 ∧ ∃ M', MemIn r.2 mb M' X ∧ Wrt M M' id (w.set at_.toNat x) 0 1 ∧ Keep X σ r.2 := by
  have hl := h.wlen hw
  have hR : M.writeR id at_ x = ((M.wr 1).put id.toNat (w.set at_.toNat x), 0) := by
    unfold MemS.writeR
    rw [wrongZ hw h0 (by decide) (by omega), hw]; rfl
  have key : ∀ F, MemAt σ mb F M → Ok (mem_Mem__Write [.p (some (.n mb, 0)), .i .i64 id, .i .i64 at_, .i .u64 x] σ) fun r => r.1 = .i .i64 0 ∧ Behind σ mb F ((M.wr 1).put id.toNat (w.set at_.toNat x)) r.2 := fun F hF => by
    have := writeT (id := id) (at_ := at_) (x := x) hF h.ok hc (by omega)
    rw [hR] at this; exact this
  have hh := h
  obtain ⟨F, g1, _⟩ := hh
  obtain ⟨r, e, p1, _⟩ := key F g1
  refine ⟨r, e, p1, (M.wr 1).put id.toNat (w.set at_.toNat x), ?_⟩
  obtain ⟨q1, q2⟩ := h.behind (F := F) (σ' := r.2) fun F hF => by
    obtain ⟨r', e', _, b⟩ := key F hF
    rw [e] at e'; cases e'; exact b
  exact ⟨q1, ⟨rfl, by simp [MemS.put, MemS.wr], rfl⟩, q2⟩
theorem zeroX {at_ n : Int} (h0 : 0 ≤ at_) (hn : 0 ≤ n) (h1 : at_ + n ≤ w.length) : Ok (mem_Mem__Zero [.p (some (.n mb, 0)), .i .i64 id, .i .i64 at_, .i .i64 n] σ) fun r => r.1 = .i .i64 0 ∧ ∃ M', MemIn r.2 mb M' X ∧ Wrt M M' id (patched w at_.toNat (List.replicate n.toNat 0)) 0 n ∧ Keep X σ r.2 := by
  have hl := h.wlen hw
  have hR : M.zeroR id at_ n = ((M.wr n).put id.toNat (patched w at_.toNat (List.replicate n.toNat 0)), 0) := by
    unfold MemS.zeroR
    rw [wrongZ hw h0 hn h1, hw]; rfl
  have key : ∀ F, MemAt σ mb F M → Ok (mem_Mem__Zero [.p (some (.n mb, 0)), .i .i64 id, .i .i64 at_, .i .i64 n] σ) fun r => r.1 = .i .i64 0 ∧ Behind σ mb F ((M.wr n).put id.toNat (patched w at_.toNat (List.replicate n.toNat 0))) r.2 := fun F hF => by
    have := zeroT (id := id) (at_ := at_) (n := n) hF h.ok hc (by omega)
    rw [hR] at this; exact this
  have hh := h
  obtain ⟨F, g1, _⟩ := hh
  obtain ⟨r, e, p1, _⟩ := key F g1
  refine ⟨r, e, p1, (M.wr n).put id.toNat (patched w at_.toNat (List.replicate n.toNat 0)), ?_⟩
  obtain ⟨q1, q2⟩ := h.behind (F := F) (σ' := r.2) fun F hF => by
    obtain ⟨r', e', _, b⟩ := key F hF
    rw [e] at e'; cases e'; exact b
  exact ⟨q1, ⟨rfl, by simp [MemS.put, MemS.wr], rfl⟩, q2⟩
theorem growX {n : Int} (h1 : (w.length : Int) ≤ n) (h2 : n ≤ 4194304) : Ok (mem_Mem__Grow [.p (some (.n mb, 0)), .i .i64 id, .i .i64 n] σ) fun r => r.1 = .i .i64 0 ∧ ∃ M', MemIn r.2 mb M' X ∧ Wrt M M' id (w ++ List.replicate (n.toNat - w.length) 0) 0 0 ∧ Keep X σ r.2 := by
  have hR : M.growR id n = (M.grow id.toNat w n, 0) := by
    unfold MemS.growR
    rw [hw]
    simp only
    rw [if_neg (by omega), if_neg (by omega)]
  have key : ∀ F, MemAt σ mb F M → Ok (mem_Mem__Grow [.p (some (.n mb, 0)), .i .i64 id, .i .i64 n] σ) fun r => r.1 = .i .i64 0 ∧ Behind σ mb F (M.grow id.toNat w n) r.2 := fun F hF => by
    have := growT (id := id) (n := n) hF h.ok hc
    rw [hR] at this; exact this
  have hh := h
  obtain ⟨F, g1, _⟩ := hh
  obtain ⟨r, e, p1, _⟩ := key F g1
  refine ⟨r, e, p1, M.grow id.toNat w n, ?_⟩
  obtain ⟨q1, q2⟩ := h.behind (F := F) (σ' := r.2) fun F hF => by
    obtain ⟨r', e', _, b⟩ := key F hF
    rw [e] at e'; cases e'; exact b
  exact ⟨q1, ⟨rfl, by simp [MemS.grow, Met.hold], by simp [MemS.grow, Met.hold]⟩, q2⟩
end
/-- a new space -/
theorem openX {σ : AH O} {mb : Nat} {M : MemS} {X : List Nat} (h : MemIn σ mb M X) (hc : M.calm) {n : Int} (h1 : 0 ≤ n) (h2 : n ≤ 4194304) (h3 : M.count < 262144) :
    Ok (mem_Mem__Open [.p (some (.n mb, 0)), .i .i64 n] σ) fun r => r.1 = .tup [.i .i64 (ff M.sp), .i .i64 0] ∧ MemIn r.2 mb (M.opn (ff M.sp) n) X ∧ Keep X σ r.2 := by
  have hR : M.opnR n = (M.opn (ff M.sp) n, (ff M.sp : Int), 0) := by
    unfold MemS.opnR
    rw [if_neg (by omega), if_neg (by omega), if_neg (by omega)]
  have key : ∀ F, MemAt σ mb F M → Ok (mem_Mem__Open [.p (some (.n mb, 0)), .i .i64 n] σ) fun r => r.1 = .tup [.i .i64 (ff M.sp), .i .i64 0] ∧ Behind σ mb F (M.opn (ff M.sp) n) r.2 := fun F hF => by
    have := openT (n := n) hF h.ok hc
    rw [hR] at this; exact this
  have hh := h
  obtain ⟨F, g1, _⟩ := hh
  obtain ⟨r, e, p1, _⟩ := key F g1
  refine ⟨r, e, p1, ?_⟩
  exact h.behind (F := F) (σ' := r.2) fun F hF => by
    obtain ⟨r', e', _, b⟩ := key F hF
    rw [e] at e'; cases e'; exact b
theorem opn_words {M : MemS} {n : Int} : wordsOf (M.opn (ff M.sp) n).sp (ff M.sp) = some (List.replicate n.toNat 0) := by
  refine wordsOf_mk (Int.natCast_nonneg _) ?_
  show (putAt M.sp (ff M.sp) _)[(ff M.sp : Int).toNat]? = _
  rw [putAt_get (ff_free M.sp).le, Int.toNat_natCast, if_pos rfl]
theorem opn_other {M : MemS} {n id : Int} {w : List Int} (h : wordsOf M.sp id = some w) : wordsOf (M.opn (ff M.sp) n).sp id = some w ∧ id ≠ ff M.sp := by
  obtain ⟨h0, h1⟩ := wordsOf_some h
  have hne : id.toNat ≠ ff M.sp := fun e => by
    rw [e] at h1
    have := (ff_free M.sp).here _ h1
    cases this
  refine ⟨wordsOf_mk h0 ?_, by omega⟩
  show (putAt M.sp (ff M.sp) _)[id.toNat]? = _
  rw [putAt_get (ff_free M.sp).le, if_neg hne]; exact h1
/-- a new memory -/
theorem newX {σ : AH O} {X : List Nat} (hX : ∀ b ∈ X, b < σ.next) : Ok (mem_New [] σ) fun r => r.1 = .p (some (.n σ.next, 0)) ∧ MemIn r.2 σ.next MemS.new X ∧ Ext σ r.2 := by
  refine memNew_ok.mono fun r ⟨F, g1, g2, g3, g4⟩ => ⟨g1, ⟨F, g2, MemS.new_ok, fun b hb => ⟨Nat.lt_of_lt_of_le (hX b hb) g3.next, fun hm => ?_⟩⟩, g3⟩
  have := hX b hb
  have := g4 b hm
  omega
end Go.Abs.Try
