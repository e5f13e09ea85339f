/-
  Layer 8: the memory, as it is run. No conditions.
-/
import Derived.Test.YtgmffmgbaelohaaM7
set_option linter.unusedVariables false
set_option linter.unusedSimpArgs false
set_option linter.constructorNameAsVariable false
set_option linter.unusedSimpArgs false
namespace Go.Abs.Try
open Go Go.Abs
variable {O : Type}

/-- words, as cells -/
def u64s (l : List Int) : List AV := l.map (AV.i .u64)
theorem u64s_len (l : List Int) : (u64s l).length = l.length := by simp [u64s]
theorem u64s_get {l : List Int} {i : Nat} {x : Int} (h : l[i]? = some x) : (u64s l)[i]? = some (.i .u64 x) := by simp [u64s, h]
theorem u64s_rep (n : Nat) : (List.replicate n [AV.i .u64 0]).flatten = u64s (List.replicate n 0) := by
  induction n with
  | zero => rfl
  | succ n ih => simp only [List.replicate_succ, List.flatten_cons, u64s, List.map_cons] at ih ⊢; rw [ih]; rfl

/-- a space: its words' slice, whether it is open, its words -/
structure Sp where
  a : SA
  op : Bool
  ws : List Int
def Sp.cells (s : Sp) : List AV := [.sl s.a s.ws.length, .b s.op]
theorem Sp.len (s : Sp) : s.cells.length = 2 := rfl
def Sp.sl (s : Sp) : SA × List AV := (s.a, u64s s.ws)
def Sp.v (s : Sp) : Bool × List Int := (s.op, s.ws)
/-- the memory: its meter, its spaces, all below 'low' are open, so many are -/
structure MemS where
  met : Met
  sp : List (Bool × List Int)
  low : Int
  count : Int
structure MemC (σ : AH O) (mb tb : Nat) (sa : SA) (L : List Sp) (met : Met) (low count : Int) : Prop where
  m : ∃ el, σ.blk mb = some (.cells true el [.p (some (.n tb, 0)), .sl sa L.length, .i .i64 low, .i .i64 count])
  mlt : mb < σ.next
  met : MetAt σ tb met
  slc : OwnS σ T_mem_space 2 sa L.length (L.flatMap Sp.cells)
  sls : Sls σ T_uint64 1 (L.map Sp.sl)
  ne : mb ≠ tb
  n1 : ∀ b ∈ SA.bk sa, b ≠ mb ∧ b ≠ tb
  n2 : ∀ b ∈ sbk (L.map Sp.sl), b ≠ mb ∧ b ≠ tb ∧ b ∉ SA.bk sa
def memF (mb tb : Nat) (sa : SA) (L : List Sp) : List Nat := mb :: tb :: (SA.bk sa ++ sbk (L.map Sp.sl))
def MemAt (σ : AH O) (mb : Nat) (F : List Nat) (M : MemS) : Prop := ∃ tb sa L, F = memF mb tb sa L ∧ M.sp = L.map Sp.v ∧ MemC σ mb tb sa L M.met M.low M.count
theorem MemC.of {σ σ' : AH O} {mb tb : Nat} {sa : SA} {L : List Sp} {met : Met} {low count : Int} (h : MemC σ mb tb sa L met low count) (hn : σ.next ≤ σ'.next) (hb : ∀ b ∈ memF mb tb sa L, σ'.blk b = σ.blk b) : MemC σ' mb tb sa L met low count where
  m := by rw [hb mb (by simp [memF])]; exact h.m
  mlt := Nat.lt_of_lt_of_le h.mlt hn
  met := h.met.of hn (hb tb (by simp [memF]))
  slc := h.slc.of hn fun b hb' => hb b (by simp [memF, hb'])
  sls := h.sls.of hn fun b hb' => hb b (by simp [memF, hb'])
  ne := h.ne
  n1 := h.n1
  n2 := h.n2
theorem MemC.flt {σ : AH O} {mb tb : Nat} {sa : SA} {L : List Sp} {met : Met} {low count : Int} (h : MemC σ mb tb sa L met low count) : ∀ b ∈ memF mb tb sa L, b < σ.next := fun b hb => by
  simp only [memF, List.mem_cons, List.mem_append] at hb
  rcases hb with rfl | rfl | hb | hb
  · exact h.mlt
  · exact h.met.lt
  · exact h.slc.lt b hb
  · exact h.sls.lt b hb
theorem MemAt.lt {σ : AH O} {mb : Nat} {F : List Nat} {M : MemS} (h : MemAt σ mb F M) : ∀ b ∈ F, b < σ.next := by
  obtain ⟨tb, sa, L, rfl, _, hC⟩ := h
  exact hC.flt
theorem MemAt.chg {σ σ' : AH O} {mb : Nat} {F L : List Nat} {M : MemS} (h : MemAt σ mb F M) (hc : Chg L σ σ') (hd : ∀ b ∈ F, b ∉ L) : MemAt σ' mb F M := by
  have hlt := h.lt
  obtain ⟨tb, sa, L', rfl, e, hC⟩ := h
  exact ⟨tb, sa, L', rfl, e, hC.of hc.next fun b hb => hc.blk b (hlt b hb) (hd b hb)⟩
theorem MemAt.ext {σ σ' : AH O} {mb : Nat} {F : List Nat} {M : MemS} (h : MemAt σ mb F M) (hc : Ext σ σ') : MemAt σ' mb F M := h.chg (L := []) hc.chg (by simp)
/-- the blocks of what turned are those of before, or new -/
def Fp (F F' : List Nat) (σ : AH O) : Prop := ∀ b ∈ F', b ∈ F ∨ σ.next ≤ b
theorem Fp.refl (F : List Nat) (σ : AH O) : Fp F F σ := fun _ h => .inl h

structure MemS.ok (M : MemS) : Prop where
  met : M.met.ok
  low : 0 ≤ M.low ∧ M.low ≤ M.sp.length
  below : ∀ i : Nat, (i : Int) < M.low → ∀ s, M.sp[i]? = some s → s.1 = true
  count : M.count = (M.sp.countP (·.1) : Nat)
  few : M.sp.length ≤ 262144
  size : ∀ s ∈ M.sp, s.2.length ≤ 4194304
  shut : ∀ s ∈ M.sp, s.1 = false → s.2 = []
  held : M.met.held = (((M.sp.map fun s => s.2.length).sum : Nat) : Int)

theorem sum_le {l : List Nat} {c : Nat} (h : ∀ x ∈ l, x ≤ c) : l.sum ≤ l.length * c := by
  induction l with
  | nil => simp
  | cons x l ih =>
    have := ih fun y hy => h y (List.mem_cons_of_mem _ hy)
    have := h x List.mem_cons_self
    simp only [List.sum_cons, List.length_cons, Nat.succ_mul]; omega
theorem MemS.ok.bound {M : MemS} (h : M.ok) : M.met.held ≤ 1099511627776 := by
  rw [h.held]
  have h1 := sum_le (l := M.sp.map fun s => s.2.length) (c := 4194304) (by
    intro x hx
    obtain ⟨s, hs, rfl⟩ := List.mem_map.1 hx
    exact h.size s hs)
  simp only [List.length_map] at h1
  have := h.few
  omega

/-! ### Where a space lies -/
def isOp (l : List (Bool × List Int)) (id : Int) : Prop := 0 ≤ id ∧ ∃ w, l[id.toNat]? = some (true, w)
theorem at_some {σ : AH O} {mb tb : Nat} {sa : SA} {L : List Sp} {met : Met} {low count id : Int} (h : MemC σ mb tb sa L met low count) (h0 : 0 ≤ id) {s : Sp} (hs : L[id.toNat]? = some s) (ho : s.op = true) :
    ∃ k, sa = .loc (.n k) 0 2 ∧ mem_Mem__at [.p (some (.n mb, 0)), .i .i64 id] σ = some (.p (some (.n k, id.toNat * 2)), σ) := by
  have hlt := (List.getElem?_eq_some_iff.1 hs).1
  obtain ⟨k, rfl, hk, _⟩ := h.slc.loc (by omega)
  obtain ⟨el, hm⟩ := h.m
  have g1 := fm_get' Sp.len (j := 1) (by omega) hs
  simp only [Sp.cells, List.getElem?_cons_succ, List.getElem?_cons_zero, ho] at g1
  exact ⟨k, rfl, by simp (config := { maxSteps := 2000000 }) -implicitDefEqProofs (disch := (first | omega | rfl | assumption | (simp only [rsD]; first | omega | assumption))) only [mem_Mem__at, mem_Mem__at_c, hm, hk, g1, Nat.reduceAdd, Nat.reduceMul, Nat.reduceLT, Int.reduceToNat, Int.reduceAdd, Int.reduceSub, Int.reduceMul, rsU, rsC]⟩
theorem at_none {σ : AH O} {mb tb : Nat} {sa : SA} {L : List Sp} {met : Met} {low count id : Int} (h : MemC σ mb tb sa L met low count) (hn : ¬ isOp (L.map Sp.v) id) :
    mem_Mem__at [.p (some (.n mb, 0)), .i .i64 id] σ = some (.p none, σ) := by
  obtain ⟨el, hm⟩ := h.m
  by_cases h0 : id < 0
  · simp (config := { maxSteps := 2000000 }) -implicitDefEqProofs (disch := (first | omega | rfl | assumption | (simp only [rsD]; first | omega | assumption))) only [mem_Mem__at, mem_Mem__at_c, hm, Nat.reduceAdd, Nat.reduceMul, Nat.reduceLT, Int.reduceToNat, Int.reduceAdd, Int.reduceSub, Int.reduceMul, rsU, rsC]
  · by_cases h1 : id ≥ (L.length : Int)
    · simp (config := { maxSteps := 2000000 }) -implicitDefEqProofs (disch := (first | omega | rfl | assumption | (simp only [rsD]; first | omega | assumption))) only [mem_Mem__at, mem_Mem__at_c, hm, Nat.reduceAdd, Nat.reduceMul, Nat.reduceLT, Int.reduceToNat, Int.reduceAdd, Int.reduceSub, Int.reduceMul, rsU, rsC]
    · have hlt : id.toNat < L.length := by omega
      obtain ⟨k, rfl, hk, _⟩ := h.slc.loc (by omega)
      have hs := List.getElem?_eq_getElem hlt
      have hop : L[id.toNat].op = false := by
        cases ho : L[id.toNat].op with
        | false => rfl
        | true => exact absurd ⟨by omega, L[id.toNat].ws, by rw [List.getElem?_map, hs, Option.map_some, Sp.v, ho]⟩ hn
      have g1 := fm_get' Sp.len (j := 1) (by omega) hs
      simp only [Sp.cells, List.getElem?_cons_succ, List.getElem?_cons_zero, hop] at g1
      simp (config := { maxSteps := 2000000 }) -implicitDefEqProofs (disch := (first | omega | rfl | assumption | (simp only [rsD]; first | omega | assumption))) only [mem_Mem__at, mem_Mem__at_c, hm, hk, g1, Nat.reduceAdd, Nat.reduceMul, Nat.reduceLT, Int.reduceToNat, Int.reduceAdd, Int.reduceSub, Int.reduceMul, rsU, rsC]

def MemS.new : MemS := ⟨Met.zero, [], 0, 0⟩
theorem memNew_ok {σ : AH O} : Ok (mem_New [] σ) fun r => ∃ F, r.1 = .p (some (.n σ.next, 0)) ∧ MemAt r.2 σ.next F MemS.new ∧ Ext σ r.2 ∧ ∀ b ∈ F, σ.next ≤ b := by
  simp (config := { maxSteps := 2000000 }) -implicitDefEqProofs (disch := (first | omega | rfl | assumption | (simp only [rsD]; first | omega | assumption))) only [mem_New, mem_New_c, Nat.reduceAdd, Nat.reduceMul, Nat.reduceLT, Int.reduceToNat, Int.reduceAdd, Int.reduceSub, Int.reduceMul, rsU, rsC]
  refine Ok.step mnew_ok fun r ⟨g1, g2, g3, g4⟩ => ?_
  obtain ⟨q, σ1⟩ := r
  simp only at g1 g2 g3 g4
  subst g1
  simp only [bump_next] at g2 g4
  simp (config := { maxSteps := 2000000 }) -implicitDefEqProofs (disch := (first | omega | rfl | assumption | (simp only [rsD]; first | omega | assumption))) only [Nat.reduceAdd, Nat.reduceMul, Nat.reduceLT, Int.reduceToNat, Int.reduceAdd, Int.reduceSub, Int.reduceMul, rsU, rsC]
  have e0 : Ext σ (σ.bump 1) := (Ext.refl σ).bump 1
  refine Ok_some.2 ⟨_, rfl, ⟨_, .nil, [], rfl, rfl, ⟨⟨_, by simp only [s_bs]; rfl⟩, by simp; omega, ?_, OwnS.nil _ _ _, Sls.nil _ _ _, ?_, ?_, ?_⟩⟩, (e0.trans g3).put (Nat.le_refl _) _, ?_⟩
  · exact g2.of (Nat.le_refl _) (by rw [s_bn (by omega)])
  · omega
  · simp [SA.bk]
  · simp [sbk]
  · simp [memF, SA.bk, sbk]

/-! ### Sizes, words -/
theorem size_ok {σ : AH O} {mb : Nat} {F : List Nat} {M : MemS} {id : Int} {w : List Int} (h : MemAt σ mb F M) (h0 : 0 ≤ id) (hw : M.sp[id.toNat]? = some (true, w)) : mem_Mem__Size [.p (some (.n mb, 0)), .i .i64 id] σ = some (.tup [.i .i64 (w.length : Int), .i .i64 0], σ) := by
  obtain ⟨tb, sa, L, rfl, e, hC⟩ := h
  rw [e, List.getElem?_map] at hw
  obtain ⟨s, hs, hsv⟩ := Option.map_eq_some_iff.1 hw
  simp only [Sp.v, Prod.mk.injEq] at hsv
  obtain ⟨ho, rfl⟩ := hsv
  obtain ⟨k, rfl, ha⟩ := at_some hC h0 hs ho
  obtain ⟨k', e1, hk, _⟩ := hC.slc.loc (by have := (List.getElem?_eq_some_iff.1 hs).1; omega)
  cases e1
  have g0 := fm_get' Sp.len (j := 0) (by omega) hs
  simp only [Sp.cells, List.getElem?_cons_zero, Nat.add_zero] at g0
  simp (config := { maxSteps := 2000000 }) -implicitDefEqProofs (disch := (first | omega | rfl | assumption | (simp only [rsD]; first | omega | assumption))) only [mem_Mem__Size, mem_Mem__Size_c, ha, hk, g0, Nat.reduceAdd, Nat.reduceMul, Nat.reduceLT, Int.reduceToNat, Int.reduceAdd, Int.reduceSub, Int.reduceMul, rsU, rsC]
/-- what is known of a space that is open -/
theorem MemC.at {σ : AH O} {mb tb : Nat} {sa : SA} {L : List Sp} {met : Met} {low count : Int} (h : MemC σ mb tb sa L met low count) {i : Nat} {s : Sp} (hs : L[i]? = some s) :
    ∃ k, sa = .loc (.n k) 0 2 ∧ σ.blk k = some (.cells true T_mem_space (L.flatMap Sp.cells)) ∧ k < σ.next ∧ (L.flatMap Sp.cells)[i * 2]? = some (.sl s.a s.ws.length) ∧ OwnS σ T_uint64 1 s.a s.ws.length (u64s s.ws) := by
  have hlt := (List.getElem?_eq_some_iff.1 hs).1
  obtain ⟨k, rfl, hk, hk'⟩ := h.slc.loc (by omega)
  have g0 := fm_get' Sp.len (j := 0) (by omega) hs
  simp only [Sp.cells, List.getElem?_cons_zero, Nat.add_zero] at g0
  obtain ⟨n, ho⟩ := h.sls.own s.sl (List.mem_map.2 ⟨s, List.mem_of_getElem? hs, rfl⟩)
  have hn := ho.len
  simp only [Sp.sl, u64s_len, Nat.mul_one] at hn
  subst hn
  exact ⟨k, rfl, hk, hk', g0, ho⟩
theorem mem_spb {L : List Sp} {i : Nat} {s : Sp} (hs : L[i]? = some s) {b : Nat} (hb : b ∈ SA.bk s.a) : b ∈ sbk (L.map Sp.sl) := mem_sbk.2 ⟨s.sl, List.mem_map.2 ⟨s, List.mem_of_getElem? hs, rfl⟩, hb⟩

/-- some words of a space: what is wrong with them -/
theorem within_no {σ : AH O} {mb tb : Nat} {sa : SA} {L : List Sp} {met : Met} {low count id at_ n : Int} (h : MemC σ mb tb sa L met low count) (hn : ¬ isOp (L.map Sp.v) id) : mem_Mem__within [.p (some (.n mb, 0)), .i .i64 id, .i .i64 at_, .i .i64 n] σ = some (.tup [.sl .nil 0, .i .i64 10], σ) := by
  simp (config := { maxSteps := 2000000 }) -implicitDefEqProofs (disch := (first | omega | rfl | assumption | (simp only [rsD]; first | omega | assumption))) only [mem_Mem__within, mem_Mem__within_c, at_none h hn, Nat.reduceAdd, Nat.reduceMul, Nat.reduceLT, Int.reduceToNat, Int.reduceAdd, Int.reduceSub, Int.reduceMul, rsU, rsC]
theorem within_out {σ : AH O} {mb tb : Nat} {sa : SA} {L : List Sp} {met : Met} {low count id at_ n : Int} (h : MemC σ mb tb sa L met low count) (h0 : 0 ≤ id) {s : Sp} (hs : L[id.toNat]? = some s) (ho : s.op = true)
    (hl : s.ws.length ≤ 4194304) (ha : -9223372036854775808 ≤ at_ ∧ at_ ≤ 9223372036854775807) (hw : n < 0 ∨ at_ < 0 ∨ at_ > (s.ws.length : Int) ∨ n > (s.ws.length : Int) - at_) : mem_Mem__within [.p (some (.n mb, 0)), .i .i64 id, .i .i64 at_, .i .i64 n] σ = some (.tup [.sl .nil 0, .i .i64 11], σ) := by
  obtain ⟨k, rfl, hat⟩ := at_some h h0 hs ho
  obtain ⟨k', e, hk, _, g0, _⟩ := h.at hs
  cases e
  by_cases c1 : n < 0
  · simp (config := { maxSteps := 2000000 }) -implicitDefEqProofs (disch := (first | omega | rfl | assumption | (simp only [rsD]; first | omega | assumption))) only [mem_Mem__within, mem_Mem__within_c, hat, Nat.reduceAdd, Nat.reduceMul, Nat.reduceLT, Int.reduceToNat, Int.reduceAdd, Int.reduceSub, Int.reduceMul, rsU, rsC]
  · by_cases c2 : at_ < 0
    · simp (config := { maxSteps := 2000000 }) -implicitDefEqProofs (disch := (first | omega | rfl | assumption | (simp only [rsD]; first | omega | assumption))) only [mem_Mem__within, mem_Mem__within_c, hat, Nat.reduceAdd, Nat.reduceMul, Nat.reduceLT, Int.reduceToNat, Int.reduceAdd, Int.reduceSub, Int.reduceMul, rsU, rsC]
    · by_cases c3 : at_ > (s.ws.length : Int)
      · simp (config := { maxSteps := 2000000 }) -implicitDefEqProofs (disch := (first | omega | rfl | assumption | (simp only [rsD]; first | omega | assumption))) only [mem_Mem__within, mem_Mem__within_c, hat, hk, g0, Nat.reduceAdd, Nat.reduceMul, Nat.reduceLT, Int.reduceToNat, Int.reduceAdd, Int.reduceSub, Int.reduceMul, rsU, rsC]
      · simp (config := { maxSteps := 2000000 }) -implicitDefEqProofs (disch := (first | omega | rfl | assumption | (simp only [rsD]; first | omega | assumption))) only [mem_Mem__within, mem_Mem__within_c, hat, hk, g0, Nat.reduceAdd, Nat.reduceMul, Nat.reduceLT, Int.reduceToNat, Int.reduceAdd, Int.reduceSub, Int.reduceMul, rsU, rsC]
theorem within_ok {σ : AH O} {mb tb : Nat} {sa : SA} {L : List Sp} {met : Met} {low count id at_ n : Int} (h : MemC σ mb tb sa L met low count) (h0 : 0 ≤ id) {s : Sp} (hs : L[id.toNat]? = some s) (ho : s.op = true)
    (hl : s.ws.length ≤ 4194304) (h1 : 0 ≤ n) (h2 : 0 ≤ at_) (h3 : at_ + n ≤ (s.ws.length : Int)) : ∃ a', s.a.adv at_.toNat 1 = some a' ∧ mem_Mem__within [.p (some (.n mb, 0)), .i .i64 id, .i .i64 at_, .i .i64 n] σ = some (.tup [.sl a' n.toNat, .i .i64 0], σ) := by
  obtain ⟨k, rfl, hat⟩ := at_some h h0 hs ho
  obtain ⟨k', e, hk, _, g0, how⟩ := h.at hs
  cases e
  obtain ⟨a', ha, _⟩ := how.rd.adv (lo := at_.toNat) (m := n.toNat) (by omega)
  refine ⟨a', ha, ?_⟩
  have e1 : (at_ + n).toNat - at_.toNat = n.toNat := by omega
  simp (config := { maxSteps := 2000000 }) -implicitDefEqProofs (disch := (first | omega | rfl | assumption | (simp only [rsD]; first | omega | assumption))) only [mem_Mem__within, mem_Mem__within_c, hat, hk, g0, ha, e1, Nat.reduceAdd, Nat.reduceMul, Nat.reduceLT, Int.reduceToNat, Int.reduceAdd, Int.reduceSub, Int.reduceMul, rsU, rsC]

/-- a meter that counted more -/
theorem MemC.step {σ σ' : AH O} {mb tb : Nat} {sa : SA} {L : List Sp} {met met' : Met} {low count : Int} (h : MemC σ mb tb sa L met low count) (hc : Chg [tb] σ σ') (hm : MetAt σ' tb met') : MemC σ' mb tb sa L met' low count := by
  have hlt := h.flt
  have key : ∀ b ∈ memF mb tb sa L, b ≠ tb → σ'.blk b = σ.blk b := fun b hb hne => hc.blk b (hlt b hb) (by simpa using hne)
  refine ⟨?_, Nat.lt_of_lt_of_le h.mlt hc.next, hm, h.slc.of hc.next fun b hb => key b (by simp [memF, hb]) (h.n1 b hb).2, h.sls.of hc.next fun b hb => key b (by simp [memF, hb]) (h.n2 b hb).2.1, h.ne, h.n1, h.n2⟩
  rw [key mb (by simp [memF]) h.ne]; exact h.m

theorem getW {M : MemS} {L : List Sp} {i : Nat} {w : List Int} (e : M.sp = L.map Sp.v) (hw : M.sp[i]? = some (true, w)) : ∃ s, L[i]? = some s ∧ s.op = true ∧ s.ws = w := by
  rw [e, List.getElem?_map] at hw
  obtain ⟨s, hs, hsv⟩ := Option.map_eq_some_iff.1 hw
  simp only [Sp.v, Prod.mk.injEq] at hsv
  exact ⟨s, hs, hsv.1, hsv.2⟩
theorem MemS.ok.len {M : MemS} (h : M.ok) {i : Nat} {w : List Int} (hw : M.sp[i]? = some (true, w)) : w.length ≤ 4194304 := h.size _ (List.mem_of_getElem? hw)
def MemS.rd (M : MemS) (n : Int) : MemS := { M with met := { M.met with r := M.met.r + n } }
def MemS.wr (M : MemS) (n : Int) : MemS := { M with met := { M.met with w := M.met.w + n } }
def MemS.put (M : MemS) (i : Nat) (w : List Int) : MemS := { M with sp := M.sp.set i (true, w) }

/-- a slice's part is where it is -/
theorem adv_loc {σ : AH O} {el n m : Nat} {a a' : SA} {cs : List AV} (h : OwnS σ el 1 a n cs) (hm : m ≠ 0) (hlt : m ≤ n) {lo : Nat} (ha : a.adv lo 1 = some a') : ∃ k, a = .loc (.n k) 0 1 ∧ a' = .loc (.n k) lo 1 ∧ σ.blk k = some (.cells true el cs) ∧ k < σ.next := by
  obtain ⟨k, rfl, hk, hk'⟩ := h.loc (by omega)
  rw [s_adv] at ha
  cases ha
  exact ⟨k, rfl, by simp, hk, hk'⟩

theorem read_ok {σ : AH O} {mb : Nat} {F : List Nat} {M : MemS} {id at_ : Int} {w : List Int} {x : Int} (h : MemAt σ mb F M) (hM : M.ok) (h0 : 0 ≤ id) (hw : M.sp[id.toNat]? = some (true, w)) (h1 : 0 ≤ at_) (hx : w[at_.toNat]? = some x) :
    Ok (mem_Mem__Read [.p (some (.n mb, 0)), .i .i64 id, .i .i64 at_] σ) fun r => r.1 = .tup [.i .u64 x, .i .i64 0] ∧ MemAt r.2 mb F (M.rd 1) ∧ Chg F σ r.2 := by
  obtain ⟨tb, sa, L, rfl, e, hC⟩ := h
  obtain ⟨s, hs, ho, rfl⟩ := getW e hw
  have hxl := (List.getElem?_eq_some_iff.1 hx).1
  obtain ⟨a', ha, hwi⟩ := within_ok (n := 1) hC h0 hs ho (hM.len hw) (by omega) h1 (by omega)
  obtain ⟨k', _, _, _, _, how⟩ := hC.at hs
  obtain ⟨k, ea, ea', hk, hk'⟩ := adv_loc (m := 1) how (by omega) (by omega) ha
  subst ea'
  obtain ⟨el', hm⟩ := hC.m
  have t1 : (1 : Int).toNat = 1 := rfl
  simp (config := { maxSteps := 2000000 }) -implicitDefEqProofs (disch := (first | omega | rfl | assumption | (simp only [rsD]; first | omega | assumption))) only [mem_Mem__Read, mem_Mem__Read_c, hwi, t1, hm, Nat.reduceAdd, Nat.reduceMul, Nat.reduceLT, Int.reduceToNat, Int.reduceAdd, Int.reduceSub, Int.reduceMul, rsU, rsC]
  refine Ok.step (step_r_ok hC.met hM.met.r (by omega) (by omega)) fun r ⟨g1, g2, g3⟩ => ?_
  obtain ⟨q, σ1⟩ := r
  simp only at g1 g2 g3
  subst g1
  have hkb : k ∈ sbk (L.map Sp.sl) := mem_spb hs (by rw [ea]; simp [SA.bk])
  have hk1 : σ1.blk k = _ := (g3.blk k hk' (by simpa using (hC.n2 k hkb).2.1)).trans hk
  have gx := u64s_get hx
  simp (config := { maxSteps := 2000000 }) -implicitDefEqProofs (disch := (first | omega | rfl | assumption | (simp only [rsD]; first | omega | assumption))) only [hk1, gx, Nat.add_zero, Nat.reduceAdd, Nat.reduceMul, Nat.reduceLT, Int.reduceToNat, Int.reduceAdd, Int.reduceSub, Int.reduceMul, rsU, rsC]
  refine Ok_some.2 ⟨rfl, ⟨tb, sa, L, rfl, e, hC.step g3 g2⟩, g3.mono fun b hb => .inl (by simp at hb; subst hb; simp [memF])⟩

/-- what is written in a space -/
theorem MemC.write {σ : AH O} {mb tb : Nat} {sa : SA} {L : List Sp} {met : Met} {low count : Int} (h : MemC σ mb tb sa L met low count) {i : Nat} {s : Sp} (hs : L[i]? = some s) {k : Nat} (ha : s.a = .loc (.n k) 0 1) (hk : σ.blk k = some (.cells true T_uint64 (u64s s.ws))) {w' : List Int} (hl : w'.length = s.ws.length) :
    MemC (σ.put k (.cells true T_uint64 (u64s w'))) mb tb sa (L.set i { s with ws := w' }) met low count ∧ memF mb tb sa (L.set i { s with ws := w' }) = memF mb tb sa L ∧ k ∈ memF mb tb sa L := by
  have hkb : k ∈ SA.bk s.a := by rw [ha]; simp [SA.bk]
  have hkm := mem_spb hs hkb
  have hnk := h.n2 k hkm
  have hs' : (L.map Sp.sl)[i]? = some s.sl := by rw [List.getElem?_map, hs]; rfl
  have hmap : (L.set i { s with ws := w' }).map Sp.sl = (L.map Sp.sl).set i (s.a, u64s w') := by rw [List.map_set]; rfl
  have hbk : sbk ((L.map Sp.sl).set i (s.a, u64s w')) = sbk (L.map Sp.sl) := by
    unfold sbk
    rw [List.flatMap_def, List.flatMap_def, List.map_set]
    congr 1
    apply List.ext_getElem?
    intro j
    rw [List.getElem?_set]
    split
    · rename_i hij; subst hij
      rw [List.getElem?_map, hs']
      have := (List.getElem?_eq_some_iff.1 hs').1
      have this' : i < L.length := by simpa using this
      simp [Sp.sl, this']
    · rfl
  have hcell : (L.set i { s with ws := w' }).flatMap Sp.cells = L.flatMap Sp.cells := by
    rw [List.flatMap_def, List.flatMap_def, List.map_set]
    congr 1
    apply List.ext_getElem?
    intro j
    rw [List.getElem?_set]
    split
    · rename_i hij; subst hij
      rw [List.getElem?_map, hs]
      have := (List.getElem?_eq_some_iff.1 hs).1
      simp [Sp.cells, hl, this]
    · rfl
  obtain ⟨n, ho⟩ := h.sls.own s.sl (List.mem_of_getElem? hs')
  have hlt := ho.lt k hkb
  refine ⟨⟨?_, h.mlt, h.met.of (Nat.le_refl _) (s_bn (fun e => hnk.2.1 e.symm)), ?_, ?_, h.ne, h.n1, ?_⟩, ?_, ?_⟩
  · rw [s_bn (fun e => hnk.1 e.symm), List.length_set]; exact h.m
  · rw [List.length_set, hcell]
    exact h.slc.of (Nat.le_refl _) fun b hb => s_bn fun e => hnk.2.2 (e ▸ hb)
  · rw [hmap]
    refine h.sls.set hs' (Nat.le_refl _) (fun b _ hb => s_bn fun e => hb (by rw [e]; exact hkb)) ⟨s.ws.length, ?_⟩ fun b hb => .inl hb
    show OwnS _ T_uint64 1 s.a _ (u64s w')
    rw [ha]
    exact OwnS.new (by simp [u64s_len, hl]) s_bs hlt
  · rw [hmap, hbk]; exact h.n2
  · simp only [memF, hmap, hbk]
  · simp [memF, hkm]

theorem write_ok {σ : AH O} {mb : Nat} {F : List Nat} {M : MemS} {id at_ x : Int} {w : List Int} (h : MemAt σ mb F M) (hM : M.ok) (h0 : 0 ≤ id) (hw : M.sp[id.toNat]? = some (true, w)) (h1 : 0 ≤ at_) (h2 : at_ < w.length) :
    Ok (mem_Mem__Write [.p (some (.n mb, 0)), .i .i64 id, .i .i64 at_, .i .u64 x] σ) fun r => r.1 = .i .i64 0 ∧ MemAt r.2 mb F ((M.wr 1).put id.toNat (w.set at_.toNat x)) ∧ Chg F σ r.2 := by
  obtain ⟨tb, sa, L, rfl, e, hC⟩ := h
  obtain ⟨s, hs, ho, rfl⟩ := getW e hw
  obtain ⟨a', ha, hwi⟩ := within_ok (n := 1) hC h0 hs ho (hM.len hw) (by omega) h1 (by omega)
  obtain ⟨k', _, _, _, _, how⟩ := hC.at hs
  obtain ⟨k, ea, ea', hk, hk'⟩ := adv_loc (m := 1) how (by omega) (by omega) ha
  subst ea'
  obtain ⟨el', hm⟩ := hC.m
  have t1 : (1 : Int).toNat = 1 := rfl
  simp (config := { maxSteps := 2000000 }) -implicitDefEqProofs (disch := (first | omega | rfl | assumption | (simp only [rsD]; first | omega | assumption))) only [mem_Mem__Write, mem_Mem__Write_c, hwi, t1, hm, Nat.reduceAdd, Nat.reduceMul, Nat.reduceLT, Int.reduceToNat, Int.reduceAdd, Int.reduceSub, Int.reduceMul, rsU, rsC]
  refine Ok.step (step_w_ok hC.met hM.met.w (by omega) (by omega)) fun r ⟨g1, g2, g3⟩ => ?_
  obtain ⟨q, σ1⟩ := r
  simp only at g1 g2 g3
  subst g1
  have hkb : k ∈ sbk (L.map Sp.sl) := mem_spb hs (by rw [ea]; simp [SA.bk])
  have hk1 : σ1.blk k = _ := (g3.blk k hk' (by simpa using (hC.n2 k hkb).2.1)).trans hk
  have hsp : splice (u64s s.ws) at_.toNat [.i .u64 x] = u64s (s.ws.set at_.toNat x) := by
    rw [splice_set (by rw [u64s_len]; omega)]; simp [u64s, List.map_set]
  simp (config := { maxSteps := 2000000 }) -implicitDefEqProofs (disch := (first | omega | rfl | assumption | (simp only [rsD]; first | omega | assumption))) only [hk1, u64s_len, hsp, Nat.reduceAdd, Nat.reduceMul, Nat.reduceLT, Int.reduceToNat, Int.reduceAdd, Int.reduceSub, Int.reduceMul, rsU, rsC]
  have hC1 := hC.step g3 g2
  obtain ⟨q1, q2, q3⟩ := hC1.write hs ea hk1 (w' := s.ws.set at_.toNat x) (by simp)
  refine Ok_some.2 ⟨rfl, ⟨tb, sa, _, q2.symm, ?_, q1⟩, (g3.mono fun b hb => .inl (by simp at hb; subst hb; simp [memF])).put (.inl q3) _⟩
  simp only [MemS.put, MemS.wr, e, List.map_set, Sp.v, ho]

/-- words from one on are these -/
def patched (w : List Int) (at_ : Nat) (v : List Int) : List Int := w.take at_ ++ v ++ w.drop (at_ + v.length)
theorem patched_len {w v : List Int} {a : Nat} (h : a + v.length ≤ w.length) : (patched w a v).length = w.length := by simp [patched]; omega
theorem splice_u64s (w v : List Int) (a : Nat) : splice (u64s w) a (u64s v) = u64s (patched w a v) := by
  simp [splice, patched, u64s, List.map_take, List.map_drop]

theorem put_self {M : MemS} {i : Nat} {w : List Int} (hw : M.sp[i]? = some (true, w)) : M.put i w = M := by
  have : M.sp.set i (true, w) = M.sp := by
    apply List.ext_getElem?
    intro j
    rw [List.getElem?_set]
    split
    · rename_i hij; subst hij
      have := (List.getElem?_eq_some_iff.1 hw).1
      rw [hw]; simp [this]
    · rfl
  cases M; simp only [MemS.put] at *; rw [this]
theorem patched_nil (w : List Int) (a : Nat) : patched w a [] = w := by simp [patched]

theorem zero_ok {σ : AH O} {mb : Nat} {F : List Nat} {M : MemS} {id at_ n : Int} {w : List Int} (h : MemAt σ mb F M) (hM : M.ok) (h0 : 0 ≤ id) (hw : M.sp[id.toNat]? = some (true, w)) (h1 : 0 ≤ at_) (hn : 0 ≤ n) (h2 : at_ + n ≤ w.length) :
    Ok (mem_Mem__Zero [.p (some (.n mb, 0)), .i .i64 id, .i .i64 at_, .i .i64 n] σ) fun r => r.1 = .i .i64 0 ∧ MemAt r.2 mb F ((M.wr n).put id.toNat (patched w at_.toNat (List.replicate n.toNat 0))) ∧ Chg F σ r.2 := by
  have h' := h
  obtain ⟨tb, sa, L, rfl, e, hC⟩ := h
  obtain ⟨s, hs, ho, rfl⟩ := getW e hw
  have hlen := hM.len hw
  obtain ⟨a', ha, hwi⟩ := within_ok (n := n) hC h0 hs ho hlen hn h1 h2
  obtain ⟨k', _, _, _, _, how⟩ := hC.at hs
  obtain ⟨el', hm⟩ := hC.m
  by_cases hz : n = 0
  · subst hz
    have t0 : (0 : Int).toNat = 0 := rfl
    simp (config := { maxSteps := 2000000 }) -implicitDefEqProofs (disch := (first | omega | rfl | assumption | (simp only [rsD]; first | omega | assumption))) only [mem_Mem__Zero, mem_Mem__Zero_c, hwi, hm, t0, step_none, Nat.reduceAdd, Nat.reduceMul, Nat.reduceLT, Int.reduceToNat, Int.reduceAdd, Int.reduceSub, Int.reduceMul, rsU, rsC]
    refine Ok_some.2 ⟨rfl, ?_, Chg.refl _ _⟩
    rw [List.replicate_zero, patched_nil]
    have : M.wr 0 = M := by simp [MemS.wr]
    rw [this, put_self hw]; exact h'
  · obtain ⟨k, ea, ea', hk, hk'⟩ := adv_loc (m := n.toNat) how (by omega) (by omega) ha
    subst ea'
    have z : Nat.beq n.toNat 0 = false := s_n1 (by omega)
    simp (config := { maxSteps := 2000000 }) -implicitDefEqProofs (disch := (first | omega | rfl | assumption | (simp only [rsD]; first | omega | assumption))) only [mem_Mem__Zero, mem_Mem__Zero_c, hwi, hm, z, Nat.reduceAdd, Nat.reduceMul, Nat.reduceLT, Int.reduceToNat, Int.reduceAdd, Int.reduceSub, Int.reduceMul, rsU, rsC]
    refine Ok.step (step_w_ok hC.met hM.met.w (by omega) (by omega)) fun r ⟨g1, g2, g3⟩ => ?_
    obtain ⟨q, σ1⟩ := r
    simp only at g1 g2 g3
    subst g1
    have hkb : k ∈ sbk (L.map Sp.sl) := mem_spb hs (by rw [ea]; simp [SA.bk])
    have hk1 : σ1.blk k = _ := (g3.blk k hk' (by simpa using (hC.n2 k hkb).2.1)).trans hk
    simp (config := { maxSteps := 2000000 }) -implicitDefEqProofs (disch := (first | omega | rfl | assumption | (simp only [rsD]; first | omega | assumption))) only [hk1, u64s_len, u64s_rep, splice_u64s, List.length_replicate, Nat.reduceAdd, Nat.reduceMul, Nat.reduceLT, Int.reduceToNat, Int.reduceAdd, Int.reduceSub, Int.reduceMul, rsU, rsC]
    have hC1 := hC.step g3 g2
    obtain ⟨q1, q2, q3⟩ := hC1.write hs ea hk1 (w' := patched s.ws at_.toNat (List.replicate n.toNat 0)) (patched_len (by simp; omega))
    refine Ok_some.2 ⟨rfl, ⟨tb, sa, _, q2.symm, ?_, q1⟩, (g3.mono fun b hb => .inl (by simp at hb; subst hb; simp [memF])).put (.inl q3) _⟩
    simp only [MemS.put, MemS.wr, e, List.map_set, Sp.v, ho]

end Go.Abs.Try
