/-
  Layer 15: large objects: what is told and read of them. No conditions.
-/
import Derived.Test.YtgmffmgbaelohaaM15
set_option linter.unusedVariables false
set_option linter.unusedSimpArgs false
set_option linter.constructorNameAsVariable false
set_option linter.unusedSimpArgs false
set_option linter.unusedVariables false
set_option linter.unusedSectionVars false
set_option maxHeartbeats 1000000
namespace Go.Abs.Try
open Go Go.Abs
variable {O : Type}

/-- the meters are far from their ends -/
def MemS.far (M : MemS) (k : Int) : Prop := M.met.r + k < 85070591730234615865843651857942052864 ∧ M.met.w + k < 85070591730234615865843651857942052864
theorem MemS.far.calm {M : MemS} {k : Int} (h : M.far k) (h0 : 0 ≤ k) : M.calm := ⟨by have := h.1; omega, by have := h.2; omega⟩
theorem Beh.far {Y : List Int} {M M' : MemS} {k a c d : Int} (h : Beh Y M M' k a c) (hf : M.far (k + d)) : M'.far d := by
  have := h.r; have := h.w; have := h.k; have := hf.1; have := hf.2
  exact ⟨by omega, by omega⟩
theorem MemS.far.less {M : MemS} {k d : Int} (h : M.far k) (hd : d ≤ k) : M.far d := ⟨by have := h.1; omega, by have := h.2; omega⟩

/-- any read of a space that is there -/
theorem wrong1 {l : Sps} {sp at_ : Int} {ws : List Int} (h : wordsOf l sp = some ws) : wrongR l sp at_ 1 = if 0 ≤ at_ ∧ at_ < ws.length then 0 else 11 := by
  unfold wrongR
  rw [h]
  simp only
  by_cases hc : 0 ≤ at_ ∧ at_ < ws.length
  · rw [if_pos hc, if_neg (by omega)]
  · rw [if_neg hc, if_pos (by omega)]
theorem readR_of {M : MemS} {sp at_ : Int} {ws : List Int} (h : wordsOf M.sp sp = some ws) : M.readR sp at_ = if 0 ≤ at_ ∧ at_ < ws.length then (M.rd 1, ws.getD at_.toNat 0, 0) else (M, 0, 11) := by
  unfold MemS.readR
  rw [wrong1 h, h]
  by_cases hc : 0 ≤ at_ ∧ at_ < ws.length
  · rw [if_pos hc, if_pos hc]; rfl
  · rw [if_neg hc, if_neg hc]; rfl
theorem writeR_of {M : MemS} {sp at_ x : Int} {ws : List Int} (h : wordsOf M.sp sp = some ws) : M.writeR sp at_ x = if 0 ≤ at_ ∧ at_ < ws.length then ((M.wr 1).put sp.toNat (ws.set at_.toNat x), 0) else (M, 11) := by
  unfold MemS.writeR
  rw [wrong1 h, h]
  by_cases hc : 0 ≤ at_ ∧ at_ < ws.length
  · rw [if_pos hc, if_pos hc]; rfl
  · rw [if_neg hc, if_neg hc]; rfl
theorem readXT {σ : AH O} {mb : Nat} {M : MemS} {X : List Nat} (h : MemIn σ mb M X) (hc : M.calm) {id at_ : Int} (ha : -9223372036854775808 ≤ at_ ∧ at_ ≤ 9223372036854775807) :
    Ok (mem_Mem__Read [.p (some (.n mb, 0)), .i .i64 id, .i .i64 at_] σ) fun r => r.1 = .tup [.i .u64 (M.readR id at_).2.1, .i .i64 (M.readR id at_).2.2] ∧ MemIn r.2 mb (M.readR id at_).1 X ∧ Keep X σ r.2 := by
  have key : ∀ F, MemAt σ mb F M → Ok (mem_Mem__Read [.p (some (.n mb, 0)), .i .i64 id, .i .i64 at_] σ) fun r => r.1 = .tup [.i .u64 (M.readR id at_).2.1, .i .i64 (M.readR id at_).2.2] ∧ Behind σ mb F (M.readR id at_).1 r.2 := fun F hF => readT hF h.ok hc ha
  have hh := h
  obtain ⟨F, g1, _⟩ := hh
  obtain ⟨r, e, p1, _⟩ := key F g1
  refine ⟨r, e, p1, ?_⟩
  exact h.behind (F := F) (σ' := r.2) fun F hF => by
    obtain ⟨r', e', _, b⟩ := key F hF
    rw [e] at e'; cases e'; exact b
theorem writeXT {σ : AH O} {mb : Nat} {M : MemS} {X : List Nat} (h : MemIn σ mb M X) (hc : M.calm) {id at_ x : Int} (ha : -9223372036854775808 ≤ at_ ∧ at_ ≤ 9223372036854775807) :
    Ok (mem_Mem__Write [.p (some (.n mb, 0)), .i .i64 id, .i .i64 at_, .i .u64 x] σ) fun r => r.1 = .i .i64 (M.writeR id at_ x).2 ∧ MemIn r.2 mb (M.writeR id at_ x).1 X ∧ Keep X σ r.2 := by
  have key : ∀ F, MemAt σ mb F M → Ok (mem_Mem__Write [.p (some (.n mb, 0)), .i .i64 id, .i .i64 at_, .i .u64 x] σ) fun r => r.1 = .i .i64 (M.writeR id at_ x).2 ∧ Behind σ mb F (M.writeR id at_ x).1 r.2 := fun F hF => writeT hF h.ok hc ha
  have hh := h
  obtain ⟨F, g1, _⟩ := hh
  obtain ⟨r, e, p1, _⟩ := key F g1
  refine ⟨r, e, p1, ?_⟩
  exact h.behind (F := F) (σ' := r.2) fun F hF => by
    obtain ⟨r', e', _, b⟩ := key F hF
    rw [e] at e'; cases e'; exact b
theorem spSmall {M : MemS} (hok : M.ok) {sp : Int} {ws : List Int} (h : wordsOf M.sp sp = some ws) : 0 ≤ sp ∧ sp < 262144 := by
  obtain ⟨h0, h1⟩ := wordsOf_some h
  have := (List.getElem?_eq_some_iff.1 h1).1
  have := hok.few
  omega
theorem Beh.rd {Y : List Int} {M : MemS} : Beh Y M (M.rd 1) 1 0 0 := ⟨by simp only [MemS.rd]; omega, by simp only [MemS.rd]; omega, by simp only [MemS.rd]; omega, by simp only [MemS.rd]; omega, by simp only [MemS.rd]; omega, fun _ _ => rfl⟩
theorem Beh.wrp {Y : List Int} {M : MemS} {id : Int} {w : List Int} (h0 : 0 ≤ id) (hY : id ∉ Y) : Beh Y M ((M.wr 1).put id.toNat w) 1 0 0 :=
  ⟨by simp only [MemS.wr, MemS.put]; omega, by simp only [MemS.wr, MemS.put]; omega, by simp only [MemS.wr, MemS.put]; omega, by simp only [MemS.wr, MemS.put]; omega, by simp only [MemS.wr, MemS.put]; omega, fun y hy => wordsOf_other (fun e => hY (e ▸ hy)) h0⟩

theorem lnew_nil {σ : AH O} : large_New [.p none] σ = some (.tup [.p none, .i .i64 1], σ) := by
  have := pnew_bad (σ := σ) (p := none) (n := 5) (.inl rfl)
  simp (config := { maxSteps := 2000000 }) -implicitDefEqProofs (disch := (first | omega | rfl | assumption | (simp only [rsD]; first | omega | assumption))) only [large_New, large_New_c, this, Nat.reduceAdd, Nat.reduceMul, Nat.reduceLT, Int.reduceToNat, Int.reduceAdd, Int.reduceSub, Int.reduceMul, rsU, rsC]
theorem lnew_ok {σ : AH O} {mb : Nat} {M : MemS} {X : List Nat} {Y : List Int} (h : MemIn σ mb M X) (hf : M.calm) (hcnt : M.count < 262144) (hY : ∀ y ∈ Y, wordsOf M.sp y ≠ none) :
    Ok (large_New [.p (some (.n mb, 0))] σ) fun r => ∃ lb pb M' S, r.1 = .tup [.p (some (.n lb, 0)), .i .i64 0] ∧ LarAt r.2 lb pb mb M' S [] ⟨[], [], 0, 0, 0, fun _ => none⟩ X Y ∧ S = ⟨ff M.sp, 5, 0, [], [], 0⟩ ∧ M' = M.opn (ff M.sp) 0 ∧ Beh Y M M' 0 0 1 ∧ Keep X σ r.2 := by
  simp (config := { maxSteps := 2000000 }) -implicitDefEqProofs (disch := (first | omega | rfl | assumption | (simp only [rsD]; first | omega | assumption))) only [large_New, large_New_c, Nat.reduceAdd, Nat.reduceMul, Nat.reduceLT, Int.reduceToNat, Int.reduceAdd, Int.reduceSub, Int.reduceMul, rsU, rsC]
  refine Ok.step (pnew_ok h hf hcnt (n := 5) (by decide)) fun r ⟨pb, g1, g2, g3, g4⟩ => ?_
  obtain ⟨q, σ1⟩ := r
  simp only at g1 g2 g4
  subst g1
  have e0 : ((0 : Int) != 0) = false := rfl
  simp (config := { maxSteps := 2000000 }) -implicitDefEqProofs (disch := (first | omega | rfl | assumption | (simp only [rsD]; first | omega | assumption))) only [e0, Nat.reduceAdd, Nat.reduceMul, Nat.reduceLT, Int.reduceToNat, Int.reduceAdd, Int.reduceSub, Int.reduceMul, rsU, rsC]
  have hlX : ∀ b ∈ X, b < σ1.next := fun b hb => g2.mi.lt _ (by simp [hb])
  have hbh : Beh Y M (M.opn (ff M.sp) 0) 0 0 1 := h.ok.opn' (by decide) (by decide) hcnt hY
  have hne : σ1.next ∉ X := fun hm => by have := hlX _ hm; omega
  refine Ok_some.2 ⟨σ1.next, pb, _, _, rfl, ⟨g2.turn (L := [σ1.next]) ⟨by simp, fun b hb hm => by simp -implicitDefEqProofs (disch := omega) only [s_bn, s_bs, s_kn, bump_blk]⟩ (fun b hb => .inr (by simp at hb; omega)) (fun b hb => ?_), ⟨_, s_bs⟩, hne, rfl, Linked.nil _ _ _, Linked.nil _ _ _, fun i hi => by simp at hi, fun i hi => absurd rfl hi, ⟨fun i _ => rfl, fun i ws ho => by simp at ho, fun i j x a b c d hi => by simp [v5] at hi, fun y hy => ⟨by rw [hbh.keep y hy]; exact hY y hy, fun e => ?_⟩⟩, by decide, by decide, rfl⟩, rfl, rfl, hbh, g4.trans ⟨by simp, fun b hb => by have := hlX b hb; simp -implicitDefEqProofs (disch := omega) only [s_bn, s_bs, s_kn, bump_blk]⟩⟩
  · rcases List.mem_cons.1 hb with rfl | hb
    · exact .inr (by simp)
    · exact .inl hb
  · have := hY y hy
    cases hw : wordsOf M.sp y with
    | none => exact this hw
    | some ws => exact (opn_other (n := 0) hw).2 e
theorem ltab_ok {σ : AH O} {lb pb mb : Nat} {M : MemS} {S : PoolS} {w : List Int} {X : List Nat} (hp : PoolAt σ pb mb M S w (lb :: X)) (hw : S.words = 5) {el : TypeId} {a : AV} {cs : List AV} (hbb : σ.blk lb = some (.cells true el (a :: .p (some (.n pb, 0)) :: cs))) :
    Ok (large_Large__table [.p (some (.n lb, 0))] σ) fun r => r.1 = tbl S mb 2 3 ∧ Ext σ r.2 := by
  have hlt := hp.mi.lt lb (by simp)
  simp (config := { maxSteps := 2000000 }) -implicitDefEqProofs (disch := (first | omega | rfl | assumption | (simp only [rsD]; first | omega | assumption))) only [large_Large__table, large_Large__table_c, hbb, Nat.reduceAdd, Nat.reduceMul, Nat.reduceLT, Int.reduceToNat, Int.reduceAdd, Int.reduceSub, Int.reduceMul, rsU, rsC]
  generalize hσ : (σ.bump 1).put σ.next (.cells true _ _) = σ1
  obtain ⟨E1, b1, n1⟩ := boxed hσ
  clear hσ
  have pt := ptable_ok (hp.ext E1) (nx := 2) (pv := 3) (by omega) (by omega)
  rw [show ((2 : Nat) : Int) = 2 from rfl, show ((3 : Nat) : Int) = 3 from rfl] at pt
  refine Ok.step pt fun r ⟨g1, g2⟩ => ?_
  obtain ⟨q, σ2⟩ := r
  simp only [tbl] at g1 g2
  subst g1
  have b2 : σ2.blk σ.next = _ := (g2.blk _ (by omega)).trans b1
  have n2 := g2.next
  simp (config := { maxSteps := 2000000 }) -implicitDefEqProofs (disch := (first | omega | rfl | assumption | (simp only [rsD]; first | omega | assumption))) only [b2, Nat.reduceAdd, Nat.reduceMul, Nat.reduceLT, Int.reduceToNat, Int.reduceAdd, Int.reduceSub, Int.reduceMul, rsU, rsC]
  exact Ok_some.2 ⟨rfl, (E1.trans g2).put (Nat.le_refl _) _⟩
section
variable {σ : AH O} {lb pb mb : Nat} {M : MemS} {S : PoolS} {w : List Int} {L : LarS} {X : List Nat} {Y : List Int} (h : LarAt σ lb pb mb M S w L X Y)
include h
theorem lwords_ok : large_Large__Words [.p (some (.n lb, 0))] σ = some (.i .i64 L.words, σ) := by
  obtain ⟨el, hb⟩ := h.b
  simp only [LarS.cells] at hb
  simp (config := { maxSteps := 2000000 }) -implicitDefEqProofs (disch := (first | omega | rfl | assumption | (simp only [rsD]; first | omega | assumption))) only [large_Large__Words, large_Large__Words_c, hb, Nat.reduceAdd, Nat.reduceMul, Nat.reduceLT, Int.reduceToNat, Int.reduceAdd, Int.reduceSub, Int.reduceMul, rsU, rsC]
theorem ltable_ok : Ok (large_Large__table [.p (some (.n lb, 0))] σ) fun r => r.1 = tbl S mb 2 3 ∧ Ext σ r.2 := by
  obtain ⟨el, hbb⟩ := h.b
  simp only [LarS.cells] at hbb
  exact ltab_ok h.p h.five hbb
variable (hf : M.far 1000)
include hf
/-- a word of an entry that is not there -/
theorem lget_no {id : Int} {k : Int} (hn : ∀ i : Nat, id = (i : Int) + 1 → L.ob i = none) :
    Ok (pool_Pool__Get [.p (some (.n pb, 0)), .i .i64 id, .i .i64 k] σ) fun r => r.1 = .tup [.i .u64 0, .i .i64 4] ∧ ∃ M', LarAt r.2 lb pb mb M' S w L X Y ∧ Beh Y M M' 1 0 0 ∧ Keep X σ r.2 := by
  have hc := hf.calm (by decide)
  by_cases hr : id < 1 ∨ id > S.E.length
  · exact ⟨_, pget_no h.p hc hr, rfl, M, h, (Beh.refl Y M).as (by decide) rfl rfl, Keep.refl _ _⟩
  · obtain ⟨i, rfl⟩ : ∃ i : Nat, id = (i : Int) + 1 := ⟨(id - 1).toNat, by omega⟩
    have he := List.getElem?_eq_getElem (show i < S.E.length by omega)
    have htk : (S.E[i]).tk = false := by
      cases ht : (S.E[i]).tk with
      | false => rfl
      | true => obtain ⟨ws, ho⟩ := h.tkn he ht; rw [hn i rfl] at ho; cases ho
    have hp : pwrong S (S.E[i]) k = 4 := by simp [pwrong, htk]
    have g := pget_bad h.p hc he (k := k) (by rw [hp]; decide)
    rw [hp] at g
    refine g.mono fun r ⟨g1, M', g2, g3, g4⟩ => ⟨g1, M', h.read g2 g4 g3, (h.beh g3 g2.mi.ok (by decide) (by decide) rfl).as (by decide) rfl rfl, g4.tail⟩
/-- a word of an entry -/
theorem lget_ok {i : Nat} {ws : List Int} (ho : L.ob i = some ws) {e : PE} (he : S.E[i]? = some e) {k : Nat} (hk : k < 5) {x : Int} (hx : e.ws[k]? = some x) :
    Ok (pool_Pool__Get [.p (some (.n pb, 0)), .i .i64 ((i : Int) + 1), .i .i64 (k : Int)] σ) fun r => r.1 = .tup [.i .u64 x, .i .i64 0] ∧ ∃ M', LarAt r.2 lb pb mb M' S w L X Y ∧ Wrt M M' S.id w 2 0 ∧ Keep (lb :: X) σ r.2 := by
  have hc := hf.calm (by decide)
  obtain ⟨e', sp, mk, he', htk, _⟩ := h.at ho
  rw [he] at he'; cases he'
  refine (pget_ok h.p hc he htk (by rw [h.five]; exact hk) (by have := hf.1; omega)).mono fun r ⟨g1, M', g2, g3, g4⟩ => ⟨?_, M', h.read g2 g4 g3, g3, g4⟩
  rw [g1, List.getD_eq_getElem?_getD, hx]; rfl
theorem LarAt.beh2 {M' : MemS} (g3 : Wrt M M' S.id w 2 0) (hok : M'.ok) : Beh Y M M' 2 0 0 := (h.beh g3 hok (by decide) (by decide) rfl).as (by decide) rfl rfl
theorem lread_no {id at_ : Int} (hn : ∀ i : Nat, id = (i : Int) + 1 → L.ob i = none) :
    Ok (large_Large__Read [.p (some (.n lb, 0)), .i .i64 id, .i .i64 at_] σ) fun r => r.1 = .tup [.i .u64 0, .i .i64 4] ∧ ∃ M', LarAt r.2 lb pb mb M' S w L X Y ∧ Beh Y M M' 1 0 0 ∧ Keep X σ r.2 := by
  obtain ⟨el, hb⟩ := h.b
  simp only [LarS.cells] at hb
  have e4 : ((4 : Int) != 0) = true := rfl
  simp (config := { maxSteps := 2000000 }) -implicitDefEqProofs (disch := (first | omega | rfl | assumption | (simp only [rsD]; first | omega | assumption))) only [large_Large__Read, large_Large__Read_c, hb, Nat.reduceAdd, Nat.reduceMul, Nat.reduceLT, Int.reduceToNat, Int.reduceAdd, Int.reduceSub, Int.reduceMul, rsU, rsC]
  refine Ok.step (lget_no h hf hn) fun r ⟨g1, M', g2, g3, g4⟩ => ?_
  obtain ⟨q, σ1⟩ := r
  simp only at g1 g2 g4
  subst g1
  simp (config := { maxSteps := 2000000 }) -implicitDefEqProofs (disch := (first | omega | rfl | assumption | (simp only [rsD]; first | omega | assumption))) only [e4, Nat.reduceAdd, Nat.reduceMul, Nat.reduceLT, Int.reduceToNat, Int.reduceAdd, Int.reduceSub, Int.reduceMul, rsU, rsC]
  exact Ok_some.2 ⟨rfl, M', g2, g3, g4⟩
theorem lread_ok {i : Nat} {ws : List Int} (ho : L.ob i = some ws) {at_ : Int} (ha : -9223372036854775808 ≤ at_ ∧ at_ ≤ 9223372036854775807) :
    Ok (large_Large__Read [.p (some (.n lb, 0)), .i .i64 ((i : Int) + 1), .i .i64 at_] σ) fun r => r.1 = (if 0 ≤ at_ ∧ at_ < ws.length then .tup [.i .u64 (ws.getD at_.toNat 0), .i .i64 0] else .tup [.i .u64 0, .i .i64 11]) ∧ ∃ M', LarAt r.2 lb pb mb M' S w L X Y ∧ Beh Y M M' 3 0 0 ∧ Keep X σ r.2 := by
  obtain ⟨el, hb⟩ := h.b
  simp only [LarS.cells] at hb
  obtain ⟨e, sp, mk, he, htk, a1, a2, a3, a4, a5, a6, a7, a8, a9⟩ := h.at ho
  have hs := spSmall h.p.mi.ok a7
  simp (config := { maxSteps := 2000000 }) -implicitDefEqProofs (disch := (first | omega | rfl | assumption | (simp only [rsD]; first | omega | assumption))) only [large_Large__Read, large_Large__Read_c, hb, Nat.reduceAdd, Nat.reduceMul, Nat.reduceLT, Int.reduceToNat, Int.reduceAdd, Int.reduceSub, Int.reduceMul, rsU, rsC]
  have g := lget_ok h hf ho he (k := 0) (by decide) a1
  rw [show ((0 : Nat) : Int) = 0 from rfl] at g
  refine Ok.step g fun r ⟨g1, M1, g2, g3, g4⟩ => ?_
  obtain ⟨q, σ1⟩ := r
  simp only at g1 g2 g4
  subst g1
  have e0 : ((0 : Int) != 0) = false := rfl
  obtain ⟨el1, hb1⟩ := g2.b
  simp only [LarS.cells] at hb1
  simp (config := { maxSteps := 2000000 }) -implicitDefEqProofs (disch := (first | omega | rfl | assumption | (simp only [rsD]; first | omega | assumption))) only [e0, hb1, Nat.reduceAdd, Nat.reduceMul, Nat.reduceLT, Int.reduceToNat, Int.reduceAdd, Int.reduceSub, Int.reduceMul, rsU, rsC]
  have b1 := h.beh2 hf g3 g2.p.mi.ok
  have hf1 : M1.far 998 := b1.far (hf.less (by decide))
  have rd := readXT g2.p.mi (hf1.calm (by decide)) (id := sp) (at_ := at_) ha
  have a7' : wordsOf M1.sp sp = some ws := g3.oth h.p.now sp ws a8 a7
  rw [readR_of a7'] at rd
  refine Ok.step rd fun r ⟨k1, k2, k3⟩ => ?_
  obtain ⟨q, σ2⟩ := r
  simp only at k1 k2 k3
  subst k1
  simp (config := { maxSteps := 2000000 }) -implicitDefEqProofs (disch := (first | omega | rfl | assumption | (simp only [rsD]; first | omega | assumption))) only [Nat.reduceAdd, Nat.reduceMul, Nat.reduceLT, Int.reduceToNat, Int.reduceAdd, Int.reduceSub, Int.reduceMul, rsU, rsC]
  by_cases hc : 0 ≤ at_ ∧ at_ < ws.length
  · rw [if_pos hc] at k2 ⊢
    refine Ok_some.2 ⟨by rw [if_pos hc], M1.rd 1, g2.re { g2.p with mi := k2, b := (k3.head).trans g2.p.b } (k3.tail).head fun y v _ hv => hv, (b1.trans Beh.rd).as (by decide) rfl rfl, g4.tail.trans k3.tail.tail⟩
  · rw [if_neg hc] at k2 ⊢
    refine Ok_some.2 ⟨by rw [if_neg hc], M1, g2.re { g2.p with mi := k2, b := (k3.head).trans g2.p.b } (k3.tail).head fun y v _ hv => hv, b1.as (by decide) rfl rfl, g4.tail.trans k3.tail.tail⟩
omit hf in
/-- one object's words are others -/
theorem LarAt.wrote {σ' : AH O} {M' : MemS} {i : Nat} {e : PE} {ws ws' : List Int} {sp : Int} (he : S.E[i]? = some e) (ho : L.ob i = some ws) (hsp : e.ws[0]? = some sp) (hl : ws'.length = ws.length)
    (hw : wordsOf M'.sp sp = some ws') (hoth : ∀ y, y ≠ sp → wordsOf M'.sp y = wordsOf M.sp y) (hm : MemIn σ' mb M' (pb :: lb :: X)) (hk : Keep (pb :: lb :: X) σ σ') :
    LarAt σ' lb pb mb M' S w { L with ob := fun j => if j = i then some ws' else L.ob j } X Y := by
  obtain ⟨e', sp', mk, he', htk, a1, a2, a3, a4, a5, a6, a7, a8, a9⟩ := h.at ho
  rw [he] at he'; cases he'
  rw [hsp] at a1; cases a1
  have hlen : ∀ j, (LarS.len { L with ob := fun j => if j = i then some ws' else L.ob j } j) = L.len j := fun j => by
    unfold LarS.len
    simp only
    by_cases hj : j = i
    · subst hj; rw [if_pos rfl, ho]; exact hl
    · rw [if_neg hj]
  have hv : v5 S.E i = some (sp, (ws.length : Int), mk) := v5_mk he htk hsp a2 a3
  refine { h with p := { h.p with mi := hm, b := hk.head.trans h.p.b, now := (hoth _ (Ne.symm a8)).trans h.p.now }, b := by obtain ⟨el, hb⟩ := h.b; exact ⟨el, hk.tail.head.trans hb⟩, all := fun j hj => ?_, o := ⟨fun j hj => ?_, fun j vs hj => ?_, h.o.apart, fun y hy => ⟨?_, (h.o.others y hy).2⟩⟩, sum := ?_ }
  · simp only at hj
    by_cases hji : j = i
    · subst hji; exact h.all j (by rw [ho]; simp)
    · rw [if_neg hji] at hj; exact h.all j hj
  · simp only at hj
    by_cases hji : j = i
    · rw [if_pos hji] at hj; cases hj
    · rw [if_neg hji] at hj; exact h.o.non j hj
  · simp only at hj
    by_cases hji : j = i
    · subst hji
      rw [if_pos rfl] at hj; cases hj
      exact ⟨sp, mk, by rw [hl]; exact hv, a4, a5, a6, hw, a8, a9⟩
    · rw [if_neg hji] at hj
      obtain ⟨sq, mq, c1, c4, c5, c6, c7, c8, c9⟩ := h.o.at_ j vs hj
      refine ⟨sq, mq, c1, c4, c5, c6, (hoth sq fun e0 => hji ?_).trans c7, c8, c9⟩
      subst e0
      exact h.o.apart j i _ _ _ _ _ c1 hv
  · rw [hoth y fun e0 => a9 (e0 ▸ hy)]; exact (h.o.others y hy).1
  · rw [h.sum]
    congr 2
    exact List.map_congr_left fun j _ => (hlen j).symm
theorem lwrite_no {id at_ x : Int} (hn : ∀ i : Nat, id = (i : Int) + 1 → L.ob i = none) :
    Ok (large_Large__Write [.p (some (.n lb, 0)), .i .i64 id, .i .i64 at_, .i .u64 x] σ) fun r => r.1 = .i .i64 4 ∧ ∃ M', LarAt r.2 lb pb mb M' S w L X Y ∧ Beh Y M M' 1 0 0 ∧ Keep X σ r.2 := by
  obtain ⟨el, hb⟩ := h.b
  simp only [LarS.cells] at hb
  have e4 : ((4 : Int) != 0) = true := rfl
  simp (config := { maxSteps := 2000000 }) -implicitDefEqProofs (disch := (first | omega | rfl | assumption | (simp only [rsD]; first | omega | assumption))) only [large_Large__Write, large_Large__Write_c, hb, Nat.reduceAdd, Nat.reduceMul, Nat.reduceLT, Int.reduceToNat, Int.reduceAdd, Int.reduceSub, Int.reduceMul, rsU, rsC]
  refine Ok.step (lget_no h hf hn) fun r ⟨g1, M', g2, g3, g4⟩ => ?_
  obtain ⟨q, σ1⟩ := r
  simp only at g1 g2 g4
  subst g1
  simp (config := { maxSteps := 2000000 }) -implicitDefEqProofs (disch := (first | omega | rfl | assumption | (simp only [rsD]; first | omega | assumption))) only [e4, Nat.reduceAdd, Nat.reduceMul, Nat.reduceLT, Int.reduceToNat, Int.reduceAdd, Int.reduceSub, Int.reduceMul, rsU, rsC]
  exact Ok_some.2 ⟨rfl, M', g2, g3, g4⟩
theorem lwrite_ok {i : Nat} {ws : List Int} (ho : L.ob i = some ws) {at_ x : Int} (ha : 0 ≤ at_ ∧ at_ < ws.length) :
    Ok (large_Large__Write [.p (some (.n lb, 0)), .i .i64 ((i : Int) + 1), .i .i64 at_, .i .u64 x] σ) fun r => r.1 = .i .i64 0 ∧ ∃ M', LarAt r.2 lb pb mb M' S w { L with ob := fun j => if j = i then some (ws.set at_.toNat x) else L.ob j } X Y ∧ Beh Y M M' 3 0 0 ∧ Keep X σ r.2 := by
  obtain ⟨el, hb⟩ := h.b
  simp only [LarS.cells] at hb
  obtain ⟨e, sp, mk, he, htk, a1, a2, a3, a4, a5, a6, a7, a8, a9⟩ := h.at ho
  have hs := spSmall h.p.mi.ok a7
  have hl := h.p.mi.wlen a7
  simp (config := { maxSteps := 2000000 }) -implicitDefEqProofs (disch := (first | omega | rfl | assumption | (simp only [rsD]; first | omega | assumption))) only [large_Large__Write, large_Large__Write_c, hb, Nat.reduceAdd, Nat.reduceMul, Nat.reduceLT, Int.reduceToNat, Int.reduceAdd, Int.reduceSub, Int.reduceMul, rsU, rsC]
  have g := lget_ok h hf ho he (k := 0) (by decide) a1
  rw [show ((0 : Nat) : Int) = 0 from rfl] at g
  refine Ok.step g fun r ⟨g1, M1, g2, g3, g4⟩ => ?_
  obtain ⟨q, σ1⟩ := r
  simp only at g1 g2 g4
  subst g1
  have e0 : ((0 : Int) != 0) = false := rfl
  obtain ⟨el1, hb1⟩ := g2.b
  simp only [LarS.cells] at hb1
  simp (config := { maxSteps := 2000000 }) -implicitDefEqProofs (disch := (first | omega | rfl | assumption | (simp only [rsD]; first | omega | assumption))) only [e0, hb1, Nat.reduceAdd, Nat.reduceMul, Nat.reduceLT, Int.reduceToNat, Int.reduceAdd, Int.reduceSub, Int.reduceMul, rsU, rsC]
  have b1 := h.beh2 hf g3 g2.p.mi.ok
  have hf1 : M1.far 998 := b1.far (hf.less (by decide))
  have wr := writeXT g2.p.mi (hf1.calm (by decide)) (id := sp) (at_ := at_) (x := x) (by omega)
  have a7' : wordsOf M1.sp sp = some ws := g3.oth h.p.now sp ws a8 a7
  rw [writeR_of a7', if_pos ha] at wr
  refine Ok.step wr fun r ⟨k1, k2, k3⟩ => ?_
  obtain ⟨q, σ2⟩ := r
  simp only at k1 k2 k3
  subst k1
  simp (config := { maxSteps := 2000000 }) -implicitDefEqProofs (disch := (first | omega | rfl | assumption | (simp only [rsD]; first | omega | assumption))) only [Nat.reduceAdd, Nat.reduceMul, Nat.reduceLT, Int.reduceToNat, Int.reduceAdd, Int.reduceSub, Int.reduceMul, rsU, rsC]
  have hin : wordsOf ((M1.wr 1).put sp.toNat (ws.set at_.toNat x)).sp sp = some (ws.set at_.toNat x) := by
    obtain ⟨h0, h1⟩ := wordsOf_some a7'
    refine wordsOf_mk h0 ?_
    show (M1.sp.set sp.toNat _)[sp.toNat]? = _
    rw [List.getElem?_set]; simp [(List.getElem?_eq_some_iff.1 h1).1]
  exact Ok_some.2 ⟨rfl, _, g2.wrote he ho a1 (by simp) hin (fun y hy => wordsOf_other hy hs.1) k2 k3, (b1.trans (Beh.wrp hs.1 a9)).as (by decide) rfl rfl, g4.tail.trans k3.tail.tail⟩
theorem lwrite_out {i : Nat} {ws : List Int} (ho : L.ob i = some ws) {at_ x : Int} (hr : -9223372036854775808 ≤ at_ ∧ at_ ≤ 9223372036854775807) (ha : ¬ (0 ≤ at_ ∧ at_ < ws.length)) :
    Ok (large_Large__Write [.p (some (.n lb, 0)), .i .i64 ((i : Int) + 1), .i .i64 at_, .i .u64 x] σ) fun r => r.1 = .i .i64 11 ∧ ∃ M', LarAt r.2 lb pb mb M' S w L X Y ∧ Beh Y M M' 2 0 0 ∧ Keep X σ r.2 := by
  obtain ⟨el, hb⟩ := h.b
  simp only [LarS.cells] at hb
  obtain ⟨e, sp, mk, he, htk, a1, a2, a3, a4, a5, a6, a7, a8, a9⟩ := h.at ho
  have hs := spSmall h.p.mi.ok a7
  simp (config := { maxSteps := 2000000 }) -implicitDefEqProofs (disch := (first | omega | rfl | assumption | (simp only [rsD]; first | omega | assumption))) only [large_Large__Write, large_Large__Write_c, hb, Nat.reduceAdd, Nat.reduceMul, Nat.reduceLT, Int.reduceToNat, Int.reduceAdd, Int.reduceSub, Int.reduceMul, rsU, rsC]
  have g := lget_ok h hf ho he (k := 0) (by decide) a1
  rw [show ((0 : Nat) : Int) = 0 from rfl] at g
  refine Ok.step g fun r ⟨g1, M1, g2, g3, g4⟩ => ?_
  obtain ⟨q, σ1⟩ := r
  simp only at g1 g2 g4
  subst g1
  have e0 : ((0 : Int) != 0) = false := rfl
  obtain ⟨el1, hb1⟩ := g2.b
  simp only [LarS.cells] at hb1
  simp (config := { maxSteps := 2000000 }) -implicitDefEqProofs (disch := (first | omega | rfl | assumption | (simp only [rsD]; first | omega | assumption))) only [e0, hb1, Nat.reduceAdd, Nat.reduceMul, Nat.reduceLT, Int.reduceToNat, Int.reduceAdd, Int.reduceSub, Int.reduceMul, rsU, rsC]
  have b1 := h.beh2 hf g3 g2.p.mi.ok
  have hf1 : M1.far 998 := b1.far (hf.less (by decide))
  have wr := writeXT g2.p.mi (hf1.calm (by decide)) (id := sp) (at_ := at_) (x := x) hr
  have a7' : wordsOf M1.sp sp = some ws := g3.oth h.p.now sp ws a8 a7
  rw [writeR_of a7', if_neg ha] at wr
  refine Ok.step wr fun r ⟨k1, k2, k3⟩ => ?_
  obtain ⟨q, σ2⟩ := r
  simp only at k1 k2 k3
  subst k1
  simp (config := { maxSteps := 2000000 }) -implicitDefEqProofs (disch := (first | omega | rfl | assumption | (simp only [rsD]; first | omega | assumption))) only [Nat.reduceAdd, Nat.reduceMul, Nat.reduceLT, Int.reduceToNat, Int.reduceAdd, Int.reduceSub, Int.reduceMul, rsU, rsC]
  exact Ok_some.2 ⟨rfl, M1, g2.re { g2.p with mi := k2, b := (k3.head).trans g2.p.b } (k3.tail).head fun y v _ hv => hv, b1, g4.tail.trans k3.tail.tail⟩
theorem lmarked_no {id : Int} (hn : ∀ i : Nat, id = (i : Int) + 1 → L.ob i = none) :
    Ok (large_Large__Marked [.p (some (.n lb, 0)), .i .i64 id] σ) fun r => r.1 = .tup [.b false, .i .i64 4] ∧ ∃ M', LarAt r.2 lb pb mb M' S w L X Y ∧ Beh Y M M' 1 0 0 ∧ Keep X σ r.2 := by
  obtain ⟨el, hb⟩ := h.b
  simp only [LarS.cells] at hb
  have e4 : ((4 : Int) == 0) = false := rfl
  simp (config := { maxSteps := 2000000 }) -implicitDefEqProofs (disch := (first | omega | rfl | assumption | (simp only [rsD]; first | omega | assumption))) only [large_Large__Marked, large_Large__Marked_c, hb, Nat.reduceAdd, Nat.reduceMul, Nat.reduceLT, Int.reduceToNat, Int.reduceAdd, Int.reduceSub, Int.reduceMul, rsU, rsC]
  refine Ok.step (lget_no h hf hn) fun r ⟨g1, M', g2, g3, g4⟩ => ?_
  obtain ⟨q, σ1⟩ := r
  simp only at g1 g2 g4
  subst g1
  simp (config := { maxSteps := 2000000 }) -implicitDefEqProofs (disch := (first | omega | rfl | assumption | (simp only [rsD]; first | omega | assumption))) only [e4, Nat.reduceAdd, Nat.reduceMul, Nat.reduceLT, Int.reduceToNat, Int.reduceAdd, Int.reduceSub, Int.reduceMul, rsU, rsC]
  exact Ok_some.2 ⟨rfl, M', g2, g3, g4⟩
theorem lmarked_ok {i : Nat} {ws : List Int} (ho : L.ob i = some ws) :
    Ok (large_Large__Marked [.p (some (.n lb, 0)), .i .i64 ((i : Int) + 1)] σ) fun r => r.1 = .tup [.b (decide (i ∈ L.H)), .i .i64 0] ∧ ∃ M', LarAt r.2 lb pb mb M' S w L X Y ∧ Wrt M M' S.id w 2 0 ∧ Keep (lb :: X) σ r.2 := by
  obtain ⟨el, hb⟩ := h.b
  simp only [LarS.cells] at hb
  obtain ⟨e, sp, mk, he, htk, a1, a2, a3, a4, a5, a6, a7, a8, a9⟩ := h.at ho
  simp (config := { maxSteps := 2000000 }) -implicitDefEqProofs (disch := (first | omega | rfl | assumption | (simp only [rsD]; first | omega | assumption))) only [large_Large__Marked, large_Large__Marked_c, hb, Nat.reduceAdd, Nat.reduceMul, Nat.reduceLT, Int.reduceToNat, Int.reduceAdd, Int.reduceSub, Int.reduceMul, rsU, rsC]
  have g := lget_ok h hf ho he (k := 4) (by decide) a3
  rw [show ((4 : Nat) : Int) = 4 from rfl] at g
  refine Ok.step g fun r ⟨g1, M', g2, g3, g4⟩ => ?_
  obtain ⟨q, σ1⟩ := r
  simp only at g1 g2 g4
  subst g1
  have e0 : ((0 : Int) == 0) = true := rfl
  obtain ⟨el1, hb1⟩ := g2.b
  simp only [LarS.cells] at hb1
  have em : (mk == L.ep) = decide (i ∈ L.H) := by
    rw [Bool.eq_iff_iff]; simp [a6]
  simp (config := { maxSteps := 2000000 }) -implicitDefEqProofs (disch := (first | omega | rfl | assumption | (simp only [rsD]; first | omega | assumption))) only [e0, hb1, em, Nat.reduceAdd, Nat.reduceMul, Nat.reduceLT, Int.reduceToNat, Int.reduceAdd, Int.reduceSub, Int.reduceMul, rsU, rsC]
  exact Ok_some.2 ⟨rfl, M', g2, g3, g4⟩
end
end Go.Abs.Try
