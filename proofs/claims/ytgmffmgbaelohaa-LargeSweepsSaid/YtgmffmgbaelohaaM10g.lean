/-
  Layer 9 over layer 10: an entry comes into a chain, and goes. No conditions.
-/
import Derived.Test.YtgmffmgbaelohaaM10f
set_option linter.unusedVariables false
set_option linter.unusedSimpArgs false
set_option linter.constructorNameAsVariable false
set_option linter.unusedSimpArgs false
set_option linter.unusedVariables false
set_option linter.unusedSectionVars false
set_option maxHeartbeats 2000000
namespace Go.Abs.Try
open Go Go.Abs
variable {O : Type}

theorem boxed3 {σ σ1 : AH O} {t1 t2 t3 : TypeId} {c1 c2 c3 : List AV} (h : (((σ.bump 3).put σ.next (.cells true t1 c1)).put (σ.next + 1) (.cells true t2 c2)).put (σ.next + 1 + 1) (.cells true t3 c3) = σ1) :
    Ext σ σ1 ∧ σ1.blk σ.next = some (.cells true t1 c1) ∧ σ1.blk (σ.next + 1) = some (.cells true t2 c2) ∧ σ1.blk (σ.next + 1 + 1) = some (.cells true t3 c3) ∧ σ1.next = σ.next + 3 := by
  subst h
  refine ⟨((((Ext.refl σ).bump 3).put (Nat.le_refl _) _).put (by omega) _).put (by omega) _, ?_, ?_, s_bs, rfl⟩
  · rw [s_bn (by omega), s_bn (by omega), s_bs]
  · rw [s_bn (by omega), s_bs]
/-- but for these two words nothing has changed -/
structure SameBut (nx pv : Nat) (E E' : List PE) : Prop where
  len : E'.length = E.length
  at_ : ∀ (j : Nat) (x : PE), E[j]? = some x → ∃ y, E'[j]? = some y ∧ y.tk = x.tk ∧ y.gen = x.gen ∧ ∀ k, k ≠ nx → k ≠ pv → y.ws[k]? = x.ws[k]?
theorem SameBut.refl (nx pv : Nat) (E : List PE) : SameBut nx pv E E := ⟨rfl, fun j x h => ⟨x, h, rfl, rfl, fun _ _ _ => rfl⟩⟩
theorem SameBut.set {nx pv : Nat} {E E' : List PE} (h : SameBut nx pv E E') {i k : Nat} {e : PE} {v : Int} (he : E'[i]? = some e) (hk : k = nx ∨ k = pv) : SameBut nx pv E (E'.set i { e with ws := e.ws.set k v }) := by
  have hi := (List.getElem?_eq_some_iff.1 he).1
  refine ⟨by rw [List.length_set]; exact h.len, fun j x hx => ?_⟩
  obtain ⟨y, g1, g2, g3, g4⟩ := h.at_ j x hx
  rw [List.getElem?_set]
  by_cases c : i = j
  · subst c
    rw [he] at g1; cases g1
    refine ⟨{ e with ws := e.ws.set k v }, by rw [if_pos rfl, if_pos hi], g2, g3, fun q h1 h2 => ?_⟩
    rw [List.getElem?_set, if_neg (by rcases hk with rfl | rfl; exact fun e => h1 e.symm; exact fun e => h2 e.symm)]
    exact g4 q h1 h2
  · rw [if_neg c]; exact ⟨y, g1, g2, g3, g4⟩
def chn (C : List Nat) : AV := .agg [.i .i64 (hdI C : Int), .i .i64 (tlI C : Int), .i .i64 (C.length : Int)]
theorem Linked.small {E : List PE} {nx pv : Nat} {C : List Nat} (h : Linked E nx pv C) {B : Nat} (hB : E.length ≤ B) : hdI C ≤ B ∧ tlI C ≤ B ∧ (∀ j, nid C j ≤ B ∧ pid C j ≤ B) := by
  have key : ∀ j i, C[j]? = some i → i + 1 ≤ B := fun j i hj => by
    obtain ⟨e, he, _⟩ := h.at_ j i hj
    have := (List.getElem?_eq_some_iff.1 he).1
    omega
  have kp : ∀ j, pid C j ≤ B := fun j => by
    unfold pid
    cases j with
    | zero => exact Nat.zero_le _
    | succ j =>
      simp only
      split
      · rename_i i hi; exact key j i hi
      · exact Nat.zero_le _
  refine ⟨?_, ?_, fun j => ⟨?_, kp j⟩⟩
  · cases C with
    | nil => exact Nat.zero_le _
    | cons c C => exact key 0 c rfl
  · rw [tl_pid]; exact kp _
  · unfold nid
    split
    · rename_i i hi; exact key _ i hi
    · exact Nat.zero_le _
section
variable {σ : AH O} {pb mb : Nat} {M : MemS} {S : PoolS} {w : List Int} {X : List Nat} (h : PoolAt σ pb mb M S w X) {nx pv : Nat} (h1 : nx < S.words) (h2 : pv < S.words) (hne : nx ≠ pv) {C : List Nat} (hL : Linked S.E nx pv C) (hm : M.met.r + 100 < 85070591730234615865843651857942052864 ∧ M.met.w + 100 < 85070591730234615865843651857942052864)
include h h1 h2 hne hL hm
theorem PoolAt.e4 : S.E.length ≤ 4194304 := by
  have hmd := h.p.made
  have hlen := h.p.len
  have hwl := h.wle
  have h3 : S.room * 1 ≤ S.room * (S.words + 1) := Nat.mul_le_mul_left _ (by omega)
  omega
theorem tpush_okF (hCl : C.length ≤ 4194304) {i : Nat} {e : PE} (hi : i ∉ C) (he : S.E[i]? = some e) (htk : e.tk = true) :
    Ok (chain_Table__Push [tbl S mb nx pv, chn C, .i .i64 ((i : Int) + 1)] σ) fun r => r.1 = .tup [chn (C ++ [i]), .i .i64 0] ∧ ∃ M' w' E' dw, PoolAt r.2 pb mb M' { S with E := E' } w' X ∧ SameBut nx pv S.E E' ∧ Linked E' nx pv (C ++ [i]) ∧ Wrt M M' S.id w' 0 dw ∧ 2 ≤ dw ∧ dw ≤ 3 ∧ Keep X σ r.2 ∧ ∀ j, j ∉ C → j ≠ i → E'[j]? = S.E[j]? := by
  have hiE := (List.getElem?_eq_some_iff.1 he).1
  have hmd := h.p.made
  have hE4 := h.e4 h1 h2 hne hL hm
  obtain ⟨s1, s2, s3⟩ := hL.small (B := 4194304) hE4
  have hlt := h.lt
  have htlE : tlI C = 0 ∨ ∃ t, tlI C = t + 1 ∧ C.getLast? = some t := by
    unfold tlI
    cases C.getLast? with
    | none => exact .inl rfl
    | some t => exact .inr ⟨t, rfl, rfl⟩
  have e0 : ((0 : Int) != 0) = false := rfl
  simp (config := { maxSteps := 2000000 }) -implicitDefEqProofs (disch := (first | omega | rfl | assumption | (simp only [rsD]; first | omega | assumption))) only [chain_Table__Push, chain_Table__Push_c, tbl, chn, Nat.reduceAdd, Nat.reduceMul, Nat.reduceLT, Int.reduceToNat, Int.reduceAdd, Int.reduceSub, Int.reduceMul, rsU, rsC]
  generalize hσ : (((σ.bump 3).put σ.next (.cells true _ _)).put (σ.next + 1) (.cells true _ _)).put (σ.next + 1 + 1) (.cells true _ _) = σ1
  obtain ⟨E1, b1, c1, d1, n1⟩ := boxed3 hσ
  clear hσ
  have p1 : PoolAt σ1 pb mb M S w (σ.next :: (σ.next + 1) :: (σ.next + 1 + 1) :: X) := h.turn (L := []) E1.chg (by simp) fun b hb => by
    simp only [List.mem_cons] at hb
    rcases hb with rfl | rfl | rfl | hb
    · exact .inr (by omega)
    · exact .inr (by omega)
    · exact .inr (by omega)
    · exact .inl hb
  have kx1 : Keep X σ σ1 := h.mi.tail.keepExt E1
  have ck := tcheck_ok p1 h1 h2 hne (i := i) (by omega)
  unfold tbl at ck
  refine Ok.step ck fun r ⟨g1, g2⟩ => ?_
  obtain ⟨q, σ2⟩ := r
  simp only at g1 g2
  subst g1
  have p2 := p1.ext g2
  have b2 : σ2.blk σ.next = _ := (g2.blk _ (by omega)).trans b1
  have c2 : σ2.blk (σ.next + 1) = _ := (g2.blk _ (by omega)).trans c1
  have d2 : σ2.blk (σ.next + 1 + 1) = _ := (g2.blk _ (by omega)).trans d1
  have kx2 : Keep X σ σ2 := h.mi.tail.keepExt (E1.trans g2)
  have hwl := h.p.wl e (List.mem_of_getElem? he)
  have hcr : M.calm := ⟨by omega, by omega⟩
  simp (config := { maxSteps := 2000000 }) -implicitDefEqProofs (disch := (first | omega | rfl | assumption | (simp only [rsD]; first | omega | assumption))) only [e0, b2, c2, Nat.reduceAdd, Nat.reduceMul, Nat.reduceLT, Int.reduceToNat, Int.reduceAdd, Int.reduceSub, Int.reduceMul, rsU, rsC]
  have ts := tset_ok p2 hcr (nx := nx) (pv := pv) (i := i) (k := pv) (x := tlI C) he htk h2 (by omega)
  unfold tbl at ts
  refine Ok.step ts fun r ⟨k1, M3, w3, p3, q3, kp3⟩ => ?_
  obtain ⟨q, σ3⟩ := r
  simp only at k1 p3 kp3
  subst k1
  have b3 : σ3.blk σ.next = _ := (kp3.blk _ (by simp)).trans b2
  have c3 : σ3.blk (σ.next + 1) = _ := (kp3.blk _ (by simp)).trans c2
  have d3 : σ3.blk (σ.next + 1 + 1) = _ := (kp3.blk _ (by simp)).trans d2
  have r3 := q3.r
  have v3 := q3.w
  have kx3 := kx2.trans kp3.tail.tail.tail
  have he3 : (S.E.set i { e with ws := e.ws.set pv (tlI C : Int) })[i]? = some { e with ws := e.ws.set pv (tlI C : Int) } := by rw [List.getElem?_set]; simp [hiE]
  simp (config := { maxSteps := 2000000 }) -implicitDefEqProofs (disch := (first | omega | rfl | assumption | (simp only [rsD]; first | omega | assumption))) only [b3, c3, Nat.reduceAdd, Nat.reduceMul, Nat.reduceLT, Int.reduceToNat, Int.reduceAdd, Int.reduceSub, Int.reduceMul, rsU, rsC]
  have ts := tset_ok p3 ⟨by omega, by omega⟩ (nx := nx) (pv := pv) (i := i) (k := nx) (x := 0) he3 htk h1 (by omega)
  unfold tbl at ts
  rw [show ((0 : Nat) : Int) = 0 from rfl] at ts
  refine Ok.step ts fun r ⟨k1, M4, w4, p4, q4, kp4⟩ => ?_
  obtain ⟨q, σ4⟩ := r
  simp only at k1 p4 kp4
  subst k1
  have b4 : σ4.blk σ.next = _ := (kp4.blk _ (by simp)).trans b3
  have c4 : σ4.blk (σ.next + 1) = _ := (kp4.blk _ (by simp)).trans c3
  have d4 : σ4.blk (σ.next + 1 + 1) = _ := (kp4.blk _ (by simp)).trans d3
  have r4 := q4.r
  have v4 := q4.w
  have kx4 := kx3.trans kp4.tail.tail.tail
  rw [List.set_set] at p4
  have sb := ((SameBut.refl nx pv S.E).set (v := (tlI C : Int)) he (.inr rfl)).set (v := 0) he3 (.inl rfl)
  rw [List.set_set] at sb
  generalize hEb : S.E.set i { e with ws := (e.ws.set pv (tlI C : Int)).set nx 0 } = Eb at p4 sb
  have heb : Eb[i]? = some { e with ws := (e.ws.set pv (tlI C : Int)).set nx 0 } := by rw [← hEb, List.getElem?_set]; simp [hiE]
  have hob : ∀ j, j ≠ i → Eb[j]? = S.E[j]? := fun j hj => by rw [← hEb, List.getElem?_set, if_neg (fun e => hj e.symm)]
  have hlk : LinkE { e with ws := (e.ws.set pv (tlI C : Int)).set nx 0 } nx pv 0 (tlI C) := ⟨htk, by simp only; rw [List.getElem?_set]; simp; omega, by simp only; rw [List.getElem?_set, if_neg hne, List.getElem?_set]; simp; omega⟩
  have n4 := kp4.next
  have n3 := kp3.next
  have n2 := g2.next
  have fin : ∀ (σ' : AH O) (M' : MemS) (w' : List Int) (E' : List PE) (x : Blk O), PoolAt σ' pb mb M' { S with E := E' } w' (σ.next :: (σ.next + 1) :: (σ.next + 1 + 1) :: X) → PoolAt (σ'.put (σ.next + 1 + 1) x) pb mb M' { S with E := E' } w' X := fun σ' M' w' E' x hp =>
    hp.turn (L := [σ.next + 1 + 1]) ⟨by simp, fun b hb hm => s_bn (by simpa using hm)⟩ (fun b hb => by simp at hb; subst hb; exact .inl (by simp)) fun b hb => .inl (by simp [hb])
  have kfin : ∀ (σ' : AH O) (x : Blk O), Keep X σ' (σ'.put (σ.next + 1 + 1) x) := fun σ' x => Keep.put (fun hm => by have := h.mi.lt _ (List.mem_cons_of_mem _ hm); omega) x
  rcases C with _ | ⟨c, C'⟩
  · have ez : ((([] : List Nat).length : Nat) : Int) = 0 := rfl
    have ez2 : ((0 : Int) == 0) = true := rfl
    rw [ez] at c4
    simp (config := { maxSteps := 2000000 }) -implicitDefEqProofs (disch := (first | omega | rfl | assumption | (simp only [rsD]; first | omega | assumption))) only [b4, c4, ez2, d4, Nat.reduceAdd, Nat.reduceMul, Nat.reduceLT, Int.reduceToNat, Int.reduceAdd, Int.reduceSub, Int.reduceMul, rsU, rsC]
    exact Ok_some.2 ⟨by simp [chn, hdI, tlI], M4, w4, Eb, 2, fin _ _ _ _ _ p4, sb, hL.push hi hne heb hlk hob (fun j _ => rfl) (fun t x ht => by simp at ht), (q3.trans q4).as rfl (by omega) (by omega), by omega, by omega, kx4.trans (kfin _ _), fun j _ hj => hob j hj⟩
  · rcases htlE with e1 | ⟨t, ht, hlast⟩
    · unfold tlI at e1; rw [List.getLast?_cons] at e1; simp at e1
    have htC : t ∈ (c :: C') := List.mem_of_getLast? hlast
    have hti : t ≠ i := fun e => hi (e ▸ htC)
    obtain ⟨jt, hjt⟩ := List.getElem?_of_mem htC
    obtain ⟨y, hy, hyl⟩ := hL.at_ jt t hjt
    have hyb : Eb[t]? = some y := by rw [hob t hti]; exact hy
    have ez : (((c :: C').length : Nat) : Int) = (C'.length : Int) + 1 := by simp
    have ez2 : ((C'.length : Int) + 1 == 0) = false := beq_eq_false_iff_ne.2 (by omega)
    have et : ((tlI (c :: C') : Nat) : Int) = (t : Int) + 1 := by rw [ht]; simp
    rw [ez, et] at c4
    have hCl' : C'.length ≤ 4194304 := by simp at hCl; omega
    simp (config := { maxSteps := 2000000 }) -implicitDefEqProofs (disch := (first | omega | rfl | assumption | (simp only [rsD]; first | omega | assumption))) only [b4, c4, ez2, Nat.reduceAdd, Nat.reduceMul, Nat.reduceLT, Int.reduceToNat, Int.reduceAdd, Int.reduceSub, Int.reduceMul, rsU, rsC]
    have ts := tset_ok p4 ⟨by omega, by omega⟩ (nx := nx) (pv := pv) (i := t) (k := nx) (x := i + 1) hyb hyl.tk h1 (by omega)
    unfold tbl at ts
    rw [show ((i + 1 : Nat) : Int) = (i : Int) + 1 by simp] at ts
    refine Ok.step ts fun r ⟨k1, M5, w5, p5, q5, kp5⟩ => ?_
    obtain ⟨q, σ5⟩ := r
    simp only at k1 p5 kp5
    subst k1
    have b5 : σ5.blk σ.next = _ := (kp5.blk _ (by simp)).trans b4
    have c5 : σ5.blk (σ.next + 1) = _ := (kp5.blk _ (by simp)).trans c4
    have d5 : σ5.blk (σ.next + 1 + 1) = _ := (kp5.blk _ (by simp)).trans d4
    simp (config := { maxSteps := 2000000 }) -implicitDefEqProofs (disch := (first | omega | rfl | assumption | (simp only [rsD]; first | omega | assumption))) only [b5, c5, d5, Nat.reduceAdd, Nat.reduceMul, Nat.reduceLT, Int.reduceToNat, Int.reduceAdd, Int.reduceSub, Int.reduceMul, rsU, rsC]
    refine Ok_some.2 ⟨?_, M5, w5, _, 3, fin _ _ _ _ _ p5, sb.set hyb (.inl rfl), hL.push hi hne heb hlk hob (fun j hj => ?_) (fun t' x' ht' hx' => ?_), ((q3.trans q4).trans q5).as rfl (by omega) (by omega), by omega, by omega, (kx4.trans kp5.tail.tail.tail).trans (kfin _ _), fun j hj hji => by rw [List.getElem?_set, if_neg (fun e : t = j => hj (by rw [← e]; exact htC))]; exact hob j hji⟩
    · have e7 : tlI (c :: (C' ++ [i])) = i + 1 := tl_snoc (c :: C') i
      simp [chn, e7, hdI]
    · rw [List.getElem?_set, if_neg (fun e => hj (by rw [← e]; exact hlast))]
    · rw [hlast] at ht'
      cases ht'
      rw [hyb] at hx'; cases hx'
      rw [List.getElem?_set]
      simp [(List.getElem?_eq_some_iff.1 hyb).1]
theorem tdrop_okF (hCl : C.length ≤ 4194304) {d i : Nat} (hd : C[d]? = some i) :
    Ok (chain_Table__Drop [tbl S mb nx pv, chn C, .i .i64 ((i : Int) + 1)] σ) fun r => r.1 = .tup [chn (C.eraseIdx d), .i .i64 0] ∧ ∃ M' w' E' dw, PoolAt r.2 pb mb M' { S with E := E' } w' X ∧ SameBut nx pv S.E E' ∧ Linked E' nx pv (C.eraseIdx d) ∧ Wrt M M' S.id w' 2 dw ∧ 0 ≤ dw ∧ dw ≤ 2 ∧ Keep X σ r.2 ∧ ∀ j, j ∉ C → E'[j]? = S.E[j]? := by
  obtain ⟨e, he, hlk⟩ := hL.at_ d i hd
  have hdl := (List.getElem?_eq_some_iff.1 hd).1
  have hiE := (List.getElem?_eq_some_iff.1 he).1
  have hmd := h.p.made
  have hE4 := h.e4 h1 h2 hne hL hm
  obtain ⟨s1, s2, s3⟩ := hL.small (B := 4194304) hE4
  obtain ⟨s4, s5⟩ := s3 d
  have hlt := h.lt
  have e0 : ((0 : Int) != 0) = false := rfl
  have hcr : M.calm := ⟨by omega, by omega⟩
  simp (config := { maxSteps := 2000000 }) -implicitDefEqProofs (disch := (first | omega | rfl | assumption | (simp only [rsD]; first | omega | assumption))) only [chain_Table__Drop, chain_Table__Drop_c, tbl, chn, Nat.reduceAdd, Nat.reduceMul, Nat.reduceLT, Int.reduceToNat, Int.reduceAdd, Int.reduceSub, Int.reduceMul, rsU, rsC]
  generalize hσ : (((σ.bump 3).put σ.next (.cells true _ _)).put (σ.next + 1) (.cells true _ _)).put (σ.next + 1 + 1) (.cells true _ _) = σ1
  obtain ⟨E1, b1, c1, d1, n1⟩ := boxed3 hσ
  clear hσ
  have p1 : PoolAt σ1 pb mb M S w (σ.next :: (σ.next + 1) :: (σ.next + 1 + 1) :: X) := h.turn (L := []) E1.chg (by simp) fun b hb => by
    simp only [List.mem_cons] at hb
    rcases hb with rfl | rfl | rfl | hb
    · exact .inr (by omega)
    · exact .inr (by omega)
    · exact .inr (by omega)
    · exact .inl hb
  have ck := tcheck_ok p1 h1 h2 hne (i := i) (by omega)
  unfold tbl at ck
  refine Ok.step ck fun r ⟨g1, g2⟩ => ?_
  obtain ⟨q, σ2⟩ := r
  simp only at g1 g2
  subst g1
  have p2 := p1.ext g2
  have b2 : σ2.blk σ.next = _ := (g2.blk _ (by omega)).trans b1
  have c2 : σ2.blk (σ.next + 1) = _ := (g2.blk _ (by omega)).trans c1
  have d2 : σ2.blk (σ.next + 1 + 1) = _ := (g2.blk _ (by omega)).trans d1
  have kx2 : Keep X σ σ2 := h.mi.tail.keepExt (E1.trans g2)
  simp (config := { maxSteps := 2000000 }) -implicitDefEqProofs (disch := (first | omega | rfl | assumption | (simp only [rsD]; first | omega | assumption))) only [e0, b2, c2, Nat.reduceAdd, Nat.reduceMul, Nat.reduceLT, Int.reduceToNat, Int.reduceAdd, Int.reduceSub, Int.reduceMul, rsU, rsC]
  have ts := tget_ok p2 hcr (nx := nx) (pv := pv) (i := i) (k := nx) (x := nid C d) he h1 hlk.n (by omega)
  unfold tbl at ts
  refine Ok.step ts fun r ⟨k1, M3, p3, q3, kp3⟩ => ?_
  obtain ⟨q, σ3⟩ := r
  simp only at k1 p3 kp3
  subst k1
  have b3 : σ3.blk σ.next = _ := (kp3.blk _ (by simp)).trans b2
  have c3 : σ3.blk (σ.next + 1) = _ := (kp3.blk _ (by simp)).trans c2
  have d3 : σ3.blk (σ.next + 1 + 1) = _ := (kp3.blk _ (by simp)).trans d2
  have r3 := q3.r
  have v3 := q3.w
  simp (config := { maxSteps := 2000000 }) -implicitDefEqProofs (disch := (first | omega | rfl | assumption | (simp only [rsD]; first | omega | assumption))) only [b3, c3, Nat.reduceAdd, Nat.reduceMul, Nat.reduceLT, Int.reduceToNat, Int.reduceAdd, Int.reduceSub, Int.reduceMul, rsU, rsC]
  have ts := tget_ok p3 ⟨by omega, by omega⟩ (nx := nx) (pv := pv) (i := i) (k := pv) (x := pid C d) he h2 hlk.p (by omega)
  unfold tbl at ts
  refine Ok.step ts fun r ⟨k1, M4, p4, q4, kp4⟩ => ?_
  obtain ⟨q, σ4⟩ := r
  simp only at k1 p4 kp4
  subst k1
  have b4 : σ4.blk σ.next = _ := (kp4.blk _ (by simp)).trans b3
  have c4 : σ4.blk (σ.next + 1) = _ := (kp4.blk _ (by simp)).trans c3
  have d4 : σ4.blk (σ.next + 1 + 1) = _ := (kp4.blk _ (by simp)).trans d3
  have r4 := q4.r
  have v4 := q4.w
  have kx4 := (kx2.trans kp3.tail.tail.tail).trans kp4.tail.tail.tail
  have hx3 : σ.next ∉ X ∧ σ.next + 1 ∉ X ∧ σ.next + 1 + 1 ∉ X := ⟨fun hm => by have := h.mi.lt _ (List.mem_cons_of_mem _ hm); omega, fun hm => by have := h.mi.lt _ (List.mem_cons_of_mem _ hm); omega, fun hm => by have := h.mi.lt _ (List.mem_cons_of_mem _ hm); omega⟩
  have n4 := kp4.next
  have n3 := kp3.next
  have n2 := g2.next
  have putX : ∀ {σ' : AH O} {M' : MemS} {w' : List Int} {E' : List PE} (b : Nat) (x : Blk O), (b = σ.next + 1 ∨ b = σ.next + 1 + 1) → PoolAt σ' pb mb M' { S with E := E' } w' (σ.next :: (σ.next + 1) :: (σ.next + 1 + 1) :: X) → PoolAt (σ'.put b x) pb mb M' { S with E := E' } w' (σ.next :: (σ.next + 1) :: (σ.next + 1 + 1) :: X) := fun {σ' M' w' E'} b x hb hp =>
    hp.turn (L := [b]) ⟨by simp, fun c hc hm => s_bn (by simpa using hm)⟩ (fun c hc => by simp only [List.mem_singleton] at hc; subst hc; rcases hb with rfl | rfl <;> exact .inl (by simp)) fun c hc => .inl hc
  have pe0 : pid C d ≠ 0 → ∃ d' p, d = d' + 1 ∧ C[d']? = some p ∧ pid C d = p + 1 := fun hp => by
    cases d with
    | zero => exact absurd rfl hp
    | succ d' =>
      have hx := List.getElem?_eq_getElem (show d' < C.length by omega)
      exact ⟨d', _, rfl, hx, pid_some hx⟩
  have ne0 : nid C d ≠ 0 → ∃ p, C[d + 1]? = some p ∧ nid C d = p + 1 := fun hn => by
    have hx := List.getElem?_eq_getElem (nid_lt hn)
    exact ⟨_, hx, nid_some hx⟩
  -- the one ahead
  refine Ok.step (Q := fun r => ∃ σ' M' w' E' dw, r = ([], σ') ∧ PoolAt σ' pb mb M' { S with E := E' } w' (σ.next :: (σ.next + 1) :: (σ.next + 1 + 1) :: X) ∧ SameBut nx pv S.E E' ∧ Wrt M M' S.id w' 2 dw ∧ 0 ≤ dw ∧ dw ≤ 1 ∧ Keep X σ σ' ∧ σ'.next ≥ σ.next + 3 ∧
      (∃ el, σ'.blk σ.next = some (.cells true el [.p (some (.n mb, 0)), .i .i64 S.id, .i .i64 ((S.words : Int) + 1), .i .i64 ((nx : Int) + 1), .i .i64 ((pv : Int) + 1)])) ∧
      (∃ el, σ'.blk (σ.next + 1) = some (.cells true el [.i .i64 (hdI (C.eraseIdx d) : Int), .i .i64 (tlI C : Int), .i .i64 (C.length : Int)])) ∧ (∃ el, σ'.blk (σ.next + 1 + 1) = some (.cells true el [.i .i64 0, .i .i64 0, .i .i64 0])) ∧
      (∀ j, (∀ d', d = d' + 1 → C[d']? ≠ some j) → E'[j]? = S.E[j]?) ∧ ∀ d' j x, d = d' + 1 → C[d']? = some j → S.E[j]? = some x → E'[j]? = some { x with ws := x.ws.set nx (nid C d : Int) }) ?_ ?_
  · by_cases hp : pid C d = 0
    · have ez : ((pid C d : Nat) : Int) = 0 := by rw [hp]; rfl
      have hd0 : ∀ d', d = d' + 1 → False := fun d' e1 => by
        subst e1
        unfold pid at hp
        simp only at hp
        rw [List.getElem?_eq_getElem (show d' < C.length by omega)] at hp
        simp at hp
      rw [ez]
      simp (config := { maxSteps := 2000000 }) -implicitDefEqProofs (disch := (first | omega | rfl | assumption | (simp only [rsD]; first | omega | assumption))) only [e0, c4, Nat.reduceAdd, Nat.reduceMul, Nat.reduceLT, Int.reduceToNat, Int.reduceAdd, Int.reduceSub, Int.reduceMul, rsU, rsC]
      have hhd : ((hdI (C.eraseIdx d) : Nat) : Int) = (nid C d : Int) := by rw [hd_drop hd, if_pos hp]
      refine Ok_some.2 ⟨_, M4, w, S.E, 0, rfl, putX _ _ (.inl rfl) p4, SameBut.refl _ _ _, (q3.trans q4).as rfl (by omega) (by omega), by omega, by omega, kx4.trans (Keep.put hx3.2.1 _), by simp; omega, ⟨_, (s_bn (by omega)).trans b4⟩, ⟨_, by rw [hhd]; exact s_bs⟩, ⟨_, (s_bn (by omega)).trans d4⟩, fun j _ => rfl, fun d' j x e1 => (hd0 d' e1).elim⟩
    · obtain ⟨d', p, e1, hp2, hp3⟩ := pe0 hp
      obtain ⟨y, hy, hyl⟩ := hL.at_ d' p hp2
      have ez : ((pid C d : Nat) : Int) = (p : Int) + 1 := by rw [hp3]; simp
      have ez2 : ((p : Int) + 1 != 0) = true := by simp; omega
      rw [ez]
      simp (config := { maxSteps := 2000000 }) -implicitDefEqProofs (disch := (first | omega | rfl | assumption | (simp only [rsD]; first | omega | assumption))) only [ez2, b4, Nat.reduceAdd, Nat.reduceMul, Nat.reduceLT, Int.reduceToNat, Int.reduceAdd, Int.reduceSub, Int.reduceMul, rsU, rsC]
      have ts := tset_ok p4 ⟨by omega, by omega⟩ (nx := nx) (pv := pv) (i := p) (k := nx) (x := nid C d) hy hyl.tk h1 (by omega)
      unfold tbl at ts
      refine Ok.step ts fun r ⟨k1, M5, w5, p5, q5, kp5⟩ => ?_
      obtain ⟨q, σ5⟩ := r
      simp only at k1 p5 kp5
      subst k1
      simp (config := { maxSteps := 2000000 }) -implicitDefEqProofs (disch := (first | omega | rfl | assumption | (simp only [rsD]; first | omega | assumption))) only [Nat.reduceAdd, Nat.reduceMul, Nat.reduceLT, Int.reduceToNat, Int.reduceAdd, Int.reduceSub, Int.reduceMul, rsU, rsC]
      have hhd : ((hdI (C.eraseIdx d) : Nat) : Int) = (hdI C : Int) := by rw [hd_drop hd, if_neg hp]
      refine Ok_some.2 ⟨σ5, M5, w5, _, 1, rfl, p5, (SameBut.refl _ _ _).set hy (.inl rfl), ((q3.trans q4).trans q5).as rfl (by omega) (by omega), by omega, by omega, kx4.trans kp5.tail.tail.tail, by have := kp5.next; omega, ⟨_, (kp5.blk _ (by simp)).trans b4⟩, ⟨_, by rw [hhd]; exact (kp5.blk _ (by simp)).trans c4⟩, ⟨_, (kp5.blk _ (by simp)).trans d4⟩, fun j hj => ?_, fun d2 j x e2 hj hx => ?_⟩
      · rw [List.getElem?_set, if_neg (fun e3 => hj d' e1 (by rw [← e3]; exact hp2))]
      · obtain rfl : d2 = d' := by omega
        rw [hp2] at hj; cases hj
        rw [hy] at hx; cases hx
        rw [List.getElem?_set]
        simp [(List.getElem?_eq_some_iff.1 hy).1]
  rintro _ ⟨σ5, M5, w5, E5, dw5, rfl, p5, sb5, q5, x1, x2, kx5, n5, ⟨el1, b5⟩, ⟨el2, c5⟩, ⟨el3, d5⟩, o5, l5⟩
  have r5 := q5.r
  have v5 := q5.w
  -- the one behind
  refine Ok.step (Q := fun r => ∃ σ' M' w' E' dw, r = ([], σ') ∧ PoolAt σ' pb mb M' { S with E := E' } w' (σ.next :: (σ.next + 1) :: (σ.next + 1 + 1) :: X) ∧ SameBut nx pv S.E E' ∧ Wrt M M' S.id w' 2 dw ∧ 0 ≤ dw ∧ dw ≤ 2 ∧ Keep X σ σ' ∧
      (∃ el, σ'.blk (σ.next + 1) = some (.cells true el [.i .i64 (hdI (C.eraseIdx d) : Int), .i .i64 (tlI (C.eraseIdx d) : Int), .i .i64 (C.length : Int)])) ∧ (∃ el, σ'.blk (σ.next + 1 + 1) = some (.cells true el [.i .i64 0, .i .i64 0, .i .i64 0])) ∧ σ'.next ≥ σ.next + 3 ∧
      Linked E' nx pv (C.eraseIdx d) ∧ ∀ j, j ∉ C → E'[j]? = S.E[j]?) ?_ ?_
  · by_cases hn : nid C d = 0
    · have ez : ((nid C d : Nat) : Int) = 0 := by rw [hn]; rfl
      have hn0 : C[d + 1]? = none := by
        unfold nid at hn
        split at hn
        · omega
        · rename_i hh; exact hh
      rw [ez]
      simp (config := { maxSteps := 2000000 }) -implicitDefEqProofs (disch := (first | omega | rfl | assumption | (simp only [rsD]; first | omega | assumption))) only [e0, c5, Nat.reduceAdd, Nat.reduceMul, Nat.reduceLT, Int.reduceToNat, Int.reduceAdd, Int.reduceSub, Int.reduceMul, rsU, rsC]
      have htd : ((tlI (C.eraseIdx d) : Nat) : Int) = (pid C d : Int) := by rw [tl_drop hd, if_pos hn]
      refine Ok_some.2 ⟨_, M5, w5, E5, dw5, rfl, putX _ _ (.inl rfl) p5, sb5, q5, x1, by omega, kx5.trans (Keep.put hx3.2.1 _), ⟨_, by rw [htd]; exact s_bs⟩, ⟨_, (s_bn (by omega)).trans d5⟩, by simp; omega, hL.drop hd hne (fun j hj _ => o5 j hj) l5 (fun j x hj => by rw [hn0] at hj; cases hj), fun j hj => o5 j fun d' _ e => hj (List.mem_of_getElem? e)⟩
    · obtain ⟨p, hp2, hp3⟩ := ne0 hn
      obtain ⟨y, hy, hyl⟩ := hL.at_ (d + 1) p hp2
      have hpd : ∀ d', d = d' + 1 → C[d']? ≠ some p := fun d' e1 e2 => by have := nodup_at hL.nd hp2 e2; omega
      have hy5 : E5[p]? = some y := (o5 p hpd).trans hy
      have ez : ((nid C d : Nat) : Int) = (p : Int) + 1 := by rw [hp3]; simp
      have ez2 : ((p : Int) + 1 != 0) = true := by simp; omega
      rw [ez]
      simp (config := { maxSteps := 2000000 }) -implicitDefEqProofs (disch := (first | omega | rfl | assumption | (simp only [rsD]; first | omega | assumption))) only [ez2, b5, Nat.reduceAdd, Nat.reduceMul, Nat.reduceLT, Int.reduceToNat, Int.reduceAdd, Int.reduceSub, Int.reduceMul, rsU, rsC]
      have ts := tset_ok p5 ⟨by omega, by omega⟩ (nx := nx) (pv := pv) (i := p) (k := pv) (x := pid C d) hy5 hyl.tk h2 (by omega)
      unfold tbl at ts
      refine Ok.step ts fun r ⟨k1, M6, w6, p6, q6, kp6⟩ => ?_
      obtain ⟨q, σ6⟩ := r
      simp only at k1 p6 kp6
      subst k1
      simp (config := { maxSteps := 2000000 }) -implicitDefEqProofs (disch := (first | omega | rfl | assumption | (simp only [rsD]; first | omega | assumption))) only [Nat.reduceAdd, Nat.reduceMul, Nat.reduceLT, Int.reduceToNat, Int.reduceAdd, Int.reduceSub, Int.reduceMul, rsU, rsC]
      have htd : ((tlI (C.eraseIdx d) : Nat) : Int) = (tlI C : Int) := by rw [tl_drop hd, if_neg hn]
      refine Ok_some.2 ⟨σ6, M6, w6, _, dw5 + 1, rfl, p6, sb5.set hy5 (.inr rfl), (q5.trans q6).as rfl (by omega) (by omega), by omega, by omega, kx5.trans kp6.tail.tail.tail, ⟨_, by rw [htd]; exact (kp6.blk _ (by simp)).trans c5⟩, ⟨_, (kp6.blk _ (by simp)).trans d5⟩, by have := kp6.next; omega, hL.drop hd hne (fun j hj hj2 => ?_) (fun d2 j x e2 hj hx => ?_) (fun j x hj hx => ?_), fun j hj => by rw [List.getElem?_set, if_neg (fun e : p = j => hj (by rw [← e]; exact List.mem_of_getElem? hp2))]; exact o5 j fun d' _ e => hj (List.mem_of_getElem? e)⟩
      · rw [List.getElem?_set, if_neg (fun e3 => hj2 (by rw [← e3]; exact hp2))]; exact o5 j hj
      · rw [List.getElem?_set, if_neg (fun e3 => hpd d2 e2 (by rw [e3]; exact hj))]; exact l5 d2 j x e2 hj hx
      · rw [hp2] at hj; cases hj
        rw [hy] at hx; cases hx
        rw [List.getElem?_set]
        simp [(List.getElem?_eq_some_iff.1 hy5).1]
  rintro _ ⟨σ6, M6, w6, E6, dw6, rfl, p6, sb6, q6, y1, y2, kx6, ⟨el4, c6⟩, ⟨el5, d6⟩, n6, hL6, hF6⟩
  simp (config := { maxSteps := 2000000 }) -implicitDefEqProofs (disch := (first | omega | rfl | assumption | (simp only [rsD]; first | omega | assumption))) only [c6, d6, Nat.reduceAdd, Nat.reduceMul, Nat.reduceLT, Int.reduceToNat, Int.reduceAdd, Int.reduceSub, Int.reduceMul, rsU, rsC]
  refine Ok_some.2 ⟨?_, M6, w6, E6, dw6, (p6.turn (L := [σ.next + 1, σ.next + 1 + 1]) ⟨by simp, fun b hb hm => ?_⟩ (fun b hb => .inl ?_) fun b hb => .inl (by simp [hb])), sb6, hL6, q6, y1, y2, kx6.trans ((Keep.put hx3.2.1 _).trans (Keep.put hx3.2.2 _)), hF6⟩
  · simp only [chn, List.length_eraseIdx, if_pos hdl]
    rw [show ((C.length - 1 : Nat) : Int) = (C.length : Int) - 1 by omega]
  · simp only [List.mem_cons, List.not_mem_nil, or_false, not_or] at hm
    rw [s_bn hm.2, s_bn hm.1]
  · simp only [List.mem_cons, List.not_mem_nil, or_false] at hb
    rcases hb with rfl | rfl <;> simp
end
end Go.Abs.Try
