/-
  Layer 10: a pool of entries. No conditions.
-/
import Derived.Test.YtgmffmgbaelohaaM9
set_option linter.unusedVariables false
set_option linter.unusedSimpArgs false
set_option linter.constructorNameAsVariable false
set_option linter.unusedSimpArgs false
set_option linter.unusedVariables false
set_option linter.unusedSectionVars false
set_option maxHeartbeats 1000000
namespace Go.Abs.Try
open Go Go.Abs
variable {O : Type}

/-! ### Rows of words -/
section
variable {α : Type} {enc : α → List Int} {k : Nat} {l : List α} {i : Nat} {e : α}
theorem fl_len (hk : ∀ x ∈ l, (enc x).length = k) : (l.flatMap enc).length = l.length * k := by
  induction l with
  | nil => simp
  | cons x l ih =>
    have := ih fun y hy => hk y (List.mem_cons_of_mem _ hy)
    have := hk x List.mem_cons_self
    simp only [List.flatMap_cons, List.length_append, List.length_cons, Nat.succ_mul]; omega
theorem fl_split (h : l[i]? = some e) : l.flatMap enc = (l.take i).flatMap enc ++ (enc e ++ (l.drop (i + 1)).flatMap enc) := by
  obtain ⟨hi, he⟩ := List.getElem?_eq_some_iff.1 h
  have : l = l.take i ++ e :: l.drop (i + 1) := by rw [← he, ← List.drop_eq_getElem_cons hi, List.take_append_drop]
  conv => lhs; rw [this]
  simp
theorem fl_set (h : l[i]? = some e) (y : α) : (l.set i y).flatMap enc = (l.take i).flatMap enc ++ (enc y ++ (l.drop (i + 1)).flatMap enc) := by
  obtain ⟨hi, he⟩ := List.getElem?_eq_some_iff.1 h
  rw [List.set_eq_take_append_cons_drop, if_pos hi]
  simp
theorem fl_head (hk : ∀ x ∈ l, (enc x).length = k) (h : l[i]? = some e) : ((l.take i).flatMap enc).length = i * k := by
  rw [fl_len (k := k) fun x hx => hk x (List.mem_of_mem_take hx), List.length_take]
  have := (List.getElem?_eq_some_iff.1 h).1
  rw [Nat.min_eq_left (by omega)]
theorem fl_get (hk : ∀ x ∈ l, (enc x).length = k) (h : l[i]? = some e) {j : Nat} (hj : j < k) (z : List Int) : (l.flatMap enc ++ z)[i * k + j]? = (enc e)[j]? := by
  have h1 := fl_head hk h
  have h2 := hk e (List.mem_of_getElem? h)
  rw [fl_split h, List.append_assoc, List.getElem?_append_right (by omega), h1, Nat.add_sub_cancel_left, List.append_assoc, List.getElem?_append_left (by omega)]
theorem fl_put (hk : ∀ x ∈ l, (enc x).length = k) (h : l[i]? = some e) {j : Nat} (hj : j < k) (z : List Int) {x : Int} {y : α} (hy : enc y = (enc e).set j x) : (l.flatMap enc ++ z).set (i * k + j) x = (l.set i y).flatMap enc ++ z := by
  have h1 := fl_head hk h
  have h2 := hk e (List.mem_of_getElem? h)
  rw [fl_split h, fl_set h, hy, List.append_assoc, List.set_append_right _ _ (by omega), h1, Nat.add_sub_cancel_left, List.append_assoc, List.set_append_left _ _ (by omega)]
  simp
theorem fl_patch (hk : ∀ x ∈ l, (enc x).length = k) (h : l[i]? = some e) {j : Nat} (z : List Int) {v : List Int} {y : α} (hj : j + v.length ≤ k) (hy : enc y = patched (enc e) j v) : patched (l.flatMap enc ++ z) (i * k + j) v = (l.set i y).flatMap enc ++ z := by
  have h1 := fl_head hk h
  have h2 := hk e (List.mem_of_getElem? h)
  rw [fl_split h, fl_set h, hy]
  generalize (l.take i).flatMap enc = A at *
  generalize (l.drop (i + 1)).flatMap enc = B at *
  generalize enc e = E at *
  unfold patched
  have e1 : A ++ (E ++ B) ++ z = A ++ (E ++ (B ++ z)) := by simp
  rw [e1, ← h1, List.take_append, List.take_of_length_le (by omega), Nat.add_sub_cancel_left, List.take_append_of_le_length (by omega)]
  rw [show A.length + j + v.length = A.length + (j + v.length) by omega, List.drop_append, List.drop_eq_nil_of_le (show A.length ≤ A.length + (j + v.length) by omega), Nat.add_sub_cancel_left, List.drop_append_of_le_length (by omega)]
  simp
end
theorem fdiv1 (n : Int) : Int.fdiv n (2 ^ 1) = n / 2 := Int.fdiv_eq_ediv_of_nonneg _ (by decide)

/-- an entry: is it taken; how often it was given back; its words -/
structure PE where
  tk : Bool
  gen : Nat
  ws : List Int
def PE.st (e : PE) : Int := 2 * (e.gen : Int) + (if e.tk then 1 else 0)
def PE.enc (e : PE) : List Int := e.st :: e.ws
structure PoolS where
  id : Int
  words : Nat
  room : Nat
  E : List PE
  free : List Nat
  taken : Nat
def hd (l : List Nat) : Nat := match l with | [] => 0 | i :: _ => i
def PoolS.cells (S : PoolS) (mb : Nat) : List AV := [.p (some (.n mb, 0)), .i .i64 S.id, .i .i64 (S.words : Int), .i .i64 (S.E.length : Int), .i .i64 (S.room : Int), .i .i64 (hd S.free : Int), .i .i64 (S.taken : Int)]
/-- the numbers that were given back are linked -/
def fchain (E : List PE) : List Nat → Prop
  | [] => True
  | i :: r => (∃ e, 1 ≤ i ∧ E[i - 1]? = some e ∧ e.tk = false ∧ e.ws[0]? = some (hd r : Int)) ∧ fchain E r
structure PoolP (S : PoolS) (w : List Int) : Prop where
  words : 1 ≤ S.words ∧ S.words ≤ 60
  lay : w = S.E.flatMap PE.enc ++ List.replicate ((S.room - S.E.length) * (S.words + 1)) 0
  made : S.E.length ≤ S.room
  pow : S.room = 0 ∨ ∃ k : Nat, S.room = 8 * 2 ^ k
  wl : ∀ e ∈ S.E, e.ws.length = S.words
  ch : fchain S.E S.free
  nd : S.free.Nodup
  cnt : S.taken = S.E.countP (·.tk)
  gen : ∀ e ∈ S.E, e.gen < 4611686018427387904
structure PoolAt (σ : AH O) (pb mb : Nat) (M : MemS) (S : PoolS) (w : List Int) (X : List Nat) : Prop where
  mi : MemIn σ mb M (pb :: X)
  b : σ.blk pb = some (.cells true T_pool_Pool (S.cells mb))
  nx : pb ∉ X
  now : wordsOf M.sp S.id = some w
  p : PoolP S w
theorem PoolP.el {S : PoolS} {w : List Int} (h : PoolP S w) : ∀ e ∈ S.E, e.enc.length = S.words + 1 := fun e he => by simp [PE.enc, h.wl e he]
theorem PoolP.len {S : PoolS} {w : List Int} (h : PoolP S w) : w.length = S.room * (S.words + 1) := by
  have := h.made
  rw [h.lay, List.length_append, fl_len h.el, List.length_replicate, ← Nat.add_mul, Nat.add_sub_cancel' h.made]
theorem PoolP.st {S : PoolS} {w : List Int} (h : PoolP S w) {i : Nat} {e : PE} (he : S.E[i]? = some e) : w[i * (S.words + 1)]? = some e.st := by
  have := fl_get h.el he (j := 0) (by omega) (List.replicate ((S.room - S.E.length) * (S.words + 1)) 0)
  rw [← h.lay, Nat.add_zero] at this
  rw [this]; rfl
theorem PoolP.at {S : PoolS} {w : List Int} (h : PoolP S w) {i : Nat} {e : PE} (he : S.E[i]? = some e) {k : Nat} (hk : k < S.words) : w[i * (S.words + 1) + 1 + k]? = e.ws[k]? := by
  have := fl_get h.el he (j := k + 1) (by omega) (List.replicate ((S.room - S.E.length) * (S.words + 1)) 0)
  rw [← h.lay, show i * (S.words + 1) + (k + 1) = i * (S.words + 1) + 1 + k by omega] at this
  rw [this]; rfl
theorem PoolP.pos {S : PoolS} {w : List Int} (h : PoolP S w) {i : Nat} {e : PE} (he : S.E[i]? = some e) : i * (S.words + 1) + (S.words + 1) ≤ w.length := by
  have hi := (List.getElem?_eq_some_iff.1 he).1
  have := h.made
  rw [h.len, ← Nat.succ_mul]
  exact Nat.mul_le_mul_right _ (by omega)
/-- an entry is another one now -/
theorem PoolP.set {S : PoolS} {w w' : List Int} (h : PoolP S w) {i : Nat} {e e' : PE} (he : S.E[i]? = some e) {free' : List Nat} {taken' : Nat} (hw : w' = (S.E.set i e').flatMap PE.enc ++ List.replicate ((S.room - S.E.length) * (S.words + 1)) 0)
    (hl : e'.ws.length = S.words) (hg : e'.gen < 4611686018427387904) (hc : fchain (S.E.set i e') free') (hn : free'.Nodup) (ht : taken' = (S.E.set i e').countP (·.tk)) : PoolP { S with E := S.E.set i e', free := free', taken := taken' } w' := by
  refine ⟨h.words, ?_, ?_, h.pow, fun x hx => ?_, hc, hn, ht, fun x hx => ?_⟩
  · show w' = (S.E.set i e').flatMap PE.enc ++ List.replicate ((S.room - (S.E.set i e').length) * (S.words + 1)) 0
    rw [List.length_set]; exact hw
  · show (S.E.set i e').length ≤ _
    rw [List.length_set]; exact h.made
  · rcases mem_set' hx with rfl | hx
    · exact hl
    · exact h.wl x hx
  · rcases mem_set' hx with rfl | hx
    · exact hg
    · exact h.gen x hx
theorem fchain_set {E : List PE} {i : Nat} {e' : PE} : ∀ {fr : List Nat}, fchain E fr → (∀ j ∈ fr, j ≠ i + 1) → fchain (E.set i e') fr
  | [], _, _ => trivial
  | j :: r, ⟨⟨e, h1, h2, h3, h4⟩, h5⟩, hn => ⟨⟨e, h1, by rw [List.getElem?_set, if_neg (by have := hn j List.mem_cons_self; omega)]; exact h2, h3, h4⟩, fchain_set h5 fun k hk => hn k (List.mem_cons_of_mem _ hk)⟩
theorem fchain_app {E : List PE} {e' : PE} : ∀ {fr : List Nat}, fchain E fr → fchain (E ++ [e']) fr
  | [], _ => trivial
  | j :: r, ⟨⟨e, h1, h2, h3, h4⟩, h5⟩ => ⟨⟨e, h1, by rw [List.getElem?_append_left (List.getElem?_eq_some_iff.1 h2).1]; exact h2, h3, h4⟩, fchain_app h5⟩
theorem fchain_tk {E : List PE} : ∀ {fr : List Nat}, fchain E fr → ∀ j ∈ fr, ∃ e, 1 ≤ j ∧ E[j - 1]? = some e ∧ e.tk = false
  | _ :: _, ⟨⟨e, h1, h2, h3, _⟩, h5⟩, k, hk => by
    rcases List.mem_cons.1 hk with rfl | hk
    · exact ⟨e, h1, h2, h3⟩
    · exact fchain_tk h5 k hk
theorem st_rng {e : PE} (h : e.gen < 4611686018427387904) : 0 ≤ e.st ∧ e.st < 9223372036854775808 := by unfold PE.st; split <;> omega
theorem st_gen {e : PE} : e.st / 2 = e.gen := by unfold PE.st; split <;> omega
theorem st_tk {e : PE} : e.st % 2 = if e.tk then 1 else 0 := by unfold PE.st; split <;> omega
section
variable {σ : AH O} {pb mb : Nat} {M : MemS} {S : PoolS} {w : List Int} {X : List Nat} (h : PoolAt σ pb mb M S w X)
include h
theorem PoolAt.ext {σ' : AH O} (he : Ext σ σ') : PoolAt σ' pb mb M S w X := { h with mi := h.mi.ext he, b := (he.blk _ (h.mi.lt _ List.mem_cons_self)).trans h.b }
theorem PoolAt.new {σ' : AH O} (he : Ext σ σ') {b : Nat} (h1 : σ.next ≤ b) (h2 : b < σ'.next) : PoolAt σ' pb mb M S w (b :: X) :=
  { h.ext he with mi := (h.mi.new he h1 h2).mono (fun c hc => by simp only [List.mem_cons] at hc ⊢; rcases hc with rfl | rfl | hc <;> simp_all), nx := (fun hm => (List.mem_cons.1 hm).elim (fun e => by have := h.mi.lt _ List.mem_cons_self; omega) h.nx) }
theorem PoolAt.mono {Y : List Nat} (hs : ∀ b ∈ Y, b ∈ X) : PoolAt σ pb mb M S w Y := { h with mi := h.mi.mono (fun c hc => (List.mem_cons.1 hc).elim (fun e => by rw [e]; exact List.mem_cons_self) fun hc => List.mem_cons_of_mem _ (hs c hc)), nx := fun hm => h.nx (hs _ hm) }
theorem PoolAt.lt : pb < σ.next := h.mi.lt _ List.mem_cons_self
theorem PoolAt.wle : w.length ≤ 4194304 := h.mi.wlen h.now
theorem pwidth_ok : pool_Pool__width [.p (some (.n pb, 0))] σ = some (.i .i64 ((S.words : Int) + 1), σ) := by
  have hb := h.b
  have hw := h.p.words
  simp only [PoolS.cells] at hb
  simp (config := { maxSteps := 2000000 }) -implicitDefEqProofs (disch := (first | omega | rfl | assumption | (simp only [rsD]; first | omega | assumption))) only [pool_Pool__width, pool_Pool__width_c, hb, Nat.reduceAdd, Nat.reduceMul, Nat.reduceLT, Int.reduceToNat, Int.reduceAdd, Int.reduceSub, Int.reduceMul, rsU, rsC]
theorem pat_ok {i : Nat} {k : Int} (hi : i * (S.words + 1) ≤ 4194304) (hi2 : i ≤ 4194304) (hk : -1 ≤ k ∧ k ≤ 100) : pool_Pool__at [.p (some (.n pb, 0)), .i .i64 ((i : Int) + 1), .i .i64 k] σ = some (.i .i64 (((i * (S.words + 1) : Nat) : Int) + 1 + k), σ) := by
  have wd := pwidth_ok h
  have hw := h.p.words
  have e1 : (i : Int) + 1 - 1 = i := by omega
  have e2 : (i : Int) * ((S.words : Int) + 1) = ((i * (S.words + 1) : Nat) : Int) := by simp
  generalize i * (S.words + 1) = P at *
  simp (config := { maxSteps := 2000000 }) -implicitDefEqProofs (disch := (first | omega | rfl | assumption | (simp only [rsD]; first | omega | assumption))) only [pool_Pool__at, pool_Pool__at_c, wd, e1, e2, Nat.reduceAdd, Nat.reduceMul, Nat.reduceLT, Int.reduceToNat, Int.reduceAdd, Int.reduceSub, Int.reduceMul, rsU, rsC]
end
section
variable {σ : AH O} {pb mb : Nat} {M : MemS} {S : PoolS} {w : List Int} {X : List Nat} (h : PoolAt σ pb mb M S w X) (hc : M.calm)
include h hc
theorem plook_no {id : Int} (hn : id < 1 ∨ id > S.E.length) : pool_Pool__look [.p (some (.n pb, 0)), .i .i64 id] σ = some (.tup [.i .u64 0, .b false], σ) := by
  have hb := h.b
  simp only [PoolS.cells] at hb
  by_cases c : id < 1
  · simp (config := { maxSteps := 2000000 }) -implicitDefEqProofs (disch := (first | omega | rfl | assumption | (simp only [rsD]; first | omega | assumption))) only [pool_Pool__look, pool_Pool__look_c, Nat.reduceAdd, Nat.reduceMul, Nat.reduceLT, Int.reduceToNat, Int.reduceAdd, Int.reduceSub, Int.reduceMul, rsU, rsC]
  · simp (config := { maxSteps := 2000000 }) -implicitDefEqProofs (disch := (first | omega | rfl | assumption | (simp only [rsD]; first | omega | assumption))) only [pool_Pool__look, pool_Pool__look_c, hb, Nat.reduceAdd, Nat.reduceMul, Nat.reduceLT, Int.reduceToNat, Int.reduceAdd, Int.reduceSub, Int.reduceMul, rsU, rsC]
theorem plook_ok {i : Nat} {e : PE} (he : S.E[i]? = some e) :
    Ok (pool_Pool__look [.p (some (.n pb, 0)), .i .i64 ((i : Int) + 1)] σ) fun q => q.1 = .tup [.i .u64 e.st, .b true] ∧ ∃ M', PoolAt q.2 pb mb M' S w X ∧ Wrt M M' S.id w 1 0 ∧ Keep X σ q.2 := by
  have hb := h.b
  simp only [PoolS.cells] at hb
  have hi := (List.getElem?_eq_some_iff.1 he).1
  have hp := h.p.pos he
  have hwl := h.wle
  have hst := h.p.st he
  have hlen := h.p.len
  have hw := h.p.words
  have hi2 : i ≤ 4194304 := by
    have h1 : i * 1 ≤ i * (S.words + 1) := Nat.mul_le_mul_left _ (by omega)
    omega
  have pa := pat_ok h (i := i) (k := -1) (by omega) hi2 ⟨by omega, by omega⟩
  have e1 : (((i * (S.words + 1) : Nat) : Int) + 1 + -1) = ((i * (S.words + 1) : Nat) : Int) := by omega
  rw [e1] at pa
  generalize i * (S.words + 1) = P at *
  simp (config := { maxSteps := 2000000 }) -implicitDefEqProofs (disch := (first | omega | rfl | assumption | (simp only [rsD]; first | omega | assumption))) only [pool_Pool__look, pool_Pool__look_c, hb, pa, Nat.reduceAdd, Nat.reduceMul, Nat.reduceLT, Int.reduceToNat, Int.reduceAdd, Int.reduceSub, Int.reduceMul, rsU, rsC]
  refine Ok.step (readX h.mi hc h.now (at_ := (P : Int)) (by omega) (by omega)) fun q ⟨p1, M1, p2, p3, p4⟩ => ?_
  obtain ⟨q, σ1⟩ := q
  simp only at p1 p2 p4
  rw [Int.toNat_natCast, List.getD_eq_getElem?_getD, hst] at p1
  simp only [Option.getD_some] at p1
  subst p1
  simp (config := { maxSteps := 2000000 }) -implicitDefEqProofs (disch := (first | omega | rfl | assumption | (simp only [rsD]; first | omega | assumption))) only [Nat.reduceAdd, Nat.reduceMul, Nat.reduceLT, Int.reduceToNat, Int.reduceAdd, Int.reduceSub, Int.reduceMul, rsU, rsC]
  exact Ok_some.2 ⟨rfl, M1, { h with mi := p2, b := p4.head.trans h.b, now := p3.words h.now }, p3, p4.tail⟩
theorem ptaken_no {id : Int} (hn : id < 1 ∨ id > S.E.length) : pool_Pool__Taken [.p (some (.n pb, 0)), .i .i64 id] σ = some (.b false, σ) := by
  have lk := plook_no h hc hn
  simp (config := { maxSteps := 2000000 }) -implicitDefEqProofs (disch := (first | omega | rfl | assumption | (simp only [rsD]; first | omega | assumption))) only [pool_Pool__Taken, pool_Pool__Taken_c, lk, Nat.reduceAdd, Nat.reduceMul, Nat.reduceLT, Int.reduceToNat, Int.reduceAdd, Int.reduceSub, Int.reduceMul, rsU, rsC]
theorem ptaken_ok {i : Nat} {e : PE} (he : S.E[i]? = some e) :
    Ok (pool_Pool__Taken [.p (some (.n pb, 0)), .i .i64 ((i : Int) + 1)] σ) fun q => q.1 = .b e.tk ∧ ∃ M', PoolAt q.2 pb mb M' S w X ∧ Wrt M M' S.id w 1 0 ∧ Keep X σ q.2 := by
  have hg := st_rng (h.p.gen e (List.mem_of_getElem? he))
  have e1 : (ibits .and .u64 e.st 1 == 1) = e.tk := by
    rw [and_one_u64 hg.1 (by omega), st_tk]
    cases e.tk <;> rfl
  simp (config := { maxSteps := 2000000 }) -implicitDefEqProofs (disch := (first | omega | rfl | assumption | (simp only [rsD]; first | omega | assumption))) only [pool_Pool__Taken, pool_Pool__Taken_c, Nat.reduceAdd, Nat.reduceMul, Nat.reduceLT, Int.reduceToNat, Int.reduceAdd, Int.reduceSub, Int.reduceMul, rsU, rsC]
  refine Ok.step (plook_ok h hc he) fun q ⟨p1, p2⟩ => ?_
  obtain ⟨q, σ1⟩ := q
  simp only at p1 p2
  subst p1
  simp (config := { maxSteps := 2000000 }) -implicitDefEqProofs (disch := (first | omega | rfl | assumption | (simp only [rsD]; first | omega | assumption))) only [e1, Nat.reduceAdd, Nat.reduceMul, Nat.reduceLT, Int.reduceToNat, Int.reduceAdd, Int.reduceSub, Int.reduceMul, rsU, rsC]
  exact Ok_some.2 ⟨rfl, p2⟩
end
end Go.Abs.Try
