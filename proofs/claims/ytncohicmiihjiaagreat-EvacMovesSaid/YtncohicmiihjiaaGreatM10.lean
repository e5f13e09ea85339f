/-
  Layer 10: a pool of entries. No conditions.
-/
import Derived.Test.YtncohicmiihjiaaGreatM7
set_option linter.unusedVariables false
set_option linter.unusedSimpArgs false
set_option linter.constructorNameAsVariable false
set_option linter.unusedSimpArgs false
set_option linter.unusedVariables false
set_option linter.unusedSectionVars false
set_option maxHeartbeats 1000000
namespace Go.Abs.Tryz
open Go Go.Abs
variable {O : Type}
section
variable {α : Type} {enc : α -> List Int} {k : Nat} {l : List α} {i : Nat} {e : α}
theorem fl_len (hk : ∀ x ∈ l, (enc x).length = k) : (l.flatMap enc).length = l.length * k := by
 induction l with
 | nil => simp
 | cons x l ih =>
  have := ih fun y hy => hk y (List.mem_cons_of_mem _ hy)
  have := hk x List.mem_cons_self
  simp only [List.flatMap_cons, List.length_append, List.length_cons, Nat.succ_mul]; omega
theorem fl_split (h : l[i]? = some e) : l.flatMap enc = (l.take i).flatMap enc ++ (enc e ++ (l.drop (i + 1)).flatMap enc) := by
 obtain ⟨hi, he⟩ := List.getElem?_eq_some_iff.1 h
 have : l = l.take i ++ e :: l.drop (i + 1) := by rw [<- he, <- List.drop_eq_getElem_cons hi, List.take_append_drop]
 conv => lhs; rw [this]
 simp
theorem fl_set (h : l[i]? = some e) (y : α) : (l.set i y).flatMap enc = (l.take i).flatMap enc ++ (enc y ++ (l.drop (i + 1)).flatMap enc) := by
 obtain ⟨hi, he⟩ := List.getElem?_eq_some_iff.1 h
 rw [List.set_eq_take_append_cons_drop, if_pos hi]
 simp
theorem fl_head (hk : ∀ x ∈ l, (enc x).length = k) (h : l[i]? = some e) : ((l.take i).flatMap enc).length = i * k := by
 rw [fl_len (k := k) fun x hx => hk x (List.mem_of_mem_take hx), List.length_take]
 have := (List.getElem?_eq_some_iff.1 h).1
 rw [Nat.min_eq_left (by omega)]
theorem fl_get (hk : ∀ x ∈ l, (enc x).length = k) (h : l[i]? = some e) {j : Nat} (hj : j < k) (z : List Int) : (l.flatMap enc ++ z)[i * k + j]? = (enc e)[j]? := by
 have h1 := fl_head hk h
 have h2 := hk e (List.mem_of_getElem? h)
 rw [fl_split h, List.append_assoc, List.getElem?_append_right (by omega), h1, Nat.add_sub_cancel_left, List.append_assoc, List.getElem?_append_left (by omega)]
theorem fl_put (hk : ∀ x ∈ l, (enc x).length = k) (h : l[i]? = some e) {j : Nat} (hj : j < k) (z : List Int) {x : Int} {y : α} (hy : enc y = (enc e).set j x) : (l.flatMap enc ++ z).set (i * k + j) x = (l.set i y).flatMap enc ++ z := by
 have h1 := fl_head hk h
 have h2 := hk e (List.mem_of_getElem? h)
 rw [fl_split h, fl_set h, hy, List.append_assoc, List.set_append_right _ _ (by omega), h1, Nat.add_sub_cancel_left, List.append_assoc, List.set_append_left _ _ (by omega)]
 simp
theorem fl_patch (hk : ∀ x ∈ l, (enc x).length = k) (h : l[i]? = some e) {j : Nat} (z : List Int) {v : List Int} {y : α} (hj : j + v.length <= k) (hy : enc y = patched (enc e) j v) : patched (l.flatMap enc ++ z) (i * k + j) v = (l.set i y).flatMap enc ++ z := by
 have h1 := fl_head hk h
 have h2 := hk e (List.mem_of_getElem? h)
 rw [fl_split h, fl_set h, hy]
 generalize (l.take i).flatMap enc = A at *
 generalize (l.drop (i + 1)).flatMap enc = B at *
 generalize enc e = E at *
 unfold patched
 have e1 : A ++ (E ++ B) ++ z = A ++ (E ++ (B ++ z)) := by simp
 rw [e1, <- h1, List.take_append, List.take_of_length_le (by omega), Nat.add_sub_cancel_left, List.take_append_of_le_length (by omega)]
 rw [show A.length + j + v.length = A.length + (j + v.length) by omega, List.drop_append, List.drop_eq_nil_of_le (show A.length <= A.length + (j + v.length) by omega), Nat.add_sub_cancel_left, List.drop_append_of_le_length (by omega)]
 simp
end
structure PE where
 tk : Bool
 gen : Nat
 ws : List Int
def PE.st (e : PE) : Int := 2 * (e.gen : Int) + (if e.tk then 1 else 0)
def PE.enc (e : PE) : List Int := e.st :: e.ws
structure PoolS where
 id : Int
 words : Nat
 room : Nat
 E : List PE
 free : List Nat
 taken : Nat
def hd (l : List Nat) : Nat := match l with | [] => 0 | i :: _ => i
def PoolS.cells (S : PoolS) (mb : Nat) : List AV := [.p (some (.n mb, 0)), .i .i64 S.id, .i .i64 (S.words : Int), .i .i64 (S.E.length : Int), .i .i64 (S.room : Int), .i .i64 (hd S.free : Int), .i .i64 (S.taken : Int)]
def fchain (E : List PE) : List Nat -> Prop
 | [] => True
 | i :: r => (∃ e, 1 <= i /\ E[i - 1]? = some e /\ e.tk = false /\ e.ws[0]? = some (hd r : Int)) /\ fchain E r
structure PoolP (S : PoolS) (w : List Int) : Prop where
 words : 1 <= S.words /\ S.words <= 60
 lay : w = S.E.flatMap PE.enc ++ List.replicate ((S.room - S.E.length) * (S.words + 1)) 0
 made : S.E.length <= S.room
 pow : S.room = 0 ∨ ∃ k : Nat, S.room = 8 * 2 ^ k
 wl : ∀ e ∈ S.E, e.ws.length = S.words
 ch : fchain S.E S.free
 nd : S.free.Nodup
 cnt : S.taken = S.E.countP (·.tk)
 gen : ∀ e ∈ S.E, e.gen < 4611686018427387904
structure PoolAt (J : AH O) (pb mb : Nat) (M : MemS) (S : PoolS) (w : List Int) (X : List Nat) : Prop where
 mi : MemIn J mb M (pb :: X)
 b : J.blk pb = some (.cells true T_pool_Pool (S.cells mb))
 nx : pb ∉ X
 now : wordsOf M.sp S.id = some w
 p : PoolP S w
theorem PoolP.el {S : PoolS} {w : List Int} (h : PoolP S w) : ∀ e ∈ S.E, e.enc.length = S.words + 1 := fun e he => by simp [PE.enc, h.wl e he]
theorem PoolP.len {S : PoolS} {w : List Int} (h : PoolP S w) : w.length = S.room * (S.words + 1) := by
 have := h.made
 rw [h.lay, List.length_append, fl_len h.el, List.length_replicate, <- Nat.add_mul, Nat.add_sub_cancel' h.made]
theorem PoolP.st {S : PoolS} {w : List Int} (h : PoolP S w) {i : Nat} {e : PE} (he : S.E[i]? = some e) : w[i * (S.words + 1)]? = some e.st := by
 have := fl_get h.el he (j := 0) (by omega) (List.replicate ((S.room - S.E.length) * (S.words + 1)) 0)
 rw [<- h.lay, Nat.add_zero] at this
 rw [this]; rfl
theorem PoolP.at {S : PoolS} {w : List Int} (h : PoolP S w) {i : Nat} {e : PE} (he : S.E[i]? = some e) {k : Nat} (hk : k < S.words) : w[i * (S.words + 1) + 1 + k]? = e.ws[k]? := by
 have := fl_get h.el he (j := k + 1) (by omega) (List.replicate ((S.room - S.E.length) * (S.words + 1)) 0)
 rw [<- h.lay, show i * (S.words + 1) + (k + 1) = i * (S.words + 1) + 1 + k by omega] at this
 rw [this]; rfl
theorem PoolP.pos {S : PoolS} {w : List Int} (h : PoolP S w) {i : Nat} {e : PE} (he : S.E[i]? = some e) : i * (S.words + 1) + (S.words + 1) <= w.length := by
 have hi := (List.getElem?_eq_some_iff.1 he).1
 have := h.made
 rw [h.len, <- Nat.succ_mul]
 exact Nat.mul_le_mul_right _ (by omega)
theorem PoolP.set {S : PoolS} {w w' : List Int} (h : PoolP S w) {i : Nat} {e e' : PE} (he : S.E[i]? = some e) {free' : List Nat} {taken' : Nat} (hw : w' = (S.E.set i e').flatMap PE.enc ++ List.replicate ((S.room - S.E.length) * (S.words + 1)) 0)
  (hl : e'.ws.length = S.words) (hg : e'.gen < 4611686018427387904) (hc : fchain (S.E.set i e') free') (hn : free'.Nodup) (ht : taken' = (S.E.set i e').countP (·.tk)) : PoolP { S with E := S.E.set i e', free := free', taken := taken' } w' := by
 refine ⟨h.words, ?_, ?_, h.pow, fun x hx => ?_, hc, hn, ht, fun x hx => ?_⟩
 ·show w' = (S.E.set i e').flatMap PE.enc ++ List.replicate ((S.room - (S.E.set i e').length) * (S.words + 1)) 0
  rw [List.length_set]; exact hw
 ·show (S.E.set i e').length <= _
  rw [List.length_set]; exact h.made
 ·rcases mem_set' hx with rfl | hx
  ·exact hl
  ·exact h.wl x hx
 ·rcases mem_set' hx with rfl | hx
  ·exact hg
  ·exact h.gen x hx
theorem fchain_set {E : List PE} {i : Nat} {e' : PE} : ∀ {fr : List Nat}, fchain E fr -> (∀ j ∈ fr, j ≠ i + 1) -> fchain (E.set i e') fr
 | [], _, _ => trivial
 | j :: r, ⟨⟨e, h1, h2, h3, h4⟩, h5⟩, hn => ⟨⟨e, h1, by rw [List.getElem?_set, if_neg (by have := hn j List.mem_cons_self; omega)]; exact h2, h3, h4⟩, fchain_set h5 fun k hk => hn k (List.mem_cons_of_mem _ hk)⟩
theorem fchain_app {E : List PE} {e' : PE} : ∀ {fr : List Nat}, fchain E fr -> fchain (E ++ [e']) fr
 | [], _ => trivial
 | j :: r, ⟨⟨e, h1, h2, h3, h4⟩, h5⟩ => ⟨⟨e, h1, by rw [List.getElem?_append_left (List.getElem?_eq_some_iff.1 h2).1]; exact h2, h3, h4⟩, fchain_app h5⟩
theorem fchain_tk {E : List PE} : ∀ {fr : List Nat}, fchain E fr -> ∀ j ∈ fr, ∃ e, 1 <= j /\ E[j - 1]? = some e /\ e.tk = false
 | _ :: _, ⟨⟨e, h1, h2, h3, _⟩, h5⟩, k, hk => by
  rcases List.mem_cons.1 hk with rfl | hk
  ·exact ⟨e, h1, h2, h3⟩
  ·exact fchain_tk h5 k hk
theorem st_rng {e : PE} (h : e.gen < 4611686018427387904) : 0 <= e.st /\ e.st < 9223372036854775808 := by unfold PE.st; split <;> omega
theorem st_tk {e : PE} : e.st % 2 = if e.tk then 1 else 0 := by unfold PE.st; split <;> omega
section
variable {J : AH O} {pb mb : Nat} {M : MemS} {S : PoolS} {w : List Int} {X : List Nat} (h : PoolAt J pb mb M S w X)
include h
theorem PoolAt.ext {J' : AH O} (he : Ext J J') : PoolAt J' pb mb M S w X := { h with mi := h.mi.ext he, b := (he.blk _ (h.mi.lt _ List.mem_cons_self)).trans h.b }
theorem PoolAt.new {J' : AH O} (he : Ext J J') {b : Nat} (h1 : J.next <= b) (h2 : b < J'.next) : PoolAt J' pb mb M S w (b :: X) :=
 { h.ext he with mi := (h.mi.new he h1 h2).mono (fun c hc => by simp only [List.mem_cons] at hc ⊢; rcases hc with rfl | rfl | hc <;> simp_all), nx := (fun hm => (List.mem_cons.1 hm).elim (fun e => by have := h.mi.lt _ List.mem_cons_self; omega) h.nx) }
theorem PoolAt.mono {Y : List Nat} (hs : ∀ b ∈ Y, b ∈ X) : PoolAt J pb mb M S w Y := { h with mi := h.mi.mono (fun c hc => (List.mem_cons.1 hc).elim (fun e => by rw [e]; exact List.mem_cons_self) fun hc => List.mem_cons_of_mem _ (hs c hc)), nx := fun hm => h.nx (hs _ hm) }
theorem PoolAt.lt : pb < J.next := h.mi.lt _ List.mem_cons_self
theorem PoolAt.wle : w.length <= 4194304 := h.mi.wlen h.now
theorem pwidth_ok : qe5 [.p (some (.n pb, 0))] J = some (.i .i64 ((S.words : Int) + 1), J) := by
 have hb := h.b
 have hw := h.p.words
 simp only [PoolS.cells] at hb
 simp (maxSteps := 2000000) -implicitDefEqProofs (disch := (first | omega | rfl | assumption | (simp only [rsD]; first | omega | assumption))) only [qe5, qe4, hb, Nat.reduceAdd, Nat.reduceMul, Nat.reduceLT, Int.reduceToNat, Int.reduceAdd, Int.reduceSub, Int.reduceMul, rsU, rsC]
theorem pat_ok {i : Nat} {k : Int} (hi : i * (S.words + 1) <= 4194304) (hi2 : i <= 4194304) (hk : -1 <= k /\ k <= 100) : qfp [.p (some (.n pb, 0)), .i .i64 ((i : Int) + 1), .i .i64 k] J = some (.i .i64 (((i * (S.words + 1) : Nat) : Int) + 1 + k), J) := by
 have wd := pwidth_ok h
 have hw := h.p.words
 have e1 : (i : Int) + 1 - 1 = i := by omega
 have e2 : (i : Int) * ((S.words : Int) + 1) = ((i * (S.words + 1) : Nat) : Int) := by simp
 generalize i * (S.words + 1) = P at *
 simp (maxSteps := 2000000) -implicitDefEqProofs (disch := (first | omega | rfl | assumption | (simp only [rsD]; first | omega | assumption))) only [qfp, qfo, wd, e1, e2, Nat.reduceAdd, Nat.reduceMul, Nat.reduceLT, Int.reduceToNat, Int.reduceAdd, Int.reduceSub, Int.reduceMul, rsU, rsC]
end
section
variable {J : AH O} {pb mb : Nat} {M : MemS} {S : PoolS} {w : List Int} {X : List Nat} (h : PoolAt J pb mb M S w X) (hc : M.calm)
include h hc
theorem plook_ok {i : Nat} {e : PE} (he : S.E[i]? = some e) :
  Ok (qhd [.p (some (.n pb, 0)), .i .i64 ((i : Int) + 1)] J) fun q => q.1 = .tup [.i .u64 e.st, .b true] /\ ∃ M', PoolAt q.2 pb mb M' S w X /\ Wrt M M' S.id w 1 0 /\ Keep X J q.2 := by
 have hb := h.b
 simp only [PoolS.cells] at hb
 have hi := (List.getElem?_eq_some_iff.1 he).1
 have hp := h.p.pos he
 have hwl := h.wle
 have hst := h.p.st he
 have hlen := h.p.len
 have hw := h.p.words
 have hi2 : i <= 4194304 := by
  have h1 : i * 1 <= i * (S.words + 1) := Nat.mul_le_mul_left _ (by omega)
  omega
 have pa := pat_ok h (i := i) (k := -1) (by omega) hi2 ⟨by omega, by omega⟩
 have e1 : (((i * (S.words + 1) : Nat) : Int) + 1 + -1) = ((i * (S.words + 1) : Nat) : Int) := by omega
 rw [e1] at pa
 generalize i * (S.words + 1) = P at *
 simp (maxSteps := 2000000) -implicitDefEqProofs (disch := (first | omega | rfl | assumption | (simp only [rsD]; first | omega | assumption))) only [qhd, qhc, hb, pa, Nat.reduceAdd, Nat.reduceMul, Nat.reduceLT, Int.reduceToNat, Int.reduceAdd, Int.reduceSub, Int.reduceMul, rsU, rsC]
 refine Ok.step (readX h.mi hc h.now (at_ := (P : Int)) (by omega) (by omega)) fun q ⟨p1, M1, p2, p3, p4⟩ => ?_
 obtain ⟨q, J1⟩ := q
 simp only at p1 p2 p4
 rw [Int.toNat_natCast, List.getD_eq_getElem?_getD, hst] at p1
 simp only [Option.getD_some] at p1
 subst p1
 simp (maxSteps := 2000000) -implicitDefEqProofs (disch := (first | omega | rfl | assumption | (simp only [rsD]; first | omega | assumption))) only [Nat.reduceAdd, Nat.reduceMul, Nat.reduceLT, Int.reduceToNat, Int.reduceAdd, Int.reduceSub, Int.reduceMul, rsU, rsC]
 exact Ok_some.2 ⟨rfl, M1, { h with mi := p2, b := p4.head.trans h.b, now := p3.words h.now }, p3, p4.tail⟩
theorem ptaken_ok {i : Nat} {e : PE} (he : S.E[i]? = some e) :
  Ok (qhi [.p (some (.n pb, 0)), .i .i64 ((i : Int) + 1)] J) fun q => q.1 = .b e.tk /\ ∃ M', PoolAt q.2 pb mb M' S w X /\ Wrt M M' S.id w 1 0 /\ Keep X J q.2 := by
 have hg := st_rng (h.p.gen e (List.mem_of_getElem? he))
 have e1 : (ibits .and .u64 e.st 1 == 1) = e.tk := by
  rw [and_one_u64 hg.1 (by omega), st_tk]
  cases e.tk <;> rfl
 simp (maxSteps := 2000000) -implicitDefEqProofs (disch := (first | omega | rfl | assumption | (simp only [rsD]; first | omega | assumption))) only [qhi, qhh, Nat.reduceAdd, Nat.reduceMul, Nat.reduceLT, Int.reduceToNat, Int.reduceAdd, Int.reduceSub, Int.reduceMul, rsU, rsC]
 refine Ok.step (plook_ok h hc he) fun q ⟨p1, p2⟩ => ?_
 obtain ⟨q, J1⟩ := q
 simp only at p1 p2
 subst p1
 simp (maxSteps := 2000000) -implicitDefEqProofs (disch := (first | omega | rfl | assumption | (simp only [rsD]; first | omega | assumption))) only [e1, Nat.reduceAdd, Nat.reduceMul, Nat.reduceLT, Int.reduceToNat, Int.reduceAdd, Int.reduceSub, Int.reduceMul, rsU, rsC]
 exact Ok_some.2 ⟨rfl, p2⟩
end
end Go.Abs.Tryz
namespace Go.Abs.Tryz
open Go Go.Abs
variable {O : Type}
theorem pat_b {J : AH O} {pb mb : Nat} {S : PoolS} (hb : J.blk pb = some (.cells true T_pool_Pool (S.cells mb))) (hw : 1 <= S.words /\ S.words <= 60) {i : Nat} {k : Int} (hi : i * (S.words + 1) <= 4194304) (hi2 : i <= 4194304) (hk : -1 <= k /\ k <= 100) :
  qfp [.p (some (.n pb, 0)), .i .i64 ((i : Int) + 1), .i .i64 k] J = some (.i .i64 (((i * (S.words + 1) : Nat) : Int) + 1 + k), J) := by
 simp only [PoolS.cells] at hb
 have wd : qe5 [.p (some (.n pb, 0))] J = some (.i .i64 ((S.words : Int) + 1), J) := by simp (maxSteps := 2000000) -implicitDefEqProofs (disch := (first | omega | rfl | assumption | (simp only [rsD]; first | omega | assumption))) only [qe5, qe4, hb, Nat.reduceAdd, Nat.reduceMul, Nat.reduceLT, Int.reduceToNat, Int.reduceAdd, Int.reduceSub, Int.reduceMul, rsU, rsC]
 have e1 : (i : Int) + 1 - 1 = i := by omega
 have e2 : (i : Int) * ((S.words : Int) + 1) = ((i * (S.words + 1) : Nat) : Int) := by simp
 generalize i * (S.words + 1) = P at *
 simp (maxSteps := 2000000) -implicitDefEqProofs (disch := (first | omega | rfl | assumption | (simp only [rsD]; first | omega | assumption))) only [qfp, qfo, wd, e1, e2, Nat.reduceAdd, Nat.reduceMul, Nat.reduceLT, Int.reduceToNat, Int.reduceAdd, Int.reduceSub, Int.reduceMul, rsU, rsC]
def PoolS.more (S : PoolS) : Nat := if S.E.length < S.room then S.room else max 8 (2 * S.room)
def PE.fresh (n : Nat) : PE := ⟨true, 0, List.replicate n 0⟩
section
variable {J : AH O} {pb mb : Nat} {M : MemS} {S : PoolS} {w : List Int} {X : List Nat} (h : PoolAt J pb mb M S w X) (hc : M.calm)
include h hc
theorem pgrow_ok (hE : S.E.length < 1048576) (hR : S.more * (S.words + 1) <= 4194304) :
  Ok (qfk [.p (some (.n pb, 0))] J) fun r => r.1 = .i .i64 0 /\ ∃ M' w', PoolAt r.2 pb mb M' { S with room := S.more } w' X /\ Wrt M M' S.id w' 0 0 /\ Keep X J r.2 := by
 have hb := h.b
 simp only [PoolS.cells] at hb
 have hlt := h.lt
 have hlen := h.p.len
 have hmd := h.p.made
 have hw := h.p.words
 by_cases c : S.E.length < S.room
 ·have e : S.more = S.room := if_pos c
  simp (maxSteps := 2000000) -implicitDefEqProofs (disch := (first | omega | rfl | assumption | (simp only [rsD]; first | omega | assumption))) only [qfk, qfj, hb, Nat.reduceAdd, Nat.reduceMul, Nat.reduceLT, Int.reduceToNat, Int.reduceAdd, Int.reduceSub, Int.reduceMul, rsU, rsC]
  rw [e]
  exact Ok_some.2 ⟨rfl, M, w, h, Wrt.refl h.now, Keep.refl _ _⟩
 ·have e : S.more = max 8 (2 * S.room) := if_neg c
  have wd := pwidth_ok h
  have hr2 : S.more * 1 <= S.more * (S.words + 1) := Nat.mul_le_mul_left _ (by omega)
  have e1 : (if (2 * (S.room : Int)) > 8 then (2 * (S.room : Int)) else 8) = (S.more : Int) := by rw [e]; split <;> omega
  have e2 : (S.more : Int) * ((S.words : Int) + 1) = ((S.more * (S.words + 1) : Nat) : Int) := by simp
  have hge : S.room * (S.words + 1) <= S.more * (S.words + 1) := Nat.mul_le_mul_right _ (by omega)
  have hsub : S.more * (S.words + 1) - S.room * (S.words + 1) = (S.more - S.room) * (S.words + 1) := (Nat.sub_mul _ _ _).symm
  have hrE : S.room = S.E.length := by omega
  have hrm : S.more <= 4194304 := by omega
  have hpow : ∃ k : Nat, S.more = 8 * 2 ^ k := by
   rw [e]
   rcases h.p.pow with g | ⟨k, g⟩
   ·exact ⟨0, by omega⟩
   ·have := Nat.two_pow_pos k
    exact ⟨k + 1, by rw [Nat.pow_succ]; omega⟩
  generalize hQ : S.more * (S.words + 1) = Q at *
  generalize hP : S.room * (S.words + 1) = P at *
  generalize hmr : S.more = R at *
  simp (maxSteps := 2000000) -implicitDefEqProofs (disch := (first | omega | rfl | assumption | (simp only [rsD]; first | omega | assumption))) only [qfk, qfj, hb, wd, e1, e2, Nat.reduceAdd, Nat.reduceMul, Nat.reduceLT, Int.reduceToNat, Int.reduceAdd, Int.reduceSub, Int.reduceMul, rsU, rsC]
  refine Ok.step (growX h.mi hc h.now (n := (Q : Int)) (by omega) (by omega)) fun r ⟨p1, M', p2, p3, p4⟩ => ?_
  obtain ⟨q, J1⟩ := r
  simp only at p1 p2 p4
  subst p1
  have hb1 : J1.blk pb = _ := p4.head.trans hb
  have e0 : ((0 : Int) != 0) = false := rfl
  simp (maxSteps := 2000000) -implicitDefEqProofs (disch := (first | omega | rfl | assumption | (simp only [rsD]; first | omega | assumption))) only [e0, hb1, Nat.reduceAdd, Nat.reduceMul, Nat.reduceLT, Int.reduceToNat, Int.reduceAdd, Int.reduceSub, Int.reduceMul, rsU, rsC]
  rw [Int.toNat_natCast, hlen, hsub] at p3
  refine Ok_some.2 ⟨rfl, M', _, ⟨p2.put List.mem_cons_self _, s_bs, h.nx, p3.words h.now, h.p.words, ?_, ?_, .inr hpow, h.p.wl, h.p.ch, h.p.nd, h.p.cnt, h.p.gen⟩, p3, p4.tail.trans (Keep.put h.nx _)⟩
  ·have hl := h.p.lay
   show w ++ _ = S.E.flatMap PE.enc ++ List.replicate ((R - S.E.length) * (S.words + 1)) 0
   rw [hl, hrE]; simp
  ·show S.E.length <= R
   omega
theorem ptake_new (hf : S.free = []) (hE : S.E.length < 1048576) (hR : S.more * (S.words + 1) <= 4194304) (hmw : M.met.w + 100 < 85070591730234615865843651857942052864) :
  Ok (qgy [.p (some (.n pb, 0))] J) fun r => r.1 = .tup [.i .i64 ((S.E.length : Int) + 1), .i .i64 0] /\ ∃ M' w', PoolAt r.2 pb mb M' { S with room := S.more, E := S.E ++ [PE.fresh S.words], taken := S.taken + 1 } w' X /\ Wrt M M' S.id w' 0 1 /\ Keep X J r.2 := by
 have hb := h.b
 simp only [PoolS.cells, hf, hd] at hb
 have hlt := h.lt
 have e00 : (((0 : Nat) : Int) == 0) = true := rfl
 have e0 : ((0 : Int) != 0) = false := rfl
 simp (maxSteps := 2000000) -implicitDefEqProofs (disch := (first | omega | rfl | assumption | (simp only [rsD]; first | omega | assumption))) only [qgy, qgx, hb, e00, Nat.reduceAdd, Nat.reduceMul, Nat.reduceLT, Int.reduceToNat, Int.reduceAdd, Int.reduceSub, Int.reduceMul, rsU, rsC]
 refine Ok.step (pgrow_ok h hc hE hR) fun r ⟨p1, M1, w1, p2, p3, p4⟩ => ?_
 obtain ⟨q, J1⟩ := r
 simp only at p1 p2 p4
 subst p1
 have hb1 := p2.b
 simp only [PoolS.cells, hf, hd] at hb1
 have hlt1 := p2.lt
 have hp2 := p2.p
 have hlen := hp2.len
 simp only at hlen
 have hwl := p2.wle
 have hw := h.p.words
 have hmd := hp2.made
 simp only at hmd
 have hlt2 : S.E.length < S.more := by have := h.p.made; unfold PoolS.more; split <;> omega
 have hpos : S.E.length * (S.words + 1) + (S.words + 1) <= w1.length := by rw [hlen, <- Nat.succ_mul]; exact Nat.mul_le_mul_right _ hlt2
 have hcount : S.taken <= S.E.length := by rw [h.p.cnt]; exact List.countP_le_length
 simp (maxSteps := 2000000) -implicitDefEqProofs (disch := (first | omega | rfl | assumption | (simp only [rsD]; first | omega | assumption))) only [e0, hb1, Nat.reduceAdd, Nat.reduceMul, Nat.reduceLT, Int.reduceToNat, Int.reduceAdd, Int.reduceSub, Int.reduceMul, rsU, rsC]
 generalize hJ : J1.put pb (.cells true _ _) = J2
 have hb2 : J2.blk pb = some (.cells true T_pool_Pool (PoolS.cells { S with room := S.more, E := S.E ++ [PE.fresh S.words] } mb)) := by
  rw [<- hJ, s_bs]; simp [PoolS.cells, hf, hd]
 have mi2 : MemIn J2 mb M1 (pb :: X) := by rw [<- hJ]; exact p2.mi.put List.mem_cons_self _
 have k2 : Keep X J1 J2 := by rw [<- hJ]; exact Keep.put h.nx _
 clear hJ
 have pa := pat_b (i := S.E.length) (k := -1) hb2 hw (by show S.E.length * (S.words + 1) <= _; omega) (by omega) ⟨by omega, by omega⟩
 simp only at pa
 rw [show ((S.E.length * (S.words + 1) : Nat) : Int) + 1 + -1 = ((S.E.length * (S.words + 1) : Nat) : Int) by omega] at pa
 have hb2' := hb2
 simp only [PoolS.cells, hf, hd, List.length_append, List.length_cons, List.length_nil] at hb2'
 simp (maxSteps := 2000000) -implicitDefEqProofs (disch := (first | omega | rfl | assumption | (simp only [rsD]; first | omega | assumption))) only [pa, hb2', Nat.reduceAdd, Nat.reduceMul, Nat.reduceLT, Int.reduceToNat, Int.reduceAdd, Int.reduceSub, Int.reduceMul, rsU, rsC]
 have hr1 := p3.r
 have hw1 := p3.w
 have hcr := hc.r
 have hcw := hc.w
 refine Ok.step (writeX mi2 ⟨by omega, by omega⟩ p2.now (at_ := ((S.E.length * (S.words + 1) : Nat) : Int)) (x := 1) (by omega) (by omega)) fun r ⟨q1, M3, q2, q3, q4⟩ => ?_
 obtain ⟨q, J3⟩ := r
 simp only at q1 q2 q4
 subst q1
 have hb3 : J3.blk pb = _ := q4.head.trans hb2'
 simp (maxSteps := 2000000) -implicitDefEqProofs (disch := (first | omega | rfl | assumption | (simp only [rsD]; first | omega | assumption))) only [hb3, Nat.reduceAdd, Nat.reduceMul, Nat.reduceLT, Int.reduceToNat, Int.reduceAdd, Int.reduceSub, Int.reduceMul, rsU, rsC]
 rw [Int.toNat_natCast] at q3
 have hst : w1.set (S.E.length * (S.words + 1)) 1 = (S.E ++ [PE.fresh S.words]).flatMap PE.enc ++ List.replicate ((S.more - (S.E ++ [PE.fresh S.words]).length) * (S.words + 1)) 0 := by
  have hl := hp2.lay
  simp only at hl
  have hfl := fl_len hp2.el
  simp only at hfl
  rw [hl, List.set_append_right _ _ (by omega), hfl, Nat.sub_self, List.length_append, List.length_singleton]
  have e1 : (S.more - S.E.length) * (S.words + 1) = S.words + 1 + (S.more - (S.E.length + 1)) * (S.words + 1) := by
   have : S.more - S.E.length = S.more - (S.E.length + 1) + 1 := by omega
   rw [this, Nat.succ_mul]; omega
  rw [e1, <- List.replicate_append_replicate, List.replicate_succ]
  simp [PE.enc, PE.fresh, PE.st]
 refine Ok_some.2 ⟨rfl, M3, _, ⟨q2.put List.mem_cons_self _, s_bs.trans ?_, h.nx, q3.words p2.now, h.p.words, hst, ?_, hp2.pow, ?_, fchain_app h.p.ch, h.p.nd, ?_, ?_⟩, (p3.trans q3).as rfl (by omega) (by omega), ((p4.trans k2).trans q4.tail).trans (Keep.put h.nx _)⟩
 ·simp [PoolS.cells, hf, hd]
 ·simp; omega
 ·intro e he
  rcases List.mem_append.1 he with he | he
  ·exact h.p.wl e he
  ·simp at he; subst he; simp [PE.fresh]
 ·show S.taken + 1 = _
  rw [List.countP_append, h.p.cnt]; rfl
 ·intro e he
  rcases List.mem_append.1 he with he | he
  ·exact h.p.gen e he
  ·simp at he; subst he; simp [PE.fresh]
theorem ptake_old {i : Nat} {r : List Nat} (hf : S.free = (i + 1) :: r) (hm : M.met.r + 100 < 85070591730234615865843651857942052864 /\ M.met.w + 100 < 85070591730234615865843651857942052864) :
  ∃ e, S.E[i]? = some e /\ e.tk = false /\ Ok (qgy [.p (some (.n pb, 0))] J) fun q => q.1 = .tup [.i .i64 ((i : Int) + 1), .i .i64 0] /\ ∃ M' w', PoolAt q.2 pb mb M' { S with E := S.E.set i ⟨true, e.gen, List.replicate S.words 0⟩, free := r, taken := S.taken + 1 } w' X /\ Wrt M M' S.id w' 2 (1 + S.words) /\ Keep X J q.2 := by
 have hch := h.p.ch
 rw [hf] at hch
 obtain ⟨⟨e, _, he, htk, hlk⟩, hch'⟩ := hch
 rw [Nat.add_sub_cancel] at he
 refine ⟨e, he, htk, ?_⟩
 have hnd := h.p.nd
 rw [hf] at hnd
 have hni : ∀ j ∈ r, j ≠ i + 1 := fun j hj e => by rw [e] at hj; exact (List.nodup_cons.1 hnd).1 hj
 have hb := h.b
 simp only [PoolS.cells, hf, hd] at hb
 have hlt := h.lt
 have hiE := (List.getElem?_eq_some_iff.1 he).1
 have hpos := h.p.pos he
 have hwl := h.wle
 have hst := h.p.st he
 have hw := h.p.words
 have hl0 := h.p.at he (k := 0) (by omega)
 rw [hlk, Nat.add_zero] at hl0
 have hlen := h.p.len
 have hrng := st_rng (h.p.gen e (List.mem_of_getElem? he))
 have hr4 : hd r <= 4194304 := by
  cases r with
  | nil => exact Nat.zero_le _
  | cons j r' =>
   obtain ⟨⟨e2, h1, h2, _⟩, _⟩ := hch'
   have := (List.getElem?_eq_some_iff.1 h2).1
   have hmd := h.p.made
   have h3 : S.room * 1 <= S.room * (S.words + 1) := Nat.mul_le_mul_left _ (by omega)
   simp only [hd]; omega
 have hi2 : i <= 4194304 := by
  have h1 : i * 1 <= i * (S.words + 1) := Nat.mul_le_mul_left _ (by omega)
  omega
 have hcount : S.taken <= S.E.length := by rw [h.p.cnt]; exact List.countP_le_length
 have hE4 : S.E.length <= 4194304 := by
  have hmd := h.p.made
  have h3 : S.room * 1 <= S.room * (S.words + 1) := Nat.mul_le_mul_left _ (by omega)
  omega
 have c1 : (((i + 1 : Nat) : Int)) = (i : Int) + 1 := by omega
 rw [c1] at hb
 have e00 : ((i : Int) + 1 == 0) = false := by simp; omega
 have e0 : ((0 : Int) != 0) = false := rfl
 have t0 : ((i * (S.words + 1) : Nat) : Int) + 1 + 0 = ((i * (S.words + 1) + 1 : Nat) : Int) := by omega
 have t1 : ((i * (S.words + 1) : Nat) : Int) + 1 + -1 = ((i * (S.words + 1) : Nat) : Int) := by omega
 have at0 : ∀ {J' : AH O}, J'.blk pb = some (.cells true T_pool_Pool (S.cells mb)) -> qfp [.p (some (.n pb, 0)), .i .i64 ((i : Int) + 1), .i .i64 0] J' = some (.i .i64 ((i * (S.words + 1) + 1 : Nat) : Int), J') := fun hb' => by
  rw [<- t0]; exact pat_b (k := 0) hb' hw (by omega) hi2 ⟨by omega, by omega⟩
 have at1 : ∀ {J' : AH O}, J'.blk pb = some (.cells true T_pool_Pool (S.cells mb)) -> qfp [.p (some (.n pb, 0)), .i .i64 ((i : Int) + 1), .i .i64 (-1)] J' = some (.i .i64 ((i * (S.words + 1) : Nat) : Int), J') := fun hb' => by
  rw [<- t1]; exact pat_b (k := -1) hb' hw (by omega) hi2 ⟨by omega, by omega⟩
 have hcells : ∀ {J' : AH O}, J'.blk pb = J.blk pb -> J'.blk pb = some (.cells true T_pool_Pool (S.cells mb)) := fun h1 => h1.trans h.b
 have hlay := h.p.lay
 have hfin : patched (w.set (i * (S.words + 1)) (e.st + 1)) (i * (S.words + 1) + 1) (List.replicate S.words 0) = (S.E.set i ⟨true, e.gen, List.replicate S.words 0⟩).flatMap PE.enc ++ List.replicate ((S.room - S.E.length) * (S.words + 1)) 0 := by
  have s1 := fl_put h.p.el he (j := 0) (by omega) (List.replicate ((S.room - S.E.length) * (S.words + 1)) 0) (x := e.st + 1) (y := ⟨true, e.gen, e.ws⟩) (by simp [PE.enc, PE.st, htk])
  rw [<- hlay, Nat.add_zero] at s1
  rw [s1]
  have he' : (S.E.set i ⟨true, e.gen, e.ws⟩)[i]? = some ⟨true, e.gen, e.ws⟩ := by rw [List.getElem?_set]; simp [hiE]
  have hel' : ∀ x ∈ S.E.set i ⟨true, e.gen, e.ws⟩, x.enc.length = S.words + 1 := fun x hx => by
   rcases mem_set' hx with rfl | hx
   ·simp [PE.enc, h.p.wl e (List.mem_of_getElem? he)]
   ·exact h.p.el x hx
  have s2 := fl_patch hel' he' (j := 1) (List.replicate ((S.room - S.E.length) * (S.words + 1)) 0) (v := List.replicate S.words 0) (y := ⟨true, e.gen, List.replicate S.words 0⟩) (by rw [List.length_replicate]; omega) (by
   have := h.p.wl e (List.mem_of_getElem? he)
   simp [PE.enc, PE.st, patched, <- this]; omega)
  rw [s2, List.set_set]
 generalize hP : i * (S.words + 1) = P at *
 simp (maxSteps := 2000000) -implicitDefEqProofs (disch := (first | omega | rfl | assumption | (simp only [rsD]; first | omega | assumption))) only [qgy, qgx, hb, e00, at0 h.b, Nat.reduceAdd, Nat.reduceMul, Nat.reduceLT, Int.reduceToNat, Int.reduceAdd, Int.reduceSub, Int.reduceMul, rsU, rsC]
 refine Ok.step (readX h.mi hc h.now (at_ := ((P + 1 : Nat) : Int)) (by omega) (by omega)) fun q ⟨p1, M1, p2, p3, p4⟩ => ?_
 obtain ⟨q, J1⟩ := q
 simp only at p1 p2 p4
 rw [Int.toNat_natCast, List.getD_eq_getElem?_getD, hl0] at p1
 simp only [Option.getD_some] at p1
 subst p1
 have hb1 : J1.blk pb = _ := p4.head.trans hb
 simp (maxSteps := 2000000) -implicitDefEqProofs (disch := (first | omega | rfl | assumption | (simp only [rsD]; first | omega | assumption))) only [hb1, at1 (hcells p4.head), Nat.reduceAdd, Nat.reduceMul, Nat.reduceLT, Int.reduceToNat, Int.reduceAdd, Int.reduceSub, Int.reduceMul, rsU, rsC]
 have hr1 := p3.r
 have hw1 := p3.w
 refine Ok.step (readX p2 ⟨by omega, by omega⟩ (p3.words h.now) (at_ := (P : Int)) (by omega) (by omega)) fun q ⟨q1, M2, q2, q3, q4⟩ => ?_
 obtain ⟨q, J2⟩ := q
 simp only at q1 q2 q4
 rw [Int.toNat_natCast, List.getD_eq_getElem?_getD, hst] at q1
 simp only [Option.getD_some] at q1
 subst q1
 have hb2 : J2.blk pb = _ := q4.head.trans hb1
 have e5 : ibits .or .u64 e.st 1 = e.st + 1 := or_one_u64 hrng.1 (by omega) (by rw [st_tk, htk]; rfl)
 simp (maxSteps := 2000000) -implicitDefEqProofs (disch := (first | omega | rfl | assumption | (simp only [rsD]; first | omega | assumption))) only [hb2, at1 (hcells (q4.head.trans p4.head)), e5, Nat.reduceAdd, Nat.reduceMul, Nat.reduceLT, Int.reduceToNat, Int.reduceAdd, Int.reduceSub, Int.reduceMul, rsU, rsC]
 have hr2 := q3.r
 have hw2 := q3.w
 refine Ok.step (writeX q2 ⟨by omega, by omega⟩ (q3.words (p3.words h.now)) (at_ := (P : Int)) (x := e.st + 1) (by omega) (by omega)) fun q ⟨m1, M3, m2, m3, m4⟩ => ?_
 obtain ⟨q, J3⟩ := q
 simp only at m1 m2 m4
 subst m1
 have hb3 : J3.blk pb = _ := m4.head.trans hb2
 rw [Int.toNat_natCast] at m3
 simp (maxSteps := 2000000) -implicitDefEqProofs (disch := (first | omega | rfl | assumption | (simp only [rsD]; first | omega | assumption))) only [hb3, at0 (hcells (m4.head.trans (q4.head.trans p4.head))), Nat.reduceAdd, Nat.reduceMul, Nat.reduceLT, Int.reduceToNat, Int.reduceAdd, Int.reduceSub, Int.reduceMul, rsU, rsC]
 have hr3 := m3.r
 have hw3 := m3.w
 refine Ok.step (zeroX m2 ⟨by omega, by omega⟩ (m3.words (q3.words (p3.words h.now))) (at_ := ((P + 1 : Nat) : Int)) (n := (S.words : Int)) (by omega) (by omega) (by rw [List.length_set]; omega)) fun q ⟨n1, M4, n2, n3, n4⟩ => ?_
 obtain ⟨q, J4⟩ := q
 simp only at n1 n2 n4
 subst n1
 have hb4 : J4.blk pb = _ := n4.head.trans hb3
 have hlt4 := n2.lt pb List.mem_cons_self
 rw [Int.toNat_natCast, Int.toNat_natCast] at n3
 have hr4' := n3.r
 have hw4 := n3.w
 simp (maxSteps := 2000000) -implicitDefEqProofs (disch := (first | omega | rfl | assumption | (simp only [rsD]; first | omega | assumption))) only [hb4, Nat.reduceAdd, Nat.reduceMul, Nat.reduceLT, Int.reduceToNat, Int.reduceAdd, Int.reduceSub, Int.reduceMul, rsU, rsC]
 rw [hfin] at n3
 have hcn := cnt_set (p := fun x : PE => x.tk) (x := ⟨true, e.gen, List.replicate S.words 0⟩) he
 simp only [htk] at hcn
 refine Ok_some.2 ⟨rfl, M4, _, ⟨n2.put List.mem_cons_self _, s_bs.trans ?_, h.nx, n3.words (m3.words (q3.words (p3.words h.now))), ?_⟩, (((p3.trans q3).trans m3).trans n3).as rfl (by omega) (by omega), (((p4.tail.trans q4.tail).trans m4.tail).trans n4.tail).trans (Keep.put h.nx _)⟩
 ·simp [PoolS.cells]
 ·exact h.p.set he rfl (by simp) (h.p.gen e (List.mem_of_getElem? he)) (fchain_set hch' hni) (List.nodup_cons.1 hnd).2 (by rw [h.p.cnt]; simp at hcn; omega)
end
end Go.Abs.Tryz
namespace Go.Abs.Tryz
open Go Go.Abs
variable {O : Type}
theorem pool_bump_ext (J : AH O) (k : Nat) : Ext J (J.bump k) := (Ext.refl J).bump k
theorem pool_box_ext (J : AH O) (x : Blk O) : Ext J ((J.bump 1).put J.next x) := (pool_bump_ext J 1).put (Nat.le_refl _) x
def pwrong (S : PoolS) (e : PE) (k : Int) : Int := if e.tk = true then (if k < 0 ∨ k >= S.words then 32 else 0) else 4
section
variable {J : AH O} {pb mb : Nat} {M : MemS} {S : PoolS} {w : List Int} {X : List Nat} (h : PoolAt J pb mb M S w X) (hc : M.calm)
include h hc
theorem pcheck_ok {i : Nat} {e : PE} {k : Int} (he : S.E[i]? = some e) :
  Ok (qhn [.p (some (.n pb, 0)), .i .i64 ((i : Int) + 1), .i .i64 k] J) fun q => q.1 = .i .i64 (pwrong S e k) /\ ∃ M', PoolAt q.2 pb mb M' S w X /\ Wrt M M' S.id w 1 0 /\ Keep X J q.2 := by
 simp (maxSteps := 2000000) -implicitDefEqProofs (disch := (first | omega | rfl | assumption | (simp only [rsD]; first | omega | assumption))) only [qhn, qhm, Nat.reduceAdd, Nat.reduceMul, Nat.reduceLT, Int.reduceToNat, Int.reduceAdd, Int.reduceSub, Int.reduceMul, rsU, rsC]
 refine Ok.step (ptaken_ok h hc he) fun q ⟨p1, M1, p2, p3⟩ => ?_
 obtain ⟨q, J1⟩ := q
 simp only at p1 p2 p3
 subst p1
 have hb1 := p2.b
 simp only [PoolS.cells] at hb1
 cases ht : e.tk with
 | false =>
  have : pwrong S e k = 4 := by simp [pwrong, ht]
  rw [this]
  simp (maxSteps := 2000000) -implicitDefEqProofs (disch := (first | omega | rfl | assumption | (simp only [rsD]; first | omega | assumption))) only [Nat.reduceAdd, Nat.reduceMul, Nat.reduceLT, Int.reduceToNat, Int.reduceAdd, Int.reduceSub, Int.reduceMul, rsU, rsC]
  exact Ok_some.2 ⟨rfl, M1, p2, p3⟩
 | true =>
  by_cases c1 : k < 0
  ·have : pwrong S e k = 32 := by simp [pwrong, ht, c1]
   rw [this]
   simp (maxSteps := 2000000) -implicitDefEqProofs (disch := (first | omega | rfl | assumption | (simp only [rsD]; first | omega | assumption))) only [Nat.reduceAdd, Nat.reduceMul, Nat.reduceLT, Int.reduceToNat, Int.reduceAdd, Int.reduceSub, Int.reduceMul, rsU, rsC]
   exact Ok_some.2 ⟨rfl, M1, p2, p3⟩
  ·by_cases c2 : k >= S.words
   ·have : pwrong S e k = 32 := by simp [pwrong, ht, c2]
    rw [this]
    simp (maxSteps := 2000000) -implicitDefEqProofs (disch := (first | omega | rfl | assumption | (simp only [rsD]; first | omega | assumption))) only [hb1, Nat.reduceAdd, Nat.reduceMul, Nat.reduceLT, Int.reduceToNat, Int.reduceAdd, Int.reduceSub, Int.reduceMul, rsU, rsC]
    exact Ok_some.2 ⟨rfl, M1, p2, p3⟩
   ·have : pwrong S e k = 0 := by simp [pwrong, ht]; omega
    rw [this]
    simp (maxSteps := 2000000) -implicitDefEqProofs (disch := (first | omega | rfl | assumption | (simp only [rsD]; first | omega | assumption))) only [hb1, Nat.reduceAdd, Nat.reduceMul, Nat.reduceLT, Int.reduceToNat, Int.reduceAdd, Int.reduceSub, Int.reduceMul, rsU, rsC]
    exact Ok_some.2 ⟨rfl, M1, p2, p3⟩
theorem pget_ok {i : Nat} {e : PE} {k : Nat} (he : S.E[i]? = some e) (htk : e.tk = true) (hk : k < S.words) (hm : M.met.r + 100 < 85070591730234615865843651857942052864) :
  Ok (qjg [.p (some (.n pb, 0)), .i .i64 ((i : Int) + 1), .i .i64 (k : Int)] J) fun q => q.1 = .tup [.i .u64 (e.ws.getD k 0), .i .i64 0] /\ ∃ M', PoolAt q.2 pb mb M' S w X /\ Wrt M M' S.id w 2 0 /\ Keep X J q.2 := by
 have z : pwrong S e k = 0 := by simp [pwrong, htk]; omega
 have e0 : ((0 : Int) != 0) = false := rfl
 have hpos := h.p.pos he
 have hwl := h.wle
 have hw := h.p.words
 have hlen := h.p.len
 have hmd := h.p.made
 have hiE := (List.getElem?_eq_some_iff.1 he).1
 have h3 : S.room * 1 <= S.room * (S.words + 1) := Nat.mul_le_mul_left _ (by omega)
 have hl := h.p.at he hk
 have hwl1 := h.p.wl e (List.mem_of_getElem? he)
 have hx := List.getElem?_eq_getElem (show k < e.ws.length by omega)
 rw [hx] at hl
 simp (maxSteps := 2000000) -implicitDefEqProofs (disch := (first | omega | rfl | assumption | (simp only [rsD]; first | omega | assumption))) only [qjg, qjf, Nat.reduceAdd, Nat.reduceMul, Nat.reduceLT, Int.reduceToNat, Int.reduceAdd, Int.reduceSub, Int.reduceMul, rsU, rsC]
 refine Ok.step (pcheck_ok h hc (k := (k : Int)) he) fun q ⟨p1, M1, p2, p3, p4⟩ => ?_
 obtain ⟨q, J1⟩ := q
 simp only at p1 p2 p4
 rw [z] at p1
 subst p1
 have hb1 := p2.b
 simp only [PoolS.cells] at hb1
 have pa := pat_ok p2 (i := i) (k := (k : Int)) (by omega) (by omega) ⟨by omega, by omega⟩
 have t0 : ((i * (S.words + 1) : Nat) : Int) + 1 + (k : Int) = ((i * (S.words + 1) + 1 + k : Nat) : Int) := by omega
 rw [t0] at pa
 generalize i * (S.words + 1) = P at *
 have hr1 := p3.r
 have hw1 := p3.w
 simp (maxSteps := 2000000) -implicitDefEqProofs (disch := (first | omega | rfl | assumption | (simp only [rsD]; first | omega | assumption))) only [e0, hb1, pa, Nat.reduceAdd, Nat.reduceMul, Nat.reduceLT, Int.reduceToNat, Int.reduceAdd, Int.reduceSub, Int.reduceMul, rsU, rsC]
 refine Ok.step (readX p2.mi ⟨by omega, by have := hc.w; omega⟩ p2.now (at_ := ((P + 1 + k : Nat) : Int)) (by omega) (by omega)) fun q ⟨q1, M2, q2, q3, q4⟩ => ?_
 obtain ⟨q, J2⟩ := q
 simp only at q1 q2 q4
 rw [Int.toNat_natCast, List.getD_eq_getElem?_getD, hl] at q1
 simp only [Option.getD_some] at q1
 subst q1
 simp (maxSteps := 2000000) -implicitDefEqProofs (disch := (first | omega | rfl | assumption | (simp only [rsD]; first | omega | assumption))) only [Nat.reduceAdd, Nat.reduceMul, Nat.reduceLT, Int.reduceToNat, Int.reduceAdd, Int.reduceSub, Int.reduceMul, rsU, rsC]
 refine Ok_some.2 ⟨?_, M2, { p2 with mi := q2, b := q4.head.trans p2.b, now := q3.words p2.now }, (p3.trans q3).as rfl (by omega) (by omega), p4.trans q4.tail⟩
 rw [List.getD_eq_getElem?_getD, hx]; rfl
theorem pset_ok {i : Nat} {e : PE} {k : Nat} {x : Int} (he : S.E[i]? = some e) (htk : e.tk = true) (hk : k < S.words) (hm : M.met.r + 100 < 85070591730234615865843651857942052864) :
  Ok (qhs [.p (some (.n pb, 0)), .i .i64 ((i : Int) + 1), .i .i64 (k : Int), .i .u64 x] J) fun q => q.1 = .i .i64 0 /\ ∃ M' w', PoolAt q.2 pb mb M' { S with E := S.E.set i { e with ws := e.ws.set k x } } w' X /\ Wrt M M' S.id w' 1 1 /\ Keep X J q.2 := by
 have z : pwrong S e k = 0 := by simp [pwrong, htk]; omega
 have e0 : ((0 : Int) != 0) = false := rfl
 have hpos := h.p.pos he
 have hwl := h.wle
 have hw := h.p.words
 have hlen := h.p.len
 have hmd := h.p.made
 have hiE := (List.getElem?_eq_some_iff.1 he).1
 have h3 : S.room * 1 <= S.room * (S.words + 1) := Nat.mul_le_mul_left _ (by omega)
 have hwl1 := h.p.wl e (List.mem_of_getElem? he)
 have hlay := h.p.lay
 have hni : ∀ j ∈ S.free, j ≠ i + 1 := fun j hj e1 => by
  obtain ⟨e2, h1, h2, h3⟩ := fchain_tk h.p.ch _ hj
  rw [e1, Nat.add_sub_cancel, he] at h2
  cases h2; rw [htk] at h3; cases h3
 have hcn := cnt_set (p := fun x : PE => x.tk) (x := { e with ws := e.ws.set k x }) he
 simp only [htk] at hcn
 have hfin : w.set (i * (S.words + 1) + 1 + k) x = (S.E.set i { e with ws := e.ws.set k x }).flatMap PE.enc ++ List.replicate ((S.room - S.E.length) * (S.words + 1)) 0 := by
  have s1 := fl_put h.p.el he (j := k + 1) (by omega) (List.replicate ((S.room - S.E.length) * (S.words + 1)) 0) (x := x) (y := { e with ws := e.ws.set k x }) (by simp [PE.enc, PE.st])
  rw [<- hlay] at s1
  rw [show i * (S.words + 1) + 1 + k = i * (S.words + 1) + (k + 1) by omega]; exact s1
 simp (maxSteps := 2000000) -implicitDefEqProofs (disch := (first | omega | rfl | assumption | (simp only [rsD]; first | omega | assumption))) only [qhs, qhr, Nat.reduceAdd, Nat.reduceMul, Nat.reduceLT, Int.reduceToNat, Int.reduceAdd, Int.reduceSub, Int.reduceMul, rsU, rsC]
 refine Ok.step (pcheck_ok h hc (k := (k : Int)) he) fun q ⟨p1, M1, p2, p3, p4⟩ => ?_
 obtain ⟨q, J1⟩ := q
 simp only at p1 p2 p4
 rw [z] at p1
 subst p1
 have hb1 := p2.b
 simp only [PoolS.cells] at hb1
 have pa := pat_ok p2 (i := i) (k := (k : Int)) (by omega) (by omega) ⟨by omega, by omega⟩
 have t0 : ((i * (S.words + 1) : Nat) : Int) + 1 + (k : Int) = ((i * (S.words + 1) + 1 + k : Nat) : Int) := by omega
 rw [t0] at pa
 generalize i * (S.words + 1) = P at *
 have hr1 := p3.r
 have hw1 := p3.w
 simp (maxSteps := 2000000) -implicitDefEqProofs (disch := (first | omega | rfl | assumption | (simp only [rsD]; first | omega | assumption))) only [e0, hb1, pa, Nat.reduceAdd, Nat.reduceMul, Nat.reduceLT, Int.reduceToNat, Int.reduceAdd, Int.reduceSub, Int.reduceMul, rsU, rsC]
 refine Ok.step (writeX p2.mi ⟨by omega, by have := hc.w; omega⟩ p2.now (at_ := ((P + 1 + k : Nat) : Int)) (x := x) (by omega) (by omega)) fun q ⟨q1, M2, q2, q3, q4⟩ => ?_
 obtain ⟨q, J2⟩ := q
 simp only at q1 q2 q4
 subst q1
 rw [Int.toNat_natCast, hfin] at q3
 simp (maxSteps := 2000000) -implicitDefEqProofs (disch := (first | omega | rfl | assumption | (simp only [rsD]; first | omega | assumption))) only [Nat.reduceAdd, Nat.reduceMul, Nat.reduceLT, Int.reduceToNat, Int.reduceAdd, Int.reduceSub, Int.reduceMul, rsU, rsC]
 refine Ok_some.2 ⟨rfl, M2, _, ⟨q2, (q4.head.trans p2.b).trans ?_, h.nx, q3.words p2.now, ?_⟩, (p3.trans q3).as rfl (by omega) (by omega), p4.trans q4.tail⟩
 ·simp [PoolS.cells]
 ·exact h.p.set (free' := S.free) (taken' := S.taken) he rfl (by simp [hwl1]) (h.p.gen e (List.mem_of_getElem? he)) (fchain_set h.p.ch hni) h.p.nd (by rw [h.p.cnt]; simp [htk] at hcn ⊢; omega)
end
theorem pnew_ok {J : AH O} {mb : Nat} {M : MemS} {X : List Nat} {n : Nat} (h : MemIn J mb M X) (hc : M.calm) (hcnt : M.count < 262144) (hn : 1 <= n /\ n <= 60) :
  Ok (qca [.p (some (.n mb, 0)), .i .i64 (n : Int)] J) fun r => ∃ pb, r.1 = .tup [.p (some (.n pb, 0)), .i .i64 0] /\ PoolAt r.2 pb mb (M.opn (ff M.sp) 0) ⟨ff M.sp, n, 0, [], [], 0⟩ [] X /\ J.next <= pb /\ Keep X J r.2 := by
 simp (maxSteps := 2000000) -implicitDefEqProofs (disch := (first | omega | rfl | assumption | (simp only [rsD]; first | omega | assumption))) only [qca, qb9, Option.isNone_some, Nat.reduceAdd, Nat.reduceMul, Nat.reduceLT, Int.reduceToNat, Int.reduceAdd, Int.reduceSub, Int.reduceMul, rsU, rsC]
 refine Ok.step (openX h hc (n := 0) (by decide) (by decide) hcnt) fun r ⟨p1, p2, p3⟩ => ?_
 obtain ⟨q, J1⟩ := r
 simp only at p1 p2 p3
 subst p1
 have e0 : ((0 : Int) != 0) = false := rfl
 simp (maxSteps := 2000000) -implicitDefEqProofs (disch := (first | omega | rfl | assumption | (simp only [rsD]; first | omega | assumption))) only [e0, Nat.reduceAdd, Nat.reduceMul, Nat.reduceLT, Int.reduceToNat, Int.reduceAdd, Int.reduceSub, Int.reduceMul, rsU, rsC]
 refine Ok_some.2 ⟨J1.next, rfl, ⟨p2.new (pool_box_ext _ _) (Nat.le_refl _) (by simp), s_bs, fun hm => by have := p2.lt _ hm; omega, opn_words, hn, by simp, Nat.le_refl _, .inl rfl, by simp, trivial, by simp, rfl, by simp⟩, p3.next, p3.trans (p2.keepExt (pool_box_ext _ _))⟩
end Go.Abs.Tryz
namespace Go.Abs.Tryz
open Go Go.Abs
variable {O : Type}
structure Took (S S' : PoolS) (i g : Nat) : Prop where
 id : S'.id = S.id
 words : S'.words = S.words
 now : S'.E[i]? = some ⟨true, g, List.replicate S.words 0⟩
 other : ∀ j, j ≠ i -> S'.E[j]? = S.E[j]?
 was : ∀ e, S.E[i]? = some e -> e.tk = false /\ e.gen = g
 new : S.E[i]? = none -> g = 0
 len : S.E.length <= S'.E.length /\ S'.E.length <= S.E.length + 1
 taken : S'.taken = S.taken + 1
 room : S'.room = S.room ∨ S'.room = S.more
 head : ∀ j r, S.free = (j + 1) :: r -> i = j
 fr : S.free = [] /\ i = S.E.length /\ S'.free = [] /\ S'.room = S.more /\ S'.E.length = S.E.length + 1 ∨ S.free = (i + 1) :: S'.free /\ S'.room = S.room /\ S'.E.length = S.E.length
theorem PoolAt.turn {J J' : AH O} {pb mb : Nat} {M : MemS} {S : PoolS} {w : List Int} {X Y L : List Nat} (h : PoolAt J pb mb M S w X) (hc : Chg L J J') (hl : ∀ b ∈ L, b ∈ X ∨ J.next <= b) (hY : ∀ b ∈ Y, b ∈ X ∨ (J.next <= b /\ b < J'.next)) : PoolAt J' pb mb M S w Y := by
 have hlt := h.lt
 refine { h with mi := h.mi.turn hc (fun b hb => (hl b hb).imp (List.mem_cons_of_mem _) fun g => g) fun b hb => ?_, b := (hc.blk pb h.lt fun hm => ?_).trans h.b, nx := fun hm => ?_ }
 ·rcases List.mem_cons.1 hb with rfl | hb
  ·exact .inl List.mem_cons_self
  ·exact (hY b hb).imp (List.mem_cons_of_mem _) fun g => g
 ·rcases hl pb hm with g | g
  ·exact h.nx g
  ·omega
 ·rcases hY pb hm with g | g
  ·exact h.nx g
  ·omega
end Go.Abs.Tryz
namespace Go.Abs.Tryz
open Go Go.Abs
variable {O : Type}
def nid (C : List Nat) (j : Nat) : Nat := match C[j + 1]? with | some i => i + 1 | none => 0
def pid (C : List Nat) (j : Nat) : Nat := match j with | 0 => 0 | j + 1 => (match C[j]? with | some i => i + 1 | none => 0)
def hdI (C : List Nat) : Nat := match C with | [] => 0 | i :: _ => i + 1
def tlI (C : List Nat) : Nat := match C.getLast? with | none => 0 | some i => i + 1
structure LinkE (e : PE) (nx pv : Nat) (n p : Nat) : Prop where
 tk : e.tk = true
 n : e.ws[nx]? = some (n : Int)
 p : e.ws[pv]? = some (p : Int)
structure Linked (E : List PE) (nx pv : Nat) (C : List Nat) : Prop where
 nd : C.Nodup
 at_ : ∀ j i, C[j]? = some i -> ∃ e, E[i]? = some e /\ LinkE e nx pv (nid C j) (pid C j)
theorem Linked.nil (E : List PE) (nx pv : Nat) : Linked E nx pv [] := ⟨by simp, fun j i h => by simp at h⟩
theorem nid_lt {C : List Nat} {j : Nat} (h : nid C j ≠ 0) : j + 1 < C.length := by
 unfold nid at h
 split at h
 ·rename_i i hi; exact (List.getElem?_eq_some_iff.1 hi).1
 ·exact absurd rfl h
theorem nid_some {C : List Nat} {j i : Nat} (h : C[j + 1]? = some i) : nid C j = i + 1 := by unfold nid; rw [h]
theorem nid_none {C : List Nat} {j : Nat} (h : C.length <= j + 1) : nid C j = 0 := by unfold nid; rw [List.getElem?_eq_none h]
theorem pid_some {C : List Nat} {j i : Nat} (h : C[j]? = some i) : pid C (j + 1) = i + 1 := by unfold pid; simp only [h]
theorem tl_snoc (C : List Nat) (i : Nat) : tlI (C ++ [i]) = i + 1 := by simp [tlI]
theorem tl_pid {C : List Nat} : tlI C = pid C C.length := by
 cases h : C.length with
 | zero => have : C = [] := List.eq_nil_of_length_eq_zero h; subst this; rfl
 | succ n =>
  unfold tlI pid
  rw [List.getLast?_eq_getElem?, h, Nat.add_sub_cancel]
  have : n < C.length := by omega
  simp only [List.getElem?_eq_getElem this]
theorem nodup_at {C : List Nat} (h : C.Nodup) {j k i : Nat} (hj : C[j]? = some i) (hk : C[k]? = some i) : j = k := by
 exact (List.getElem?_inj (List.getElem?_eq_some_iff.1 hj).1 h).1 (hj.trans hk.symm)
theorem Linked.other {E E' : List PE} {nx pv : Nat} {C : List Nat} (h : Linked E nx pv C) (he : ∀ i ∈ C, E'[i]? = E[i]?) : Linked E' nx pv C :=
 ⟨h.nd, fun j i hj => by rw [he i (List.mem_of_getElem? hj)]; exact h.at_ j i hj⟩
theorem Linked.words {E : List PE} {nx pv : Nat} {C : List Nat} (h : Linked E nx pv C) {i k : Nat} {e : PE} {x : Int} (he : E[i]? = some e) (h1 : k ≠ nx) (h2 : k ≠ pv) : Linked (E.set i { e with ws := e.ws.set k x }) nx pv C := by
 have hi := (List.getElem?_eq_some_iff.1 he).1
 refine ⟨h.nd, fun j i' hj => ?_⟩
 obtain ⟨y, g1, g2⟩ := h.at_ j i' hj
 rw [List.getElem?_set]
 by_cases c : i = i'
 ·subst c
  rw [he] at g1; cases g1
  exact ⟨{ e with ws := e.ws.set k x }, by rw [if_pos rfl, if_pos hi], ⟨g2.tk, by rw [List.getElem?_set, if_neg h1]; exact g2.n, by rw [List.getElem?_set, if_neg h2]; exact g2.p⟩⟩
 ·rw [if_neg c]; exact ⟨y, g1, g2⟩
theorem Linked.push {E E1 E2 : List PE} {nx pv : Nat} {C : List Nat} (h : Linked E nx pv C) {i : Nat} (hi : i ∉ C) {e : PE} (hne : nx ≠ pv) (he : E1[i]? = some e) (hl : LinkE e nx pv 0 (tlI C)) (h1 : ∀ j, j ≠ i -> E1[j]? = E[j]?)
  (h2 : ∀ j, C.getLast? ≠ some j -> E2[j]? = E1[j]?) (h3 : ∀ t x, C.getLast? = some t -> E1[t]? = some x -> E2[t]? = some { x with ws := x.ws.set nx ((i : Int) + 1) }) : Linked E2 nx pv (C ++ [i]) := by
 have hnd : (C ++ [i]).Nodup := by
  rw [List.nodup_append]
  exact ⟨h.nd, by simp, fun a ha b hb e => by simp at hb; subst hb; subst e; exact hi ha⟩
 refine ⟨hnd, fun j k hj => ?_⟩
 rcases Nat.lt_or_ge j C.length with g | g
 ·rw [List.getElem?_append_left g] at hj
  obtain ⟨y, k1, k2⟩ := h.at_ j k hj
  have hki : k ≠ i := fun e => hi (e ▸ List.mem_of_getElem? hj)
  rw [<- h1 k hki] at k1
  have hp : pid (C ++ [i]) j = pid C j := by
   unfold pid
   cases j with
   | zero => rfl
   | succ j => simp only; rw [List.getElem?_append_left (by omega)]
  by_cases c : j + 1 = C.length
  ·have hlast : C.getLast? = some k := by
    rw [List.getLast?_eq_getElem?, show C.length - 1 = j by omega]; exact hj
   have hn : nid (C ++ [i]) j = i + 1 := nid_some (by rw [List.getElem?_append_right (by omega), c, Nat.sub_self]; rfl)
   have hw : nx < y.ws.length := (List.getElem?_eq_some_iff.1 k2.n).1
   refine ⟨_, h3 k y hlast k1, k2.tk, ?_, ?_⟩
   ·rw [hn, List.getElem?_set]; simp [hw]
   ·rw [hp, List.getElem?_set, if_neg hne]; exact k2.p
  ·have hn : nid (C ++ [i]) j = nid C j := by
    unfold nid; rw [List.getElem?_append_left (by omega)]
   have hlast : C.getLast? ≠ some k := fun e => by
    rw [List.getLast?_eq_getElem?] at e
    have := nodup_at h.nd hj e
    omega
   rw [h2 k hlast]
   exact ⟨y, k1, by rw [hn, hp]; exact k2⟩
 ·have hjl : j = C.length := by
   have := (List.getElem?_eq_some_iff.1 hj).1
   simp at this; omega
  subst hjl
  rw [List.getElem?_append_right (Nat.le_refl _), Nat.sub_self] at hj
  simp at hj
  subst hj
  have hlast : C.getLast? ≠ some i := fun e => hi (List.mem_of_getLast? e)
  rw [h2 i hlast]
  have hn : nid (C ++ [i]) C.length = 0 := nid_none (by simp)
  have hp : pid (C ++ [i]) C.length = tlI C := by
   rw [tl_pid]
   unfold pid
   split
   ·rfl
   ·rename_i n h0
    rw [List.getElem?_append_left (by omega)]
  exact ⟨e, he, by rw [hn, hp]; exact hl⟩
theorem Linked.drop {E E2 : List PE} {nx pv : Nat} {C : List Nat} (h : Linked E nx pv C) {d i : Nat} (hd : C[d]? = some i) (hne : nx ≠ pv)
  (h1 : ∀ j, (∀ d', d = d' + 1 -> C[d']? ≠ some j) -> C[d + 1]? ≠ some j -> E2[j]? = E[j]?)
  (h2 : ∀ d' j x, d = d' + 1 -> C[d']? = some j -> E[j]? = some x -> E2[j]? = some { x with ws := x.ws.set nx (nid C d : Int) })
  (h3 : ∀ j x, C[d + 1]? = some j -> E[j]? = some x -> E2[j]? = some { x with ws := x.ws.set pv (pid C d : Int) }) : Linked E2 nx pv (C.eraseIdx d) := by
 have hdl := (List.getElem?_eq_some_iff.1 hd).1
 have get : ∀ j, (C.eraseIdx d)[j]? = if j < d then C[j]? else C[j + 1]? := fun j => List.getElem?_eraseIdx
 refine ⟨h.nd.sublist (List.eraseIdx_sublist _ _), fun j k hj => ?_⟩
 rw [get] at hj
 split at hj
 ·rename_i hjd
  obtain ⟨y, k1, k2⟩ := h.at_ j k hj
  have hp : pid (C.eraseIdx d) j = pid C j := by
   unfold pid
   cases j with
   | zero => rfl
   | succ j => simp only [get]; rw [if_pos (by omega)]
  have hnx : C[d + 1]? ≠ some k := fun e => by have := nodup_at h.nd hj e; omega
  by_cases c : d = j + 1
  ·have hn : nid (C.eraseIdx d) j = nid C d := by
    unfold nid; rw [get, if_neg (by omega), c]
   have hw : nx < y.ws.length := (List.getElem?_eq_some_iff.1 k2.n).1
   refine ⟨_, h2 j k y c hj k1, k2.tk, ?_, ?_⟩
   ·rw [hn, List.getElem?_set]; simp [hw]
   ·rw [hp, List.getElem?_set, if_neg hne]; exact k2.p
  ·have hn : nid (C.eraseIdx d) j = nid C j := by
    unfold nid; rw [get, if_pos (by omega)]
   have hpv : ∀ d', d = d' + 1 -> C[d']? ≠ some k := fun d' e1 e2 => by have := nodup_at h.nd hj e2; omega
   rw [h1 k hpv hnx]
   exact ⟨y, k1, by rw [hn, hp]; exact k2⟩
 ·rename_i hjd
  obtain ⟨y, k1, k2⟩ := h.at_ (j + 1) k hj
  have hn : nid (C.eraseIdx d) j = nid C (j + 1) := by
   unfold nid; rw [get, if_neg (by omega)]
  have hpv : ∀ d', d = d' + 1 -> C[d']? ≠ some k := fun d' e1 e2 => by have := nodup_at h.nd hj e2; omega
  by_cases c : j = d
  ·subst c
   have hp : pid (C.eraseIdx j) j = pid C j := by
    unfold pid
    cases j with
    | zero => rfl
    | succ j => simp only [get]; rw [if_pos (by omega)]
   have hw : pv < y.ws.length := (List.getElem?_eq_some_iff.1 k2.p).1
   refine ⟨_, h3 k y hj k1, k2.tk, ?_, ?_⟩
   ·rw [hn, List.getElem?_set, if_neg (fun e => hne e.symm)]; exact k2.n
   ·rw [hp, List.getElem?_set]; simp [hw]
  ·have hp : pid (C.eraseIdx d) j = pid C (j + 1) := by
    unfold pid
    cases j with
    | zero => omega
    | succ j => simp only [get]; rw [if_neg (by omega)]
   have hnx : C[d + 1]? ≠ some k := fun e => by have := nodup_at h.nd hj e; omega
   rw [h1 k hpv hnx]
   exact ⟨y, k1, by rw [hn, hp]; exact k2⟩
theorem hd_drop {C : List Nat} {d i : Nat} (hd : C[d]? = some i) : hdI (C.eraseIdx d) = if pid C d = 0 then nid C d else hdI C := by
 cases C with
 | nil => simp at hd
 | cons c C =>
  cases d with
  | zero =>
   show hdI C = if (0 : Nat) = 0 then nid (c :: C) 0 else hdI (c :: C)
   rw [if_pos rfl]
   unfold nid hdI
   cases C <;> rfl
  | succ d =>
   have : pid (c :: C) (d + 1) ≠ 0 := by
    have hl := (List.getElem?_eq_some_iff.1 hd).1
    unfold pid
    simp only
    rw [List.getElem?_eq_getElem (show d < (c :: C).length by omega)]; simp
   rw [if_neg this]; rfl
theorem tl_drop {C : List Nat} {d i : Nat} (hd : C[d]? = some i) : tlI (C.eraseIdx d) = if nid C d = 0 then pid C d else tlI C := by
 have hl := (List.getElem?_eq_some_iff.1 hd).1
 have hlen : (C.eraseIdx d).length = C.length - 1 := by rw [List.length_eraseIdx, if_pos hl]
 rw [tl_pid, hlen, tl_pid]
 by_cases c : d + 1 = C.length
 ·rw [if_pos (nid_none (by omega)), show C.length - 1 = d by omega]
  unfold pid
  cases d with
  | zero => rfl
  | succ d => simp only [List.getElem?_eraseIdx]; rw [if_pos (by omega)]
 ·have : nid C d ≠ 0 := by
   unfold nid
   rw [List.getElem?_eq_getElem (show d + 1 < C.length by omega)]; simp
  rw [if_neg this]
  obtain ⟨m, hm⟩ : ∃ m, C.length = m + 2 := ⟨C.length - 2, by omega⟩
  rw [hm, show m + 2 - 1 = m + 1 by omega]
  unfold pid
  simp only [List.getElem?_eraseIdx]
  rw [if_neg (by omega)]
end Go.Abs.Tryz
namespace Go.Abs.Tryz
open Go Go.Abs
variable {O : Type}
theorem boxed {J J1 : AH O} {el : TypeId} {cs : List AV} (h : (J.bump 1).put J.next (.cells true el cs) = J1) : Ext J J1 /\ J1.blk J.next = some (.cells true el cs) /\ J1.next = J.next + 1 := by
 subst h
 exact ⟨pool_box_ext _ _, s_bs, rfl⟩
def tbl (S : PoolS) (mb nx pv : Nat) : AV := .agg [.p (some (.n mb, 0)), .i .i64 S.id, .i .i64 ((S.words : Int) + 1), .i .i64 ((nx : Int) + 1), .i .i64 ((pv : Int) + 1)]
theorem tright_ok {J : AH O} {mb : Nat} {id W a b : Int} (hW : 2 <= W /\ W <= 64) (ha : 0 <= a /\ a < W) (hb : 0 <= b /\ b < W) (hne : a ≠ b) :
  Ok (qic [.agg [.p (some (.n mb, 0)), .i .i64 id, .i .i64 W, .i .i64 a, .i .i64 b]] J) fun r => r.1 = .b true /\ Ext J r.2 := by
 have e1 : (a != b) = true := by simp [hne]
 have e2 : (a == b) = false := by simp [hne]
 simp (maxSteps := 2000000) -implicitDefEqProofs (disch := (first | omega | rfl | assumption | (simp only [rsD]; first | omega | assumption))) only [qic, qib, qh7, qh6, Option.isNone_some, e1, e2, Nat.reduceAdd, Nat.reduceMul, Nat.reduceLT, Int.reduceToNat, Int.reduceAdd, Int.reduceSub, Int.reduceMul, rsU, rsC]
 exact Ok_some.2 ⟨rfl, pool_box_ext _ _⟩
theorem PoolP.poke {S : PoolS} {w : List Int} (h : PoolP S w) {i k : Nat} {e : PE} {x : Int} (he : S.E[i]? = some e) (htk : e.tk = true) (hk : k < S.words) :
  PoolP { S with E := S.E.set i { e with ws := e.ws.set k x } } (w.set (i * (S.words + 1) + 1 + k) x) := by
 have hni : ∀ j ∈ S.free, j ≠ i + 1 := fun j hj e1 => by
  obtain ⟨e2, h1, h2, h3⟩ := fchain_tk h.ch _ hj
  rw [e1, Nat.add_sub_cancel, he] at h2
  cases h2; rw [htk] at h3; cases h3
 have hcn := cnt_set (p := fun x : PE => x.tk) (x := { e with ws := e.ws.set k x }) he
 simp only [htk] at hcn
 refine h.set (free' := S.free) (taken' := S.taken) he ?_ (by simp [h.wl e (List.mem_of_getElem? he)]) (h.gen e (List.mem_of_getElem? he)) (fchain_set h.ch hni) h.nd (by rw [h.cnt]; simp [htk] at hcn ⊢; omega)
 have s1 := fl_put h.el he (j := k + 1) (by omega) (List.replicate ((S.room - S.E.length) * (S.words + 1)) 0) (x := x) (y := { e with ws := e.ws.set k x }) (by simp [PE.enc, PE.st])
 rw [<- h.lay] at s1
 rw [show i * (S.words + 1) + 1 + k = i * (S.words + 1) + (k + 1) by omega]; exact s1
section
variable {J : AH O} {pb mb : Nat} {M : MemS} {S : PoolS} {w : List Int} {X : List Nat} (h : PoolAt J pb mb M S w X) {nx pv : Nat} (h1 : nx < S.words) (h2 : pv < S.words) (hne : nx ≠ pv)
include h h1 h2
theorem ptable_ok : Ok (qhx [.p (some (.n pb, 0)), .i .i64 (nx : Int), .i .i64 (pv : Int)] J) fun r => r.1 = tbl S mb nx pv /\ Ext J r.2 := by
 have hb := h.b
 simp only [PoolS.cells] at hb
 have hw := h.p.words
 have hlt := h.lt
 simp (maxSteps := 2000000) -implicitDefEqProofs (disch := (first | omega | rfl | assumption | (simp only [rsD]; first | omega | assumption))) only [qhx, qhw, hb, Nat.reduceAdd, Nat.reduceMul, Nat.reduceLT, Int.reduceToNat, Int.reduceAdd, Int.reduceSub, Int.reduceMul, rsU, rsC]
 generalize hJ : (J.bump 1).put J.next (.cells true _ _) = J1
 obtain ⟨E1, b1, n1⟩ := boxed hJ
 clear hJ
 have wd := pwidth_ok (h.ext E1)
 have hb1 := (h.ext E1).b
 simp only [PoolS.cells] at hb1
 simp (maxSteps := 2000000) -implicitDefEqProofs (disch := (first | omega | rfl | assumption | (simp only [rsD]; first | omega | assumption))) only [wd, hb1, b1, Nat.reduceAdd, Nat.reduceMul, Nat.reduceLT, Int.reduceToNat, Int.reduceAdd, Int.reduceSub, Int.reduceMul, rsU, rsC]
 exact Ok_some.2 ⟨rfl, E1.put (Nat.le_refl _) _⟩
include hne
theorem tentries_ok : Ok (qim [tbl S mb nx pv] J) fun r => r.1 = .i .i64 (S.room : Int) /\ Ext J r.2 := by
 have hw := h.p.words
 have hlen := h.p.len
 have hwl := h.wle
 unfold tbl
 simp (maxSteps := 2000000) -implicitDefEqProofs (disch := (first | omega | rfl | assumption | (simp only [rsD]; first | omega | assumption))) only [qim, qil, Nat.reduceAdd, Nat.reduceMul, Nat.reduceLT, Int.reduceToNat, Int.reduceAdd, Int.reduceSub, Int.reduceMul, rsU, rsC]
 generalize hJ : (J.bump 1).put J.next (.cells true _ _) = J1
 obtain ⟨E1, b1, n1⟩ := boxed hJ
 clear hJ
 refine Ok.step (tright_ok (by omega) (by omega) (by omega) (by omega)) fun r ⟨g1, g2⟩ => ?_
 obtain ⟨q, J2⟩ := r
 simp only at g1 g2
 subst g1
 have b2 : J2.blk J.next = _ := (g2.blk _ (by omega)).trans b1
 have E2 := E1.trans g2
 have sz := sizeX (h.ext E2).mi (h.ext E2).now
 have ez : ((S.words : Int) + 1 == 0) = false := beq_eq_false_iff_ne.2 (by omega)
 have ed : Int.tdiv (w.length : Int) ((S.words : Int) + 1) = S.room := by
  rw [hlen, show ((S.room * (S.words + 1) : Nat) : Int) = (S.room : Int) * ((S.words : Int) + 1) by simp]
  exact Int.mul_tdiv_cancel _ (by omega)
 have h3 : S.room * 1 <= S.room * (S.words + 1) := Nat.mul_le_mul_left _ (by omega)
 simp (maxSteps := 2000000) -implicitDefEqProofs (disch := (first | omega | rfl | assumption | (simp only [rsD]; first | omega | assumption))) only [b2, sz, ez, ed, Nat.reduceAdd, Nat.reduceMul, Nat.reduceLT, Int.reduceToNat, Int.reduceAdd, Int.reduceSub, Int.reduceMul, rsU, rsC]
 exact Ok_some.2 ⟨rfl, E2⟩
theorem tcheck_ok {i : Nat} (hi : i < S.room) : Ok (qir [tbl S mb nx pv, .i .i64 ((i : Int) + 1)] J) fun r => r.1 = .i .i64 0 /\ Ext J r.2 := by
 have hw := h.p.words
 unfold tbl
 simp (maxSteps := 2000000) -implicitDefEqProofs (disch := (first | omega | rfl | assumption | (simp only [rsD]; first | omega | assumption))) only [qir, qiq, Nat.reduceAdd, Nat.reduceMul, Nat.reduceLT, Int.reduceToNat, Int.reduceAdd, Int.reduceSub, Int.reduceMul, rsU, rsC]
 generalize hJ : (J.bump 1).put J.next (.cells true _ _) = J1
 obtain ⟨E1, b1, n1⟩ := boxed hJ
 clear hJ
 refine Ok.step (tright_ok (by omega) (by omega) (by omega) (by omega)) fun r ⟨g1, g2⟩ => ?_
 obtain ⟨q, J2⟩ := r
 simp only at g1 g2
 subst g1
 have b2 : J2.blk J.next = _ := (g2.blk _ (by omega)).trans b1
 have E2 := E1.trans g2
 simp (maxSteps := 2000000) -implicitDefEqProofs (disch := (first | omega | rfl | assumption | (simp only [rsD]; first | omega | assumption))) only [b2, Nat.reduceAdd, Nat.reduceMul, Nat.reduceLT, Int.reduceToNat, Int.reduceAdd, Int.reduceSub, Int.reduceMul, rsU, rsC]
 have te := tentries_ok (h.ext E2) h1 h2 hne
 unfold tbl at te
 refine Ok.step te fun r ⟨g3, g4⟩ => ?_
 obtain ⟨q, J3⟩ := r
 simp only at g3 g4
 subst g3
 simp (maxSteps := 2000000) -implicitDefEqProofs (disch := (first | omega | rfl | assumption | (simp only [rsD]; first | omega | assumption))) only [Nat.reduceAdd, Nat.reduceMul, Nat.reduceLT, Int.reduceToNat, Int.reduceAdd, Int.reduceSub, Int.reduceMul, rsU, rsC]
 exact Ok_some.2 ⟨rfl, E2.trans g4⟩
end
theorem tat_ok {J : AH O} {S : PoolS} {mb nx pv i k : Nat} (hw : S.words <= 60) (hi : i * (S.words + 1) <= 4194304) (hi2 : i <= 4194304) (hk : k <= 100) : Ok (qiw [tbl S mb nx pv, .i .i64 ((i : Int) + 1), .i .i64 ((k : Int) + 1)] J) fun r => r.1 = .i .i64 ((i * (S.words + 1) + 1 + k : Nat) : Int) /\ Ext J r.2 := by
 have e1 : (i : Int) + 1 - 1 = i := by omega
 have e2 : (i : Int) * ((S.words : Int) + 1) = ((i * (S.words + 1) : Nat) : Int) := by simp
 have e3 : ((i * (S.words + 1) : Nat) : Int) + ((k : Int) + 1) = ((i * (S.words + 1) + 1 + k : Nat) : Int) := by omega
 unfold tbl
 generalize i * (S.words + 1) = P at *
 simp (maxSteps := 2000000) -implicitDefEqProofs (disch := (first | omega | rfl | assumption | (simp only [rsD]; first | omega | assumption))) only [qiw, qiv, e1, e2, e3, Nat.reduceAdd, Nat.reduceMul, Nat.reduceLT, Int.reduceToNat, Int.reduceAdd, Int.reduceSub, Int.reduceMul, rsU, rsC]
 exact Ok_some.2 ⟨rfl, pool_box_ext _ _⟩
section
variable {J : AH O} {pb mb : Nat} {M : MemS} {S : PoolS} {w : List Int} {X : List Nat} (h : PoolAt J pb mb M S w X) (hc : M.calm) {nx pv : Nat}
include h hc
theorem tset_ok {i k x : Nat} {e : PE} (he : S.E[i]? = some e) (htk : e.tk = true) (hk : k < S.words) (hx : x <= 4611686018427387904) :
  Ok (qi1 [tbl S mb nx pv, .i .i64 ((i : Int) + 1), .i .i64 ((k : Int) + 1), .i .i64 (x : Int)] J) fun r => r.1 = .tup [] /\ ∃ M' w', PoolAt r.2 pb mb M' { S with E := S.E.set i { e with ws := e.ws.set k (x : Int) } } w' X /\ Wrt M M' S.id w' 0 1 /\ Keep X J r.2 := by
 have hw := h.p.words
 have hpos := h.p.pos he
 have hwl := h.wle
 have hiE := (List.getElem?_eq_some_iff.1 he).1
 have hmd := h.p.made
 have hlen := h.p.len
 have h3 : S.room * 1 <= S.room * (S.words + 1) := Nat.mul_le_mul_left _ (by omega)
 have hpk := h.p.poke (x := (x : Int)) he htk hk
 simp (maxSteps := 2000000) -implicitDefEqProofs (disch := (first | omega | rfl | assumption | (simp only [rsD]; first | omega | assumption))) only [qi1, qi0, tbl, Nat.reduceAdd, Nat.reduceMul, Nat.reduceLT, Int.reduceToNat, Int.reduceAdd, Int.reduceSub, Int.reduceMul, rsU, rsC]
 generalize hJ : (J.bump 1).put J.next (.cells true _ _) = J1
 obtain ⟨E1, b1, n1⟩ := boxed hJ
 clear hJ
 have ta := tat_ok (J := J1) (S := S) (mb := mb) (nx := nx) (pv := pv) (i := i) (k := k) hw.2 (by omega) (by omega) (by omega)
 unfold tbl at ta
 refine Ok.step ta fun r ⟨g1, g2⟩ => ?_
 obtain ⟨q, J2⟩ := r
 simp only at g1 g2
 subst g1
 have b2 : J2.blk J.next = _ := (g2.blk _ (by omega)).trans b1
 have h2 := h.ext (E1.trans g2)
 generalize i * (S.words + 1) = P at *
 simp (maxSteps := 2000000) -implicitDefEqProofs (disch := (first | omega | rfl | assumption | (simp only [rsD]; first | omega | assumption))) only [b2, Nat.reduceAdd, Nat.reduceMul, Nat.reduceLT, Int.reduceToNat, Int.reduceAdd, Int.reduceSub, Int.reduceMul, rsU, rsC]
 refine Ok.step (writeX h2.mi hc h2.now (at_ := ((P + 1 + k : Nat) : Int)) (x := (x : Int)) (by omega) (by omega)) fun q ⟨q1, M2, q2, q3, q4⟩ => ?_
 obtain ⟨q, J3⟩ := q
 simp only at q1 q2 q4
 subst q1
 rw [Int.toNat_natCast] at q3
 simp (maxSteps := 2000000) -implicitDefEqProofs (disch := (first | omega | rfl | assumption | (simp only [rsD]; first | omega | assumption))) only [Nat.reduceAdd, Nat.reduceMul, Nat.reduceLT, Int.reduceToNat, Int.reduceAdd, Int.reduceSub, Int.reduceMul, rsU, rsC]
 refine Ok_some.2 ⟨rfl, M2, _, ⟨q2, (q4.head.trans h2.b).trans ?_, h.nx, q3.words h2.now, hpk⟩, q3, (h.mi.tail.keepExt (E1.trans g2)).trans q4.tail⟩
 simp [PoolS.cells]
theorem tget_ok {i k x : Nat} {e : PE} (he : S.E[i]? = some e) (hk : k < S.words) (hv : e.ws[k]? = some (x : Int)) (hx : x <= 4611686018427387904) :
  Ok (qqc [tbl S mb nx pv, .i .i64 ((i : Int) + 1), .i .i64 ((k : Int) + 1)] J) fun r => r.1 = .i .i64 (x : Int) /\ ∃ M', PoolAt r.2 pb mb M' S w X /\ Wrt M M' S.id w 1 0 /\ Keep X J r.2 := by
 have hw := h.p.words
 have hpos := h.p.pos he
 have hwl := h.wle
 have hiE := (List.getElem?_eq_some_iff.1 he).1
 have hmd := h.p.made
 have hlen := h.p.len
 have h3 : S.room * 1 <= S.room * (S.words + 1) := Nat.mul_le_mul_left _ (by omega)
 have hl := h.p.at he hk
 rw [hv] at hl
 simp (maxSteps := 2000000) -implicitDefEqProofs (disch := (first | omega | rfl | assumption | (simp only [rsD]; first | omega | assumption))) only [qqc, qqb, tbl, Nat.reduceAdd, Nat.reduceMul, Nat.reduceLT, Int.reduceToNat, Int.reduceAdd, Int.reduceSub, Int.reduceMul, rsU, rsC]
 generalize hJ : (J.bump 1).put J.next (.cells true _ _) = J1
 obtain ⟨E1, b1, n1⟩ := boxed hJ
 clear hJ
 have ta := tat_ok (J := J1) (S := S) (mb := mb) (nx := nx) (pv := pv) (i := i) (k := k) hw.2 (by omega) (by omega) (by omega)
 unfold tbl at ta
 refine Ok.step ta fun r ⟨g1, g2⟩ => ?_
 obtain ⟨q, J2⟩ := r
 simp only at g1 g2
 subst g1
 have b2 : J2.blk J.next = _ := (g2.blk _ (by omega)).trans b1
 have h2 := h.ext (E1.trans g2)
 generalize i * (S.words + 1) = P at *
 simp (maxSteps := 2000000) -implicitDefEqProofs (disch := (first | omega | rfl | assumption | (simp only [rsD]; first | omega | assumption))) only [b2, Nat.reduceAdd, Nat.reduceMul, Nat.reduceLT, Int.reduceToNat, Int.reduceAdd, Int.reduceSub, Int.reduceMul, rsU, rsC]
 refine Ok.step (readX h2.mi hc h2.now (at_ := ((P + 1 + k : Nat) : Int)) (by omega) (by omega)) fun q ⟨q1, M2, q2, q3, q4⟩ => ?_
 obtain ⟨q, J3⟩ := q
 simp only at q1 q2 q4
 rw [Int.toNat_natCast, List.getD_eq_getElem?_getD, hl] at q1
 simp only [Option.getD_some] at q1
 subst q1
 simp (maxSteps := 2000000) -implicitDefEqProofs (disch := (first | omega | rfl | assumption | (simp only [rsD]; first | omega | assumption))) only [Nat.reduceAdd, Nat.reduceMul, Nat.reduceLT, Int.reduceToNat, Int.reduceAdd, Int.reduceSub, Int.reduceMul, rsU, rsC]
 exact Ok_some.2 ⟨rfl, M2, { h2 with mi := q2, b := q4.head.trans h2.b, now := q3.words h2.now }, q3, (h.mi.tail.keepExt (E1.trans g2)).trans q4.tail⟩
end
end Go.Abs.Tryz
set_option maxHeartbeats 2000000
namespace Go.Abs.Tryz
open Go Go.Abs
variable {O : Type}
theorem boxed3 {J J1 : AH O} {t1 t2 t3 : TypeId} {c1 c2 c3 : List AV} (h : (((J.bump 3).put J.next (.cells true t1 c1)).put (J.next + 1) (.cells true t2 c2)).put (J.next + 1 + 1) (.cells true t3 c3) = J1) :
  Ext J J1 /\ J1.blk J.next = some (.cells true t1 c1) /\ J1.blk (J.next + 1) = some (.cells true t2 c2) /\ J1.blk (J.next + 1 + 1) = some (.cells true t3 c3) /\ J1.next = J.next + 3 := by
 subst h
 refine ⟨((((Ext.refl J).bump 3).put (Nat.le_refl _) _).put (by omega) _).put (by omega) _, ?_, ?_, s_bs, rfl⟩
 ·rw [s_bn (by omega), s_bn (by omega), s_bs]
 ·rw [s_bn (by omega), s_bs]
structure SameBut (nx pv : Nat) (E E' : List PE) : Prop where
 len : E'.length = E.length
 at_ : ∀ (j : Nat) (x : PE), E[j]? = some x -> ∃ y, E'[j]? = some y /\ y.tk = x.tk /\ y.gen = x.gen /\ ∀ k, k ≠ nx -> k ≠ pv -> y.ws[k]? = x.ws[k]?
theorem SameBut.refl (nx pv : Nat) (E : List PE) : SameBut nx pv E E := ⟨rfl, fun j x h => ⟨x, h, rfl, rfl, fun _ _ _ => rfl⟩⟩
theorem SameBut.set {nx pv : Nat} {E E' : List PE} (h : SameBut nx pv E E') {i k : Nat} {e : PE} {v : Int} (he : E'[i]? = some e) (hk : k = nx ∨ k = pv) : SameBut nx pv E (E'.set i { e with ws := e.ws.set k v }) := by
 have hi := (List.getElem?_eq_some_iff.1 he).1
 refine ⟨by rw [List.length_set]; exact h.len, fun j x hx => ?_⟩
 obtain ⟨y, g1, g2, g3, g4⟩ := h.at_ j x hx
 rw [List.getElem?_set]
 by_cases c : i = j
 ·subst c
  rw [he] at g1; cases g1
  refine ⟨{ e with ws := e.ws.set k v }, by rw [if_pos rfl, if_pos hi], g2, g3, fun q h1 h2 => ?_⟩
  rw [List.getElem?_set, if_neg (by rcases hk with rfl | rfl; exact fun e => h1 e.symm; exact fun e => h2 e.symm)]
  exact g4 q h1 h2
 ·rw [if_neg c]; exact ⟨y, g1, g2, g3, g4⟩
def chn (C : List Nat) : AV := .agg [.i .i64 (hdI C : Int), .i .i64 (tlI C : Int), .i .i64 (C.length : Int)]
theorem Linked.small {E : List PE} {nx pv : Nat} {C : List Nat} (h : Linked E nx pv C) {B : Nat} (hB : E.length <= B) : hdI C <= B /\ tlI C <= B /\ (∀ j, nid C j <= B /\ pid C j <= B) := by
 have key : ∀ j i, C[j]? = some i -> i + 1 <= B := fun j i hj => by
  obtain ⟨e, he, _⟩ := h.at_ j i hj
  have := (List.getElem?_eq_some_iff.1 he).1
  omega
 have kp : ∀ j, pid C j <= B := fun j => by
  unfold pid
  cases j with
  | zero => exact Nat.zero_le _
  | succ j =>
   simp only
   split
   ·rename_i i hi; exact key j i hi
   ·exact Nat.zero_le _
 refine ⟨?_, ?_, fun j => ⟨?_, kp j⟩⟩
 ·cases C with
  | nil => exact Nat.zero_le _
  | cons c C => exact key 0 c rfl
 ·rw [tl_pid]; exact kp _
 ·unfold nid
  split
  ·rename_i i hi; exact key _ i hi
  ·exact Nat.zero_le _
section
variable {J : AH O} {pb mb : Nat} {M : MemS} {S : PoolS} {w : List Int} {X : List Nat} (h : PoolAt J pb mb M S w X) {nx pv : Nat} (h1 : nx < S.words) (h2 : pv < S.words) (hne : nx ≠ pv) {C : List Nat} (hL : Linked S.E nx pv C) (hm : M.met.r + 100 < 85070591730234615865843651857942052864 /\ M.met.w + 100 < 85070591730234615865843651857942052864)
include h h1 h2 hne hL hm
theorem PoolAt.e4 : S.E.length <= 4194304 := by
 have hmd := h.p.made
 have hlen := h.p.len
 have hwl := h.wle
 have h3 : S.room * 1 <= S.room * (S.words + 1) := Nat.mul_le_mul_left _ (by omega)
 omega
theorem tpush_okF (hCl : C.length <= 4194304) {i : Nat} {e : PE} (hi : i ∉ C) (he : S.E[i]? = some e) (htk : e.tk = true) :
  Ok (qi6 [tbl S mb nx pv, chn C, .i .i64 ((i : Int) + 1)] J) fun r => r.1 = .tup [chn (C ++ [i]), .i .i64 0] /\ ∃ M' w' E' dw, PoolAt r.2 pb mb M' { S with E := E' } w' X /\ SameBut nx pv S.E E' /\ Linked E' nx pv (C ++ [i]) /\ Wrt M M' S.id w' 0 dw /\ 2 <= dw /\ dw <= 3 /\ Keep X J r.2 /\ ∀ j, j ∉ C -> j ≠ i -> E'[j]? = S.E[j]? := by
 have hiE := (List.getElem?_eq_some_iff.1 he).1
 have hmd := h.p.made
 have hE4 := h.e4 h1 h2 hne hL hm
 obtain ⟨s1, s2, s3⟩ := hL.small (B := 4194304) hE4
 have hlt := h.lt
 have htlE : tlI C = 0 ∨ ∃ t, tlI C = t + 1 /\ C.getLast? = some t := by
  unfold tlI
  cases C.getLast? with
  | none => exact .inl rfl
  | some t => exact .inr ⟨t, rfl, rfl⟩
 have e0 : ((0 : Int) != 0) = false := rfl
 simp (maxSteps := 2000000) -implicitDefEqProofs (disch := (first | omega | rfl | assumption | (simp only [rsD]; first | omega | assumption))) only [qi6, qi5, tbl, chn, Nat.reduceAdd, Nat.reduceMul, Nat.reduceLT, Int.reduceToNat, Int.reduceAdd, Int.reduceSub, Int.reduceMul, rsU, rsC]
 generalize hJ : (((J.bump 3).put J.next (.cells true _ _)).put (J.next + 1) (.cells true _ _)).put (J.next + 1 + 1) (.cells true _ _) = J1
 obtain ⟨E1, b1, c1, d1, n1⟩ := boxed3 hJ
 clear hJ
 have p1 : PoolAt J1 pb mb M S w (J.next :: (J.next + 1) :: (J.next + 1 + 1) :: X) := h.turn (L := []) E1.chg (by simp) fun b hb => by
  simp only [List.mem_cons] at hb
  rcases hb with rfl | rfl | rfl | hb
  ·exact .inr (by omega)
  ·exact .inr (by omega)
  ·exact .inr (by omega)
  ·exact .inl hb
 have kx1 : Keep X J J1 := h.mi.tail.keepExt E1
 have ck := tcheck_ok p1 h1 h2 hne (i := i) (by omega)
 unfold tbl at ck
 refine Ok.step ck fun r ⟨g1, g2⟩ => ?_
 obtain ⟨q, J2⟩ := r
 simp only at g1 g2
 subst g1
 have p2 := p1.ext g2
 have b2 : J2.blk J.next = _ := (g2.blk _ (by omega)).trans b1
 have c2 : J2.blk (J.next + 1) = _ := (g2.blk _ (by omega)).trans c1
 have d2 : J2.blk (J.next + 1 + 1) = _ := (g2.blk _ (by omega)).trans d1
 have kx2 : Keep X J J2 := h.mi.tail.keepExt (E1.trans g2)
 have hwl := h.p.wl e (List.mem_of_getElem? he)
 have hcr : M.calm := ⟨by omega, by omega⟩
 simp (maxSteps := 2000000) -implicitDefEqProofs (disch := (first | omega | rfl | assumption | (simp only [rsD]; first | omega | assumption))) only [e0, b2, c2, Nat.reduceAdd, Nat.reduceMul, Nat.reduceLT, Int.reduceToNat, Int.reduceAdd, Int.reduceSub, Int.reduceMul, rsU, rsC]
 have ts := tset_ok p2 hcr (nx := nx) (pv := pv) (i := i) (k := pv) (x := tlI C) he htk h2 (by omega)
 unfold tbl at ts
 refine Ok.step ts fun r ⟨k1, M3, w3, p3, q3, kp3⟩ => ?_
 obtain ⟨q, J3⟩ := r
 simp only at k1 p3 kp3
 subst k1
 have b3 : J3.blk J.next = _ := (kp3.blk _ (by simp)).trans b2
 have c3 : J3.blk (J.next + 1) = _ := (kp3.blk _ (by simp)).trans c2
 have d3 : J3.blk (J.next + 1 + 1) = _ := (kp3.blk _ (by simp)).trans d2
 have r3 := q3.r
 have v3 := q3.w
 have kx3 := kx2.trans kp3.tail.tail.tail
 have he3 : (S.E.set i { e with ws := e.ws.set pv (tlI C : Int) })[i]? = some { e with ws := e.ws.set pv (tlI C : Int) } := by rw [List.getElem?_set]; simp [hiE]
 simp (maxSteps := 2000000) -implicitDefEqProofs (disch := (first | omega | rfl | assumption | (simp only [rsD]; first | omega | assumption))) only [b3, c3, Nat.reduceAdd, Nat.reduceMul, Nat.reduceLT, Int.reduceToNat, Int.reduceAdd, Int.reduceSub, Int.reduceMul, rsU, rsC]
 have ts := tset_ok p3 ⟨by omega, by omega⟩ (nx := nx) (pv := pv) (i := i) (k := nx) (x := 0) he3 htk h1 (by omega)
 unfold tbl at ts
 rw [show ((0 : Nat) : Int) = 0 from rfl] at ts
 refine Ok.step ts fun r ⟨k1, M4, w4, p4, q4, kp4⟩ => ?_
 obtain ⟨q, J4⟩ := r
 simp only at k1 p4 kp4
 subst k1
 have b4 : J4.blk J.next = _ := (kp4.blk _ (by simp)).trans b3
 have c4 : J4.blk (J.next + 1) = _ := (kp4.blk _ (by simp)).trans c3
 have d4 : J4.blk (J.next + 1 + 1) = _ := (kp4.blk _ (by simp)).trans d3
 have r4 := q4.r
 have v4 := q4.w
 have kx4 := kx3.trans kp4.tail.tail.tail
 rw [List.set_set] at p4
 have sb := ((SameBut.refl nx pv S.E).set (v := (tlI C : Int)) he (.inr rfl)).set (v := 0) he3 (.inl rfl)
 rw [List.set_set] at sb
 generalize hEb : S.E.set i { e with ws := (e.ws.set pv (tlI C : Int)).set nx 0 } = Eb at p4 sb
 have heb : Eb[i]? = some { e with ws := (e.ws.set pv (tlI C : Int)).set nx 0 } := by rw [<- hEb, List.getElem?_set]; simp [hiE]
 have hob : ∀ j, j ≠ i -> Eb[j]? = S.E[j]? := fun j hj => by rw [<- hEb, List.getElem?_set, if_neg (fun e => hj e.symm)]
 have hlk : LinkE { e with ws := (e.ws.set pv (tlI C : Int)).set nx 0 } nx pv 0 (tlI C) := ⟨htk, by simp only; rw [List.getElem?_set]; simp; omega, by simp only; rw [List.getElem?_set, if_neg hne, List.getElem?_set]; simp; omega⟩
 have n4 := kp4.next
 have n3 := kp3.next
 have n2 := g2.next
 have fin : ∀ (J' : AH O) (M' : MemS) (w' : List Int) (E' : List PE) (x : Blk O), PoolAt J' pb mb M' { S with E := E' } w' (J.next :: (J.next + 1) :: (J.next + 1 + 1) :: X) -> PoolAt (J'.put (J.next + 1 + 1) x) pb mb M' { S with E := E' } w' X := fun J' M' w' E' x hp =>
  hp.turn (L := [J.next + 1 + 1]) ⟨by simp, fun b hb hm => s_bn (by simpa using hm)⟩ (fun b hb => by simp at hb; subst hb; exact .inl (by simp)) fun b hb => .inl (by simp [hb])
 have kfin : ∀ (J' : AH O) (x : Blk O), Keep X J' (J'.put (J.next + 1 + 1) x) := fun J' x => Keep.put (fun hm => by have := h.mi.lt _ (List.mem_cons_of_mem _ hm); omega) x
 rcases C with _ | ⟨c, C'⟩
 ·have ez : ((([] : List Nat).length : Nat) : Int) = 0 := rfl
  have ez2 : ((0 : Int) == 0) = true := rfl
  rw [ez] at c4
  simp (maxSteps := 2000000) -implicitDefEqProofs (disch := (first | omega | rfl | assumption | (simp only [rsD]; first | omega | assumption))) only [b4, c4, ez2, d4, Nat.reduceAdd, Nat.reduceMul, Nat.reduceLT, Int.reduceToNat, Int.reduceAdd, Int.reduceSub, Int.reduceMul, rsU, rsC]
  exact Ok_some.2 ⟨by simp [chn, hdI, tlI], M4, w4, Eb, 2, fin _ _ _ _ _ p4, sb, hL.push hi hne heb hlk hob (fun j _ => rfl) (fun t x ht => by simp at ht), (q3.trans q4).as rfl (by omega) (by omega), by omega, by omega, kx4.trans (kfin _ _), fun j _ hj => hob j hj⟩
 ·rcases htlE with e1 | ⟨t, ht, hlast⟩
  ·unfold tlI at e1; rw [List.getLast?_cons] at e1; simp at e1
  have htC : t ∈ (c :: C') := List.mem_of_getLast? hlast
  have hti : t ≠ i := fun e => hi (e ▸ htC)
  obtain ⟨jt, hjt⟩ := List.getElem?_of_mem htC
  obtain ⟨y, hy, hyl⟩ := hL.at_ jt t hjt
  have hyb : Eb[t]? = some y := by rw [hob t hti]; exact hy
  have ez : (((c :: C').length : Nat) : Int) = (C'.length : Int) + 1 := by simp
  have ez2 : ((C'.length : Int) + 1 == 0) = false := beq_eq_false_iff_ne.2 (by omega)
  have et : ((tlI (c :: C') : Nat) : Int) = (t : Int) + 1 := by rw [ht]; simp
  rw [ez, et] at c4
  have hCl' : C'.length <= 4194304 := by simp at hCl; omega
  simp (maxSteps := 2000000) -implicitDefEqProofs (disch := (first | omega | rfl | assumption | (simp only [rsD]; first | omega | assumption))) only [b4, c4, ez2, Nat.reduceAdd, Nat.reduceMul, Nat.reduceLT, Int.reduceToNat, Int.reduceAdd, Int.reduceSub, Int.reduceMul, rsU, rsC]
  have ts := tset_ok p4 ⟨by omega, by omega⟩ (nx := nx) (pv := pv) (i := t) (k := nx) (x := i + 1) hyb hyl.tk h1 (by omega)
  unfold tbl at ts
  rw [show ((i + 1 : Nat) : Int) = (i : Int) + 1 by simp] at ts
  refine Ok.step ts fun r ⟨k1, M5, w5, p5, q5, kp5⟩ => ?_
  obtain ⟨q, J5⟩ := r
  simp only at k1 p5 kp5
  subst k1
  have b5 : J5.blk J.next = _ := (kp5.blk _ (by simp)).trans b4
  have c5 : J5.blk (J.next + 1) = _ := (kp5.blk _ (by simp)).trans c4
  have d5 : J5.blk (J.next + 1 + 1) = _ := (kp5.blk _ (by simp)).trans d4
  simp (maxSteps := 2000000) -implicitDefEqProofs (disch := (first | omega | rfl | assumption | (simp only [rsD]; first | omega | assumption))) only [b5, c5, d5, Nat.reduceAdd, Nat.reduceMul, Nat.reduceLT, Int.reduceToNat, Int.reduceAdd, Int.reduceSub, Int.reduceMul, rsU, rsC]
  refine Ok_some.2 ⟨?_, M5, w5, _, 3, fin _ _ _ _ _ p5, sb.set hyb (.inl rfl), hL.push hi hne heb hlk hob (fun j hj => ?_) (fun t' x' ht' hx' => ?_), ((q3.trans q4).trans q5).as rfl (by omega) (by omega), by omega, by omega, (kx4.trans kp5.tail.tail.tail).trans (kfin _ _), fun j hj hji => by rw [List.getElem?_set, if_neg (fun e : t = j => hj (by rw [<- e]; exact htC))]; exact hob j hji⟩
  ·have e7 : tlI (c :: (C' ++ [i])) = i + 1 := tl_snoc (c :: C') i
   simp [chn, e7, hdI]
  ·rw [List.getElem?_set, if_neg (fun e => hj (by rw [<- e]; exact hlast))]
  ·rw [hlast] at ht'
   cases ht'
   rw [hyb] at hx'; cases hx'
   rw [List.getElem?_set]
   simp [(List.getElem?_eq_some_iff.1 hyb).1]
theorem tdrop_okF (hCl : C.length <= 4194304) {d i : Nat} (hd : C[d]? = some i) :
  Ok (qqh [tbl S mb nx pv, chn C, .i .i64 ((i : Int) + 1)] J) fun r => r.1 = .tup [chn (C.eraseIdx d), .i .i64 0] /\ ∃ M' w' E' dw, PoolAt r.2 pb mb M' { S with E := E' } w' X /\ SameBut nx pv S.E E' /\ Linked E' nx pv (C.eraseIdx d) /\ Wrt M M' S.id w' 2 dw /\ 0 <= dw /\ dw <= 2 /\ Keep X J r.2 /\ ∀ j, j ∉ C -> E'[j]? = S.E[j]? := by
 obtain ⟨e, he, hlk⟩ := hL.at_ d i hd
 have hdl := (List.getElem?_eq_some_iff.1 hd).1
 have hiE := (List.getElem?_eq_some_iff.1 he).1
 have hmd := h.p.made
 have hE4 := h.e4 h1 h2 hne hL hm
 obtain ⟨s1, s2, s3⟩ := hL.small (B := 4194304) hE4
 obtain ⟨s4, s5⟩ := s3 d
 have hlt := h.lt
 have e0 : ((0 : Int) != 0) = false := rfl
 have hcr : M.calm := ⟨by omega, by omega⟩
 simp (maxSteps := 2000000) -implicitDefEqProofs (disch := (first | omega | rfl | assumption | (simp only [rsD]; first | omega | assumption))) only [qqh, qqg, tbl, chn, Nat.reduceAdd, Nat.reduceMul, Nat.reduceLT, Int.reduceToNat, Int.reduceAdd, Int.reduceSub, Int.reduceMul, rsU, rsC]
 generalize hJ : (((J.bump 3).put J.next (.cells true _ _)).put (J.next + 1) (.cells true _ _)).put (J.next + 1 + 1) (.cells true _ _) = J1
 obtain ⟨E1, b1, c1, d1, n1⟩ := boxed3 hJ
 clear hJ
 have p1 : PoolAt J1 pb mb M S w (J.next :: (J.next + 1) :: (J.next + 1 + 1) :: X) := h.turn (L := []) E1.chg (by simp) fun b hb => by
  simp only [List.mem_cons] at hb
  rcases hb with rfl | rfl | rfl | hb
  ·exact .inr (by omega)
  ·exact .inr (by omega)
  ·exact .inr (by omega)
  ·exact .inl hb
 have ck := tcheck_ok p1 h1 h2 hne (i := i) (by omega)
 unfold tbl at ck
 refine Ok.step ck fun r ⟨g1, g2⟩ => ?_
 obtain ⟨q, J2⟩ := r
 simp only at g1 g2
 subst g1
 have p2 := p1.ext g2
 have b2 : J2.blk J.next = _ := (g2.blk _ (by omega)).trans b1
 have c2 : J2.blk (J.next + 1) = _ := (g2.blk _ (by omega)).trans c1
 have d2 : J2.blk (J.next + 1 + 1) = _ := (g2.blk _ (by omega)).trans d1
 have kx2 : Keep X J J2 := h.mi.tail.keepExt (E1.trans g2)
 simp (maxSteps := 2000000) -implicitDefEqProofs (disch := (first | omega | rfl | assumption | (simp only [rsD]; first | omega | assumption))) only [e0, b2, c2, Nat.reduceAdd, Nat.reduceMul, Nat.reduceLT, Int.reduceToNat, Int.reduceAdd, Int.reduceSub, Int.reduceMul, rsU, rsC]
 have ts := tget_ok p2 hcr (nx := nx) (pv := pv) (i := i) (k := nx) (x := nid C d) he h1 hlk.n (by omega)
 unfold tbl at ts
 refine Ok.step ts fun r ⟨k1, M3, p3, q3, kp3⟩ => ?_
 obtain ⟨q, J3⟩ := r
 simp only at k1 p3 kp3
 subst k1
 have b3 : J3.blk J.next = _ := (kp3.blk _ (by simp)).trans b2
 have c3 : J3.blk (J.next + 1) = _ := (kp3.blk _ (by simp)).trans c2
 have d3 : J3.blk (J.next + 1 + 1) = _ := (kp3.blk _ (by simp)).trans d2
 have r3 := q3.r
 have v3 := q3.w
 simp (maxSteps := 2000000) -implicitDefEqProofs (disch := (first | omega | rfl | assumption | (simp only [rsD]; first | omega | assumption))) only [b3, c3, Nat.reduceAdd, Nat.reduceMul, Nat.reduceLT, Int.reduceToNat, Int.reduceAdd, Int.reduceSub, Int.reduceMul, rsU, rsC]
 have ts := tget_ok p3 ⟨by omega, by omega⟩ (nx := nx) (pv := pv) (i := i) (k := pv) (x := pid C d) he h2 hlk.p (by omega)
 unfold tbl at ts
 refine Ok.step ts fun r ⟨k1, M4, p4, q4, kp4⟩ => ?_
 obtain ⟨q, J4⟩ := r
 simp only at k1 p4 kp4
 subst k1
 have b4 : J4.blk J.next = _ := (kp4.blk _ (by simp)).trans b3
 have c4 : J4.blk (J.next + 1) = _ := (kp4.blk _ (by simp)).trans c3
 have d4 : J4.blk (J.next + 1 + 1) = _ := (kp4.blk _ (by simp)).trans d3
 have r4 := q4.r
 have v4 := q4.w
 have kx4 := (kx2.trans kp3.tail.tail.tail).trans kp4.tail.tail.tail
 have hx3 : J.next ∉ X /\ J.next + 1 ∉ X /\ J.next + 1 + 1 ∉ X := ⟨fun hm => by have := h.mi.lt _ (List.mem_cons_of_mem _ hm); omega, fun hm => by have := h.mi.lt _ (List.mem_cons_of_mem _ hm); omega, fun hm => by have := h.mi.lt _ (List.mem_cons_of_mem _ hm); omega⟩
 have n4 := kp4.next
 have n3 := kp3.next
 have n2 := g2.next
 have putX : ∀ {J' : AH O} {M' : MemS} {w' : List Int} {E' : List PE} (b : Nat) (x : Blk O), (b = J.next + 1 ∨ b = J.next + 1 + 1) -> PoolAt J' pb mb M' { S with E := E' } w' (J.next :: (J.next + 1) :: (J.next + 1 + 1) :: X) -> PoolAt (J'.put b x) pb mb M' { S with E := E' } w' (J.next :: (J.next + 1) :: (J.next + 1 + 1) :: X) := fun {J' M' w' E'} b x hb hp =>
  hp.turn (L := [b]) ⟨by simp, fun c hc hm => s_bn (by simpa using hm)⟩ (fun c hc => by simp only [List.mem_singleton] at hc; subst hc; rcases hb with rfl | rfl <;> exact .inl (by simp)) fun c hc => .inl hc
 have pe0 : pid C d ≠ 0 -> ∃ d' p, d = d' + 1 /\ C[d']? = some p /\ pid C d = p + 1 := fun hp => by
  cases d with
  | zero => exact absurd rfl hp
  | succ d' =>
   have hx := List.getElem?_eq_getElem (show d' < C.length by omega)
   exact ⟨d', _, rfl, hx, pid_some hx⟩
 have ne0 : nid C d ≠ 0 -> ∃ p, C[d + 1]? = some p /\ nid C d = p + 1 := fun hn => by
  have hx := List.getElem?_eq_getElem (nid_lt hn)
  exact ⟨_, hx, nid_some hx⟩
 refine Ok.step (Q := fun r => ∃ J' M' w' E' dw, r = ([], J') /\ PoolAt J' pb mb M' { S with E := E' } w' (J.next :: (J.next + 1) :: (J.next + 1 + 1) :: X) /\ SameBut nx pv S.E E' /\ Wrt M M' S.id w' 2 dw /\ 0 <= dw /\ dw <= 1 /\ Keep X J J' /\ J'.next >= J.next + 3 /\
   (∃ el, J'.blk J.next = some (.cells true el [.p (some (.n mb, 0)), .i .i64 S.id, .i .i64 ((S.words : Int) + 1), .i .i64 ((nx : Int) + 1), .i .i64 ((pv : Int) + 1)])) /\
   (∃ el, J'.blk (J.next + 1) = some (.cells true el [.i .i64 (hdI (C.eraseIdx d) : Int), .i .i64 (tlI C : Int), .i .i64 (C.length : Int)])) /\ (∃ el, J'.blk (J.next + 1 + 1) = some (.cells true el [.i .i64 0, .i .i64 0, .i .i64 0])) /\
   (∀ j, (∀ d', d = d' + 1 -> C[d']? ≠ some j) -> E'[j]? = S.E[j]?) /\ ∀ d' j x, d = d' + 1 -> C[d']? = some j -> S.E[j]? = some x -> E'[j]? = some { x with ws := x.ws.set nx (nid C d : Int) }) ?_ ?_
 ·by_cases hp : pid C d = 0
  ·have ez : ((pid C d : Nat) : Int) = 0 := by rw [hp]; rfl
   have hd0 : ∀ d', d = d' + 1 -> False := fun d' e1 => by
    subst e1
    unfold pid at hp
    simp only at hp
    rw [List.getElem?_eq_getElem (show d' < C.length by omega)] at hp
    simp at hp
   rw [ez]
   simp (maxSteps := 2000000) -implicitDefEqProofs (disch := (first | omega | rfl | assumption | (simp only [rsD]; first | omega | assumption))) only [e0, c4, Nat.reduceAdd, Nat.reduceMul, Nat.reduceLT, Int.reduceToNat, Int.reduceAdd, Int.reduceSub, Int.reduceMul, rsU, rsC]
   have hhd : ((hdI (C.eraseIdx d) : Nat) : Int) = (nid C d : Int) := by rw [hd_drop hd, if_pos hp]
   refine Ok_some.2 ⟨_, M4, w, S.E, 0, rfl, putX _ _ (.inl rfl) p4, SameBut.refl _ _ _, (q3.trans q4).as rfl (by omega) (by omega), by omega, by omega, kx4.trans (Keep.put hx3.2.1 _), by simp; omega, ⟨_, (s_bn (by omega)).trans b4⟩, ⟨_, by rw [hhd]; exact s_bs⟩, ⟨_, (s_bn (by omega)).trans d4⟩, fun j _ => rfl, fun d' j x e1 => (hd0 d' e1).elim⟩
  ·obtain ⟨d', p, e1, hp2, hp3⟩ := pe0 hp
   obtain ⟨y, hy, hyl⟩ := hL.at_ d' p hp2
   have ez : ((pid C d : Nat) : Int) = (p : Int) + 1 := by rw [hp3]; simp
   have ez2 : ((p : Int) + 1 != 0) = true := by simp; omega
   rw [ez]
   simp (maxSteps := 2000000) -implicitDefEqProofs (disch := (first | omega | rfl | assumption | (simp only [rsD]; first | omega | assumption))) only [ez2, b4, Nat.reduceAdd, Nat.reduceMul, Nat.reduceLT, Int.reduceToNat, Int.reduceAdd, Int.reduceSub, Int.reduceMul, rsU, rsC]
   have ts := tset_ok p4 ⟨by omega, by omega⟩ (nx := nx) (pv := pv) (i := p) (k := nx) (x := nid C d) hy hyl.tk h1 (by omega)
   unfold tbl at ts
   refine Ok.step ts fun r ⟨k1, M5, w5, p5, q5, kp5⟩ => ?_
   obtain ⟨q, J5⟩ := r
   simp only at k1 p5 kp5
   subst k1
   simp (maxSteps := 2000000) -implicitDefEqProofs (disch := (first | omega | rfl | assumption | (simp only [rsD]; first | omega | assumption))) only [Nat.reduceAdd, Nat.reduceMul, Nat.reduceLT, Int.reduceToNat, Int.reduceAdd, Int.reduceSub, Int.reduceMul, rsU, rsC]
   have hhd : ((hdI (C.eraseIdx d) : Nat) : Int) = (hdI C : Int) := by rw [hd_drop hd, if_neg hp]
   refine Ok_some.2 ⟨J5, M5, w5, _, 1, rfl, p5, (SameBut.refl _ _ _).set hy (.inl rfl), ((q3.trans q4).trans q5).as rfl (by omega) (by omega), by omega, by omega, kx4.trans kp5.tail.tail.tail, by have := kp5.next; omega, ⟨_, (kp5.blk _ (by simp)).trans b4⟩, ⟨_, by rw [hhd]; exact (kp5.blk _ (by simp)).trans c4⟩, ⟨_, (kp5.blk _ (by simp)).trans d4⟩, fun j hj => ?_, fun d2 j x e2 hj hx => ?_⟩
   ·rw [List.getElem?_set, if_neg (fun e3 => hj d' e1 (by rw [<- e3]; exact hp2))]
   ·obtain rfl : d2 = d' := by omega
    rw [hp2] at hj; cases hj
    rw [hy] at hx; cases hx
    rw [List.getElem?_set]
    simp [(List.getElem?_eq_some_iff.1 hy).1]
 rintro _ ⟨J5, M5, w5, E5, dw5, rfl, p5, sb5, q5, x1, x2, kx5, n5, ⟨el1, b5⟩, ⟨el2, c5⟩, ⟨el3, d5⟩, o5, l5⟩
 have r5 := q5.r
 have v5 := q5.w
 refine Ok.step (Q := fun r => ∃ J' M' w' E' dw, r = ([], J') /\ PoolAt J' pb mb M' { S with E := E' } w' (J.next :: (J.next + 1) :: (J.next + 1 + 1) :: X) /\ SameBut nx pv S.E E' /\ Wrt M M' S.id w' 2 dw /\ 0 <= dw /\ dw <= 2 /\ Keep X J J' /\
   (∃ el, J'.blk (J.next + 1) = some (.cells true el [.i .i64 (hdI (C.eraseIdx d) : Int), .i .i64 (tlI (C.eraseIdx d) : Int), .i .i64 (C.length : Int)])) /\ (∃ el, J'.blk (J.next + 1 + 1) = some (.cells true el [.i .i64 0, .i .i64 0, .i .i64 0])) /\ J'.next >= J.next + 3 /\
   Linked E' nx pv (C.eraseIdx d) /\ ∀ j, j ∉ C -> E'[j]? = S.E[j]?) ?_ ?_
 ·by_cases hn : nid C d = 0
  ·have ez : ((nid C d : Nat) : Int) = 0 := by rw [hn]; rfl
   have hn0 : C[d + 1]? = none := by
    unfold nid at hn
    split at hn
    ·omega
    ·rename_i hh; exact hh
   rw [ez]
   simp (maxSteps := 2000000) -implicitDefEqProofs (disch := (first | omega | rfl | assumption | (simp only [rsD]; first | omega | assumption))) only [e0, c5, Nat.reduceAdd, Nat.reduceMul, Nat.reduceLT, Int.reduceToNat, Int.reduceAdd, Int.reduceSub, Int.reduceMul, rsU, rsC]
   have htd : ((tlI (C.eraseIdx d) : Nat) : Int) = (pid C d : Int) := by rw [tl_drop hd, if_pos hn]
   refine Ok_some.2 ⟨_, M5, w5, E5, dw5, rfl, putX _ _ (.inl rfl) p5, sb5, q5, x1, by omega, kx5.trans (Keep.put hx3.2.1 _), ⟨_, by rw [htd]; exact s_bs⟩, ⟨_, (s_bn (by omega)).trans d5⟩, by simp; omega, hL.drop hd hne (fun j hj _ => o5 j hj) l5 (fun j x hj => by rw [hn0] at hj; cases hj), fun j hj => o5 j fun d' _ e => hj (List.mem_of_getElem? e)⟩
  ·obtain ⟨p, hp2, hp3⟩ := ne0 hn
   obtain ⟨y, hy, hyl⟩ := hL.at_ (d + 1) p hp2
   have hpd : ∀ d', d = d' + 1 -> C[d']? ≠ some p := fun d' e1 e2 => by have := nodup_at hL.nd hp2 e2; omega
   have hy5 : E5[p]? = some y := (o5 p hpd).trans hy
   have ez : ((nid C d : Nat) : Int) = (p : Int) + 1 := by rw [hp3]; simp
   have ez2 : ((p : Int) + 1 != 0) = true := by simp; omega
   rw [ez]
   simp (maxSteps := 2000000) -implicitDefEqProofs (disch := (first | omega | rfl | assumption | (simp only [rsD]; first | omega | assumption))) only [ez2, b5, Nat.reduceAdd, Nat.reduceMul, Nat.reduceLT, Int.reduceToNat, Int.reduceAdd, Int.reduceSub, Int.reduceMul, rsU, rsC]
   have ts := tset_ok p5 ⟨by omega, by omega⟩ (nx := nx) (pv := pv) (i := p) (k := pv) (x := pid C d) hy5 hyl.tk h2 (by omega)
   unfold tbl at ts
   refine Ok.step ts fun r ⟨k1, M6, w6, p6, q6, kp6⟩ => ?_
   obtain ⟨q, J6⟩ := r
   simp only at k1 p6 kp6
   subst k1
   simp (maxSteps := 2000000) -implicitDefEqProofs (disch := (first | omega | rfl | assumption | (simp only [rsD]; first | omega | assumption))) only [Nat.reduceAdd, Nat.reduceMul, Nat.reduceLT, Int.reduceToNat, Int.reduceAdd, Int.reduceSub, Int.reduceMul, rsU, rsC]
   have htd : ((tlI (C.eraseIdx d) : Nat) : Int) = (tlI C : Int) := by rw [tl_drop hd, if_neg hn]
   refine Ok_some.2 ⟨J6, M6, w6, _, dw5 + 1, rfl, p6, sb5.set hy5 (.inr rfl), (q5.trans q6).as rfl (by omega) (by omega), by omega, by omega, kx5.trans kp6.tail.tail.tail, ⟨_, by rw [htd]; exact (kp6.blk _ (by simp)).trans c5⟩, ⟨_, (kp6.blk _ (by simp)).trans d5⟩, by have := kp6.next; omega, hL.drop hd hne (fun j hj hj2 => ?_) (fun d2 j x e2 hj hx => ?_) (fun j x hj hx => ?_), fun j hj => by rw [List.getElem?_set, if_neg (fun e : p = j => hj (by rw [<- e]; exact List.mem_of_getElem? hp2))]; exact o5 j fun d' _ e => hj (List.mem_of_getElem? e)⟩
   ·rw [List.getElem?_set, if_neg (fun e3 => hj2 (by rw [<- e3]; exact hp2))]; exact o5 j hj
   ·rw [List.getElem?_set, if_neg (fun e3 => hpd d2 e2 (by rw [e3]; exact hj))]; exact l5 d2 j x e2 hj hx
   ·rw [hp2] at hj; cases hj
    rw [hy] at hx; cases hx
    rw [List.getElem?_set]
    simp [(List.getElem?_eq_some_iff.1 hy5).1]
 rintro _ ⟨J6, M6, w6, E6, dw6, rfl, p6, sb6, q6, y1, y2, kx6, ⟨el4, c6⟩, ⟨el5, d6⟩, n6, hL6, hF6⟩
 simp (maxSteps := 2000000) -implicitDefEqProofs (disch := (first | omega | rfl | assumption | (simp only [rsD]; first | omega | assumption))) only [c6, d6, Nat.reduceAdd, Nat.reduceMul, Nat.reduceLT, Int.reduceToNat, Int.reduceAdd, Int.reduceSub, Int.reduceMul, rsU, rsC]
 refine Ok_some.2 ⟨?_, M6, w6, E6, dw6, (p6.turn (L := [J.next + 1, J.next + 1 + 1]) ⟨by simp, fun b hb hm => ?_⟩ (fun b hb => .inl ?_) fun b hb => .inl (by simp [hb])), sb6, hL6, q6, y1, y2, kx6.trans ((Keep.put hx3.2.1 _).trans (Keep.put hx3.2.2 _)), hF6⟩
 ·simp only [chn, List.length_eraseIdx, if_pos hdl]
  rw [show ((C.length - 1 : Nat) : Int) = (C.length : Int) - 1 by omega]
 ·simp only [List.mem_cons, List.not_mem_nil, or_false, not_or] at hm
  rw [s_bn hm.2, s_bn hm.1]
 ·simp only [List.mem_cons, List.not_mem_nil, or_false] at hb
  rcases hb with rfl | rfl <;> simp
end
end Go.Abs.Tryz
namespace Go.Abs.Tryz
open Go Go.Abs
variable {O : Type}
section
variable {J : AH O} {pb mb : Nat} {M : MemS} {S : PoolS} {w : List Int} {X : List Nat} (h : PoolAt J pb mb M S w X) {nx pv : Nat} (h1 : nx < S.words) (h2 : pv < S.words) (hne : nx ≠ pv)
include h h1 h2 hne
end
end Go.Abs.Tryz
namespace Go.Abs.Tryz
open Go Go.Abs
variable {O : Type}
theorem getLast_at {A : List Nat} {t : Nat} (h : A.getLast? = some t) : A[A.length - 1]? = some t := by
 rw [<- h, List.getLast?_eq_getElem?]
theorem Linked.join {E E' : List PE} {nx pv : Nat} {A B : List Nat} (hA : Linked E nx pv A) (hB : Linked E nx pv B) (hne : nx ≠ pv) (hd : ∀ i ∈ A, i ∉ B) {t c : Nat} (ht : A.getLast? = some t) (hc : B[0]? = some c)
  (o : ∀ j, j ≠ t -> j ≠ c -> E'[j]? = E[j]?) (l1 : ∀ x, E[t]? = some x -> E'[t]? = some { x with ws := x.ws.set nx ((c : Int) + 1) }) (l2 : ∀ x, E[c]? = some x -> E'[c]? = some { x with ws := x.ws.set pv ((t : Int) + 1) }) : Linked E' nx pv (A ++ B) := by
 have hla := getLast_at ht
 have hApos : 0 < A.length := by
  have := (List.getElem?_eq_some_iff.1 hla).1
  omega
 have hBpos : 0 < B.length := (List.getElem?_eq_some_iff.1 hc).1
 have htA : t ∈ A := List.mem_of_getElem? hla
 have hcB : c ∈ B := List.mem_of_getElem? hc
 refine ⟨List.nodup_append.2 ⟨hA.nd, hB.nd, fun a ha b hb e => hd a ha (e ▸ hb)⟩, fun j i hj => ?_⟩
 rcases Nat.lt_or_ge j A.length with hjA | hjA
 ·have hj' : A[j]? = some i := by rw [<- hj, List.getElem?_append_left hjA]
  obtain ⟨e, he, hl⟩ := hA.at_ j i hj'
  have hpid : pid (A ++ B) j = pid A j := by
   unfold pid
   cases j with
   | zero => rfl
   | succ j => simp only; rw [List.getElem?_append_left (by omega)]
  have hic : i ≠ c := fun e => hd i (List.mem_of_getElem? hj') (e ▸ hcB)
  by_cases hlast : j + 1 = A.length
  ·have hit : i = t := by
    have : j = A.length - 1 := by omega
    rw [this, hla] at hj'; cases hj'; rfl
   subst hit
   have hn : nid (A ++ B) j = c + 1 := nid_some (by rw [List.getElem?_append_right (by omega), hlast, Nat.sub_self]; exact hc)
   refine ⟨_, l1 e he, ⟨hl.tk, ?_, ?_⟩⟩
   ·show (e.ws.set nx ((c : Int) + 1))[nx]? = _
    have := (List.getElem?_eq_some_iff.1 hl.n).1
    rw [List.getElem?_set, if_pos rfl, if_pos this, hn]; simp
   ·show (e.ws.set nx ((c : Int) + 1))[pv]? = _
    rw [List.getElem?_set, if_neg hne, hl.p, hpid]
  ·have hit : i ≠ t := fun e => hlast (by
    subst e
    have := nodup_at hA.nd hj' hla
    omega)
   have hn : nid (A ++ B) j = nid A j := by unfold nid; rw [List.getElem?_append_left (by omega)]
   exact ⟨e, (o i hit hic).trans he, by rw [hn, hpid]; exact hl⟩
 ·have hj' : B[j - A.length]? = some i := by rw [<- hj, List.getElem?_append_right hjA]
  obtain ⟨e, he, hl⟩ := hB.at_ _ i hj'
  have hit : i ≠ t := fun e => hd t htA (e ▸ List.mem_of_getElem? hj')
  have hn : nid (A ++ B) j = nid B (j - A.length) := by
   unfold nid
   rw [List.getElem?_append_right (by omega), show j + 1 - A.length = j - A.length + 1 by omega]
  by_cases hj0 : j = A.length
  ·subst hj0
   rw [Nat.sub_self] at hj' hl hn
   rw [hc] at hj'; cases hj'
   have hp : pid (A ++ B) A.length = t + 1 := by
    obtain ⟨m, hm⟩ : ∃ m, A.length = m + 1 := ⟨A.length - 1, by omega⟩
    rw [hm]
    refine pid_some ?_
    rw [List.getElem?_append_left (by omega), <- hla, hm, Nat.add_sub_cancel]
   refine ⟨_, l2 e he, ⟨hl.tk, ?_, ?_⟩⟩
   ·show (e.ws.set pv ((t : Int) + 1))[nx]? = _
    rw [List.getElem?_set, if_neg (Ne.symm hne), hl.n, hn]
   ·show (e.ws.set pv ((t : Int) + 1))[pv]? = _
    have := (List.getElem?_eq_some_iff.1 hl.p).1
    rw [List.getElem?_set, if_pos rfl, if_pos this, hp]; simp
  ·have hic : i ≠ c := fun e => hj0 (by
    subst e
    have := nodup_at hB.nd hj' hc
    omega)
   have hp : pid (A ++ B) j = pid B (j - A.length) := by
    obtain ⟨m, hm⟩ : ∃ m, j = A.length + (m + 1) := ⟨j - A.length - 1, by omega⟩
    subst hm
    rw [show A.length + (m + 1) - A.length = m + 1 by omega, show A.length + (m + 1) = A.length + m + 1 by omega]
    unfold pid
    simp only
    rw [List.getElem?_append_right (by omega), Nat.add_sub_cancel_left]
   exact ⟨e, (o i hit hic).trans he, by rw [hn, hp]; exact hl⟩
theorem boxed4 {J J1 : AH O} {t1 t2 t3 t4 : TypeId} {c1 c2 c3 c4 : List AV} (h : ((((J.bump 4).put J.next (.cells true t1 c1)).put (J.next + 1) (.cells true t2 c2)).put (J.next + 1 + 1) (.cells true t3 c3)).put (J.next + 1 + 1 + 1) (.cells true t4 c4) = J1) :
  Ext J J1 /\ J1.blk J.next = some (.cells true t1 c1) /\ J1.blk (J.next + 1) = some (.cells true t2 c2) /\ J1.blk (J.next + 1 + 1) = some (.cells true t3 c3) /\ J1.blk (J.next + 1 + 1 + 1) = some (.cells true t4 c4) /\ J1.next = J.next + 4 := by
 subst h
 refine ⟨(((((Ext.refl J).bump 4).put (Nat.le_refl _) _).put (by omega) _).put (by omega) _).put (by omega) _, ?_, ?_, ?_, s_bs, rfl⟩
 ·rw [s_bn (by omega), s_bn (by omega), s_bn (by omega), s_bs]
 ·rw [s_bn (by omega), s_bn (by omega), s_bs]
 ·rw [s_bn (by omega), s_bs]
theorem tjoin_ok {J : AH O} {pb mb : Nat} {M : MemS} {S : PoolS} {w : List Int} {X : List Nat} (h : PoolAt J pb mb M S w X) {nx pv : Nat} (h1 : nx < S.words) (h2 : pv < S.words) (hne : nx ≠ pv) {A B : List Nat} (hA : Linked S.E nx pv A) (hB : Linked S.E nx pv B) (hd : ∀ i ∈ A, i ∉ B) (hm : M.met.r + 100 < 85070591730234615865843651857942052864 /\ M.met.w + 100 < 85070591730234615865843651857942052864)
  (hAl : A.length <= 4194304) (hBl : B.length <= 4194304) :
  Ok (qn4 [tbl S mb nx pv, chn A, chn B] J) fun r => r.1 = .tup [chn (A ++ B), .i .i64 0] /\ ∃ M' w' E' dw, PoolAt r.2 pb mb M' { S with E := E' } w' X /\ SameBut nx pv S.E E' /\ Linked E' nx pv (A ++ B) /\ Wrt M M' S.id w' 0 dw /\ 0 <= dw /\ dw <= 2 /\ Keep X J r.2 /\ ∀ j, j ∉ A -> j ∉ B -> E'[j]? = S.E[j]? := by
 have hw := h.p.words
 have hE4 := h.e4 h1 h2 hne hA hm
 obtain ⟨s1, s2, s3⟩ := hA.small (B := 4194304) hE4
 obtain ⟨s4, s5, s6⟩ := hB.small (B := 4194304) hE4
 simp (maxSteps := 2000000) -implicitDefEqProofs (disch := (first | omega | rfl | assumption | (simp only [rsD]; first | omega | assumption))) only [qn4, qn3, tbl, chn, Nat.reduceAdd, Nat.reduceMul, Nat.reduceLT, Int.reduceToNat, Int.reduceAdd, Int.reduceSub, Int.reduceMul, rsU, rsC]
 generalize hJ : ((((J.bump 4).put J.next (.cells true _ _)).put (J.next + 1) (.cells true _ _)).put (J.next + 1 + 1) (.cells true _ _)).put (J.next + 1 + 1 + 1) (.cells true _ _) = J1
 obtain ⟨E1, b1, c1, d1, f1, n1⟩ := boxed4 hJ
 clear hJ
 have p1 : PoolAt J1 pb mb M S w (J.next :: (J.next + 1) :: (J.next + 1 + 1) :: (J.next + 1 + 1 + 1) :: X) := h.turn (L := []) E1.chg (by simp) fun b hb => by
  simp only [List.mem_cons] at hb
  rcases hb with rfl | rfl | rfl | rfl | hb
  ·exact .inr (by omega)
  ·exact .inr (by omega)
  ·exact .inr (by omega)
  ·exact .inr (by omega)
  ·exact .inl hb
 refine Ok.step (tright_ok (by omega) (by omega) (by omega) (by omega)) fun r ⟨g1, g2⟩ => ?_
 obtain ⟨q, J2⟩ := r
 simp only at g1 g2
 subst g1
 have p2 := p1.ext g2
 have b2 : J2.blk J.next = _ := (g2.blk _ (by omega)).trans b1
 have c2 : J2.blk (J.next + 1) = _ := (g2.blk _ (by omega)).trans c1
 have d2 : J2.blk (J.next + 1 + 1) = _ := (g2.blk _ (by omega)).trans d1
 have f2 : J2.blk (J.next + 1 + 1 + 1) = _ := (g2.blk _ (by omega)).trans f1
 have kx2 : Keep X J J2 := h.mi.tail.keepExt (E1.trans g2)
 have hX : ∀ b ∈ X, b < J.next := fun b hb => h.mi.lt _ (List.mem_cons_of_mem _ hb)
 have fin : ∀ (J' : AH O) (M' : MemS) (w' : List Int) (E' : List PE) (x : Blk O), PoolAt J' pb mb M' { S with E := E' } w' (J.next :: (J.next + 1) :: (J.next + 1 + 1) :: (J.next + 1 + 1 + 1) :: X) -> PoolAt (J'.put (J.next + 1 + 1 + 1) x) pb mb M' { S with E := E' } w' X := fun J' M' w' E' x hp =>
  hp.turn (L := [J.next + 1 + 1 + 1]) ⟨by simp, fun b hb hm => s_bn (by simpa using hm)⟩ (fun b hb => by simp at hb; subst hb; exact .inl (by simp)) fun b hb => .inl (by simp [hb])
 have kfin : ∀ (J' : AH O) (x : Blk O), Keep X J' (J'.put (J.next + 1 + 1 + 1) x) := fun J' x => Keep.put (fun hm => by have := hX _ hm; omega) x
 rcases A with _ | ⟨a, A'⟩
 ·have ez : ((([] : List Nat).length : Nat) : Int) = 0 := rfl
  have ez2 : ((0 : Int) == 0) = true := rfl
  rw [ez] at c2
  simp (maxSteps := 2000000) -implicitDefEqProofs (disch := (first | omega | rfl | assumption | (simp only [rsD]; first | omega | assumption))) only [c2, d2, f2, ez2, Nat.reduceAdd, Nat.reduceMul, Nat.reduceLT, Int.reduceToNat, Int.reduceAdd, Int.reduceSub, Int.reduceMul, rsU, rsC]
  exact Ok_some.2 ⟨by simp [chn], M, w, S.E, 0, fin _ _ _ _ _ p2, SameBut.refl _ _ _, by simpa using hB, Wrt.refl h.now, by omega, by omega, kx2.trans (kfin _ _), fun _ _ _ => rfl⟩
 have ez : (((a :: A').length : Nat) : Int) = (A'.length : Int) + 1 := by simp
 have ez2 : ((A'.length : Int) + 1 == 0) = false := beq_eq_false_iff_ne.2 (by omega)
 rcases B with _ | ⟨c, B'⟩
 ·have ey : ((([] : List Nat).length : Nat) : Int) = 0 := rfl
  have ey2 : ((0 : Int) == 0) = true := rfl
  rw [ez] at c2
  rw [ey] at d2
  simp (maxSteps := 2000000) -implicitDefEqProofs (disch := (first | omega | rfl | assumption | (simp only [rsD]; first | omega | assumption))) only [c2, d2, f2, ez2, ey2, Nat.reduceAdd, Nat.reduceMul, Nat.reduceLT, Int.reduceToNat, Int.reduceAdd, Int.reduceSub, Int.reduceMul, rsU, rsC]
  exact Ok_some.2 ⟨by simp [chn], M, w, S.E, 0, fin _ _ _ _ _ p2, SameBut.refl _ _ _, by simpa using hA, Wrt.refl h.now, by omega, by omega, kx2.trans (kfin _ _), fun _ _ _ => rfl⟩
 have ey : (((c :: B').length : Nat) : Int) = (B'.length : Int) + 1 := by simp
 have ey2 : ((B'.length : Int) + 1 == 0) = false := beq_eq_false_iff_ne.2 (by omega)
 obtain ⟨t, hlast⟩ : ∃ t, (a :: A').getLast? = some t := ⟨_, List.getLast?_cons⟩
 have et : ((tlI (a :: A') : Nat) : Int) = (t : Int) + 1 := by unfold tlI; rw [hlast]; simp
 have eh : ((hdI (c :: B') : Nat) : Int) = (c : Int) + 1 := by simp [hdI]
 have htA : t ∈ (a :: A') := List.mem_of_getLast? hlast
 have hcB : c ∈ (c :: B') := List.mem_cons_self
 have htc : t ≠ c := fun e => hd t htA (e ▸ hcB)
 obtain ⟨jt, hjt⟩ := List.getElem?_of_mem htA
 obtain ⟨y, hy, hyl⟩ := hA.at_ jt t hjt
 obtain ⟨z, hz, hzl⟩ := hB.at_ 0 c rfl
 have htE := (List.getElem?_eq_some_iff.1 hy).1
 have hcE := (List.getElem?_eq_some_iff.1 hz).1
 have hA4 : A'.length <= 4194304 := by simp at hAl; omega
 have hB4 : B'.length <= 4194304 := by simp at hBl; omega
 rw [ez, et] at c2
 rw [ey, eh] at d2
 simp (maxSteps := 2000000) -implicitDefEqProofs (disch := (first | omega | rfl | assumption | (simp only [rsD]; first | omega | assumption))) only [b2, c2, d2, ez2, ey2, Nat.reduceAdd, Nat.reduceMul, Nat.reduceLT, Int.reduceToNat, Int.reduceAdd, Int.reduceSub, Int.reduceMul, rsU, rsC]
 have ts := tset_ok p2 ⟨by omega, by omega⟩ (nx := nx) (pv := pv) (i := t) (k := nx) (x := c + 1) hy hyl.tk h1 (by omega)
 unfold tbl at ts
 rw [show ((c + 1 : Nat) : Int) = (c : Int) + 1 by simp] at ts
 refine Ok.step ts fun r ⟨k1, M3, w3, p3, q3, kp3⟩ => ?_
 obtain ⟨q, J3⟩ := r
 simp only at k1 p3 kp3
 subst k1
 have r3 := q3.r
 have v3 := q3.w
 have b3 : J3.blk J.next = _ := (kp3.blk _ (by simp)).trans b2
 have c3 : J3.blk (J.next + 1) = _ := (kp3.blk _ (by simp)).trans c2
 have d3 : J3.blk (J.next + 1 + 1) = _ := (kp3.blk _ (by simp)).trans d2
 have f3 : J3.blk (J.next + 1 + 1 + 1) = _ := (kp3.blk _ (by simp)).trans f2
 have hz3 : (S.E.set t { y with ws := y.ws.set nx ((c : Int) + 1) })[c]? = some z := by rw [List.getElem?_set, if_neg htc]; exact hz
 simp (maxSteps := 2000000) -implicitDefEqProofs (disch := (first | omega | rfl | assumption | (simp only [rsD]; first | omega | assumption))) only [b3, c3, d3, Nat.reduceAdd, Nat.reduceMul, Nat.reduceLT, Int.reduceToNat, Int.reduceAdd, Int.reduceSub, Int.reduceMul, rsU, rsC]
 have ts := tset_ok p3 ⟨by omega, by omega⟩ (nx := nx) (pv := pv) (i := c) (k := pv) (x := t + 1) hz3 hzl.tk h2 (by omega)
 unfold tbl at ts
 rw [show ((t + 1 : Nat) : Int) = (t : Int) + 1 by simp] at ts
 refine Ok.step ts fun r ⟨k1, M4, w4, p4, q4, kp4⟩ => ?_
 obtain ⟨q, J4⟩ := r
 simp only at k1 p4 kp4
 subst k1
 have c4 : J4.blk (J.next + 1) = _ := (kp4.blk _ (by simp)).trans c3
 have d4 : J4.blk (J.next + 1 + 1) = _ := (kp4.blk _ (by simp)).trans d3
 have f4 : J4.blk (J.next + 1 + 1 + 1) = _ := (kp4.blk _ (by simp)).trans f3
 simp (maxSteps := 2000000) -implicitDefEqProofs (disch := (first | omega | rfl | assumption | (simp only [rsD]; first | omega | assumption))) only [c4, d4, f4, Nat.reduceAdd, Nat.reduceMul, Nat.reduceLT, Int.reduceToNat, Int.reduceAdd, Int.reduceSub, Int.reduceMul, rsU, rsC]
 have kx4 := (kx2.trans kp3.tail.tail.tail.tail).trans kp4.tail.tail.tail.tail
 refine Ok_some.2 ⟨?_, M4, w4, _, 2, fin _ _ _ _ _ p4, ((SameBut.refl nx pv S.E).set hy (.inl rfl)).set hz3 (.inr rfl), hA.join hB hne hd hlast rfl (fun j hj1 hj2 => ?_) (fun x hx => ?_) (fun x hx => ?_), (q3.trans q4).as rfl (by omega) (by omega), by omega, by omega, kx4.trans (kfin _ _), fun j hA hB => by rw [List.getElem?_set, if_neg (fun e : c = j => hB (by rw [<- e]; exact hcB)), List.getElem?_set, if_neg (fun e : t = j => hA (by rw [<- e]; exact htA))]⟩
 ·have e7 : ((tlI (a :: (A' ++ c :: B')) : Nat) : Int) = (tlI (c :: B') : Int) := by
   unfold tlI
   rw [show a :: (A' ++ c :: B') = (a :: A') ++ (c :: B') from rfl, List.getLast?_append]
   cases hh : (c :: B').getLast? with
   | none => simp at hh
   | some v => rfl
  simp [chn, e7, hdI]
  omega
 ·rw [List.getElem?_set, if_neg (Ne.symm hj2), List.getElem?_set, if_neg (Ne.symm hj1)]
 ·rw [hy] at hx; cases hx
  rw [List.getElem?_set, if_neg (Ne.symm htc), List.getElem?_set, if_pos rfl, if_pos htE]
 ·rw [hz] at hx; cases hx
  rw [List.getElem?_set, if_pos rfl, if_pos (by rw [List.length_set]; exact hcE)]
end Go.Abs.Tryz
