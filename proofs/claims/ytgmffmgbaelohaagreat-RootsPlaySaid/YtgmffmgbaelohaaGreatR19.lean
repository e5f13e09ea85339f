/-
  The document of layer 18: handles, as a list. No conditions.
-/
import Derived.Test.YtgmffmgbaelohaaGreatR10
import Derived.Test.YtgmffmgbaelohaaGreatM18
import Derived.Test.YtgmffmgbaelohaaGreatM17
import Derived.Test.YtgmffmgbaelohaaGreatM10
set_option linter.unusedVariables false
set_option linter.unusedSimpArgs false
set_option linter.constructorNameAsVariable false
set_option linter.unusedSimpArgs false
set_option linter.unusedVariables false
set_option linter.unusedSectionVars false
set_option maxHeartbeats 2000000
namespace Go.Abs.Tryz
open Go Go.Abs
variable {O : Type}
structure HS where
 D : DS
 L : List (Int × Int)
def hcell (p : Int × Int) : List AV := [.i .i64 p.1, .i .u64 p.2]
theorem hcell_len (p : Int × Int) : (hcell p).length = 2 := rfl
theorem hcell_flat (l : List (Int × Int)) : (l.flatMap hcell).all AV.flat = true := by
 induction l with
 | nil => rfl
 | cons p l ih => rw [List.flatMap_cons, List.all_append, ih]; rfl
theorem fm_drop {α : Type} {enc : α -> List AV} {k : Nat} (hk : ∀ x, (enc x).length = k) : ∀ (l : List α) (i : Nat), (l.flatMap enc).drop (i * k) = (l.drop i).flatMap enc
 | l, 0 => by simp
 | [], i + 1 => by simp
 | x :: l, i + 1 => by
  have e : (enc x).drop ((i + 1) * k) = [] := List.drop_eq_nil_of_le (by rw [hk, Nat.succ_mul]; omega)
  rw [List.drop_succ_cons, <- fm_drop hk l i, List.flatMap_cons, List.drop_append, e, hk, Nat.succ_mul, Nat.add_sub_cancel]; rfl
theorem fm_take {α : Type} {enc : α -> List AV} {k : Nat} (hk : ∀ x, (enc x).length = k) : ∀ (l : List α) (i : Nat), (l.take i).flatMap enc = (l.flatMap enc).take (i * k)
 | l, 0 => by simp
 | [], i + 1 => by simp
 | x :: l, i + 1 => by
  have e : (enc x).take ((i + 1) * k) = enc x := List.take_of_length_le (by rw [hk, Nat.succ_mul]; omega)
  rw [List.take_succ_cons, List.flatMap_cons, List.flatMap_cons, fm_take hk l i, List.take_append, e, hk, Nat.succ_mul, Nat.add_sub_cancel]
def DS.vs (S : DS) (a b : SA) : List AV := [.i .i64 S.words, .sl a S.L.length, .sl b S.free.length, .i .i64 S.room]
def HS.vs (S : HS) (a b c : SA) : List AV := [.i .i64 S.D.words, .sl a S.D.L.length, .sl b S.D.free.length, .i .i64 S.D.room, .sl c S.L.length]
structure HS.st (S : HS) (a b c : SA) : Prop where
 d : S.D.at_ (.agg (S.D.vs a b))
 l : Imm 2 c S.L.length (S.L.flatMap hcell)
def HS.at_ (S : HS) (v : AV) : Prop := ∃ a b c, v = .agg (S.vs a b c) /\ S.st a b c
theorem DS.sl {S : DS} {v : AV} (h : S.at_ v) : ∃ a b, v = .agg (S.vs a b) := by
 obtain ⟨a, b, rfl, ha, hb⟩ := h
 obtain ⟨sa, va, rfl, _, _⟩ := Im.rd ha
 obtain ⟨sb, vb, rfl, _, _⟩ := Im.rd hb
 exact ⟨sa, sb, rfl⟩
theorem DS.flat {S : DS} {a b : SA} (h : S.at_ (.agg (S.vs a b))) : (AV.sl a S.L.length).flat = true /\ (AV.sl b S.free.length).flat = true := by
 obtain ⟨x, y, e, hx, hy⟩ := h
 simp only [DS.vs, AV.agg.injEq, List.cons.injEq, true_and, and_true] at e
 obtain ⟨rfl, rfl⟩ := e
 exact ⟨hx.flat, hy.flat⟩
theorem HS.fz (n : Nat) {J : AH O} {S : HS} {a b c : SA} {el : Nat} (d : S.D.at_ (.agg (S.D.vs a b))) (o : OwnS J el 2 c S.L.length (S.L.flatMap hcell)) : ∃ v', FZ (n + 3) J.blk (SA.bk c) (.agg (S.vs a b c)) v' /\ S.at_ v' := by
 obtain ⟨f1, f2⟩ := DS.flat d
 obtain ⟨c', f, m⟩ := FZ.sl (d := n) o (fun _ _ => rfl) (FZL.flat (hcell_flat _)) rfl (by simp)
 have h := FZL.cons0 (v := .i .i64 S.D.words) (FZ.flat rfl) (FZL.cons0 (FZ.flat f1) (FZL.cons0 (FZ.flat f2) (FZL.cons0 (v := .i .i64 S.D.room) (FZ.flat rfl) (FZL.cons f FZL.nil (by simp)))))
 simp only [List.append_nil] at h
 exact ⟨_, FZ.agg h, a, b, c', rfl, d, m⟩
theorem HS.fz0 {J : AH O} {S : HS} {a b c : SA} (h : S.st a b c) : FZ 7 J.blk [] (.agg (S.vs a b c)) (.agg (S.vs a b c)) := by
 obtain ⟨f1, f2⟩ := DS.flat h.d
 have f3 := h.l.flat
 exact FZ.agg (FZL.flat (by simp only [HS.vs, List.all_cons, List.all_nil, f1, f2, f3, Bool.and_true, Bool.true_and]; rfl))
theorem HS.st.at {S : HS} {a b c : SA} (h : S.st a b c) : S.at_ (.agg (S.vs a b c)) := ⟨a, b, c, rfl, h⟩
def HS.at (S : HS) (t : Int) : Option Nat := S.L.findIdx? fun p => p.1 == t
def HS.atI (S : HS) (t : Int) : Int := match S.at t with | some i => (i : Int) | none => -1
theorem HS.at_some {S : HS} {t : Int} {i : Nat} (h : S.at t = some i) : ∃ x, S.L[i]? = some (t, x) /\ i < S.L.length /\ ∀ (j : Nat) (p : Int × Int), j < i -> S.L[j]? = some p -> p.1 ≠ t := by
 unfold HS.at at h
 rw [List.findIdx?_eq_some_iff_getElem] at h
 obtain ⟨hi, h1, h2⟩ := h
 refine ⟨S.L[i].2, ?_, hi, fun j p hj hp => ?_⟩
 ·rw [List.getElem?_eq_getElem hi]
  rw [beq_iff_eq] at h1
  rw [<- h1]
 ·have := h2 j hj
  have hl := (List.getElem?_eq_some_iff.1 hp).2
  rw [hl] at this
  simpa using this
theorem HS.at_none {S : HS} {t : Int} (h : S.at t = none) : ∀ (j : Nat) (p : Int × Int), S.L[j]? = some p -> p.1 ≠ t := fun j p hp => by
 unfold HS.at at h
 rw [List.findIdx?_eq_none_iff] at h
 have := h p (List.mem_of_getElem? hp)
 simpa using this
theorem rhat_ok {J : AH O} {S : HS} {a b c : SA} (h : S.st a b c) {t : Int} (hl : S.L.length <= 1000) : Ok (haymowref18_At [.agg (S.vs a b c), .i .i64 t] J) fun r => r.1 = .i .i64 (S.atI t) /\ Ext J r.2 := by
 simp (maxSteps := 2000000) -implicitDefEqProofs (disch := (first | omega | rfl | assumption | (simp only [rsD]; first | omega | assumption))) only [haymowref18_At, haymowref18_At_c, HS.vs, Nat.reduceAdd, Nat.reduceMul, Nat.reduceLT, Int.reduceToNat, Int.reduceAdd, Int.reduceSub, Int.reduceMul, rsU, rsC]
 generalize hJ : (J.bump 1).put J.next (.cells true _ _) = J1
 obtain ⟨E1, b1, n1⟩ := boxed hJ
 clear hJ
 have row : ∀ {i : Nat} {p : Int × Int}, S.L[i]? = some p -> ∃ q o, SA.ref c = some (q, o) /\ J1.ld q (o + i * 2) = some (.i .i64 p.1) := fun hp => by
  obtain ⟨q, o, rfl, hld⟩ := Imm.row hcell_len h.l hp (by decide)
  exact ⟨q, o, rfl, hld O J1 0 (by decide)⟩
 have stp : ∀ {i : Nat} {p : Int × Int}, S.L[i]? = some p -> haymowref18_At_L1 J t ([.i .i64 (i : Int)], J1) = if p.1 = t then some (.inr (.inr (.i .i64 (i : Int), J1))) else some (.inl ([.i .i64 ((i : Int) + 1)], J1)) := fun {i p} hp => by
  have hi := (List.getElem?_eq_some_iff.1 hp).1
  obtain ⟨q, o, hr, hq⟩ := row hp
  split
  ·rename_i e
   have q1 := s_eqT e
   simp (maxSteps := 2000000) -implicitDefEqProofs (disch := (first | omega | rfl | assumption | (simp only [rsD]; first | omega | assumption))) only [haymowref18_At_L1, b1, hr, hq, q1, Nat.reduceAdd, Nat.reduceMul, Nat.reduceLT, Int.reduceToNat, Int.reduceAdd, Int.reduceSub, Int.reduceMul, rsU, rsC]
  ·rename_i e
   have q1 := s_eqF e
   simp (maxSteps := 2000000) -implicitDefEqProofs (disch := (first | omega | rfl | assumption | (simp only [rsD]; first | omega | assumption))) only [haymowref18_At_L1, b1, hr, hq, q1, Nat.reduceAdd, Nat.reduceMul, Nat.reduceLT, Int.reduceToNat, Int.reduceAdd, Int.reduceSub, Int.reduceMul, rsU, rsC]
 unfold HS.atI
 cases ha : S.at t with
 | some i =>
  obtain ⟨x, hx, hi, ho⟩ := HS.at_some ha
  refine Ok.bindS (Q := fun r => r = .inr (.i .i64 (i : Int), J1)) ?_ (fun s h => by cases h) (fun r h => by cases h; exact ⟨rfl, E1⟩)
  refine Ok.count i (fun k s => s = ([.i .i64 (k : Int)], J1)) ?_ ?_ rfl
  ·rintro k s hk rfl
   have hk' := List.getElem?_eq_getElem (show k < S.L.length by omega)
   rw [stp hk', if_neg (ho k _ hk hk')]
   exact Ok_some.2 (by simp)
  ·rintro s rfl
   rw [stp hx, if_pos rfl]
   exact Ok_some.2 rfl
 | none =>
  refine Ok.bindS (Q := fun r => r = .inl ([], J1)) ?_ (fun s h => by cases h; exact Ok_some.2 ⟨rfl, E1⟩) (fun r h => by cases h)
  refine Ok.count S.L.length (fun k s => s = ([.i .i64 (k : Int)], J1)) ?_ ?_ rfl
  ·rintro k s hk rfl
   have hk' := List.getElem?_eq_getElem hk
   rw [stp hk', if_neg (HS.at_none ha k _ hk')]
   exact Ok_some.2 (by simp)
  ·rintro s rfl
   simp (maxSteps := 2000000) -implicitDefEqProofs (disch := (first | omega | rfl | assumption | (simp only [rsD]; first | omega | assumption))) only [haymowref18_At_L1, b1, Nat.reduceAdd, Nat.reduceMul, Nat.reduceLT, Int.reduceToNat, Int.reduceAdd, Int.reduceSub, Int.reduceMul, rsU, rsC]
   exact Ok_some.2 rfl
theorem rhadd_ok {J : AH O} {S : HS} {a b c : SA} (h : S.st a b c) (hl : S.L.length <= 1000) {D' : DS} {i g : Nat} {e : DE} {x : Int}
  (ht : ∀ J' : AH O, Ok (haymowref10_Take [.agg (S.D.vs a b)] J') fun r => (∃ v', r.1 = .tup [v', .i .i64 ((i : Int) + 1)] /\ D'.at_ v') /\ Ext J' r.2) (he : D'.L[i]? = some e) (hge : e.gen = (g : Int)) (hg : g <= 1000) (hi : i <= 1000) (hD : D'.L.length <= 1000) :
  Ok (haymowref18_Add [.agg (S.vs a b c), .i .u64 x] J) fun r => (∃ v', r.1 = .tup [v', .i .i64 (tok i g)] /\ HS.at_ ⟨D', S.L ++ [(tok i g, x)]⟩ v') /\ Ext J r.2 := by
 refine frz_ok (Q := fun v => ∃ v', v = .tup [v', .i .i64 (tok i g)] /\ HS.at_ ⟨D', S.L ++ [(tok i g, x)]⟩ v') ?_
 simp (maxSteps := 2000000) -implicitDefEqProofs (disch := (first | omega | rfl | assumption | (simp only [rsD]; first | omega | assumption))) only [haymowref18_Add_c, HS.vs, Nat.reduceAdd, Nat.reduceMul, Nat.reduceLT, Int.reduceToNat, Int.reduceAdd, Int.reduceSub, Int.reduceMul, rsU, rsC]
 generalize hJ : AH.put _ (J.next + 1) _ = J1
 have E1 : Ext J J1 := by rw [<- hJ]; exact ((((Ext.refl J).bump 2).put (Nat.le_refl _) _).put (by omega) _)
 have n1 : J1.next = J.next + 2 := by rw [<- hJ]; rfl
 have b0 : J1.blk J.next = some (.cells true T_haymowref18_State (S.vs a b c)) := by rw [<- hJ]; exact (s_bn (by omega)).trans s_bs
 have b1 : J1.blk (J.next + 1) = some (.cells true T_haymowref18_State [.i .i64 0, .sl .nil 0, .sl .nil 0, .i .i64 0, .sl .nil 0]) := by rw [<- hJ]; exact s_bs
 clear hJ
 simp only [HS.vs] at b0
 have ht := ht J1
 simp only [DS.vs] at ht
 refine Ok.step ht fun r ⟨⟨v', g1, g2⟩, E2⟩ => ?_
 obtain ⟨q, J2⟩ := r
 simp only at g1 E2
 subst g1
 obtain ⟨a2, b2, rfl⟩ := DS.sl g2
 obtain ⟨x1, x2, e12, ha, hb⟩ := id g2
 simp only [DS.vs, AV.agg.injEq, List.cons.injEq, true_and, and_true] at e12
 obtain ⟨rfl, rfl⟩ := e12
 obtain ⟨sa, va, e3, ia, ca⟩ := Im.rd ha
 cases e3
 obtain ⟨_, cg, _⟩ := DS.cells_ ca he
 have hiD := (List.getElem?_eq_some_iff.1 he).1
 obtain ⟨bb, oo, rfl, hld⟩ := (ia O J2).ref hiD
 have hld : ∀ J' : AH O, J'.ld bb (oo + i * 3 + 1) = some (.i .i64 e.gen) := fun J' => by
  obtain ⟨b2, o2, e2, hld⟩ := (ia O J').ref hiD
  cases e2
  exact (hld 1 (by decide)).trans cg
 have c0 : J2.blk J.next = _ := (E2.blk _ (by omega)).trans b0
 have c1 : J2.blk (J.next + 1) = _ := (E2.blk _ (by omega)).trans b1
 have n2 := E2.next
 have v0 : (i : Int) + 1 - 1 = i := by omega
 have tk : (i : Int) + 1048576 * e.gen = tok i g := by rw [hge]; unfold tok; omega
 have rs := fun J : AH O => (h.l O J).rdSl
 simp (maxSteps := 2000000) -implicitDefEqProofs (disch := (first | omega | rfl | assumption | (simp only [rsD]; first | omega | assumption))) only [DS.vs, c0, v0, hld, tk, rs, Nat.reduceAdd, Nat.reduceMul, Nat.reduceLT, Int.reduceToNat, Int.reduceAdd, Int.reduceSub, Int.reduceMul, rsU, rsC]
 generalize hJ : ((J2.put J.next _).bump 4).put J2.next _ = J3
 have n3 : J3.next = J2.next + 4 := by rw [<- hJ]; rfl
 have d0 : J3.blk J.next = some (.cells true T_haymowref18_State (HS.vs ⟨D', S.L⟩ (.loc bb oo 3) b2 c)) := by rw [<- hJ]; exact (s_bn (by omega)).trans s_bs
 have b3 : J3.blk J2.next = some (.cells true T_haymowref18_Handle []) := by rw [<- hJ]; exact s_bs
 have o3 : ∀ q, q ≠ J.next -> q ≠ J2.next -> J3.blk q = J2.blk q := fun q h1 h2 => by rw [<- hJ]; exact (s_bn h2).trans (s_bn h1)
 clear hJ
 simp only [HS.vs] at d0
 have own3 : OwnS J3 T_haymowref18_Handle 2 (.loc (.n J2.next) 0 2) 0 [] := OwnS.new rfl b3 (by omega)
 refine Ok.step (app_ok (nid := J2.next + 1) own3 (by simp [SA.bk]) (by omega) (show (S.L.flatMap hcell).length = S.L.length * 2 from fm_len hcell_len _)) fun q ⟨a3, m1, m2, m3, m4, m5⟩ => ?_
 obtain ⟨q, J4⟩ := q
 simp only at m1 m2 m3 m4
 subst m1
 rw [Nat.zero_add, List.nil_append] at m2
 simp (maxSteps := 2000000) -implicitDefEqProofs (disch := (first | omega | rfl | assumption | (simp only [rsD]; first | omega | assumption))) only [Nat.zero_add, Nat.reduceAdd, Nat.reduceMul, Nat.reduceLT, Int.reduceToNat, Int.reduceAdd, Int.reduceSub, Int.reduceMul, rsU, rsC]
 generalize hJ : J4.put (J2.next + 1 + 1) _ = J5
 have n5 : J5.next = J4.next := by rw [<- hJ]; rfl
 have o5 : ∀ q, q ≠ J2.next + 1 + 1 -> J5.blk q = J4.blk q := fun q h1 => by rw [<- hJ]; exact s_bn h1
 have b5 : J5.blk (J2.next + 1 + 1) = some (.cells true T_haymowref18_Handle [.i .i64 (tok i g), .i .u64 x]) := by rw [<- hJ]; exact s_bs
 clear hJ
 have rd5 : J5.rdSl (.loc (.n (J2.next + 1 + 1)) 0 2) 1 2 = some [.i .i64 (tok i g), .i .u64 x] := (OwnS.new (el := T_haymowref18_Handle) (n := 1) (es := 2) rfl b5 (by omega)).rd.rdSl
 have m2' := m2.of (J' := J5) (by omega) fun q hq => o5 q (by have := m5 q hq; omega)
 refine Ok.step (app_ok (nid := J2.next + 1 + 1 + 1) m2' (fun hm => by have := m5 _ hm; omega) (by omega) (show ([.i .i64 (tok i g), .i .u64 x] : List AV).length = 1 * 2 from rfl)) fun q ⟨a4, k1, k2, k3, k4, k5⟩ => ?_
 obtain ⟨q, J6⟩ := q
 simp only at k1 k2 k3 k4
 subst k1
 have e0 : J6.blk J.next = _ := (k4 _ (by omega) (fun hm => by have := m5 _ hm; omega)).trans ((o5 _ (by omega)).trans ((m4 _ (by omega) (by simp [SA.bk]; omega)).trans d0))
 have e1 : J6.blk (J.next + 1) = _ := (k4 _ (by omega) (fun hm => by have := m5 _ hm; omega)).trans ((o5 _ (by omega)).trans ((m4 _ (by omega) (by simp [SA.bk]; omega)).trans ((o3 _ (by omega) (by omega)).trans c1)))
 simp (maxSteps := 2000000) -implicitDefEqProofs (disch := (first | omega | rfl | assumption | (simp only [rsD]; first | omega | assumption))) only [e0, e1, Nat.reduceAdd, Nat.reduceMul, Nat.reduceLT, Int.reduceToNat, Int.reduceAdd, Int.reduceSub, Int.reduceMul, rsU, rsC]
 have hE : S.L.flatMap hcell ++ [.i .i64 (tok i g), .i .u64 x] = (S.L ++ [(tok i g, x)]).flatMap hcell := by simp [hcell]
 have hlen : S.L.length + 1 = (S.L ++ [(tok i g, x)]).length := by simp
 rw [hE, hlen] at k2
 generalize hJ : (J6.put J.next _).put (J.next + 1) _ = J7
 have n7 : J7.next = J6.next := by rw [<- hJ]; rfl
 have o7 : ∀ q, q ≠ J.next -> q ≠ J.next + 1 -> J7.blk q = J6.blk q := fun q h1 h2 => by rw [<- hJ]; exact (s_bn h2).trans (s_bn h1)
 clear hJ
 have own7 := k2.of (J' := J7) (by omega) fun q hq => o7 q (by have := k5 q hq; omega) (by have := k5 q hq; omega)
 obtain ⟨v', z1, z2⟩ := HS.fz 4 (S := ⟨D', S.L ++ [(tok i g, x)]⟩) g2 own7
 simp only [HS.vs] at z1
 rw [<- hlen] at z1
 refine Ok_some.2 ⟨_, _, DS.fzt z1, fun q hq => ?_, ⟨by show J.next <= J7.next; omega, fun q hq => ?_⟩, v', rfl, z2⟩
 ·have := k5 q hq; omega
 ·show J7.blk q = _
  rw [o7 q (by omega) (by omega), k4 q (by omega) (fun hm => by have := m5 _ hm; omega), o5 q (by omega), m4 q (by omega) (by simp [SA.bk]; omega), o3 q (by omega) (by omega), E2.blk q (by omega), E1.blk q hq]
def HS.drop (S : HS) (t : Int) : HS := match S.at t with
 | none => S
 | some i => ⟨(S.D.give (Int.tmod t 1048576 + 1)).1, S.L.take i ++ S.L.drop (i + 1)⟩
def HS.set (S : HS) (t x : Int) : HS := match S.at t with
 | none => S
 | some i => { S with L := S.L.set i (t, x) }
def HS.code (S : HS) (t : Int) : Int := match S.at t with | none => 30 | some _ => 0
theorem rhdrop_ok {J : AH O} {S : HS} {a b c : SA} (h : S.st a b c) (hl : S.L.length <= 1000) (hs : S.D.small) (hgn : ∀ e ∈ S.D.L, 0 <= e.gen /\ e.gen <= 1000) {t : Int} (ht : -9223372036854775808 <= t /\ t <= 9223372036854775807) :
  Ok (haymowref18_Drop [.agg (S.vs a b c), .i .i64 t] J) fun r => (∃ v', r.1 = .tup [v', .i .i64 (S.code t)] /\ (S.drop t).at_ v') /\ Ext J r.2 := by
 refine frz_ok (Q := fun v => ∃ v', v = .tup [v', .i .i64 (S.code t)] /\ (S.drop t).at_ v') ?_
 simp (maxSteps := 2000000) -implicitDefEqProofs (disch := (first | omega | rfl | assumption | (simp only [rsD]; first | omega | assumption))) only [haymowref18_Drop_c, HS.vs, Nat.reduceAdd, Nat.reduceMul, Nat.reduceLT, Int.reduceToNat, Int.reduceAdd, Int.reduceSub, Int.reduceMul, rsU, rsC]
 generalize hJ : AH.put _ (J.next + 1) _ = J1
 obtain ⟨E1, n1, b0, b1⟩ := box2 hJ
 clear hJ
 have hat := rhat_ok (J := J1) h (t := t) hl
 simp only [HS.vs] at hat
 refine Ok.step hat fun r ⟨g1, E2⟩ => ?_
 obtain ⟨q, J2⟩ := r
 simp only at g1 E2
 subst g1
 have c0 : J2.blk J.next = _ := (E2.blk _ (by omega)).trans b0
 have c1 : J2.blk (J.next + 1) = _ := (E2.blk _ (by omega)).trans b1
 have n2 := E2.next
 unfold HS.atI HS.drop HS.code
 cases ha : S.at t with
 | none =>
  simp only
  simp (maxSteps := 2000000) -implicitDefEqProofs (disch := (first | omega | rfl | assumption | (simp only [rsD]; first | omega | assumption))) only [c0, c1, Nat.reduceAdd, Nat.reduceMul, Nat.reduceLT, Int.reduceToNat, Int.reduceAdd, Int.reduceSub, Int.reduceMul, rsU, rsC]
  have fz0 := HS.fz0 (J := J2.put (J.next + 1) (.cells true T_haymowref18_State (S.vs a b c))) h
  simp only [HS.vs] at fz0
  exact Ok_some.2 ⟨_, [], DS.fzt fz0, by simp, (E1.trans E2).put (by omega) _, _, rfl, h.at⟩
 | some i =>
  simp only
  obtain ⟨x, hx, hi, ho⟩ := HS.at_some ha
  obtain ⟨c2, v2, i2⟩ := h.l.adv (lo := 0) (m := i) (by omega)
  rw [Nat.zero_mul, List.drop_zero] at i2
  obtain ⟨c3, v3, i3⟩ := h.l.adv (lo := i + 1) (m := S.L.length - (i + 1)) (by omega)
  have tn : ((i : Int) + 1).toNat = i + 1 := by omega
  have rs2 := fun J : AH O => (i2 O J).rdSl
  have rs3 := fun J : AH O => (i3 O J).rdSl
  have tr : -1048576 < Int.tmod t 1048576 /\ Int.tmod t 1048576 < 1048576 := ⟨by have := Int.lt_tmod_of_pos t (show (0 : Int) < 1048576 by decide); omega, Int.tmod_lt_of_pos t (by decide)⟩
  simp (maxSteps := 2000000) -implicitDefEqProofs (disch := (first | omega | rfl | assumption | (simp only [rsD]; first | omega | assumption))) only [c0, v2, v3, tn, Nat.sub_zero, rs2, Nat.reduceAdd, Nat.reduceMul, Nat.reduceLT, Int.reduceToNat, Int.reduceAdd, Int.reduceSub, Int.reduceMul, rsU, rsC]
  generalize hJ : (J2.bump 3).put J2.next _ = J3
  have n3 : J3.next = J2.next + 3 := by rw [<- hJ]; rfl
  have b3 : J3.blk J2.next = some (.cells true T_haymowref18_Handle []) := by rw [<- hJ]; exact s_bs
  have o3 : ∀ q, q ≠ J2.next -> J3.blk q = J2.blk q := fun q h2 => by rw [<- hJ]; exact s_bn h2
  clear hJ
  have own3 : OwnS J3 T_haymowref18_Handle 2 (.loc (.n J2.next) 0 2) 0 [] := OwnS.new rfl b3 (by omega)
  refine Ok.step (app_ok (nid := J2.next + 1) own3 (by simp [SA.bk]) (by omega) i2.len) fun q ⟨a3, m1, m2, m3, m4, m5⟩ => ?_
  obtain ⟨q, J4⟩ := q
  simp only at m1 m2 m3 m4
  subst m1
  rw [Nat.zero_add, List.nil_append] at m2
  have d0 : J4.blk J.next = _ := (m4 _ (by omega) (by simp [SA.bk]; omega)).trans ((o3 _ (by omega)).trans c0)
  have d1 : J4.blk (J.next + 1) = _ := (m4 _ (by omega) (by simp [SA.bk]; omega)).trans ((o3 _ (by omega)).trans c1)
  simp (maxSteps := 2000000) -implicitDefEqProofs (disch := (first | omega | rfl | assumption | (simp only [rsD]; first | omega | assumption))) only [d0, Nat.zero_add, rs3, Nat.reduceAdd, Nat.reduceMul, Nat.reduceLT, Int.reduceToNat, Int.reduceAdd, Int.reduceSub, Int.reduceMul, rsU, rsC]
  refine Ok.step (app_ok (nid := J2.next + 1 + 1) m2 (fun hm => by have := m5 _ hm; omega) (by omega) i3.len) fun q ⟨a4, k1, k2, k3, k4, k5⟩ => ?_
  obtain ⟨q, J5⟩ := q
  simp only at k1 k2 k3 k4
  subst k1
  have e0 : J5.blk J.next = _ := (k4 _ (by omega) (fun hm => by have := m5 _ hm; omega)).trans d0
  have e1 : J5.blk (J.next + 1) = _ := (k4 _ (by omega) (fun hm => by have := m5 _ hm; omega)).trans d1
  simp (maxSteps := 2000000) -implicitDefEqProofs (disch := (first | omega | rfl | assumption | (simp only [rsD]; first | omega | assumption))) only [e0, Nat.reduceAdd, Nat.reduceMul, Nat.reduceLT, Int.reduceToNat, Int.reduceAdd, Int.reduceSub, Int.reduceMul, rsU, rsC]
  have hg := rgive_ok (J := J5.put J.next (.cells true T_haymowref18_State [.i .i64 S.D.words, .sl a S.D.L.length, .sl b S.D.free.length, .i .i64 S.D.room, .sl a4 (i + (S.L.length - (i + 1)))])) hs hgn h.d (id := Int.tmod t 1048576 + 1) (by omega)
  simp only [DS.vs] at hg
  refine Ok.step hg fun r ⟨⟨v', g1, g2⟩, E6⟩ => ?_
  obtain ⟨q, J6⟩ := r
  simp only at g1 E6
  subst g1
  obtain ⟨a6, b6, rfl⟩ := DS.sl g2
  have n6 := E6.next
  simp only [rsD] at n6
  have f0 := E6.blk J.next (by simp only [rsD]; omega)
  rw [s_bs] at f0
  have f1 := E6.blk (J.next + 1) (by simp only [rsD]; omega)
  rw [s_bn (by omega), e1] at f1
  simp (maxSteps := 2000000) -implicitDefEqProofs (disch := (first | omega | rfl | assumption | (simp only [rsD]; first | omega | assumption))) only [DS.vs, f0, f1, Nat.reduceAdd, Nat.reduceMul, Nat.reduceLT, Int.reduceToNat, Int.reduceAdd, Int.reduceSub, Int.reduceMul, rsU, rsC]
  have hE : (S.L.flatMap hcell).take (i * 2) ++ ((S.L.flatMap hcell).drop ((i + 1) * 2)).take ((S.L.length - (i + 1)) * 2) = (S.L.take i ++ S.L.drop (i + 1)).flatMap hcell := by
   rw [List.flatMap_append]
   congr 1
   ·exact (fm_take hcell_len _ _).symm
   ·rw [fm_drop hcell_len, List.take_of_length_le]
    rw [fm_len hcell_len, List.length_drop]; omega
  have hlen : i + (S.L.length - (i + 1)) = (S.L.take i ++ S.L.drop (i + 1)).length := by simp; omega
  rw [hE, hlen] at k2
  generalize hJ : (J6.put J.next _).put (J.next + 1) _ = J7
  have n7 : J7.next = J6.next := by rw [<- hJ]; rfl
  have o7 : ∀ q, q ≠ J.next -> q ≠ J.next + 1 -> J7.blk q = J6.blk q := fun q h1 h2 => by rw [<- hJ]; exact (s_bn h2).trans (s_bn h1)
  clear hJ
  have o6 : ∀ q, q < J5.next -> q ≠ J.next -> J6.blk q = J5.blk q := fun q h1 h2 => (E6.blk q (by simpa using h1)).trans (s_bn h2)
  have own7 := k2.of (J' := J7) (by omega) fun q hq => (o7 q (by have := k5 q hq; omega) (by have := k5 q hq; omega)).trans (o6 q (by have := k2.lt q hq; omega) (by have := k5 q hq; omega))
  obtain ⟨v', z1, z2⟩ := HS.fz 4 (S := ⟨(S.D.give (Int.tmod t 1048576 + 1)).1, S.L.take i ++ S.L.drop (i + 1)⟩) g2 own7
  simp only [HS.vs] at z1
  rw [<- hlen] at z1
  refine Ok_some.2 ⟨_, _, DS.fzt z1, fun q hq => ?_, ⟨by show J.next <= J7.next; omega, fun q hq => ?_⟩, v', rfl, z2⟩
  ·have := k5 q hq; omega
  ·show J7.blk q = _
   rw [o7 q (by omega) (by omega), o6 q (by omega) (by omega), k4 q (by omega) (fun hm => by have := m5 _ hm; omega), m4 q (by omega) (by simp [SA.bk]; omega), o3 q (by omega), E2.blk q (by omega), E1.blk q hq]
theorem rhset_ok {J : AH O} {S : HS} {a b c : SA} (h : S.st a b c) (hl : S.L.length <= 1000) {t x : Int} :
  Ok (haymowref18_Set [.agg (S.vs a b c), .i .i64 t, .i .u64 x] J) fun r => (∃ v', r.1 = .tup [v', .i .i64 (S.code t)] /\ (S.set t x).at_ v') /\ Ext J r.2 := by
 refine frz_ok (Q := fun v => ∃ v', v = .tup [v', .i .i64 (S.code t)] /\ (S.set t x).at_ v') ?_
 simp (maxSteps := 2000000) -implicitDefEqProofs (disch := (first | omega | rfl | assumption | (simp only [rsD]; first | omega | assumption))) only [haymowref18_Set_c, HS.vs, Nat.reduceAdd, Nat.reduceMul, Nat.reduceLT, Int.reduceToNat, Int.reduceAdd, Int.reduceSub, Int.reduceMul, rsU, rsC]
 generalize hJ : AH.put _ (J.next + 1) _ = J1
 obtain ⟨E1, n1, b0, b1⟩ := box2 hJ
 clear hJ
 have hat := rhat_ok (J := J1) h (t := t) hl
 simp only [HS.vs] at hat
 refine Ok.step hat fun r ⟨g1, E2⟩ => ?_
 obtain ⟨q, J2⟩ := r
 simp only at g1 E2
 subst g1
 have c0 : J2.blk J.next = _ := (E2.blk _ (by omega)).trans b0
 have c1 : J2.blk (J.next + 1) = _ := (E2.blk _ (by omega)).trans b1
 have n2 := E2.next
 unfold HS.atI HS.set HS.code
 cases ha : S.at t with
 | none =>
  simp only
  simp (maxSteps := 2000000) -implicitDefEqProofs (disch := (first | omega | rfl | assumption | (simp only [rsD]; first | omega | assumption))) only [c0, c1, Nat.reduceAdd, Nat.reduceMul, Nat.reduceLT, Int.reduceToNat, Int.reduceAdd, Int.reduceSub, Int.reduceMul, rsU, rsC]
  have fz0 := HS.fz0 (J := J2.put (J.next + 1) (.cells true T_haymowref18_State (S.vs a b c))) h
  simp only [HS.vs] at fz0
  exact Ok_some.2 ⟨_, [], DS.fzt fz0, by simp, (E1.trans E2).put (by omega) _, _, rfl, h.at⟩
 | some i =>
  simp only
  obtain ⟨y, hx, hi, ho⟩ := HS.at_some ha
  have rs := fun J : AH O => (h.l O J).rdSl
  simp (maxSteps := 2000000) -implicitDefEqProofs (disch := (first | omega | rfl | assumption | (simp only [rsD]; first | omega | assumption))) only [c0, rs, Nat.reduceAdd, Nat.reduceMul, Nat.reduceLT, Int.reduceToNat, Int.reduceAdd, Int.reduceSub, Int.reduceMul, rsU, rsC]
  generalize hJ : (J2.bump 2).put J2.next _ = J3
  have n3 : J3.next = J2.next + 2 := by rw [<- hJ]; rfl
  have b3 : J3.blk J2.next = some (.cells true T_haymowref18_Handle []) := by rw [<- hJ]; exact s_bs
  have o3 : ∀ q, q ≠ J2.next -> J3.blk q = J2.blk q := fun q h2 => by rw [<- hJ]; exact s_bn h2
  clear hJ
  have own3 : OwnS J3 T_haymowref18_Handle 2 (.loc (.n J2.next) 0 2) 0 [] := OwnS.new rfl b3 (by omega)
  refine Ok.step (app_ok (nid := J2.next + 1) own3 (by simp [SA.bk]) (by omega) h.l.len) fun q ⟨a3, m1, m2, m3, m4, m5⟩ => ?_
  obtain ⟨q, J4⟩ := q
  simp only at m1 m2 m3 m4
  subst m1
  rw [Nat.zero_add, List.nil_append] at m2
  have d0 : J4.blk J.next = _ := (m4 _ (by omega) (by simp [SA.bk]; omega)).trans ((o3 _ (by omega)).trans c0)
  have d1 : J4.blk (J.next + 1) = _ := (m4 _ (by omega) (by simp [SA.bk]; omega)).trans ((o3 _ (by omega)).trans c1)
  obtain ⟨kb, rfl, hkb, hkl⟩ := m2.loc (by omega)
  have hk0 := m5 kb (by simp [SA.bk])
  have hsp : splice (S.L.flatMap hcell) (i * 2 + 1) [.i .u64 x] = (S.L.set i (t, x)).flatMap hcell := fm_splice hcell_len S.L i 1 [.i .u64 x] (t, y) (t, x) hx (by simp) rfl
  have hle : Nat.ble (i * 2 + 1 + 1) (S.L.flatMap hcell).length = true := Nat.ble_eq_true_of_le (by rw [fm_len hcell_len]; omega)
  simp (maxSteps := 2000000) -implicitDefEqProofs (disch := (first | omega | rfl | assumption | (simp only [rsD]; first | omega | assumption))) only [d0, d1, Nat.zero_add, hkb, hsp, hle, Nat.reduceAdd, Nat.reduceMul, Nat.reduceLT, Int.reduceToNat, Int.reduceAdd, Int.reduceSub, Int.reduceMul, rsU, rsC]
  generalize hJ : AH.put _ (J.next + 1) _ = J7
  have n7 : J7.next = J4.next := by rw [<- hJ]; rfl
  have o7 : ∀ q, q ≠ J.next -> q ≠ kb -> q ≠ J.next + 1 -> J7.blk q = J4.blk q := fun q h1 h2 h3 => by rw [<- hJ]; exact (s_bn h3).trans ((s_bn h2).trans (s_bn h1))
  have k7 : J7.blk kb = some (.cells true T_haymowref18_Handle ((S.L.set i (t, x)).flatMap hcell)) := by rw [<- hJ]; exact (s_bn (by omega)).trans s_bs
  clear hJ
  have own7 : OwnS J7 T_haymowref18_Handle 2 (.loc (.n kb) 0 2) (S.L.set i (t, x)).length ((S.L.set i (t, x)).flatMap hcell) := OwnS.new (fm_len hcell_len _) k7 (by omega)
  obtain ⟨v', z1, z2⟩ := HS.fz 4 (S := { S with L := S.L.set i (t, x) }) h.d own7
  simp only [HS.vs, List.length_set] at z1
  refine Ok_some.2 ⟨_, _, DS.fzt z1, fun q hq => ?_, ⟨by show J.next <= J7.next; omega, fun q hq => ?_⟩, v', rfl, z2⟩
  ·have := m5 q hq; omega
  ·show J7.blk q = _
   rw [o7 q (by omega) (by omega) (by omega), m4 q (by omega) (by simp [SA.bk]; omega), o3 q (by omega), E2.blk q (by omega), E1.blk q hq]
def hmore (by_ : Int) (p : Int × Int) : Int × Int := if p.2 = 0 then p else (p.1, IntKind.u64.wrap (p.2 + by_))
def HS.more (S : HS) (by_ : Int) : HS := { S with L := S.L.map (hmore by_) }
def HS.filled (S : HS) : List Int := (S.L.map (·.2)).filter (· != 0)
theorem rhmore_ok {J : AH O} {S : HS} {a b c : SA} (h : S.st a b c) (hl : S.L.length <= 1000) {x : Int} :
  Ok (haymowref18_More [.agg (S.vs a b c), .i .u64 x] J) fun r => (S.more x).at_ r.1 /\ Ext J r.2 := by
 refine frz_ok (Q := fun v => (S.more x).at_ v) ?_
 have rs := fun J : AH O => (h.l O J).rdSl
 simp (maxSteps := 2000000) -implicitDefEqProofs (disch := (first | omega | rfl | assumption | (simp only [rsD]; first | omega | assumption))) only [haymowref18_More_c, HS.vs, rs, Nat.reduceAdd, Nat.reduceMul, Nat.reduceLT, Int.reduceToNat, Int.reduceAdd, Int.reduceSub, Int.reduceMul, rsU, rsC]
 generalize hJ : (((((J.bump 2).put J.next _).put (J.next + 1) _).bump 2).put (J.next + 2) _) = J3
 have n3 : J3.next = J.next + 4 := by rw [<- hJ]; rfl
 have E3 : Ext J J3 := by rw [<- hJ]; exact ((((((Ext.refl J).bump 2).put (Nat.le_refl _) _).put (by omega) _).bump 2).put (by omega) _)
 have b0 : J3.blk J.next = some (.cells true T_haymowref18_State [.i .i64 S.D.words, .sl a S.D.L.length, .sl b S.D.free.length, .i .i64 S.D.room, .sl c S.L.length]) := by rw [<- hJ]; simp -implicitDefEqProofs (disch := omega) only [s_bn, s_bs, s_kn, bump_blk]
 have b1 : J3.blk (J.next + 1) = some (.cells true T_haymowref18_State [.i .i64 0, .sl .nil 0, .sl .nil 0, .i .i64 0, .sl .nil 0]) := by rw [<- hJ]; simp -implicitDefEqProofs (disch := omega) only [s_bn, s_bs, s_kn, bump_blk]
 have b3 : J3.blk (J.next + 2) = some (.cells true T_haymowref18_Handle []) := by rw [<- hJ]; exact s_bs
 clear hJ
 have own3 : OwnS J3 T_haymowref18_Handle 2 (.loc (.n (J.next + 2)) 0 2) 0 [] := OwnS.new rfl b3 (by omega)
 refine Ok.step (app_ok (nid := J.next + 2 + 1) own3 (by simp [SA.bk]) (by omega) h.l.len) fun q ⟨a3, m1, m2, m3, m4, m5⟩ => ?_
 obtain ⟨q, J4⟩ := q
 simp only at m1 m2 m3 m4
 subst m1
 rw [Nat.zero_add, List.nil_append] at m2
 have d0 : J4.blk J.next = _ := (m4 _ (by omega) (by simp [SA.bk])).trans b0
 have d1 : J4.blk (J.next + 1) = _ := (m4 _ (by omega) (by simp [SA.bk])).trans b1
 simp (maxSteps := 2000000) -implicitDefEqProofs (disch := (first | omega | rfl | assumption | (simp only [rsD]; first | omega | assumption))) only [d0, Nat.zero_add, Nat.reduceAdd, Nat.reduceMul, Nat.reduceLT, Int.reduceToNat, Int.reduceAdd, Int.reduceSub, Int.reduceMul, rsU, rsC]
 generalize hJ : J4.put J.next _ = J5
 have n5 : J5.next = J4.next := by rw [<- hJ]; rfl
 have f0 : J5.blk J.next = some (.cells true T_haymowref18_State [.i .i64 S.D.words, .sl a S.D.L.length, .sl b S.D.free.length, .i .i64 S.D.room, .sl a3 S.L.length]) := by rw [<- hJ]; exact s_bs
 have o5 : ∀ q, q ≠ J.next -> J5.blk q = J4.blk q := fun q h1 => by rw [<- hJ]; exact s_bn h1
 clear hJ
 have own5 := m2.of (J' := J5) (by omega) fun q hq => o5 q (by have := m5 q hq; omega)
 refine Ok.step (Q := fun s => ∃ J', s = ([], J') /\ J'.next = J5.next /\ OwnS J' T_haymowref18_Handle 2 a3 S.L.length ((S.L.map (hmore x)).flatMap hcell) /\ ∀ q, q ∉ SA.bk a3 -> J'.blk q = J5.blk q) ?_ ?_
 ·refine Ok.count S.L.length (fun k s => ∃ J', s = ([.i .i64 (k : Int)], J') /\ J'.next = J5.next /\ OwnS J' T_haymowref18_Handle 2 a3 S.L.length (((S.L.take k).map (hmore x) ++ S.L.drop k).flatMap hcell) /\ ∀ q, q ∉ SA.bk a3 -> J'.blk q = J5.blk q) ?_ ?_ ⟨J5, rfl, rfl, by simpa using own5, fun _ _ => rfl⟩
  ·rintro k s hk ⟨J6, rfl, n6, w6, o6⟩
   have hx := List.getElem?_eq_getElem hk
   generalize S.L[k] = p at hx
   obtain ⟨kb, rfl, hkb, hkl⟩ := w6.loc (by omega)
   have hk0 := m5 kb (by simp [SA.bk])
   have g0 : J6.blk J.next = _ := (o6 _ (by simp [SA.bk]; omega)).trans f0
   have hlt : ((S.L.take k).map (hmore x)).length = k := by simp; omega
   have hpk : ((S.L.take k).map (hmore x) ++ S.L.drop k)[k]? = some p := by
    rw [List.getElem?_append_right (by omega), hlt, Nat.sub_self, List.getElem?_drop, Nat.add_zero]; exact hx
   have hrow : (((S.L.take k).map (hmore x) ++ S.L.drop k).flatMap hcell)[k * 2 + 1]? = some (.i .u64 p.2) := (fm_get' hcell_len (by decide) hpk).trans rfl
   have hnext : ((S.L.take k).map (hmore x) ++ S.L.drop k).set k (hmore x p) = (S.L.take (k + 1)).map (hmore x) ++ S.L.drop (k + 1) := by
    rw [List.getElem?_eq_getElem hk] at hx
    cases hx
    have e1 : (S.L.take (k + 1)).map (hmore x) = (S.L.take k).map (hmore x) ++ [hmore x S.L[k]] := by rw [List.take_succ_eq_append_getElem hk, List.map_append]; rfl
    rw [List.set_append_right _ _ (by omega), hlt, Nat.sub_self, List.drop_eq_getElem_cons hk, List.set_cons_zero, e1, List.append_assoc]; rfl
   generalize hcs : (S.L.take k).map (hmore x) ++ S.L.drop k = C at *
   by_cases hz : p.2 = 0
   ·have q0 : (p.2 == 0) = true := s_eqT hz
    simp (maxSteps := 2000000) -implicitDefEqProofs (disch := (first | omega | rfl | assumption | (simp only [rsD]; first | omega | assumption))) only [haymowref18_More_L1, g0, hkb, hrow, q0, Nat.reduceAdd, Nat.reduceMul, Nat.reduceLT, Int.reduceToNat, Int.reduceAdd, Int.reduceSub, Int.reduceMul, rsU, rsC]
    have hm : hmore x p = p := if_pos hz
    rw [hm, set_same hpk] at hnext
    exact Ok_some.2 ⟨J6, by simp, n6, by rw [<- hnext]; exact w6, o6⟩
   ·have q0 : (p.2 == 0) = false := s_eqF hz
    have hm : hmore x p = (p.1, IntKind.u64.wrap (p.2 + x)) := if_neg hz
    have hsp : splice (C.flatMap hcell) (k * 2 + 1) [.i .u64 (IntKind.u64.wrap (p.2 + x))] = (C.set k (hmore x p)).flatMap hcell := fm_splice hcell_len C k 1 [.i .u64 _] p (hmore x p) hpk (by simp) (by rw [hm]; rfl)
    have hle : Nat.ble (k * 2 + 1 + 1) (C.flatMap hcell).length = true := Nat.ble_eq_true_of_le (by rw [w6.len]; omega)
    simp (maxSteps := 2000000) -implicitDefEqProofs (disch := (first | omega | rfl | assumption | (simp only [rsD]; first | omega | assumption))) only [haymowref18_More_L1, g0, hkb, hrow, q0, hsp, hle, Nat.reduceAdd, Nat.reduceMul, Nat.reduceLT, Int.reduceToNat, Int.reduceAdd, Int.reduceSub, Int.reduceMul, rsU, rsC]
    rw [hnext]
    refine Ok_some.2 ⟨J6.put kb (.cells true T_haymowref18_Handle (((S.L.take (k + 1)).map (hmore x) ++ S.L.drop (k + 1)).flatMap hcell)), by simp, by simpa using n6, OwnS.new (by have := w6.len; rw [<- hnext, fm_len hcell_len, List.length_set, <- fm_len hcell_len]; exact this) s_bs (by simpa using hkl), fun q hq => ?_⟩
    rw [s_bn (by simpa [SA.bk] using hq)]; exact o6 q hq
  ·rintro s ⟨J6, rfl, n6, w6, o6⟩
   have g0 : J6.blk J.next = _ := (o6 _ (fun hm => by have := m5 _ hm; omega)).trans f0
   simp (maxSteps := 2000000) -implicitDefEqProofs (disch := (first | omega | rfl | assumption | (simp only [rsD]; first | omega | assumption))) only [haymowref18_More_L1, g0, Nat.reduceAdd, Nat.reduceMul, Nat.reduceLT, Int.reduceToNat, Int.reduceAdd, Int.reduceSub, Int.reduceMul, rsU, rsC]
   exact Ok_some.2 ⟨J6, rfl, n6, by simpa using w6, o6⟩
 ·rintro _ ⟨J6, rfl, n6, w6, o6⟩
  have g0 : J6.blk J.next = _ := (o6 _ (fun hm => by have := m5 _ hm; omega)).trans f0
  have g1 : J6.blk (J.next + 1) = _ := (o6 _ (fun hm => by have := m5 _ hm; omega)).trans ((o5 _ (by omega)).trans d1)
  simp (maxSteps := 2000000) -implicitDefEqProofs (disch := (first | omega | rfl | assumption | (simp only [rsD]; first | omega | assumption))) only [g0, g1, Nat.reduceAdd, Nat.reduceMul, Nat.reduceLT, Int.reduceToNat, Int.reduceAdd, Int.reduceSub, Int.reduceMul, rsU, rsC]
  generalize hJ : AH.put _ (J.next + 1) _ = J7
  have n7 : J7.next = J6.next := by rw [<- hJ]; rfl
  have o7 : ∀ q, q ≠ J.next + 1 -> J7.blk q = J6.blk q := fun q h3 => by rw [<- hJ]; exact s_bn h3
  clear hJ
  have own7 := w6.of (J' := J7) (by omega) fun q hq => o7 q (by have := m5 q hq; omega)
  obtain ⟨v', z1, z2⟩ := HS.fz 5 (S := S.more x) (c := a3) (a := a) (b := b) h.d (by simpa [HS.more] using own7)
  simp only [HS.vs, HS.more, List.length_map] at z1
  refine Ok_some.2 ⟨_, _, z1, fun q hq => ?_, ⟨by show J.next <= J7.next; omega, fun q hq => ?_⟩, z2⟩
  ·have := m5 q hq; omega
  ·show J7.blk q = _
   rw [o7 q (by omega), o6 q (fun hm => by have := m5 _ hm; omega), o5 q (by omega), m4 q (by omega) (by simp [SA.bk]; omega), E3.blk q hq]
theorem rhfilled_ok {J : AH O} {S : HS} {a b c : SA} (h : S.st a b c) (hl : S.L.length <= 1000) :
  Ok (haymowref18_Filled [.agg (S.vs a b c)] J) fun r => (∃ d, r.1 = .sl d S.filled.length /\ Imm 1 d S.filled.length (S.filled.map (AV.i .u64))) /\ Ext J r.2 := by
 refine frz_ok (Q := fun v => ∃ d, v = .sl d S.filled.length /\ Imm 1 d S.filled.length (S.filled.map (AV.i .u64))) ?_
 simp (maxSteps := 2000000) -implicitDefEqProofs (disch := (first | omega | rfl | assumption | (simp only [rsD]; first | omega | assumption))) only [haymowref18_Filled_c, HS.vs, Nat.reduceAdd, Nat.reduceMul, Nat.reduceLT, Int.reduceToNat, Int.reduceAdd, Int.reduceSub, Int.reduceMul, rsU, rsC]
 generalize hJ : (J.bump 1).put J.next _ = J1
 obtain ⟨E1, b1, n1⟩ := boxed hJ
 clear hJ
 have fl : ∀ k, k <= S.L.length -> (((S.L.take k).map (·.2)).filter (· != 0)).length <= k := fun k hk => by
  refine Nat.le_trans (List.length_filter_le _ _) ?_
  simp; omega
 refine Ok.step (Q := fun s => ∃ J' d, s = ([.sl d S.filled.length], J') /\ OwnS J' T_uint64 1 d S.filled.length (S.filled.map (AV.i .u64)) /\ (∀ q ∈ SA.bk d, J1.next <= q) /\ Ext J1 J') ?_ ?_
 ·refine Ok.count S.L.length (fun k s => ∃ J' d, s = ([.sl d (((S.L.take k).map (·.2)).filter (· != 0)).length, .i .i64 (k : Int)], J') /\ OwnS J' T_uint64 1 d (((S.L.take k).map (·.2)).filter (· != 0)).length ((((S.L.take k).map (·.2)).filter (· != 0)).map (AV.i .u64)) /\ (∀ q ∈ SA.bk d, J1.next <= q) /\ Ext J1 J') ?_ ?_ ⟨J1, .nil, rfl, OwnS.nil _ _ _, by simp [SA.bk], Ext.refl _⟩
  ·rintro k s hk ⟨J2, d, rfl, w2, o2, E2⟩
   have hx := List.getElem?_eq_getElem hk
   have hf := fl k (by omega)
   have hs : ((S.L.take (k + 1)).map (·.2)).filter (· != 0) = ((S.L.take k).map (·.2)).filter (· != 0) ++ (if S.L[k].2 = 0 then [] else [S.L[k].2]) := by
    rw [List.take_succ_eq_append_getElem hk, List.map_append, List.filter_append]
    congr 1
    by_cases c : S.L[k].2 = 0 <;> simp [c]
   generalize S.L[k] = p at hx hs
   rw [hs]
   clear hs
   generalize ((S.L.take k).map (·.2)).filter (· != 0) = F at *
   have c1 : J2.blk J.next = _ := (E2.blk _ (by omega)).trans b1
   have n2 := E2.next
   obtain ⟨q, o, rfl, hld⟩ := Imm.row hcell_len h.l hx (by decide)
   have ld1 : ∀ J : AH O, J.ld q (o + k * 2 + 1) = some (.i .u64 p.2) := fun J => hld O J 1 (by decide)
   by_cases hz : p.2 = 0
   ·have q0 : (p.2 == 0) = true := s_eqT hz
    simp (maxSteps := 2000000) -implicitDefEqProofs (disch := (first | omega | rfl | assumption | (simp only [rsD]; first | omega | assumption))) only [haymowref18_Filled_L1, c1, ld1, q0, Nat.reduceAdd, Nat.reduceMul, Nat.reduceLT, Int.reduceToNat, Int.reduceAdd, Int.reduceSub, Int.reduceMul, rsU, rsC]
    rw [if_pos hz, List.append_nil]
    exact Ok_some.2 ⟨J2, d, by simp, w2, o2, E2⟩
   ·have q0 : (p.2 == 0) = false := s_eqF hz
    simp (maxSteps := 2000000) -implicitDefEqProofs (disch := (first | omega | rfl | assumption | (simp only [rsD]; first | omega | assumption))) only [haymowref18_Filled_L1, c1, ld1, q0, Nat.reduceAdd, Nat.reduceMul, Nat.reduceLT, Int.reduceToNat, Int.reduceAdd, Int.reduceSub, Int.reduceMul, rsU, rsC]
    rw [if_neg hz]
    generalize hJ : (J2.bump 2).put J2.next _ = J3
    have n3 : J3.next = J2.next + 2 := by rw [<- hJ]; rfl
    have o3 : ∀ q, q ≠ J2.next -> J3.blk q = J2.blk q := fun q h2 => by rw [<- hJ]; exact s_bn h2
    clear hJ
    have w3 := w2.of (J' := J3) (by omega) fun q hq => o3 q (by have := w2.lt q hq; omega)
    refine Ok.step (app_ok (nid := J2.next + 1) w3 (fun hm => by have := w2.lt _ hm; omega) (by omega) (show ([.i .u64 p.2] : List AV).length = 1 * 1 from rfl)) fun q ⟨a4, k1, k2, k3, k4, k5⟩ => ?_
    obtain ⟨q, J4⟩ := q
    simp only at k1 k2 k3 k4
    subst k1
    simp (maxSteps := 2000000) -implicitDefEqProofs (disch := (first | omega | rfl | assumption | (simp only [rsD]; first | omega | assumption))) only [Nat.reduceAdd, Nat.reduceMul, Nat.reduceLT, Int.reduceToNat, Int.reduceAdd, Int.reduceSub, Int.reduceMul, rsU, rsC]
    have hE : F.map (AV.i .u64) ++ [.i .u64 p.2] = (F ++ [p.2]).map (AV.i .u64) := by simp
    have hlen : F.length + 1 = (F ++ [p.2]).length := by simp
    rw [hE, hlen] at k2
    rw [hlen]
    refine Ok_some.2 ⟨J4, a4, by simp, k2, fun q hq => by have := k5 q hq; omega, ⟨by omega, fun q hq => ?_⟩⟩
    rw [k4 q (by omega) (fun hm => by have := o2 _ hm; omega), o3 q (by omega), E2.blk q hq]
  ·rintro s ⟨J2, d, rfl, w2, o2, E2⟩
   have c1 : J2.blk J.next = _ := (E2.blk _ (by omega)).trans b1
   simp (maxSteps := 2000000) -implicitDefEqProofs (disch := (first | omega | rfl | assumption | (simp only [rsD]; first | omega | assumption))) only [haymowref18_Filled_L1, c1, Nat.reduceAdd, Nat.reduceMul, Nat.reduceLT, Int.reduceToNat, Int.reduceAdd, Int.reduceSub, Int.reduceMul, rsU, rsC]
   rw [List.take_length] at w2
   exact Ok_some.2 ⟨J2, d, rfl, w2, o2, E2⟩
 ·rintro _ ⟨J2, d, rfl, w2, o2, E2⟩
  simp (maxSteps := 2000000) -implicitDefEqProofs (disch := (first | omega | rfl | assumption | (simp only [rsD]; first | omega | assumption))) only [Nat.reduceAdd, Nat.reduceMul, Nat.reduceLT, Int.reduceToNat, Int.reduceAdd, Int.reduceSub, Int.reduceMul, rsU, rsC]
  obtain ⟨d', f, m⟩ := FZ.sl (d := 6) w2 (fun _ _ => rfl) (FZL.flat (flat_ints _)) rfl (by simp)
  rw [List.append_nil] at f
  exact Ok_some.2 ⟨_, _, f, fun q hq => by have := o2 q hq; omega, E1.trans E2, d', rfl, m⟩
end Go.Abs.Tryz
namespace Go.Abs.Tryz
open Go Go.Abs
variable {O : Type}
def frow (l : List Int) : TV := .sl T_uint64 1 l.length ((l.map (AV.i .u64)).map TV.lf)
def ft (F : List (List Int)) : TV := .sl 70 1 F.length (F.map frow)
structure FSm (L : List (List Int)) : Prop where
 n : L.length <= 100
 l : ∀ f ∈ L, f.length <= 256
theorem frow_deep (l : List Int) : (frow l).deep 6 := by
 unfold frow TV.deep
 intro t ht
 obtain ⟨x, _, rfl⟩ := List.mem_map.1 ht
 unfold TV.deep; trivial
theorem ft_deep (F : List (List Int)) : (ft F).deep 7 := by
 unfold ft TV.deep
 intro t ht
 obtain ⟨l, _, rfl⟩ := List.mem_map.1 ht
 exact frow_deep l
theorem ft_rd {F : List (List Int)} {v : AV} (h : Im (ft F) v) : ∃ a vs, v = .sl a F.length /\ Imm 1 a F.length vs /\ ImL (F.map frow) vs := Im.rd h
theorem ft_row {F : List (List Int)} {a : SA} {vs : List AV} (ia : Imm 1 a F.length vs) (ca : ImL (F.map frow) vs) {i : Nat} {l : List Int} (hi : F[i]? = some l) :
  ∃ b o w, a = .loc b o 1 /\ (∀ (O : Type) (J : AH O), J.ld b (o + i) = some (.sl w l.length)) /\ vs[i]? = some (.sl w l.length) /\ Imm 1 w l.length (l.map (AV.i .u64)) := by
 obtain ⟨v, h1, h2⟩ := ca.get (i := i) (t := frow l) (by rw [List.getElem?_map, hi]; rfl)
 obtain ⟨w, ws, rfl, h3, h4⟩ := Im.rd h2
 rw [h4.ofLeaves] at h3
 obtain ⟨b, o, rfl, _⟩ := (ia Unit ⟨fun _ => none, 0⟩).at1 h1
 refine ⟨b, o, w, rfl, fun O J => ?_, h1, h3⟩
 obtain ⟨b2, o2, e2, hld⟩ := (ia O J).at1 h1
 cases e2
 rw [Nat.mul_one] at hld
 exact hld
def fsum (F : List (List Int)) : Nat := (F.map fun l => 2 + l.length).sum
theorem fsum_snoc (F : List (List Int)) (l : List Int) : fsum (F ++ [l]) = fsum F + (2 + l.length) := by simp [fsum]
theorem fsum_le {F : List (List Int)} (h : ∀ f ∈ F, f.length <= 256) : fsum F <= 258 * F.length := by
 induction F with
 | nil => simp [fsum]
 | cons f F ih =>
  have h1 := h f List.mem_cons_self
  have h2 := ih fun x hx => h x (List.mem_cons_of_mem _ hx)
  simp only [fsum, List.map_cons, List.sum_cons, List.length_cons] at *
  omega
theorem fsum_wds : ∀ L : List (List Int), fsum L.reverse = wds L
 | [] => rfl
 | f :: r => by
  rw [List.reverse_cons, fsum_snoc, fsum_wds r]
  simp [wds]
theorem rfwords_ok {J : AH O} {F : List (List Int)} (hs : FSm F) {a : SA} {vs : List AV} (ia : Imm 1 a F.length vs) (ca : ImL (F.map frow) vs) : Ok (haymowref17_Words [.sl a F.length] J) fun r => r = (.i .i64 (fsum F : Int), J) := by
 have hn := hs.n
 simp (maxSteps := 2000000) -implicitDefEqProofs (disch := (first | omega | rfl | assumption | (simp only [rsD]; first | omega | assumption))) only [haymowref17_Words, haymowref17_Words_c, Nat.reduceAdd, Nat.reduceMul, Nat.reduceLT, Int.reduceToNat, Int.reduceAdd, Int.reduceSub, Int.reduceMul, rsU, rsC]
 refine Ok.step (Q := fun s => s = ([.i .i64 (fsum F : Int)], J)) ?_ ?_
 ·refine Ok.count F.length (fun k s => s = ([.i .i64 (fsum (F.take k) : Int), .i .i64 (k : Int)], J)) ?_ ?_ rfl
  ·rintro k s hk rfl
   have hx := List.getElem?_eq_getElem hk
   generalize F[k] = l at hx
   obtain ⟨b, o, w, rfl, hld, _, _⟩ := ft_row ia ca hx
   have hl := hs.l l (List.mem_of_getElem? hx)
   have hb := fsum_le (F := F.take k) fun f hf => hs.l f (List.mem_of_mem_take hf)
   have hb2 : (F.take k).length <= 100 := by simp; omega
   have hld := hld O J
   simp (maxSteps := 2000000) -implicitDefEqProofs (disch := (first | omega | rfl | assumption | (simp only [rsD]; first | omega | assumption))) only [haymowref17_Words_L1, hld, Nat.mul_one, Nat.reduceAdd, Nat.reduceMul, Nat.reduceLT, Int.reduceToNat, Int.reduceAdd, Int.reduceSub, Int.reduceMul, rsU, rsC]
   rw [take_snoc hx, fsum_snoc]
   exact Ok_some.2 (by simp; omega)
  ·rintro s rfl
   rw [List.take_length]
   simp (maxSteps := 2000000) -implicitDefEqProofs (disch := (first | omega | rfl | assumption | (simp only [rsD]; first | omega | assumption))) only [haymowref17_Words_L1, Nat.reduceAdd, Nat.reduceMul, Nat.reduceLT, Int.reduceToNat, Int.reduceAdd, Int.reduceSub, Int.reduceMul, rsU, rsC]
   exact Ok_some.2 rfl
 ·rintro _ rfl
  simp (maxSteps := 2000000) -implicitDefEqProofs (disch := (first | omega | rfl | assumption | (simp only [rsD]; first | omega | assumption))) only [Nat.reduceAdd, Nat.reduceMul, Nat.reduceLT, Int.reduceToNat, Int.reduceAdd, Int.reduceSub, Int.reduceMul, rsU, rsC]
  exact Ok_some.2 rfl
theorem rev_last {f : List Int} {r : List (List Int)} : (f :: r).reverse[r.length]? = some f := by
 rw [List.reverse_cons, List.getElem?_append_right (by simp)]; simp
theorem rfwrong_ok {J : AH O} {L : List (List Int)} (hs : FSm L) {a : SA} {vs : List AV} (ia : Imm 1 a L.reverse.length vs) (ca : ImL (L.reverse.map frow) vs) {slot : Int} : Ok (haymowref17_Wrong [.sl a L.reverse.length, .i .i64 slot] J) fun r => r = (.i .i64 (fwrong L slot), J) := by
 have hn := hs.n
 cases L with
 | nil =>
  simp (maxSteps := 2000000) -implicitDefEqProofs (disch := (first | omega | rfl | assumption | (simp only [rsD]; first | omega | assumption))) only [haymowref17_Wrong, haymowref17_Wrong_c, List.reverse_nil, Nat.reduceAdd, Nat.reduceMul, Nat.reduceLT, Int.reduceToNat, Int.reduceAdd, Int.reduceSub, Int.reduceMul, rsU, rsC]
  exact Ok_some.2 rfl
 | cons f r =>
  obtain ⟨b, o, w, rfl, hld, _, _⟩ := ft_row ia ca rev_last
  have hld := hld O J
  have e1 : (((f :: r).reverse.length : Int) - 1) = (r.length : Int) := by simp
  have e2 : (((f :: r).reverse.length : Int) == 0) = false := s_eqF (by simp; omega)
  have e3 : (r.length : Int) < ((f :: r).reverse.length : Int) := by simp; omega
  have hn' : r.length <= 100 := by simp at hn; omega
  unfold fwrong
  by_cases c0 : slot < 0
  ·have d0 := decide_eq_true c0
   have b0 : (true == false) = false := rfl
   simp (maxSteps := 2000000) -implicitDefEqProofs (disch := (first | omega | rfl | assumption | (simp only [rsD]; first | omega | assumption))) only [haymowref17_Wrong, haymowref17_Wrong_c, e2, d0, b0, Nat.reduceAdd, Nat.reduceMul, Nat.reduceLT, Int.reduceToNat, Int.reduceAdd, Int.reduceSub, Int.reduceMul, rsU, rsC]
   rw [if_pos (.inl c0)]
   exact Ok_some.2 rfl
  ·have d0 := decide_eq_false c0
   have b0 : (false == false) = true := rfl
   by_cases c1 : slot >= (f.length : Int)
   ·have d1 := decide_eq_true c1
    simp (maxSteps := 2000000) -implicitDefEqProofs (disch := (first | omega | rfl | assumption | (simp only [rsD]; first | omega | assumption))) only [haymowref17_Wrong, haymowref17_Wrong_c, e2, d0, b0, e1, e3, hld, Nat.mul_one, d1, Nat.reduceAdd, Nat.reduceMul, Nat.reduceLT, Int.reduceToNat, Int.reduceAdd, Int.reduceSub, Int.reduceMul, rsU, rsC]
    rw [if_pos (.inr c1)]
    exact Ok_some.2 rfl
   ·have d1 := decide_eq_false c1
    simp (maxSteps := 2000000) -implicitDefEqProofs (disch := (first | omega | rfl | assumption | (simp only [rsD]; first | omega | assumption))) only [haymowref17_Wrong, haymowref17_Wrong_c, e2, d0, b0, e1, e3, hld, Nat.mul_one, d1, Nat.reduceAdd, Nat.reduceMul, Nat.reduceLT, Int.reduceToNat, Int.reduceAdd, Int.reduceSub, Int.reduceMul, rsU, rsC]
    rw [if_neg (fun h => h.elim c0 c1)]
    exact Ok_some.2 rfl
theorem rfset_ok {J : AH O} {f : List Int} {r : List (List Int)} (hs : FSm (f :: r)) {a : SA} {vs : List AV} (ia : Imm 1 a (f :: r).reverse.length vs) (ca : ImL ((f :: r).reverse.map frow) vs) {k : Nat} {x : Int} (hk : k < f.length) :
  Ok (haymowref17_Set [.sl a (f :: r).reverse.length, .i .i64 (k : Int), .i .u64 x] J) fun v => Im (ft (f.set k x :: r).reverse) v.1 /\ Ext J v.2 := by
 refine frz_ok (Q := fun v => Im (ft (f.set k x :: r).reverse) v) ?_
 have hn := hs.n
 have hfl := hs.l f List.mem_cons_self
 have hn' : r.length <= 100 := by simp at hn; omega
 obtain ⟨b, o, w, ea, _, hvs, iw⟩ := ft_row ia ca rev_last
 have e1 : (((f :: r).reverse.length : Int) - 1) = (r.length : Int) := by simp
 have e3 : (r.length : Int) < ((f :: r).reverse.length : Int) := by simp; omega
 have hlr : (f :: r).reverse.length = r.length + 1 := by simp
 have rs := fun J : AH O => (ia O J).rdSl
 have rw_ := fun J : AH O => (iw O J).rdSl
 have hvl : vs.length = r.length + 1 := by have := ia.len; omega
 simp (maxSteps := 2000000) -implicitDefEqProofs (disch := (first | omega | rfl | assumption | (simp only [rsD]; first | omega | assumption))) only [haymowref17_Set_c, rs, Nat.reduceAdd, Nat.reduceMul, Nat.reduceLT, Int.reduceToNat, Int.reduceAdd, Int.reduceSub, Int.reduceMul, rsU, rsC]
 generalize hJ : (J.bump 2).put J.next _ = J1
 have n1 : J1.next = J.next + 2 := by rw [<- hJ]; rfl
 have b1 : J1.blk J.next = some (.cells true 70 []) := by rw [<- hJ]; exact s_bs
 have o1 : ∀ q, q ≠ J.next -> J1.blk q = J.blk q := fun q h2 => by rw [<- hJ]; exact s_bn h2
 clear hJ
 have own1 : OwnS J1 70 1 (.loc (.n J.next) 0 1) 0 [] := OwnS.new rfl b1 (by omega)
 refine Ok.step (app_ok (nid := J.next + 1) own1 (by simp [SA.bk]) (by omega) ia.len) fun q ⟨a2, m1, m2, m3, m4, m5⟩ => ?_
 obtain ⟨q, J2⟩ := q
 simp only at m1 m2 m3 m4
 subst m1
 rw [Nat.zero_add, List.nil_append] at m2
 obtain ⟨kb, rfl, hkb, hkl⟩ := m2.loc (by omega)
 have hk0 := m5 kb (by simp [SA.bk])
 simp (maxSteps := 2000000) -implicitDefEqProofs (disch := (first | omega | rfl | assumption | (simp only [rsD]; first | omega | assumption))) only [Nat.zero_add, e1, e3, hkb, hvs, Nat.mul_one, rw_, Nat.reduceAdd, Nat.reduceMul, Nat.reduceLT, Int.reduceToNat, Int.reduceAdd, Int.reduceSub, Int.reduceMul, rsU, rsC]
 generalize hJ : (J2.bump 2).put J2.next _ = J3
 have n3 : J3.next = J2.next + 2 := by rw [<- hJ]; rfl
 have b3 : J3.blk J2.next = some (.cells true T_uint64 []) := by rw [<- hJ]; exact s_bs
 have o3 : ∀ q, q ≠ J2.next -> J3.blk q = J2.blk q := fun q h2 => by rw [<- hJ]; exact s_bn h2
 clear hJ
 have own3 : OwnS J3 T_uint64 1 (.loc (.n J2.next) 0 1) 0 [] := OwnS.new rfl b3 (by omega)
 refine Ok.step (app_ok (nid := J2.next + 1) own3 (by simp [SA.bk]) (by omega) iw.len) fun q ⟨a4, k1, k2, k3, k4, k5⟩ => ?_
 obtain ⟨q, J4⟩ := q
 simp only at k1 k2 k3 k4
 subst k1
 rw [Nat.zero_add, List.nil_append] at k2
 obtain ⟨wb, rfl, hwb, hwl⟩ := k2.loc (by omega)
 have hw0 := k5 wb (by simp [SA.bk])
 have hkb4 : J4.blk kb = _ := (k4 kb (by omega) (by simp [SA.bk]; omega)).trans ((o3 kb (by omega)).trans hkb)
 have l1 : Nat.ble (k + 1) (f.map (AV.i .u64)).length = true := Nat.ble_eq_true_of_le (by simp; omega)
 have s1 : splice (f.map (AV.i .u64)) k [.i .u64 x] = (f.set k x).map (AV.i .u64) := by rw [splice_set (by simp; omega), List.map_set]
 have l2 : Nat.ble (r.length + 1) vs.length = true := Nat.ble_eq_true_of_le (by omega)
 have s2 : splice vs r.length [.sl (.loc (.n wb) 0 1) f.length] = vs.set r.length (.sl (.loc (.n wb) 0 1) f.length) := splice_set (by omega)
 simp (maxSteps := 2000000) -implicitDefEqProofs (disch := (first | omega | rfl | assumption | (simp only [rsD]; first | omega | assumption))) only [Nat.zero_add, Nat.mul_one, hwb, l1, s1, e1, e3, hkb4, l2, s2, Nat.reduceAdd, Nat.reduceMul, Nat.reduceLT, Int.reduceToNat, Int.reduceAdd, Int.reduceSub, Int.reduceMul, rsU, rsC]
 generalize hJ : AH.put _ kb _ = J5
 have n5 : J5.next = J4.next := by rw [<- hJ]; rfl
 have bk5 : J5.blk kb = some (.cells true 70 (vs.set r.length (.sl (.loc (.n wb) 0 1) f.length))) := by rw [<- hJ]; exact s_bs
 have bw5 : J5.blk wb = some (.cells true T_uint64 ((f.set k x).map (AV.i .u64))) := by rw [<- hJ, s_bn (by omega)]; exact s_bs
 have o5 : ∀ q, q ≠ kb -> q ≠ wb -> J5.blk q = J4.blk q := fun q h1 h2 => by rw [<- hJ]; exact (s_bn h1).trans (s_bn h2)
 clear hJ
 have ht : ((f :: r).reverse.map frow)[r.length]? = some (frow f) := by rw [List.getElem?_map, rev_last]; rfl
 obtain ⟨v0, L1, L2, L3, g1, g2, gL, g4, g5⟩ := (OwL.im (J := J4) ca).split ht
 have hL : L1 = [] /\ L2 = [] /\ L3 = [] := by
  have := congrArg List.length gL
  simp at this
  exact ⟨List.eq_nil_of_length_eq_zero (by omega), List.eq_nil_of_length_eq_zero (by omega), List.eq_nil_of_length_eq_zero (by omega)⟩
 obtain ⟨rfl, rfl, rfl⟩ := hL
 have ow : Ow J5 (frow (f.set k x)) (.sl (.loc (.n wb) 0 1) f.length) [wb] := by
  have := Ow.leaves (OwnS.new (n := (f.set k x).length) (by rw [List.length_map, Nat.mul_one]) bw5 (by omega)) (flat_ints (f.set k x))
  simpa [frow, SA.bk] using this
 have up := g5 J5 (frow (f.set k x)) (.sl (.loc (.n wb) 0 1) f.length) [wb] (by omega) (by simp) ow (by simp)
 have hset : ((f :: r).reverse.map frow).set r.length (frow (f.set k x)) = (f.set k x :: r).reverse.map frow := by
  rw [List.reverse_cons, List.reverse_cons, List.map_append, List.map_append, List.set_append_right _ _ (by simp)]; simp
 rw [hset] at up
 simp only [List.nil_append, List.append_nil] at up
 have hl' : (f.set k x :: r).reverse.length = (f :: r).reverse.length := by simp
 have own5 : OwnS J5 70 1 (.loc (.n kb) 0 1) (f.set k x :: r).reverse.length (vs.set r.length (.sl (.loc (.n wb) 0 1) f.length)) := OwnS.new (by rw [List.length_set]; simp; omega) bk5 (by omega)
 obtain ⟨v', z1, z2⟩ := Ow.fz (t := ft (f.set k x :: r).reverse) (d := 7) (.sl own5 up (by simp [SA.bk]; omega)) (ft_deep _)
 rw [hl'] at z1
 refine Ok_some.2 ⟨v', _, z1, fun q hq => ?_, ⟨by show J.next <= J5.next; omega, fun q hq => ?_⟩, z2⟩
 ·simp [SA.bk] at hq
  omega
 ·show J5.blk q = _
  rw [o5 q (by omega) (by omega), k4 q (by omega) (by simp [SA.bk]; omega), o3 q (by omega), m4 q (by omega) (by simp [SA.bk]; omega), o1 q (by omega)]
end Go.Abs.Tryz
namespace Go.Abs.Tryz
open Go Go.Abs
variable {O : Type}
structure HSim (S : HS) (P : PoolS) (C : List Nat) : Prop where
 words : S.D.words = 3
 room : S.D.room = P.room
 len : S.D.L.length = P.E.length
 el : ∀ (i : Nat) (d : DE), S.D.L[i]? = some d -> ∃ (g : Nat) (x : Option Int), vw P.E i = some (d.tk, g, x) /\ d.gen = (g : Int) /\ d.ws.length = 3
 free : S.D.free = (P.free.map fun (i : Nat) => (i : Int)).reverse
 ll : S.L.length = C.length
 at_ : ∀ (k i : Nat), C[k]? = some i -> ∃ (g : Nat) (x : Int), S.L[k]? = some (tok i g, x) /\ vw P.E i = some (true, g, some x)
structure HBd (k : Nat) (P : PoolS) : Prop where
 e : P.E.length <= k
 f : P.free.length <= k
 g : ∀ (i : Nat) (t : Bool) (g : Nat) (x : Option Int), vw P.E i = some (t, g, x) -> g <= k
 r : P.room <= 160
theorem HBd.up {k : Nat} {P : PoolS} (h : HBd k P) : HBd (k + 1) P := ⟨by have := h.e; omega, by have := h.f; omega, fun i t g x hv => by have := h.g i t g x hv; omega, h.r⟩
section
variable {S : HS} {P : PoolS} {C : List Nat} (sim : HSim S P C) {k : Nat} (bd : HBd k P)
include sim bd
theorem HSim.small (hk : k <= 80) : S.D.small := by
 refine ⟨by rw [sim.len]; have := bd.e; omega, by rw [sim.free]; simp; have := bd.f; omega, fun d hd => ?_⟩
 obtain ⟨i, hi⟩ := List.getElem?_of_mem hd
 obtain ⟨_, _, _, _, hw⟩ := sim.el i d hi
 omega
theorem HSim.gens (hk : k <= 80) : ∀ e ∈ S.D.L, 0 <= e.gen /\ e.gen <= 1000 := fun d hd => by
 obtain ⟨i, hi⟩ := List.getElem?_of_mem hd
 obtain ⟨g, x, h1, h2, _⟩ := sim.el i d hi
 have := bd.g _ _ _ _ h1
 omega
omit bd in
theorem HSim.yes {J : AH O} {hb pb mb : Nat} {M : MemS} {w : List Int} {X : List Nat} (h : HanAt J hb pb mb M P C w X) {i g : Nat} {x : Option Int} (hv : vw P.E i = some (true, g, x)) : ∃ d y, C[d]? = some i /\ S.at (tok i g) = some d /\ S.L[d]? = some (tok i g, y) /\ x = some y := by
 obtain ⟨e, he, htk, _⟩ := vw_some hv
 obtain ⟨d, hd⟩ := List.getElem?_of_mem (h.all i e he htk)
 obtain ⟨g', y, h1, h2⟩ := sim.at_ d i hd
 rw [hv] at h2
 simp only [Option.some.injEq, Prod.mk.injEq, true_and] at h2
 obtain ⟨rfl, rfl⟩ := h2
 have hdl := (List.getElem?_eq_some_iff.1 h1).1
 have hfew := h.few
 have hi := vw_len hv
 refine ⟨d, y, hd, ?_, h1, rfl⟩
 unfold HS.at
 rw [List.findIdx?_eq_some_iff_getElem]
 refine ⟨hdl, by rw [(List.getElem?_eq_some_iff.1 h1).2]; simp, fun j hj => ?_⟩
 have hjC : j < C.length := by rw [<- sim.ll]; omega
 have hc := List.getElem?_eq_getElem hjC
 obtain ⟨gj, yj, k1, k2⟩ := sim.at_ j _ hc
 rw [(List.getElem?_eq_some_iff.1 k1).2]
 have := vw_len k2
 simp only [Bool.not_eq_true, beq_eq_false_iff_ne]
 intro e1
 have := (tok_inj (by omega) (by omega) e1).1
 rw [this] at hc
 have := nodup_at h.l.nd hc hd
 omega
omit bd in
theorem HSim.no {t : Int} (hv : ∀ i g x, vw P.E i = some (true, g, x) -> t ≠ tok i g) : S.at t = none := by
 unfold HS.at
 rw [List.findIdx?_eq_none_iff]
 intro p hp
 obtain ⟨j, hj⟩ := List.getElem?_of_mem hp
 have hjC : j < C.length := by rw [<- sim.ll]; exact (List.getElem?_eq_some_iff.1 hj).1
 obtain ⟨g, y, k1, k2⟩ := sim.at_ j _ (List.getElem?_eq_getElem hjC)
 rw [hj] at k1
 simp only [Option.some.injEq] at k1
 subst k1
 simp only [beq_eq_false_iff_ne]
 exact fun e => hv _ _ _ k2 e.symm
theorem HSim.add (hk : k < 80) {J : AH O} {hb pb mb : Nat} {M : MemS} {w : List Int} {X : List Nat} (h : HanAt J hb pb mb M P C w X) {P' : PoolS} {i g : Nat} {x : Int} (c : HCame P P' i g x) {v : AV} (hv : S.D.at_ v) :
  ∃ D' e, (∀ J' : AH O, Ok (haymowref10_Take [v] J') fun r => (∃ v', r.1 = .tup [v', .i .i64 ((i : Int) + 1)] /\ D'.at_ v') /\ Ext J' r.2) /\ D'.L[i]? = some e /\ e.gen = (g : Int) /\ HSim ⟨D', S.L ++ [(tok i g, x)]⟩ P' (C ++ [i]) /\ HBd (k + 1) P' := by
 have hsm := sim.small bd (by omega)
 have hw := sim.words
 have hmd := h.p.p.made
 have hlen := sim.len
 have hbe := bd.e
 have hbr := bd.r
 have hroom := sim.room
 have hmore : P.more <= 160 := by
  unfold PoolS.more
  split
  ·exact hbr
  ·rw [Nat.max_def]; split <;> omega
 have hiC : ∀ (k j : Nat), C[k]? = some j -> j ≠ i := fun k j hj e => by
  subst e
  obtain ⟨g', x', _, h2⟩ := sim.at_ k j hj
  rcases c.was with ⟨h3, _⟩ | ⟨y, h3⟩
  ·rw [h2] at h3; cases h3
  ·rw [h2] at h3; simp at h3
 have hgk : g <= k := by
  rcases c.was with ⟨_, e⟩ | ⟨y, e⟩
  ·omega
  ·exact bd.g _ _ _ _ e
 have hat : ∀ (k' j : Nat), (C ++ [i])[k']? = some j -> ∃ (g' : Nat) (x' : Int), (S.L ++ [(tok i g, x)])[k']? = some (tok j g', x') /\ vw P'.E j = some (true, g', some x') := fun k' j hj => by
  rcases Nat.lt_or_ge k' C.length with hl | hl
  ·rw [List.getElem?_append_left hl] at hj
   obtain ⟨g', x', h1, h2⟩ := sim.at_ k' j hj
   exact ⟨g', x', by rw [List.getElem?_append_left (by rw [sim.ll]; exact hl)]; exact h1, by rw [c.other j (hiC k' j hj)]; exact h2⟩
  ·have := (List.getElem?_eq_some_iff.1 hj).1
   simp at this
   obtain rfl : k' = C.length := by omega
   simp at hj
   subst hj
   exact ⟨g, x, by rw [<- sim.ll]; simp, c.now⟩
 have hbd : ∀ f, P'.free.length <= f -> f <= k + 1 -> P'.room <= 160 -> HBd (k + 1) P' := fun f hf hf2 hr => by
  refine ⟨by have := c.len; omega, by omega, fun j t g' x' hj => ?_, hr⟩
  by_cases cj : j = i
  ·rw [cj, c.now] at hj
   simp only [Option.some.injEq, Prod.mk.injEq] at hj
   omega
  ·rw [c.other j cj] at hj
   have := bd.g _ _ _ _ hj; omega
 rcases c.fr with ⟨f1, f2, f3, f4, f5⟩ | ⟨f1, f2, f3⟩
 ·have hfr : S.D.free = [] := by rw [sim.free, f1]; rfl
  have hg0 : g = 0 := by
   rcases c.was with ⟨_, e⟩ | ⟨y, e⟩
   ·exact e
   ·have := vw_len e; omega
  have hroomy : S.D.roomy = P.more := by
   unfold DS.roomy PoolS.more
   by_cases cc : P.E.length < P.room
   ·rw [if_neg (by omega), if_pos cc]; exact hroom
   ·rw [if_pos (by omega), if_neg cc, Nat.max_def]
    split <;> split <;> omega
  refine ⟨S.D.fresh, ⟨true, 0, List.replicate S.D.words.toNat 0⟩, fun J' => ?_, ?_, by rw [hg0]; rfl, ⟨hw, ?_, ?_, fun j d hd => ?_, ?_, by simp [sim.ll], hat⟩, hbd 0 (by rw [f3]; simp) (by omega) (by rw [f4]; exact hmore)⟩
  ·have := rtake_new (J := J') hsm (by omega) (by omega) hv hfr
   rw [hlen, <- f2] at this
   exact this
  ·show (S.D.L ++ [_])[i]? = _
   rw [f2, <- hlen]; simp
  ·show S.D.roomy = _
   rw [hroomy, f4]
  ·show (S.D.L ++ [_]).length = _
   simp; omega
  ·simp only [DS.fresh] at hd
   rcases Nat.lt_or_ge j S.D.L.length with hl | hl
   ·rw [List.getElem?_append_left hl] at hd
    obtain ⟨g', x', h1, h2⟩ := sim.el j d hd
    exact ⟨g', x', by rw [c.other j (by omega)]; exact h1, h2⟩
   ·have := (List.getElem?_eq_some_iff.1 hd).1
    simp at this
    obtain rfl : j = S.D.L.length := by omega
    simp at hd
    subst hd
    exact ⟨g, some x, by rw [hlen, <- f2]; exact c.now, by rw [hg0]; rfl, by simp [hw]⟩
  ·show S.D.free = _
   rw [hfr, f3]; rfl
 ·have hi : i < S.D.L.length := by rw [hlen, <- f3]; exact vw_len c.now
  have hfr : S.D.free = (P'.free.map fun (i : Nat) => (i : Int)).reverse ++ [(i : Int) + 1] := by rw [sim.free, f1]; simp
  have hd := List.getElem?_eq_getElem hi
  generalize S.D.L[i] = d at hd
  obtain ⟨g0, x0, h1, h2, h3⟩ := sim.el i d hd
  have hg0 : g0 = g := by
   rcases c.was with ⟨e, _⟩ | ⟨y, e⟩
   ·rw [h1] at e; cases e
   ·rw [h1] at e; simp at e; omega
  refine ⟨S.D.taken i d ((P'.free.map fun (i : Nat) => (i : Int)).reverse), ⟨true, d.gen, List.replicate S.D.words.toNat 0⟩, fun J' => rtake_old hsm (by omega) hv hfr hd, ?_, by rw [h2, hg0], ⟨hw, ?_, ?_, fun j d' hd' => ?_, rfl, by simp [sim.ll], hat⟩, hbd (P.free.length) (by rw [f1]; simp) (by have := bd.f; omega) (by rw [f2]; exact hbr)⟩
  ·show (S.D.L.set i _)[i]? = _
   rw [List.getElem?_set]; simp [hi]
  ·show S.D.room = _
   rw [f2]; exact hroom
  ·show (S.D.L.set i _).length = _
   rw [List.length_set, f3]; exact hlen
  ·simp only [DS.taken, List.getElem?_set] at hd'
   by_cases cj : i = j
   ·subst cj
    rw [if_pos rfl, if_pos hi] at hd'
    simp only [Option.some.injEq] at hd'
    subst hd'
    exact ⟨g, some x, c.now, by rw [h2, hg0], by simp [hw]⟩
   ·rw [if_neg cj] at hd'
    obtain ⟨g', x', k1, k2⟩ := sim.el j d' hd'
    exact ⟨g', x', by rw [c.other j (fun e => cj e.symm)]; exact k1, k2⟩
theorem HSim.drop {P' : PoolS} {i g d : Nat} {x : Option Int} (hv : vw P.E i = some (true, g, x)) (hk : k < 80) (hdi : C[d]? = some i) (hnd : C.Nodup) (hat : S.at (tok i g) = some d) (q2 : P'.room = P.room) (q3 : P'.free = (i + 1) :: P.free) (q4 : P'.E.length = P.E.length) (q5 : ∃ y, vw P'.E i = some (false, g + 1, y)) (q6 : ∀ j, j ≠ i -> vw P'.E j = vw P.E j) :
  HSim (S.drop (tok i g)) P' (C.eraseIdx d) /\ HBd (k + 1) P' := by
 have hi := vw_len hv
 have hbe := bd.e
 have hlen := sim.len
 have hiD : i < S.D.L.length := by omega
 have hd := List.getElem?_eq_getElem hiD
 generalize S.D.L[i] = e at hd
 obtain ⟨g0, x0, h1, h2, h3⟩ := sim.el i e hd
 rw [hv] at h1
 simp only [Option.some.injEq, Prod.mk.injEq] at h1
 obtain ⟨htk, rfl, rfl⟩ := h1
 have tm : Int.tmod (tok i g) 1048576 + 1 = (i : Int) + 1 := by
  rw [Int.tmod_eq_emod_of_nonneg (by unfold tok; omega), tok_mod (by omega)]
 have ent : S.D.ent ((i : Int) + 1) = some e := by
  unfold DS.ent
  rw [if_pos (by omega), show ((i : Int) + 1 - 1).toNat = i by omega]; exact hd
 have hgive : S.D.give ((i : Int) + 1) = ({ S.D with L := S.D.L.set i ⟨false, e.gen + 1, e.ws⟩, free := S.D.free ++ [(i : Int) + 1] }, 0) := by
  unfold DS.give
  rw [ent]
  simp only
  rw [if_pos htk.symm, show ((i : Int) + 1 - 1).toNat = i by omega]
 have hS : S.drop (tok i g) = ⟨{ S.D with L := S.D.L.set i ⟨false, e.gen + 1, e.ws⟩, free := S.D.free ++ [(i : Int) + 1] }, S.L.take d ++ S.L.drop (d + 1)⟩ := by
  unfold HS.drop
  rw [hat]
  simp only
  rw [tm, hgive]
 rw [hS]
 have hdC := (List.getElem?_eq_some_iff.1 hdi).1
 have hll := sim.ll
 obtain ⟨y, q5⟩ := q5
 refine ⟨⟨sim.words, by rw [q2]; exact sim.room, by simp only [List.length_set]; omega, fun j d' hd' => ?_, by rw [q3]; simp [sim.free], ?_, fun k' j hj => ?_⟩, ⟨by omega, by rw [q3]; simp; exact bd.f, fun j t g' x' hj => ?_, by rw [q2]; exact bd.r⟩⟩
 ·simp only [List.getElem?_set] at hd'
  by_cases cj : i = j
  ·subst cj
   rw [if_pos rfl, if_pos hiD] at hd'
   simp only [Option.some.injEq] at hd'
   subst hd'
   exact ⟨g + 1, y, q5, by simp only; omega, h3⟩
  ·rw [if_neg cj] at hd'
   obtain ⟨g', x', k1, k2⟩ := sim.el j d' hd'
   exact ⟨g', x', by rw [q6 j (fun e => cj e.symm)]; exact k1, k2⟩
 ·simp only [List.length_append, List.length_take, List.length_drop, List.length_eraseIdx]
  rw [if_pos hdC]; omega
 ·have hl2 : (S.L.take d).length = d := by simp; omega
  rw [List.getElem?_eraseIdx] at hj
  have key : ∀ m, C[m]? = some j -> m ≠ d -> ∃ (g' : Nat) (x' : Int), S.L[m]? = some (tok j g', x') /\ vw P'.E j = some (true, g', some x') := fun m hm hmd => by
   obtain ⟨g', x', k1, k2⟩ := sim.at_ m j hm
   exact ⟨g', x', k1, by rw [q6 j (fun e => hmd (nodup_at hnd (e ▸ hm) hdi))]; exact k2⟩
  split at hj
  ·rename_i hlt
   obtain ⟨g', x', k1, k2⟩ := key k' hj (by omega)
   exact ⟨g', x', by rw [List.getElem?_append_left (by omega), List.getElem?_take, if_pos hlt]; exact k1, k2⟩
  ·rename_i hge
   obtain ⟨g', x', k1, k2⟩ := key (k' + 1) hj (by omega)
   exact ⟨g', x', by rw [List.getElem?_append_right (by omega), hl2, List.getElem?_drop, show d + 1 + (k' - d) = k' + 1 by omega]; exact k1, k2⟩
 ·by_cases cj : j = i
  ·rw [cj, q5] at hj
   simp only [Option.some.injEq, Prod.mk.injEq] at hj
   have := bd.g _ _ _ _ hv; omega
  ·rw [q6 j cj] at hj
   have := bd.g _ _ _ _ hj; omega
omit bd in
theorem HSim.like {P' : PoolS} {l : List (Int × Int)} (L : Like P P') (hl : l.length = S.L.length) (ha : ∀ (k i : Nat), C[k]? = some i -> ∃ (g : Nat) (x : Int), l[k]? = some (tok i g, x) /\ vw P'.E i = some (true, g, some x)) : HSim { S with L := l } P' C := by
 refine ⟨sim.words, by rw [L.room]; exact sim.room, by rw [L.len]; exact sim.len, fun j d hd => ?_, by rw [L.free]; exact sim.free, hl.trans sim.ll, ha⟩
 obtain ⟨g, x, h1, h2⟩ := sim.el j d hd
 have hm := L.vw j
 rw [h1] at hm
 cases hv : vw P'.E j with
 | none => rw [hv] at hm; simp at hm
 | some y =>
  obtain ⟨t, g', x'⟩ := y
  rw [hv] at hm
  simp only [Option.map_some, Option.some.injEq, Prod.mk.injEq] at hm
  obtain ⟨rfl, rfl⟩ := hm
  exact ⟨g', x', rfl, h2⟩
omit sim in
theorem HBd.like {P' : PoolS} (L : Like P P') : HBd (k + 1) P' := by
 refine ⟨by rw [L.len]; have := bd.e; omega, by rw [L.free]; have := bd.f; omega, fun j t g x hj => ?_, by rw [L.room]; exact bd.r⟩
 have hm := L.vw j
 rw [hj] at hm
 cases hv : vw P.E j with
 | none => rw [hv] at hm; simp at hm
 | some y =>
  obtain ⟨t', g', x'⟩ := y
  rw [hv] at hm
  simp only [Option.map_some, Option.some.injEq, Prod.mk.injEq] at hm
  obtain ⟨rfl, rfl⟩ := hm
  have := bd.g _ _ _ _ hv; omega
omit bd in
theorem HSim.set {P' : PoolS} {i g d : Nat} {y x : Int} (L : Like P P') (hdi : C[d]? = some i) (hnd : C.Nodup) (hat : S.at (tok i g) = some d) (hl : S.L[d]? = some (tok i g, y)) (q5 : vw P'.E i = some (true, g, some x)) (q6 : ∀ j, j ≠ i -> vw P'.E j = vw P.E j) : HSim (S.set (tok i g) x) P' C := by
 have hd := (List.getElem?_eq_some_iff.1 hl).1
 unfold HS.set
 rw [hat]
 refine sim.like L (by simp) fun k j hj => ?_
 by_cases c : k = d
 ·subst c
  rw [hdi] at hj
  cases hj
  exact ⟨g, x, by rw [List.getElem?_set]; simp [hd], q5⟩
 ·obtain ⟨g', x', k1, k2⟩ := sim.at_ k j hj
  exact ⟨g', x', by rw [List.getElem?_set, if_neg (fun e => c e.symm)]; exact k1, by rw [q6 j (fun e => c (nodup_at hnd (e ▸ hj) hdi))]; exact k2⟩
omit bd in
theorem HSim.more {P' : PoolS} {x : Int} {V : List (Nat × Int)} (L : Like P P') (hV : ∀ (j i : Nat), C[j]? = some i -> ∃ g y, V[j]? = some (g, y) /\ vw P.E i = some (true, g, some y)) (hv : ∀ (j i : Nat), C[j]? = some i -> vw P'.E i = some (true, (V.getD j (0, 0)).1, (V.map fun p => (hmore x (0, p.2)).2)[j]?)) : HSim (S.more x) P' C := by
 unfold HS.more
 refine sim.like L (by simp) fun k j hj => ?_
 obtain ⟨g', x', k1, k2⟩ := sim.at_ k j hj
 obtain ⟨g, y, h1, h2⟩ := hV k j hj
 rw [k2] at h2
 simp only [Option.some.injEq, Prod.mk.injEq, true_and] at h2
 obtain ⟨rfl, rfl⟩ := h2
 refine ⟨g', (hmore x (0, x')).2, ?_, ?_⟩
 ·rw [List.getElem?_map, k1]
  simp only [Option.map_some, hmore]
  split <;> rfl
 ·rw [hv k j hj, List.getD_eq_getElem?_getD, h1, List.getElem?_map, h1]; rfl
omit bd in
theorem HSim.vals : ∃ V : List (Nat × Int), V.length = C.length /\ (∀ (j i : Nat), C[j]? = some i -> ∃ g x, V[j]? = some (g, x) /\ vw P.E i = some (true, g, some x)) /\ V.map (·.2) = S.L.map (·.2) := by
 have hV : ∀ (j i : Nat), C[j]? = some i -> ∃ g x, (C.map fun i => match vw P.E i with | some (_, g, some x) => (g, x) | _ => ((0 : Nat), (0 : Int)))[j]? = some (g, x) /\ vw P.E i = some (true, g, some x) := fun j i hj => by
  obtain ⟨g, x, h1, h2⟩ := sim.at_ j i hj
  exact ⟨g, x, by rw [List.getElem?_map, hj]; simp [h2], h2⟩
 refine ⟨_, by simp, hV, ?_⟩
 apply List.ext_getElem?
 intro j
 rw [List.getElem?_map, List.getElem?_map (l := S.L)]
 cases hc : C[j]? with
 | none =>
  have := List.getElem?_eq_none_iff.1 hc
  rw [List.getElem?_eq_none (by simp; omega), List.getElem?_eq_none (by rw [sim.ll]; omega)]; rfl
 | some i =>
  obtain ⟨g, x, h1, h2⟩ := sim.at_ j i hc
  obtain ⟨g', x', k1, k2⟩ := hV j i hc
  rw [h2] at k2
  simp only [Option.some.injEq, Prod.mk.injEq, true_and] at k2
  obtain ⟨rfl, rfl⟩ := k2
  rw [k1, h1]; rfl
end
end Go.Abs.Tryz
namespace Go.Abs.Tryz
open Go Go.Abs
variable {O : Type}
def nz (l : List Int) : List Int := l.filter (· != 0)
theorem nz_app (a b : List Int) : nz (a ++ b) = nz a ++ nz b := by simp [nz]
theorem nz_le (a : List Int) : (nz a).length <= a.length := List.length_filter_le _ _
theorem rffilled_ok {J : AH O} {L : List (List Int)} (hs : FSm L) {a : SA} {vs : List AV} (ia : Imm 1 a L.reverse.length vs) (ca : ImL (L.reverse.map frow) vs) :
  Ok (haymowref17_Filled [.sl a L.reverse.length] J) fun r => ∃ d, r.1 = .sl d (nz L.flatten).length /\ OwnS r.2 T_uint64 1 d (nz L.flatten).length ((nz L.flatten).map (AV.i .u64)) /\ (∀ q ∈ SA.bk d, J.next <= q) /\ Ext J r.2 := by
 have hn := hs.n
 have hlen : (L.reverse.length : Int) = L.length := by simp
 have hfl : ∀ k, (L.take k).flatten.length <= 256 * 100 := fun k => by
  have : ∀ (l : List (List Int)), (∀ f ∈ l, f.length <= 256) -> l.flatten.length <= 256 * l.length := fun l => by
   induction l with
   | nil => simp
   | cons f r ih =>
    intro h
    have h1 := h f List.mem_cons_self
    have h2 := ih fun x hx => h x (List.mem_cons_of_mem _ hx)
    simp only [List.flatten_cons, List.length_append, List.length_cons]; omega
  have h1 := this (L.take k) fun f hf => hs.l f (List.mem_of_mem_take hf)
  have h2 : (L.take k).length <= 100 := by simp; omega
  omega
 simp (maxSteps := 2000000) -implicitDefEqProofs (disch := (first | omega | rfl | assumption | (simp only [rsD]; first | omega | assumption))) only [haymowref17_Filled, haymowref17_Filled_c, hlen, Nat.reduceAdd, Nat.reduceMul, Nat.reduceLT, Int.reduceToNat, Int.reduceAdd, Int.reduceSub, Int.reduceMul, rsU, rsC]
 refine Ok.step (Q := fun s => ∃ J' d, s = ([.sl d (nz L.flatten).length], J') /\ OwnS J' T_uint64 1 d (nz L.flatten).length ((nz L.flatten).map (AV.i .u64)) /\ (∀ q ∈ SA.bk d, J.next <= q) /\ Ext J J') ?_ ?_
 ·refine Ok.count L.length (fun k s => ∃ J' d, s = ([.sl d (nz (L.take k).flatten).length, .i .i64 ((L.length : Int) - 1 - k)], J') /\ OwnS J' T_uint64 1 d (nz (L.take k).flatten).length ((nz (L.take k).flatten).map (AV.i .u64)) /\ (∀ q ∈ SA.bk d, J.next <= q) /\ Ext J J') ?_ ?_ ⟨J, .nil, by simp [nz], OwnS.nil _ _ _, by simp [SA.bk], Ext.refl _⟩
  ·rintro k s hk ⟨J1, d, rfl, w1, o1, E1⟩
   have hx := List.getElem?_eq_getElem hk
   generalize L[k] = f at hx
   have hfl2 := hs.l f (List.mem_of_getElem? hx)
   have hrx : L.reverse[L.length - 1 - k]? = some f := by
    rw [List.getElem?_reverse (by omega), show L.length - 1 - (L.length - 1 - k) = k by omega]; exact hx
   obtain ⟨b, o, w, rfl, hld, _, iw⟩ := ft_row ia ca hrx
   obtain ⟨i, hi⟩ : ∃ i : Nat, L.length - 1 - k = i := ⟨_, rfl⟩
   have hi2 : (L.length : Int) - 1 - k = (i : Int) := by omega
   rw [hi] at hld
   have hld := fun J : AH O => hld O J
   rw [hi2]
   have hT := hfl k
   have hsn : (L.take (k + 1)).flatten = (L.take k).flatten ++ f := by rw [take_snoc hx, List.flatten_append]; simp
   rw [hsn, nz_app]
   generalize (L.take k).flatten = T at *
   have hT2 := nz_le T
   simp (maxSteps := 2000000) -implicitDefEqProofs (disch := (first | omega | rfl | assumption | (simp only [rsD]; first | omega | assumption))) only [haymowref17_Filled_L1, Nat.reduceAdd, Nat.reduceMul, Nat.reduceLT, Int.reduceToNat, Int.reduceAdd, Int.reduceSub, Int.reduceMul, rsU, rsC]
   refine Ok.step (Q := fun s => ∃ J' d', s = ([.sl d' (nz T ++ nz f).length], J') /\ OwnS J' T_uint64 1 d' (nz T ++ nz f).length ((nz T ++ nz f).map (AV.i .u64)) /\ (∀ q ∈ SA.bk d', J.next <= q) /\ Ext J J') ?_ ?_
   ·refine Ok.count f.length (fun j s => ∃ J' d', s = ([.sl d' (nz T ++ nz (f.take j)).length, .i .i64 (j : Int)], J') /\ OwnS J' T_uint64 1 d' (nz T ++ nz (f.take j)).length ((nz T ++ nz (f.take j)).map (AV.i .u64)) /\ (∀ q ∈ SA.bk d', J.next <= q) /\ Ext J J') ?_ ?_ ⟨J1, d, by simp [nz], by simpa [nz] using w1, o1, E1⟩
    ·rintro j s hj ⟨J2, d', rfl, w2, o2, E2⟩
     have hy := List.getElem?_eq_getElem hj
     generalize f[j] = y at hy
     have hym : (f.map (AV.i .u64))[j]? = some (.i .u64 y) := by rw [List.getElem?_map, hy]; rfl
     obtain ⟨wb, wo, rfl, _⟩ := (iw O J2).at1 hym
     have ly : ∀ J : AH O, J.ld wb (wo + j) = some (.i .u64 y) := fun J => by
      obtain ⟨b2, o2, e2, hl2⟩ := (iw O J).at1 hym
      cases e2
      rw [Nat.mul_one] at hl2; exact hl2
     have hF := nz_le (f.take j)
     have hFl : (f.take j).length <= 256 := by simp; omega
     have n2 := E2.next
     rw [take_snoc hy, nz_app]
     by_cases hz : y = 0
     ·have q0 : (y == 0) = true := s_eqT hz
      have e0 : nz [y] = [] := by simp [nz, hz]
      simp (maxSteps := 2000000) -implicitDefEqProofs (disch := (first | omega | rfl | assumption | (simp only [rsD]; first | omega | assumption))) only [haymowref17_Filled_L2, hld, ly, Nat.mul_one, q0, Nat.reduceAdd, Nat.reduceMul, Nat.reduceLT, Int.reduceToNat, Int.reduceAdd, Int.reduceSub, Int.reduceMul, rsU, rsC]
      rw [e0, List.append_nil]
      exact Ok_some.2 ⟨J2, d', by simp, w2, o2, E2⟩
     ·have q0 : (y == 0) = false := s_eqF hz
      have e0 : nz [y] = [y] := by simp [nz, hz]
      have hroom : (nz T ++ nz (f.take j)).length <= 100000 := by simp only [List.length_append]; omega
      rw [e0, <- List.append_assoc]
      generalize nz T ++ nz (f.take j) = F at *
      simp (maxSteps := 2000000) -implicitDefEqProofs (disch := (first | omega | rfl | assumption | (simp only [rsD]; first | omega | assumption))) only [haymowref17_Filled_L2, hld, ly, Nat.mul_one, q0, Nat.reduceAdd, Nat.reduceMul, Nat.reduceLT, Int.reduceToNat, Int.reduceAdd, Int.reduceSub, Int.reduceMul, rsU, rsC]
      generalize hJ : (J2.bump 2).put J2.next _ = J3
      have n3 : J3.next = J2.next + 2 := by rw [<- hJ]; rfl
      have o3 : ∀ q, q ≠ J2.next -> J3.blk q = J2.blk q := fun q h2 => by rw [<- hJ]; exact s_bn h2
      clear hJ
      have w3 := w2.of (J' := J3) (by omega) fun q hq => o3 q (by have := w2.lt q hq; omega)
      refine Ok.step (app_ok (nid := J2.next + 1) w3 (fun hm => by have := w2.lt _ hm; omega) (by omega) (show ([.i .u64 y] : List AV).length = 1 * 1 from rfl)) fun q ⟨a4, k1, k2, k3, k4, k5⟩ => ?_
      obtain ⟨q, J4⟩ := q
      simp only at k1 k2 k3 k4
      subst k1
      simp (maxSteps := 2000000) -implicitDefEqProofs (disch := (first | omega | rfl | assumption | (simp only [rsD]; first | omega | assumption))) only [Nat.reduceAdd, Nat.reduceMul, Nat.reduceLT, Int.reduceToNat, Int.reduceAdd, Int.reduceSub, Int.reduceMul, rsU, rsC]
      have hE : F.map (AV.i .u64) ++ [.i .u64 y] = (F ++ [y]).map (AV.i .u64) := by simp
      have hlen : F.length + 1 = (F ++ [y]).length := by simp
      rw [hE, hlen] at k2
      rw [hlen]
      refine Ok_some.2 ⟨J4, a4, by simp, k2, fun q hq => by have := k5 q hq; omega, ⟨by omega, fun q hq => ?_⟩⟩
      rw [k4 q (by omega) (fun hm => by have := o2 _ hm; omega), o3 q (by omega), E2.blk q hq]
    ·rintro s ⟨J2, d', rfl, w2, o2, E2⟩
     simp (maxSteps := 2000000) -implicitDefEqProofs (disch := (first | omega | rfl | assumption | (simp only [rsD]; first | omega | assumption))) only [haymowref17_Filled_L2, hld, Nat.mul_one, Nat.reduceAdd, Nat.reduceMul, Nat.reduceLT, Int.reduceToNat, Int.reduceAdd, Int.reduceSub, Int.reduceMul, rsU, rsC]
     rw [List.take_length] at w2
     exact Ok_some.2 ⟨J2, d', rfl, w2, o2, E2⟩
   ·rintro _ ⟨J2, d', rfl, w2, o2, E2⟩
    simp (maxSteps := 2000000) -implicitDefEqProofs (disch := (first | omega | rfl | assumption | (simp only [rsD]; first | omega | assumption))) only [Nat.reduceAdd, Nat.reduceMul, Nat.reduceLT, Int.reduceToNat, Int.reduceAdd, Int.reduceSub, Int.reduceMul, rsU, rsC]
    exact Ok_some.2 ⟨J2, d', by simp; omega, w2, o2, E2⟩
  ·rintro s ⟨J1, d, rfl, w1, o1, E1⟩
   have hd := decide_eq_false (show ¬ ((L.length : Int) - 1 - L.length >= 0) by omega)
   simp (maxSteps := 2000000) -implicitDefEqProofs (disch := (first | omega | rfl | assumption | (simp only [rsD]; first | omega | assumption))) only [haymowref17_Filled_L1, hd, Nat.reduceAdd, Nat.reduceMul, Nat.reduceLT, Int.reduceToNat, Int.reduceAdd, Int.reduceSub, Int.reduceMul, rsU, rsC]
   rw [List.take_length] at w1
   exact Ok_some.2 ⟨J1, d, rfl, w1, o1, E1⟩
 ·rintro _ ⟨J2, d, rfl, w2, o2, E2⟩
  simp (maxSteps := 2000000) -implicitDefEqProofs (disch := (first | omega | rfl | assumption | (simp only [rsD]; first | omega | assumption))) only [Nat.reduceAdd, Nat.reduceMul, Nat.reduceLT, Int.reduceToNat, Int.reduceAdd, Int.reduceSub, Int.reduceMul, rsU, rsC]
  exact Ok_some.2 ⟨d, rfl, w2, o2, E2⟩
def wmore (x y : Int) : Int := if y = 0 then 0 else IntKind.u64.wrap (y + x)
theorem rfmore_ok {J : AH O} {F : List (List Int)} (hs : FSm F) {a : SA} {vs : List AV} (ia : Imm 1 a F.length vs) (ca : ImL (F.map frow) vs) {x : Int} :
  Ok (haymowref17_More [.sl a F.length, .i .u64 x] J) fun r => Im (ft (F.map (List.map (wmore x)))) r.1 /\ Ext J r.2 := by
 refine frz_ok (Q := fun v => Im (ft (F.map (List.map (wmore x)))) v) ?_
 have hn := hs.n
 simp (maxSteps := 2000000) -implicitDefEqProofs (disch := (first | omega | rfl | assumption | (simp only [rsD]; first | omega | assumption))) only [haymowref17_More_c, Nat.reduceAdd, Nat.reduceMul, Nat.reduceLT, Int.reduceToNat, Int.reduceAdd, Int.reduceSub, Int.reduceMul, rsU, rsC]
 refine Ok.step (Q := fun s => ∃ J' d us K, s = ([.sl d F.length], J') /\ OwnS J' 70 1 d F.length us /\ OwL J' ((F.map (List.map (wmore x))).map frow) us K /\ (∀ q ∈ SA.bk d, q ∉ K) /\ (∀ q ∈ SA.bk d ++ K, J.next <= q) /\ Ext J J') ?_ ?_
 ·refine Ok.count F.length (fun k s => ∃ J' d us K, s = ([.sl d k, .i .i64 (k : Int)], J') /\ OwnS J' 70 1 d k us /\ OwL J' (((F.take k).map (List.map (wmore x))).map frow) us K /\ (∀ q ∈ SA.bk d, q ∉ K) /\ (∀ q ∈ SA.bk d ++ K, J.next <= q) /\ Ext J J') ?_ ?_ ⟨J, .nil, [], [], rfl, OwnS.nil _ _ _, .nil, by simp [SA.bk], by simp [SA.bk], Ext.refl _⟩
  ·rintro k s hk ⟨J1, d, us, K, rfl, w1, c1, d1, f1, E1⟩
   have hx := List.getElem?_eq_getElem hk
   generalize F[k] = l at hx
   have hll := hs.l l (List.mem_of_getElem? hx)
   obtain ⟨b, o, w, rfl, hld, _, iw⟩ := ft_row ia ca hx
   have hld := fun J : AH O => hld O J
   have rs := fun J : AH O => (iw O J).rdSl
   have n1 := E1.next
   simp (maxSteps := 2000000) -implicitDefEqProofs (disch := (first | omega | rfl | assumption | (simp only [rsD]; first | omega | assumption))) only [haymowref17_More_L1, hld, Nat.mul_one, rs, Nat.reduceAdd, Nat.reduceMul, Nat.reduceLT, Int.reduceToNat, Int.reduceAdd, Int.reduceSub, Int.reduceMul, rsU, rsC]
   generalize hJ : (J1.bump 2).put J1.next _ = J2
   have n2 : J2.next = J1.next + 2 := by rw [<- hJ]; rfl
   have b2 : J2.blk J1.next = some (.cells true T_uint64 []) := by rw [<- hJ]; exact s_bs
   have o2 : ∀ q, q ≠ J1.next -> J2.blk q = J1.blk q := fun q h2 => by rw [<- hJ]; exact s_bn h2
   clear hJ
   have own2 : OwnS J2 T_uint64 1 (.loc (.n J1.next) 0 1) 0 [] := OwnS.new rfl b2 (by omega)
   refine Ok.step (app_ok (nid := J1.next + 1) own2 (by simp [SA.bk]) (by omega) iw.len) fun q ⟨a3, m1, m2, m3, m4, m5⟩ => ?_
   obtain ⟨q, J3⟩ := q
   simp only at m1 m2 m3 m4
   subst m1
   rw [Nat.zero_add, List.nil_append] at m2
   simp (maxSteps := 2000000) -implicitDefEqProofs (disch := (first | omega | rfl | assumption | (simp only [rsD]; first | omega | assumption))) only [Nat.zero_add, Nat.reduceAdd, Nat.reduceMul, Nat.reduceLT, Int.reduceToNat, Int.reduceAdd, Int.reduceSub, Int.reduceMul, rsU, rsC]
   refine Ok.step (Q := fun s => ∃ J', s = ([], J') /\ J'.next = J3.next /\ OwnS J' T_uint64 1 a3 l.length ((l.map (wmore x)).map (AV.i .u64)) /\ ∀ q, q ∉ SA.bk a3 -> J'.blk q = J3.blk q) ?_ ?_
   ·refine Ok.count l.length (fun j s => ∃ J', s = ([.i .i64 (j : Int)], J') /\ J'.next = J3.next /\ OwnS J' T_uint64 1 a3 l.length (((l.take j).map (wmore x) ++ l.drop j).map (AV.i .u64)) /\ ∀ q, q ∉ SA.bk a3 -> J'.blk q = J3.blk q) ?_ ?_ ⟨J3, rfl, rfl, by simpa using m2, fun _ _ => rfl⟩
    ·rintro j s hj ⟨J4, rfl, n4, w4, o4⟩
     have hy := List.getElem?_eq_getElem hj
     generalize l[j] = y at hy
     obtain ⟨kb, rfl, hkb, hkl⟩ := w4.loc (by omega)
     have hlt : ((l.take j).map (wmore x)).length = j := by simp; omega
     have hpk : ((l.take j).map (wmore x) ++ l.drop j)[j]? = some y := by
      rw [List.getElem?_append_right (by omega), hlt, Nat.sub_self, List.getElem?_drop, Nat.add_zero]; exact hy
     have hrow : (((l.take j).map (wmore x) ++ l.drop j).map (AV.i .u64))[j]? = some (.i .u64 y) := by rw [List.getElem?_map, hpk]; rfl
     have hnext : ((l.take j).map (wmore x) ++ l.drop j).set j (wmore x y) = (l.take (j + 1)).map (wmore x) ++ l.drop (j + 1) := by
      rw [take_snoc hy, List.set_append_right _ _ (by omega), hlt, Nat.sub_self, List.drop_eq_getElem_cons hj, List.set_cons_zero, List.map_append, List.append_assoc]; rfl
     have hcl : ((l.take j).map (wmore x) ++ l.drop j).length = l.length := by simp; omega
     generalize (l.take j).map (wmore x) ++ l.drop j = C at *
     by_cases hz : y = 0
     ·have q0 : (y == 0) = true := s_eqT hz
      simp (maxSteps := 2000000) -implicitDefEqProofs (disch := (first | omega | rfl | assumption | (simp only [rsD]; first | omega | assumption))) only [haymowref17_More_L2, hkb, hrow, q0, Nat.mul_one, Nat.reduceAdd, Nat.reduceMul, Nat.reduceLT, Int.reduceToNat, Int.reduceAdd, Int.reduceSub, Int.reduceMul, rsU, rsC]
      have hm : wmore x y = y := by unfold wmore; rw [if_pos hz, hz]
      rw [hm, set_same hpk] at hnext
      exact Ok_some.2 ⟨J4, by simp, n4, by rw [<- hnext]; exact w4, o4⟩
     ·have q0 : (y == 0) = false := s_eqF hz
      have hm : wmore x y = IntKind.u64.wrap (y + x) := if_neg hz
      have hsp : splice (C.map (AV.i .u64)) j [.i .u64 (IntKind.u64.wrap (y + x))] = (C.set j (wmore x y)).map (AV.i .u64) := by rw [splice_set (by simp; omega), List.map_set, hm]
      have hle : Nat.ble (j + 1) (C.map (AV.i .u64)).length = true := Nat.ble_eq_true_of_le (by simp; omega)
      simp (maxSteps := 2000000) -implicitDefEqProofs (disch := (first | omega | rfl | assumption | (simp only [rsD]; first | omega | assumption))) only [haymowref17_More_L2, hkb, hrow, q0, hsp, hle, Nat.mul_one, Nat.reduceAdd, Nat.reduceMul, Nat.reduceLT, Int.reduceToNat, Int.reduceAdd, Int.reduceSub, Int.reduceMul, rsU, rsC]
      rw [hnext]
      refine Ok_some.2 ⟨J4.put kb (.cells true T_uint64 (((l.take (j + 1)).map (wmore x) ++ l.drop (j + 1)).map (AV.i .u64))), by simp, by simpa using n4, OwnS.new (by rw [<- hnext]; simp [hcl]) s_bs (by simpa using hkl), fun q hq => ?_⟩
      rw [s_bn (by simpa [SA.bk] using hq)]; exact o4 q hq
    ·rintro s ⟨J4, rfl, n4, w4, o4⟩
     simp (maxSteps := 2000000) -implicitDefEqProofs (disch := (first | omega | rfl | assumption | (simp only [rsD]; first | omega | assumption))) only [haymowref17_More_L2, Nat.reduceAdd, Nat.reduceMul, Nat.reduceLT, Int.reduceToNat, Int.reduceAdd, Int.reduceSub, Int.reduceMul, rsU, rsC]
     exact Ok_some.2 ⟨J4, rfl, n4, by simpa using w4, o4⟩
   ·rintro _ ⟨J4, rfl, n4, w4, o4⟩
    simp (maxSteps := 2000000) -implicitDefEqProofs (disch := (first | omega | rfl | assumption | (simp only [rsD]; first | omega | assumption))) only [Nat.reduceAdd, Nat.reduceMul, Nat.reduceLT, Int.reduceToNat, Int.reduceAdd, Int.reduceSub, Int.reduceMul, rsU, rsC]
    generalize hJ : (J4.bump 2).put J4.next _ = J5
    have n5 : J5.next = J4.next + 2 := by rw [<- hJ]; rfl
    have o5 : ∀ q, q ≠ J4.next -> J5.blk q = J4.blk q := fun q h2 => by rw [<- hJ]; exact s_bn h2
    clear hJ
    have old : ∀ q, q < J1.next -> J5.blk q = J1.blk q := fun q hq => by
     rw [o5 q (by omega), o4 q (fun hm => by have := m5 q hm; omega), m4 q (by omega) (by simp [SA.bk]; omega), o2 q (by omega)]
    have w5 := w1.of (J' := J5) (by omega) fun q hq => old q (w1.lt q hq)
    refine Ok.step (app_ok (nid := J4.next + 1) w5 (fun hm => by have := w1.lt _ hm; omega) (by omega) (show ([.sl a3 l.length] : List AV).length = 1 * 1 from rfl)) fun q ⟨a6, k1, k2, k3, k4, k5⟩ => ?_
    obtain ⟨q, J6⟩ := q
    simp only at k1 k2 k3 k4
    subst k1
    simp (maxSteps := 2000000) -implicitDefEqProofs (disch := (first | omega | rfl | assumption | (simp only [rsD]; first | omega | assumption))) only [Nat.reduceAdd, Nat.reduceMul, Nat.reduceLT, Int.reduceToNat, Int.reduceAdd, Int.reduceSub, Int.reduceMul, rsU, rsC]
    have old6 : ∀ q, q < J4.next -> q ∉ SA.bk d -> J6.blk q = J5.blk q := fun q h1 h2 => k4 q (by omega) h2
    have ow : Ow J6 (frow (l.map (wmore x))) (.sl a3 l.length) (SA.bk a3) := by
     have w6 : OwnS J6 T_uint64 1 a3 l.length ((l.map (wmore x)).map (AV.i .u64)) := w4.of (by omega) fun q hq => by
      have := m5 q hq
      rw [old6 q (by omega) (fun hm => by have := w1.lt q hm; omega), o5 q (by omega)]
     have := Ow.leaves w6 (flat_ints (l.map (wmore x)))
     simpa [frow] using this
    have c6 := c1.of (J' := J6) (by omega) fun q hq => by
     have := c1.lt q hq
     rw [old6 q (by omega) (fun hm => d1 q hm hq), old q this]
    have ap := OwL.app c6 (OwL.cons ow .nil (by simp)) fun q hq hm => by
     simp only [List.append_nil] at hm
     have := c1.lt q hq
     have := m5 q hm; omega
    have et : (F.take (k + 1)).map (List.map (wmore x)) = (F.take k).map (List.map (wmore x)) ++ [l.map (wmore x)] := by rw [take_snoc hx, List.map_append]; rfl
    rw [et]
    refine Ok_some.2 ⟨J6, a6, _, _, by simp, k2, by rw [List.map_append]; exact ap, fun q hq hm => ?_, fun q hq => ?_, ⟨by omega, fun q hq => ?_⟩⟩
    ·have := k5 q hq
     simp only [List.append_nil, List.mem_append] at hm
     rcases hm with hm | hm
     ·have := c1.lt q hm; omega
     ·have := m5 q hm; omega
    ·simp only [List.append_nil, List.mem_append] at hq
     rcases hq with hq | hq | hq
     ·have := k5 q hq; omega
     ·exact f1 q (by simp [hq])
     ·have := m5 q hq; omega
    ·rw [old6 q (by omega) (fun hm => by have := f1 q (by simp [hm]); omega), old q (by omega), E1.blk q hq]
  ·rintro s ⟨J1, d, us, K, rfl, w1, c1, d1, f1, E1⟩
   simp (maxSteps := 2000000) -implicitDefEqProofs (disch := (first | omega | rfl | assumption | (simp only [rsD]; first | omega | assumption))) only [haymowref17_More_L1, Nat.reduceAdd, Nat.reduceMul, Nat.reduceLT, Int.reduceToNat, Int.reduceAdd, Int.reduceSub, Int.reduceMul, rsU, rsC]
   rw [List.take_length] at c1
   exact Ok_some.2 ⟨J1, d, us, K, rfl, w1, c1, d1, f1, E1⟩
 ·rintro _ ⟨J1, d, us, K, rfl, w1, c1, d1, f1, E1⟩
  simp (maxSteps := 2000000) -implicitDefEqProofs (disch := (first | omega | rfl | assumption | (simp only [rsD]; first | omega | assumption))) only [Nat.reduceAdd, Nat.reduceMul, Nat.reduceLT, Int.reduceToNat, Int.reduceAdd, Int.reduceSub, Int.reduceMul, rsU, rsC]
  have hl : (F.map (List.map (wmore x))).length = F.length := by simp
  obtain ⟨v', z1, z2⟩ := Ow.fz (t := ft (F.map (List.map (wmore x)))) (d := 7) (.sl (by rw [hl]; exact w1) c1 d1) (ft_deep _)
  rw [hl] at z1
  exact Ok_some.2 ⟨v', _, z1, f1, E1, z2⟩
end Go.Abs.Tryz
namespace Go.Abs.Tryz
open Go Go.Abs
variable {O : Type}
structure RS where
 L : List (List Int)
 G : HS
 K : HS
def RS.vs (S : RS) (f a b c a' b' c' : SA) : List AV :=
 [.sl f S.L.reverse.length, .i .i64 S.G.D.words, .sl a S.G.D.L.length, .sl b S.G.D.free.length, .i .i64 S.G.D.room, .sl c S.G.L.length, .i .i64 S.K.D.words, .sl a' S.K.D.L.length, .sl b' S.K.D.free.length, .i .i64 S.K.D.room, .sl c' S.K.L.length]
structure RS.st (S : RS) (f a b c a' b' c' : SA) : Prop where
 f : ∃ vs, Imm 1 f S.L.reverse.length vs /\ ImL (S.L.reverse.map frow) vs
 g : S.G.st a b c
 k : S.K.st a' b' c'
def RS.at_ (S : RS) (v : AV) : Prop := ∃ f a b c a' b' c', v = .agg (S.vs f a b c a' b' c') /\ S.st f a b c a' b' c'
theorem RS.st.fl {S : RS} {f a b c a' b' c' : SA} (h : S.st f a b c a' b' c') : (S.vs f a b c a' b' c').all AV.flat = true := by
 obtain ⟨vs, i, _⟩ := h.f
 obtain ⟨f1, f2⟩ := DS.flat h.g.d
 obtain ⟨f3, f4⟩ := DS.flat h.k.d
 simp only [RS.vs, List.all_cons, List.all_nil, i.flat, f1, f2, f3, f4, h.g.l.flat, h.k.l.flat, Bool.and_true, Bool.true_and]; rfl
theorem RS.fz {S : RS} {J : AH O} {f a b c a' b' c' : SA} (h : S.st f a b c a' b' c') : FZ 8 J.blk [] (.agg (S.vs f a b c a' b' c')) (.agg (S.vs f a b c a' b' c')) := FZ.agg (FZL.flat h.fl)
theorem RS.fzt {S : RS} {J : AH O} {f a b c a' b' c' : SA} {n : Int} (h : S.st f a b c a' b' c') : FZ 8 J.blk [] (.tup [.agg (S.vs f a b c a' b' c'), .i .i64 n]) (.tup [.agg (S.vs f a b c a' b' c'), .i .i64 n]) := by
 have := FZL.cons0 (FZ.agg (d := 6) (FZL.flat (H := J.blk) h.fl)) (FZL.flat (vs := [.i .i64 n]) rfl)
 exact FZ.tup this
structure RSm (S : RS) : Prop where
 f : FSm S.L
 g : S.G.L.length <= 1000
 k : S.K.L.length <= 1000
theorem FSm.rev {L : List (List Int)} (h : FSm L) : FSm L.reverse := ⟨by simpa using h.n, fun f hf => h.l f (by simpa using hf)⟩
def RS.get (S : RS) (name : Int) : Int × Int :=
 if name >= 0 then (match S.G.at name with | none => (0, 30) | some i => ((S.G.L.getD i (0, 0)).2, 0))
 else if fwrong S.L (-1 - name) = 0 then ((S.L.headD []).getD (-1 - name).toNat 0, 0) else (0, fwrong S.L (-1 - name))
theorem fwrong_zero {L : List (List Int)} {slot : Int} (h : fwrong L slot = 0) : ∃ f r, L = f :: r /\ 0 <= slot /\ slot < f.length := by
 cases L with
 | nil => simp [fwrong] at h
 | cons f r =>
  simp only [fwrong] at h
  split at h
  ·cases h
  ·exact ⟨f, r, rfl, by omega, by omega⟩
theorem rrget_ok {J : AH O} {S : RS} (hs : RSm S) {f a b c a' b' c' : SA} (h : S.st f a b c a' b' c') {name : Int} (hr : -9223372036854775808 <= name /\ name <= 9223372036854775807) :
  Ok (haymowref19_Get [.agg (S.vs f a b c a' b' c'), .i .i64 name] J) fun r => r.1 = .tup [.i .u64 (S.get name).1, .i .i64 (S.get name).2] /\ Ext J r.2 := by
 obtain ⟨vs, ia, ca⟩ := h.f
 have hn := hs.f.n
 unfold RS.get
 by_cases c0 : name >= 0
 ·have d0 := decide_eq_true c0
  rw [if_pos c0]
  simp (maxSteps := 2000000) -implicitDefEqProofs (disch := (first | omega | rfl | assumption | (simp only [rsD]; first | omega | assumption))) only [haymowref19_Get, haymowref19_Get_c, RS.vs, d0, Nat.reduceAdd, Nat.reduceMul, Nat.reduceLT, Int.reduceToNat, Int.reduceAdd, Int.reduceSub, Int.reduceMul, rsU, rsC]
  generalize hJ : (J.bump 1).put J.next (.cells true _ _) = J1
  obtain ⟨E1, b1, n1⟩ := boxed hJ
  clear hJ
  have hat := rhat_ok (J := J1) h.g (t := name) hs.g
  simp only [HS.vs] at hat
  refine Ok.step hat fun r ⟨g1, E2⟩ => ?_
  obtain ⟨q, J2⟩ := r
  simp only at g1 E2
  subst g1
  have b2 : J2.blk J.next = _ := (E2.blk _ (by omega)).trans b1
  unfold HS.atI
  cases ha : S.G.at name with
  | none =>
   simp only
   simp (maxSteps := 2000000) -implicitDefEqProofs (disch := (first | omega | rfl | assumption | (simp only [rsD]; first | omega | assumption))) only [Nat.reduceAdd, Nat.reduceMul, Nat.reduceLT, Int.reduceToNat, Int.reduceAdd, Int.reduceSub, Int.reduceMul, rsU, rsC]
   exact Ok_some.2 ⟨rfl, E1.trans E2⟩
  | some i =>
   obtain ⟨x, hx, hi, _⟩ := HS.at_some ha
   obtain ⟨qb, qo, rfl, hld⟩ := Imm.row hcell_len h.g.l hx (by decide)
   have ld1 : J2.ld qb (qo + i * 2 + 1) = some (.i .u64 x) := hld O J2 1 (by decide)
   have hv : (S.G.L.getD i (0, 0)).2 = x := by rw [List.getD_eq_getElem?_getD, hx]; rfl
   have hgl := hs.g
   simp only
   simp (maxSteps := 2000000) -implicitDefEqProofs (disch := (first | omega | rfl | assumption | (simp only [rsD]; first | omega | assumption))) only [b2, ld1, Nat.reduceAdd, Nat.reduceMul, Nat.reduceLT, Int.reduceToNat, Int.reduceAdd, Int.reduceSub, Int.reduceMul, rsU, rsC]
   rw [hv]
   exact Ok_some.2 ⟨rfl, E1.trans E2⟩
 ·have d0 := decide_eq_false c0
  rw [if_neg c0]
  simp (maxSteps := 2000000) -implicitDefEqProofs (disch := (first | omega | rfl | assumption | (simp only [rsD]; first | omega | assumption))) only [haymowref19_Get, haymowref19_Get_c, RS.vs, d0, Nat.reduceAdd, Nat.reduceMul, Nat.reduceLT, Int.reduceToNat, Int.reduceAdd, Int.reduceSub, Int.reduceMul, rsU, rsC]
  generalize hJ : (J.bump 1).put J.next (.cells true _ _) = J1
  obtain ⟨E1, b1, n1⟩ := boxed hJ
  clear hJ
  refine Ok.step (rfwrong_ok (J := J1) hs.f ia ca (slot := -1 - name)) fun r e => ?_
  subst e
  by_cases hw : fwrong S.L (-1 - name) = 0
  ·rw [if_pos hw, hw]
   obtain ⟨f0, r0, hL, h0, h1⟩ := fwrong_zero hw
   have e0 : ((0 : Int) != 0) = false := rfl
   rw [hL] at ia ca b1 hn
   obtain ⟨qb, qo, w, rfl, hld, _, iw⟩ := ft_row ia ca rev_last
   have hld := hld O J1
   have hfl := hs.f.l f0 (by rw [hL]; simp)
   obtain ⟨k, hk⟩ := Int.eq_ofNat_of_zero_le h0
   have hkl : k < f0.length := by omega
   have hkm : (f0.map (AV.i .u64))[k]? = some (.i .u64 f0[k]) := by simp [hkl]
   obtain ⟨wb, wo, rfl, hl2⟩ := (iw O J1).at1 hkm
   rw [Nat.mul_one] at hl2
   have e1 : (((f0 :: r0).reverse.length : Int) - 1) = (r0.length : Int) := by simp
   have e3 : (r0.length : Int) < ((f0 :: r0).reverse.length : Int) := by simp; omega
   have hn' : r0.length <= 100 := by simp at hn; omega
   simp (maxSteps := 2000000) -implicitDefEqProofs (disch := (first | omega | rfl | assumption | (simp only [rsD]; first | omega | assumption))) only [e0, b1, e1, e3, hld, Nat.mul_one, hk, hl2, Nat.reduceAdd, Nat.reduceMul, Nat.reduceLT, Int.reduceToNat, Int.reduceAdd, Int.reduceSub, Int.reduceMul, rsU, rsC]
   rw [hL]
   refine Ok_some.2 ⟨?_, E1⟩
   simp [List.getD_eq_getElem?_getD, hkl]
  ·rw [if_neg hw]
   have e0 : (fwrong S.L (-1 - name) == 0) = false := s_eqF hw
   simp (maxSteps := 2000000) -implicitDefEqProofs (disch := (first | omega | rfl | assumption | (simp only [rsD]; first | omega | assumption))) only [e0, Nat.reduceAdd, Nat.reduceMul, Nat.reduceLT, Int.reduceToNat, Int.reduceAdd, Int.reduceSub, Int.reduceMul, rsU, rsC]
   exact Ok_some.2 ⟨rfl, E1⟩
def topset (L : List (List Int)) (k : Nat) (x : Int) : List (List Int) := match L with | f :: r => f.set k x :: r | [] => []
def RS.set (S : RS) (name x : Int) : RS × Int :=
 if name >= 0 then ({ S with G := S.G.set name x }, S.G.code name)
 else if fwrong S.L (-1 - name) = 0 then ({ S with L := topset S.L (-1 - name).toNat x }, 0) else (S, fwrong S.L (-1 - name))
theorem rrset_ok {J : AH O} {S : RS} (hs : RSm S) {f a b c a' b' c' : SA} (h : S.st f a b c a' b' c') {name x : Int} (hr : -9223372036854775808 <= name /\ name <= 9223372036854775807) :
  Ok (haymowref19_Set [.agg (S.vs f a b c a' b' c'), .i .i64 name, .i .u64 x] J) fun r => (∃ v', r.1 = .tup [v', .i .i64 (S.set name x).2] /\ (S.set name x).1.at_ v') /\ Ext J r.2 := by
 refine frz_ok (Q := fun v => ∃ v', v = .tup [v', .i .i64 (S.set name x).2] /\ (S.set name x).1.at_ v') ?_
 obtain ⟨vs, ia, ca⟩ := h.f
 have hn := hs.f.n
 unfold RS.set
 by_cases c0 : name >= 0
 ·have d0 := decide_eq_true c0
  rw [if_pos c0]
  simp (maxSteps := 2000000) -implicitDefEqProofs (disch := (first | omega | rfl | assumption | (simp only [rsD]; first | omega | assumption))) only [haymowref19_Set_c, RS.vs, d0, Nat.reduceAdd, Nat.reduceMul, Nat.reduceLT, Int.reduceToNat, Int.reduceAdd, Int.reduceSub, Int.reduceMul, rsU, rsC]
  generalize hJ : ((J.bump 2).put J.next _).put (J.next + 1) _ = J1
  obtain ⟨E1, n1, b0, b1⟩ := box2 hJ
  clear hJ
  have hst := rhset_ok (J := J1) h.g hs.g (t := name) (x := x)
  simp only [HS.vs] at hst
  refine Ok.step hst fun r ⟨⟨v', g1, p, q, s, e, st'⟩, E2⟩ => ?_
  obtain ⟨q0, J2⟩ := r
  simp only at g1 E2
  subst g1
  subst e
  have c0' : J2.blk J.next = _ := (E2.blk _ (by omega)).trans b0
  have c1 : J2.blk (J.next + 1) = _ := (E2.blk _ (by omega)).trans b1
  have n2 := E2.next
  simp (maxSteps := 2000000) -implicitDefEqProofs (disch := (first | omega | rfl | assumption | (simp only [rsD]; first | omega | assumption))) only [HS.vs, c0', c1, Nat.reduceAdd, Nat.reduceMul, Nat.reduceLT, Int.reduceToNat, Int.reduceAdd, Int.reduceSub, Int.reduceMul, rsU, rsC]
  have st2 : RS.st ⟨S.L, S.G.set name x, S.K⟩ f p q s a' b' c' := ⟨⟨vs, ia, ca⟩, st', h.k⟩
  refine Ok_some.2 ⟨_, [], RS.fzt st2, by simp, ?_, _, rfl, _, _, _, _, _, _, _, rfl, st2⟩
  exact ((E1.trans E2).put (Nat.le_refl _) _).put (by omega) _
 ·have d0 := decide_eq_false c0
  rw [if_neg c0]
  simp (maxSteps := 2000000) -implicitDefEqProofs (disch := (first | omega | rfl | assumption | (simp only [rsD]; first | omega | assumption))) only [haymowref19_Set_c, RS.vs, d0, Nat.reduceAdd, Nat.reduceMul, Nat.reduceLT, Int.reduceToNat, Int.reduceAdd, Int.reduceSub, Int.reduceMul, rsU, rsC]
  generalize hJ : ((J.bump 2).put J.next _).put (J.next + 1) _ = J1
  obtain ⟨E1, n1, b0, b1⟩ := box2 hJ
  clear hJ
  refine Ok.step (rfwrong_ok (J := J1) hs.f ia ca (slot := -1 - name)) fun r e => ?_
  subst e
  by_cases hw : fwrong S.L (-1 - name) = 0
  ·rw [if_pos hw, hw]
   obtain ⟨f0, r0, hL, h0, h1⟩ := fwrong_zero hw
   have e0 : ((0 : Int) != 0) = false := rfl
   obtain ⟨k, hk⟩ := Int.eq_ofNat_of_zero_le h0
   have hkl : k < f0.length := by omega
   simp (maxSteps := 2000000) -implicitDefEqProofs (disch := (first | omega | rfl | assumption | (simp only [rsD]; first | omega | assumption))) only [e0, b0, hk, Nat.reduceAdd, Nat.reduceMul, Nat.reduceLT, Int.reduceToNat, Int.reduceAdd, Int.reduceSub, Int.reduceMul, rsU, rsC]
   have fs := rfset_ok (J := J1) (f := f0) (r := r0) (by rw [<- hL]; exact hs.f) (by rw [<- hL]; exact ia) (by rw [<- hL]; exact ca) (x := x) hkl
   rw [<- hL] at fs
   refine Ok.step fs fun r ⟨g1, E2⟩ => ?_
   obtain ⟨q, J2⟩ := r
   simp only at g1 E2
   obtain ⟨a2, vs2, rfl, i2, c2⟩ := ft_rd g1
   have hl2 : (f0.set k x :: r0).reverse.length = S.L.reverse.length := by rw [hL]; simp
   have c0' : J2.blk J.next = _ := (E2.blk _ (by omega)).trans b0
   have c1 : J2.blk (J.next + 1) = _ := (E2.blk _ (by omega)).trans b1
   have n2 := E2.next
   simp (maxSteps := 2000000) -implicitDefEqProofs (disch := (first | omega | rfl | assumption | (simp only [rsD]; first | omega | assumption))) only [c0', c1, Nat.reduceAdd, Nat.reduceMul, Nat.reduceLT, Int.reduceToNat, Int.reduceAdd, Int.reduceSub, Int.reduceMul, rsU, rsC]
   have hLs : topset S.L k x = f0.set k x :: r0 := by rw [hL]; rfl
   rw [hLs]
   have st2 : RS.st ⟨f0.set k x :: r0, S.G, S.K⟩ a2 a b c a' b' c' := ⟨⟨vs2, i2, c2⟩, h.g, h.k⟩
   refine Ok_some.2 ⟨_, [], RS.fzt st2, by simp, ?_, _, rfl, _, _, _, _, _, _, _, rfl, st2⟩
   exact ((E1.trans E2).put (Nat.le_refl _) _).put (by omega) _
  ·rw [if_neg hw]
   have e0 : (fwrong S.L (-1 - name) == 0) = false := s_eqF hw
   simp (maxSteps := 2000000) -implicitDefEqProofs (disch := (first | omega | rfl | assumption | (simp only [rsD]; first | omega | assumption))) only [e0, b0, b1, Nat.reduceAdd, Nat.reduceMul, Nat.reduceLT, Int.reduceToNat, Int.reduceAdd, Int.reduceSub, Int.reduceMul, rsU, rsC]
   refine Ok_some.2 ⟨_, [], RS.fzt h, by simp, E1.put (by omega) _, _, rfl, _, _, _, _, _, _, _, rfl, h⟩
theorem rrcharge_ok {J : AH O} {S : RS} (hs : RSm S) {f a b c a' b' c' : SA} (h : S.st f a b c a' b' c') :
  Ok (haymowref19_Charge [.agg (S.vs f a b c a' b' c')] J) fun r => r.1 = .i .i64 ((wds S.L : Int) + 4 * (S.G.L.length : Int) + 4 * (S.K.L.length : Int)) /\ Ext J r.2 := by
 obtain ⟨vs, ia, ca⟩ := h.f
 have hn := hs.f.n
 have hg := hs.g
 have hk := hs.k
 have hb := fsum_le (F := S.L.reverse) hs.f.rev.l
 rw [fsum_wds, List.length_reverse] at hb
 simp (maxSteps := 2000000) -implicitDefEqProofs (disch := (first | omega | rfl | assumption | (simp only [rsD]; first | omega | assumption))) only [haymowref19_Charge, haymowref19_Charge_c, RS.vs, Nat.reduceAdd, Nat.reduceMul, Nat.reduceLT, Int.reduceToNat, Int.reduceAdd, Int.reduceSub, Int.reduceMul, rsU, rsC]
 generalize hJ : (J.bump 1).put J.next (.cells true _ _) = J1
 obtain ⟨E1, b1, n1⟩ := boxed hJ
 clear hJ
 refine Ok.step (rfwords_ok (J := J1) hs.f.rev ia ca) fun r e => ?_
 subst e
 rw [fsum_wds]
 simp (maxSteps := 2000000) -implicitDefEqProofs (disch := (first | omega | rfl | assumption | (simp only [rsD]; first | omega | assumption))) only [b1, Nat.reduceAdd, Nat.reduceMul, Nat.reduceLT, Int.reduceToNat, Int.reduceAdd, Int.reduceSub, Int.reduceMul, rsU, rsC]
 exact Ok_some.2 ⟨rfl, E1⟩
def RS.more (S : RS) (x : Int) : RS := ⟨S.L.map (List.map (wmore x)), S.G.more x, S.K⟩
def RS.filled (S : RS) : List Int := nz S.L.flatten ++ S.G.filled
theorem rrmore_ok {J : AH O} {S : RS} (hs : RSm S) {f a b c a' b' c' : SA} (h : S.st f a b c a' b' c') {x : Int} :
  Ok (haymowref19_More [.agg (S.vs f a b c a' b' c'), .i .u64 x] J) fun r => (S.more x).at_ r.1 /\ Ext J r.2 := by
 refine frz_ok (Q := fun v => (S.more x).at_ v) ?_
 obtain ⟨vs, ia, ca⟩ := h.f
 simp (maxSteps := 2000000) -implicitDefEqProofs (disch := (first | omega | rfl | assumption | (simp only [rsD]; first | omega | assumption))) only [haymowref19_More_c, RS.vs, Nat.reduceAdd, Nat.reduceMul, Nat.reduceLT, Int.reduceToNat, Int.reduceAdd, Int.reduceSub, Int.reduceMul, rsU, rsC]
 generalize hJ : ((J.bump 2).put J.next _).put (J.next + 1) _ = J1
 obtain ⟨E1, n1, b0, b1⟩ := box2 hJ
 clear hJ
 refine Ok.step (rfmore_ok (J := J1) hs.f.rev ia ca (x := x)) fun r ⟨g1, E2⟩ => ?_
 obtain ⟨q, J2⟩ := r
 simp only at g1 E2
 obtain ⟨a2, vs2, rfl, i2, c2⟩ := ft_rd g1
 have c0 : J2.blk J.next = _ := (E2.blk _ (by omega)).trans b0
 have c1 : J2.blk (J.next + 1) = _ := (E2.blk _ (by omega)).trans b1
 have n2 := E2.next
 simp (maxSteps := 2000000) -implicitDefEqProofs (disch := (first | omega | rfl | assumption | (simp only [rsD]; first | omega | assumption))) only [c0, Nat.reduceAdd, Nat.reduceMul, Nat.reduceLT, Int.reduceToNat, Int.reduceAdd, Int.reduceSub, Int.reduceMul, rsU, rsC]
 have hm := rhmore_ok (J := J2.put J.next (.cells true T_haymowref19_State [.sl a2 (S.L.reverse.map (List.map (wmore x))).length, .i .i64 S.G.D.words, .sl a S.G.D.L.length, .sl b S.G.D.free.length, .i .i64 S.G.D.room, .sl c S.G.L.length, .i .i64 S.K.D.words, .sl a' S.K.D.L.length, .sl b' S.K.D.free.length, .i .i64 S.K.D.room, .sl c' S.K.L.length])) h.g hs.g (x := x)
 simp only [HS.vs] at hm
 refine Ok.step hm fun r ⟨⟨p, q, s, e, st'⟩, E3⟩ => ?_
 obtain ⟨q0, J3⟩ := r
 simp only at e E3
 subst e
 have d0 := E3.blk J.next (by simp; omega)
 rw [s_bs] at d0
 have d1 := E3.blk (J.next + 1) (by simp; omega)
 rw [s_bn (by omega), c1] at d1
 have n3 := E3.next
 simp only [rsD] at n3
 simp (maxSteps := 2000000) -implicitDefEqProofs (disch := (first | omega | rfl | assumption | (simp only [rsD]; first | omega | assumption))) only [HS.vs, d0, d1, Nat.reduceAdd, Nat.reduceMul, Nat.reduceLT, Int.reduceToNat, Int.reduceAdd, Int.reduceSub, Int.reduceMul, rsU, rsC]
 have hrev : S.L.reverse.map (List.map (wmore x)) = (S.L.map (List.map (wmore x))).reverse := by simp
 rw [hrev] at i2 c2 ⊢
 have st2 : RS.st (S.more x) a2 p q s a' b' c' := ⟨⟨vs2, i2, c2⟩, st', h.k⟩
 refine Ok_some.2 ⟨_, [], RS.fz st2, by simp, ?_, _, _, _, _, _, _, _, rfl, st2⟩
 have E23 : Ext J J3 := ⟨by omega, fun q hq => (E3.blk q (by simp; omega)).trans ((s_bn (by omega)).trans ((E2.blk q (by omega)).trans (E1.blk q hq)))⟩
 exact (E23.put (Nat.le_refl _) _).put (by omega) _
theorem rrfilled_ok {J : AH O} {S : RS} (hs : RSm S) {f a b c a' b' c' : SA} (h : S.st f a b c a' b' c') :
  Ok (haymowref19_Filled [.agg (S.vs f a b c a' b' c')] J) fun r => (∃ d, r.1 = .sl d S.filled.length /\ Imm 1 d S.filled.length (S.filled.map (AV.i .u64))) /\ Ext J r.2 := by
 refine frz_ok (Q := fun v => ∃ d, v = .sl d S.filled.length /\ Imm 1 d S.filled.length (S.filled.map (AV.i .u64))) ?_
 obtain ⟨vs, ia, ca⟩ := h.f
 have hfl : (nz S.L.flatten).length <= 256 * 100 := by
  have : ∀ (l : List (List Int)), (∀ f ∈ l, f.length <= 256) -> l.flatten.length <= 256 * l.length := fun l => by
   induction l with
   | nil => simp
   | cons f r ih =>
    intro h
    have h1 := h f List.mem_cons_self
    have h2 := ih fun x hx => h x (List.mem_cons_of_mem _ hx)
    simp only [List.flatten_cons, List.length_append, List.length_cons]; omega
  have h1 := this S.L hs.f.l
  have h2 := hs.f.n
  have h3 := nz_le S.L.flatten
  omega
 have hgl : S.G.filled.length <= 1000 := by
  refine Nat.le_trans (List.length_filter_le _ _) ?_
  simp; exact hs.g
 simp (maxSteps := 2000000) -implicitDefEqProofs (disch := (first | omega | rfl | assumption | (simp only [rsD]; first | omega | assumption))) only [haymowref19_Filled_c, RS.vs, Nat.reduceAdd, Nat.reduceMul, Nat.reduceLT, Int.reduceToNat, Int.reduceAdd, Int.reduceSub, Int.reduceMul, rsU, rsC]
 generalize hJ : ((J.bump 1).put J.next _).bump 1 = J1
 have n1 : J1.next = J.next + 2 := by rw [<- hJ]; rfl
 have E1 : Ext J J1 := by rw [<- hJ]; exact (((Ext.refl J).bump 1).put (Nat.le_refl _) _).bump 1
 have b1 : J1.blk J.next = some (.cells true T_haymowref19_State (S.vs f a b c a' b' c')) := by rw [<- hJ]; exact s_bs
 clear hJ
 simp only [RS.vs] at b1
 refine Ok.step (rffilled_ok (J := J1) hs.f ia ca) fun r ⟨d, g1, g2, g0, E2⟩ => ?_
 obtain ⟨q, J2⟩ := r
 simp only at g1 g2 E2
 subst g1
 have b2 : J2.blk J.next = _ := (E2.blk _ (by omega)).trans b1
 have n2 := E2.next
 simp (maxSteps := 2000000) -implicitDefEqProofs (disch := (first | omega | rfl | assumption | (simp only [rsD]; first | omega | assumption))) only [b2, Nat.reduceAdd, Nat.reduceMul, Nat.reduceLT, Int.reduceToNat, Int.reduceAdd, Int.reduceSub, Int.reduceMul, rsU, rsC]
 have hf := rhfilled_ok (J := J2) h.g hs.g
 simp only [HS.vs] at hf
 refine Ok.step hf fun r ⟨⟨d2, g3, g4⟩, E3⟩ => ?_
 obtain ⟨q, J3⟩ := r
 simp only at g3 E3
 subst g3
 have n3 := E3.next
 have rs := (g4 O J3).rdSl
 simp (maxSteps := 2000000) -implicitDefEqProofs (disch := (first | omega | rfl | assumption | (simp only [rsD]; first | omega | assumption))) only [rs, Nat.reduceAdd, Nat.reduceMul, Nat.reduceLT, Int.reduceToNat, Int.reduceAdd, Int.reduceSub, Int.reduceMul, rsU, rsC]
 have g2' := g2.of E3.next fun q hq => E3.blk q (g2.lt q hq)
 refine Ok.step (app_ok (nid := J.next + 1) g2' (fun hm => by have := g0 _ hm; omega) (by omega) (show (S.G.filled.map (AV.i .u64)).length = S.G.filled.length * 1 by simp)) fun q ⟨a', k1, k2, k3, k4, k5⟩ => ?_
 obtain ⟨q, J4⟩ := q
 simp only at k1 k2 k3 k4
 subst k1
 simp (maxSteps := 2000000) -implicitDefEqProofs (disch := (first | omega | rfl | assumption | (simp only [rsD]; first | omega | assumption))) only [Nat.reduceAdd, Nat.reduceMul, Nat.reduceLT, Int.reduceToNat, Int.reduceAdd, Int.reduceSub, Int.reduceMul, rsU, rsC]
 have E4 : Ext J J4 := ⟨by omega, fun q hq => by rw [k4 q (by omega) (fun hm => by have := g0 _ hm; omega), E3.blk q (by omega), E2.blk q (by omega), E1.blk q hq]⟩
 have hl : (nz S.L.flatten).length + S.G.filled.length = S.filled.length := by simp [RS.filled]
 have hm : (nz S.L.flatten).map (AV.i .u64) ++ S.G.filled.map (AV.i .u64) = S.filled.map (AV.i .u64) := by simp [RS.filled]
 rw [hl, hm] at k2
 rw [hl]
 obtain ⟨d', f', m⟩ := FZ.sl (d := 6) k2 (fun _ _ => rfl) (FZL.flat (flat_ints _)) rfl (by simp)
 rw [List.append_nil] at f'
 exact Ok_some.2 ⟨_, _, f', fun q hq => by have := k5 q hq; omega, E4, d', rfl, m⟩
end Go.Abs.Tryz
namespace Go.Abs.Tryz
open Go Go.Abs
variable {O : Type}
theorem zeros_flat (n : Nat) : (List.replicate n [AV.i .u64 0]).flatten = (List.replicate n (0 : Int)).map (AV.i .u64) := by
 induction n with
 | zero => rfl
 | succ n ih => rw [List.replicate_succ, List.flatten_cons, ih, List.replicate_succ]; rfl
theorem ft_deep6 (F : List (List Int)) : (ft F).deep 6 := by
 unfold ft TV.deep
 intro t ht
 obtain ⟨l, _, rfl⟩ := List.mem_map.1 ht
 unfold frow TV.deep
 intro t ht
 obtain ⟨x, _, rfl⟩ := List.mem_map.1 ht
 unfold TV.deep; trivial
theorem RS.st.flt {S : RS} {f a b c a' b' c' : SA} (h : S.st f a b c a' b' c') : (S.vs f a b c a' b' c').tail.all AV.flat = true := by
 have := h.fl
 simp only [RS.vs, List.all_cons, Bool.and_eq_true, List.tail_cons] at this ⊢
 exact this.2
theorem rrpush_ok {J : AH O} {S : RS} (hs : RSm S) {f a b c a' b' c' : SA} (h : S.st f a b c a' b' c') {n : Nat} (hn : n <= 256) :
  Ok (haymowref19_Push [.agg (S.vs f a b c a' b' c'), .i .i64 (n : Int)] J) fun r => RS.at_ { S with L := List.replicate n 0 :: S.L } r.1 /\ Ext J r.2 := by
 refine frz_ok (Q := fun v => RS.at_ { S with L := List.replicate n 0 :: S.L } v) ?_
 obtain ⟨vs, ia, ca⟩ := h.f
 have hnL := hs.f.n
 have hlr : S.L.reverse.length = S.L.length := by simp
 have rs := fun J : AH O => (ia O J).rdSl
 have hz := zeros_flat n
 have tn : ((n : Int) * 8) <= 140737488355328 := by omega
 simp (maxSteps := 2000000) -implicitDefEqProofs (disch := (first | omega | rfl | assumption | (simp only [rsD]; first | omega | assumption))) only [haymowref19_Push_c, RS.vs, rs, hz, Nat.reduceAdd, Nat.reduceMul, Nat.reduceLT, Int.reduceToNat, Int.reduceAdd, Int.reduceSub, Int.reduceMul, rsU, rsC]
 generalize hJ : AH.put _ (J.next + 2) _ = J1
 have n1 : J1.next = J.next + 7 := by rw [<- hJ]; rfl
 have E1 : Ext J J1 := by rw [<- hJ]; exact ((((((Ext.refl J).bump 2).put (Nat.le_refl _) _).put (by omega) _).bump 5).put (by omega) _)
 have b0 : J1.blk J.next = some (.cells true T_haymowref19_State (S.vs f a b c a' b' c')) := by rw [<- hJ]; simp -implicitDefEqProofs (disch := omega) only [s_bn, s_bs, s_kn, bump_blk] <;> rfl
 have b1 : J1.blk (J.next + 1) = some (.cells true T_haymowref19_State [.sl .nil 0, .i .i64 0, .sl .nil 0, .sl .nil 0, .i .i64 0, .sl .nil 0, .i .i64 0, .sl .nil 0, .sl .nil 0, .i .i64 0, .sl .nil 0]) := by rw [<- hJ]; simp -implicitDefEqProofs (disch := omega) only [s_bn, s_bs, s_kn, bump_blk] <;> rfl
 have b2 : J1.blk (J.next + 2) = some (.cells true 70 []) := by rw [<- hJ]; exact s_bs
 clear hJ
 have own1 : OwnS J1 70 1 (.loc (.n (J.next + 2)) 0 1) 0 [] := OwnS.new rfl b2 (by omega)
 refine Ok.step (app_ok (nid := J.next + 3) own1 (by simp [SA.bk]) (by omega) ia.len) fun q ⟨a2, m1, m2, m3, m4, m5⟩ => ?_
 obtain ⟨q, J2⟩ := q
 simp only at m1 m2 m3 m4
 subst m1
 rw [Nat.zero_add, List.nil_append] at m2
 have ha2 := m5
 simp (maxSteps := 2000000) -implicitDefEqProofs (disch := (first | omega | rfl | assumption | (simp only [rsD]; first | omega | assumption))) only [Nat.zero_add, hz, Nat.reduceAdd, Nat.reduceMul, Nat.reduceLT, Int.reduceToNat, Int.reduceAdd, Int.reduceSub, Int.reduceMul, rsU, rsC]
 generalize hJ : (AH.put _ (J.next + 4) _).put (J.next + 5) _ = J3
 have n3 : J3.next = J2.next := by rw [<- hJ]; rfl
 have b4 : J3.blk (J.next + 4) = some (.cells true T_uint64 ((List.replicate n (0 : Int)).map (AV.i .u64))) := by rw [<- hJ, s_bn (by omega)]; exact s_bs
 have o3 : ∀ q, q ≠ J.next + 4 -> q ≠ J.next + 5 -> J3.blk q = J2.blk q := fun q h1 h2 => by rw [<- hJ, s_bn h2, s_bn h1]
 clear hJ
 have own3 : OwnS J3 70 1 a2 S.L.reverse.length vs := m2.of (by omega) fun q hq => o3 q (by have := ha2 q hq; omega) (by have := ha2 q hq; omega)
 refine Ok.step (app_ok (nid := J.next + 6) own3 (fun hm => by have := ha2 _ hm; omega) (by omega) (show [AV.sl (.loc (.n (J.next + 4)) 0 1) n].length = 1 * 1 from rfl)) fun q ⟨a4, k1, k2, k3, k4, k5⟩ => ?_
 obtain ⟨q, J4⟩ := q
 simp only at k1 k2 k3 k4
 subst k1
 have c0 : J4.blk J.next = _ := (k4 _ (by omega) (fun hm => by have := ha2 _ hm; omega)).trans ((o3 _ (by omega) (by omega)).trans ((m4 _ (by omega) (by simp [SA.bk])).trans b0))
 have c1 : J4.blk (J.next + 1) = _ := (k4 _ (by omega) (fun hm => by have := ha2 _ hm; omega)).trans ((o3 _ (by omega) (by omega)).trans ((m4 _ (by omega) (by simp [SA.bk])).trans b1))
 have c4 : J4.blk (J.next + 4) = _ := (k4 _ (by omega) (fun hm => by have := ha2 _ hm; omega)).trans b4
 simp only [RS.vs] at c0
 obtain ⟨kb, rfl, hkb, hkl⟩ := k2.loc (by omega)
 have hkb0 := k5 kb (by simp [SA.bk])
 simp (maxSteps := 2000000) -implicitDefEqProofs (disch := (first | omega | rfl | assumption | (simp only [rsD]; first | omega | assumption))) only [Nat.zero_add, c0, c1, Nat.reduceAdd, Nat.reduceMul, Nat.reduceLT, Int.reduceToNat, Int.reduceAdd, Int.reduceSub, Int.reduceMul, rsU, rsC]
 generalize hJ : AH.put _ (J.next + 1) _ = J5
 have n5 : J5.next = J4.next := by rw [<- hJ]; rfl
 have o5 : ∀ q, q ≠ J.next -> q ≠ J.next + 1 -> J5.blk q = J4.blk q := fun q h1 h2 => by rw [<- hJ, s_bn h2, s_bn h1]
 clear hJ
 have bk5 := (o5 kb (by omega) (by omega)).trans hkb
 have bw5 : J5.blk (J.next + 4) = _ := (o5 _ (by omega) (by omega)).trans c4
 have ow : Ow J5 (frow (List.replicate n 0)) (.sl (.loc (.n (J.next + 4)) 0 1) n) [J.next + 4] := by
  have := Ow.leaves (OwnS.new (n := (List.replicate n (0 : Int)).length) (by rw [List.length_map, Nat.mul_one]) bw5 (by omega)) (flat_ints (List.replicate n 0))
  simpa [frow, SA.bk] using this
 have up := (OwL.im (J := J5) ca).app (OwL.cons ow OwL.nil (by simp)) (by simp)
 have hset : (List.replicate n 0 :: S.L).reverse.map frow = S.L.reverse.map frow ++ [frow (List.replicate n 0)] := by simp
 rw [<- hset] at up
 have hl' : S.L.reverse.length + 1 = (List.replicate n (0 : Int) :: S.L).reverse.length := by simp
 have own5 : OwnS J5 70 1 (.loc (.n kb) 0 1) (List.replicate n (0 : Int) :: S.L).reverse.length (vs ++ [.sl (.loc (.n (J.next + 4)) 0 1) n]) := by
  rw [<- hl']
  exact OwnS.new (by have := ia.len; simp only [List.length_append, List.length_singleton]; omega) bk5 (by omega)
 obtain ⟨v', z1, z2⟩ := Ow.fz (t := ft (List.replicate n (0 : Int) :: S.L).reverse) (d := 6) (.sl own5 up (by simp [SA.bk]; omega)) (ft_deep6 _)
 obtain ⟨a6, vs6, rfl, i6, c6⟩ := ft_rd z2
 rw [hl']
 have st2 : RS.st ⟨List.replicate n 0 :: S.L, S.G, S.K⟩ a6 a b c a' b' c' := ⟨⟨vs6, i6, c6⟩, h.g, h.k⟩
 have z3 := FZL.append (us := [_]) (FZL.cons z1 FZL.nil (by simp)) (FZL.flat (d := 6) (vs := (S.vs f a b c a' b' c').tail) (H := J5.blk) h.flt) (by simp)
 rw [List.append_nil, List.append_nil] at z3
 refine Ok_some.2 ⟨_, _, FZ.agg z3, fun q hq => ?_, ⟨by show J.next <= J5.next; omega, fun q hq => ?_⟩, _, _, _, _, _, _, _, rfl, st2⟩
 ·simp [SA.bk] at hq
  omega
 ·show J5.blk q = _
  have hna : q ∉ SA.bk a2 := fun hm => by have := ha2 q hm; omega
  rw [o5 q (by omega) (by omega), k4 q (by omega) hna, o3 q (by omega) (by omega), m4 q (by omega) (by simp [SA.bk]; omega), <- E1.blk q hq]
end Go.Abs.Tryz
