/-
  Layer 37: the graph and the document that calls make. No conditions.
-/
import Derived.Test.YthkpjongjnjfgaaM37
set_option linter.unusedVariables false
set_option linter.unusedSimpArgs false
set_option linter.constructorNameAsVariable false
set_option linter.unusedSimpArgs false
set_option linter.unusedVariables false
set_option linter.unusedSectionVars false
set_option maxHeartbeats 2000000
namespace Go.Abs.Try
open Go Go.Abs
variable {O : Type}
structure OpsRd (J : AH O) (a : SA) (l : List OpV) : Prop where
 r : Rd J 10 a l.length (l.flatMap OpV.cs)
 ok : ∀ o ∈ l, o.ok
 lt : ∀ b ∈ SA.bk a, b < J.next
theorem OpsAt.rd {a : SA} {l : List OpV} (h : OpsAt a l) (J : AH O) : OpsRd J a l := ⟨h.i O J, h.ok, by rw [h.i.bk]; simp⟩
theorem OpsRd.at_ {J : AH O} {a : SA} {l : List OpV} (h : OpsRd J a l) {i : Nat} {o : OpV} (ho : l[i]? = some o) : ∃ b p, a = .loc b p 10 /\ 
  J.ld b (p + i * 10) = some (.i .i64 o.k) /\ J.ld b (p + i * 10 + 1) = some (.i .i64 o.a) /\ J.ld b (p + i * 10 + 2) = some (.i .i64 o.b) /\ J.ld b (p + i * 10 + 3) = some (.i .i64 o.c) /\ J.ld b (p + i * 10 + 4) = some (.i .i64 o.h.p) /\ J.ld b (p + i * 10 + 5) = some (.i .i64 o.h.r) /\ J.ld b (p + i * 10 + 6) = some (.i .i64 o.h.site) /\ J.ld b (p + i * 10 + 7) = some (.i .i64 o.h.age) /\ J.ld b (p + i * 10 + 8) = some (.b o.h.large) /\ J.ld b (p + i * 10 + 9) = some (.i .u64 o.w) := by
 have hi := (List.getElem?_eq_some_iff.1 ho).1
 obtain ⟨b, p, rfl, ld⟩ := h.r.ref (i := i) hi
 refine ⟨b, p, rfl, ?_⟩
 have get : ∀ j, j < 10 -> J.ld b (p + i * 10 + j) = o.cs[j]? := fun j hj => by rw [ld j hj, fm_get' OpV.len hj ho]
 exact ⟨get 0 (by decide), get 1 (by decide), get 2 (by decide), get 3 (by decide), get 4 (by decide), get 5 (by decide), get 6 (by decide), get 7 (by decide), get 8 (by decide), get 9 (by decide)⟩
def stepsD (l : List OpV) : List DN := l.foldl stepD []
theorem take_snocA {α : Type} {l : List α} {k : Nat} {v : α} (h : l[k]? = some v) : l.take (k + 1) = l.take k ++ [v] := by rw [List.take_add_one, h]; rfl
structure MadeI (J0 : AH O) (k : Nat) (a : SA) (D : List DN) (J : AH O) : Prop where
 g : ∃ N, GAt J (J0.next + 1) J0.next D N
 d : DAt a D
 w : Good D k
 v : Val D
 e : Ext J0 J
theorem made_ok {J : AH O} {a0 : SA} {l : List OpV} (h : OpsRd J a0 l) (hl : l.length <= 60) :
  Ok (law37_made [.sl a0 l.length] J) fun r => ∃ a, r.1 = .tup [.p (some (.n (J.next + 1), 0)), .sl a (stepsD l).length, .b true] /\ MadeI J l.length a (stepsD l) r.2 := by
 have t1 : (true == true) = true := rfl
 simp (maxSteps := 2000000) -implicitDefEqProofs (disch := (first | omega | rfl | assumption | (simp only [rsD]; first | omega | assumption))) only [law37_made, law37_made_c, Nat.reduceAdd, Nat.reduceMul, Nat.reduceLT, Int.reduceToNat, Int.reduceAdd, Int.reduceSub, Int.reduceMul, rsU, rsC]
 refine Ok.step (gnew_ok J fun _ => 0) fun q ⟨q4, q5, q6⟩ => ?_
 obtain ⟨q, J2⟩ := q
 simp only at q4 q5 q6
 subst q4
 simp (maxSteps := 2000000) -implicitDefEqProofs (disch := (first | omega | rfl | assumption | (simp only [rsD]; first | omega | assumption))) only [Nat.reduceAdd, Nat.reduceMul, Nat.reduceLT, Int.reduceToNat, Int.reduceAdd, Int.reduceSub, Int.reduceMul, rsU, rsC]
 refine Ok.bindS (Q := fun r => ∃ a J', r = .inl ([.sl a (stepsD l).length], J') /\ MadeI J l.length a (stepsD l) J') (Ok.count l.length (fun k s => ∃ a J', s = ([.sl a (stepsD (l.take k)).length, .i .i64 (k : Int)], J') /\ MadeI J k a (stepsD (l.take k)) J') ?_ ?_ ?_) ?_ ?_
 ·rintro k s hk ⟨a, J', rfl, I⟩
  obtain ⟨o, ho⟩ : ∃ o, l[k]? = some o := ⟨_, List.getElem?_eq_getElem hk⟩
  have h' : OpsRd J' a0 l := ⟨h.r.of fun b hb => I.e.blk b (h.lt b hb), h.ok, fun b hb => Nat.lt_of_lt_of_le (h.lt b hb) I.e.next⟩
  obtain ⟨b, p, rfl, w0, w1, w2, w3, w4, w5, w6, w7, w8, w9⟩ := h'.at_ ho
  obtain ⟨N, G⟩ := I.g
  have dk := decide_eq_true (show (k : Int) < (l.length : Int) by omega)
  have w := I.w
  have hs := w.small (by omega)
  have es : stepsD (l.take (k + 1)) = stepD (stepsD (l.take k)) o := by unfold stepsD; rw [take_snocA ho, List.foldl_append]; rfl
  have w' := w.step o
  have V' := I.v.step o
  have d := I.d
  have e := I.e
  generalize stepsD (l.take k) = D at *
  simp (maxSteps := 2000000) -implicitDefEqProofs (disch := (first | omega | rfl | assumption | (simp only [rsD]; first | omega | assumption))) only [law37_made_L1, dk, t1, Option.isNone_some, Bool.not_false, w0, w1, w2, w3, w4, w5, w6, w7, w8, w9, Nat.reduceAdd, Nat.reduceMul, Nat.reduceLT, Int.reduceToNat, Int.reduceAdd, Int.reduceSub, Int.reduceMul, rsU, rsC]
  refine Ok.step (do36_ok G hs w.a d hs w.a (.inl rfl) (h.ok o (List.mem_of_getElem? ho))) fun q ⟨⟨a', ok, q1, q2, q3⟩, N', q4, q5⟩ => ?_
  obtain ⟨q, J1⟩ := q
  simp only at q1 q4 q5
  subst q1
  obtain rfl := q3 rfl
  simp (maxSteps := 2000000) -implicitDefEqProofs (disch := (first | omega | rfl | assumption | (simp only [rsD]; first | omega | assumption))) only [Bool.not_true, Nat.reduceAdd, Nat.reduceMul, Nat.reduceLT, Int.reduceToNat, Int.reduceAdd, Int.reduceSub, Int.reduceMul, rsU, rsC]
  refine Ok_some.2 ⟨a', J1, by rw [es]; rfl, ⟨⟨N', by rw [es]; exact q4⟩, by rw [es]; exact q2, by rw [es]; exact w', by rw [es]; exact V', ?_⟩⟩
  have nx := e.next
  refine ⟨Nat.le_trans nx q5.next, fun b hb => ?_⟩
  rw [q5.blk b (by omega) ⟨by omega, by omega, fun i hi => by have := (G.lo i hi).1; omega⟩]
  exact e.blk b hb
 ·rintro s ⟨a, J', rfl, I⟩
  simp (maxSteps := 2000000) -implicitDefEqProofs (disch := (first | omega | rfl | assumption | (simp only [rsD]; first | omega | assumption))) only [law37_made_L1, Nat.reduceAdd, Nat.reduceMul, Nat.reduceLT, Int.reduceToNat, Int.reduceAdd, Int.reduceSub, Int.reduceMul, rsU, rsC]
  rw [List.take_length] at I
  exact Ok_some.2 ⟨a, J', rfl, I⟩
 ·exact ⟨.nil, J2, rfl, ⟨_, q5⟩, dnil, Good.nil, Val.nil, q6⟩
 ·rintro s ⟨a, J', hs, I⟩
  cases hs
  simp (maxSteps := 2000000) -implicitDefEqProofs (disch := (first | omega | rfl | assumption | (simp only [rsD]; first | omega | assumption))) only [Option.isNone_some, Bool.not_false, Nat.reduceAdd, Nat.reduceMul, Nat.reduceLT, Int.reduceToNat, Int.reduceAdd, Int.reduceSub, Int.reduceMul, rsU, rsC]
  exact Ok_some.2 ⟨a, rfl, I⟩
 ·rintro r ⟨a, J', hs, I⟩
  cases hs
end Go.Abs.Try
namespace Go.Abs.Try
open Go Go.Abs
variable {O : Type}
def hv0 : HV := ⟨0, 0, 0, 0, false⟩
def hv1 : HV := ⟨1, 0, 0, 0, false⟩
def lineOps : List OpV := [⟨0, 0, 0, 0, hv1, 0⟩, ⟨0, 0, 0, 0, hv1, 0⟩, ⟨0, 0, 0, 0, hv1, 0⟩, ⟨0, 0, 0, 0, hv1, 0⟩, ⟨3, 1, 0, 2, hv0, 0⟩, ⟨3, 2, 0, 3, hv0, 0⟩, ⟨3, 4, 0, 1, hv0, 0⟩]
theorem line_ok (J : AH O) : Ok (law37_line [] J) fun r => ∃ a, r.1 = .sl a lineOps.length /\ OpsRd r.2 a lineOps /\ Ext J r.2 := by
 simp (maxSteps := 2000000) -implicitDefEqProofs (disch := (first | omega | rfl | assumption | (simp only [rsD]; first | omega | assumption))) only [law37_line, law37_line_c, Nat.reduceAdd, Nat.reduceMul, Nat.reduceLT, Int.reduceToNat, Int.reduceAdd, Int.reduceSub, Int.reduceMul, rsU, rsC]
 have o : OwnS (((J.bump 1).put J.next (.cells true 53 [.i .i64 1, .i .i64 0, .i .i64 0, .i .i64 0, .b false])).bump 1 |>.put (J.next + 1) (.cells true 56 (lineOps.flatMap OpV.cs))) 56 10 (.loc (.n (J.next + 1)) 0 10) lineOps.length (lineOps.flatMap OpV.cs) := OwnS.new rfl s_bs (by show _ < J.next + 1 + 1; omega)
 refine Ok_some.2 ⟨.loc (.n (J.next + 1)) 0 10, rfl, ⟨o.rd, fun x hx => ?_, fun b hb => o.lt b hb⟩, (ext_of (by simp only [put_next, bump_next, kill_next]; omega) (fun b hb => by simp -implicitDefEqProofs (disch := (first | omega | rfl | assumption | (simp only [rsD]; first | omega | assumption))) only [s_bn, s_kn, bump_blk, s_ext]))⟩
 simp only [lineOps, List.mem_cons, List.not_mem_nil, or_false] at hx
 rcases hx with rfl | rfl | rfl | rfl | rfl | rfl | rfl <;> exact ⟨⟨by decide, by decide⟩, ⟨by decide, by decide⟩⟩
theorem swords1_ok (J : AH O) : Ok (shape_Words [.agg [.i .i64 1, .i .i64 0]] J) fun r => r.1 = .i .i64 2 /\ Ext J r.2 := by
 simp (maxSteps := 2000000) -implicitDefEqProofs (disch := (first | omega | rfl | assumption | (simp only [rsD]; first | omega | assumption))) only [shape_Words, shape_Words_c, shape_Right, shape_Right_c, Nat.reduceAdd, Nat.reduceMul, Nat.reduceLT, Int.reduceToNat, Int.reduceAdd, Int.reduceSub, Int.reduceMul, rsU, rsC]
 refine Ok.step (check_ok _ 1 0 0 0 false) fun q ⟨g1, g2⟩ => ?_
 obtain ⟨q, J1⟩ := q
 simp only at g1 g2
 subst g1
 have c0 : chkOf 1 0 0 0 = 0 := rfl
 rw [c0]
 have z0 : ((0 : Int) == 0) = true := rfl
 have nx := g2.next
 simp only [rsD] at nx
 have hb : J1.blk J.next = some (.cells true 51 [.i .i64 1, .i .i64 0]) := (g2.blk _ (by simp only [rsD]; omega)).trans (by ((try simp only [rsD] at *); simp -implicitDefEqProofs (disch := (first | omega | rfl | assumption | (simp only [rsD]; first | omega | assumption))) only [s_bs, s_bn, s_kn, bump_blk]))
 have n : J.next < J1.next := by omega
 simp (maxSteps := 2000000) -implicitDefEqProofs (disch := (first | omega | rfl | assumption | (simp only [rsD]; first | omega | assumption))) only [z0, Bool.not_true, hb, header_Words, header_Words_c, Nat.reduceAdd, Nat.reduceMul, Nat.reduceLT, Int.reduceToNat, Int.reduceAdd, Int.reduceSub, Int.reduceMul, rsU, rsC]
 refine Ok_some.2 ⟨rfl, (ext_of (by (have x0 := (g2).next); (try simp only [rsD] at *); omega) (fun b hb => by (have x0 := (g2).next); (try simp only [rsD] at *); simp -implicitDefEqProofs (disch := (first | omega | rfl | assumption | (simp only [rsD]; first | omega | assumption))) only [s_bn, s_kn, bump_blk, s_ext (g2)]))⟩
theorem charge1_ok (J : AH O) : Ok (shape_Charge [.agg [.i .i64 1, .i .i64 0], .i .i64 8] J) fun r => r.1 = .i .i64 2 /\ Ext J r.2 := by
 have t1 : (true == true) = true := rfl
 have d1 : decide ((2 : Int) > 0) = true := rfl
 have d2 : decide ((2 : Int) > 8) = false := rfl
 simp (maxSteps := 2000000) -implicitDefEqProofs (disch := (first | omega | rfl | assumption | (simp only [rsD]; first | omega | assumption))) only [shape_Charge, shape_Charge_c, Nat.reduceAdd, Nat.reduceMul, Nat.reduceLT, Int.reduceToNat, Int.reduceAdd, Int.reduceSub, Int.reduceMul, rsU, rsC]
 refine Ok.step (swords1_ok _) fun q ⟨g1, g2⟩ => ?_
 obtain ⟨q, J1⟩ := q
 simp only at g1 g2
 subst g1
 have nx := g2.next
 simp only [rsD] at nx
 have hb : J1.blk J.next = some (.cells true 51 [.i .i64 1, .i .i64 0]) := (g2.blk _ (by simp only [rsD]; omega)).trans (by ((try simp only [rsD] at *); simp -implicitDefEqProofs (disch := (first | omega | rfl | assumption | (simp only [rsD]; first | omega | assumption))) only [s_bs, s_bn, s_kn, bump_blk]))
 simp (maxSteps := 2000000) -implicitDefEqProofs (disch := (first | omega | rfl | assumption | (simp only [rsD]; first | omega | assumption))) only [d1, t1, hb, shape_Large, shape_Large_c, Nat.reduceAdd, Nat.reduceMul, Nat.reduceLT, Int.reduceToNat, Int.reduceAdd, Int.reduceSub, Int.reduceMul, rsU, rsC]
 refine Ok.step (swords1_ok _) fun q ⟨g3, g4⟩ => ?_
 obtain ⟨q, J2⟩ := q
 simp only at g3 g4
 subst g3
 simp (maxSteps := 2000000) -implicitDefEqProofs (disch := (first | omega | rfl | assumption | (simp only [rsD]; first | omega | assumption))) only [d2, Nat.reduceAdd, Nat.reduceMul, Nat.reduceLT, Int.reduceToNat, Int.reduceAdd, Int.reduceSub, Int.reduceMul, rsU, rsC]
 have E1 : Ext J J1 := (ext_of (by (have x0 := (g2).next); (try simp only [rsD] at *); omega) (fun b hb => by (have x0 := (g2).next); (try simp only [rsD] at *); simp -implicitDefEqProofs (disch := (first | omega | rfl | assumption | (simp only [rsD]; first | omega | assumption))) only [s_bn, s_kn, bump_blk, s_ext (g2)]))
 have E2 : Ext J1 J2 := (ext_of (by (have x0 := (g4).next); (try simp only [rsD] at *); omega) (fun b hb => by (have x0 := (g4).next); (try simp only [rsD] at *); simp -implicitDefEqProofs (disch := (first | omega | rfl | assumption | (simp only [rsD]; first | omega | assumption))) only [s_bn, s_kn, bump_blk, s_ext (g4)]))
 exact Ok_some.2 ⟨rfl, E1.trans E2⟩
theorem words1_ok {J : AH O} {gb mb : Nat} {D : List DN} {N : Nat -> Nat} (G : GAt J gb mb D N) {a : SA} {l : List Int} (rl : Rd J 1 a l.length (l.map (.i .i64))) (rb : ∀ b ∈ SA.bk a, b < J.next) (hl : l.length <= 1000) (nd : l.Nodup) (hh : ∀ id ∈ l, ∃ x, liveAt D id = some x /\ x.h = hv1) :
  Ok (reach_Words [.p (some (.n gb, 0)), .i .i64 8, .sl a l.length] J) fun r => r.1 = .i .i64 (2 * l.length) /\ Ext J r.2 := by
 have t1 : (true == true) = true := rfl
 simp (maxSteps := 2000000) -implicitDefEqProofs (disch := (first | omega | rfl | assumption | (simp only [rsD]; first | omega | assumption))) only [reach_Words, reach_Words_c, Nat.reduceAdd, Nat.reduceMul, Nat.reduceLT, Int.reduceToNat, Int.reduceAdd, Int.reduceSub, Int.reduceMul, rsU, rsC]
 generalize hJ3 : AH.put _ J.next _ = J3
 have n3 : J3.next = J.next + 1 := by rw [<- hJ3]; rfl
 have m3 : J3.blk J.next = some (.map [] [] 0) := by rw [<- hJ3]; ((try simp only [rsD] at *); simp -implicitDefEqProofs (disch := (first | omega | rfl | assumption | (simp only [rsD]; first | omega | assumption))) only [s_bs, s_bn, s_kn, bump_blk])
 have e3 : Ext J J3 := ⟨by omega, fun b hb => by rw [<- hJ3]; ((try simp only [rsD] at *); simp -implicitDefEqProofs (disch := (first | omega | rfl | assumption | (simp only [rsD]; first | omega | assumption))) only [s_bs, s_bn, s_kn, bump_blk])⟩
 clear hJ3
 refine Ok.step (Ok.count l.length (fun k s => ∃ J', s = ([.i .i64 (2 * (k : Int)), .i .i64 (k : Int)], J') /\ MapAt J' J.next (l.take k) (fun _ => 1) /\ Tm J.next J3 J') (Q := fun r => ∃ J', r = ([.i .i64 (2 * (l.length : Int))], J') /\ Tm J.next J3 J') ?_ ?_ ⟨J3, rfl, ⟨[], 0, by simpa using m3⟩, Tm.refl _ _⟩) ?_
 ·rintro k s hk ⟨J', rfl, M, T⟩
  obtain ⟨id, hid⟩ : ∃ id, l[k]? = some id := ⟨_, List.getElem?_eq_getElem hk⟩
  have nx := T.next
  have rk : Rd J' 1 a l.length (l.map (.i .i64)) := rl.of fun b hb => by rw [T.blk b (by have := rb b hb; omega) (by have := rb b hb; omega)]; exact e3.blk b (rb b hb)
  obtain ⟨b, o, rfl, ld⟩ := rk.at1 (i := k) (v := .i .i64 id) (by rw [List.getElem?_map, hid]; rfl)
  rw [Nat.mul_one] at ld
  have dk := decide_eq_true (show (k : Int) < (l.length : Int) by omega)
  obtain ⟨x, hx, hxh⟩ := hh id (List.mem_of_getElem? hid)
  have nm : id ∉ l.take k := fun hm => by
   have : (l.take (k + 1)).Nodup := by
    have := nd
    rw [<- List.take_append_drop (k + 1) l] at this
    exact (List.nodup_append.1 this).1
   rw [take_snoc hid] at this
   exact (List.nodup_append.1 this).2.2 id hm id (by simp) rfl
  have hgl := G.gl
  have ho := G.o
  have E1 : Ext J' (J'.bump 1) := (ext_of (by simp only [put_next, bump_next, kill_next]; omega) (fun b hb => by simp -implicitDefEqProofs (disch := (first | omega | rfl | assumption | (simp only [rsD]; first | omega | assumption))) only [s_bn, s_kn, bump_blk, s_ext]))
  have G' : GAt (J'.bump 1) gb mb D N := ((G.ext e3).of nx fun q hq hf => T.blk q hq fun e => hf ⟨by omega, by omega, fun i hi => by have := G.lo i hi; omega⟩).ext E1
  simp (maxSteps := 2000000) -implicitDefEqProofs (disch := (first | omega | rfl | assumption | (simp only [rsD]; first | omega | assumption))) only [reach_Words_L1, dk, ld, Nat.reduceAdd, Nat.reduceMul, Nat.reduceLT, Int.reduceToNat, Int.reduceAdd, Int.reduceSub, Int.reduceMul, rsU, rsC]
  refine Ok.step (ghead_ok G' (id := id)) fun q ⟨q1, q2⟩ => ?_
  obtain ⟨q, J4⟩ := q
  simp only at q1 q2
  unfold headV at q1
  rw [hx] at q1
  simp only [hxh] at q1
  subst q1
  have x4 := q2.next
  simp only [rsD] at x4
  have M4 : MapAt J4 J.next (l.take k) (fun _ => 1) := M.of (by rw [q2.blk _ (by simp only [rsD]; omega)]; rfl)
  obtain ⟨st, cc, hm⟩ := M4
  have z0 : ((0 : Int) == 0) = true := rfl
  have f := findK_miss (fun _ => 1) _ nm
  simp only [HV.cs, hv1]
  simp (maxSteps := 2000000) -implicitDefEqProofs (disch := (first | omega | rfl | assumption | (simp only [rsD]; first | omega | assumption))) only [z0, t1, Nat.reduceAdd, Nat.reduceMul, Nat.reduceLT, Int.reduceToNat, Int.reduceAdd, Int.reduceSub, Int.reduceMul, rsU, rsC]
  generalize hJ5 : AH.put J4 J'.next _ = J5
  have x5 : J5.next = J4.next := by rw [<- hJ5]; rfl
  have o5 : ∀ q, q < J'.next -> J5.blk q = J'.blk q := fun q h1 => by
   rw [<- hJ5, s_bn (by omega), q2.blk _ (by simp only [rsD]; omega)]; rfl
  clear hJ5
  have m5 : J5.blk J.next = some (.map ((l.take k).map (kv fun _ => 1)) st cc) := by
   rw [o5 _ (by omega), <- hm, q2.blk _ (by simp only [rsD]; omega)]; rfl
  have M5 : MapAt J5 J.next (l.take k) (fun _ => 1) := ⟨st, cc, m5⟩
  have e5 := M5.ents
  simp (maxSteps := 2000000) -implicitDefEqProofs (disch := (first | omega | rfl | assumption | (simp only [rsD]; first | omega | assumption))) only [e5, f, s_lookN, z0, Nat.reduceAdd, Nat.reduceMul, Nat.reduceLT, Int.reduceToNat, Int.reduceAdd, Int.reduceSub, Int.reduceMul, rsU, rsC]
  refine Ok.step (charge1_ok J5) fun q ⟨g1, g2⟩ => ?_
  obtain ⟨q, J6⟩ := q
  simp only at g1 g2
  subst g1
  have x6 := g2.next
  have m6 : J6.blk J.next = some (.map ((l.take k).map (kv fun _ => 1)) st cc) := (g2.blk _ (by omega)).trans m5
  have M6 : MapAt J6 J.next (l.take k) (fun _ => 1) := ⟨st, cc, m6⟩
  have e6 := M6.ents
  have up := updB_none (k := .i .i64 id) (v := .i .i64 1) m6
  simp (maxSteps := 2000000) -implicitDefEqProofs (disch := (first | omega | rfl | assumption | (simp only [rsD]; first | omega | assumption))) only [e6, f, s_lookN, up, Nat.reduceAdd, Nat.reduceMul, Nat.reduceLT, Int.reduceToNat, Int.reduceAdd, Int.reduceSub, Int.reduceMul, rsU, rsC]
  refine Ok_some.2 ⟨J6.put J.next (.map ((l.take k).map (kv fun _ => 1) ++ [(.i .i64 id, .i .i64 1)]) (st ++ [cc]) (cc + 1)), ?_, ⟨st ++ [cc], cc + 1, ?_⟩, ⟨by show J3.next <= J6.next; omega, fun q h1 h2 => ?_⟩⟩
  ·rw [show 2 * (k : Int) + 2 = 2 * ((k + 1 : Nat) : Int) by omega]; rfl
  ·rw [s_bs, take_snoc hid]; simp [kv]
  ·rw [s_bn h2, g2.blk _ (by omega), o5 _ (by omega)]; exact T.blk q h1 h2
 ·rintro s ⟨J', rfl, M, T⟩
  simp (maxSteps := 2000000) -implicitDefEqProofs (disch := (first | omega | rfl | assumption | (simp only [rsD]; first | omega | assumption))) only [reach_Words_L1, Nat.reduceAdd, Nat.reduceMul, Nat.reduceLT, Int.reduceToNat, Int.reduceAdd, Int.reduceSub, Int.reduceMul, rsU, rsC]
  exact Ok_some.2 ⟨J', rfl, T⟩
 ·rintro _ ⟨J', rfl, T⟩
  simp (maxSteps := 2000000) -implicitDefEqProofs (disch := (first | omega | rfl | assumption | (simp only [rsD]; first | omega | assumption))) only [Nat.reduceAdd, Nat.reduceMul, Nat.reduceLT, Int.reduceToNat, Int.reduceAdd, Int.reduceSub, Int.reduceMul, rsU, rsC]
  refine Ok_some.2 ⟨rfl, ⟨by have := T.next; show J.next <= J'.next; omega, fun b hb => ?_⟩⟩
  rw [T.blk b (by omega) (by omega)]; exact e3.blk b hb
theorem ex_from : fromD (stepsD lineOps) [1] = [1, 2, 3] := by decide
theorem ex_lost : lostD (stepsD lineOps) [1] = [4] := by decide
theorem ex_way : markW (stepsD lineOps) [1] 3 = 3 := by decide
theorem ex_hd : ∀ id ∈ ([1, 2] : List Int), ∃ x, liveAt (keptD (stepsD lineOps) [1]) id = some x /\ x.h = hv1 := by
 intro id h
 simp only [List.mem_cons, List.not_mem_nil, or_false] at h
 rcases h with rfl | rfl
 ·exact ⟨_, rfl, rfl⟩
 ·exact ⟨_, rfl, rfl⟩
theorem ints_at {J : AH O} {b : Nat} {l : List Int} (h : J.blk b = some (.cells true 3 (l.map (.i .i64)))) (hb : b < J.next) : OwnS J 3 1 (.loc (.n b) 0 1) l.length (l.map (AV.i .i64)) := OwnS.new (by simp) h hb
theorem awake37_ok (J : AH O) : Ok (law37_awake [] J) fun r => r.1 = .b true /\ Ext J r.2 := by
 have t1 : (true == true) = true := rfl
 have t2 : (false == false) = true := rfl
 simp (maxSteps := 2000000) -implicitDefEqProofs (disch := (first | omega | rfl | assumption | (simp only [rsD]; first | omega | assumption))) only [law37_awake, law37_awake_c, Nat.reduceAdd, Nat.reduceMul, Nat.reduceLT, Int.reduceToNat, Int.reduceAdd, Int.reduceSub, Int.reduceMul, rsU, rsC]
 refine Ok.step (line_ok J) fun q ⟨a0, q1, q2, q3⟩ => ?_
 obtain ⟨q, J1⟩ := q
 simp only at q1 q2 q3
 subst q1
 simp (maxSteps := 2000000) -implicitDefEqProofs (disch := (first | omega | rfl | assumption | (simp only [rsD]; first | omega | assumption))) only [Nat.reduceAdd, Nat.reduceMul, Nat.reduceLT, Int.reduceToNat, Int.reduceAdd, Int.reduceSub, Int.reduceMul, rsU, rsC]
 refine Ok.step (made_ok q2 (by decide)) fun q ⟨a, q4, I⟩ => ?_
 obtain ⟨q, J2⟩ := q
 simp only at q4 I
 subst q4
 obtain ⟨⟨N, G⟩, d, w, V, e2⟩ := I
 have hs := w.small (by decide)
 have x1 := q3.next
 have x2 := e2.next
 obtain ⟨gb, hgb⟩ : ∃ gb, gb = J1.next + 1 := ⟨_, rfl⟩
 rw [<- hgb] at G
 have e12 := q3.trans e2
 simp (maxSteps := 2000000) -implicitDefEqProofs (disch := (first | omega | rfl | assumption | (simp only [rsD]; first | omega | assumption))) only [Bool.not_true, t2, <- hgb, Nat.reduceAdd, Nat.reduceMul, Nat.reduceLT, Int.reduceToNat, Int.reduceAdd, Int.reduceSub, Int.reduceMul, rsU, rsC]
 generalize hJ3 : AH.put _ J2.next _ = J3
 have x3 : J3.next = J2.next + 2 := by rw [<- hJ3]; rfl
 have b3 : J3.blk J2.next = some (.cells true 3 (([1] : List Int).map (.i .i64))) := by rw [<- hJ3]; exact s_bs
 have e3 : Ext J2 J3 := ⟨by omega, fun b hb => by rw [<- hJ3]; ((try simp only [rsD] at *); simp -implicitDefEqProofs (disch := (first | omega | rfl | assumption | (simp only [rsD]; first | omega | assumption))) only [s_bs, s_bn, s_kn, bump_blk])⟩
 clear hJ3
 have o3 := ints_at b3 (by omega)
 refine Ok.step (from_ok (G.ext e3) hs (roots := [1]) o3.rd (fun b hb => o3.lt b hb) (by decide)) fun q ⟨a4, k1, k2⟩ => ?_
 obtain ⟨q, J4⟩ := q
 simp only at k1 k2
 subst k1
 have x4 := k2.e.next
 simp (maxSteps := 2000000) -implicitDefEqProofs (disch := (first | omega | rfl | assumption | (simp only [rsD]; first | omega | assumption))) only [Nat.reduceAdd, Nat.reduceMul, Nat.reduceLT, Int.reduceToNat, Int.reduceAdd, Int.reduceSub, Int.reduceMul, rsU, rsC]
 generalize hJ5 : AH.put J4 _ _ = J5
 have x5 : J5.next = J4.next := by rw [<- hJ5]; rfl
 have b5 : J5.blk (J2.next + 1) = some (.cells true 3 (([1, 2, 3] : List Int).map (.i .i64))) := by rw [<- hJ5]; exact s_bs
 have k5 : ∀ b, b ≠ J2.next + 1 -> J5.blk b = J4.blk b := fun b hb => by rw [<- hJ5, s_bn hb]
 clear hJ5
 have hgl := G.gl
 have ho := G.o
 have fr : ∀ b, J2.next <= b -> Free gb J1.next (stepsD lineOps) N b := fun b hb => ⟨by omega, by omega, fun i hi => by have := G.lo i hi; omega⟩
 have fl : ∀ b, b < J1.next -> Free gb J1.next (stepsD lineOps) N b := fun b hb => ⟨by omega, by omega, fun i hi => by have := G.lo i hi; omega⟩
 have G5 : GAt J5 gb J1.next (stepsD lineOps) N := ((G.ext e3).ext k2.e).of (by omega) fun b hb hf => k5 b fun e => hf (e ▸ fr _ (by omega))
 have r5 : Rd J5 1 a4 (fromD (stepsD lineOps) [1]).length ((fromD (stepsD lineOps) [1]).map (.i .i64)) := k2.rd.of fun b hb => k5 b (by have := k2.lo b hb; omega)
 have o5 := ints_at b5 (by omega)
 rw [ex_from] at r5 ⊢
 refine Ok.step (same02r r5 o5.rd (by decide) (by decide)) fun q hq => ?_
 subst hq
 rw [decide_eq_true rfl]
 simp (maxSteps := 2000000) -implicitDefEqProofs (disch := (first | omega | rfl | assumption | (simp only [rsD]; first | omega | assumption))) only [Bool.not_true, t2, Nat.reduceAdd, Nat.reduceMul, Nat.reduceLT, Int.reduceToNat, Int.reduceAdd, Int.reduceSub, Int.reduceMul, rsU, rsC]
 refine Ok.step (way_ok G5 hs) fun q ⟨q6, q7⟩ => ?_
 obtain ⟨q, J6⟩ := q
 simp only at q6 q7
 rw [ex_way, show IntKind.i64.wrap (3 - 1) = 2 from rfl] at q6
 subst q6
 have z2 : ((2 : Int) != 2) = false := rfl
 have x6 := q7.next
 simp (maxSteps := 2000000) -implicitDefEqProofs (disch := (first | omega | rfl | assumption | (simp only [rsD]; first | omega | assumption))) only [z2, Bool.not_true, Nat.reduceAdd, Nat.reduceMul, Nat.reduceLT, Int.reduceToNat, Int.reduceAdd, Int.reduceSub, Int.reduceMul, rsU, rsC]
 have G6 := G5.ext q7
 generalize hJ7 : AH.put _ J6.next _ = J7
 have x7 : J7.next = J6.next + 3 := by rw [<- hJ7]; rfl
 have b7 : J7.blk J6.next = some (.cells true 3 (([1] : List Int).map (.i .i64))) := by rw [<- hJ7]; exact s_bs
 have e7 : Ext J6 J7 := ⟨by omega, fun b hb => by rw [<- hJ7]; ((try simp only [rsD] at *); simp -implicitDefEqProofs (disch := (first | omega | rfl | assumption | (simp only [rsD]; first | omega | assumption))) only [s_bs, s_bn, s_kn, bump_blk])⟩
 clear hJ7
 have o7 := ints_at b7 (by omega)
 refine Ok.step (keep_ok (G6.ext e7) hs (roots := [1]) o7.rd (fun b hb => o7.lt b hb) (by decide)) fun q ⟨a8, j1, j2, j3, j4, j5⟩ => ?_
 obtain ⟨q, J8⟩ := q
 simp only at j1 j2 j4 j5
 subst j1
 have x8 := j5.next
 simp (maxSteps := 2000000) -implicitDefEqProofs (disch := (first | omega | rfl | assumption | (simp only [rsD]; first | omega | assumption))) only [Nat.reduceAdd, Nat.reduceMul, Nat.reduceLT, Int.reduceToNat, Int.reduceAdd, Int.reduceSub, Int.reduceMul, rsU, rsC]
 generalize hJ9 : AH.put J8 _ _ = J9
 have x9 : J9.next = J8.next := by rw [<- hJ9]; rfl
 have b9 : J9.blk (J6.next + 1) = some (.cells true 3 (([4] : List Int).map (.i .i64))) := by rw [<- hJ9]; exact s_bs
 have k9 : ∀ b, b ≠ J6.next + 1 -> J9.blk b = J8.blk b := fun b hb => by rw [<- hJ9, s_bn hb]
 clear hJ9
 have o9 := ints_at b9 (by omega)
 have r9 : Rd J9 1 a8 (lostD (stepsD lineOps) [1]).length ((lostD (stepsD lineOps) [1]).map (.i .i64)) := j2.rd.of fun b hb => k9 b (by have := j3 b hb; omega)
 rw [ex_lost] at r9 ⊢
 refine Ok.step (same02r r9 o9.rd (by decide) (by decide)) fun q hq => ?_
 subst hq
 rw [decide_eq_true rfl]
 simp (maxSteps := 2000000) -implicitDefEqProofs (disch := (first | omega | rfl | assumption | (simp only [rsD]; first | omega | assumption))) only [t1, Nat.reduceAdd, Nat.reduceMul, Nat.reduceLT, Int.reduceToNat, Int.reduceAdd, Int.reduceSub, Int.reduceMul, rsU, rsC]
 generalize hJ10 : AH.put J9 _ _ = J10
 have x10 : J10.next = J9.next := by rw [<- hJ10]; rfl
 have b10 : J10.blk (J6.next + 2) = some (.cells true 3 (([1, 2] : List Int).map (.i .i64))) := by rw [<- hJ10]; exact s_bs
 have k10 : ∀ b, b ≠ J6.next + 2 -> J10.blk b = J9.blk b := fun b hb => by rw [<- hJ10, s_bn hb]
 clear hJ10
 have o10 := ints_at b10 (by omega)
 have lk : (dropsD (stepsD lineOps) (lostD (stepsD lineOps) [1])).length = (stepsD lineOps).length := dropsD_len _ _
 have G10 : GAt J10 gb J1.next (keptD (stepsD lineOps) [1]) N := j4.of (by omega) fun b hb hf => by
  have h1 : b ≠ J6.next + 1 := fun e => hf (by have := fr b (by omega); exact ⟨this.1, this.2.1, fun i hi => this.2.2 i (by omega)⟩)
  have h2 : b ≠ J6.next + 2 := fun e => hf (by have := fr b (by omega); exact ⟨this.1, this.2.1, fun i hi => this.2.2 i (by omega)⟩)
  rw [k10 b h2, k9 b h1]
 refine Ok.step (words1_ok G10 (l := [1, 2]) o10.rd (fun b hb => o10.lt b hb) (by decide) (by decide) ex_hd) fun q ⟨w1, w2⟩ => ?_
 obtain ⟨q, J11⟩ := q
 simp only at w1 w2
 subst w1
 simp (maxSteps := 2000000) -implicitDefEqProofs (disch := (first | omega | rfl | assumption | (simp only [rsD]; first | omega | assumption))) only [Nat.reduceAdd, Nat.reduceMul, Nat.reduceLT, Int.reduceToNat, Int.reduceAdd, Int.reduceSub, Int.reduceMul, rsU, rsC]
 refine Ok_some.2 ⟨rfl, ⟨by have := w2.next; show J.next <= J11.next; omega, fun b hb => ?_⟩⟩
 rw [w2.blk b (by omega), k10 b (by omega), k9 b (by omega), j5.blk b (by omega) (fl b (by omega)), e7.blk b (by omega), q7.blk b (by omega), k5 b (by omega), k2.e.blk b (by omega), e3.blk b (by omega)]
 exact e12.blk b hb
end Go.Abs.Try
namespace Go.Abs.Try
open Go Go.Abs
variable {O : Type}
theorem keeps_gone {J : AH O} {gb mb : Nat} {D : List DN} {N : Nat -> Nat} (G : GAt J gb mb D N) {a : SA} {l : List Int} (r : Rd J 1 a l.length (l.map (.i .i64))) (hl : l.length <= 100000) (hn : ∀ id ∈ l, liveAt D id = none) :
  Ok (loopF (S := List AV × AH O) (T := (List AV × AH O) ⊕ (AV × AH O)) (law37_ReachKeeps_L1 (a, l.length) graph_Graph__Is (some (.n gb, 0))) ([.i .i64 0], J)) fun r => r = .inl ([], J) := by
 refine Ok.count l.length (fun k s => s = ([.i .i64 (k : Int)], J)) ?_ ?_ rfl
 ·rintro k s hk rfl
  obtain ⟨id, hid⟩ : ∃ id, l[k]? = some id := ⟨_, List.getElem?_eq_getElem hk⟩
  obtain ⟨b, o, rfl, ld⟩ := r.at1 (i := k) (v := .i .i64 id) (by rw [List.getElem?_map, hid]; rfl)
  rw [Nat.mul_one] at ld
  have dk := decide_eq_true (show (k : Int) < (l.length : Int) by omega)
  have I1 := gis_ok G (id := id)
  rw [hn id (List.mem_of_getElem? hid)] at I1
  simp (maxSteps := 2000000) -implicitDefEqProofs (disch := (first | omega | rfl | assumption | (simp only [rsD]; first | omega | assumption))) only [law37_ReachKeeps_L1, dk, ld, I1, Option.isSome_none, Nat.reduceAdd, Nat.reduceMul, Nat.reduceLT, Int.reduceToNat, Int.reduceAdd, Int.reduceSub, Int.reduceMul, rsU, rsC]
  exact Ok_some.2 rfl
 ·rintro s rfl
  simp (maxSteps := 2000000) -implicitDefEqProofs (disch := (first | omega | rfl | assumption | (simp only [rsD]; first | omega | assumption))) only [law37_ReachKeeps_L1, Nat.reduceAdd, Nat.reduceMul, Nat.reduceLT, Int.reduceToNat, Int.reduceAdd, Int.reduceSub, Int.reduceMul, rsU, rsC]
  exact Ok_some.2 rfl
theorem at1s {J : AH O} {a : SA} {l : List Int} (r : Rd J 1 a l.length (l.map (.i .i64))) {k : Nat} {id : Int} (hid : l[k]? = some id) : ∃ b o, a = .loc b o 1 /\ ∀ Jx : AH O, Rd Jx 1 a l.length (l.map (.i .i64)) -> Jx.ld b (o + k) = some (.i .i64 id) := by
 obtain ⟨b, o, rfl, ld⟩ := r.at1 (i := k) (v := .i .i64 id) (by rw [List.getElem?_map, hid]; rfl)
 refine ⟨b, o, rfl, fun Jx rx => ?_⟩
 obtain ⟨b', o', e, ld'⟩ := rx.at1 (i := k) (v := .i .i64 id) (by rw [List.getElem?_map, hid]; rfl)
 cases e
 rw [Nat.mul_one] at ld'
 exact ld'
theorem keeps_held {J : AH O} {gb mb : Nat} {D D' : List DN} {N : Nat -> Nat} (G : GAt J gb mb D' N) (hs : Small36 D) (hs' : Small36 D') {a da : SA} {l : List Int} (d : DAt da D) (r : Rd J 1 a l.length (l.map (.i .i64))) (rb : ∀ b ∈ SA.bk a, b < J.next) (hl : l.length <= 100000) (hn : ∀ id ∈ l, (liveAt D id).isSome = true /\ liveAt D' id = liveAt D id) :
  Ok (loopF (S := List AV × AH O) (T := (List AV × AH O) ⊕ (AV × AH O)) (law37_ReachKeeps_L2 (a, l.length) graph_Graph__Header (some (.n gb, 0)) (da, D.length) graph_Graph__Edges haymowref36_Edges haymowref02_Same) ([.i .i64 0], J)) fun r => ∃ J', r = .inl ([], J') := by
 refine Ok.count l.length (fun k s => ∃ J', s = ([.i .i64 (k : Int)], J') /\ Ext J J') ?_ ?_ ⟨J, rfl, Ext.refl J⟩
 ·rintro k s hk ⟨J', rfl, e⟩
  obtain ⟨id, hid⟩ : ∃ id, l[k]? = some id := ⟨_, List.getElem?_eq_getElem hk⟩
  obtain ⟨b, o, rfl, ld⟩ := at1s r hid
  have nx := e.next
  have dk := decide_eq_true (show (k : Int) < (l.length : Int) by omega)
  obtain ⟨n1, n2⟩ := hn id (List.mem_of_getElem? hid)
  obtain ⟨x, hx⟩ := Option.isSome_iff_exists.1 n1
  obtain ⟨i, ei, hi, hg, il⟩ := liveAt_some hx
  have hn := hs.n
  have G1 : GAt (J'.bump 1) gb mb D' N := (G.ext e).ext (ext_of (by simp only [put_next, bump_next, kill_next]; omega) (fun b hb => by simp -implicitDefEqProofs (disch := (first | omega | rfl | assumption | (simp only [rsD]; first | omega | assumption))) only [s_bn, s_kn, bump_blk, s_ext]))
  have l1 := ld (J'.bump 1) (r.of fun q hq => e.blk q (rb q hq))
  have bb : ∀ z : Int, (z == z) = true := fun z => by simp
  have bb2 : ∀ z : Bool, (z == z) = true := fun z => by simp
  have t2 : (false == false) = true := rfl
  simp (maxSteps := 2000000) -implicitDefEqProofs (disch := (first | omega | rfl | assumption | (simp only [rsD]; first | omega | assumption))) only [law37_ReachKeeps_L2, dk, l1, Nat.reduceAdd, Nat.reduceMul, Nat.reduceLT, Int.reduceToNat, Int.reduceAdd, Int.reduceSub, Int.reduceMul, rsU, rsC]
  refine Ok.step (ghead_ok G1 (id := id)) fun q ⟨q1, q2⟩ => ?_
  obtain ⟨q, J4⟩ := q
  simp only at q1 q2
  unfold headV at q1
  rw [n2, hx] at q1
  obtain ⟨⟨hp, hr, hsi, hag, hla⟩, P, R, gn⟩ := x
  simp only [HV.cs] at q1
  subst q1
  have x4 := q2.next
  simp only [rsD] at x4
  simp (maxSteps := 2000000) -implicitDefEqProofs (disch := (first | omega | rfl | assumption | (simp only [rsD]; first | omega | assumption))) only [Nat.reduceAdd, Nat.reduceMul, Nat.reduceLT, Int.reduceToNat, Int.reduceAdd, Int.reduceSub, Int.reduceMul, rsU, rsC]
  generalize hJ5 : AH.put J4 J'.next _ = J5
  have x5 : J5.next = J4.next := by rw [<- hJ5]; rfl
  have e5 : Ext J' J5 := ⟨by omega, fun q hq => by rw [<- hJ5, s_bn (by omega), q2.blk _ (by simp only [rsD]; omega)]; rfl⟩
  have h5 : J5.blk J'.next = some (.cells true 53 [.i .i64 hp, .i .i64 hr, .i .i64 hsi, .i .i64 hag, .b hla]) := by rw [<- hJ5]; exact s_bs
  clear hJ5
  have l5 := ld J5 (r.of fun q hq => (e.trans e5).blk q (rb q hq))
  obtain ⟨db, dof, c, c', rfl, hc, hc', nd⟩ := d.node hi
  obtain ⟨w0, w1, w2, w3, w4, w5, w6, w7⟩ := nd O J5
  have tn : (id - 1).toNat = i := by omega
  have G5 := (G.ext e).ext e5
  simp (maxSteps := 2000000) -implicitDefEqProofs (disch := (first | omega | rfl | assumption | (simp only [rsD]; first | omega | assumption))) only [l5, h5, tn, w0, w1, w2, w3, w4, bb, bb2, t2, bne, Nat.reduceAdd, Nat.reduceMul, Nat.reduceLT, Int.reduceToNat, Int.reduceAdd, Int.reduceSub, Int.reduceMul, rsU, rsC]
  have ee : edgesD D' id = edgesD D id := by unfold edgesD; rw [n2]
  refine Ok.step (gedges_ok G5 hs' (id := id)) fun q ⟨a6, g1, g2⟩ => ?_
  obtain ⟨q, J6⟩ := q
  simp only at g1 g2
  subst g1
  have l6 := ld J6 (r.of fun q hq => ((e.trans e5).trans g2.e).blk q (rb q hq))
  simp (maxSteps := 2000000) -implicitDefEqProofs (disch := (first | omega | rfl | assumption | (simp only [rsD]; first | omega | assumption))) only [l6, s_chkT, Nat.reduceAdd, Nat.reduceMul, Nat.reduceLT, Int.reduceToNat, Int.reduceAdd, Int.reduceSub, Int.reduceMul, rsU, rsC]
  refine Ok.step (dedges_ok (J := J6) d hs (id := id) (by omega)) fun q ⟨a7, g3, g4⟩ => ?_
  obtain ⟨q, J7⟩ := q
  simp only at g3 g4
  subst g3
  have le := edges_le hs id
  have r6 : Rd J7 1 a6 (edgesD D' id).length ((edgesD D' id).map (.i .i64)) := g2.rd.of fun q hq => g4.e.blk q (g2.o.lt q hq)
  rw [ee] at r6 ⊢
  simp (maxSteps := 2000000) -implicitDefEqProofs (disch := (first | omega | rfl | assumption | (simp only [rsD]; first | omega | assumption))) only [Nat.reduceAdd, Nat.reduceMul, Nat.reduceLT, Int.reduceToNat, Int.reduceAdd, Int.reduceSub, Int.reduceMul, rsU, rsC]
  refine Ok.step (same02r r6 g4.rd (by omega) (by omega)) fun q hq => ?_
  subst hq
  rw [decide_eq_true rfl]
  simp (maxSteps := 2000000) -implicitDefEqProofs (disch := (first | omega | rfl | assumption | (simp only [rsD]; first | omega | assumption))) only [Bool.not_true, Nat.reduceAdd, Nat.reduceMul, Nat.reduceLT, Int.reduceToNat, Int.reduceAdd, Int.reduceSub, Int.reduceMul, rsU, rsC]
  exact Ok_some.2 ⟨J7, rfl, ((e.trans e5).trans g2.e).trans g4.e⟩
 ·rintro s ⟨J', rfl, e⟩
  simp (maxSteps := 2000000) -implicitDefEqProofs (disch := (first | omega | rfl | assumption | (simp only [rsD]; first | omega | assumption))) only [law37_ReachKeeps_L2, Nat.reduceAdd, Nat.reduceMul, Nat.reduceLT, Int.reduceToNat, Int.reduceAdd, Int.reduceSub, Int.reduceMul, rsU, rsC]
  exact Ok_some.2 ⟨J', rfl⟩
theorem reachKeeps_ok {a0 ar : SA} {l : List OpV} {roots : List Int} (h : OpsAt a0 l) (hr : Imm 1 ar roots.length (roots.map (.i .i64))) : Ok (law37_ReachKeeps (O := O) [.sl a0 l.length, .sl ar roots.length] startH) fun r => r.1 = .b true := by
 have t1 : (true == true) = true := rfl
 have t2 : (false == false) = true := rfl
 have t3 : (true == false) = false := rfl
 simp (maxSteps := 2000000) -implicitDefEqProofs (disch := (first | omega | rfl | assumption | (simp only [rsD]; first | omega | assumption))) only [law37_ReachKeeps, law37_ReachKeeps_c, Nat.reduceAdd, Nat.reduceMul, Nat.reduceLT, Int.reduceToNat, Int.reduceAdd, Int.reduceSub, Int.reduceMul, rsU, rsC]
 refine Ok.step (awake37_ok _) fun q ⟨q0, _⟩ => ?_
 obtain ⟨q, J0⟩ := q
 simp only at q0
 subst q0
 simp (maxSteps := 2000000) -implicitDefEqProofs (disch := (first | omega | rfl | assumption | (simp only [rsD]; first | omega | assumption))) only [Bool.not_true, Nat.reduceAdd, Nat.reduceMul, Nat.reduceLT, Int.reduceToNat, Int.reduceAdd, Int.reduceSub, Int.reduceMul, rsU, rsC]
 refine Ok.step (few36_ok (J := J0) h) fun q ⟨⟨ok, q1, q2⟩, q3⟩ => ?_
 obtain ⟨q, J1⟩ := q
 simp only at q1 q3
 subst q1
 cases ok with
 | false =>
  simp (maxSteps := 2000000) -implicitDefEqProofs (disch := (first | omega | rfl | assumption | (simp only [rsD]; first | omega | assumption))) only [Bool.not_false, t3, Nat.reduceAdd, Nat.reduceMul, Nat.reduceLT, Int.reduceToNat, Int.reduceAdd, Int.reduceSub, Int.reduceMul, rsU, rsC]
  exact Ok_some.2 rfl
 | true =>
  have hl := q2 rfl
  by_cases hk : roots.length <= 20
  ·have d20 : decide ((roots.length : Int) > 20) = false := decide_eq_false (by omega)
   have rr : ∀ J : AH O, Rd J 1 ar roots.length (roots.map (.i .i64)) := fun J => hr O J
   have rb : ∀ b ∈ SA.bk ar, False := by rw [hr.bk]; simp
   simp (maxSteps := 2000000) -implicitDefEqProofs (disch := (first | omega | rfl | assumption | (simp only [rsD]; first | omega | assumption))) only [Bool.not_true, t2, d20, Nat.reduceAdd, Nat.reduceMul, Nat.reduceLT, Int.reduceToNat, Int.reduceAdd, Int.reduceSub, Int.reduceMul, rsU, rsC]
   refine Ok.step (made_ok (h.rd J1) hl) fun q ⟨da, q4, I⟩ => ?_
   obtain ⟨q, J2⟩ := q
   simp only at q4 I
   subst q4
   obtain ⟨⟨N, G2⟩, d, w, V, e2⟩ := I
   have hs := w.small (by omega)
   have hn := hs.n
   obtain ⟨gb, hgb⟩ : ∃ gb, gb = J1.next + 1 := ⟨_, rfl⟩
   rw [<- hgb] at G2
   generalize stepsD l = D at *
   simp (maxSteps := 2000000) -implicitDefEqProofs (disch := (first | omega | rfl | assumption | (simp only [rsD]; first | omega | assumption))) only [Bool.not_true, <- hgb, Nat.reduceAdd, Nat.reduceMul, Nat.reduceLT, Int.reduceToNat, Int.reduceAdd, Int.reduceSub, Int.reduceMul, rsU, rsC]
   have hgl := G2.gl
   have ho := G2.o
   have il := ids_le (D := D)
   have fc := kept_count D roots
   have fr : ∀ b, J2.next <= b -> Free gb J1.next D N b := fun b hb => ⟨by omega, by omega, fun i hi => by have := G2.lo i hi; omega⟩
   refine Ok.step (gids_ok G2 hs) fun q ⟨a14, k1, k2⟩ => ?_
   obtain ⟨q, J3⟩ := q
   simp only at k1 k2
   subst k1
   have x3 := k2.e.next
   simp (maxSteps := 2000000) -implicitDefEqProofs (disch := (first | omega | rfl | assumption | (simp only [rsD]; first | omega | assumption))) only [Nat.reduceAdd, Nat.reduceMul, Nat.reduceLT, Int.reduceToNat, Int.reduceAdd, Int.reduceSub, Int.reduceMul, rsU, rsC]
   have G3 := G2.ext k2.e
   refine Ok.step (from_ok G3 hs (rr _) (fun b hb => (rb b hb).elim) (by omega)) fun q ⟨a16, k3, k4⟩ => ?_
   obtain ⟨q, J4⟩ := q
   simp only at k3 k4
   subst k3
   have x4 := k4.e.next
   simp (maxSteps := 2000000) -implicitDefEqProofs (disch := (first | omega | rfl | assumption | (simp only [rsD]; first | omega | assumption))) only [Nat.reduceAdd, Nat.reduceMul, Nat.reduceLT, Int.reduceToNat, Int.reduceAdd, Int.reduceSub, Int.reduceMul, rsU, rsC]
   refine Ok.step (keep_ok (G3.ext k4.e) hs (rr _) (fun b hb => (rb b hb).elim) (by omega)) fun q ⟨a18, j1, j2, j3, j4, j5⟩ => ?_
   obtain ⟨q, J5⟩ := q
   simp only at j1 j2 j4 j5
   subst j1
   have x5 := j5.next
   simp (maxSteps := 2000000) -implicitDefEqProofs (disch := (first | omega | rfl | assumption | (simp only [rsD]; first | omega | assumption))) only [Nat.reduceAdd, Nat.reduceMul, Nat.reduceLT, Int.reduceToNat, Int.reduceAdd, Int.reduceSub, Int.reduceMul, rsU, rsC]
   have G5 : GAt J5 gb J1.next (keptD D roots) N := j4
   have hs' := kept_small (roots := roots) hs
   have kl := kept_len (D := D) (roots := roots)
   refine Ok.step (gids_ok G5 hs') fun q ⟨a20, k5, k6⟩ => ?_
   obtain ⟨q, J6⟩ := q
   simp only at k5 k6
   subst k5
   have x6 := k6.e.next
   simp (maxSteps := 2000000) -implicitDefEqProofs (disch := (first | omega | rfl | assumption | (simp only [rsD]; first | omega | assumption))) only [Nat.reduceAdd, Nat.reduceMul, Nat.reduceLT, Int.reduceToNat, Int.reduceAdd, Int.reduceSub, Int.reduceMul, rsU, rsC]
   rw [kept_ids V] at k6 ⊢
   have lf : (fromD D roots).length <= 1000 := by omega
   have o16 : OwnS J6 3 1 a16 (fromD D roots).length ((fromD D roots).map (AV.i .i64)) := k4.o.of (by omega) fun b hb => by
    have h1 := k4.lo b hb
    have h2 := k4.o.lt b hb
    rw [k6.e.blk b (by omega)]
    exact j5.blk b h2 (fr b (by omega))
   refine Ok.step (same02r k6.rd o16.rd (by omega) (by omega)) fun q hq => ?_
   subst hq
   rw [decide_eq_true rfl]
   have z1 : (((fromD D roots).length : Int) + ((lostD D roots).length : Int) == ((idsD D).length : Int)) = true := s_eqT (by omega)
   simp (maxSteps := 2000000) -implicitDefEqProofs (disch := (first | omega | rfl | assumption | (simp only [rsD]; first | omega | assumption))) only [Bool.not_true, t2, z1, bne, Nat.reduceAdd, Nat.reduceMul, Nat.reduceLT, Int.reduceToNat, Int.reduceAdd, Int.reduceSub, Int.reduceMul, rsU, rsC]
   have G6 := G5.ext k6.e
   refine Ok.step (keep_ok G6 hs' (rr _) (fun b hb => (rb b hb).elim) (by omega)) fun q ⟨a27, m1, m2, m3, m4, m5⟩ => ?_
   obtain ⟨q, J7⟩ := q
   simp only at m1 m2 m4 m5
   subst m1
   have x7 := m5.next
   rw [kept_lost V] at m4 ⊢
   have G7 : GAt J7 gb J1.next (keptD D roots) N := m4
   have z0 : (((0 : Nat) : Int) == 0) = true := rfl
   simp (maxSteps := 2000000) -implicitDefEqProofs (disch := (first | omega | rfl | assumption | (simp only [rsD]; first | omega | assumption))) only [List.length_nil, z0, Bool.not_true, t2, Nat.reduceAdd, Nat.reduceMul, Nat.reduceLT, Int.reduceToNat, Int.reduceAdd, Int.reduceSub, Int.reduceMul, rsU, rsC]
   refine Ok.step (from_ok G7 hs' (rr _) (fun b hb => (rb b hb).elim) (by omega)) fun q ⟨a31, u1, u2⟩ => ?_
   obtain ⟨q, J8⟩ := q
   simp only at u1 u2
   subst u1
   have x8 := u2.e.next
   simp (maxSteps := 2000000) -implicitDefEqProofs (disch := (first | omega | rfl | assumption | (simp only [rsD]; first | omega | assumption))) only [Nat.reduceAdd, Nat.reduceMul, Nat.reduceLT, Int.reduceToNat, Int.reduceAdd, Int.reduceSub, Int.reduceMul, rsU, rsC]
   rw [kept_from V] at u2 ⊢
   have o8 : OwnS J8 3 1 a16 (fromD D roots).length ((fromD D roots).map (AV.i .i64)) := o16.of (by omega) fun b hb => by
    have h1 := k4.lo b hb
    have h2 := k4.o.lt b hb
    have f := fr b (by omega)
    rw [u2.e.blk b (by omega)]
    exact m5.blk b (by omega) ⟨f.1, f.2.1, fun i hi => f.2.2 i (by omega)⟩
   refine Ok.step (same02r u2.rd o8.rd (by omega) (by omega)) fun q hq => ?_
   subst hq
   rw [decide_eq_true rfl]
   simp (maxSteps := 2000000) -implicitDefEqProofs (disch := (first | omega | rfl | assumption | (simp only [rsD]; first | omega | assumption))) only [Bool.not_true, Nat.reduceAdd, Nat.reduceMul, Nat.reduceLT, Int.reduceToNat, Int.reduceAdd, Int.reduceSub, Int.reduceMul, rsU, rsC]
   have G8 := G7.ext u2.e
   have o18 : OwnS J8 3 1 a18 (lostD D roots).length ((lostD D roots).map (AV.i .i64)) := j2.of (by omega) fun b hb => by
    have h1 := j3 b hb
    have h2 := j2.lt b hb
    have f := fr b (by omega)
    rw [u2.e.blk b (by omega), m5.blk b (by omega) ⟨f.1, f.2.1, fun i hi => f.2.2 i (by omega)⟩]
    exact k6.e.blk b h2
   refine Ok.bindS (keeps_gone G8 o18.rd (by omega) fun id hid => kept_out (mem_lost.1 hid).2) ?_ (fun r h => by cases h)
   intro s hs0
   cases hs0
   simp (maxSteps := 2000000) -implicitDefEqProofs (disch := (first | omega | rfl | assumption | (simp only [rsD]; first | omega | assumption))) only [Nat.reduceAdd, Nat.reduceMul, Nat.reduceLT, Int.reduceToNat, Int.reduceAdd, Int.reduceSub, Int.reduceMul, rsU, rsC]
   refine Ok.bindS (keeps_held G8 hs hs' d o8.rd (fun b hb => o8.lt b hb) (by omega) fun id hid => ?_) ?_ ?_
   ·have hm := mem_from.1 hid
    exact ⟨levels_live hm, kept_in V hm⟩
   ·rintro s ⟨J9, hs9⟩
    cases hs9
    exact Ok_some.2 rfl
   ·rintro r ⟨J9, hs9⟩
    cases hs9
  ·have d20 : decide ((roots.length : Int) > 20) = true := decide_eq_true (by omega)
   simp (maxSteps := 2000000) -implicitDefEqProofs (disch := (first | omega | rfl | assumption | (simp only [rsD]; first | omega | assumption))) only [Bool.not_true, t2, d20, Nat.reduceAdd, Nat.reduceMul, Nat.reduceLT, Int.reduceToNat, Int.reduceAdd, Int.reduceSub, Int.reduceMul, rsU, rsC]
   exact Ok_some.2 rfl
end Go.Abs.Try
namespace Go.Abs.Try
open Go Go.Abs
variable {O : Type}
theorem rowsAt {base b : Nat} {J : AH O} {rows : List (List Int)} (h : BldO base J 25 1 rowT (.loc (.n b) 0 1) rows) {i : Nat} {row : List Int} (hi : rows[i]? = some row) : ∃ a2, ldM (J.blk b) i = some (.sl a2 row.length) /\ Rd J 1 a2 row.length (row.map (.i .i64)) /\ ∀ c ∈ SA.bk a2, base <= c /\ c < J.next := by
 obtain ⟨b', a2, e, _, _, h1, h2, h3⟩ := row_at h hi
 cases e
 exact ⟨a2, h1, h2, h3⟩
theorem ways5 {base b : Nat} {J : AH O} {rows : List (List Int)} (B : BldO base J 25 1 rowT (.loc (.n b) 0 1) rows) {i j m c : Nat} {ri : List Int} {w : Int} (hi : rows[i]? = some ri) (hj : ri[j]? = some w) {ea : SA} {E : List Int} (re : Rd J 1 ea E.length (E.map (.i .i64))) (hE : E.length <= 5000) (hc : c <= 100000000000) (hr : rows.length <= 100000) (hm : m <= 100000) (near : w ∈ E -> i <= m + 1) (hjl : ri.length <= 100000) :
  Ok (loopF (law37_ReachWays_L5 (O := O) (ea, E.length) (i : Int) (.loc (.n b) 0 1, rows.length) (j : Int) (m : Int)) ([.i .i64 (c : Int), .i .i64 0], J)) fun r => r = .inl ([.i .i64 ((c + E.count w : Nat) : Int)], J) := by
 have t1 : (true == true) = true := rfl
 have t2 : (false == true) = false := rfl
 have il := (List.getElem?_eq_some_iff.1 hi).1
 have jl := (List.getElem?_eq_some_iff.1 hj).1
 obtain ⟨a2, h1, h2, h3⟩ := rowsAt B hi
 obtain ⟨b2, o2, rfl, ld2⟩ := h2.at1 (i := j) (v := .i .i64 w) (by rw [List.getElem?_map, hj]; rfl)
 rw [Nat.mul_one] at ld2
 have di := decide_eq_true (show (i : Int) < (rows.length : Int) by omega)
 have dj := decide_eq_true (show (j : Int) < (ri.length : Int) by omega)
 refine Ok.count E.length (fun k s => s = ([.i .i64 ((c + (E.take k).count w : Nat) : Int), .i .i64 (k : Int)], J)) ?_ ?_ (by simp)
 ·rintro k s hk rfl
  obtain ⟨v, hv⟩ : ∃ v, E[k]? = some v := ⟨_, List.getElem?_eq_getElem hk⟩
  obtain ⟨b1, o1, rfl, ld⟩ := re.at1 (i := k) (v := .i .i64 v) (by rw [List.getElem?_map, hv]; rfl)
  rw [Nat.mul_one] at ld
  have dk := decide_eq_true (show (k : Int) < (E.length : Int) by omega)
  have ct : (E.take (k + 1)).count w = (E.take k).count w + (if v = w then 1 else 0) := by
   rw [take_snoc hv, List.count_append]; simp [List.count_cons]
  have cl : (E.take k).count w <= k := by
   have h1 := List.count_le_length (a := w) (l := E.take k)
   have h2 : (E.take k).length <= k := by simp; omega
   omega
  generalize (E.take k).count w = n at *
  by_cases q : v = w
  ·subst q
   rw [if_pos rfl] at ct
   rw [ct]
   have q0 : (v == v) = true := by simp
   have nr := near (List.mem_of_getElem? hv)
   have dm := decide_eq_false (show ¬ (m : Int) < (i : Int) - 1 by omega)
   simp (maxSteps := 2000000) -implicitDefEqProofs (disch := (first | omega | rfl | assumption | (simp only [rsD]; first | omega | assumption))) only [law37_ReachWays_L5, dk, ld, di, h1, dj, ld2, q0, t1, dm, Nat.reduceAdd, Nat.reduceMul, Nat.reduceLT, Int.reduceToNat, Int.reduceAdd, Int.reduceSub, Int.reduceMul, rsU, rsC]
   exact Ok_some.2 (by rw [show ((c + (n + 1) : Nat) : Int) = ((c + n : Nat) : Int) + 1 by omega, show ((k + 1 : Nat) : Int) = (k : Int) + 1 by omega])
  ·rw [if_neg q] at ct
   rw [ct]
   have q0 : (v == w) = false := s_eqF q
   simp (maxSteps := 2000000) -implicitDefEqProofs (disch := (first | omega | rfl | assumption | (simp only [rsD]; first | omega | assumption))) only [law37_ReachWays_L5, dk, ld, di, h1, dj, ld2, q0, t2, Nat.reduceAdd, Nat.reduceMul, Nat.reduceLT, Int.reduceToNat, Int.reduceAdd, Int.reduceSub, Int.reduceMul, rsU, rsC]
   exact Ok_some.2 (by rw [Nat.add_zero, show ((k + 1 : Nat) : Int) = (k : Int) + 1 by omega])
 ·rintro s rfl
  simp (maxSteps := 2000000) -implicitDefEqProofs (disch := (first | omega | rfl | assumption | (simp only [rsD]; first | omega | assumption))) only [law37_ReachWays_L5, Nat.reduceAdd, Nat.reduceMul, Nat.reduceLT, Int.reduceToNat, Int.reduceAdd, Int.reduceSub, Int.reduceMul, rsU, rsC]
  exact Ok_some.2 rfl
theorem nexts_snoc {D : List DN} {rm : List Int} {k : Nat} {v : Int} (h : rm[k]? = some v) : nexts D (rm.take (k + 1)) = nexts D (rm.take k) ++ edgesD D v := by
 unfold nexts
 rw [take_snoc h, List.flatMap_append]; simp
theorem ways4 {base b gb mb : Nat} {J : AH O} {D : List DN} {N : Nat -> Nat} (G : GAt J gb mb D N) (hs : Small36 D) {rows : List (List Int)} (B : BldO base J 25 1 rowT (.loc (.n b) 0 1) rows) {i j m c : Nat} {ri rm : List Int} {w : Int} (hi : rows[i]? = some ri) (hj : ri[j]? = some w) (hrm : rows[m]? = some rm) (hml : rm.length <= 1000) (hc : c <= 50000000000) (hr : rows.length <= 100000) (near : ∀ v ∈ rm, w ∈ edgesD D v -> i <= m + 1) (hjl : ri.length <= 100000) :
  Ok (loopF (law37_ReachWays_L4 (O := O) (m : Int) (.loc (.n b) 0 1, rows.length) graph_Graph__Edges (some (.n gb, 0)) (i : Int) (j : Int)) ([.i .i64 (c : Int), .i .i64 0], J)) fun r => ∃ J', r = .inl ([.i .i64 ((c + (nexts D rm).count w : Nat) : Int)], J') /\ Ext J J' := by
 have ml := (List.getElem?_eq_some_iff.1 hrm).1
 have dm := decide_eq_true (show (m : Int) < (rows.length : Int) by omega)
 refine Ok.count rm.length (fun k s => ∃ J', s = ([.i .i64 ((c + (nexts D (rm.take k)).count w : Nat) : Int), .i .i64 (k : Int)], J') /\ Ext J J') ?_ ?_ ⟨J, by simp [nexts], Ext.refl J⟩
 ·rintro k s hk ⟨J', rfl, e⟩
  obtain ⟨v, hv⟩ : ∃ v, rm[k]? = some v := ⟨_, List.getElem?_eq_getElem hk⟩
  have B' := B.ext e
  obtain ⟨a2, h1, h2, h3⟩ := rowsAt B' hrm
  obtain ⟨b1, o1, rfl, ld⟩ := h2.at1 (i := k) (v := .i .i64 v) (by rw [List.getElem?_map, hv]; rfl)
  rw [Nat.mul_one] at ld
  have dk := decide_eq_true (show (k : Int) < (rm.length : Int) by omega)
  have le := edges_le hs v
  have nl := nexts_le hs rm k
  have cl := List.count_le_length (a := w) (l := nexts D (rm.take k))
  have ct : (nexts D (rm.take (k + 1))).count w = (nexts D (rm.take k)).count w + (edgesD D v).count w := by rw [nexts_snoc hv, List.count_append]
  have hcn : c + (nexts D (rm.take k)).count w <= 100000000000 := by omega
  rw [ct]
  generalize (nexts D (rm.take k)).count w = n at *
  simp (maxSteps := 2000000) -implicitDefEqProofs (disch := (first | omega | rfl | assumption | (simp only [rsD]; first | omega | assumption))) only [law37_ReachWays_L4, dm, h1, dk, ld, Nat.reduceAdd, Nat.reduceMul, Nat.reduceLT, Int.reduceToNat, Int.reduceAdd, Int.reduceSub, Int.reduceMul, rsU, rsC]
  refine Ok.step (gedges_ok (G.ext e) hs (id := v)) fun q ⟨a6, g1, g2⟩ => ?_
  obtain ⟨q, J6⟩ := q
  simp only at g1 g2
  subst g1
  simp (maxSteps := 2000000) -implicitDefEqProofs (disch := (first | omega | rfl | assumption | (simp only [rsD]; first | omega | assumption))) only [Nat.reduceAdd, Nat.reduceMul, Nat.reduceLT, Int.reduceToNat, Int.reduceAdd, Int.reduceSub, Int.reduceMul, rsU, rsC]
  have w5 := ways5 (B'.ext g2.e) (m := m) (c := c + n) hi hj g2.rd le hcn hr (by omega) (near v (List.mem_of_getElem? hv)) hjl
  refine Ok.bindS w5 ?_ (fun r h => by cases h)
  intro s hs0
  cases hs0
  simp (maxSteps := 2000000) -implicitDefEqProofs (disch := (first | omega | rfl | assumption | (simp only [rsD]; first | omega | assumption))) only [Nat.reduceAdd, Nat.reduceMul, Nat.reduceLT, Int.reduceToNat, Int.reduceAdd, Int.reduceSub, Int.reduceMul, rsU, rsC]
  exact Ok_some.2 ⟨J6, by rw [<- Nat.add_assoc, show ((k + 1 : Nat) : Int) = (k : Int) + 1 by omega], e.trans g2.e⟩
 ·rintro s ⟨J', rfl, e⟩
  obtain ⟨a2, h1, h2, h3⟩ := rowsAt (B.ext e) hrm
  simp (maxSteps := 2000000) -implicitDefEqProofs (disch := (first | omega | rfl | assumption | (simp only [rsD]; first | omega | assumption))) only [law37_ReachWays_L4, dm, h1, Nat.reduceAdd, Nat.reduceMul, Nat.reduceLT, Int.reduceToNat, Int.reduceAdd, Int.reduceSub, Int.reduceMul, rsU, rsC]
  exact Ok_some.2 ⟨J', rfl, e⟩
def cntS (D : List DN) (rows : List (List Int)) (w : Int) : Nat -> Nat
 | 0 => 0
 | k + 1 => cntS D rows w k + (match rows[k]? with | some r => (nexts D r).count w | none => 0)
theorem ways3 {base b gb mb : Nat} {J : AH O} {D : List DN} {N : Nat -> Nat} (G : GAt J gb mb D N) (hs : Small36 D) {rows : List (List Int)} (B : BldO base J 25 1 rowT (.loc (.n b) 0 1) rows) {i j : Nat} {ri : List Int} {w : Int} (hi : rows[i]? = some ri) (hj : ri[j]? = some w) (hl : ∀ (m : Nat) (rm : List Int), rows[m]? = some rm -> rm.length <= 1000) (hr : rows.length <= 2000) (near : ∀ (m : Nat) (rm : List Int) (v : Int), rows[m]? = some rm -> v ∈ rm -> w ∈ edgesD D v -> i <= m + 1) :
  Ok (loopF (law37_ReachWays_L3 (O := O) (i : Int) (.loc (.n b) 0 1, rows.length) graph_Graph__Edges (some (.n gb, 0)) (j : Int)) ([.i .i64 0, .i .i64 0], J)) fun r => ∃ J', r = .inl ([.i .i64 ((cntS D rows w i : Nat) : Int)], J') /\ Ext J J' := by
 have il := (List.getElem?_eq_some_iff.1 hi).1
 refine Ok.count i (fun k s => ∃ J', s = ([.i .i64 ((cntS D rows w k : Nat) : Int), .i .i64 (k : Int)], J') /\ Ext J J' /\ cntS D rows w k <= k * 5000000) ?_ ?_ ⟨J, rfl, Ext.refl J, by simp [cntS]⟩
 ·rintro k s hk ⟨J', rfl, e, bd⟩
  obtain ⟨rm, hrm⟩ : ∃ rm, rows[k]? = some rm := ⟨_, List.getElem?_eq_getElem (by omega)⟩
  have dk := decide_eq_true (show (k : Int) < (i : Int) by omega)
  have cs : cntS D rows w (k + 1) = cntS D rows w k + (nexts D rm).count w := by simp only [cntS, hrm]
  have nl := nexts_le hs rm rm.length
  rw [List.take_length] at nl
  have rl := hl k rm hrm
  have cl := List.count_le_length (a := w) (l := nexts D rm)
  rw [cs]
  generalize cntS D rows w k = n at *
  simp (maxSteps := 2000000) -implicitDefEqProofs (disch := (first | omega | rfl | assumption | (simp only [rsD]; first | omega | assumption))) only [law37_ReachWays_L3, dk, Nat.reduceAdd, Nat.reduceMul, Nat.reduceLT, Int.reduceToNat, Int.reduceAdd, Int.reduceSub, Int.reduceMul, rsU, rsC]
  refine Ok.bindS (ways4 (G.ext e) hs (B.ext e) (c := n) hi hj hrm rl (by omega) (by omega) (fun v hv => near k rm v hrm hv) (by have := hl i ri hi; omega)) ?_ (fun r h => by obtain ⟨_, h, _⟩ := h; cases h)
  rintro s ⟨J2, hs2, e2⟩
  cases hs2
  simp (maxSteps := 2000000) -implicitDefEqProofs (disch := (first | omega | rfl | assumption | (simp only [rsD]; first | omega | assumption))) only [Nat.reduceAdd, Nat.reduceMul, Nat.reduceLT, Int.reduceToNat, Int.reduceAdd, Int.reduceSub, Int.reduceMul, rsU, rsC]
  refine Ok_some.2 ⟨J2, by rw [show ((k + 1 : Nat) : Int) = (k : Int) + 1 by omega], e.trans e2, by omega⟩
 ·rintro s ⟨J', rfl, e, bd⟩
  simp (maxSteps := 2000000) -implicitDefEqProofs (disch := (first | omega | rfl | assumption | (simp only [rsD]; first | omega | assumption))) only [law37_ReachWays_L3, Nat.reduceAdd, Nat.reduceMul, Nat.reduceLT, Int.reduceToNat, Int.reduceAdd, Int.reduceSub, Int.reduceMul, rsU, rsC]
  exact Ok_some.2 ⟨J', rfl, e⟩
theorem cntS_pos {D : List DN} {roots : List Int} {i : Nat} {ri : List Int} {w : Int} (hi : (levelsD D roots)[i + 1]? = some ri) (hw : w ∈ ri) : 0 < cntS D (levelsD D roots) w (i + 1) := by
 have il := (List.getElem?_eq_some_iff.1 hi).1
 obtain ⟨r, hr⟩ : ∃ r, (levelsD D roots)[i]? = some r := ⟨_, List.getElem?_eq_getElem (by omega)⟩
 obtain ⟨v, hv, hvw⟩ := levels_from hr hi hw
 have : 0 < (nexts D r).count w := List.count_pos_iff.2 (mem_nexts.2 ⟨v, hv, hvw⟩)
 simp only [cntS, hr]
 omega
theorem ways2 {base b gb mb : Nat} {J : AH O} {D : List DN} {N : Nat -> Nat} {roots : List Int} (G : GAt J gb mb D N) (hs : Small36 D) (B : BldO base J 25 1 rowT (.loc (.n b) 0 1) (levelsD D roots)) {i : Nat} {ri : List Int} (hi : (levelsD D roots)[i]? = some ri) (hl : ∀ (m : Nat) (rm : List Int), (levelsD D roots)[m]? = some rm -> rm.length <= 1000) (hr : (levelsD D roots).length <= 2000) :
  Ok (loopF (law37_ReachWays_L2 (O := O) (i : Int) (.loc (.n b) 0 1, (levelsD D roots).length) graph_Graph__Edges (some (.n gb, 0))) ([.i .i64 0], J)) fun r => ∃ J', r = .inl ([], J') /\ Ext J J' := by
 have t1 : (true == true) = true := rfl
 have t2 : (false == true) = false := rfl
 have il := (List.getElem?_eq_some_iff.1 hi).1
 have rl := hl i ri hi
 have di := decide_eq_true (show (i : Int) < ((levelsD D roots).length : Int) by omega)
 refine Ok.count ri.length (fun k s => ∃ J', s = ([.i .i64 (k : Int)], J') /\ Ext J J') ?_ ?_ ⟨J, rfl, Ext.refl J⟩
 ·rintro k s hk ⟨J', rfl, e⟩
  obtain ⟨w, hw⟩ : ∃ w, ri[k]? = some w := ⟨_, List.getElem?_eq_getElem hk⟩
  have B' := B.ext e
  obtain ⟨a2, h1, h2, h3⟩ := rowsAt B' hi
  have dk := decide_eq_true (show (k : Int) < (ri.length : Int) by omega)
  simp (maxSteps := 2000000) -implicitDefEqProofs (disch := (first | omega | rfl | assumption | (simp only [rsD]; first | omega | assumption))) only [law37_ReachWays_L2, di, h1, dk, Nat.reduceAdd, Nat.reduceMul, Nat.reduceLT, Int.reduceToNat, Int.reduceAdd, Int.reduceSub, Int.reduceMul, rsU, rsC]
  refine Ok.bindS (ways3 (G.ext e) hs B' hi hw hl hr fun m rm v hm hv hvw => levels_near hm hi hv (List.mem_of_getElem? hw) hvw) ?_ (fun r h => by obtain ⟨_, h, _⟩ := h; cases h)
  rintro s ⟨J2, hs2, e2⟩
  cases hs2
  cases i with
  | zero =>
   have d0 : decide (((0 : Nat) : Int) > 0) = false := rfl
   simp (maxSteps := 2000000) -implicitDefEqProofs (disch := (first | omega | rfl | assumption | (simp only [rsD]; first | omega | assumption))) only [d0, t2, Nat.reduceAdd, Nat.reduceMul, Nat.reduceLT, Int.reduceToNat, Int.reduceAdd, Int.reduceSub, Int.reduceMul, rsU, rsC]
   exact Ok_some.2 ⟨J2, by rw [show ((k + 1 : Nat) : Int) = (k : Int) + 1 by omega], e.trans e2⟩
  | succ i =>
   have cp := cntS_pos hi (List.mem_of_getElem? hw)
   have d0 := decide_eq_true (show ((i + 1 : Nat) : Int) > 0 by omega)
   have z0 : (((cntS D (levelsD D roots) w (i + 1) : Nat) : Int) == 0) = false := s_eqF (by omega)
   simp (maxSteps := 2000000) -implicitDefEqProofs (disch := (first | omega | rfl | assumption | (simp only [rsD]; first | omega | assumption))) only [d0, t1, z0, Nat.reduceAdd, Nat.reduceMul, Nat.reduceLT, Int.reduceToNat, Int.reduceAdd, Int.reduceSub, Int.reduceMul, rsU, rsC]
   exact Ok_some.2 ⟨J2, by rw [show ((k + 1 : Nat) : Int) = (k : Int) + 1 by omega], e.trans e2⟩
 ·rintro s ⟨J', rfl, e⟩
  obtain ⟨a2, h1, h2, h3⟩ := rowsAt (B.ext e) hi
  simp (maxSteps := 2000000) -implicitDefEqProofs (disch := (first | omega | rfl | assumption | (simp only [rsD]; first | omega | assumption))) only [law37_ReachWays_L2, di, h1, Nat.reduceAdd, Nat.reduceMul, Nat.reduceLT, Int.reduceToNat, Int.reduceAdd, Int.reduceSub, Int.reduceMul, rsU, rsC]
  exact Ok_some.2 ⟨J', rfl, e⟩
end Go.Abs.Try
namespace Go.Abs.Try
open Go Go.Abs
variable {O : Type}
theorem levels_len (D : List DN) (roots : List Int) : (levelsD D roots).length <= D.length + 2 := by
 unfold levelsD
 have : ∀ (n : Nat) (met row : List Int), (lev D n met row).length <= n := by
  intro n
  induction n with
  | zero => intros; simp [lev]
  | succ n ih =>
   intro met row
   unfold lev
   split
   ·simp
   ·have := ih (fresh D met (nexts D row)).2 (fresh D met (nexts D row)).1
    simp; omega
 have := this (2 + D.length) (fresh D [] roots).2 (fresh D [] roots).1
 omega
theorem levels_flat (D : List DN) (roots : List Int) : (levelsD D roots).flatten.length <= D.length := met_le (levels_nodup D roots) fun m hm => levels_live hm
theorem from_len (D : List DN) (roots : List Int) : (fromD D roots).length = (levelsD D roots).flatten.length := by
 refine List.Perm.length_eq ((List.perm_ext_iff_of_nodup ?_ (levels_nodup D roots)).2 fun a => mem_from)
 unfold fromD
 have hn : (idsD D).Nodup := (ids_sorted D).imp fun h => by omega
 exact List.filter_sublist.nodup hn
theorem ways1 {base gb mb : Nat} {J : AH O} {D : List DN} {N : Nat -> Nat} {roots : List Int} {a : SA} (G : GAt J gb mb D N) (hs : Small36 D) (B : BldO base J 25 1 rowT a (levelsD D roots)) :
  Ok (loopF (law37_ReachWays_L1 (O := O) (a, (levelsD D roots).length) graph_Graph__Edges (some (.n gb, 0))) ([.i .i64 0, .i .i64 0], J)) fun r => ∃ J', r = .inl ([.i .i64 ((levelsD D roots).flatten.length : Int)], J') /\ Ext J J' := by
 have hn := hs.n
 have ll := levels_len D roots
 have lf := levels_flat D roots
 have hl : ∀ (m : Nat) (rm : List Int), (levelsD D roots)[m]? = some rm -> rm.length <= 1000 := fun m rm h => by
  have := (List.sublist_flatten_of_mem (List.mem_of_getElem? h)).length_le
  omega
 refine Ok.count (levelsD D roots).length (fun k s => ∃ J', s = ([.i .i64 (((levelsD D roots).take k).flatten.length : Int), .i .i64 (k : Int)], J') /\ Ext J J') ?_ ?_ ⟨J, rfl, Ext.refl J⟩
 ·rintro k s hk ⟨J', rfl, e⟩
  obtain ⟨row, hrow⟩ : ∃ row, (levelsD D roots)[k]? = some row := ⟨_, List.getElem?_eq_getElem hk⟩
  have B' := B.ext e
  obtain ⟨b, _, rfl, _⟩ := row_at B' hrow
  obtain ⟨a2, h1, h2, h3⟩ := rowsAt B' hrow
  have dk := decide_eq_true (show (k : Int) < ((levelsD D roots).length : Int) by omega)
  have ef : ((levelsD D roots).take (k + 1)).flatten.length = ((levelsD D roots).take k).flatten.length + row.length := by
   rw [take_snocA hrow, List.flatten_append, List.length_append]; simp
  have lt : ((levelsD D roots).take k).flatten.length <= (levelsD D roots).flatten.length := by
   have : (levelsD D roots).flatten = ((levelsD D roots).take k).flatten ++ ((levelsD D roots).drop k).flatten := by rw [<- List.flatten_append, List.take_append_drop]
   rw [this, List.length_append]; omega
  have rl := hl k row hrow
  rw [ef]
  generalize ((levelsD D roots).take k).flatten.length = n at *
  simp (maxSteps := 2000000) -implicitDefEqProofs (disch := (first | omega | rfl | assumption | (simp only [rsD]; first | omega | assumption))) only [law37_ReachWays_L1, dk, h1, Nat.reduceAdd, Nat.reduceMul, Nat.reduceLT, Int.reduceToNat, Int.reduceAdd, Int.reduceSub, Int.reduceMul, rsU, rsC]
  refine Ok.bindS (ways2 (G.ext e) hs B' hrow hl (by omega)) ?_ (fun r h => by obtain ⟨_, h, _⟩ := h; cases h)
  rintro s ⟨J2, hs2, e2⟩
  cases hs2
  simp (maxSteps := 2000000) -implicitDefEqProofs (disch := (first | omega | rfl | assumption | (simp only [rsD]; first | omega | assumption))) only [Nat.reduceAdd, Nat.reduceMul, Nat.reduceLT, Int.reduceToNat, Int.reduceAdd, Int.reduceSub, Int.reduceMul, rsU, rsC]
  exact Ok_some.2 ⟨J2, by rw [show ((k + 1 : Nat) : Int) = (k : Int) + 1 by omega, show ((n + row.length : Nat) : Int) = (n : Int) + row.length by omega], e.trans e2⟩
 ·rintro s ⟨J', rfl, e⟩
  simp (maxSteps := 2000000) -implicitDefEqProofs (disch := (first | omega | rfl | assumption | (simp only [rsD]; first | omega | assumption))) only [law37_ReachWays_L1, Nat.reduceAdd, Nat.reduceMul, Nat.reduceLT, Int.reduceToNat, Int.reduceAdd, Int.reduceSub, Int.reduceMul, rsU, rsC]
  exact Ok_some.2 ⟨J', rfl, e⟩
theorem reachWays_ok {a0 ar : SA} {l : List OpV} {roots : List Int} (h : OpsAt a0 l) (hr : Imm 1 ar roots.length (roots.map (.i .i64))) : Ok (law37_ReachWays (O := O) [.sl a0 l.length, .sl ar roots.length] startH) fun r => r.1 = .b true := by
 have t1 : (true == true) = true := rfl
 have t2 : (false == false) = true := rfl
 have t3 : (true == false) = false := rfl
 simp (maxSteps := 2000000) -implicitDefEqProofs (disch := (first | omega | rfl | assumption | (simp only [rsD]; first | omega | assumption))) only [law37_ReachWays, law37_ReachWays_c, Nat.reduceAdd, Nat.reduceMul, Nat.reduceLT, Int.reduceToNat, Int.reduceAdd, Int.reduceSub, Int.reduceMul, rsU, rsC]
 refine Ok.step (awake37_ok _) fun q ⟨q0, _⟩ => ?_
 obtain ⟨q, J0⟩ := q
 simp only at q0
 subst q0
 simp (maxSteps := 2000000) -implicitDefEqProofs (disch := (first | omega | rfl | assumption | (simp only [rsD]; first | omega | assumption))) only [Bool.not_true, Nat.reduceAdd, Nat.reduceMul, Nat.reduceLT, Int.reduceToNat, Int.reduceAdd, Int.reduceSub, Int.reduceMul, rsU, rsC]
 refine Ok.step (few36_ok (J := J0) h) fun q ⟨⟨ok, q1, q2⟩, q3⟩ => ?_
 obtain ⟨q, J1⟩ := q
 simp only at q1 q3
 subst q1
 cases ok with
 | false =>
  simp (maxSteps := 2000000) -implicitDefEqProofs (disch := (first | omega | rfl | assumption | (simp only [rsD]; first | omega | assumption))) only [Bool.not_false, t3, Nat.reduceAdd, Nat.reduceMul, Nat.reduceLT, Int.reduceToNat, Int.reduceAdd, Int.reduceSub, Int.reduceMul, rsU, rsC]
  exact Ok_some.2 rfl
 | true =>
  have hl := q2 rfl
  by_cases hk : roots.length <= 20
  ·have d20 : decide ((roots.length : Int) > 20) = false := decide_eq_false (by omega)
   have rr : ∀ J : AH O, Rd J 1 ar roots.length (roots.map (.i .i64)) := fun J => hr O J
   have rb : ∀ b ∈ SA.bk ar, False := by rw [hr.bk]; simp
   simp (maxSteps := 2000000) -implicitDefEqProofs (disch := (first | omega | rfl | assumption | (simp only [rsD]; first | omega | assumption))) only [Bool.not_true, t2, d20, Nat.reduceAdd, Nat.reduceMul, Nat.reduceLT, Int.reduceToNat, Int.reduceAdd, Int.reduceSub, Int.reduceMul, rsU, rsC]
   refine Ok.step (made_ok (h.rd J1) hl) fun q ⟨da, q4, I⟩ => ?_
   obtain ⟨q, J2⟩ := q
   simp only at q4 I
   subst q4
   obtain ⟨⟨N, G2⟩, d, w, V, e2⟩ := I
   have hs := w.small (by omega)
   have hn := hs.n
   obtain ⟨gb, hgb⟩ : ∃ gb, gb = J1.next + 1 := ⟨_, rfl⟩
   rw [<- hgb] at G2
   generalize stepsD l = D at *
   simp (maxSteps := 2000000) -implicitDefEqProofs (disch := (first | omega | rfl | assumption | (simp only [rsD]; first | omega | assumption))) only [Bool.not_true, <- hgb, Nat.reduceAdd, Nat.reduceMul, Nat.reduceLT, Int.reduceToNat, Int.reduceAdd, Int.reduceSub, Int.reduceMul, rsU, rsC]
   refine Ok.step (glevels_ok G2 hs (rr _) (fun b hb => (rb b hb).elim) (by omega)) fun q ⟨a3, k1, k2, k3⟩ => ?_
   obtain ⟨q, J3⟩ := q
   simp only at k1 k2 k3
   subst k1
   simp (maxSteps := 2000000) -implicitDefEqProofs (disch := (first | omega | rfl | assumption | (simp only [rsD]; first | omega | assumption))) only [Nat.reduceAdd, Nat.reduceMul, Nat.reduceLT, Int.reduceToNat, Int.reduceAdd, Int.reduceSub, Int.reduceMul, rsU, rsC]
   refine Ok.bindS (ways1 (G2.ext k3) hs k2) ?_ (fun r h => by obtain ⟨_, h, _⟩ := h; cases h)
   rintro s ⟨J4, hs4, e4⟩
   cases hs4
   simp (maxSteps := 2000000) -implicitDefEqProofs (disch := (first | omega | rfl | assumption | (simp only [rsD]; first | omega | assumption))) only [Nat.reduceAdd, Nat.reduceMul, Nat.reduceLT, Int.reduceToNat, Int.reduceAdd, Int.reduceSub, Int.reduceMul, rsU, rsC]
   refine Ok.step (from_ok ((G2.ext k3).ext e4) hs (rr _) (fun b hb => (rb b hb).elim) (by omega)) fun q ⟨a5, k5, k6⟩ => ?_
   obtain ⟨q, J5⟩ := q
   simp only at k5 k6
   subst k5
   have z1 : (((levelsD D roots).flatten.length : Int) == ((fromD D roots).length : Int)) = true := s_eqT (by rw [from_len])
   simp (maxSteps := 2000000) -implicitDefEqProofs (disch := (first | omega | rfl | assumption | (simp only [rsD]; first | omega | assumption))) only [z1, Nat.reduceAdd, Nat.reduceMul, Nat.reduceLT, Int.reduceToNat, Int.reduceAdd, Int.reduceSub, Int.reduceMul, rsU, rsC]
   exact Ok_some.2 rfl
  ·have d20 : decide ((roots.length : Int) > 20) = true := decide_eq_true (by omega)
   simp (maxSteps := 2000000) -implicitDefEqProofs (disch := (first | omega | rfl | assumption | (simp only [rsD]; first | omega | assumption))) only [Bool.not_true, t2, d20, Nat.reduceAdd, Nat.reduceMul, Nat.reduceLT, Int.reduceToNat, Int.reduceAdd, Int.reduceSub, Int.reduceMul, rsU, rsC]
   exact Ok_some.2 rfl
end Go.Abs.Try
