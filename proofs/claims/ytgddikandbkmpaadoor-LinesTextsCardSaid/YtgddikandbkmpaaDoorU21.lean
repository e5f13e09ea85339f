/-
  Forms that come in as arguments; which forms are tried; the page's example. No conditions.
-/
import Derived.Test.YtgddikandbkmpaaDoorAbsIn
import Derived.Test.YtgddikandbkmpaaDoorU19
import Derived.Test.YtgddikandbkmpaaDoorM12
set_option linter.unusedVariables false
set_option linter.unusedSimpArgs false
set_option linter.constructorNameAsVariable false
set_option linter.unusedSimpArgs false
set_option linter.unusedVariables false
set_option maxHeartbeats 2000000
set_option maxRecDepth 100000
namespace Go.Abs
open Go
variable {P : Program}
theorem i64_of {n : Int} (h : IntKind.i64.min ≤ n ∧ n ≤ IntKind.i64.max) : I64 n := h
theorem u64_of {n : Int} (h : IntKind.u64.min ≤ n ∧ n ≤ IntKind.u64.max) : U64 n := ⟨h.1, Int.lt_add_one_of_le h.2⟩
theorem ClsF {d : Nat} {t : TypeId} {fs : Array Field} {cs : List AV} (hu : P.underlying t = some (.struct fs)) (h : Cls P (d + 1) t cs) :
  ∃ parts : List (List AV), cs = parts.flatten ∧ parts.length = fs.toList.length ∧ ∀ (i : Nat) (f : Field) (part : List AV), fs.toList[i]? = some f → parts[i]? = some part → Cls P d f.type part := by
 unfold Cls at h; rw [hu] at h; exact h
end Go.Abs
namespace Go.Abs.Tryd
open Go Go.Abs Go.Proofs
variable {O : Type}
theorem shape_in {d : Nat} {cs : List AV} (h : Cls Tryd.prog (d + 2) 43 cs) : ∃ p r, cs = [.i .i64 p, .i .i64 r] := by
 obtain ⟨parts, rfl, hl, hp⟩ := ClsF Tryd.underlying43 h
 match parts, hl, hp with
 | [p0, p1], _, hp =>
  obtain ⟨a, rfl, ha⟩ := ClsI (k := .i64) Tryd.underlying3 (hp 0 _ p0 rfl rfl)
  obtain ⟨b, rfl, hb⟩ := ClsI (k := .i64) Tryd.underlying3 (hp 1 _ p1 rfl rfl)
  exact ⟨a, b, rfl⟩
theorem header_in {d : Nat} {cs : List AV} (h : Cls Tryd.prog (d + 3) 45 cs) : ∃ x : HV, cs = x.cs ∧ I64 x.site ∧ I64 x.age := by
 obtain ⟨parts, rfl, hl, hp⟩ := ClsF Tryd.underlying45 h
 match parts, hl, hp with
 | [p0, p1, p2, p3], _, hp =>
  obtain ⟨p, r, rfl⟩ := shape_in (d := d) (hp 0 _ p0 rfl rfl)
  obtain ⟨a, rfl, ha⟩ := ClsI (k := .i64) Tryd.underlying3 (hp 1 _ p1 rfl rfl)
  obtain ⟨b, rfl, hb⟩ := ClsI (k := .i64) Tryd.underlying3 (hp 2 _ p2 rfl rfl)
  obtain ⟨c, rfl⟩ := ClsB Tryd.underlying4 (hp 3 _ p3 rfl rfl)
  exact ⟨⟨p, r, a, b, c⟩, rfl, ha, hb⟩
theorem node_in {d : Nat} {cs : List AV} (h : Cls Tryd.prog (d + 4) 48 cs) : ∃ (x : NV) (a b : SA), cs = x.cells a b ∧ Ints .i64 a x.P ∧ Ints .u64 b x.R ∧ x.rng := by
 obtain ⟨parts, rfl, hl, hp⟩ := ClsF Tryd.underlying48 h
 match parts, hl, hp with
 | [p0, p1, p2], _, hp =>
  obtain ⟨hv, rfl, is, ig⟩ := header_in (d := d) (hp 0 _ p0 rfl rfl)
  obtain ⟨a, P, rfl, _, ia, ha⟩ := ClsIs (d := d + 2) (k := .i64) Tryd.underlying23 Tryd.underlying3 (by kernel_rfl) (hp 1 _ p1 rfl rfl)
  obtain ⟨b, R, rfl, _, ib, hb⟩ := ClsIs (d := d + 2) (k := .u64) Tryd.underlying46 Tryd.underlying82 (by kernel_rfl) (hp 2 _ p2 rfl rfl)
  exact ⟨⟨hv, P, R⟩, a, b, rfl, Ints.mk ia, Ints.mk ib, is, ig, fun z hz => i64_of (ha z hz), fun z hz => u64_of (hb z hz)⟩
theorem nodes_in {d : Nat} : ∀ {els : List (List AV)}, (∀ el ∈ els, Cls Tryd.prog (d + 4) 48 el) → ∃ l : List NV, l.length = els.length ∧ ImL (l.flatMap NV.row) els.flatten ∧ ∀ x ∈ l, x.rng
 | [], _ => ⟨[], rfl, .nil, by simp⟩
 | e :: els, h => by
  obtain ⟨x, a, b, rfl, ia, ib, hx⟩ := node_in (h e List.mem_cons_self)
  obtain ⟨l, h1, h2, h3⟩ := nodes_in (d := d) (els := els) fun y hy => h y (List.mem_cons_of_mem _ hy)
  refine ⟨x :: l, by simp [h1], ?_, fun y hy => ?_⟩
  ·rw [List.flatMap_cons, List.flatten_cons]; exact (NV.mk_ ia ib).app h2
  ·rcases List.mem_cons.1 hy with rfl | hy
   ·exact hx
   ·exact h3 y hy
structure _root_.Go.Abs.FV.rngL (F : FV) : Prop where
 n : ∀ x ∈ F.nodes, x.rng
 r : ∀ z ∈ F.roots, I64 z
 w : ∀ z ∈ F.weak, I64 z
theorem form_in {x : AV} (h : ArgIs Tryd.prog 25 x) : ∃ F : FV, F.At x ∧ F.rngL := by
 obtain ⟨cs, rfl, hc⟩ := argSt Tryd.underlying25 h
 obtain ⟨parts, rfl, hl, hp⟩ := ClsF (d := 11) Tryd.underlying25 hc
 match parts, hl, hp with
 | [p0, p1, p2], _, hp =>
  have c7 : Tryd.prog.cellsOf 48 = 7 := by kernel_rfl
  obtain ⟨a, els, rfl, _, ia, ha⟩ := ClsSl (d := 10) Tryd.underlying22 (hp 0 _ p0 rfl rfl) (fun el hel => by obtain ⟨x, a, b, rfl, _⟩ := node_in (d := 6) hel; rw [c7]; rfl)
  obtain ⟨b, R, rfl, _, ib, hb⟩ := ClsIs (d := 10) (k := .i64) Tryd.underlying23 Tryd.underlying3 (by kernel_rfl) (hp 1 _ p1 rfl rfl)
  obtain ⟨c, W, rfl, _, ic, hc⟩ := ClsIs (d := 10) (k := .i64) Tryd.underlying23 Tryd.underlying3 (by kernel_rfl) (hp 2 _ p2 rfl rfl)
  obtain ⟨N, h1, h2, h3⟩ := nodes_in (d := 6) ha
  rw [c7, ← h1] at ia
  refine ⟨⟨N, R, W⟩, ⟨a, b, c, ?_, ⟨fun _ => rfl, _, ia, h2⟩, Ints.mk ib, Ints.mk ic⟩, h3, fun z hz => i64_of (hb z hz), fun z hz => i64_of (hc z hz)⟩
  show AV.agg [_, _, _] = _
  rw [← h1]
structure Tried46 (F : FV) : Prop where
 n : F.nodes.length ≤ 20
 x : ∀ x ∈ F.nodes, x.P.length ≤ 20 ∧ x.R.length ≤ 20
 r : F.roots.length ≤ 20
 w : F.weak.length ≤ 20
theorem Tried46.lin {F : FV} (h : Tried46 F) (hr : F.rngL) : F.lin := ⟨by have := h.n; omega, fun x hx => ⟨hr.n x hx, by have := (h.x x hx).1; omega, by have := (h.x x hx).2; omega⟩, by have := h.r; omega, by have := h.w; omega, hr.r, hr.w⟩
theorem few46_ok {σ : AH O} {F : FV} {v : AV} (hF : F.At v) : Ok (law46_few [v] σ) fun r => (r.1 = .b false ∨ r.1 = .b true ∧ Tried46 F) ∧ Ext σ r.2 := by
 obtain ⟨a, b, c, rfl, h1, h2, h3⟩ := hF.it
 unfold law46_few law46_few_c
 refine Ok.cT rfl ?_
 refine Ok.to (x := [.sl a F.nodes.length, .sl b F.roots.length, .sl c F.weak.length]) rfl ?_
 refine Ok.to (x := (a, F.nodes.length)) rfl ?_
 refine Ok.to (x := (b, F.roots.length)) rfl ?_
 refine Ok.to (x := (c, F.weak.length)) rfl ?_
 obtain ⟨σ1, hσ1⟩ : ∃ s, (σ.bump 1).put σ.next (.cells true 25 [.sl a F.nodes.length, .sl b F.roots.length, .sl c F.weak.length]) = s := ⟨_, rfl⟩
 have b1 : σ1.blk σ.next = some (.cells true 25 [.sl a F.nodes.length, .sl b F.roots.length, .sl c F.weak.length]) := by rw [← hσ1]; exact s_bs
 have E1 : Ext σ σ1 := by rw [← hσ1]; exact ((Ext.refl σ).bump 1).put (Nat.le_refl _) _
 show Ok (bindS (loopF _ (_, (σ.bump 1).put σ.next (.cells true 25 [.sl a F.nodes.length, .sl b F.roots.length, .sl c F.weak.length]))) _) _
 rw [hσ1]
 clear hσ1
 refine Ok.bindS (Q := fun r => match r with
   | .inl s => s = ([], σ1) ∧ ∀ j, j < 20 → ∀ x, F.nodes[j]? = some x → x.P.length ≤ 20 ∧ x.R.length ≤ 20
   | .inr r => r = (.b false, σ1)) ?_ (fun s hs => ?_) (fun r hr => by rw [hr]; exact ⟨.inl rfl, E1⟩)
 ·refine Ok.count (min F.nodes.length 20) (fun k s => s = ([.i .i64 (k : Int)], σ1) ∧ ∀ j, j < k → ∀ x, F.nodes[j]? = some x → x.P.length ≤ 20 ∧ x.R.length ≤ 20) ?_ ?_ ⟨rfl, fun j hj => by omega⟩
  ·rintro k _ hk ⟨rfl, hI⟩
   have hkl : k < F.nodes.length := by omega
   have hx := List.getElem?_eq_getElem hkl
   obtain ⟨bb, oo, cc, dd, ea, ic, id, hld⟩ := Row.node h1 hx
   have hld := hld O σ1
   generalize F.nodes[k] = x at *
   have dk : decide ((k : Int) < (F.nodes.length : Int)) = true := decide_eq_true (by omega)
   have d20 : decide ((k : Int) < 20) = true := decide_eq_true (by omega)
   have d0 : decide ((0 : Int) ≤ (k : Int)) = true := decide_eq_true (by omega)
   have e1 : IntKind.i64.wrap ((k : Int) + 1) = ((k + 1 : Nat) : Int) := by rw [i64_id (by omega) (by omega)]; omega
   refine Ok.to (x := (k : Int)) rfl ?_
   refine Ok.to (x := .sl a F.nodes.length) (by simp -implicitDefEqProofs only [b1, Nat.reduceAdd, Nat.reduceMul, Nat.reduceLT, Int.reduceToNat, Int.reduceAdd, Int.reduceSub, Int.reduceMul, rsU, s_ldI, s_ldU, s_ldS, s_ldP, s_gtI, s_gtU, s_gtS, s_bleD, Nat.reduceLeDiff, decide_true, decide_false]) (Ok.to (x := (a, F.nodes.length)) rfl ?_)
   refine Ok.step (Q := fun r => r = ([.b true], σ1)) ?_ ?_
   ·exact Ok.cT (by rw [dk]; rfl) (Ok_some.2 (by rw [d20]))
   rintro _ rfl
   refine Ok.to (x := true) rfl ?_
   refine Ok.cT rfl ?_
   refine Ok.to (x := .sl a F.nodes.length) (by simp -implicitDefEqProofs only [b1, Nat.reduceAdd, Nat.reduceMul, Nat.reduceLT, Int.reduceToNat, Int.reduceAdd, Int.reduceSub, Int.reduceMul, rsU, s_ldI, s_ldU, s_ldS, s_ldP, s_gtI, s_gtU, s_gtS, s_bleD, Nat.reduceLeDiff, decide_true, decide_false]) (Ok.to (x := (a, F.nodes.length)) rfl ?_)
   refine Ok.cT (by rw [d0, dk]; rfl) ?_
   refine Ok.to (x := (bb, oo)) (by rw [ea]; rfl) ?_
   refine Ok.to (x := .sl cc x.P.length) hld.2.2.2.2.2.1 (Ok.to (x := (cc, x.P.length)) rfl ?_)
   refine Ok.step (Q := fun r => r = ([.b (decide ((x.P.length : Int) > 20) || decide ((x.R.length : Int) > 20))], σ1)) ?_ ?_
   ·cases hd : decide ((x.P.length : Int) > 20) with
    | true => exact Ok.cF rfl (Ok_some.2 rfl)
    | false =>
     refine Ok.cT rfl ?_
     refine Ok.to (x := .sl a F.nodes.length) (by simp -implicitDefEqProofs only [b1, Nat.reduceAdd, Nat.reduceMul, Nat.reduceLT, Int.reduceToNat, Int.reduceAdd, Int.reduceSub, Int.reduceMul, rsU, s_ldI, s_ldU, s_ldS, s_ldP, s_gtI, s_gtU, s_gtS, s_bleD, Nat.reduceLeDiff, decide_true, decide_false]) (Ok.to (x := (a, F.nodes.length)) rfl ?_)
     refine Ok.cT (by rw [d0, dk]; rfl) ?_
     refine Ok.to (x := (bb, oo)) (by rw [ea]; rfl) ?_
     refine Ok.to (x := .sl dd x.R.length) hld.2.2.2.2.2.2 (Ok.to (x := (dd, x.R.length)) rfl ?_)
     exact Ok_some.2 rfl
   rintro _ rfl
   refine Ok.to (x := (decide ((x.P.length : Int) > 20) || decide ((x.R.length : Int) > 20))) rfl ?_
   cases hd : (decide ((x.P.length : Int) > 20) || decide ((x.R.length : Int) > 20)) with
   | true => exact Ok.cT rfl (Ok_some.2 rfl)
   | false =>
    refine Ok.cF rfl (Ok_some.2 ⟨by rw [e1], fun j hj y hy => ?_⟩)
    rw [Bool.or_eq_false_iff, decide_eq_false_iff_not, decide_eq_false_iff_not] at hd
    by_cases e : j = k
    ·subst e
     rw [hx] at hy; cases hy; omega
    ·exact hI j (by omega) y hy
  ·rintro _ ⟨rfl, hI⟩
   have fin : ([], σ1) = (([], σ1) : List AV × AH O) ∧ ∀ j, j < 20 → ∀ x, F.nodes[j]? = some x → x.P.length ≤ 20 ∧ x.R.length ≤ 20 := ⟨rfl, fun j hj x hx => hI j (by have := (List.getElem?_eq_some_iff.1 hx).1; omega) x hx⟩
   refine Ok.to (x := ((min F.nodes.length 20 : Nat) : Int)) rfl ?_
   refine Ok.to (x := .sl a F.nodes.length) (by simp -implicitDefEqProofs only [b1, Nat.reduceAdd, Nat.reduceMul, Nat.reduceLT, Int.reduceToNat, Int.reduceAdd, Int.reduceSub, Int.reduceMul, rsU, s_ldI, s_ldU, s_ldS, s_ldP, s_gtI, s_gtU, s_gtS, s_bleD, Nat.reduceLeDiff, decide_true, decide_false]) (Ok.to (x := (a, F.nodes.length)) rfl ?_)
   refine Ok.step (Q := fun r => r = ([.b false], σ1)) ?_ ?_
   ·by_cases c : F.nodes.length ≤ 20
    ·exact Ok.cF (by rw [decide_eq_false (show ¬ ((min F.nodes.length 20 : Nat) : Int) < (F.nodes.length : Int) by omega)]; rfl) (Ok_some.2 rfl)
    ·exact Ok.cT (by rw [decide_eq_true (show ((min F.nodes.length 20 : Nat) : Int) < (F.nodes.length : Int) by omega)]; rfl) (Ok_some.2 (by rw [decide_eq_false (show ¬ ((min F.nodes.length 20 : Nat) : Int) < 20 by omega)]))
   rintro _ rfl
   refine Ok.to (x := false) rfl ?_
   exact Ok.cF rfl (Ok_some.2 fin)
 ·obtain ⟨rfl, hI⟩ := hs
  refine Ok.to (x := .sl a F.nodes.length) (by simp -implicitDefEqProofs only [b1, Nat.reduceAdd, Nat.reduceMul, Nat.reduceLT, Int.reduceToNat, Int.reduceAdd, Int.reduceSub, Int.reduceMul, rsU, s_ldI, s_ldU, s_ldS, s_ldP, s_gtI, s_gtU, s_gtS, s_bleD, Nat.reduceLeDiff, decide_true, decide_false]) (Ok.to (x := (a, F.nodes.length)) rfl ?_)
  refine Ok.step (Q := fun r => r = ([.b (decide ((F.nodes.length : Int) ≤ 20) && decide ((F.roots.length : Int) ≤ 20))], σ1)) ?_ ?_
  ·cases hd : decide ((F.nodes.length : Int) ≤ 20) with
   | false => exact Ok.cF rfl (Ok_some.2 rfl)
   | true =>
    refine Ok.cT rfl ?_
    refine Ok.to (x := .sl b F.roots.length) (by simp -implicitDefEqProofs only [b1, Nat.reduceAdd, Nat.reduceMul, Nat.reduceLT, Int.reduceToNat, Int.reduceAdd, Int.reduceSub, Int.reduceMul, rsU, s_ldI, s_ldU, s_ldS, s_ldP, s_gtI, s_gtU, s_gtS, s_bleD, Nat.reduceLeDiff, decide_true, decide_false]) (Ok.to (x := (b, F.roots.length)) rfl ?_)
    exact Ok_some.2 rfl
  rintro _ rfl
  refine Ok.to (x := (decide ((F.nodes.length : Int) ≤ 20) && decide ((F.roots.length : Int) ≤ 20))) rfl ?_
  generalize hd : (decide ((F.nodes.length : Int) ≤ 20) && decide ((F.roots.length : Int) ≤ 20)) = d at *
  refine Ok.step (Q := fun r => r = ([.b (d && decide ((F.weak.length : Int) ≤ 20))], σ1)) ?_ ?_
  ·cases d with
   | false => exact Ok.cF rfl (Ok_some.2 rfl)
   | true =>
    refine Ok.cT rfl ?_
    refine Ok.to (x := .sl c F.weak.length) (by simp -implicitDefEqProofs only [b1, Nat.reduceAdd, Nat.reduceMul, Nat.reduceLT, Int.reduceToNat, Int.reduceAdd, Int.reduceSub, Int.reduceMul, rsU, s_ldI, s_ldU, s_ldS, s_ldP, s_gtI, s_gtU, s_gtS, s_bleD, Nat.reduceLeDiff, decide_true, decide_false]) (Ok.to (x := (c, F.weak.length)) rfl ?_)
    exact Ok_some.2 rfl
  rintro _ rfl
  refine Ok.to (x := (d && decide ((F.weak.length : Int) ≤ 20))) rfl (Ok_some.2 ⟨?_, E1⟩)
  cases hb : (d && decide ((F.weak.length : Int) ≤ 20)) with
  | false => exact .inl rfl
  | true =>
   refine .inr ⟨rfl, ?_⟩
   rw [← hd, Bool.and_eq_true, Bool.and_eq_true, decide_eq_true_eq, decide_eq_true_eq, decide_eq_true_eq] at hb
   exact ⟨by omega, fun x hx => by
    obtain ⟨j, hj, rfl⟩ := List.getElem_of_mem hx
    exact hI j (by omega) _ (List.getElem?_eq_getElem hj), by omega, by omega⟩
theorem nil_lin : nilF.lin := by
 refine ⟨Nat.zero_le _, fun x hx => ?_, Nat.zero_le _, Nat.zero_le _, fun x hx => ?_, fun x hx => ?_⟩
 ·cases hx
 ·cases hx
 ·cases hx
theorem nil_parse : lparseT [114, 111, 111, 116, 115, 10, 119, 101, 97, 107, 10] = (nilF, 0, 0) := parse_form (F := nilF) (fun x hx => by cases hx) (fun x hx => by cases hx) (fun x hx => by cases hx) rfl
theorem awake46_ok {σ : AH O} : Ok (law46_awake [] σ) fun r => r.1 = .b true ∧ Ext σ r.2 := by
 unfold law46_awake law46_awake_c
 refine Ok.cT rfl ?_
 refine Ok.step (gparse_ok (by decide)) ?_
 rintro ⟨v, σ1⟩ ⟨v1, E1⟩
 simp only at v1 E1
 rw [nil_parse] at v1
 obtain ⟨f, rfl, hf⟩ := v1
 obtain ⟨a, b, c, rfl, i1, i2, i3⟩ := hf.it
 refine Ok.to (x := [.agg [.sl a 0, .sl b 0, .sl c 0], .i .i64 0, .i .i64 0]) rfl ?_
 refine Ok.to (x := [.sl a 0, .sl b 0, .sl c 0]) rfl ?_
 refine Ok.to (x := (a, 0)) rfl ?_
 refine Ok.to (x := (b, 0)) rfl ?_
 refine Ok.to (x := (c, 0)) rfl ?_
 refine Ok.to (x := 0) rfl ?_
 refine Ok.to (x := 0) rfl ?_
 have n1 : σ.next + 1 ≤ σ1.next := by simpa using E1.next
 have E1 : Ext σ σ1 := ((Ext.refl σ).bump 1).trans E1
 refine Ok.to (x := σ1.put σ.next (.cells true 25 [.sl a 0, .sl b 0, .sl c 0])) (by simp -implicitDefEqProofs only [Nat.reduceAdd, Nat.reduceMul, Nat.reduceLT, Int.reduceToNat, Int.reduceAdd, Int.reduceSub, Int.reduceMul, rsU, s_ldI, s_ldU, s_ldS, s_ldP, s_gtI, s_gtU, s_gtS, s_bleD, Nat.reduceLeDiff, decide_true, decide_false]) ?_
 have b2 : (σ1.put σ.next (.cells true 25 [.sl a 0, .sl b 0, .sl c 0])).blk σ.next = some (.cells true 25 [.sl a 0, .sl b 0, .sl c 0]) := s_bs
 have E2 : Ext σ (σ1.put σ.next (.cells true 25 [.sl a 0, .sl b 0, .sl c 0])) := E1.put (Nat.le_refl _) _
 have n2 : σ.next + 1 ≤ (σ1.put σ.next (.cells true 25 [.sl a 0, .sl b 0, .sl c 0])).next := n1
 generalize σ1.put σ.next (.cells true 25 [.sl a 0, .sl b 0, .sl c 0]) = σ2 at *
 refine Ok.step (gtext_ok nil_at nil_lin) ?_
 rintro ⟨v, σ3⟩ ⟨v1, E3⟩
 simp only at v1 E3
 subst v1
 have b3 : σ3.blk σ.next = some (.cells true 25 [.sl a 0, .sl b 0, .sl c 0]) := by rw [E3.blk _ (by omega)]; exact b2
 refine Ok.to (x := [114, 111, 111, 116, 115, 10, 119, 101, 97, 107, 10]) rfl ?_
 refine Ok.step (Q := fun r => r = ([.b true], σ3)) (Ok.cT rfl (Ok_some.2 rfl)) ?_
 rintro _ rfl
 refine Ok.to (x := true) rfl ?_
 refine Ok.step (Q := fun r => r = ([.b true], σ3)) (Ok.cT rfl (Ok_some.2 rfl)) ?_
 rintro _ rfl
 refine Ok.to (x := true) rfl ?_
 refine Ok.step (Q := fun r => r.1 = [.b true] ∧ Ext σ3 r.2) ?_ ?_
 ·refine Ok.cT rfl ?_
  refine Ok.to (x := .sl a 0) (by simp -implicitDefEqProofs only [b3, Nat.reduceAdd, Nat.reduceMul, Nat.reduceLT, Int.reduceToNat, Int.reduceAdd, Int.reduceSub, Int.reduceMul, rsU, s_ldI, s_ldU, s_ldS, s_ldP, s_gtI, s_gtU, s_gtS, s_bleD, Nat.reduceLeDiff, decide_true, decide_false]) (Ok.to (x := (a, 0)) rfl ?_)
  refine Ok.to (x := .sl b 0) (by simp -implicitDefEqProofs only [b3, Nat.reduceAdd, Nat.reduceMul, Nat.reduceLT, Int.reduceToNat, Int.reduceAdd, Int.reduceSub, Int.reduceMul, rsU, s_ldI, s_ldU, s_ldS, s_ldP, s_gtI, s_gtU, s_gtS, s_bleD, Nat.reduceLeDiff, decide_true, decide_false]) (Ok.to (x := (b, 0)) rfl ?_)
  refine Ok.to (x := .sl c 0) (by simp -implicitDefEqProofs only [b3, Nat.reduceAdd, Nat.reduceMul, Nat.reduceLT, Int.reduceToNat, Int.reduceAdd, Int.reduceSub, Int.reduceMul, rsU, s_ldI, s_ldU, s_ldS, s_ldP, s_gtI, s_gtU, s_gtS, s_bleD, Nat.reduceLeDiff, decide_true, decide_false]) (Ok.to (x := (c, 0)) rfl ?_)
  refine Ok.step (is_ok (F := nilF) (G := nilF) hf nil_at nil_lin.few nil_lin.few) ?_
  rintro ⟨v, σ4⟩ ⟨v1, E4⟩
  simp only at v1 E4
  subst v1
  exact Ok.to (x := true) (by simp) (Ok_some.2 ⟨rfl, E4⟩)
 ·rintro ⟨v, σ4⟩ ⟨v1, E4⟩
  simp only at v1 E4
  subst v1
  exact Ok.to (x := true) rfl (Ok_some.2 ⟨rfl, (E2.trans E3).trans E4⟩)
end Go.Abs.Tryd
namespace Go.Abs.Tryd
open Go Go.Abs
variable {O : Type}
theorem box_st {σ : AH O} {b el : Nat} {x y z x' y' z' : AV} : (σ.put b (.cells true el [x, y, z])).st (.n b) 0 [x', y', z'] = some (σ.put b (.cells true el [x', y', z'])) := by simp -implicitDefEqProofs only [Nat.reduceAdd, Nat.reduceMul, Nat.reduceLT, Int.reduceToNat, Int.reduceAdd, Int.reduceSub, Int.reduceMul, rsU, s_ldI, s_ldU, s_ldS, s_ldP, s_gtI, s_gtU, s_gtS, s_bleD, Nat.reduceLeDiff, decide_true, decide_false]
theorem text_few {F : FV} (h : Tried46 F) (hr : F.rngL) : (lformT F).length ≤ 90000 := by
 have hn := h.n
 have key : ∀ {N : List NV}, (∀ x ∈ N, x.rng ∧ x.P.length ≤ 20 ∧ x.R.length ≤ 20) → (N.flatMap fun x => lnodeT x ++ [10]).length ≤ N.length * 1100 := fun {N} h => by
  induction N with
  | nil => simp
  | cons x N ih =>
   have h1 := h x (by simp)
   have h2 := joinS_few 32 (lnodeW_few h1.1)
   have e : (lnodeW x).length = 4 + x.P.length + (x.R.length + 1) := by simp [lnodeW]; omega
   rw [e] at h2
   have h3 : (lnodeT x).length ≤ 1000 := by unfold lnodeT; omega
   have := ih fun y hy => h y (List.mem_cons_of_mem _ hy)
   simp only [List.flatMap_cons, List.length_append, List.length_cons, List.length_nil, Nat.add_mul]; omega
 have k1 := key (N := F.nodes) fun x hx => ⟨hr.n x hx, h.x x hx⟩
 have k2 := lnumsT_few (w := rootsB) hr.r (by have := h.r; omega) (by decide)
 have k3 := lnumsT_few (w := weakB) hr.w (by have := h.w; omega) (by decide)
 rw [lformT_flat]
 simp only [List.length_append, List.length_cons, List.length_nil]; omega
theorem right_shape {F : FV} (h : rightP F = true) : ∀ x ∈ F.nodes, (x.P.length : Int) = x.h.p ∧ (x.R.length : Int) = x.h.r := by
 have key : ∀ {N : List NV} {n i m : Int}, nodesR n i m N = true → ∀ x ∈ N, (x.P.length : Int) = x.h.p ∧ (x.R.length : Int) = x.h.r := fun {N} => by
  induction N with
  | nil => intro n i m _ x hx; cases hx
  | cons y N ih =>
   intro n i m h x hx
   rw [nodesR_cons, Bool.and_eq_true, Bool.and_eq_true, Bool.and_eq_true, Bool.and_eq_true, decide_eq_true_eq, decide_eq_true_eq, decide_eq_true_eq] at h
   obtain ⟨_, _, h1, h2, h3⟩ := h
   rcases List.mem_cons.1 hx with rfl | hx
   ·exact ⟨h1, h2⟩
   ·cases hm : meetP n 0 m y.P with
    | none => rw [hm] at h3; cases h3
    | some m' => rw [hm] at h3; exact ih h3 x hx
 unfold rightP at h
 rw [Bool.and_eq_true] at h
 cases hm : meetP F.nodes.length 1 0 F.roots with
 | none => rw [hm] at h; cases h.1
 | some m => rw [hm] at h; exact key h.1
theorem linesTexts_ok {σ : AH O} {F : FV} {v : AV} (hF : F.At v) (hr : F.rngL) : Ok (law46_LinesTexts [v] σ) fun r => r.1 = .b true := by
 have hF0 := hF
 obtain ⟨a, b, c, rfl, i1, i2, i3⟩ := hF.it
 unfold law46_LinesTexts law46_LinesTexts_c
 refine Ok.cT rfl ?_
 refine Ok.to (x := [.sl a F.nodes.length, .sl b F.roots.length, .sl c F.weak.length]) rfl ?_
 refine Ok.to (x := (a, F.nodes.length)) rfl ?_
 refine Ok.to (x := (b, F.roots.length)) rfl ?_
 refine Ok.to (x := (c, F.weak.length)) rfl ?_
 refine Ok.step awake46_ok ?_
 rintro ⟨v, σ2⟩ ⟨v1, E2⟩
 simp only at v1
 have n2 : σ.next + 1 ≤ σ2.next := by simpa using E2.next
 have d2 : σ2.blk σ.next = some (.cells true 25 [.sl a F.nodes.length, .sl b F.roots.length, .sl c F.weak.length]) := by rw [E2.blk _ (by simp)]; exact s_bs
 clear E2
 subst v1
 refine Ok.to (x := true) rfl ?_
 refine Ok.cF rfl ?_
 refine Ok.to (x := .sl a F.nodes.length) (by simp -implicitDefEqProofs only [d2, Nat.reduceAdd, Nat.reduceMul, Nat.reduceLT, Int.reduceToNat, Int.reduceAdd, Int.reduceSub, Int.reduceMul, rsU, s_ldI, s_ldU, s_ldS, s_ldP, s_gtI, s_gtU, s_gtS, s_bleD, Nat.reduceLeDiff, decide_true, decide_false]) (Ok.to (x := (a, F.nodes.length)) rfl ?_)
 refine Ok.to (x := .sl b F.roots.length) (by simp -implicitDefEqProofs only [d2, Nat.reduceAdd, Nat.reduceMul, Nat.reduceLT, Int.reduceToNat, Int.reduceAdd, Int.reduceSub, Int.reduceMul, rsU, s_ldI, s_ldU, s_ldS, s_ldP, s_gtI, s_gtU, s_gtS, s_bleD, Nat.reduceLeDiff, decide_true, decide_false]) (Ok.to (x := (b, F.roots.length)) rfl ?_)
 refine Ok.to (x := .sl c F.weak.length) (by simp -implicitDefEqProofs only [d2, Nat.reduceAdd, Nat.reduceMul, Nat.reduceLT, Int.reduceToNat, Int.reduceAdd, Int.reduceSub, Int.reduceMul, rsU, s_ldI, s_ldU, s_ldS, s_ldP, s_gtI, s_gtU, s_gtS, s_bleD, Nat.reduceLeDiff, decide_true, decide_false]) (Ok.to (x := (c, F.weak.length)) rfl ?_)
 refine Ok.step (few46_ok hF0) ?_
 rintro ⟨v, σ3⟩ ⟨v1, E3⟩
 simp only at v1 E3
 have n3 := E3.next
 have d3 : σ3.blk σ.next = some (.cells true 25 [.sl a F.nodes.length, .sl b F.roots.length, .sl c F.weak.length]) := by rw [E3.blk _ (by omega)]; exact d2
 clear E3
 rcases v1 with rfl | ⟨rfl, hT⟩
 ·exact Ok.to (x := false) rfl (Ok.cT rfl (Ok_some.2 rfl))
 have hlin := hT.lin hr
 refine Ok.to (x := true) rfl ?_
 refine Ok.cF rfl ?_
 refine Ok.to (x := .sl a F.nodes.length) (by simp -implicitDefEqProofs only [d3, Nat.reduceAdd, Nat.reduceMul, Nat.reduceLT, Int.reduceToNat, Int.reduceAdd, Int.reduceSub, Int.reduceMul, rsU, s_ldI, s_ldU, s_ldS, s_ldP, s_gtI, s_gtU, s_gtS, s_bleD, Nat.reduceLeDiff, decide_true, decide_false]) (Ok.to (x := (a, F.nodes.length)) rfl ?_)
 refine Ok.to (x := .sl b F.roots.length) (by simp -implicitDefEqProofs only [d3, Nat.reduceAdd, Nat.reduceMul, Nat.reduceLT, Int.reduceToNat, Int.reduceAdd, Int.reduceSub, Int.reduceMul, rsU, s_ldI, s_ldU, s_ldS, s_ldP, s_gtI, s_gtU, s_gtS, s_bleD, Nat.reduceLeDiff, decide_true, decide_false]) (Ok.to (x := (b, F.roots.length)) rfl ?_)
 refine Ok.to (x := .sl c F.weak.length) (by simp -implicitDefEqProofs only [d3, Nat.reduceAdd, Nat.reduceMul, Nat.reduceLT, Int.reduceToNat, Int.reduceAdd, Int.reduceSub, Int.reduceMul, rsU, s_ldI, s_ldU, s_ldS, s_ldP, s_gtI, s_gtU, s_gtS, s_bleD, Nat.reduceLeDiff, decide_true, decide_false]) (Ok.to (x := (c, F.weak.length)) rfl ?_)
 refine Ok.step (lref_ok hF0 hlin.few) ?_
 rintro ⟨v, σ4⟩ ⟨hG, E4⟩
 simp only at hG E4
 have n4 : σ3.next + 1 ≤ σ4.next := by simpa using E4.next
 have hG0 := hG
 obtain ⟨a2, b2, c2, rfl, j1, j2, j3⟩ := hG.it
 refine Ok.to (x := [.sl a2 F.nodes.length, .sl b2 F.roots.length, .sl c2 F.weak.length]) rfl ?_
 refine Ok.to (x := (a2, F.nodes.length)) rfl ?_
 refine Ok.to (x := (b2, F.roots.length)) rfl ?_
 refine Ok.to (x := (c2, F.weak.length)) rfl ?_
 refine Ok.to (x := σ4.put σ3.next (.cells true 30 [.sl a2 F.nodes.length, .sl b2 F.roots.length, .sl c2 F.weak.length])) box_st ?_
 obtain ⟨σ5, hσ5⟩ : ∃ s, σ4.put σ3.next (.cells true 30 [.sl a2 F.nodes.length, .sl b2 F.roots.length, .sl c2 F.weak.length]) = s := ⟨_, rfl⟩
 have d5 : σ5.blk σ.next = some (.cells true 25 [.sl a F.nodes.length, .sl b F.roots.length, .sl c F.weak.length]) := by rw [← hσ5, s_bn (by omega), E4.blk _ (by simp; omega)]; exact d3
 have g5 : σ5.blk σ3.next = some (.cells true 30 [.sl a2 F.nodes.length, .sl b2 F.roots.length, .sl c2 F.weak.length]) := by rw [← hσ5]; exact s_bs
 have n5 : σ5.next = σ4.next := by rw [← hσ5]; rfl
 rw [hσ5]
 clear hσ5 E4
 refine Ok.to (x := .sl a F.nodes.length) (by simp -implicitDefEqProofs only [d5, Nat.reduceAdd, Nat.reduceMul, Nat.reduceLT, Int.reduceToNat, Int.reduceAdd, Int.reduceSub, Int.reduceMul, rsU, s_ldI, s_ldU, s_ldS, s_ldP, s_gtI, s_gtU, s_gtS, s_bleD, Nat.reduceLeDiff, decide_true, decide_false]) (Ok.to (x := (a, F.nodes.length)) rfl ?_)
 refine Ok.to (x := .sl b F.roots.length) (by simp -implicitDefEqProofs only [d5, Nat.reduceAdd, Nat.reduceMul, Nat.reduceLT, Int.reduceToNat, Int.reduceAdd, Int.reduceSub, Int.reduceMul, rsU, s_ldI, s_ldU, s_ldS, s_ldP, s_gtI, s_gtU, s_gtS, s_bleD, Nat.reduceLeDiff, decide_true, decide_false]) (Ok.to (x := (b, F.roots.length)) rfl ?_)
 refine Ok.to (x := .sl c F.weak.length) (by simp -implicitDefEqProofs only [d5, Nat.reduceAdd, Nat.reduceMul, Nat.reduceLT, Int.reduceToNat, Int.reduceAdd, Int.reduceSub, Int.reduceMul, rsU, s_ldI, s_ldU, s_ldS, s_ldP, s_gtI, s_gtU, s_gtS, s_bleD, Nat.reduceLeDiff, decide_true, decide_false]) (Ok.to (x := (c, F.weak.length)) rfl ?_)
 refine Ok.step (gtext_ok hF0 hlin) ?_
 rintro ⟨v, σ6⟩ ⟨v1, E6⟩
 simp only at v1 E6
 subst v1
 have n6 := E6.next
 have g6 : σ6.blk σ3.next = some (.cells true 30 [.sl a2 F.nodes.length, .sl b2 F.roots.length, .sl c2 F.weak.length]) := by rw [E6.blk _ (by omega)]; exact g5
 clear E6
 refine Ok.to (x := if rightP F = true then lformT F else []) rfl ?_
 refine Ok.to (x := .sl a2 F.nodes.length) (by simp -implicitDefEqProofs only [g6, Nat.reduceAdd, Nat.reduceMul, Nat.reduceLT, Int.reduceToNat, Int.reduceAdd, Int.reduceSub, Int.reduceMul, rsU, s_ldI, s_ldU, s_ldS, s_ldP, s_gtI, s_gtU, s_gtS, s_bleD, Nat.reduceLeDiff, decide_true, decide_false]) (Ok.to (x := (a2, F.nodes.length)) rfl ?_)
 refine Ok.to (x := .sl b2 F.roots.length) (by simp -implicitDefEqProofs only [g6, Nat.reduceAdd, Nat.reduceMul, Nat.reduceLT, Int.reduceToNat, Int.reduceAdd, Int.reduceSub, Int.reduceMul, rsU, s_ldI, s_ldU, s_ldS, s_ldP, s_gtI, s_gtU, s_gtS, s_bleD, Nat.reduceLeDiff, decide_true, decide_false]) (Ok.to (x := (b2, F.roots.length)) rfl ?_)
 refine Ok.to (x := .sl c2 F.weak.length) (by simp -implicitDefEqProofs only [g6, Nat.reduceAdd, Nat.reduceMul, Nat.reduceLT, Int.reduceToNat, Int.reduceAdd, Int.reduceSub, Int.reduceMul, rsU, s_ldI, s_ldU, s_ldS, s_ldP, s_gtI, s_gtU, s_gtS, s_bleD, Nat.reduceLeDiff, decide_true, decide_false]) (Ok.to (x := (c2, F.weak.length)) rfl ?_)
 refine Ok.step (rright_ok (FRd.im hG0 _) hlin.few) ?_
 rintro ⟨v, σ7⟩ ⟨v1, E7⟩
 simp only at v1 E7
 subst v1
 have n7 := E7.next
 have g7 : σ7.blk σ3.next = some (.cells true 30 [.sl a2 F.nodes.length, .sl b2 F.roots.length, .sl c2 F.weak.length]) := by rw [E7.blk _ (by omega)]; exact g6
 clear E7
 refine Ok.to (x := rightP F) rfl ?_
 cases hR : rightP F with
 | false =>
  refine Ok.cT rfl (Ok_some.2 ?_)
  rfl
 | true =>
  refine Ok.cF rfl ?_
  have hs := right_shape hR
  have hp : lparseT (lformT F) = (F, 0, 0) := parse_form (fun x hx => ⟨hr.n x hx, hs x hx⟩) hr.r hr.w hR
  refine Ok.step (gparse_ok (t := lformT F) (text_few hT hr)) ?_
  rintro ⟨v, σ8⟩ ⟨v1, E8⟩
  simp only at v1 E8
  rw [hp] at v1
  obtain ⟨f, rfl, hH⟩ := v1
  have hH0 := hH
  obtain ⟨a3, b3, c3, rfl, k1, k2, k3⟩ := hH.it
  have n8 : σ7.next + 1 ≤ σ8.next := by simpa using E8.next
  refine Ok.to (x := [.agg [.sl a3 F.nodes.length, .sl b3 F.roots.length, .sl c3 F.weak.length], .i .i64 0, .i .i64 0]) rfl ?_
  refine Ok.to (x := [.sl a3 F.nodes.length, .sl b3 F.roots.length, .sl c3 F.weak.length]) rfl ?_
  refine Ok.to (x := (a3, F.nodes.length)) rfl ?_
  refine Ok.to (x := (b3, F.roots.length)) rfl ?_
  refine Ok.to (x := (c3, F.weak.length)) rfl ?_
  refine Ok.to (x := 0) rfl ?_
  refine Ok.to (x := 0) rfl ?_
  refine Ok.to (x := σ8.put σ7.next (.cells true 25 [.sl a3 F.nodes.length, .sl b3 F.roots.length, .sl c3 F.weak.length])) box_st ?_
  obtain ⟨σ9, hσ9⟩ : ∃ s, σ8.put σ7.next (.cells true 25 [.sl a3 F.nodes.length, .sl b3 F.roots.length, .sl c3 F.weak.length]) = s := ⟨_, rfl⟩
  have g9 : σ9.blk σ3.next = some (.cells true 30 [.sl a2 F.nodes.length, .sl b2 F.roots.length, .sl c2 F.weak.length]) := by rw [← hσ9, s_bn (by omega), E8.blk _ (by simp; omega)]; exact g7
  have f9 : σ9.blk σ7.next = some (.cells true 25 [.sl a3 F.nodes.length, .sl b3 F.roots.length, .sl c3 F.weak.length]) := by rw [← hσ9]; exact s_bs
  have n9 : σ9.next = σ8.next := by rw [← hσ9]; rfl
  rw [hσ9]
  clear hσ9 E8
  refine Ok.to (x := .sl a2 F.nodes.length) (by simp -implicitDefEqProofs only [g9, Nat.reduceAdd, Nat.reduceMul, Nat.reduceLT, Int.reduceToNat, Int.reduceAdd, Int.reduceSub, Int.reduceMul, rsU, s_ldI, s_ldU, s_ldS, s_ldP, s_gtI, s_gtU, s_gtS, s_bleD, Nat.reduceLeDiff, decide_true, decide_false]) (Ok.to (x := (a2, F.nodes.length)) rfl ?_)
  refine Ok.to (x := .sl b2 F.roots.length) (by simp -implicitDefEqProofs only [g9, Nat.reduceAdd, Nat.reduceMul, Nat.reduceLT, Int.reduceToNat, Int.reduceAdd, Int.reduceSub, Int.reduceMul, rsU, s_ldI, s_ldU, s_ldS, s_ldP, s_gtI, s_gtU, s_gtS, s_bleD, Nat.reduceLeDiff, decide_true, decide_false]) (Ok.to (x := (b2, F.roots.length)) rfl ?_)
  refine Ok.to (x := .sl c2 F.weak.length) (by simp -implicitDefEqProofs only [g9, Nat.reduceAdd, Nat.reduceMul, Nat.reduceLT, Int.reduceToNat, Int.reduceAdd, Int.reduceSub, Int.reduceMul, rsU, s_ldI, s_ldU, s_ldS, s_ldP, s_gtI, s_gtU, s_gtS, s_bleD, Nat.reduceLeDiff, decide_true, decide_false]) (Ok.to (x := (c2, F.weak.length)) rfl ?_)
  refine Ok.step (rtext_ok hG0 hlin) ?_
  rintro ⟨v, σ10⟩ ⟨v1, E10⟩
  simp only at v1 E10
  subst v1
  have g10 : σ10.blk σ3.next = some (.cells true 30 [.sl a2 F.nodes.length, .sl b2 F.roots.length, .sl c2 F.weak.length]) := by rw [E10.blk _ (by omega)]; exact g9
  have f10 : σ10.blk σ7.next = some (.cells true 25 [.sl a3 F.nodes.length, .sl b3 F.roots.length, .sl c3 F.weak.length]) := by rw [E10.blk _ (by omega)]; exact f9
  refine Ok.to (x := lformT F) rfl ?_
  refine Ok.step (Q := fun r => r.1 = [.b true]) ?_ ?_
  ·refine Ok.cT (by rw [if_pos rfl, beq_self_eq_true]; rfl) ?_
   refine Ok.to (x := .sl a3 F.nodes.length) (by simp -implicitDefEqProofs only [f10, Nat.reduceAdd, Nat.reduceMul, Nat.reduceLT, Int.reduceToNat, Int.reduceAdd, Int.reduceSub, Int.reduceMul, rsU, s_ldI, s_ldU, s_ldS, s_ldP, s_gtI, s_gtU, s_gtS, s_bleD, Nat.reduceLeDiff, decide_true, decide_false]) (Ok.to (x := (a3, F.nodes.length)) rfl ?_)
   refine Ok.to (x := .sl b3 F.roots.length) (by simp -implicitDefEqProofs only [f10, Nat.reduceAdd, Nat.reduceMul, Nat.reduceLT, Int.reduceToNat, Int.reduceAdd, Int.reduceSub, Int.reduceMul, rsU, s_ldI, s_ldU, s_ldS, s_ldP, s_gtI, s_gtU, s_gtS, s_bleD, Nat.reduceLeDiff, decide_true, decide_false]) (Ok.to (x := (b3, F.roots.length)) rfl ?_)
   refine Ok.to (x := .sl c3 F.weak.length) (by simp -implicitDefEqProofs only [f10, Nat.reduceAdd, Nat.reduceMul, Nat.reduceLT, Int.reduceToNat, Int.reduceAdd, Int.reduceSub, Int.reduceMul, rsU, s_ldI, s_ldU, s_ldS, s_ldP, s_gtI, s_gtU, s_gtS, s_bleD, Nat.reduceLeDiff, decide_true, decide_false]) (Ok.to (x := (c3, F.weak.length)) rfl ?_)
   refine Ok.to (x := .sl a2 F.nodes.length) (by simp -implicitDefEqProofs only [g10, Nat.reduceAdd, Nat.reduceMul, Nat.reduceLT, Int.reduceToNat, Int.reduceAdd, Int.reduceSub, Int.reduceMul, rsU, s_ldI, s_ldU, s_ldS, s_ldP, s_gtI, s_gtU, s_gtS, s_bleD, Nat.reduceLeDiff, decide_true, decide_false]) (Ok.to (x := (a2, F.nodes.length)) rfl ?_)
   refine Ok.to (x := .sl b2 F.roots.length) (by simp -implicitDefEqProofs only [g10, Nat.reduceAdd, Nat.reduceMul, Nat.reduceLT, Int.reduceToNat, Int.reduceAdd, Int.reduceSub, Int.reduceMul, rsU, s_ldI, s_ldU, s_ldS, s_ldP, s_gtI, s_gtU, s_gtS, s_bleD, Nat.reduceLeDiff, decide_true, decide_false]) (Ok.to (x := (b2, F.roots.length)) rfl ?_)
   refine Ok.to (x := .sl c2 F.weak.length) (by simp -implicitDefEqProofs only [g10, Nat.reduceAdd, Nat.reduceMul, Nat.reduceLT, Int.reduceToNat, Int.reduceAdd, Int.reduceSub, Int.reduceMul, rsU, s_ldI, s_ldU, s_ldS, s_ldP, s_gtI, s_gtU, s_gtS, s_bleD, Nat.reduceLeDiff, decide_true, decide_false]) (Ok.to (x := (c2, F.weak.length)) rfl ?_)
   refine Ok.step (is_ok hH0 hG0 hlin.few hlin.few) ?_
   rintro ⟨v, σ11⟩ ⟨v1, E11⟩
   simp only at v1
   subst v1
   exact Ok.to (x := true) (by simp) (Ok_some.2 rfl)
  rintro ⟨v, σ11⟩ v1
  simp only at v1
  subst v1
  refine Ok.to (x := true) rfl ?_
  refine Ok.step (Q := fun r => r = ([.b true], σ11)) (Ok.cT rfl (Ok_some.2 rfl)) ?_
  rintro _ rfl
  refine Ok.to (x := true) rfl ?_
  refine Ok.step (Q := fun r => r = ([.b true], σ11)) (Ok.cT rfl (Ok_some.2 rfl)) ?_
  rintro _ rfl
  exact Ok.to (x := true) rfl (Ok_some.2 rfl)
end Go.Abs.Tryd
