/-
  Forms as texts: lines.Text, haymowref46.Text. No conditions.
-/
import Derived.Test.YtgddikandbkmpaaDoorU11
import Derived.Test.YtgddikandbkmpaaDoorM12
set_option linter.unusedVariables false
set_option linter.unusedSimpArgs false
set_option linter.constructorNameAsVariable false
set_option linter.unusedSimpArgs false
set_option linter.unusedVariables false
set_option maxHeartbeats 2000000
namespace Go.Abs.Tryd
open Go Go.Abs
variable {O : Type}
theorem joinS_flat (r w : Bs) : ∀ ws : List Bs, joinS 10 (ws ++ [r, w, []]) = ws.flatMap (· ++ [10]) ++ r ++ [10] ++ w ++ [10]
  | [] => by simp [joinS]
  | v :: ws => by
    rw [List.cons_append, joinS_cons 10 v (by simp), joinS_flat r w ws]; simp
theorem lformT_flat (F : FV) : lformT F = F.nodes.flatMap (fun x => lnodeT x ++ [10]) ++ lnumsT rootsB F.roots ++ [10] ++ lnumsT weakB F.weak ++ [10] := by
  unfold lformT lformL
  rw [joinS_flat, List.flatMap_map]
structure _root_.Go.Abs.FV.lin (F : FV) : Prop where
  n : F.nodes.length ≤ 1300
  x : ∀ x ∈ F.nodes, x.rng ∧ x.P.length ≤ 1200 ∧ x.R.length ≤ 1200
  r : F.roots.length ≤ 1200
  w : F.weak.length ≤ 1200
  ri : ∀ n ∈ F.roots, I64 n
  wi : ∀ n ∈ F.weak, I64 n
theorem _root_.Go.Abs.FV.lin.few {F : FV} (h : F.lin) : F.few := ⟨by have := h.n; omega, fun x hx => ⟨by have := (h.x x hx).2.1; omega, by have := (h.x x hx).2.2; omega⟩, by have := h.r; omega, by have := h.w; omega⟩
theorem flat_few {N : List NV} (h : ∀ x ∈ N, x.rng ∧ x.P.length ≤ 1200 ∧ x.R.length ≤ 1200) : (N.flatMap fun x => lnodeT x ++ [10]).length ≤ N.length * 60001 := by
  induction N with
  | nil => simp
  | cons x N ih =>
    have h1 := h x (by simp)
    have := lnodeT_few h1.1 h1.2.1 h1.2.2
    have := ih fun y hy => h y (List.mem_cons_of_mem _ hy)
    simp only [List.flatMap_cons, List.length_append, List.length_cons, List.length_nil, Nat.add_mul]; omega
theorem XLgt_ok {σ1 : AH O} {v0 : AV} {a : SA} {N : List NV} {σ : AH O} (hN : Nodes a N) (hx : ∀ x ∈ N, x.rng ∧ x.P.length ≤ 1200 ∧ x.R.length ≤ 1200) (hn : N.length ≤ 1300) (L0 : Low σ1.next σ1 σ) (B0 : BldS σ σ1.next []) :
    Ok (loopF (S := List AV × AH O) (T := List AV × AH O) (lines_Text_L1 (a, N.length) lines_node __strings_Builder__WriteString (v0, σ1) __strings_Builder__WriteByte) ([.i .i64 0], σ)) fun r => r.1 = [] ∧ Low σ1.next σ1 r.2 ∧ BldS r.2 σ1.next (N.flatMap fun x => lnodeT x ++ [10]) := by
  refine Ok.count N.length (fun k q => ∃ σ', q = ([.i .i64 (k : Int)], σ') ∧ Low σ1.next σ1 σ' ∧ BldS σ' σ1.next ((N.take k).flatMap fun x => lnodeT x ++ [10])) ?_ ?_ ⟨_, rfl, L0, by simpa using B0⟩
  · rintro k _ hk ⟨σ', rfl, L, B⟩
    have hk1 : N[k]? = some N[k] := List.getElem?_eq_getElem hk
    have hm := hx _ (List.getElem_mem hk)
    have htk : N.take (k + 1) = N.take k ++ [N[k]] := by rw [List.take_add_one, hk1]; rfl
    have few := flat_few (N := N.take k) fun x h => hx x (List.mem_of_mem_take h)
    have ltk : (N.take k).length = k := by rw [List.length_take]; omega
    rw [ltk] at few
    generalize N[k] = x at *
    obtain ⟨bb, oo, cc, dd, rfl, ic, id, hld⟩ := Row.node hN hk1
    have hld := fun σ => hld O σ
    have dk : decide ((k : Int) < (N.length : Int)) = true := decide_eq_true (by omega)
    have d0 : decide ((0 : Int) ≤ (k : Int)) = true := decide_eq_true (by omega)
    have e1 : IntKind.i64.wrap ((k : Int) + 1) = ((k + 1 : Nat) : Int) := by rw [i64_id (by omega) (by omega)]; omega
    have lt := lnodeT_few hm.1 hm.2.1 hm.2.2
    refine Ok.to (x := (k : Int)) rfl ?_
    refine Ok.cT dk ?_
    refine Ok.cT (by rw [d0, dk]; rfl) ?_
    refine Ok.to (x := (bb, oo)) rfl ?_
    refine Ok.to (x := .i .i64 x.h.p) ((hld _).1) (Ok.to (x := x.h.p) rfl ?_)
    refine Ok.to (x := .i .i64 x.h.r) ((hld _).2.1) (Ok.to (x := x.h.r) rfl ?_)
    refine Ok.to (x := .i .i64 x.h.site) ((hld _).2.2.1) (Ok.to (x := x.h.site) rfl ?_)
    refine Ok.to (x := .i .i64 x.h.age) ((hld _).2.2.2.1) (Ok.to (x := x.h.age) rfl ?_)
    refine Ok.to (x := .b x.h.large) ((hld _).2.2.2.2.1) (Ok.to (x := x.h.large) rfl ?_)
    refine Ok.to (x := .sl cc x.P.length) ((hld _).2.2.2.2.2.1) (Ok.to (x := (cc, x.P.length)) rfl ?_)
    refine Ok.to (x := .sl dd x.R.length) ((hld _).2.2.2.2.2.2) (Ok.to (x := (dd, x.R.length)) rfl ?_)
    generalize hσ3 : (σ'.bump 1).put σ'.next (.cells true 48 [.i .i64 x.h.p, .i .i64 x.h.r, .i .i64 x.h.site, .i .i64 x.h.age, .b x.h.large, .sl cc x.P.length, .sl dd x.R.length]) = σ3
    have hst : ((σ'.bump 1).put σ'.next (.cells true 48 [.i .i64 0, .i .i64 0, .i .i64 0, .i .i64 0, .b false, .sl .nil 0, .sl .nil 0])).st (.n σ'.next) 0 [.i .i64 x.h.p, .i .i64 x.h.r, .i .i64 x.h.site, .i .i64 x.h.age, .b x.h.large, .sl cc x.P.length, .sl dd x.R.length] = some σ3 := by
      rw [← hσ3]
      simp -implicitDefEqProofs only [Nat.reduceAdd, Nat.reduceMul, Nat.reduceLT, Int.reduceToNat, Int.reduceAdd, Int.reduceSub, Int.reduceMul, rsU, s_ldI, s_ldU, s_ldS, s_ldP, s_gtI, s_gtU, s_gtS, s_bleD, Nat.reduceLeDiff, decide_true, decide_false]
    refine Ok.to (x := σ3) hst ?_
    have c3 : σ3.blk σ'.next = some (.cells true 48 [.i .i64 x.h.p, .i .i64 x.h.r, .i .i64 x.h.site, .i .i64 x.h.age, .b x.h.large, .sl cc x.P.length, .sl dd x.R.length]) := by rw [← hσ3]; exact s_bs
    have E3 : Ext σ' σ3 := by rw [← hσ3]; exact ((Ext.refl σ').bump 1).put (Nat.le_refl _) _
    refine Ok.to (x := .i .i64 x.h.p) (by simp -implicitDefEqProofs only [c3, Nat.reduceAdd, Nat.reduceMul, Nat.reduceLT, Int.reduceToNat, Int.reduceAdd, Int.reduceSub, Int.reduceMul, rsU, s_ldI, s_ldU, s_ldS, s_ldP, s_gtI, s_gtU, s_gtS, s_bleD, Nat.reduceLeDiff, decide_true, decide_false]) (Ok.to (x := x.h.p) rfl ?_)
    refine Ok.to (x := .i .i64 x.h.r) (by simp -implicitDefEqProofs only [c3, Nat.reduceAdd, Nat.reduceMul, Nat.reduceLT, Int.reduceToNat, Int.reduceAdd, Int.reduceSub, Int.reduceMul, rsU, s_ldI, s_ldU, s_ldS, s_ldP, s_gtI, s_gtU, s_gtS, s_bleD, Nat.reduceLeDiff, decide_true, decide_false]) (Ok.to (x := x.h.r) rfl ?_)
    refine Ok.to (x := .i .i64 x.h.site) (by simp -implicitDefEqProofs only [c3, Nat.reduceAdd, Nat.reduceMul, Nat.reduceLT, Int.reduceToNat, Int.reduceAdd, Int.reduceSub, Int.reduceMul, rsU, s_ldI, s_ldU, s_ldS, s_ldP, s_gtI, s_gtU, s_gtS, s_bleD, Nat.reduceLeDiff, decide_true, decide_false]) (Ok.to (x := x.h.site) rfl ?_)
    refine Ok.to (x := .i .i64 x.h.age) (by simp -implicitDefEqProofs only [c3, Nat.reduceAdd, Nat.reduceMul, Nat.reduceLT, Int.reduceToNat, Int.reduceAdd, Int.reduceSub, Int.reduceMul, rsU, s_ldI, s_ldU, s_ldS, s_ldP, s_gtI, s_gtU, s_gtS, s_bleD, Nat.reduceLeDiff, decide_true, decide_false]) (Ok.to (x := x.h.age) rfl ?_)
    refine Ok.to (x := .b x.h.large) (by simp -implicitDefEqProofs only [c3, Nat.reduceAdd, Nat.reduceMul, Nat.reduceLT, Int.reduceToNat, Int.reduceAdd, Int.reduceSub, Int.reduceMul, rsU, s_ldI, s_ldU, s_ldS, s_ldP, s_gtI, s_gtU, s_gtS, s_bleD, Nat.reduceLeDiff, decide_true, decide_false]) (Ok.to (x := x.h.large) rfl ?_)
    refine Ok.to (x := .sl cc x.P.length) (by simp -implicitDefEqProofs only [c3, Nat.reduceAdd, Nat.reduceMul, Nat.reduceLT, Int.reduceToNat, Int.reduceAdd, Int.reduceSub, Int.reduceMul, rsU, s_ldI, s_ldU, s_ldS, s_ldP, s_gtI, s_gtU, s_gtS, s_bleD, Nat.reduceLeDiff, decide_true, decide_false]) (Ok.to (x := (cc, x.P.length)) rfl ?_)
    refine Ok.to (x := .sl dd x.R.length) (by simp -implicitDefEqProofs only [c3, Nat.reduceAdd, Nat.reduceMul, Nat.reduceLT, Int.reduceToNat, Int.reduceAdd, Int.reduceSub, Int.reduceMul, rsU, s_ldI, s_ldU, s_ldS, s_ldP, s_gtI, s_gtU, s_gtS, s_bleD, Nat.reduceLeDiff, decide_true, decide_false]) (Ok.to (x := (dd, x.R.length)) rfl ?_)
    refine Ok.step (gnode_ok (x := x) ic id hm.1 hm.2.1 hm.2.2) ?_
    rintro ⟨v, σ4⟩ ⟨v1, E4⟩
    simp only at v1 E4
    subst v1
    refine Ok.to (x := lnodeT x) rfl ?_
    have E4 := E3.trans E4
    refine Ok.step (bstr_ok (B.ext E4) (s := lnodeT x) (by omega)) ?_
    rintro ⟨v, σ5⟩ ⟨v1, L5, B5⟩
    simp only at v1 L5 B5
    subst v1
    refine Ok.to (x := [.i .i64 (lnodeT x).length, .nifc]) rfl ?_
    refine Ok.to (x := ((lnodeT x).length : Int)) rfl ?_
    refine Ok.step (bbyte_ok (c := 10) B5 (by simp only [List.length_append]; omega)) ?_
    rintro ⟨v, σ6⟩ ⟨v1, L6, B6⟩
    simp only at v1 L6 B6
    refine Ok_some.2 ⟨σ6, by rw [e1], ((L.trans (Low.of L.next E4)).trans L5).trans L6, ?_⟩
    rw [htk, List.flatMap_append]
    simpa using B6
  · rintro _ ⟨σ', rfl, L, B⟩
    refine Ok.to (x := (N.length : Int)) rfl ?_
    refine Ok.cF (decide_eq_false (by omega)) (Ok_some.2 ⟨rfl, L, ?_⟩)
    rw [List.take_length] at B; exact B
theorem gtext_ok {σ : AH O} {F : FV} {v : AV} (hF : F.At v) (hl : F.lin) : Ok (lines_Text [v] σ) fun r => r.1 = .s (if rightP F = true then lformT F else []) ∧ Ext σ r.2 := by
  have hF0 := hF
  obtain ⟨a, b, c, rfl, iN, iR, iW⟩ := hF.it
  unfold lines_Text lines_Text_c
  refine Ok.cT rfl ?_
  refine Ok.to (x := [.sl a F.nodes.length, .sl b F.roots.length, .sl c F.weak.length]) rfl ?_
  refine Ok.to (x := (a, F.nodes.length)) rfl ?_
  refine Ok.to (x := (b, F.roots.length)) rfl ?_
  refine Ok.to (x := (c, F.weak.length)) rfl ?_
  refine Ok.to (x := .sl a F.nodes.length) (by simp -implicitDefEqProofs only [Nat.reduceAdd, Nat.reduceMul, Nat.reduceLT, Int.reduceToNat, Int.reduceAdd, Int.reduceSub, Int.reduceMul, rsU, s_ldI, s_ldU, s_ldS, s_ldP, s_gtI, s_gtU, s_gtS, s_bleD, Nat.reduceLeDiff, decide_true, decide_false]) (Ok.to (x := (a, F.nodes.length)) rfl ?_)
  refine Ok.to (x := .sl b F.roots.length) (by simp -implicitDefEqProofs only [Nat.reduceAdd, Nat.reduceMul, Nat.reduceLT, Int.reduceToNat, Int.reduceAdd, Int.reduceSub, Int.reduceMul, rsU, s_ldI, s_ldU, s_ldS, s_ldP, s_gtI, s_gtU, s_gtS, s_bleD, Nat.reduceLeDiff, decide_true, decide_false]) (Ok.to (x := (b, F.roots.length)) rfl ?_)
  refine Ok.to (x := .sl c F.weak.length) (by simp -implicitDefEqProofs only [Nat.reduceAdd, Nat.reduceMul, Nat.reduceLT, Int.reduceToNat, Int.reduceAdd, Int.reduceSub, Int.reduceMul, rsU, s_ldI, s_ldU, s_ldS, s_ldP, s_gtI, s_gtU, s_gtS, s_bleD, Nat.reduceLeDiff, decide_true, decide_false]) (Ok.to (x := (c, F.weak.length)) rfl ?_)
  generalize hσ2 : (σ.bump 1).put σ.next _ = σ2
  have b2 : σ2.blk σ.next = some (.cells true 25 [.sl a F.nodes.length, .sl b F.roots.length, .sl c F.weak.length]) := by rw [← hσ2]; exact s_bs
  have E2 : Ext σ σ2 := by rw [← hσ2]; exact ((Ext.refl σ).bump 1).put (Nat.le_refl _) _
  have n2 : σ2.next = σ.next + 1 := by rw [← hσ2]; rfl
  clear hσ2
  refine Ok.step (right_ok (FRd.im hF0 _) hl.few) ?_
  rintro ⟨v, σ3⟩ ⟨v1, E3⟩
  simp only at v1 E3
  subst v1
  refine Ok.to (x := rightP F) rfl ?_
  cases hR : rightP F with
  | false => exact Ok.cT rfl (Ok_some.2 ⟨by simp, E2.trans E3⟩)
  | true =>
    rw [if_pos rfl]
    refine Ok.cF rfl ?_
    have n3 := E3.next
    have b3 : σ3.blk σ.next = some (.cells true 25 [.sl a F.nodes.length, .sl b F.roots.length, .sl c F.weak.length]) := by rw [E3.blk _ (by omega)]; exact b2
    have b3' : ∀ y, (((σ3.bump 1)).put σ3.next y).blk σ.next = some (.cells true 25 [.sl a F.nodes.length, .sl b F.roots.length, .sl c F.weak.length]) := fun y => by rw [s_bn (by omega)]; exact b3
    refine Ok.to (x := .sl a F.nodes.length) (by simp -implicitDefEqProofs only [b3', Nat.reduceAdd, Nat.reduceMul, Nat.reduceLT, Int.reduceToNat, Int.reduceAdd, Int.reduceSub, Int.reduceMul, rsU, s_ldI, s_ldU, s_ldS, s_ldP, s_gtI, s_gtU, s_gtS, s_bleD, Nat.reduceLeDiff, decide_true, decide_false]) (Ok.to (x := (a, F.nodes.length)) rfl ?_)
    have hfl := flat_few hl.x
    have hn := hl.n
    refine Ok.step (XLgt_ok (σ1 := σ3) iN hl.x hl.n ⟨by simp, fun k hk => by show ((σ3.bump 1).put σ3.next _).blk k = _; rw [s_bn (Nat.ne_of_lt hk)]; rfl⟩ (BldS.new s_bs (by simp))) ?_
    rintro ⟨v, σ4⟩ ⟨v1, L4, B4⟩
    simp only at v1 L4 B4
    subst v1
    have b4 : σ4.blk σ.next = some (.cells true 25 [.sl a F.nodes.length, .sl b F.roots.length, .sl c F.weak.length]) := by rw [L4.blk _ (by omega)]; exact b3
    refine Ok.to (x := .sl b F.roots.length) (by simp -implicitDefEqProofs only [b4, Nat.reduceAdd, Nat.reduceMul, Nat.reduceLT, Int.reduceToNat, Int.reduceAdd, Int.reduceSub, Int.reduceMul, rsU, s_ldI, s_ldU, s_ldS, s_ldP, s_gtI, s_gtU, s_gtS, s_bleD, Nat.reduceLeDiff, decide_true, decide_false]) (Ok.to (x := (b, F.roots.length)) rfl ?_)
    have hTF := lformT_flat F
    generalize (F.nodes.flatMap fun x => lnodeT x ++ [10]) = t1 at *
    refine Ok.step (gnumbers_ok (w := rootsB) iR hl.ri hl.r (by decide)) ?_
    rintro ⟨v, σ5⟩ ⟨v1, E5⟩
    simp only at v1 E5
    subst v1
    have fr := lnumsT_few (w := rootsB) hl.ri hl.r (by decide)
    have fw := lnumsT_few (w := weakB) hl.wi hl.w (by decide)
    generalize lnumsT rootsB F.roots = t2 at *
    refine Ok.to (x := t2) rfl ?_
    refine Ok.step (bstr_ok (B4.ext E5) (s := t2) (by omega)) ?_
    rintro ⟨v, σ6⟩ ⟨v1, L6, B6⟩
    simp only at v1 L6 B6
    subst v1
    refine Ok.to (x := [.i .i64 t2.length, .nifc]) rfl ?_
    refine Ok.to (x := (t2.length : Int)) rfl ?_
    have f6 : (t1 ++ t2).length ≤ 100000000 := by simp only [List.length_append]; omega
    generalize t1 ++ t2 = t3 at *
    refine Ok.step (bbyte_ok (c := 10) B6 (by omega)) ?_
    rintro ⟨v, σ7⟩ ⟨v1, L7, B7⟩
    simp only at v1 L7 B7
    have f7 : (t3 ++ [10]).length ≤ 100000001 := by simp; omega
    have b7 : σ7.blk σ.next = some (.cells true 25 [.sl a F.nodes.length, .sl b F.roots.length, .sl c F.weak.length]) := by rw [L7.blk _ (by omega), L6.blk _ (by omega), E5.blk _ (by have := L4.next; omega)]; exact b4
    have L37 : Low σ3.next σ3 σ7 := ((L4.trans (Low.of L4.next E5)).trans L6).trans L7
    refine Ok.to (x := .sl c F.weak.length) (by simp -implicitDefEqProofs only [b7, Nat.reduceAdd, Nat.reduceMul, Nat.reduceLT, Int.reduceToNat, Int.reduceAdd, Int.reduceSub, Int.reduceMul, rsU, s_ldI, s_ldU, s_ldS, s_ldP, s_gtI, s_gtU, s_gtS, s_bleD, Nat.reduceLeDiff, decide_true, decide_false]) (Ok.to (x := (c, F.weak.length)) rfl ?_)
    generalize t3 ++ [10] = t4 at *
    refine Ok.step (gnumbers_ok (w := weakB) iW hl.wi hl.w (by decide)) ?_
    rintro ⟨v, σ8⟩ ⟨v1, E8⟩
    simp only at v1 E8
    subst v1
    generalize lnumsT weakB F.weak = t5 at *
    refine Ok.to (x := t5) rfl ?_
    refine Ok.step (bstr_ok (B7.ext E8) (s := t5) (by omega)) ?_
    rintro ⟨v, σ9⟩ ⟨v1, L9, B9⟩
    simp only at v1 L9 B9
    subst v1
    refine Ok.to (x := [.i .i64 t5.length, .nifc]) rfl ?_
    refine Ok.to (x := (t5.length : Int)) rfl ?_
    refine Ok.step (bbyte_ok (c := 10) B9 (by simp only [List.length_append]; omega)) ?_
    rintro ⟨v, σ10⟩ ⟨v1, L10, B10⟩
    simp only at v1 L10 B10
    refine Ok.step (bstring_ok B10 (by simp)) ?_
    rintro ⟨v, σ11⟩ ⟨v1, L11⟩
    simp only at v1 L11
    subst v1
    refine Ok.to (x := t4 ++ t5 ++ [10]) rfl ?_
    have LL : Low σ3.next σ3 σ11 := (((L37.trans (Low.of L37.next E8)).trans L9).trans L10).trans L11
    refine Ok_some.2 ⟨by rw [hTF], ?_⟩
    have := LL.next
    exact ⟨by show σ.next ≤ σ11.next; omega, fun k hk => (LL.blk k (by have := E2.next; omega)).trans ((E2.trans E3).blk k hk)⟩
end Go.Abs.Tryd
namespace Go.Abs.Tryd
open Go Go.Abs
variable {O : Type}
theorem Ok.loop1 {S T : Type} {f : S → Option (S ⊕ T)} {s : S} {Q : T → Prop} (h : Ok (f s) fun r => match r with | .inl s' => Ok (loopF f s') Q | .inr t => Q t) : Ok (loopF f s) Q := by
  obtain ⟨r, e, h⟩ := h
  cases r with
  | inl s' =>
    obtain ⟨t, e', hq⟩ := h
    obtain ⟨n, hn⟩ := loopF_spec e'
    exact ⟨t, loopF_of (n := n + 1) (by simp only [loopN, e]; exact hn), hq⟩
  | inr t => exact ⟨t, loopF_of (n := 1) (by simp only [loopN, e]; rfl), h⟩
theorem rdNewN {σ : AH O} {el b es : Nat} {cs : List AV} (h : cs.length = es) : (σ.put b (.cells true el cs)).rdSl (.loc (.n b) 0 es) 1 es = some cs := by
  have : Rd (σ.put b (.cells true el cs)) es (.loc (.n b) 0 es) 1 cs := ⟨by omega, rfl, cs, by simp [AH.cs], by omega, by rw [List.drop_zero, List.take_of_length_le (by omega)]⟩
  exact this.rdSl
theorem growV {σ : AH O} {el : TypeId} {es : Nat} {a : SA} {n : Nat} {cs vs : List AV} (ho : OwnS σ el es a n cs) (hv : vs.length = es) :
    Ok (((σ.bump 2).put σ.next (.cells true el vs)).appSl (σ.next + 1) el es a n 1 vs) fun r => ∃ a', r.1 = .sl a' (n + 1) ∧ OwnS r.2 el es a' (n + 1) (cs ++ vs) ∧ Chg (SA.bk a) σ r.2 ∧ ∀ b ∈ SA.bk a', σ.next ≤ b ∧ b < r.2.next := by
  have hlt := ho.lt
  generalize hσ : (σ.bump 2).put σ.next (.cells true el vs) = σ1
  have n1 : σ1.next = σ.next + 2 := by rw [← hσ]; rfl
  have b1 : ∀ b, b < σ.next → σ1.blk b = σ.blk b := fun b hb => by rw [← hσ, s_bn (by omega)]; rfl
  clear hσ
  have ho1 : OwnS σ1 el es a n cs := ho.of (by omega) fun b hb => b1 b (hlt b hb)
  refine (app_ok (nid := σ.next + 1) ho1 (fun hm => by have := hlt _ hm; omega) (by omega) (show vs.length = 1 * es by omega)).mono fun r ⟨a', g1, g2, g3, g4, g5⟩ => ⟨a', g1, g2, ⟨by omega, fun b hb hm => (g4 b (by omega) hm).trans (b1 b hb)⟩, fun b hb => by have := g5 b hb; omega⟩
def ParA (r : FV × Nat × Nat) (v : AV) : Prop := ∃ f, v = .tup [f, .i .i64 (r.2.1 : Int), .i .i64 (r.2.2 : Int)] ∧ r.1.At f
theorem nil_at : nilF.At (.agg [.sl .nil 0, .sl .nil 0, .sl .nil 0]) := ⟨.nil, .nil, .nil, rfl, ⟨fun _ => rfl, [], Imm.nil _, .nil⟩, Ints.mk (Imm.nil _), Ints.mk (Imm.nil _)⟩
theorem par_nil {k c : Nat} : ParA (nilF, k, c) (.tup [.agg [.sl .nil 0, .sl .nil 0, .sl .nil 0], .i .i64 (k : Int), .i .i64 (c : Int)]) := ⟨_, rfl, nil_at⟩
theorem par_nil_fz {σ : AH O} {k c : Int} : FZ 8 σ.blk [] (.tup [.agg [.sl .nil 0, .sl .nil 0, .sl .nil 0], .i .i64 k, .i .i64 c]) (.tup [.agg [.sl .nil 0, .sl .nil 0, .sl .nil 0], .i .i64 k, .i .i64 c]) := by
  have := FZL.cons (FZ.agg (FZL.flat (H := σ.blk) (d := 5) (vs := [.sl .nil 0, .sl .nil 0, .sl .nil 0]) rfl)) (FZL.flat (H := σ.blk) (d := 6) (vs := [.i .i64 k, .i .i64 c]) rfl) (by simp)
  exact FZ.tup this
theorem form_fz {σ : AH O} {el : TypeId} {N : List NV} {a b c : SA} {R W : List Int} {vs : List AV} {k m : Int} (own : OwnS σ el 7 a N.length vs) (im : ImL (N.flatMap NV.row) vs) (hb : Ints .i64 b R) (hc : Ints .i64 c W) :
    ∃ f, FZ 8 σ.blk (SA.bk a) (.tup [.agg [.sl a N.length, .sl b R.length, .sl c W.length], .i .i64 k, .i .i64 m]) (.tup [f, .i .i64 k, .i .i64 m]) ∧ (⟨N, R, W⟩ : FV).At f := by
  obtain ⟨d, f1, f2⟩ := FZ.sl (d := 4) (L := []) own (fun _ _ => rfl) (FZL.flat im.flat) rfl (by simp)
  rw [List.append_nil] at f1
  have fb := hb.imm.flat
  have fc := hc.imm.flat
  have h1 := FZL.cons f1 (FZL.flat (H := σ.blk) (d := 5) (vs := [.sl b R.length, .sl c W.length]) (by simp only [List.all_cons, List.all_nil, fb, fc]; rfl)) (by simp)
  have h2 := FZL.cons (FZ.agg h1) (FZL.flat (H := σ.blk) (d := 6) (vs := [.i .i64 k, .i .i64 m]) rfl) (by simp)
  have h3 := FZ.tup h2
  rw [List.append_nil, List.append_nil] at h3
  exact ⟨_, h3, d, b, c, rfl, ⟨fun _ => rfl, _, f2, im⟩, hb, hc⟩
theorem nodeA_rows {x : NV} {c d : SA} (hc : Ints .i64 c x.P) (hd : Ints .u64 d x.R) : ImL x.row (x.cells c d) := NV.mk_ hc hd
theorem XLgl_ok {σ h : AH O} {r3 : AV × AH O} {B0 Bf M : Nat} (hB0 : h.next = B0) (hBf : r3.2.next = Bf) (hlt : B0 < Bf) {A : SA} {L : List Bs} (hA : Strs A L) (hf : ∀ s ∈ L, s.length ≤ M) (hM : M ≤ 90000) (hn : L.length ≤ 1000000)
    (b0 : σ.blk B0 = some (.cells true 25 [.sl .nil 0, .sl .nil 0, .sl .nil 0])) (bf : σ.blk Bf = some (.cells true 25 [.sl .nil 0, .sl .nil 0, .sl .nil 0])) (nf : Bf < σ.next) :
    Ok (loopF (S := List AV × AH O) (T := (List AV × AH O) ⊕ (AV × AH O)) (lines_Parse_L1 (A, L.length) strings_HasPrefix strings_Split lines_readNode h r3) ([.i .i64 0], σ)) fun r => match r with
      | .inl q => ∃ (k : Nat) (N : List NV) (a : SA) (vs : List AV), lgoN 0 [] L = .inl (N, k, L.drop k) ∧ k ≤ L.length ∧ N.length ≤ k ∧ (∀ x ∈ N, x.P.length ≤ M ∧ x.R.length ≤ M) ∧ q.1 = [.i .i64 (k : Int)] ∧ q.2.blk Bf = some (.cells true 25 [.sl a N.length, .sl .nil 0, .sl .nil 0]) ∧ OwnS q.2 48 7 a N.length vs ∧ ImL (N.flatMap NV.row) vs ∧ (∀ b ∈ SA.bk a, Bf < b) ∧ Low Bf σ q.2
      | .inr q => ∃ m : Nat, lgoN 0 [] L = .inr m ∧ q.1 = .tup [.agg [.sl .nil 0, .sl .nil 0, .sl .nil 0], .i .i64 (m : Int), .i .i64 61] ∧ Low B0 σ q.2 := by
  refine Ok.count (L.length + 1) (fun k s => ∃ (N : List NV) (a : SA) (vs : List AV) (σ' : AH O), k ≤ L.length ∧ lgoN 0 [] L = lgoN k N (L.drop k) ∧ N.length ≤ k ∧ (∀ x ∈ N, x.P.length ≤ M ∧ x.R.length ≤ M) ∧ s = ([.i .i64 (k : Int)], σ') ∧ σ'.blk Bf = some (.cells true 25 [.sl a N.length, .sl .nil 0, .sl .nil 0]) ∧ OwnS σ' 48 7 a N.length vs ∧ ImL (N.flatMap NV.row) vs ∧ (∀ b ∈ SA.bk a, Bf < b) ∧ Low Bf σ σ') ?_ ?_ ⟨[], .nil, [], σ, Nat.zero_le _, rfl, Nat.le_refl _, by simp, rfl, bf, OwnS.nil _ _ _, .nil, by simp [SA.bk], Low.refl _ _⟩
  · rintro k _ hk ⟨N, a, vs, σ', hkl, hgo, hNk, hNx, rfl, c1, own, im, fr, LW⟩
    have t1 : (true == true) = true := rfl
    have t2 : (false == true) = false := rfl
    have n1 := LW.next
    have c0 : σ'.blk B0 = some (.cells true 25 [.sl .nil 0, .sl .nil 0, .sl .nil 0]) := by rw [LW.blk _ hlt]; exact b0
    refine Ok.to (x := (k : Int)) rfl ?_
    refine Ok.step (Q := fun r => ∃ b, r = ([.b b], σ') ∧ (b = true ↔ ∃ l, L[k]? = some l ∧ begins l = true)) ?_ ?_
    · by_cases hkn : k < L.length
      · have dk : decide ((k : Int) < (L.length : Int)) = true := decide_eq_true (by omega)
        have hx : L[k]? = some L[k] := List.getElem?_eq_getElem hkn
        generalize L[k] = l at *
        obtain ⟨bb, oo, r1, ld⟩ := strs_ref hA hx
        have ld := ld O σ'
        refine Ok.cT (by rw [dk]; rfl) ?_
        refine Ok.cT (by rw [dk, decide_eq_true (show (0 : Int) ≤ (k : Int) by omega)]; rfl) ?_
        refine Ok.to (x := (bb, oo)) r1 ?_
        refine Ok.to (x := .s l) (by rw [Int.toNat_natCast, Nat.mul_one]; exact ld) (Ok.to (x := l) rfl ?_)
        refine Ok.step pre_ok ?_
        rintro _ rfl
        refine Ok_some.2 ⟨_, rfl, ?_⟩
        rw [hx]
        simp only [Option.some.injEq, decide_eq_true_eq]
        exact ⟨fun h => ⟨l, rfl, decide_eq_true h⟩, fun ⟨_, e, h⟩ => by subst e; exact of_decide_eq_true h⟩
      · have dk : decide ((k : Int) < (L.length : Int)) = false := decide_eq_false (by omega)
        refine Ok.cF (by rw [dk]; rfl) (Ok_some.2 ⟨false, rfl, ?_⟩)
        rw [List.getElem?_eq_none (by omega)]; simp
    · rintro _ ⟨b, rfl, hb⟩
      refine Ok.to (x := b) rfl ?_
      cases b with
      | false =>
        refine Ok.cF rfl (Ok_some.2 ⟨k, N, a, vs, ?_, hkl, hNk, hNx, rfl, c1, own, im, fr, LW⟩)
        rw [hgo]
        cases hd : L.drop k with
        | nil => rfl
        | cons l ls =>
          have hx : L[k]? = some l := by have := congrArg List.head? hd; rwa [List.head?_drop] at this
          have hnb : begins l = false := by
            cases e : begins l with
            | false => rfl
            | true => cases hb.2 ⟨l, hx, e⟩
          simp only [lgoN, hnb]; rfl
      | true =>
        obtain ⟨l, hx, hbl⟩ := hb.1 rfl
        have hkn : k < L.length := (List.getElem?_eq_some_iff.1 hx).1
        have hgo2 : lgoN 0 [] L = match lnodeR (cutB 32 l) with | none => .inr (k + 1) | some x => lgoN (k + 1) (N ++ [x]) (L.drop (k + 1)) := by
          have : L.drop k = l :: L.drop (k + 1) := by
            rw [List.drop_eq_getElem_cons hkn]
            rw [List.getElem?_eq_getElem hkn] at hx
            rw [Option.some.inj hx]
          rw [hgo, this]
          simp only [lgoN, hbl, if_true]; rfl
        have hl := hf l (List.mem_of_getElem? hx)
        obtain ⟨bb, oo, r1, ld⟩ := strs_ref hA hx
        have ld := ld O (σ'.bump 1)
        have dk : decide ((k : Int) < (L.length : Int)) = true := decide_eq_true (by omega)
        refine Ok.cT rfl ?_
        refine Ok.cT (by rw [dk, decide_eq_true (show (0 : Int) ≤ (k : Int) by omega)]; rfl) ?_
        refine Ok.to (x := (bb, oo)) r1 ?_
        refine Ok.to (x := .s l) (by rw [Int.toNat_natCast, Nat.mul_one]; exact ld) (Ok.to (x := l) rfl ?_)
        refine Ok.step (split_ok (c := 32) (by omega)) ?_
        rintro _ ⟨a', rfl, ha'⟩
        refine Ok.to (x := (a', (cutB 32 l).length)) rfl ?_
        have hcl := cut_len 32 l
        refine Ok.step (gReadNode_ok ha' (fun v hv => cut_few (c := 32) (w := v) (show l.length ≤ 1000000 by omega) hv) (by omega)) ?_
        rintro ⟨v, σ3⟩ ⟨v1, E3⟩
        simp only at v1 E3
        have n3 : σ'.next + 1 ≤ σ3.next := by simpa using E3.next
        have q3 : ∀ b, b < σ'.next → σ3.blk b = σ'.blk b := fun b hb => E3.blk b (by simp; omega)
        cases hR : lnodeR (cutB 32 l) with
        | none =>
          rw [hR] at v1 hgo2
          have v1 : v = _ := v1
          subst v1
          have c3 : ∀ y, (σ3.put σ'.next y).blk B0 = some (.cells true 25 [.sl .nil 0, .sl .nil 0, .sl .nil 0]) := fun y => by rw [s_bn (by omega), q3 _ (by omega)]; exact c0
          have e1 : IntKind.i64.wrap ((k : Int) + 1) = ((k + 1 : Nat) : Int) := by rw [i64_id (by omega) (by omega)]; omega
          simp -implicitDefEqProofs only [hB0, Bool.not_false, c3, e1, Nat.reduceAdd, Nat.reduceMul, Nat.reduceLT, Int.reduceToNat, Int.reduceAdd, Int.reduceSub, Int.reduceMul, rsU, s_ldI, s_ldU, s_ldS, s_ldP, s_gtI, s_gtU, s_gtS, s_bleD, Nat.reduceLeDiff, decide_true, decide_false]
          refine Ok_some.2 ⟨k + 1, hgo2, rfl, ⟨by show σ.next ≤ σ3.next; omega, fun b hb => ?_⟩⟩
          show ((σ3.put σ'.next _).put B0 _).blk b = _
          rw [s_bn (by omega), s_bn (by omega), q3 _ (by omega), LW.blk _ (by omega)]
        | some x =>
          rw [hR] at v1 hgo2
          obtain ⟨cc, dd, rfl, ic, id⟩ := v1
          have hback := lnodeR_back hR
          have hlen : (lnodeW x).length = 4 + x.P.length + (x.R.length + 1) := by simp [lnodeW]; omega
          rw [hback.1] at hlen
          refine Ok.to (x := [.agg (x.cells cc dd), .b true]) rfl ?_
          refine Ok.to (x := x.cells cc dd) rfl ?_
          refine Ok.to (x := x.h.p) rfl ?_
          refine Ok.to (x := x.h.r) rfl ?_
          refine Ok.to (x := x.h.site) rfl ?_
          refine Ok.to (x := x.h.age) rfl ?_
          refine Ok.to (x := x.h.large) rfl ?_
          refine Ok.to (x := (cc, x.P.length)) rfl ?_
          refine Ok.to (x := (dd, x.R.length)) rfl ?_
          refine Ok.to (x := true) rfl ?_
          generalize hσ4 : σ3.put σ'.next (.cells true 48 [.i .i64 x.h.p, .i .i64 x.h.r, .i .i64 x.h.site, .i .i64 x.h.age, .b x.h.large, .sl cc x.P.length, .sl dd x.R.length]) = σ4
          have hst : (σ3.put σ'.next (.cells true 48 [.i .i64 0, .i .i64 0, .i .i64 0, .i .i64 0, .b false, .sl .nil 0, .sl .nil 0])).st (.n σ'.next) 0 [.i .i64 x.h.p, .i .i64 x.h.r, .i .i64 x.h.site, .i .i64 x.h.age, .b x.h.large, .sl cc x.P.length, .sl dd x.R.length] = some σ4 := by
            rw [← hσ4]
            simp -implicitDefEqProofs only [Nat.reduceAdd, Nat.reduceMul, Nat.reduceLT, Int.reduceToNat, Int.reduceAdd, Int.reduceSub, Int.reduceMul, rsU, s_ldI, s_ldU, s_ldS, s_ldP, s_gtI, s_gtU, s_gtS, s_bleD, Nat.reduceLeDiff, decide_true, decide_false]
          refine Ok.to (x := σ4) hst ?_
          have d4 : σ4.blk σ'.next = some (.cells true 48 [.i .i64 x.h.p, .i .i64 x.h.r, .i .i64 x.h.site, .i .i64 x.h.age, .b x.h.large, .sl cc x.P.length, .sl dd x.R.length]) := by rw [← hσ4]; exact s_bs
          have q4 : ∀ b, b < σ'.next → σ4.blk b = σ'.blk b := fun b hb => by rw [← hσ4, s_bn (by omega)]; exact q3 b hb
          have n4 : σ4.next = σ3.next := by rw [← hσ4]; rfl
          have c4 : σ4.blk Bf = some (.cells true 25 [.sl a N.length, .sl .nil 0, .sl .nil 0]) := by rw [q4 _ (by omega)]; exact c1
          refine Ok.cF rfl ?_
          refine Ok.to (x := .sl a N.length) (by simp -implicitDefEqProofs only [hBf, c4, Nat.reduceAdd, Nat.reduceMul, Nat.reduceLT, Int.reduceToNat, Int.reduceAdd, Int.reduceSub, Int.reduceMul, rsU, s_ldI, s_ldU, s_ldS, s_ldP, s_gtI, s_gtU, s_gtS, s_bleD, Nat.reduceLeDiff, decide_true, decide_false]) (Ok.to (x := (a, N.length)) rfl ?_)
          refine Ok.to (x := .i .i64 x.h.p) (by simp -implicitDefEqProofs only [d4, Nat.reduceAdd, Nat.reduceMul, Nat.reduceLT, Int.reduceToNat, Int.reduceAdd, Int.reduceSub, Int.reduceMul, rsU, s_ldI, s_ldU, s_ldS, s_ldP, s_gtI, s_gtU, s_gtS, s_bleD, Nat.reduceLeDiff, decide_true, decide_false]) (Ok.to (x := x.h.p) rfl ?_)
          refine Ok.to (x := .i .i64 x.h.r) (by simp -implicitDefEqProofs only [d4, Nat.reduceAdd, Nat.reduceMul, Nat.reduceLT, Int.reduceToNat, Int.reduceAdd, Int.reduceSub, Int.reduceMul, rsU, s_ldI, s_ldU, s_ldS, s_ldP, s_gtI, s_gtU, s_gtS, s_bleD, Nat.reduceLeDiff, decide_true, decide_false]) (Ok.to (x := x.h.r) rfl ?_)
          refine Ok.to (x := .i .i64 x.h.site) (by simp -implicitDefEqProofs only [d4, Nat.reduceAdd, Nat.reduceMul, Nat.reduceLT, Int.reduceToNat, Int.reduceAdd, Int.reduceSub, Int.reduceMul, rsU, s_ldI, s_ldU, s_ldS, s_ldP, s_gtI, s_gtU, s_gtS, s_bleD, Nat.reduceLeDiff, decide_true, decide_false]) (Ok.to (x := x.h.site) rfl ?_)
          refine Ok.to (x := .i .i64 x.h.age) (by simp -implicitDefEqProofs only [d4, Nat.reduceAdd, Nat.reduceMul, Nat.reduceLT, Int.reduceToNat, Int.reduceAdd, Int.reduceSub, Int.reduceMul, rsU, s_ldI, s_ldU, s_ldS, s_ldP, s_gtI, s_gtU, s_gtS, s_bleD, Nat.reduceLeDiff, decide_true, decide_false]) (Ok.to (x := x.h.age) rfl ?_)
          refine Ok.to (x := .b x.h.large) (by simp -implicitDefEqProofs only [d4, Nat.reduceAdd, Nat.reduceMul, Nat.reduceLT, Int.reduceToNat, Int.reduceAdd, Int.reduceSub, Int.reduceMul, rsU, s_ldI, s_ldU, s_ldS, s_ldP, s_gtI, s_gtU, s_gtS, s_bleD, Nat.reduceLeDiff, decide_true, decide_false]) (Ok.to (x := x.h.large) rfl ?_)
          refine Ok.to (x := .sl cc x.P.length) (by simp -implicitDefEqProofs only [d4, Nat.reduceAdd, Nat.reduceMul, Nat.reduceLT, Int.reduceToNat, Int.reduceAdd, Int.reduceSub, Int.reduceMul, rsU, s_ldI, s_ldU, s_ldS, s_ldP, s_gtI, s_gtU, s_gtS, s_bleD, Nat.reduceLeDiff, decide_true, decide_false]) (Ok.to (x := (cc, x.P.length)) rfl ?_)
          refine Ok.to (x := .sl dd x.R.length) (by simp -implicitDefEqProofs only [d4, Nat.reduceAdd, Nat.reduceMul, Nat.reduceLT, Int.reduceToNat, Int.reduceAdd, Int.reduceSub, Int.reduceMul, rsU, s_ldI, s_ldU, s_ldS, s_ldP, s_gtI, s_gtU, s_gtS, s_bleD, Nat.reduceLeDiff, decide_true, decide_false]) (Ok.to (x := (dd, x.R.length)) rfl ?_)
          refine Ok.to (x := [.i .i64 x.h.p, .i .i64 x.h.r, .i .i64 x.h.site, .i .i64 x.h.age, .b x.h.large, .sl cc x.P.length, .sl dd x.R.length]) (rdNewN rfl) ?_
          refine Ok.cT (Nat.ble_eq_true_of_le (show (N.length + 1) * 89 ≤ _ by omega)) ?_
          have hlt' := own.lt
          have own4 : OwnS σ4 48 7 a N.length vs := own.of (by omega) fun b hb => q4 b (hlt' b hb)
          refine Ok.step (growV own4 rfl) ?_
          rintro ⟨v, σ5⟩ ⟨a2, v1, g2, g3, g4⟩
          simp only at v1 g2 g3 g4
          subst v1
          refine Ok.to (x := (a2, N.length + 1)) rfl ?_
          have n5 := g3.next
          have c5 : σ5.blk Bf = some (.cells true 25 [.sl a N.length, .sl .nil 0, .sl .nil 0]) := by rw [g3.blk _ (by omega) (fun hm => by have := fr _ hm; omega)]; exact c4
          refine Ok.to (x := σ5.put Bf (.cells true 25 [.sl a2 (N.length + 1), .sl .nil 0, .sl .nil 0])) (by simp -implicitDefEqProofs only [hBf, c5, Nat.reduceAdd, Nat.reduceMul, Nat.reduceLT, Int.reduceToNat, Int.reduceAdd, Int.reduceSub, Int.reduceMul, rsU, s_ldI, s_ldU, s_ldS, s_ldP, s_gtI, s_gtU, s_gtS, s_bleD, Nat.reduceLeDiff, decide_true, decide_false]) ?_
          have e1 : IntKind.i64.wrap ((k : Int) + 1) = ((k + 1 : Nat) : Int) := by rw [i64_id (by omega) (by omega)]; omega
          have ln : (N ++ [x]).length = N.length + 1 := by simp
          refine Ok_some.2 ⟨N ++ [x], a2, vs ++ [.i .i64 x.h.p, .i .i64 x.h.r, .i .i64 x.h.site, .i .i64 x.h.age, .b x.h.large, .sl cc x.P.length, .sl dd x.R.length], _, hkn, hgo2, by omega, ?_, by rw [e1], by rw [ln]; exact s_bs, ?_, ?_, fun b hb => by have := g4 b hb; omega, LW.trans ⟨by show σ'.next ≤ σ5.next; omega, fun b hb => ?_⟩⟩
          · intro y hy
            rcases List.mem_append.1 hy with hy | hy
            · exact hNx y hy
            · rw [List.mem_singleton.1 hy]; omega
          · rw [ln]
            exact g2.of (Nat.le_refl _) fun b hb => by have := g4 b hb; exact s_bn (by omega)
          · rw [List.flatMap_append, List.flatMap_singleton]
            exact im.app (nodeA_rows ic id)
          · rw [s_bn (by omega), g3.blk _ (by omega) (fun hm => by have := fr _ hm; omega), q4 _ (by omega)]
  · rintro _ ⟨N, a, vs, σ', hkl, _⟩
    omega
end Go.Abs.Tryd
namespace Go.Abs.Tryd
open Go Go.Abs
variable {O : Type}
theorem NodesR.own {σ : AH O} {el : TypeId} {a : SA} {N : List NV} {vs : List AV} (own : OwnS σ el 7 a N.length vs) (im : ImL (N.flatMap NV.row) vs) : NodesR σ a N := by
  refine ⟨⟨vs, own.rd, fun i x hx => ?_⟩, own.lt⟩
  obtain ⟨c, d, h3, _, h5⟩ := cells_at im hx
  exact ⟨c, d, h3, h5⟩
theorem gtail0 {σ h : AH O} {r3 : AV × AH O} {r64 : List AV × AH O} {B0 Bf Bw at' : Nat} (hB0 : h.next = B0) (hBf : r3.2.next = Bf) (hBw : r64.2.next = Bw) {A : SA} {L : List Bs} (hA : Strs A L) (hf : ∀ s ∈ L, s.length ≤ 100000) (hn : L.length ≤ 1000000) (hat : at' ≤ L.length)
    {x0 x1 x2 : AV} (b0 : σ.blk B0 = some (.cells true 25 [.sl .nil 0, .sl .nil 0, .sl .nil 0])) (bf : σ.blk Bf = some (.cells true 25 [x0, x1, x2])) (bw : σ.blk Bw = some (.cells true 9 [.s rootsB, .s weakB])) (h1 : B0 < Bf) (h2 : Bf < Bw) (h3 : Bw < σ.next) :
    Ok (lines_Parse_L2 r64 (A, L.length) h lines_readNumbers r3 ([.i .i64 (at' : Int), .i .i64 0], σ)) fun r => match (L[at']?).bind (lnumL rootsB) with
      | none => ∃ σ2, r = .inr (.inr (.tup [.agg [.sl .nil 0, .sl .nil 0, .sl .nil 0], .i .i64 ((at' + 1 : Nat) : Int), .i .i64 61], σ2)) ∧ Low B0 σ σ2
      | some l => ∃ e σ2, r = .inl ([.i .i64 ((at' + 1 : Nat) : Int), .i .i64 1], σ2) ∧ Ints .i64 e l ∧ Chg [Bf] σ σ2 ∧ σ2.blk Bf = some (.cells true 25 [x0, .sl e l.length, x2]) := by
  have e1 : IntKind.i64.wrap ((at' : Int) + 1) = ((at' + 1 : Nat) : Int) := by rw [i64_id (by omega) (by omega)]; omega
  refine Ok.to (x := (at' : Int)) rfl ?_
  refine Ok.to (x := 0) rfl ?_
  refine Ok.cT rfl ?_
  refine Ok.cT rfl ?_
  refine Ok.to (x := .s rootsB) (by simp -implicitDefEqProofs only [hBw, Nat.reduceAdd, Nat.reduceMul, Nat.reduceLT, Int.reduceToNat, Int.reduceAdd, Int.reduceSub, Int.reduceMul, rsU, s_ldI, s_ldU, s_ldS, s_ldP, s_gtI, s_gtU, s_gtS, s_bleD, Nat.reduceLeDiff, decide_true, decide_false]; simp only [AH.ld, bw]; rfl) ?_
  refine Ok.to (x := rootsB) rfl ?_
  by_cases hk : at' < L.length
  · have dk : decide ((at' : Int) ≥ (L.length : Int)) = false := decide_eq_false (by omega)
    have dk' : decide ((at' : Int) < (L.length : Int)) = true := decide_eq_true (by omega)
    have hx : L[at']? = some L[at'] := List.getElem?_eq_getElem hk
    have hl := hf _ (List.getElem_mem hk)
    generalize L[at'] = s at *
    rw [hx]
    obtain ⟨bb, oo, r1, ld⟩ := strs_ref hA hx
    have ld := ld O σ
    refine Ok.cF dk ?_
    refine Ok.cT (by rw [dk', decide_eq_true (show (0 : Int) ≤ (at' : Int) by omega)]; rfl) ?_
    refine Ok.to (x := (bb, oo)) r1 ?_
    refine Ok.to (x := .s s) (by rw [Int.toNat_natCast, Nat.mul_one]; exact ld) (Ok.to (x := s) rfl ?_)
    refine Ok.step (gnumL_ok (w := rootsB) (by omega)) ?_
    rintro ⟨v, σ2⟩ ⟨v1, E⟩
    simp only at v1 E
    show Ok _ fun r => match lnumL rootsB s with | none => _ | some l => _
    have n2 := E.next
    cases hR : lnumL rootsB s with
    | none =>
      rw [hR] at v1
      subst v1
      have c0 : σ2.blk B0 = some (.cells true 25 [.sl .nil 0, .sl .nil 0, .sl .nil 0]) := by rw [E.blk _ (by omega)]; exact b0
      simp -implicitDefEqProofs only [hB0, Bool.not_false, c0, e1, Nat.reduceAdd, Nat.reduceMul, Nat.reduceLT, Int.reduceToNat, Int.reduceAdd, Int.reduceSub, Int.reduceMul, rsU, s_ldI, s_ldU, s_ldS, s_ldP, s_gtI, s_gtU, s_gtS, s_bleD, Nat.reduceLeDiff, decide_true, decide_false]
      exact Ok_some.2 ⟨_, rfl, n2, fun b hb => by rw [s_bn (by omega), E.blk _ (by omega)]⟩
    | some l =>
      rw [hR] at v1
      obtain ⟨e, rfl, he⟩ := v1
      have c1 : σ2.blk Bf = some (.cells true 25 [x0, x1, x2]) := by rw [E.blk _ (by omega)]; exact bf
      refine Ok.to (x := [.sl e l.length, .b true]) rfl ?_
      refine Ok.to (x := (e, l.length)) rfl ?_
      refine Ok.to (x := true) rfl ?_
      refine Ok.cF rfl ?_
      refine Ok.step (Q := fun r => r = ([], σ2.put Bf (.cells true 25 [x0, .sl e l.length, x2]))) ?_ ?_
      · refine Ok.cT rfl ?_
        refine Ok.to (x := σ2.put Bf (.cells true 25 [x0, .sl e l.length, x2])) (by simp -implicitDefEqProofs only [hBf, c1, Nat.reduceAdd, Nat.reduceMul, Nat.reduceLT, Int.reduceToNat, Int.reduceAdd, Int.reduceSub, Int.reduceMul, rsU, s_ldI, s_ldU, s_ldS, s_ldP, s_gtI, s_gtU, s_gtS, s_bleD, Nat.reduceLeDiff, decide_true, decide_false]) ?_
        exact Ok_some.2 rfl
      · rintro _ rfl
        exact Ok_some.2 ⟨e, σ2.put Bf (.cells true 25 [x0, .sl e l.length, x2]), by rw [e1]; rfl, he, ⟨n2, fun b hb hne => by rw [s_bn (by simpa using hne), E.blk _ hb]⟩, s_bs⟩
  · have dk : decide ((at' : Int) ≥ (L.length : Int)) = true := decide_eq_true (by omega)
    rw [List.getElem?_eq_none (by omega)]
    refine Ok.cT dk ?_
    simp -implicitDefEqProofs only [hB0, b0, e1, Nat.reduceAdd, Nat.reduceMul, Nat.reduceLT, Int.reduceToNat, Int.reduceAdd, Int.reduceSub, Int.reduceMul, rsU, s_ldI, s_ldU, s_ldS, s_ldP, s_gtI, s_gtU, s_gtS, s_bleD, Nat.reduceLeDiff, decide_true, decide_false]
    exact Ok_some.2 ⟨_, rfl, Nat.le_refl _, fun b hb => s_bn (by omega)⟩
theorem gtail1 {σ h : AH O} {r3 : AV × AH O} {r64 : List AV × AH O} {B0 Bf Bw at' : Nat} (hB0 : h.next = B0) (hBf : r3.2.next = Bf) (hBw : r64.2.next = Bw) {A : SA} {L : List Bs} (hA : Strs A L) (hf : ∀ s ∈ L, s.length ≤ 100000) (hn : L.length ≤ 1000000) (hat : at' ≤ L.length)
    {x0 x1 x2 : AV} (b0 : σ.blk B0 = some (.cells true 25 [.sl .nil 0, .sl .nil 0, .sl .nil 0])) (bf : σ.blk Bf = some (.cells true 25 [x0, x1, x2])) (bw : σ.blk Bw = some (.cells true 9 [.s rootsB, .s weakB])) (h1 : B0 < Bf) (h2 : Bf < Bw) (h3 : Bw < σ.next) :
    Ok (lines_Parse_L2 r64 (A, L.length) h lines_readNumbers r3 ([.i .i64 (at' : Int), .i .i64 1], σ)) fun r => match (L[at']?).bind (lnumL weakB) with
      | none => ∃ σ2, r = .inr (.inr (.tup [.agg [.sl .nil 0, .sl .nil 0, .sl .nil 0], .i .i64 ((at' + 1 : Nat) : Int), .i .i64 61], σ2)) ∧ Low B0 σ σ2
      | some l => ∃ e σ2, r = .inl ([.i .i64 ((at' + 1 : Nat) : Int), .i .i64 2], σ2) ∧ Ints .i64 e l ∧ Chg [Bf] σ σ2 ∧ σ2.blk Bf = some (.cells true 25 [x0, x1, .sl e l.length]) := by
  have e1 : IntKind.i64.wrap ((at' : Int) + 1) = ((at' + 1 : Nat) : Int) := by rw [i64_id (by omega) (by omega)]; omega
  refine Ok.to (x := (at' : Int)) rfl ?_
  refine Ok.to (x := 1) rfl ?_
  refine Ok.cT rfl ?_
  refine Ok.cT rfl ?_
  refine Ok.to (x := .s weakB) (by simp -implicitDefEqProofs only [hBw, Nat.reduceAdd, Nat.reduceMul, Nat.reduceLT, Int.reduceToNat, Int.reduceAdd, Int.reduceSub, Int.reduceMul, rsU, s_ldI, s_ldU, s_ldS, s_ldP, s_gtI, s_gtU, s_gtS, s_bleD, Nat.reduceLeDiff, decide_true, decide_false]; simp only [AH.ld, bw]; rfl) ?_
  refine Ok.to (x := weakB) rfl ?_
  by_cases hk : at' < L.length
  · have dk : decide ((at' : Int) ≥ (L.length : Int)) = false := decide_eq_false (by omega)
    have dk' : decide ((at' : Int) < (L.length : Int)) = true := decide_eq_true (by omega)
    have hx : L[at']? = some L[at'] := List.getElem?_eq_getElem hk
    have hl := hf _ (List.getElem_mem hk)
    generalize L[at'] = s at *
    rw [hx]
    obtain ⟨bb, oo, r1, ld⟩ := strs_ref hA hx
    have ld := ld O σ
    refine Ok.cF dk ?_
    refine Ok.cT (by rw [dk', decide_eq_true (show (0 : Int) ≤ (at' : Int) by omega)]; rfl) ?_
    refine Ok.to (x := (bb, oo)) r1 ?_
    refine Ok.to (x := .s s) (by rw [Int.toNat_natCast, Nat.mul_one]; exact ld) (Ok.to (x := s) rfl ?_)
    refine Ok.step (gnumL_ok (w := weakB) (by omega)) ?_
    rintro ⟨v, σ2⟩ ⟨v1, E⟩
    simp only at v1 E
    show Ok _ fun r => match lnumL weakB s with | none => _ | some l => _
    have n2 := E.next
    cases hR : lnumL weakB s with
    | none =>
      rw [hR] at v1
      subst v1
      have c0 : σ2.blk B0 = some (.cells true 25 [.sl .nil 0, .sl .nil 0, .sl .nil 0]) := by rw [E.blk _ (by omega)]; exact b0
      simp -implicitDefEqProofs only [hB0, Bool.not_false, c0, e1, Nat.reduceAdd, Nat.reduceMul, Nat.reduceLT, Int.reduceToNat, Int.reduceAdd, Int.reduceSub, Int.reduceMul, rsU, s_ldI, s_ldU, s_ldS, s_ldP, s_gtI, s_gtU, s_gtS, s_bleD, Nat.reduceLeDiff, decide_true, decide_false]
      exact Ok_some.2 ⟨_, rfl, n2, fun b hb => by rw [s_bn (by omega), E.blk _ (by omega)]⟩
    | some l =>
      rw [hR] at v1
      obtain ⟨e, rfl, he⟩ := v1
      have c1 : σ2.blk Bf = some (.cells true 25 [x0, x1, x2]) := by rw [E.blk _ (by omega)]; exact bf
      refine Ok.to (x := [.sl e l.length, .b true]) rfl ?_
      refine Ok.to (x := (e, l.length)) rfl ?_
      refine Ok.to (x := true) rfl ?_
      refine Ok.cF rfl ?_
      refine Ok.step (Q := fun r => r = ([], σ2.put Bf (.cells true 25 [x0, x1, .sl e l.length]))) ?_ ?_
      · refine Ok.cF rfl ?_
        refine Ok.to (x := σ2.put Bf (.cells true 25 [x0, x1, .sl e l.length])) (by simp -implicitDefEqProofs only [hBf, c1, Nat.reduceAdd, Nat.reduceMul, Nat.reduceLT, Int.reduceToNat, Int.reduceAdd, Int.reduceSub, Int.reduceMul, rsU, s_ldI, s_ldU, s_ldS, s_ldP, s_gtI, s_gtU, s_gtS, s_bleD, Nat.reduceLeDiff, decide_true, decide_false]) ?_
        exact Ok_some.2 rfl
      · rintro _ rfl
        exact Ok_some.2 ⟨e, σ2.put Bf (.cells true 25 [x0, x1, .sl e l.length]), by rw [e1]; rfl, he, ⟨n2, fun b hb hne => by rw [s_bn (by simpa using hne), E.blk _ hb]⟩, s_bs⟩
  · have dk : decide ((at' : Int) ≥ (L.length : Int)) = true := decide_eq_true (by omega)
    rw [List.getElem?_eq_none (by omega)]
    refine Ok.cT dk ?_
    simp -implicitDefEqProofs only [hB0, b0, e1, Nat.reduceAdd, Nat.reduceMul, Nat.reduceLT, Int.reduceToNat, Int.reduceAdd, Int.reduceSub, Int.reduceMul, rsU, s_ldI, s_ldU, s_ldS, s_ldP, s_gtI, s_gtU, s_gtS, s_bleD, Nat.reduceLeDiff, decide_true, decide_false]
    exact Ok_some.2 ⟨_, rfl, Nat.le_refl _, fun b hb => s_bn (by omega)⟩
theorem gtail2 {σ : AH O} {h : AH O} {r3 : AV × AH O} {r64 : List AV × AH O} {A : SA} {n : Nat} {a : Int} :
    Ok (lines_Parse_L2 r64 (A, n) h lines_readNumbers r3 ([.i .i64 a, .i .i64 2], σ)) fun r => r = .inr (.inl ([.i .i64 a], σ)) := by
  refine Ok.to (x := a) rfl ?_
  refine Ok.to (x := 2) rfl ?_
  exact Ok.cF rfl (Ok_some.2 rfl)
theorem cut_le {c : UInt8} {s w : Bs} (h : w ∈ cutB c s) : w.length ≤ s.length := by
  have h1 : ∀ (ws : List Bs), ∀ w ∈ ws, w.length ≤ (joinS c ws).length := fun ws => by
    induction ws with
    | nil => intro w hw; cases hw
    | cons x ws ih =>
      intro w hw
      cases ws with
      | nil => rcases List.mem_cons.1 hw with rfl | hw
               · simp [joinS]
               · cases hw
      | cons y ws =>
        rw [joinS_cons c x (by simp), List.length_append, List.length_cons]
        rcases List.mem_cons.1 hw with rfl | hw
        · omega
        · have := ih w hw; omega
  have := h1 _ w h
  rw [join_cut] at this; omega
theorem drop_some {α : Type} {L : List α} {k : Nat} {l : α} (h : L[k]? = some l) : L.drop k = l :: L.drop (k + 1) := by
  have hk := (List.getElem?_eq_some_iff.1 h).1
  rw [List.drop_eq_getElem_cons hk]
  rw [List.getElem?_eq_getElem hk] at h
  rw [Option.some.inj h]
theorem gparse_ok {σ : AH O} {t : Bs} (ht : t.length ≤ 90000) : Ok (lines_Parse [.s t] σ) fun r => ParA (lparseT t) r.1 ∧ Ext σ r.2 := by
  unfold lines_Parse
  refine frz_ok (s := lines_Parse_c strings_Split strings_HasPrefix lines_readNode lines_readNumbers canon_Right) (Q := ParA (lparseT t)) ?_
  have fin : ∀ {k c : Nat} {r : AV × AH O}, lparseT t = (nilF, k, c) → r.1 = .tup [.agg [.sl .nil 0, .sl .nil 0, .sl .nil 0], .i .i64 (k : Int), .i .i64 (c : Int)] → Ext σ r.2 → ∃ v' L, FZ 8 r.2.blk L r.1 v' ∧ (∀ b ∈ L, σ.next ≤ b) ∧ Ext σ r.2 ∧ ParA (lparseT t) v' := fun {k c r} hp h E => ⟨r.1, [], by rw [h]; exact par_nil_fz, by simp, E, by rw [hp, h]; exact par_nil⟩
  unfold lines_Parse_c
  refine Ok.cT rfl ?_
  refine Ok.to (x := t) rfl ?_
  refine Ok.step (split_ok (c := 10) (by omega)) ?_
  rintro _ ⟨A, rfl, hA⟩
  have hf := fun v hv => cut_le (c := 10) (w := v) (s := t) hv
  have hn : (cutB 10 t).length ≤ 1000000 := by have := cut_len 10 t; omega
  have hP : lparseT t = match lgoN 0 [] (cutB 10 t) with | .inr k => (nilF, k, 61) | .inl (N, k, ls) => ltailP N k ls := rfl
  have hn2 : (cutB 10 t).length ≤ 90001 := by have := cut_len 10 t; omega
  generalize cutB 10 t = L at *
  have hf' : ∀ s ∈ L, s.length ≤ 90000 := fun s hs => Nat.le_trans (hf s hs) ht
  refine Ok.to (x := (A, L.length)) rfl ?_
  have E1 : Ext σ ((σ.bump 1).put σ.next (.cells true 25 [.sl .nil 0, .sl .nil 0, .sl .nil 0])) := ((Ext.refl σ).bump 1).put (Nat.le_refl _) _
  have b1 : ((σ.bump 1).put σ.next (.cells true 25 [.sl .nil 0, .sl .nil 0, .sl .nil 0])).blk σ.next = some (.cells true 25 [.sl .nil 0, .sl .nil 0, .sl .nil 0]) := s_bs
  have n1 : ((σ.bump 1).put σ.next (.cells true 25 [.sl .nil 0, .sl .nil 0, .sl .nil 0])).next = σ.next + 1 := rfl
  generalize (σ.bump 1).put σ.next (.cells true 25 [.sl .nil 0, .sl .nil 0, .sl .nil 0]) = σ1 at *
  have b2 : ((σ1.bump 1).put σ1.next (.cells true 25 [.sl .nil 0, .sl .nil 0, .sl .nil 0])).blk σ.next = some (.cells true 25 [.sl .nil 0, .sl .nil 0, .sl .nil 0]) := by rw [s_bn (by omega)]; exact b1
  have L2 : Low σ1.next σ1 ((σ1.bump 1).put σ1.next (.cells true 25 [.sl .nil 0, .sl .nil 0, .sl .nil 0])) := ⟨by simp, fun k hk => by rw [s_bn (Nat.ne_of_lt hk)]; rfl⟩
  refine Ok.bindS (XLgl_ok (r3 := (.sl A L.length, σ1)) (h := σ) (B0 := σ.next) (Bf := σ1.next) rfl rfl (show σ.next < σ1.next by omega) hA hf' (Nat.le_refl _) hn b2 s_bs (by simp)) (fun q hq => ?_) (fun r hr => ?_)
  · obtain ⟨k, N, a, vs, hgo, hk, hNk, hNx, q1, c1, own, im, fr, LW⟩ := hq
    obtain ⟨q, σ3⟩ := q
    simp only at q1 c1 own LW
    subst q1
    have hP : lparseT t = ltailP N k (L.drop k) := by rw [hP, hgo]
    have L13 : Low σ1.next σ1 σ3 := L2.trans LW
    have n3 := L13.next
    have b3 : σ3.blk σ.next = some (.cells true 25 [.sl .nil 0, .sl .nil 0, .sl .nil 0]) := by rw [L13.blk _ (by omega)]; exact b1
    have n3' : σ1.next < σ3.next := Nat.lt_of_lt_of_le (show σ1.next < _ by simp) LW.next
    refine Ok.to (x := (k : Int)) rfl ?_
    show Ok (bindS _ _) _
    generalize hσ4 : ((([AV.i .i64 (k : Int)], σ3) : List AV × AH O).snd.bump 1).put (([AV.i .i64 (k : Int)], σ3) : List AV × AH O).snd.next (.cells true 9 [.s [114, 111, 111, 116, 115], .s [119, 101, 97, 107]]) = σ4
    have hσ4 : (σ3.bump 1).put σ3.next (.cells true 9 [.s [114, 111, 111, 116, 115], .s [119, 101, 97, 107]]) = σ4 := hσ4
    have bw : σ4.blk σ3.next = some (.cells true 9 [.s rootsB, .s weakB]) := by rw [← hσ4]; exact s_bs
    have q4 : ∀ b, b < σ3.next → σ4.blk b = σ3.blk b := fun b hb => by rw [← hσ4, s_bn (by omega)]; rfl
    have n4 : σ4.next = σ3.next + 1 := by rw [← hσ4]; rfl
    have b4 : σ4.blk σ.next = some (.cells true 25 [.sl .nil 0, .sl .nil 0, .sl .nil 0]) := by rw [q4 _ (by omega)]; exact b3
    have c4 : σ4.blk σ1.next = some (.cells true 25 [.sl a N.length, .sl .nil 0, .sl .nil 0]) := by rw [q4 _ (by omega)]; exact c1
    have L14 : Low σ1.next σ1 σ4 := ⟨by omega, fun b hb => (q4 b (by omega)).trans (L13.blk b hb)⟩
    have own4 : OwnS σ4 48 7 a N.length vs := own.of (by omega) fun b hb => q4 b (own.lt b hb)
    clear hσ4
    have toE : ∀ {σ' : AH O}, Low σ.next σ1 σ' → Ext σ σ' := fun {σ'} h => ⟨by have := h.next; omega, fun b hb => (h.blk b hb).trans (E1.blk b hb)⟩
    have L04 : Low σ.next σ1 σ4 := ⟨L14.next, fun b hb => L14.blk b (by omega)⟩
    refine Ok.bindS (Q := fun r => match r with
        | .inl q => ∃ r w b c, ltailP N k (L.drop k) = lendP N k r w (L.drop (k + 2)) ∧ q.1 = [.i .i64 ((k + 2 : Nat) : Int)] ∧ Ints .i64 b r ∧ Ints .i64 c w ∧ k + 2 ≤ L.length ∧ q.2.blk σ1.next = some (.cells true 25 [.sl a N.length, .sl b r.length, .sl c w.length]) ∧ Chg [σ1.next] σ4 q.2 ∧ (∀ n ∈ r, I64 n) ∧ (∀ n ∈ w, I64 n) ∧ r.length ≤ 90000 ∧ w.length ≤ 90000
        | .inr q => ∃ m, ltailP N k (L.drop k) = (nilF, m, 61) ∧ q.1 = .tup [.agg [.sl .nil 0, .sl .nil 0, .sl .nil 0], .i .i64 (m : Int), .i .i64 61] ∧ Low σ.next σ4 q.2) ?_ (fun q hq => ?_) (fun r hr => ?_)
    · refine Ok.loop1 ?_
      refine Ok.mono (gtail0 (h := σ) (r3 := (.sl A L.length, σ1)) (r64 := ([.i .i64 (k : Int)], σ3)) (B0 := σ.next) (Bf := σ1.next) (Bw := σ3.next) rfl rfl rfl hA (fun s hs => Nat.le_trans (hf' s hs) (by omega)) hn hk b4 c4 bw (by omega) n3' (by omega)) ?_
      intro r hr
      cases hl : L[k]? with
      | none =>
        rw [hl] at hr
        obtain ⟨σ5, rfl, L5⟩ := hr
        refine ⟨k + 1, ?_, rfl, L5⟩
        rw [List.drop_eq_nil_of_le (List.getElem?_eq_none_iff.1 hl)]; rfl
      | some l =>
        rw [hl] at hr
        have hr : match lnumL rootsB l with | none => _ | some l => _ := hr
        have hd := drop_some hl
        cases hR : lnumL rootsB l with
        | none =>
          rw [hR] at hr
          obtain ⟨σ5, rfl, L5⟩ := hr
          refine ⟨k + 1, ?_, rfl, L5⟩
          rw [hd]; simp only [ltailP, hR]
        | some rr =>
          rw [hR] at hr
          obtain ⟨e, σ5, rfl, he, C5, d5⟩ := hr
          have hkl := (List.getElem?_eq_some_iff.1 hl).1
          have n5 := C5.next
          have b5 : σ5.blk σ.next = some (.cells true 25 [.sl .nil 0, .sl .nil 0, .sl .nil 0]) := by rw [C5.blk _ (by omega) (by simp; omega)]; exact b4
          have bw5 : σ5.blk σ3.next = some (.cells true 9 [.s rootsB, .s weakB]) := by rw [C5.blk _ (by omega) (by simp; omega)]; exact bw
          refine Ok.loop1 ?_
          refine Ok.mono (gtail1 (h := σ) (r3 := (.sl A L.length, σ1)) (r64 := ([.i .i64 (k : Int)], σ3)) (B0 := σ.next) (Bf := σ1.next) (Bw := σ3.next) rfl rfl rfl hA (fun s hs => Nat.le_trans (hf' s hs) (by omega)) hn (at' := k + 1) hkl b5 d5 bw5 (by omega) n3' (by omega)) ?_
          intro r hr
          have L45 : Low σ.next σ4 σ5 := ⟨n5, fun b hb => C5.blk b (by omega) (by simp; omega)⟩
          cases hm : L[k + 1]? with
          | none =>
            rw [hm] at hr
            obtain ⟨σ6, rfl, L6⟩ := hr
            refine ⟨k + 2, ?_, rfl, L45.trans L6⟩
            rw [hd, List.drop_eq_nil_of_le (List.getElem?_eq_none_iff.1 hm)]; simp only [ltailP, hR]
          | some m =>
            rw [hm] at hr
            have hr : match lnumL weakB m with | none => _ | some l => _ := hr
            have hd' := drop_some hm
            cases hW : lnumL weakB m with
            | none =>
              rw [hW] at hr
              obtain ⟨σ6, rfl, L6⟩ := hr
              refine ⟨k + 2, ?_, rfl, L45.trans L6⟩
              rw [hd, hd']; simp only [ltailP, hR, hW]
            | some ww =>
              rw [hW] at hr
              obtain ⟨e2, σ6, rfl, he2, C6, d6⟩ := hr
              refine Ok.loop1 ?_
              refine Ok.mono gtail2 ?_
              rintro _ rfl
              have hfew : ∀ {w s : Bs} {l : List Int}, lnumL w s = some l → s ∈ L → (∀ n ∈ l, I64 n) ∧ l.length ≤ 90000 := fun {w s l} h hs => by
                refine ⟨(lnumL_back h).2, ?_⟩
                unfold lnumL at h
                split at h
                · have q1 := lnumsR_len h
                  have q2 := cut_len 32 s
                  have q3 := hf' s hs
                  rw [List.length_tail] at q1; omega
                · cases h
              have w1 := hfew hR (List.mem_of_getElem? hl)
              have w2 := hfew hW (List.mem_of_getElem? hm)
              refine ⟨rr, ww, e, e2, by rw [hd, hd']; simp only [ltailP, hR, hW], rfl, he, he2, (List.getElem?_eq_some_iff.1 hm).1, d6, C5.trans C6, w1.1, w2.1, w1.2, w2.2⟩
    · obtain ⟨rr, ww, e, e2, hT, q1, he, he2, hk2, d5, C5, r1, w1, rl, wl⟩ := hq
      obtain ⟨q, σ5⟩ := q
      simp only at q1 d5 C5
      subst q1
      rw [hT] at hP
      have n5 := C5.next
      have own5 : OwnS σ5 48 7 a N.length vs := own4.of n5 fun b hb => C5.blk b (own4.lt b hb) (by have := fr b hb; simp; omega)
      have b5 : σ5.blk σ.next = some (.cells true 25 [.sl .nil 0, .sl .nil 0, .sl .nil 0]) := by rw [C5.blk _ (by omega) (by simp; omega)]; exact b4
      have L45 : Low σ.next σ4 σ5 := ⟨n5, fun b hb => C5.blk b (by omega) (by simp; omega)⟩
      have E5 : Ext σ σ5 := toE (L04.trans L45)
      refine Ok.to (x := ((k + 2 : Nat) : Int)) rfl ?_
      refine Ok.step (Q := fun r => ∃ b, r = ([.b b], σ5) ∧ (b = false ↔ L.drop (k + 2) = [[]])) ?_ ?_
      · have ew : IntKind.i64.wrap ((L.length : Int) - 1) = (L.length : Int) - 1 := i64_id (by omega) (by omega)
        by_cases hk3 : k + 3 = L.length
        · have dne : (((k + 2 : Nat) : Int) != IntKind.i64.wrap ((L.length : Int) - 1)) = false := by rw [ew]; exact bne_eq_false_iff_eq.2 (by omega)
          have hx : L[k + 2]? = some L[k + 2] := List.getElem?_eq_getElem (by omega)
          have hd := drop_some hx
          rw [List.drop_eq_nil_of_le (show L.length ≤ k + 2 + 1 by omega)] at hd
          rw [hd]
          generalize L[k + 2] = s at *
          obtain ⟨bb, oo, r1, ld⟩ := strs_ref hA hx
          have ld := ld O σ5
          refine Ok.cT (by rw [dne]; rfl) ?_
          refine Ok.cT (by rw [decide_eq_true (show (0 : Int) ≤ ((k + 2 : Nat) : Int) by omega), decide_eq_true (show ((k + 2 : Nat) : Int) < (L.length : Int) by omega)]; rfl) ?_
          refine Ok.to (x := (bb, oo)) r1 ?_
          refine Ok.to (x := .s s) (by rw [Int.toNat_natCast, Nat.mul_one]; exact ld) (Ok.to (x := s) rfl ?_)
          exact Ok_some.2 ⟨_, rfl, by simp⟩
        · have dne : (((k + 2 : Nat) : Int) != IntKind.i64.wrap ((L.length : Int) - 1)) = true := by rw [ew]; exact bne_iff_ne.2 (by omega)
          refine Ok.cF (by rw [dne]; rfl) (Ok_some.2 ⟨true, rfl, ?_⟩)
          simp only [Bool.true_eq_false, false_iff]
          intro hd
          have := congrArg List.length hd
          simp at this; omega
      · rintro _ ⟨b, rfl, hb⟩
        refine Ok.to (x := b) rfl ?_
        cases b with
        | true =>
          have hne : ¬ L.drop (k + 2) = [[]] := fun h => by cases hb.2 h
          have e1 : IntKind.i64.wrap (((k + 2 : Nat) : Int) + 1) = ((k + 3 : Nat) : Int) := by rw [i64_id (by omega) (by omega)]; omega
          refine Ok.cT rfl ?_
          simp -implicitDefEqProofs only [b5, e1, Nat.reduceAdd, Nat.reduceMul, Nat.reduceLT, Int.reduceToNat, Int.reduceAdd, Int.reduceSub, Int.reduceMul, rsU, s_ldI, s_ldU, s_ldS, s_ldP, s_gtI, s_gtU, s_gtS, s_bleD, Nat.reduceLeDiff, decide_true, decide_false]
          exact Ok_some.2 (fin (k := k + 3) (c := 61) (by rw [hP]; unfold lendP; rw [if_neg hne]) rfl (E5.put (Nat.le_refl _) _))
        | false =>
          have hd := hb.1 rfl
          have hP : lparseT t = if rightP ⟨N, rr, ww⟩ = true then (⟨N, rr, ww⟩, 0, 0) else (nilF, 0, 5) := by rw [hP]; unfold lendP; rw [if_pos hd]
          refine Ok.cF rfl ?_
          refine Ok.to (x := .sl a N.length) (by simp -implicitDefEqProofs only [d5, Nat.reduceAdd, Nat.reduceMul, Nat.reduceLT, Int.reduceToNat, Int.reduceAdd, Int.reduceSub, Int.reduceMul, rsU, s_ldI, s_ldU, s_ldS, s_ldP, s_gtI, s_gtU, s_gtS, s_bleD, Nat.reduceLeDiff, decide_true, decide_false]) (Ok.to (x := (a, N.length)) rfl ?_)
          refine Ok.to (x := .sl e rr.length) (by simp -implicitDefEqProofs only [d5, Nat.reduceAdd, Nat.reduceMul, Nat.reduceLT, Int.reduceToNat, Int.reduceAdd, Int.reduceSub, Int.reduceMul, rsU, s_ldI, s_ldU, s_ldS, s_ldP, s_gtI, s_gtU, s_gtS, s_bleD, Nat.reduceLeDiff, decide_true, decide_false]) (Ok.to (x := (e, rr.length)) rfl ?_)
          refine Ok.to (x := .sl e2 ww.length) (by simp -implicitDefEqProofs only [d5, Nat.reduceAdd, Nat.reduceMul, Nat.reduceLT, Int.reduceToNat, Int.reduceAdd, Int.reduceSub, Int.reduceMul, rsU, s_ldI, s_ldU, s_ldS, s_ldP, s_gtI, s_gtU, s_gtS, s_bleD, Nat.reduceLeDiff, decide_true, decide_false]) (Ok.to (x := (e2, ww.length)) rfl ?_)
          have frd : FRd σ5 ⟨N, rr, ww⟩ (.agg [.sl a N.length, .sl e rr.length, .sl e2 ww.length]) := ⟨a, e, e2, rfl, NodesR.own own5 im, he, he2⟩
          have few : (⟨N, rr, ww⟩ : FV).few := ⟨by show N.length ≤ _; omega, fun x hx => ⟨by have := (hNx x hx).1; omega, by have := (hNx x hx).2; omega⟩, by show rr.length ≤ _; omega, by show ww.length ≤ _; omega⟩
          refine Ok.step (right_ok frd few) ?_
          rintro ⟨v, σ6⟩ ⟨v1, E6⟩
          simp only at v1 E6
          subst v1
          refine Ok.to (x := rightP ⟨N, rr, ww⟩) rfl ?_
          have n6 := E6.next
          have b6 : σ6.blk σ.next = some (.cells true 25 [.sl .nil 0, .sl .nil 0, .sl .nil 0]) := by rw [E6.blk _ (by omega)]; exact b5
          have d6 : σ6.blk σ1.next = some (.cells true 25 [.sl a N.length, .sl e rr.length, .sl e2 ww.length]) := by rw [E6.blk _ (by omega)]; exact d5
          cases hR : rightP ⟨N, rr, ww⟩ with
          | false =>
            rw [hR] at hP
            refine Ok.cT rfl ?_
            simp -implicitDefEqProofs only [b6, Nat.reduceAdd, Nat.reduceMul, Nat.reduceLT, Int.reduceToNat, Int.reduceAdd, Int.reduceSub, Int.reduceMul, rsU, s_ldI, s_ldU, s_ldS, s_ldP, s_gtI, s_gtU, s_gtS, s_bleD, Nat.reduceLeDiff, decide_true, decide_false]
            exact Ok_some.2 (fin (k := 0) (c := 5) hP rfl ((E5.trans E6).put (Nat.le_refl _) _))
          | true =>
            rw [hR, if_pos rfl] at hP
            refine Ok.cF rfl ?_
            simp -implicitDefEqProofs only [b6, d6, Nat.reduceAdd, Nat.reduceMul, Nat.reduceLT, Int.reduceToNat, Int.reduceAdd, Int.reduceSub, Int.reduceMul, rsU, s_ldI, s_ldU, s_ldS, s_ldP, s_gtI, s_gtU, s_gtS, s_bleD, Nat.reduceLeDiff, decide_true, decide_false]
            have own6 : OwnS (σ6.put σ.next (.cells true 25 [.sl a N.length, .sl e rr.length, .sl e2 ww.length])) 48 7 a N.length vs := own5.of n6 fun b hb => by rw [s_bn (by have := fr b hb; omega), E6.blk _ (own5.lt b hb)]
            obtain ⟨f, f1, f2⟩ := form_fz (k := 0) (m := 0) own6 im he he2
            exact Ok_some.2 ⟨_, _, f1, fun b hb => by have := fr b hb; omega, (E5.trans E6).put (Nat.le_refl _) _, by rw [hP]; exact ⟨f, rfl, f2⟩⟩
    · obtain ⟨m, hT, h1, h2⟩ := hr
      exact fin (k := m) (c := 61) (by rw [hP]; exact hT) h1 (toE (L04.trans h2))
  · obtain ⟨m, hgo, h1, h2⟩ := hr
    have n1' := L2.next
    have h2 : Low σ.next ((σ1.bump 1).put σ1.next (.cells true 25 [.sl .nil 0, .sl .nil 0, .sl .nil 0])) r.2 := h2
    refine fin (k := m) (c := 61) (by rw [hP, hgo]) h1 ⟨by have := h2.next; omega, fun b hb => ?_⟩
    rw [h2.blk b hb, L2.blk b (by omega), E1.blk b hb]
end Go.Abs.Tryd
