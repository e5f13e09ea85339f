/-
  Forms: what their nodes are charged, and the young form, of the program and of the document. No conditions.
-/
import Derived.Test.YtnbichnjfamdkaaGreatT3
import Derived.Test.YtnbichnjfamdkaaGreatM12
set_option linter.unusedVariables false
set_option linter.unusedSimpArgs false
set_option linter.constructorNameAsVariable false
set_option linter.unusedSimpArgs false
set_option linter.unusedVariables false
set_option maxHeartbeats 2000000
namespace Go.Abs.Tryz
open Go Go.Abs
variable {O : Type}
theorem Ok.to {A B : Type} {m : Option A} {k : A → Option B} {Q : B → Prop} {x : A} (h : m = some x) (hk : Ok (k x) Q) : Ok (m.bind k) Q := by subst h; exact hk
theorem Ok.cT {A : Type} {c : Bool} {x y : Option A} {Q : A → Prop} (h : c = true) (hx : Ok x Q) : Ok (bif c then x else y) Q := by subst h; exact hx
theorem Ok.cF {A : Type} {c : Bool} {x y : Option A} {Q : A → Prop} (h : c = false) (hx : Ok y Q) : Ok (bif c then x else y) Q := by subst h; exact hx
theorem chkE_eq {x y : Option AV} (h : x = y) : chkE x y = some () := s_chk h
theorem rdNewN {σ : AH O} {el b es : Nat} {cs : List AV} (h : cs.length = es) : (σ.put b (.cells true el cs)).rdSl (.loc (.n b) 0 es) 1 es = some cs := by
 have : Rd (σ.put b (.cells true el cs)) es (.loc (.n b) 0 es) 1 cs := ⟨by omega, rfl, cs, by simp [AH.cs], by omega, by rw [List.drop_zero, List.take_of_length_le (by omega)]⟩
 exact this.rdSl
theorem growV {σ σ0 : AH O} {el : TypeId} {es : Nat} {a : SA} {n : Nat} {cs vs : List AV} (ho : OwnS σ0 el es a n cs) (E : Ext σ0 σ) {b : Nat} (hb : σ0.next ≤ b) (hb2 : b + 1 < σ.next) (hv : vs.length = es) :
  Ok ((σ.put b (.cells true el vs)).appSl (b + 1) el es a n 1 vs) fun r => ∃ a', r.1 = .sl a' (n + 1) ∧ OwnS r.2 el es a' (n + 1) (cs ++ vs) ∧ σ.next = r.2.next ∧ (∀ k, k < σ0.next → k ∉ SA.bk a → r.2.blk k = σ.blk k) ∧ ∀ k ∈ SA.bk a', k = b + 1 := by
 have hlt := ho.lt
 generalize hσ : σ.put b (.cells true el vs) = σ1
 have n1 : σ1.next = σ.next := by rw [← hσ]; rfl
 have b1 : ∀ k, k < σ0.next → σ1.blk k = σ.blk k := fun k hk => by rw [← hσ, s_bn (by omega)]
 clear hσ
 have ho1 : OwnS σ1 el es a n cs := ho.of (by have := E.next; omega) fun k hk => by rw [b1 k (hlt k hk)]; exact E.blk k (hlt k hk)
 refine (app_ok (nid := b + 1) ho1 (fun hm => by have := hlt _ hm; omega) (by omega) (show vs.length = 1 * es by omega)).mono fun r ⟨a', g1, g2, g3, g4, g5⟩ => ⟨a', g1, g2, by omega, fun k hk hm => (g4 k (by omega) hm).trans (b1 k hk), g5⟩
theorem clone_i64 {σ : AH O} {a : SA} {l : List Int} (h : Ints .i64 a l) (hl : l.length ≤ 100000) : Ok (slices_Clone___int_int_ [.sl a l.length] σ) fun r => (∃ a', r.1 = .sl a' l.length ∧ Ints .i64 a' l) ∧ Ext σ r.2 := by
 unfold slices_Clone___int_int_
 refine frz_ok (s := slices_Clone___int_int__c) (Q := fun v => ∃ a', v = .sl a' l.length ∧ Ints .i64 a' l) ?_
 unfold slices_Clone___int_int__c
 refine Ok.cT rfl ?_
 refine Ok.to (x := (a, l.length)) rfl ?_
 cases hn : SA.isNil a with
 | true =>
  obtain ⟨rfl, rfl⟩ := h.isNil hn
  refine Ok.cT rfl (Ok_some.2 ⟨_, [], FZ.flat (d := 7) rfl, by simp, Ext.refl _, .nil, rfl, h⟩)
 | false =>
  refine Ok.cF rfl ?_
  have rd := (h.imm O ((σ.bump 2).put σ.next (.cells true 3 []))).rdSl
  refine Ok.to (x := l.map (AV.i .i64)) rd ?_
  refine Ok.cT (Nat.ble_eq_true_of_le (show (0 + l.length) * 9 ≤ _ by omega)) ?_
  refine Ok.step (cpyN_ok (by simp)) ?_
  rintro ⟨v, σ2⟩ ⟨a', v1, own, E, fr⟩
  simp only at v1 own E
  subst v1
  refine Ok.to (x := (a', l.length)) rfl ?_
  obtain ⟨d, f1, f2⟩ := FZ.sl (d := 6) (L := []) own (fun _ _ => rfl) (FZL.flat (by simpa using flat_ints (k := .i64) l)) rfl (by simp)
  rw [List.append_nil] at f1
  exact Ok_some.2 ⟨_, _, f1, fr, E, d, rfl, Ints.mk f2⟩
theorem clone_u64 {σ : AH O} {a : SA} {l : List Int} (h : Ints .u64 a l) (hl : l.length ≤ 100000) : Ok (slices_Clone___uint64_uint64_ [.sl a l.length] σ) fun r => (∃ a', r.1 = .sl a' l.length ∧ Ints .u64 a' l) ∧ Ext σ r.2 := by
 unfold slices_Clone___uint64_uint64_
 refine frz_ok (s := slices_Clone___uint64_uint64__c) (Q := fun v => ∃ a', v = .sl a' l.length ∧ Ints .u64 a' l) ?_
 unfold slices_Clone___uint64_uint64__c
 refine Ok.cT rfl ?_
 refine Ok.to (x := (a, l.length)) rfl ?_
 cases hn : SA.isNil a with
 | true =>
  obtain ⟨rfl, rfl⟩ := h.isNil hn
  refine Ok.cT rfl (Ok_some.2 ⟨_, [], FZ.flat (d := 7) rfl, by simp, Ext.refl _, .nil, rfl, h⟩)
 | false =>
  refine Ok.cF rfl ?_
  have rd := (h.imm O ((σ.bump 2).put σ.next (.cells true 90 []))).rdSl
  refine Ok.to (x := l.map (AV.i .u64)) rd ?_
  refine Ok.cT (Nat.ble_eq_true_of_le (show (0 + l.length) * 9 ≤ _ by omega)) ?_
  refine Ok.step (cpyN_ok (by simp)) ?_
  rintro ⟨v, σ2⟩ ⟨a', v1, own, E, fr⟩
  simp only at v1 own E
  subst v1
  refine Ok.to (x := (a', l.length)) rfl ?_
  obtain ⟨d, f1, f2⟩ := FZ.sl (d := 6) (L := []) own (fun _ _ => rfl) (FZL.flat (by simpa using flat_ints (k := .u64) l)) rfl (by simp)
  rw [List.append_nil] at f1
  exact Ok_some.2 ⟨_, _, f1, fr, E, d, rfl, Ints.mk f2⟩
theorem form_fz3 {σ : AH O} {el el2 : TypeId} {N : List NV} {a b c : SA} {R W : List Int} {vs : List AV} (own : OwnS σ el 7 a N.length vs) (im : ImL (N.flatMap NV.row) vs) (hb : Ints .i64 b R) (ow : OwnS σ el2 1 c W.length (W.map (AV.i .i64))) (hd : ∀ k ∈ SA.bk a, k ∉ SA.bk c) :
  ∃ f, FZ 8 σ.blk (SA.bk a ++ SA.bk c) (.agg [.sl a N.length, .sl b R.length, .sl c W.length]) f ∧ (⟨N, R, W⟩ : FV).At f := by
 obtain ⟨d, f1, f2⟩ := FZ.sl (d := 5) (L := []) own (fun _ _ => rfl) (FZL.flat im.flat) rfl (by simp)
 obtain ⟨e, g1, g2⟩ := FZ.sl (d := 5) (L := []) ow (fun _ _ => rfl) (FZL.flat (by simpa using flat_ints (k := .i64) W)) rfl (by simp)
 rw [List.append_nil] at f1 g1
 have fb := hb.imm.flat
 have h0 : FZL 7 σ.blk (SA.bk c) [.sl c W.length] [.sl e W.length] := by
  have := FZL.cons g1 FZL.nil (by simp)
  simpa using this
 have h1 := FZL.cons0 (FZ.flat (H := σ.blk) (d := 6) (v := .sl b R.length) fb) h0
 have h2 := FZL.cons f1 h1 hd
 exact ⟨_, FZ.agg h2, d, b, e, rfl, ⟨fun _ => rfl, _, f2, im⟩, hb, Ints.mk g2⟩
def yng (x : NV) : NV := ⟨{ x.h with age := 0 }, x.P, x.R⟩
def youngP (F : FV) : FV := ⟨F.nodes.map yng, F.roots, F.weak.filter (· ≠ 0)⟩
def wordsS (N : List NV) (s : Int) : Int := (N.map fun x => chargeP x.h.p x.h.r s).sum
theorem wordsS_rng (N : List NV) (s : Int) : 0 ≤ wordsS N s ∧ wordsS N s ≤ 8197 * N.length := by
 induction N with
 | nil => simp [wordsS]
 | cons x N ih =>
  have := chargeP_rng x.h.p x.h.r s
  simp only [wordsS, List.map_cons, List.sum_cons, List.length_cons] at ih ⊢
  omega
theorem wordsS_snoc (N : List NV) (x : NV) (s : Int) : wordsS (N ++ [x]) s = wordsS N s + chargeP x.h.p x.h.r s := by simp [wordsS]
theorem cwords_ok' {σ : AH O} {F : FV} {v : AV} {s : Int} (hF : F.At v) (hn : F.nodes.length ≤ 1000) : Ok (canon_Words [v, .i .i64 s] σ) fun r => r.1 = .i .i64 (wordsS F.nodes s) ∧ Ext σ r.2 := by
 obtain ⟨a, b, c, rfl, iN, iR, iW⟩ := hF.it
 unfold canon_Words canon_Words_c
 refine Ok.cT rfl ?_
 refine Ok.to (x := [.sl a F.nodes.length, .sl b F.roots.length, .sl c F.weak.length]) rfl ?_
 refine Ok.to (x := (a, F.nodes.length)) rfl ?_
 refine Ok.to (x := (b, F.roots.length)) rfl ?_
 refine Ok.to (x := (c, F.weak.length)) rfl ?_
 refine Ok.to (x := s) rfl ?_
 have E1 : Ext σ ((σ.bump 1).put σ.next (.cells true 25 [.sl a F.nodes.length, .sl b F.roots.length, .sl c F.weak.length])) := ((Ext.refl σ).bump 1).put (Nat.le_refl _) _
 refine Ok.to (x := .sl a F.nodes.length) (by simp -implicitDefEqProofs only [Nat.reduceAdd, Nat.reduceMul, Nat.reduceLT, Int.reduceToNat, Int.reduceAdd, Int.reduceSub, Int.reduceMul, rsU, s_ldI, s_ldU, s_ldS, s_ldP, s_gtI, s_gtU, s_gtS, s_bleD, Nat.reduceLeDiff, decide_true, decide_false]) (Ok.to (x := (a, F.nodes.length)) rfl ?_)
 refine Ok.step (Q := fun r => r.1 = [.i .i64 (wordsS F.nodes s)] ∧ Ext σ r.2) ?_ ?_
 ·refine Ok.count F.nodes.length (fun k q => ∃ σ', q = ([.i .i64 (wordsS (F.nodes.take k) s), .i .i64 (k : Int)], σ') ∧ Ext σ σ') ?_ ?_ ⟨_, rfl, E1⟩
  ·rintro k _ hk ⟨σ', rfl, E⟩
   have hx : F.nodes[k]? = some F.nodes[k] := List.getElem?_eq_getElem hk
   have hmem := List.getElem_mem hk
   have htk : F.nodes.take (k + 1) = F.nodes.take k ++ [F.nodes[k]] := by rw [List.take_add_one, hx]; rfl
   have ltk : (F.nodes.take k).length = k := by rw [List.length_take]; omega
   generalize F.nodes[k] = x at *
   obtain ⟨bb, oo, cc, dd, ea, ic, id, hld⟩ := Row.node iN hx
   have hld := fun σ => hld O σ
   have hrf : SA.ref a = some (bb, oo) := by rw [ea]; rfl
   have dk : decide ((k : Int) < (F.nodes.length : Int)) = true := decide_eq_true (by omega)
   have d0 : decide ((0 : Int) ≤ (k : Int)) = true := decide_eq_true (by omega)
   have e1 : IntKind.i64.wrap ((k : Int) + 1) = ((k + 1 : Nat) : Int) := by rw [i64_id (by omega) (by omega)]; omega
   have w0 := wordsS_rng (F.nodes.take k) s
   rw [ltk] at w0
   have c0 := chargeP_rng x.h.p x.h.r s
   refine Ok.to (x := wordsS (F.nodes.take k) s) rfl ?_
   refine Ok.to (x := (k : Int)) rfl ?_
   refine Ok.cT dk ?_
   refine Ok.cT (by rw [d0, dk]; rfl) ?_
   refine Ok.to (x := (bb, oo)) hrf ?_
   refine Ok.to (x := .i .i64 x.h.p) ((hld _).1) (Ok.to (x := x.h.p) rfl ?_)
   refine Ok.to (x := .i .i64 x.h.r) ((hld _).2.1) (Ok.to (x := x.h.r) rfl ?_)
   refine Ok.to (x := .i .i64 x.h.site) ((hld _).2.2.1) (Ok.to (x := x.h.site) rfl ?_)
   refine Ok.to (x := .i .i64 x.h.age) ((hld _).2.2.2.1) (Ok.to (x := x.h.age) rfl ?_)
   refine Ok.to (x := .b x.h.large) ((hld _).2.2.2.2.1) (Ok.to (x := x.h.large) rfl ?_)
   refine Ok.to (x := .sl cc x.P.length) ((hld _).2.2.2.2.2.1) (Ok.to (x := (cc, x.P.length)) rfl ?_)
   refine Ok.to (x := .sl dd x.R.length) ((hld _).2.2.2.2.2.2) (Ok.to (x := (dd, x.R.length)) rfl ?_)
   refine Ok.to (x := (σ'.bump 1).put σ'.next (.cells true 77 [.i .i64 x.h.p, .i .i64 x.h.r, .i .i64 x.h.site, .i .i64 x.h.age, .b x.h.large, .sl cc x.P.length, .sl dd x.R.length])) (by simp -implicitDefEqProofs only [Nat.reduceAdd, Nat.reduceMul, Nat.reduceLT, Int.reduceToNat, Int.reduceAdd, Int.reduceSub, Int.reduceMul, rsU, s_ldI, s_ldU, s_ldS, s_ldP, s_gtI, s_gtU, s_gtS, s_bleD, Nat.reduceLeDiff, decide_true, decide_false]) ?_
   have E3 : Ext σ' ((σ'.bump 1).put σ'.next (.cells true 77 [.i .i64 x.h.p, .i .i64 x.h.r, .i .i64 x.h.site, .i .i64 x.h.age, .b x.h.large, .sl cc x.P.length, .sl dd x.R.length])) := ((Ext.refl σ').bump 1).put (Nat.le_refl _) _
   refine Ok.to (x := .i .i64 x.h.p) (by simp -implicitDefEqProofs only [Nat.reduceAdd, Nat.reduceMul, Nat.reduceLT, Int.reduceToNat, Int.reduceAdd, Int.reduceSub, Int.reduceMul, rsU, s_ldI, s_ldU, s_ldS, s_ldP, s_gtI, s_gtU, s_gtS, s_bleD, Nat.reduceLeDiff, decide_true, decide_false]) (Ok.to (x := x.h.p) rfl ?_)
   refine Ok.to (x := .i .i64 x.h.r) (by simp -implicitDefEqProofs only [Nat.reduceAdd, Nat.reduceMul, Nat.reduceLT, Int.reduceToNat, Int.reduceAdd, Int.reduceSub, Int.reduceMul, rsU, s_ldI, s_ldU, s_ldS, s_ldP, s_gtI, s_gtU, s_gtS, s_bleD, Nat.reduceLeDiff, decide_true, decide_false]) (Ok.to (x := x.h.r) rfl ?_)
   refine Ok.step (scharge_ok _ x.h.p x.h.r s) ?_
   rintro ⟨v, σ4⟩ ⟨v1, E4⟩
   simp only at v1 E4
   subst v1
   refine Ok.to (x := chargeP x.h.p x.h.r s) rfl ?_
   exact Ok_some.2 ⟨σ4, by rw [e1, htk, wordsS_snoc, i64_id (by omega) (by omega)], (E.trans E3).trans E4⟩
  ·rintro _ ⟨σ', rfl, E⟩
   refine Ok.to (x := wordsS (F.nodes.take F.nodes.length) s) rfl ?_
   refine Ok.to (x := (F.nodes.length : Int)) rfl ?_
   rw [List.take_length]
   exact Ok.cF (decide_eq_false (by omega)) (Ok_some.2 ⟨rfl, E⟩)
 rintro ⟨v, σ2⟩ ⟨v1, E⟩
 simp only at v1 E
 subst v1
 exact Ok.to (x := wordsS F.nodes s) rfl (Ok_some.2 ⟨rfl, E⟩)
theorem rwords_ok' {σ : AH O} {F : FV} {v : AV} {s : Int} (hF : F.At v) (hn : F.nodes.length ≤ 1000) : Ok (haymowref40_Words [v, .i .i64 s] σ) fun r => r.1 = .i .i64 (wordsS F.nodes s) ∧ Ext σ r.2 := by
 obtain ⟨a, b, c, rfl, iN, iR, iW⟩ := hF.it
 unfold haymowref40_Words haymowref40_Words_c
 refine Ok.cT rfl ?_
 refine Ok.to (x := [.sl a F.nodes.length, .sl b F.roots.length, .sl c F.weak.length]) rfl ?_
 refine Ok.to (x := (a, F.nodes.length)) rfl ?_
 refine Ok.to (x := (b, F.roots.length)) rfl ?_
 refine Ok.to (x := (c, F.weak.length)) rfl ?_
 refine Ok.to (x := s) rfl ?_
 obtain ⟨σ1, hσ1⟩ : ∃ y, (σ.bump 1).put σ.next (.cells true 30 [.sl a F.nodes.length, .sl b F.roots.length, .sl c F.weak.length]) = y := ⟨_, rfl⟩
 have b1 : σ1.blk σ.next = some (.cells true 30 [.sl a F.nodes.length, .sl b F.roots.length, .sl c F.weak.length]) := by rw [← hσ1]; exact s_bs
 have E1 : Ext σ σ1 := by rw [← hσ1]; exact ((Ext.refl σ).bump 1).put (Nat.le_refl _) _
 have n1 : σ1.next = σ.next + 1 := by rw [← hσ1]; rfl
 show Ok (Option.bind (loopF _ (_, (σ.bump 1).put σ.next (.cells true 30 [.sl a F.nodes.length, .sl b F.roots.length, .sl c F.weak.length]))) _) _
 rw [hσ1]
 clear hσ1
 refine Ok.step (Q := fun r => r.1 = [.i .i64 (wordsS F.nodes s)] ∧ Ext σ1 r.2) ?_ ?_
 ·refine Ok.count F.nodes.length (fun k q => ∃ σ', q = ([.i .i64 (wordsS (F.nodes.take k) s), .i .i64 (k : Int)], σ') ∧ Ext σ1 σ') ?_ ?_ ⟨_, rfl, Ext.refl _⟩
  ·rintro k _ hk ⟨σ', rfl, E⟩
   have c1 : σ'.blk σ.next = some (.cells true 30 [.sl a F.nodes.length, .sl b F.roots.length, .sl c F.weak.length]) := by rw [E.blk _ (by omega)]; exact b1
   have hx : F.nodes[k]? = some F.nodes[k] := List.getElem?_eq_getElem hk
   have hmem := List.getElem_mem hk
   have htk : F.nodes.take (k + 1) = F.nodes.take k ++ [F.nodes[k]] := by rw [List.take_add_one, hx]; rfl
   have ltk : (F.nodes.take k).length = k := by rw [List.length_take]; omega
   generalize F.nodes[k] = x at *
   obtain ⟨bb, oo, cc, dd, ea, ic, id, hld⟩ := Row.node iN hx
   have hld := fun σ => hld O σ
   have hrf : SA.ref a = some (bb, oo) := by rw [ea]; rfl
   have dk : decide ((k : Int) < (F.nodes.length : Int)) = true := decide_eq_true (by omega)
   have d0 : decide ((0 : Int) ≤ (k : Int)) = true := decide_eq_true (by omega)
   have e1 : IntKind.i64.wrap ((k : Int) + 1) = ((k + 1 : Nat) : Int) := by rw [i64_id (by omega) (by omega)]; omega
   have w0 := wordsS_rng (F.nodes.take k) s
   rw [ltk] at w0
   have c0 := chargeP_rng x.h.p x.h.r s
   refine Ok.to (x := wordsS (F.nodes.take k) s) rfl ?_
   refine Ok.to (x := (k : Int)) rfl ?_
   refine Ok.to (x := .sl a F.nodes.length) (by simp -implicitDefEqProofs only [c1, Nat.reduceAdd, Nat.reduceMul, Nat.reduceLT, Int.reduceToNat, Int.reduceAdd, Int.reduceSub, Int.reduceMul, rsU, s_ldI, s_ldU, s_ldS, s_ldP, s_gtI, s_gtU, s_gtS, s_bleD, Nat.reduceLeDiff, decide_true, decide_false]) (Ok.to (x := (a, F.nodes.length)) rfl ?_)
   refine Ok.cT dk ?_
   refine Ok.to (x := .sl a F.nodes.length) (by simp -implicitDefEqProofs only [c1, Nat.reduceAdd, Nat.reduceMul, Nat.reduceLT, Int.reduceToNat, Int.reduceAdd, Int.reduceSub, Int.reduceMul, rsU, s_ldI, s_ldU, s_ldS, s_ldP, s_gtI, s_gtU, s_gtS, s_bleD, Nat.reduceLeDiff, decide_true, decide_false]) (Ok.to (x := (a, F.nodes.length)) rfl ?_)
   refine Ok.cT (by rw [d0, dk]; rfl) ?_
   refine Ok.to (x := (bb, oo)) hrf ?_
   refine Ok.to (x := .i .i64 x.h.p) (hld _).1 (Ok.to (x := x.h.p) rfl ?_)
   refine Ok.to (x := .i .i64 x.h.r) (hld _).2.1 (Ok.to (x := x.h.r) rfl ?_)
   refine Ok.step (rcharge_ok _ x.h.p x.h.r s) ?_
   rintro ⟨v, σ4⟩ ⟨v1, E4⟩
   simp only at v1 E4
   subst v1
   refine Ok.to (x := chargeP x.h.p x.h.r s) rfl ?_
   exact Ok_some.2 ⟨σ4, by rw [e1, htk, wordsS_snoc, i64_id (by omega) (by omega)], E.trans E4⟩
  ·rintro _ ⟨σ', rfl, E⟩
   have c1 : σ'.blk σ.next = some (.cells true 30 [.sl a F.nodes.length, .sl b F.roots.length, .sl c F.weak.length]) := by rw [E.blk _ (by omega)]; exact b1
   refine Ok.to (x := wordsS (F.nodes.take F.nodes.length) s) rfl ?_
   refine Ok.to (x := (F.nodes.length : Int)) rfl ?_
   refine Ok.to (x := .sl a F.nodes.length) (by simp -implicitDefEqProofs only [c1, Nat.reduceAdd, Nat.reduceMul, Nat.reduceLT, Int.reduceToNat, Int.reduceAdd, Int.reduceSub, Int.reduceMul, rsU, s_ldI, s_ldU, s_ldS, s_ldP, s_gtI, s_gtU, s_gtS, s_bleD, Nat.reduceLeDiff, decide_true, decide_false]) (Ok.to (x := (a, F.nodes.length)) rfl ?_)
   rw [List.take_length]
   exact Ok.cF (decide_eq_false (by omega)) (Ok_some.2 ⟨rfl, E⟩)
 rintro ⟨v, σ2⟩ ⟨v1, E⟩
 simp only at v1 E
 subst v1
 exact Ok.to (x := wordsS F.nodes s) rfl (Ok_some.2 ⟨rfl, E1.trans E⟩)
end Go.Abs.Tryz
namespace Go.Abs.Tryz
open Go Go.Abs
variable {O : Type}
structure Low (b : Nat) (σ σ' : AH O) : Prop where
 next : σ.next ≤ σ'.next
 blk : ∀ k, k < b → σ'.blk k = σ.blk k
theorem Low.refl (b : Nat) (σ : AH O) : Low b σ σ := ⟨Nat.le_refl _, fun _ _ => rfl⟩
theorem Low.trans {b : Nat} {σ σ' σ'' : AH O} (h : Low b σ σ') (h' : Low b σ' σ'') : Low b σ σ'' := ⟨Nat.le_trans h.next h'.next, fun k hk => (h'.blk k hk).trans (h.blk k hk)⟩
theorem yng_row {x : NV} {c d : SA} (hc : Ints .i64 c x.P) (hd : Ints .u64 d x.R) : ImL (yng x).row ((yng x).cells c d) := NV.mk_ (x := yng x) hc hd
theorem XLcy1_ok {σ h6 : AH O} {F : FV} {a b' : SA} {m Bo : Nat}  (iN : Nodes a F.nodes) (hn : F.nodes.length ≤ 1000) (hx' : ∀ x ∈ F.nodes, x.few) (hBo : h6.next = Bo) (bo : σ.blk Bo = some (.cells true 25 [.sl .nil 0, .sl b' m, .sl .nil 0])) (nb : Bo < σ.next) :
  Ok (loopF (S := List AV × AH O) (T := List AV × AH O) (canon_Young_L1 (a, F.nodes.length) h6 slices_Clone___int_int_ slices_Clone___uint64_uint64_) ([.i .i64 0], σ)) fun r => r.1 = [] ∧ ∃ a' vs, r.2.blk Bo = some (.cells true 25 [.sl a' F.nodes.length, .sl b' m, .sl .nil 0]) ∧ OwnS r.2 77 7 a' F.nodes.length vs ∧ ImL ((F.nodes.map yng).flatMap NV.row) vs ∧ (∀ k ∈ SA.bk a', Bo < k) ∧ Low Bo σ r.2 := by
 refine Ok.count F.nodes.length (fun k q => ∃ a' vs σ', q = ([.i .i64 (k : Int)], σ') ∧ σ'.blk Bo = some (.cells true 25 [.sl a' k, .sl b' m, .sl .nil 0]) ∧ OwnS σ' 77 7 a' k vs ∧ ImL (((F.nodes.take k).map yng).flatMap NV.row) vs ∧ (∀ j ∈ SA.bk a', Bo < j) ∧ Low Bo σ σ') ?_ ?_ ⟨.nil, [], σ, rfl, bo, OwnS.nil _ _ _, .nil, by simp [SA.bk], Low.refl _ _⟩
 ·rintro k _ hk ⟨a', vs, σ', rfl, c1', own, im, fr, LW⟩
  have hx : F.nodes[k]? = some F.nodes[k] := List.getElem?_eq_getElem hk
  have hmem := List.getElem_mem hk
  have htk : F.nodes.take (k + 1) = F.nodes.take k ++ [F.nodes[k]] := by rw [List.take_add_one, hx]; rfl
  generalize F.nodes[k] = x at *
  obtain ⟨bb, oo, cc, dd, ea, ic, id, hld⟩ := Row.node iN hx
  have hld := fun σ => hld O σ
  have hrf : SA.ref a = some (bb, oo) := by rw [ea]; rfl
  have dk : decide ((k : Int) < (F.nodes.length : Int)) = true := decide_eq_true (by omega)
  have d0 : decide ((0 : Int) ≤ (k : Int)) = true := decide_eq_true (by omega)
  have e1 : IntKind.i64.wrap ((k : Int) + 1) = ((k + 1 : Nat) : Int) := by rw [i64_id (by omega) (by omega)]; omega
  have fx := hx' x hmem
  have n1 := LW.next
  refine Ok.to (x := (k : Int)) rfl ?_
  refine Ok.cT dk ?_
  refine Ok.cT (by rw [d0, dk]; rfl) ?_
  refine Ok.to (x := (bb, oo)) hrf ?_
  refine Ok.to (x := .i .i64 x.h.p) ((hld _).1) (Ok.to (x := x.h.p) rfl ?_)
  refine Ok.to (x := .i .i64 x.h.r) ((hld _).2.1) (Ok.to (x := x.h.r) rfl ?_)
  refine Ok.to (x := .i .i64 x.h.site) ((hld _).2.2.1) (Ok.to (x := x.h.site) rfl ?_)
  refine Ok.to (x := .i .i64 x.h.age) ((hld _).2.2.2.1) (Ok.to (x := x.h.age) rfl ?_)
  refine Ok.to (x := .b x.h.large) ((hld _).2.2.2.2.1) (Ok.to (x := x.h.large) rfl ?_)
  refine Ok.to (x := .sl cc x.P.length) ((hld _).2.2.2.2.2.1) (Ok.to (x := (cc, x.P.length)) rfl ?_)
  refine Ok.to (x := .sl dd x.R.length) ((hld _).2.2.2.2.2.2) (Ok.to (x := (dd, x.R.length)) rfl ?_)
  refine Ok.to (x := (σ'.bump 1).put σ'.next (.cells true 77 [.i .i64 x.h.p, .i .i64 x.h.r, .i .i64 x.h.site, .i .i64 x.h.age, .b x.h.large, .sl cc x.P.length, .sl dd x.R.length])) (by simp -implicitDefEqProofs only [Nat.reduceAdd, Nat.reduceMul, Nat.reduceLT, Int.reduceToNat, Int.reduceAdd, Int.reduceSub, Int.reduceMul, rsU, s_ldI, s_ldU, s_ldS, s_ldP, s_gtI, s_gtU, s_gtS, s_bleD, Nat.reduceLeDiff, decide_true, decide_false]) ?_
  refine Ok.to (x := (σ'.bump 1).put σ'.next (.cells true 77 [.i .i64 x.h.p, .i .i64 x.h.r, .i .i64 x.h.site, .i .i64 0, .b x.h.large, .sl cc x.P.length, .sl dd x.R.length])) (by simp -implicitDefEqProofs only [Nat.reduceAdd, Nat.reduceMul, Nat.reduceLT, Int.reduceToNat, Int.reduceAdd, Int.reduceSub, Int.reduceMul, rsU, s_ldI, s_ldU, s_ldS, s_ldP, s_gtI, s_gtU, s_gtS, s_bleD, Nat.reduceLeDiff, decide_true, decide_false]) ?_
  obtain ⟨σ3, hσ3⟩ : ∃ y, (σ'.bump 1).put σ'.next (.cells true 77 [.i .i64 x.h.p, .i .i64 x.h.r, .i .i64 x.h.site, .i .i64 0, .b x.h.large, .sl cc x.P.length, .sl dd x.R.length]) = y := ⟨_, rfl⟩
  have d3 : σ3.blk σ'.next = some (.cells true 77 [.i .i64 x.h.p, .i .i64 x.h.r, .i .i64 x.h.site, .i .i64 0, .b x.h.large, .sl cc x.P.length, .sl dd x.R.length]) := by rw [← hσ3]; exact s_bs
  have E3 : Ext σ' σ3 := by rw [← hσ3]; exact ((Ext.refl σ').bump 1).put (Nat.le_refl _) _
  have n3 : σ3.next = σ'.next + 1 := by rw [← hσ3]; rfl
  have c3 : σ3.blk Bo = some (.cells true 25 [.sl a' k, .sl b' m, .sl .nil 0]) := by rw [E3.blk _ (by omega)]; exact c1'
  rw [hσ3]
  clear hσ3
  refine Ok.to (x := .sl a' k) (by simp -implicitDefEqProofs only [hBo, c3, Nat.reduceAdd, Nat.reduceMul, Nat.reduceLT, Int.reduceToNat, Int.reduceAdd, Int.reduceSub, Int.reduceMul, rsU, s_ldI, s_ldU, s_ldS, s_ldP, s_gtI, s_gtU, s_gtS, s_bleD, Nat.reduceLeDiff, decide_true, decide_false]) (Ok.to (x := (a', k)) rfl ?_)
  refine Ok.to (x := .i .i64 x.h.p) (by simp -implicitDefEqProofs only [d3, Nat.reduceAdd, Nat.reduceMul, Nat.reduceLT, Int.reduceToNat, Int.reduceAdd, Int.reduceSub, Int.reduceMul, rsU, s_ldI, s_ldU, s_ldS, s_ldP, s_gtI, s_gtU, s_gtS, s_bleD, Nat.reduceLeDiff, decide_true, decide_false]) (Ok.to (x := x.h.p) rfl ?_)
  refine Ok.to (x := .i .i64 x.h.r) (by simp -implicitDefEqProofs only [d3, Nat.reduceAdd, Nat.reduceMul, Nat.reduceLT, Int.reduceToNat, Int.reduceAdd, Int.reduceSub, Int.reduceMul, rsU, s_ldI, s_ldU, s_ldS, s_ldP, s_gtI, s_gtU, s_gtS, s_bleD, Nat.reduceLeDiff, decide_true, decide_false]) (Ok.to (x := x.h.r) rfl ?_)
  refine Ok.to (x := .i .i64 x.h.site) (by simp -implicitDefEqProofs only [d3, Nat.reduceAdd, Nat.reduceMul, Nat.reduceLT, Int.reduceToNat, Int.reduceAdd, Int.reduceSub, Int.reduceMul, rsU, s_ldI, s_ldU, s_ldS, s_ldP, s_gtI, s_gtU, s_gtS, s_bleD, Nat.reduceLeDiff, decide_true, decide_false]) (Ok.to (x := x.h.site) rfl ?_)
  refine Ok.to (x := .i .i64 0) (by simp -implicitDefEqProofs only [d3, Nat.reduceAdd, Nat.reduceMul, Nat.reduceLT, Int.reduceToNat, Int.reduceAdd, Int.reduceSub, Int.reduceMul, rsU, s_ldI, s_ldU, s_ldS, s_ldP, s_gtI, s_gtU, s_gtS, s_bleD, Nat.reduceLeDiff, decide_true, decide_false]) (Ok.to (x := 0) rfl ?_)
  refine Ok.to (x := .b x.h.large) (by simp -implicitDefEqProofs only [d3, Nat.reduceAdd, Nat.reduceMul, Nat.reduceLT, Int.reduceToNat, Int.reduceAdd, Int.reduceSub, Int.reduceMul, rsU, s_ldI, s_ldU, s_ldS, s_ldP, s_gtI, s_gtU, s_gtS, s_bleD, Nat.reduceLeDiff, decide_true, decide_false]) (Ok.to (x := x.h.large) rfl ?_)
  refine Ok.to (x := .sl cc x.P.length) (by simp -implicitDefEqProofs only [d3, Nat.reduceAdd, Nat.reduceMul, Nat.reduceLT, Int.reduceToNat, Int.reduceAdd, Int.reduceSub, Int.reduceMul, rsU, s_ldI, s_ldU, s_ldS, s_ldP, s_gtI, s_gtU, s_gtS, s_bleD, Nat.reduceLeDiff, decide_true, decide_false]) (Ok.to (x := (cc, x.P.length)) rfl ?_)
  refine Ok.to (x := .sl dd x.R.length) (by simp -implicitDefEqProofs only [d3, Nat.reduceAdd, Nat.reduceMul, Nat.reduceLT, Int.reduceToNat, Int.reduceAdd, Int.reduceSub, Int.reduceMul, rsU, s_ldI, s_ldU, s_ldS, s_ldP, s_gtI, s_gtU, s_gtS, s_bleD, Nat.reduceLeDiff, decide_true, decide_false]) (Ok.to (x := (dd, x.R.length)) rfl ?_)
  refine Ok.step (clone_i64 ic (by have := fx.p; omega)) ?_
  rintro ⟨v, σ4⟩ ⟨⟨cc2, v1, ic2⟩, E4⟩
  simp only at v1 E4
  subst v1
  refine Ok.to (x := (cc2, x.P.length)) rfl ?_
  have n4 : σ3.next + 2 ≤ σ4.next := by simpa using E4.next
  have q4 : ∀ j, j < σ3.next → σ4.blk j = σ3.blk j := fun j hj => E4.blk j (by simp; omega)
  have d4 : σ4.blk σ'.next = some (.cells true 77 [.i .i64 x.h.p, .i .i64 x.h.r, .i .i64 x.h.site, .i .i64 0, .b x.h.large, .sl cc x.P.length, .sl dd x.R.length]) := by rw [q4 _ (by omega)]; exact d3
  have c4 : σ4.blk Bo = some (.cells true 25 [.sl a' k, .sl b' m, .sl .nil 0]) := by rw [q4 _ (by omega)]; exact c3
  refine Ok.to (x := ()) (chkE_eq (by simp -implicitDefEqProofs only [hBo, c4, Nat.reduceAdd, Nat.reduceMul, Nat.reduceLT, Int.reduceToNat, Int.reduceAdd, Int.reduceSub, Int.reduceMul, rsU, s_ldI, s_ldU, s_ldS, s_ldP, s_gtI, s_gtU, s_gtS, s_bleD, Nat.reduceLeDiff, decide_true, decide_false])) ?_
  refine Ok.to (x := ()) (chkE_eq (by simp -implicitDefEqProofs only [d4, Nat.reduceAdd, Nat.reduceMul, Nat.reduceLT, Int.reduceToNat, Int.reduceAdd, Int.reduceSub, Int.reduceMul, rsU, s_ldI, s_ldU, s_ldS, s_ldP, s_gtI, s_gtU, s_gtS, s_bleD, Nat.reduceLeDiff, decide_true, decide_false])) ?_
  refine Ok.to (x := ()) (chkE_eq (by simp -implicitDefEqProofs only [d4, Nat.reduceAdd, Nat.reduceMul, Nat.reduceLT, Int.reduceToNat, Int.reduceAdd, Int.reduceSub, Int.reduceMul, rsU, s_ldI, s_ldU, s_ldS, s_ldP, s_gtI, s_gtU, s_gtS, s_bleD, Nat.reduceLeDiff, decide_true, decide_false])) ?_
  refine Ok.to (x := ()) (chkE_eq (by simp -implicitDefEqProofs only [d4, Nat.reduceAdd, Nat.reduceMul, Nat.reduceLT, Int.reduceToNat, Int.reduceAdd, Int.reduceSub, Int.reduceMul, rsU, s_ldI, s_ldU, s_ldS, s_ldP, s_gtI, s_gtU, s_gtS, s_bleD, Nat.reduceLeDiff, decide_true, decide_false])) ?_
  refine Ok.to (x := ()) (chkE_eq (by simp -implicitDefEqProofs only [d4, Nat.reduceAdd, Nat.reduceMul, Nat.reduceLT, Int.reduceToNat, Int.reduceAdd, Int.reduceSub, Int.reduceMul, rsU, s_ldI, s_ldU, s_ldS, s_ldP, s_gtI, s_gtU, s_gtS, s_bleD, Nat.reduceLeDiff, decide_true, decide_false])) ?_
  refine Ok.to (x := ()) (chkE_eq (by simp -implicitDefEqProofs only [d4, Nat.reduceAdd, Nat.reduceMul, Nat.reduceLT, Int.reduceToNat, Int.reduceAdd, Int.reduceSub, Int.reduceMul, rsU, s_ldI, s_ldU, s_ldS, s_ldP, s_gtI, s_gtU, s_gtS, s_bleD, Nat.reduceLeDiff, decide_true, decide_false])) ?_
  refine Ok.to (x := ()) (chkE_eq (by simp -implicitDefEqProofs only [d4, Nat.reduceAdd, Nat.reduceMul, Nat.reduceLT, Int.reduceToNat, Int.reduceAdd, Int.reduceSub, Int.reduceMul, rsU, s_ldI, s_ldU, s_ldS, s_ldP, s_gtI, s_gtU, s_gtS, s_bleD, Nat.reduceLeDiff, decide_true, decide_false])) ?_
  refine Ok.step (clone_u64 id (by have := fx.r; omega)) ?_
  rintro ⟨v, σ5⟩ ⟨⟨dd2, v1, id2⟩, E5⟩
  simp only at v1 E5
  subst v1
  refine Ok.to (x := (dd2, x.R.length)) rfl ?_
  have n5 := E5.next
  have d5 : σ5.blk σ'.next = some (.cells true 77 [.i .i64 x.h.p, .i .i64 x.h.r, .i .i64 x.h.site, .i .i64 0, .b x.h.large, .sl cc x.P.length, .sl dd x.R.length]) := by rw [E5.blk _ (by omega)]; exact d4
  have c5 : σ5.blk Bo = some (.cells true 25 [.sl a' k, .sl b' m, .sl .nil 0]) := by rw [E5.blk _ (by omega)]; exact c4
  refine Ok.to (x := ()) (chkE_eq (by simp -implicitDefEqProofs only [hBo, c5, Nat.reduceAdd, Nat.reduceMul, Nat.reduceLT, Int.reduceToNat, Int.reduceAdd, Int.reduceSub, Int.reduceMul, rsU, s_ldI, s_ldU, s_ldS, s_ldP, s_gtI, s_gtU, s_gtS, s_bleD, Nat.reduceLeDiff, decide_true, decide_false])) ?_
  refine Ok.to (x := ()) (chkE_eq (by simp -implicitDefEqProofs only [d5, Nat.reduceAdd, Nat.reduceMul, Nat.reduceLT, Int.reduceToNat, Int.reduceAdd, Int.reduceSub, Int.reduceMul, rsU, s_ldI, s_ldU, s_ldS, s_ldP, s_gtI, s_gtU, s_gtS, s_bleD, Nat.reduceLeDiff, decide_true, decide_false])) ?_
  refine Ok.to (x := ()) (chkE_eq (by simp -implicitDefEqProofs only [d5, Nat.reduceAdd, Nat.reduceMul, Nat.reduceLT, Int.reduceToNat, Int.reduceAdd, Int.reduceSub, Int.reduceMul, rsU, s_ldI, s_ldU, s_ldS, s_ldP, s_gtI, s_gtU, s_gtS, s_bleD, Nat.reduceLeDiff, decide_true, decide_false])) ?_
  refine Ok.to (x := ()) (chkE_eq (by simp -implicitDefEqProofs only [d5, Nat.reduceAdd, Nat.reduceMul, Nat.reduceLT, Int.reduceToNat, Int.reduceAdd, Int.reduceSub, Int.reduceMul, rsU, s_ldI, s_ldU, s_ldS, s_ldP, s_gtI, s_gtU, s_gtS, s_bleD, Nat.reduceLeDiff, decide_true, decide_false])) ?_
  refine Ok.to (x := ()) (chkE_eq (by simp -implicitDefEqProofs only [d5, Nat.reduceAdd, Nat.reduceMul, Nat.reduceLT, Int.reduceToNat, Int.reduceAdd, Int.reduceSub, Int.reduceMul, rsU, s_ldI, s_ldU, s_ldS, s_ldP, s_gtI, s_gtU, s_gtS, s_bleD, Nat.reduceLeDiff, decide_true, decide_false])) ?_
  refine Ok.to (x := ()) (chkE_eq (by simp -implicitDefEqProofs only [d5, Nat.reduceAdd, Nat.reduceMul, Nat.reduceLT, Int.reduceToNat, Int.reduceAdd, Int.reduceSub, Int.reduceMul, rsU, s_ldI, s_ldU, s_ldS, s_ldP, s_gtI, s_gtU, s_gtS, s_bleD, Nat.reduceLeDiff, decide_true, decide_false])) ?_
  have E35 : Ext σ3 σ5 := ⟨by omega, fun j hj => (E5.blk j (by omega)).trans (q4 j hj)⟩
  refine Ok.to (x := [.i .i64 x.h.p, .i .i64 x.h.r, .i .i64 x.h.site, .i .i64 0, .b x.h.large, .sl cc2 x.P.length, .sl dd2 x.R.length]) (rdNewN rfl) ?_
  refine Ok.cT (Nat.ble_eq_true_of_le (show (k + 1) * 89 ≤ _ by omega)) ?_
  have own3 : OwnS σ3 77 7 a' k vs := own.of E3.next fun j hj => E3.blk j (own.lt j hj)
  refine Ok.step (growV own3 E35 (Nat.le_refl _) (by omega) rfl) ?_
  rintro ⟨v, σ6⟩ ⟨a2, v1, g2, g3, g4, g5⟩
  simp only at v1 g2 g3 g4
  subst v1
  refine Ok.to (x := (a2, k + 1)) rfl ?_
  have g3 : σ5.next = σ6.next := g3
  have n6 : σ3.next + 2 ≤ σ6.next := by omega
  have q6 : ∀ j, j < σ3.next → j ∉ SA.bk a' → σ6.blk j = σ3.blk j := fun j hj hm => (g4 j hj hm).trans (E35.blk j hj)
  have c6 : σ6.blk Bo = some (.cells true 25 [.sl a' k, .sl b' m, .sl .nil 0]) := by rw [q6 _ (by omega) (fun hm => by have := fr _ hm; omega)]; exact c3
  refine Ok.to (x := σ6.put Bo (.cells true 25 [.sl a2 (k + 1), .sl b' m, .sl .nil 0])) (by simp -implicitDefEqProofs only [hBo, c6, Nat.reduceAdd, Nat.reduceMul, Nat.reduceLT, Int.reduceToNat, Int.reduceAdd, Int.reduceSub, Int.reduceMul, rsU, s_ldI, s_ldU, s_ldS, s_ldP, s_gtI, s_gtU, s_gtS, s_bleD, Nat.reduceLeDiff, decide_true, decide_false]) ?_
  refine Ok_some.2 ⟨a2, vs ++ [.i .i64 x.h.p, .i .i64 x.h.r, .i .i64 x.h.site, .i .i64 0, .b x.h.large, .sl cc2 x.P.length, .sl dd2 x.R.length], _, by rw [e1], s_bs, ?_, ?_, fun j hj => by have := g5 j hj; omega, LW.trans ⟨by show σ'.next ≤ σ6.next; omega, fun j hj => ?_⟩⟩
  ·exact g2.of (Nat.le_refl _) fun j hj => by have := g5 j hj; exact s_bn (by omega)
  ·rw [htk, List.map_append, List.flatMap_append, List.map_singleton, List.flatMap_singleton]
   exact im.app (yng_row ic2 id2)
  ·rw [s_bn (by omega), q6 _ (by omega) (fun hm => by have := fr _ hm; omega), E3.blk _ (by omega)]
 ·rintro _ ⟨a', vs, σ', rfl, c1', own, im, fr, LW⟩
  refine Ok.to (x := (F.nodes.length : Int)) rfl ?_
  rw [List.take_length] at im
  exact Ok.cF (decide_eq_false (by omega)) (Ok_some.2 ⟨rfl, a', vs, c1', own, im, fr, LW⟩)
theorem XLry1_ok {σ h6 : AH O} {F : FV} {a b' : SA} {m Bo : Nat} {h : AH O} {B : Nat} {m1 m2 : Nat} {b1 c1 : SA} (hB : h.next = B) (hlt : B < Bo) (bx : σ.blk B = some (.cells true 30 [.sl a F.nodes.length, .sl b1 m1, .sl c1 m2])) (iN : Nodes a F.nodes) (hn : F.nodes.length ≤ 1000) (hx' : ∀ x ∈ F.nodes, x.few) (hBo : h6.next = Bo) (bo : σ.blk Bo = some (.cells true 30 [.sl .nil 0, .sl b' m, .sl .nil 0])) (nb : Bo < σ.next) :
  Ok (loopF (S := List AV × AH O) (T := List AV × AH O) (haymowref40_Young_L1 h h6) ([.i .i64 0], σ)) fun r => r.1 = [] ∧ ∃ a' vs, r.2.blk Bo = some (.cells true 30 [.sl a' F.nodes.length, .sl b' m, .sl .nil 0]) ∧ OwnS r.2 75 7 a' F.nodes.length vs ∧ ImL ((F.nodes.map yng).flatMap NV.row) vs ∧ (∀ k ∈ SA.bk a', Bo < k) ∧ Low Bo σ r.2 := by
 refine Ok.count F.nodes.length (fun k q => ∃ a' vs σ', q = ([.i .i64 (k : Int)], σ') ∧ σ'.blk Bo = some (.cells true 30 [.sl a' k, .sl b' m, .sl .nil 0]) ∧ OwnS σ' 75 7 a' k vs ∧ ImL (((F.nodes.take k).map yng).flatMap NV.row) vs ∧ (∀ j ∈ SA.bk a', Bo < j) ∧ Low Bo σ σ') ?_ ?_ ⟨.nil, [], σ, rfl, bo, OwnS.nil _ _ _, .nil, by simp [SA.bk], Low.refl _ _⟩
 ·rintro k _ hk ⟨a', vs, σ', rfl, c1', own, im, fr, LW⟩
  have hx : F.nodes[k]? = some F.nodes[k] := List.getElem?_eq_getElem hk
  have hmem := List.getElem_mem hk
  have htk : F.nodes.take (k + 1) = F.nodes.take k ++ [F.nodes[k]] := by rw [List.take_add_one, hx]; rfl
  generalize F.nodes[k] = x at *
  obtain ⟨bb, oo, cc, dd, ea, ic, id, hld⟩ := Row.node iN hx
  have hld := fun σ => hld O σ
  have hrf : SA.ref a = some (bb, oo) := by rw [ea]; rfl
  have dk : decide ((k : Int) < (F.nodes.length : Int)) = true := decide_eq_true (by omega)
  have d0 : decide ((0 : Int) ≤ (k : Int)) = true := decide_eq_true (by omega)
  have e1 : IntKind.i64.wrap ((k : Int) + 1) = ((k + 1 : Nat) : Int) := by rw [i64_id (by omega) (by omega)]; omega
  have fx := hx' x hmem
  have n1 := LW.next
  have bx' : σ'.blk B = some (.cells true 30 [.sl a F.nodes.length, .sl b1 m1, .sl c1 m2]) := by rw [LW.blk _ (by omega)]; exact bx
  refine Ok.to (x := (k : Int)) rfl ?_
  refine Ok.to (x := .sl a F.nodes.length) (by simp -implicitDefEqProofs only [hB, bx', Nat.reduceAdd, Nat.reduceMul, Nat.reduceLT, Int.reduceToNat, Int.reduceAdd, Int.reduceSub, Int.reduceMul, rsU, s_ldI, s_ldU, s_ldS, s_ldP, s_gtI, s_gtU, s_gtS, s_bleD, Nat.reduceLeDiff, decide_true, decide_false]) (Ok.to (x := (a, F.nodes.length)) rfl ?_)
  refine Ok.cT dk ?_
  refine Ok.to (x := .sl a F.nodes.length) (by simp -implicitDefEqProofs only [hB, bx', Nat.reduceAdd, Nat.reduceMul, Nat.reduceLT, Int.reduceToNat, Int.reduceAdd, Int.reduceSub, Int.reduceMul, rsU, s_ldI, s_ldU, s_ldS, s_ldP, s_gtI, s_gtU, s_gtS, s_bleD, Nat.reduceLeDiff, decide_true, decide_false]) (Ok.to (x := (a, F.nodes.length)) rfl ?_)
  refine Ok.cT (by rw [d0, dk]; rfl) ?_
  refine Ok.to (x := (bb, oo)) hrf ?_
  refine Ok.to (x := .i .i64 x.h.p) ((hld _).1) (Ok.to (x := x.h.p) rfl ?_)
  refine Ok.to (x := .i .i64 x.h.r) ((hld _).2.1) (Ok.to (x := x.h.r) rfl ?_)
  refine Ok.to (x := .i .i64 x.h.site) ((hld _).2.2.1) (Ok.to (x := x.h.site) rfl ?_)
  refine Ok.to (x := .i .i64 x.h.age) ((hld _).2.2.2.1) (Ok.to (x := x.h.age) rfl ?_)
  refine Ok.to (x := .b x.h.large) ((hld _).2.2.2.2.1) (Ok.to (x := x.h.large) rfl ?_)
  refine Ok.to (x := .sl cc x.P.length) ((hld _).2.2.2.2.2.1) (Ok.to (x := (cc, x.P.length)) rfl ?_)
  refine Ok.to (x := .sl dd x.R.length) ((hld _).2.2.2.2.2.2) (Ok.to (x := (dd, x.R.length)) rfl ?_)
  refine Ok.to (x := (σ'.bump 1).put σ'.next (.cells true 75 [.i .i64 x.h.p, .i .i64 x.h.r, .i .i64 x.h.site, .i .i64 x.h.age, .b x.h.large, .sl cc x.P.length, .sl dd x.R.length])) (by simp -implicitDefEqProofs only [Nat.reduceAdd, Nat.reduceMul, Nat.reduceLT, Int.reduceToNat, Int.reduceAdd, Int.reduceSub, Int.reduceMul, rsU, s_ldI, s_ldU, s_ldS, s_ldP, s_gtI, s_gtU, s_gtS, s_bleD, Nat.reduceLeDiff, decide_true, decide_false]) ?_
  refine Ok.to (x := (σ'.bump 1).put σ'.next (.cells true 75 [.i .i64 x.h.p, .i .i64 x.h.r, .i .i64 x.h.site, .i .i64 0, .b x.h.large, .sl cc x.P.length, .sl dd x.R.length])) (by simp -implicitDefEqProofs only [Nat.reduceAdd, Nat.reduceMul, Nat.reduceLT, Int.reduceToNat, Int.reduceAdd, Int.reduceSub, Int.reduceMul, rsU, s_ldI, s_ldU, s_ldS, s_ldP, s_gtI, s_gtU, s_gtS, s_bleD, Nat.reduceLeDiff, decide_true, decide_false]) ?_
  obtain ⟨σ3, hσ3⟩ : ∃ y, (σ'.bump 1).put σ'.next (.cells true 75 [.i .i64 x.h.p, .i .i64 x.h.r, .i .i64 x.h.site, .i .i64 0, .b x.h.large, .sl cc x.P.length, .sl dd x.R.length]) = y := ⟨_, rfl⟩
  have d3 : σ3.blk σ'.next = some (.cells true 75 [.i .i64 x.h.p, .i .i64 x.h.r, .i .i64 x.h.site, .i .i64 0, .b x.h.large, .sl cc x.P.length, .sl dd x.R.length]) := by rw [← hσ3]; exact s_bs
  have E3 : Ext σ' σ3 := by rw [← hσ3]; exact ((Ext.refl σ').bump 1).put (Nat.le_refl _) _
  have n3 : σ3.next = σ'.next + 1 := by rw [← hσ3]; rfl
  have c3 : σ3.blk Bo = some (.cells true 30 [.sl a' k, .sl b' m, .sl .nil 0]) := by rw [E3.blk _ (by omega)]; exact c1'
  rw [hσ3]
  clear hσ3
  refine Ok.to (x := .sl a' k) (by simp -implicitDefEqProofs only [hBo, c3, Nat.reduceAdd, Nat.reduceMul, Nat.reduceLT, Int.reduceToNat, Int.reduceAdd, Int.reduceSub, Int.reduceMul, rsU, s_ldI, s_ldU, s_ldS, s_ldP, s_gtI, s_gtU, s_gtS, s_bleD, Nat.reduceLeDiff, decide_true, decide_false]) (Ok.to (x := (a', k)) rfl ?_)
  refine Ok.to (x := .i .i64 x.h.p) (by simp -implicitDefEqProofs only [d3, Nat.reduceAdd, Nat.reduceMul, Nat.reduceLT, Int.reduceToNat, Int.reduceAdd, Int.reduceSub, Int.reduceMul, rsU, s_ldI, s_ldU, s_ldS, s_ldP, s_gtI, s_gtU, s_gtS, s_bleD, Nat.reduceLeDiff, decide_true, decide_false]) (Ok.to (x := x.h.p) rfl ?_)
  refine Ok.to (x := .i .i64 x.h.r) (by simp -implicitDefEqProofs only [d3, Nat.reduceAdd, Nat.reduceMul, Nat.reduceLT, Int.reduceToNat, Int.reduceAdd, Int.reduceSub, Int.reduceMul, rsU, s_ldI, s_ldU, s_ldS, s_ldP, s_gtI, s_gtU, s_gtS, s_bleD, Nat.reduceLeDiff, decide_true, decide_false]) (Ok.to (x := x.h.r) rfl ?_)
  refine Ok.to (x := .i .i64 x.h.site) (by simp -implicitDefEqProofs only [d3, Nat.reduceAdd, Nat.reduceMul, Nat.reduceLT, Int.reduceToNat, Int.reduceAdd, Int.reduceSub, Int.reduceMul, rsU, s_ldI, s_ldU, s_ldS, s_ldP, s_gtI, s_gtU, s_gtS, s_bleD, Nat.reduceLeDiff, decide_true, decide_false]) (Ok.to (x := x.h.site) rfl ?_)
  refine Ok.to (x := .i .i64 0) (by simp -implicitDefEqProofs only [d3, Nat.reduceAdd, Nat.reduceMul, Nat.reduceLT, Int.reduceToNat, Int.reduceAdd, Int.reduceSub, Int.reduceMul, rsU, s_ldI, s_ldU, s_ldS, s_ldP, s_gtI, s_gtU, s_gtS, s_bleD, Nat.reduceLeDiff, decide_true, decide_false]) (Ok.to (x := 0) rfl ?_)
  refine Ok.to (x := .b x.h.large) (by simp -implicitDefEqProofs only [d3, Nat.reduceAdd, Nat.reduceMul, Nat.reduceLT, Int.reduceToNat, Int.reduceAdd, Int.reduceSub, Int.reduceMul, rsU, s_ldI, s_ldU, s_ldS, s_ldP, s_gtI, s_gtU, s_gtS, s_bleD, Nat.reduceLeDiff, decide_true, decide_false]) (Ok.to (x := x.h.large) rfl ?_)
  refine Ok.to (x := .sl cc x.P.length) (by simp -implicitDefEqProofs only [d3, Nat.reduceAdd, Nat.reduceMul, Nat.reduceLT, Int.reduceToNat, Int.reduceAdd, Int.reduceSub, Int.reduceMul, rsU, s_ldI, s_ldU, s_ldS, s_ldP, s_gtI, s_gtU, s_gtS, s_bleD, Nat.reduceLeDiff, decide_true, decide_false]) (Ok.to (x := (cc, x.P.length)) rfl ?_)
  refine Ok.to (x := .sl dd x.R.length) (by simp -implicitDefEqProofs only [d3, Nat.reduceAdd, Nat.reduceMul, Nat.reduceLT, Int.reduceToNat, Int.reduceAdd, Int.reduceSub, Int.reduceMul, rsU, s_ldI, s_ldU, s_ldS, s_ldP, s_gtI, s_gtU, s_gtS, s_bleD, Nat.reduceLeDiff, decide_true, decide_false]) (Ok.to (x := (dd, x.R.length)) rfl ?_)
  refine Ok.to (x := [.i .i64 x.h.p, .i .i64 x.h.r, .i .i64 x.h.site, .i .i64 0, .b x.h.large, .sl cc x.P.length, .sl dd x.R.length]) (rdNewN rfl) ?_
  refine Ok.cT (Nat.ble_eq_true_of_le (show (k + 1) * 89 ≤ _ by omega)) ?_
  have own3 : OwnS σ3 75 7 a' k vs := own.of E3.next fun j hj => E3.blk j (own.lt j hj)
  refine Ok.step (growV (σ := σ3.bump 2) own3 ((Ext.refl σ3).bump 2) (Nat.le_refl _) (by simp) rfl) ?_
  rintro ⟨v, σ6⟩ ⟨a2, v1, g2, g3, g4, g5⟩
  simp only at v1 g2 g3 g4
  subst v1
  refine Ok.to (x := (a2, k + 1)) rfl ?_
  have g3 : (σ3.bump 2).next = σ6.next := g3
  have n6 : σ3.next + 2 ≤ σ6.next := by rw [← g3]; simp
  have q6 : ∀ j, j < σ3.next → j ∉ SA.bk a' → σ6.blk j = σ3.blk j := fun j hj hm => (g4 j hj hm)
  have c6 : σ6.blk Bo = some (.cells true 30 [.sl a' k, .sl b' m, .sl .nil 0]) := by rw [q6 _ (by omega) (fun hm => by have := fr _ hm; omega)]; exact c3
  refine Ok.to (x := σ6.put Bo (.cells true 30 [.sl a2 (k + 1), .sl b' m, .sl .nil 0])) (by simp -implicitDefEqProofs only [hBo, c6, Nat.reduceAdd, Nat.reduceMul, Nat.reduceLT, Int.reduceToNat, Int.reduceAdd, Int.reduceSub, Int.reduceMul, rsU, s_ldI, s_ldU, s_ldS, s_ldP, s_gtI, s_gtU, s_gtS, s_bleD, Nat.reduceLeDiff, decide_true, decide_false]) ?_
  refine Ok_some.2 ⟨a2, vs ++ [.i .i64 x.h.p, .i .i64 x.h.r, .i .i64 x.h.site, .i .i64 0, .b x.h.large, .sl cc x.P.length, .sl dd x.R.length], _, by rw [e1], s_bs, ?_, ?_, fun j hj => by have := g5 j hj; omega, LW.trans ⟨by show σ'.next ≤ σ6.next; omega, fun j hj => ?_⟩⟩
  ·exact g2.of (Nat.le_refl _) fun j hj => by have := g5 j hj; exact s_bn (by omega)
  ·rw [htk, List.map_append, List.flatMap_append, List.map_singleton, List.flatMap_singleton]
   exact im.app (yng_row ic id)
  ·rw [s_bn (by omega), q6 _ (by omega) (fun hm => by have := fr _ hm; omega), E3.blk _ (by omega)]
 ·rintro _ ⟨a', vs, σ', rfl, c1', own, im, fr, LW⟩
  refine Ok.to (x := (F.nodes.length : Int)) rfl ?_
  have bx' : σ'.blk B = some (.cells true 30 [.sl a F.nodes.length, .sl b1 m1, .sl c1 m2]) := by rw [LW.blk _ (by omega)]; exact bx
  refine Ok.to (x := .sl a F.nodes.length) (by simp -implicitDefEqProofs only [hB, bx', Nat.reduceAdd, Nat.reduceMul, Nat.reduceLT, Int.reduceToNat, Int.reduceAdd, Int.reduceSub, Int.reduceMul, rsU, s_ldI, s_ldU, s_ldS, s_ldP, s_gtI, s_gtU, s_gtS, s_bleD, Nat.reduceLeDiff, decide_true, decide_false]) (Ok.to (x := (a, F.nodes.length)) rfl ?_)
  rw [List.take_length] at im
  exact Ok.cF (decide_eq_false (by omega)) (Ok_some.2 ⟨rfl, a', vs, c1', own, im, fr, LW⟩)
theorem XLcy2_ok {σ h6 : AH O} {W : List Int} {c : SA} {x0 x1 : AV} {Bo : Nat}  (iW : Ints .i64 c W) (hn : W.length ≤ 1000) (hBo : h6.next = Bo) (bo : σ.blk Bo = some (.cells true 25 [x0, x1, .sl .nil 0])) (nb : Bo < σ.next) :
  Ok (loopF (S := List AV × AH O) (T := List AV × AH O) (canon_Young_L2 (c, W.length) h6) ([.i .i64 0], σ)) fun r => r.1 = [] ∧ ∃ c', r.2.blk Bo = some (.cells true 25 [x0, x1, .sl c' (W.filter (· ≠ 0)).length]) ∧ OwnS r.2 3 1 c' (W.filter (· ≠ 0)).length ((W.filter (· ≠ 0)).map (AV.i .i64)) ∧ (∀ k ∈ SA.bk c', σ.next ≤ k) ∧ Chg [Bo] σ r.2 := by
 refine Ok.count W.length (fun k q => ∃ V c' σ', V = (W.take k).filter (· ≠ 0) ∧ V.length ≤ k ∧ q = ([.i .i64 (k : Int)], σ') ∧ σ'.blk Bo = some (.cells true 25 [x0, x1, .sl c' V.length]) ∧ OwnS σ' 3 1 c' V.length (V.map (AV.i .i64)) ∧ (∀ j ∈ SA.bk c', σ.next ≤ j) ∧ Chg [Bo] σ σ') ?_ ?_ ⟨[], .nil, σ, by simp, Nat.le_refl _, rfl, bo, OwnS.nil _ _ _, by simp [SA.bk], Chg.refl _ _⟩
 ·rintro k _ hk ⟨V, c', σ', hV, hVk, rfl, c1', own, fr, C⟩
  have hx : W[k]? = some W[k] := List.getElem?_eq_getElem hk
  have htk : W.take (k + 1) = W.take k ++ [W[k]] := by rw [List.take_add_one, hx]; rfl
  generalize W[k] = x at *
  obtain ⟨b9, o9, hc9, ld⟩ := iW.at hx
  have hrf : SA.ref c = some (b9, o9) := by rw [hc9]; rfl
  have ld := fun σ => ld O σ
  have n1 := C.next
  have dk : decide ((k : Int) < (W.length : Int)) = true := decide_eq_true (by omega)
  have d0 : decide ((0 : Int) ≤ (k : Int)) = true := decide_eq_true (by omega)
  have e1 : IntKind.i64.wrap ((k : Int) + 1) = ((k + 1 : Nat) : Int) := by rw [i64_id (by omega) (by omega)]; omega
  refine Ok.to (x := (k : Int)) rfl ?_
  refine Ok.cT dk ?_
  refine Ok.cT (by rw [d0, dk]; rfl) ?_
  refine Ok.to (x := (b9, o9)) hrf ?_
  refine Ok.to (x := .i .i64 x) (by rw [Int.toNat_natCast, Nat.mul_one]; exact ld _) (Ok.to (x := x) rfl ?_)
  by_cases h0 : x = 0
  ·refine Ok.step (Q := fun r => r = ([], σ')) (Ok.cF (by rw [h0]; rfl) (Ok_some.2 rfl)) ?_
   rintro _ rfl
   refine Ok_some.2 ⟨V, c', σ', by rw [htk, List.filter_append, hV, h0]; simp, by omega, by rw [e1], c1', own, fr, C⟩
  ·refine Ok.step (Q := fun r => r.1 = [] ∧ ∃ c2, r.2.blk Bo = some (.cells true 25 [x0, x1, .sl c2 (V ++ [x]).length]) ∧ OwnS r.2 3 1 c2 (V ++ [x]).length ((V ++ [x]).map (AV.i .i64)) ∧ (∀ j ∈ SA.bk c2, σ.next ≤ j) ∧ Chg [Bo] σ r.2) ?_ ?_
   ·refine Ok.cT (bne_iff_ne.2 h0) ?_
    refine Ok.to (x := .sl c' V.length) (by simp -implicitDefEqProofs only [hBo, c1', Nat.reduceAdd, Nat.reduceMul, Nat.reduceLT, Int.reduceToNat, Int.reduceAdd, Int.reduceSub, Int.reduceMul, rsU, s_ldI, s_ldU, s_ldS, s_ldP, s_gtI, s_gtU, s_gtS, s_bleD, Nat.reduceLeDiff, decide_true, decide_false]) (Ok.to (x := (c', V.length)) rfl ?_)
    refine Ok.to (x := [.i .i64 x]) (rdNewN rfl) ?_
    refine Ok.cT (Nat.ble_eq_true_of_le (show (V.length + 1) * 9 ≤ _ by omega)) ?_
    refine Ok.step (growV (σ := σ'.bump 2) (b := σ'.next) own ((Ext.refl σ').bump 2) (Nat.le_refl _) (by simp) rfl) ?_
    rintro ⟨v, σ6⟩ ⟨a2, v1, g2, g3, g4, g5⟩
    simp only at v1 g2 g3 g4
    subst v1
    have g3 : (σ'.bump 2).next = σ6.next := g3
    have n6 : σ'.next + 2 = σ6.next := by rw [← g3]; rfl
    refine Ok.to (x := (a2, V.length + 1)) rfl ?_
    have c6 : σ6.blk Bo = some (.cells true 25 [x0, x1, .sl c' V.length]) := by rw [g4 _ (by omega) (fun hm => by have := fr _ hm; omega)]; exact c1'
    refine Ok.to (x := σ6.put Bo (.cells true 25 [x0, x1, .sl a2 (V.length + 1)])) (by simp -implicitDefEqProofs only [hBo, c6, Nat.reduceAdd, Nat.reduceMul, Nat.reduceLT, Int.reduceToNat, Int.reduceAdd, Int.reduceSub, Int.reduceMul, rsU, s_ldI, s_ldU, s_ldS, s_ldP, s_gtI, s_gtU, s_gtS, s_bleD, Nat.reduceLeDiff, decide_true, decide_false]) ?_
    refine Ok_some.2 ⟨rfl, a2, by rw [List.length_append]; exact s_bs, ?_, fun j hj => by have := g5 j hj; omega, ⟨by show σ.next ≤ σ6.next; omega, fun j hj hm => ?_⟩⟩
    ·rw [List.length_append, List.map_append]
     exact g2.of (Nat.le_refl _) fun j hj => by have := g5 j hj; exact s_bn (by omega)
    ·rw [s_bn (by simpa using hm), g4 _ (by omega) (fun h => by have := fr _ h; omega)]
     exact C.blk j hj hm
   ·rintro ⟨v, σ7⟩ ⟨v1, c2, c7, own7, fr7, C7⟩
    simp only at v1 c7 own7 C7
    subst v1
    refine Ok_some.2 ⟨V ++ [x], c2, σ7, by rw [htk, List.filter_append, hV]; simp [h0], by simp; omega, by rw [e1], c7, own7, fr7, C7⟩
 ·rintro _ ⟨V, c', σ', hV, hVk, rfl, c1', own, fr, C⟩
  rw [List.take_length] at hV
  subst hV
  refine Ok.to (x := (W.length : Int)) rfl ?_
  exact Ok.cF (decide_eq_false (by omega)) (Ok_some.2 ⟨rfl, c', c1', own, fr, C⟩)
theorem XLry2_ok {σ h6 : AH O} {W : List Int} {c : SA} {x0 x1 : AV} {Bo : Nat} {h : AH O} {B : Nat} {m1 m2 : Nat} {a1 b1 : SA} (hB : h.next = B) (hlt : B < Bo) (bx : σ.blk B = some (.cells true 30 [.sl a1 m1, .sl b1 m2, .sl c W.length])) (iW : Ints .i64 c W) (hn : W.length ≤ 1000) (hBo : h6.next = Bo) (bo : σ.blk Bo = some (.cells true 30 [x0, x1, .sl .nil 0])) (nb : Bo < σ.next) :
  Ok (loopF (S := List AV × AH O) (T := List AV × AH O) (haymowref40_Young_L2 h h6) ([.i .i64 0], σ)) fun r => r.1 = [] ∧ ∃ c', r.2.blk Bo = some (.cells true 30 [x0, x1, .sl c' (W.filter (· ≠ 0)).length]) ∧ OwnS r.2 3 1 c' (W.filter (· ≠ 0)).length ((W.filter (· ≠ 0)).map (AV.i .i64)) ∧ (∀ k ∈ SA.bk c', σ.next ≤ k) ∧ Chg [Bo] σ r.2 := by
 refine Ok.count W.length (fun k q => ∃ V c' σ', V = (W.take k).filter (· ≠ 0) ∧ V.length ≤ k ∧ q = ([.i .i64 (k : Int)], σ') ∧ σ'.blk Bo = some (.cells true 30 [x0, x1, .sl c' V.length]) ∧ OwnS σ' 3 1 c' V.length (V.map (AV.i .i64)) ∧ (∀ j ∈ SA.bk c', σ.next ≤ j) ∧ Chg [Bo] σ σ') ?_ ?_ ⟨[], .nil, σ, by simp, Nat.le_refl _, rfl, bo, OwnS.nil _ _ _, by simp [SA.bk], Chg.refl _ _⟩
 ·rintro k _ hk ⟨V, c', σ', hV, hVk, rfl, c1', own, fr, C⟩
  have hx : W[k]? = some W[k] := List.getElem?_eq_getElem hk
  have htk : W.take (k + 1) = W.take k ++ [W[k]] := by rw [List.take_add_one, hx]; rfl
  generalize W[k] = x at *
  obtain ⟨b9, o9, hc9, ld⟩ := iW.at hx
  have hrf : SA.ref c = some (b9, o9) := by rw [hc9]; rfl
  have ld := fun σ => ld O σ
  have n1 := C.next
  have dk : decide ((k : Int) < (W.length : Int)) = true := decide_eq_true (by omega)
  have d0 : decide ((0 : Int) ≤ (k : Int)) = true := decide_eq_true (by omega)
  have e1 : IntKind.i64.wrap ((k : Int) + 1) = ((k + 1 : Nat) : Int) := by rw [i64_id (by omega) (by omega)]; omega
  have bx' : σ'.blk B = some (.cells true 30 [.sl a1 m1, .sl b1 m2, .sl c W.length]) := by rw [C.blk _ (by omega) (by simp; omega)]; exact bx
  refine Ok.to (x := (k : Int)) rfl ?_
  refine Ok.to (x := .sl c W.length) (by simp -implicitDefEqProofs only [hB, bx', Nat.reduceAdd, Nat.reduceMul, Nat.reduceLT, Int.reduceToNat, Int.reduceAdd, Int.reduceSub, Int.reduceMul, rsU, s_ldI, s_ldU, s_ldS, s_ldP, s_gtI, s_gtU, s_gtS, s_bleD, Nat.reduceLeDiff, decide_true, decide_false]) (Ok.to (x := (c, W.length)) rfl ?_)
  refine Ok.cT dk ?_
  refine Ok.to (x := .sl c W.length) (by simp -implicitDefEqProofs only [hB, bx', Nat.reduceAdd, Nat.reduceMul, Nat.reduceLT, Int.reduceToNat, Int.reduceAdd, Int.reduceSub, Int.reduceMul, rsU, s_ldI, s_ldU, s_ldS, s_ldP, s_gtI, s_gtU, s_gtS, s_bleD, Nat.reduceLeDiff, decide_true, decide_false]) (Ok.to (x := (c, W.length)) rfl ?_)
  refine Ok.cT (by rw [d0, dk]; rfl) ?_
  refine Ok.to (x := (b9, o9)) hrf ?_
  refine Ok.to (x := .i .i64 x) (by rw [Int.toNat_natCast, Nat.mul_one]; exact ld _) (Ok.to (x := x) rfl ?_)
  by_cases h0 : x = 0
  ·refine Ok.step (Q := fun r => r = ([], σ')) (Ok.cF (by rw [h0]; rfl) (Ok_some.2 rfl)) ?_
   rintro _ rfl
   refine Ok_some.2 ⟨V, c', σ', by rw [htk, List.filter_append, hV, h0]; simp, by omega, by rw [e1], c1', own, fr, C⟩
  ·refine Ok.step (Q := fun r => r.1 = [] ∧ ∃ c2, r.2.blk Bo = some (.cells true 30 [x0, x1, .sl c2 (V ++ [x]).length]) ∧ OwnS r.2 3 1 c2 (V ++ [x]).length ((V ++ [x]).map (AV.i .i64)) ∧ (∀ j ∈ SA.bk c2, σ.next ≤ j) ∧ Chg [Bo] σ r.2) ?_ ?_
   ·refine Ok.cT (bne_iff_ne.2 h0) ?_
    refine Ok.to (x := .sl c' V.length) (by simp -implicitDefEqProofs only [hBo, c1', Nat.reduceAdd, Nat.reduceMul, Nat.reduceLT, Int.reduceToNat, Int.reduceAdd, Int.reduceSub, Int.reduceMul, rsU, s_ldI, s_ldU, s_ldS, s_ldP, s_gtI, s_gtU, s_gtS, s_bleD, Nat.reduceLeDiff, decide_true, decide_false]) (Ok.to (x := (c', V.length)) rfl ?_)
    refine Ok.to (x := .sl c W.length) (by simp -implicitDefEqProofs only [hB, bx', Nat.reduceAdd, Nat.reduceMul, Nat.reduceLT, Int.reduceToNat, Int.reduceAdd, Int.reduceSub, Int.reduceMul, rsU, s_ldI, s_ldU, s_ldS, s_ldP, s_gtI, s_gtU, s_gtS, s_bleD, Nat.reduceLeDiff, decide_true, decide_false]) (Ok.to (x := (c, W.length)) rfl ?_)
    refine Ok.cT (by rw [d0, dk]; rfl) ?_
    refine Ok.to (x := (b9, o9)) hrf ?_
    refine Ok.to (x := .i .i64 x) (by rw [Int.toNat_natCast, Nat.mul_one]; exact ld _) (Ok.to (x := x) rfl ?_)
    refine Ok.to (x := [.i .i64 x]) (rdNewN rfl) ?_
    refine Ok.cT (Nat.ble_eq_true_of_le (show (V.length + 1) * 9 ≤ _ by omega)) ?_
    refine Ok.step (growV (σ := σ'.bump 2) (b := σ'.next) own ((Ext.refl σ').bump 2) (Nat.le_refl _) (by simp) rfl) ?_
    rintro ⟨v, σ6⟩ ⟨a2, v1, g2, g3, g4, g5⟩
    simp only at v1 g2 g3 g4
    subst v1
    have g3 : (σ'.bump 2).next = σ6.next := g3
    have n6 : σ'.next + 2 = σ6.next := by rw [← g3]; rfl
    refine Ok.to (x := (a2, V.length + 1)) rfl ?_
    have c6 : σ6.blk Bo = some (.cells true 30 [x0, x1, .sl c' V.length]) := by rw [g4 _ (by omega) (fun hm => by have := fr _ hm; omega)]; exact c1'
    refine Ok.to (x := σ6.put Bo (.cells true 30 [x0, x1, .sl a2 (V.length + 1)])) (by simp -implicitDefEqProofs only [hBo, c6, Nat.reduceAdd, Nat.reduceMul, Nat.reduceLT, Int.reduceToNat, Int.reduceAdd, Int.reduceSub, Int.reduceMul, rsU, s_ldI, s_ldU, s_ldS, s_ldP, s_gtI, s_gtU, s_gtS, s_bleD, Nat.reduceLeDiff, decide_true, decide_false]) ?_
    refine Ok_some.2 ⟨rfl, a2, by rw [List.length_append]; exact s_bs, ?_, fun j hj => by have := g5 j hj; omega, ⟨by show σ.next ≤ σ6.next; omega, fun j hj hm => ?_⟩⟩
    ·rw [List.length_append, List.map_append]
     exact g2.of (Nat.le_refl _) fun j hj => by have := g5 j hj; exact s_bn (by omega)
    ·rw [s_bn (by simpa using hm), g4 _ (by omega) (fun h => by have := fr _ h; omega)]
     exact C.blk j hj hm
   ·rintro ⟨v, σ7⟩ ⟨v1, c2, c7, own7, fr7, C7⟩
    simp only at v1 c7 own7 C7
    subst v1
    refine Ok_some.2 ⟨V ++ [x], c2, σ7, by rw [htk, List.filter_append, hV]; simp [h0], by simp; omega, by rw [e1], c7, own7, fr7, C7⟩
 ·rintro _ ⟨V, c', σ', hV, hVk, rfl, c1', own, fr, C⟩
  rw [List.take_length] at hV
  subst hV
  have bx' : σ'.blk B = some (.cells true 30 [.sl a1 m1, .sl b1 m2, .sl c W.length]) := by rw [C.blk _ (by omega) (by simp; omega)]; exact bx
  refine Ok.to (x := (W.length : Int)) rfl ?_
  refine Ok.to (x := .sl c W.length) (by simp -implicitDefEqProofs only [hB, bx', Nat.reduceAdd, Nat.reduceMul, Nat.reduceLT, Int.reduceToNat, Int.reduceAdd, Int.reduceSub, Int.reduceMul, rsU, s_ldI, s_ldU, s_ldS, s_ldP, s_gtI, s_gtU, s_gtS, s_bleD, Nat.reduceLeDiff, decide_true, decide_false]) (Ok.to (x := (c, W.length)) rfl ?_)
  exact Ok.cF (decide_eq_false (by omega)) (Ok_some.2 ⟨rfl, c', c1', own, fr, C⟩)
theorem cyoung_ok {σ : AH O} {F : FV} {v : AV} (hF : F.At v) (fF : F.few) (hn : F.nodes.length ≤ 1000) (hw : F.weak.length ≤ 1000) : Ok (canon_Young [v] σ) fun r => (youngP F).At r.1 ∧ Ext σ r.2 := by
 unfold canon_Young
 refine frz_ok (s := canon_Young_c slices_Clone___int_int_ slices_Clone___uint64_uint64_) (Q := fun v => (youngP F).At v) ?_
 obtain ⟨a, b, c, rfl, iN, iR, iW⟩ := hF.it
 unfold canon_Young_c
 refine Ok.cT rfl ?_
 refine Ok.to (x := [.sl a F.nodes.length, .sl b F.roots.length, .sl c F.weak.length]) rfl ?_
 refine Ok.to (x := (a, F.nodes.length)) rfl ?_
 refine Ok.to (x := (b, F.roots.length)) rfl ?_
 refine Ok.to (x := (c, F.weak.length)) rfl ?_
 obtain ⟨h6, hh6⟩ : ∃ y, ((σ.bump 2).put σ.next (.cells true 25 [.sl a F.nodes.length, .sl b F.roots.length, .sl c F.weak.length])).put (σ.next + 1) (.cells true 25 [.sl .nil 0, .sl .nil 0, .sl .nil 0]) = y := ⟨_, rfl⟩
 have b1 : h6.blk σ.next = some (.cells true 25 [.sl a F.nodes.length, .sl b F.roots.length, .sl c F.weak.length]) := by rw [← hh6, s_bn (by omega)]; exact s_bs
 have b1' : h6.blk (σ.next + 1) = some (.cells true 25 [.sl .nil 0, .sl .nil 0, .sl .nil 0]) := by rw [← hh6]; exact s_bs
 have E1 : Ext σ h6 := by rw [← hh6]; exact (((Ext.refl σ).bump 2).put (Nat.le_refl _) _).put (by omega) _
 have n1 : h6.next = σ.next + 2 := by rw [← hh6]; rfl
 have b17 : (((σ.bump 2).put σ.next (.cells true 25 [.sl a F.nodes.length, .sl b F.roots.length, .sl c F.weak.length])).put (σ.next + 1) (.cells true 25 [.sl .nil 0, .sl .nil 0, .sl .nil 0])).blk σ.next = some (.cells true 25 [.sl a F.nodes.length, .sl b F.roots.length, .sl c F.weak.length]) := by rw [hh6]; exact b1
 refine Ok.to (x := .sl b F.roots.length) (by simp -implicitDefEqProofs only [b17, Nat.reduceAdd, Nat.reduceMul, Nat.reduceLT, Int.reduceToNat, Int.reduceAdd, Int.reduceSub, Int.reduceMul, rsU, s_ldI, s_ldU, s_ldS, s_ldP, s_gtI, s_gtU, s_gtS, s_bleD, Nat.reduceLeDiff, decide_true, decide_false]) (Ok.to (x := (b, F.roots.length)) rfl ?_)
 rw [hh6]
 refine Ok.step (clone_i64 iR (by have := fF.r; omega)) ?_
 rintro ⟨v, σ2⟩ ⟨⟨b', v1, iR'⟩, E2⟩
 simp only at v1 E2
 subst v1
 have n2 : h6.next + 1 ≤ σ2.next := by simpa using E2.next
 have q2 : ∀ j, j < h6.next → σ2.blk j = h6.blk j := fun j hj => E2.blk j (by simp; omega)
 refine Ok.to (x := (b', F.roots.length)) rfl ?_
 clear hh6 b17
 obtain ⟨σ3, hσ3⟩ : ∃ y, σ2.put h6.next (.cells true 25 [.sl .nil 0, .sl b' F.roots.length, .sl .nil 0]) = y := ⟨_, rfl⟩
 refine Ok.to (x := σ3) (by rw [← hσ3]; simp -implicitDefEqProofs only [Nat.reduceAdd, Nat.reduceMul, Nat.reduceLT, Int.reduceToNat, Int.reduceAdd, Int.reduceSub, Int.reduceMul, rsU, s_ldI, s_ldU, s_ldS, s_ldP, s_gtI, s_gtU, s_gtS, s_bleD, Nat.reduceLeDiff, decide_true, decide_false]) ?_
 have bo3 : σ3.blk h6.next = some (.cells true 25 [.sl .nil 0, .sl b' F.roots.length, .sl .nil 0]) := by rw [← hσ3]; exact s_bs
 have q3 : ∀ j, j < h6.next → σ3.blk j = h6.blk j := fun j hj => by rw [← hσ3, s_bn (by omega)]; exact q2 j hj
 have n3 : σ3.next = σ2.next := by rw [← hσ3]; rfl
 clear hσ3
 have b3 : σ3.blk σ.next = some (.cells true 25 [.sl a F.nodes.length, .sl b F.roots.length, .sl c F.weak.length]) := by rw [q3 _ (by omega)]; exact b1
 refine Ok.to (x := .sl a F.nodes.length) (by simp -implicitDefEqProofs only [b3, Nat.reduceAdd, Nat.reduceMul, Nat.reduceLT, Int.reduceToNat, Int.reduceAdd, Int.reduceSub, Int.reduceMul, rsU, s_ldI, s_ldU, s_ldS, s_ldP, s_gtI, s_gtU, s_gtS, s_bleD, Nat.reduceLeDiff, decide_true, decide_false]) (Ok.to (x := (a, F.nodes.length)) rfl ?_)
 refine Ok.step (XLcy1_ok (h6 := h6) (Bo := h6.next) iN hn fF.x rfl bo3 (by omega)) ?_
 rintro ⟨v, σ4⟩ ⟨v1, a', vs, bo4, own, im, fr, LW⟩
 simp only at v1 bo4 own LW
 subst v1
 have n4 := LW.next
 have b4 : σ4.blk σ.next = some (.cells true 25 [.sl a F.nodes.length, .sl b F.roots.length, .sl c F.weak.length]) := by rw [LW.blk _ (by omega)]; exact b3
 have b4' : σ4.blk (σ.next + 1) = some (.cells true 25 [.sl .nil 0, .sl .nil 0, .sl .nil 0]) := by rw [LW.blk _ (by omega), q3 _ (by omega)]; exact b1'
 refine Ok.to (x := .sl c F.weak.length) (by simp -implicitDefEqProofs only [b4, Nat.reduceAdd, Nat.reduceMul, Nat.reduceLT, Int.reduceToNat, Int.reduceAdd, Int.reduceSub, Int.reduceMul, rsU, s_ldI, s_ldU, s_ldS, s_ldP, s_gtI, s_gtU, s_gtS, s_bleD, Nat.reduceLeDiff, decide_true, decide_false]) (Ok.to (x := (c, F.weak.length)) rfl ?_)
 refine Ok.step (XLcy2_ok (σ := σ4) (h6 := h6) (Bo := h6.next) iW hw rfl bo4 (by omega)) ?_
 rintro ⟨v, σ5⟩ ⟨v1, c', bo5, ow, fr5, C⟩
 simp only at v1 bo5 ow C
 subst v1
 have n5 := C.next
 have own5 : OwnS σ5 77 7 a' F.nodes.length vs := own.of n5 fun j hj => C.blk j (own.lt j hj) (by have := fr j hj; simp; omega)
 have b5' : σ5.blk (σ.next + 1) = some (.cells true 25 [.sl .nil 0, .sl .nil 0, .sl .nil 0]) := by rw [C.blk _ (by omega) (by simp; omega)]; exact b4'
 refine Ok.to (x := .sl a' F.nodes.length) (by simp -implicitDefEqProofs only [bo5, Nat.reduceAdd, Nat.reduceMul, Nat.reduceLT, Int.reduceToNat, Int.reduceAdd, Int.reduceSub, Int.reduceMul, rsU, s_ldI, s_ldU, s_ldS, s_ldP, s_gtI, s_gtU, s_gtS, s_bleD, Nat.reduceLeDiff, decide_true, decide_false]) (Ok.to (x := (a', F.nodes.length)) rfl ?_)
 refine Ok.to (x := .sl b' F.roots.length) (by simp -implicitDefEqProofs only [bo5, Nat.reduceAdd, Nat.reduceMul, Nat.reduceLT, Int.reduceToNat, Int.reduceAdd, Int.reduceSub, Int.reduceMul, rsU, s_ldI, s_ldU, s_ldS, s_ldP, s_gtI, s_gtU, s_gtS, s_bleD, Nat.reduceLeDiff, decide_true, decide_false]) (Ok.to (x := (b', F.roots.length)) rfl ?_)
 refine Ok.to (x := .sl c' (F.weak.filter (· ≠ 0)).length) (by simp -implicitDefEqProofs only [bo5, Nat.reduceAdd, Nat.reduceMul, Nat.reduceLT, Int.reduceToNat, Int.reduceAdd, Int.reduceSub, Int.reduceMul, rsU, s_ldI, s_ldU, s_ldS, s_ldP, s_gtI, s_gtU, s_gtS, s_bleD, Nat.reduceLeDiff, decide_true, decide_false]) (Ok.to (x := (c', (F.weak.filter (· ≠ 0)).length)) rfl ?_)
 obtain ⟨σ6, hσ6⟩ : ∃ y, σ5.put (σ.next + 1) (.cells true 25 [.sl a' F.nodes.length, .sl b' F.roots.length, .sl c' (F.weak.filter (· ≠ 0)).length]) = y := ⟨_, rfl⟩
 refine Ok.to (x := σ6) (by rw [← hσ6]; simp -implicitDefEqProofs only [b5', Nat.reduceAdd, Nat.reduceMul, Nat.reduceLT, Int.reduceToNat, Int.reduceAdd, Int.reduceSub, Int.reduceMul, rsU, s_ldI, s_ldU, s_ldS, s_ldP, s_gtI, s_gtU, s_gtS, s_bleD, Nat.reduceLeDiff, decide_true, decide_false]) ?_
 have b6 : σ6.blk (σ.next + 1) = some (.cells true 25 [.sl a' F.nodes.length, .sl b' F.roots.length, .sl c' (F.weak.filter (· ≠ 0)).length]) := by rw [← hσ6]; exact s_bs
 have n6 : σ6.next = σ5.next := by rw [← hσ6]; rfl
 have q6 : ∀ j, j ≠ σ.next + 1 → σ6.blk j = σ5.blk j := fun j hj => by rw [← hσ6, s_bn hj]
 clear hσ6
 have own6 : OwnS σ6 77 7 a' F.nodes.length vs := own5.of (by omega) fun j hj => q6 j (by have := fr j hj; omega)
 have ow6 : OwnS σ6 3 1 c' (F.weak.filter (· ≠ 0)).length ((F.weak.filter (· ≠ 0)).map (AV.i .i64)) := ow.of (by omega) fun j hj => q6 j (by have := fr5 j hj; omega)
 refine Ok.to (x := .sl a' F.nodes.length) (by simp -implicitDefEqProofs only [b6, Nat.reduceAdd, Nat.reduceMul, Nat.reduceLT, Int.reduceToNat, Int.reduceAdd, Int.reduceSub, Int.reduceMul, rsU, s_ldI, s_ldU, s_ldS, s_ldP, s_gtI, s_gtU, s_gtS, s_bleD, Nat.reduceLeDiff, decide_true, decide_false]) (Ok.to (x := (a', F.nodes.length)) rfl ?_)
 refine Ok.to (x := .sl b' F.roots.length) (by simp -implicitDefEqProofs only [b6, Nat.reduceAdd, Nat.reduceMul, Nat.reduceLT, Int.reduceToNat, Int.reduceAdd, Int.reduceSub, Int.reduceMul, rsU, s_ldI, s_ldU, s_ldS, s_ldP, s_gtI, s_gtU, s_gtS, s_bleD, Nat.reduceLeDiff, decide_true, decide_false]) (Ok.to (x := (b', F.roots.length)) rfl ?_)
 refine Ok.to (x := .sl c' (F.weak.filter (· ≠ 0)).length) (by simp -implicitDefEqProofs only [b6, Nat.reduceAdd, Nat.reduceMul, Nat.reduceLT, Int.reduceToNat, Int.reduceAdd, Int.reduceSub, Int.reduceMul, rsU, s_ldI, s_ldU, s_ldS, s_ldP, s_gtI, s_gtU, s_gtS, s_bleD, Nat.reduceLeDiff, decide_true, decide_false]) (Ok.to (x := (c', (F.weak.filter (· ≠ 0)).length)) rfl ?_)
 have ln : F.nodes.length = (F.nodes.map yng).length := by simp
 rw [ln] at own6
 obtain ⟨f, f1, f2⟩ := form_fz3 own6 im iR' ow6 (fun j hj hm => by have := fr5 j hm; have := own.lt j hj; omega)
 rw [← ln] at f1
 refine Ok_some.2 ⟨f, _, f1, fun j hj => ?_, ⟨by show σ.next ≤ σ6.next; omega, fun j hj => ?_⟩, f2⟩
 ·rcases List.mem_append.1 hj with hj | hj
  ·have := fr j hj; omega
  ·have := fr5 j hj; omega
 ·rw [q6 _ (by omega), C.blk _ (by omega) (by simp; omega), LW.blk _ (by omega), q3 _ (by omega), E1.blk _ hj]
theorem ryoung_ok {σ : AH O} {F : FV} {v : AV} (hF : F.At v) (fF : F.few) (hn : F.nodes.length ≤ 1000) (hw : F.weak.length ≤ 1000) : Ok (haymowref40_Young [v] σ) fun r => (youngP F).At r.1 ∧ Ext σ r.2 := by
 unfold haymowref40_Young
 refine frz_ok (s := haymowref40_Young_c) (Q := fun v => (youngP F).At v) ?_
 obtain ⟨a, b, c, rfl, iN, iR, iW⟩ := hF.it
 unfold haymowref40_Young_c
 refine Ok.cT rfl ?_
 refine Ok.to (x := [.sl a F.nodes.length, .sl b F.roots.length, .sl c F.weak.length]) rfl ?_
 refine Ok.to (x := (a, F.nodes.length)) rfl ?_
 refine Ok.to (x := (b, F.roots.length)) rfl ?_
 refine Ok.to (x := (c, F.weak.length)) rfl ?_
 obtain ⟨h6, hh6⟩ : ∃ y, ((σ.bump 2).put σ.next (.cells true 30 [.sl a F.nodes.length, .sl b F.roots.length, .sl c F.weak.length])).put (σ.next + 1) (.cells true 30 [.sl .nil 0, .sl .nil 0, .sl .nil 0]) = y := ⟨_, rfl⟩
 have b1 : h6.blk σ.next = some (.cells true 30 [.sl a F.nodes.length, .sl b F.roots.length, .sl c F.weak.length]) := by rw [← hh6, s_bn (by omega)]; exact s_bs
 have b1' : h6.blk (σ.next + 1) = some (.cells true 30 [.sl .nil 0, .sl .nil 0, .sl .nil 0]) := by rw [← hh6]; exact s_bs
 have E1 : Ext σ h6 := by rw [← hh6]; exact (((Ext.refl σ).bump 2).put (Nat.le_refl _) _).put (by omega) _
 have n1 : h6.next = σ.next + 2 := by rw [← hh6]; rfl
 have b17 : (((σ.bump 2).put σ.next (.cells true 30 [.sl a F.nodes.length, .sl b F.roots.length, .sl c F.weak.length])).put (σ.next + 1) (.cells true 30 [.sl .nil 0, .sl .nil 0, .sl .nil 0])).blk σ.next = some (.cells true 30 [.sl a F.nodes.length, .sl b F.roots.length, .sl c F.weak.length]) := by rw [hh6]; exact b1
 refine Ok.to (x := .sl b F.roots.length) (by simp -implicitDefEqProofs only [b17, Nat.reduceAdd, Nat.reduceMul, Nat.reduceLT, Int.reduceToNat, Int.reduceAdd, Int.reduceSub, Int.reduceMul, rsU, s_ldI, s_ldU, s_ldS, s_ldP, s_gtI, s_gtU, s_gtS, s_bleD, Nat.reduceLeDiff, decide_true, decide_false]) (Ok.to (x := (b, F.roots.length)) rfl ?_)
 rw [hh6]
 obtain ⟨σ2, hσ2⟩ : ∃ y, h6.bump 1 = y := ⟨_, rfl⟩
 have n2 : h6.next + 1 ≤ σ2.next := by rw [← hσ2]; simp
 have q2 : ∀ j, j < h6.next → σ2.blk j = h6.blk j := fun j hj => by rw [← hσ2]; rfl
 rw [hσ2]
 clear hσ2
 obtain ⟨b', hb'⟩ : ∃ y, y = b := ⟨_, rfl⟩
 have iR' : Ints .i64 b' F.roots := by rw [hb']; exact iR
 rw [← hb']
 clear hh6 b17
 obtain ⟨σ3, hσ3⟩ : ∃ y, σ2.put h6.next (.cells true 30 [.sl .nil 0, .sl b' F.roots.length, .sl .nil 0]) = y := ⟨_, rfl⟩
 refine Ok.to (x := σ3) (by rw [← hσ3]; simp -implicitDefEqProofs only [Nat.reduceAdd, Nat.reduceMul, Nat.reduceLT, Int.reduceToNat, Int.reduceAdd, Int.reduceSub, Int.reduceMul, rsU, s_ldI, s_ldU, s_ldS, s_ldP, s_gtI, s_gtU, s_gtS, s_bleD, Nat.reduceLeDiff, decide_true, decide_false]) ?_
 have bo3 : σ3.blk h6.next = some (.cells true 30 [.sl .nil 0, .sl b' F.roots.length, .sl .nil 0]) := by rw [← hσ3]; exact s_bs
 have q3 : ∀ j, j < h6.next → σ3.blk j = h6.blk j := fun j hj => by rw [← hσ3, s_bn (by omega)]; exact q2 j hj
 have n3 : σ3.next = σ2.next := by rw [← hσ3]; rfl
 clear hσ3
 have b3 : σ3.blk σ.next = some (.cells true 30 [.sl a F.nodes.length, .sl b F.roots.length, .sl c F.weak.length]) := by rw [q3 _ (by omega)]; exact b1
 refine Ok.step (XLry1_ok (h := σ) (B := σ.next) (h6 := h6) (Bo := h6.next) rfl (by omega) b3 iN hn fF.x rfl bo3 (by omega)) ?_
 rintro ⟨v, σ4⟩ ⟨v1, a', vs, bo4, own, im, fr, LW⟩
 simp only at v1 bo4 own LW
 subst v1
 have n4 := LW.next
 have b4 : σ4.blk σ.next = some (.cells true 30 [.sl a F.nodes.length, .sl b F.roots.length, .sl c F.weak.length]) := by rw [LW.blk _ (by omega)]; exact b3
 have b4' : σ4.blk (σ.next + 1) = some (.cells true 30 [.sl .nil 0, .sl .nil 0, .sl .nil 0]) := by rw [LW.blk _ (by omega), q3 _ (by omega)]; exact b1'
 refine Ok.step (XLry2_ok (σ := σ4) (h := σ) (B := σ.next) (h6 := h6) (Bo := h6.next) rfl (by omega) b4 iW hw rfl bo4 (by omega)) ?_
 rintro ⟨v, σ5⟩ ⟨v1, c', bo5, ow, fr5, C⟩
 simp only at v1 bo5 ow C
 subst v1
 have n5 := C.next
 have own5 : OwnS σ5 75 7 a' F.nodes.length vs := own.of n5 fun j hj => C.blk j (own.lt j hj) (by have := fr j hj; simp; omega)
 have b5' : σ5.blk (σ.next + 1) = some (.cells true 30 [.sl .nil 0, .sl .nil 0, .sl .nil 0]) := by rw [C.blk _ (by omega) (by simp; omega)]; exact b4'
 refine Ok.to (x := .sl a' F.nodes.length) (by simp -implicitDefEqProofs only [bo5, Nat.reduceAdd, Nat.reduceMul, Nat.reduceLT, Int.reduceToNat, Int.reduceAdd, Int.reduceSub, Int.reduceMul, rsU, s_ldI, s_ldU, s_ldS, s_ldP, s_gtI, s_gtU, s_gtS, s_bleD, Nat.reduceLeDiff, decide_true, decide_false]) (Ok.to (x := (a', F.nodes.length)) rfl ?_)
 refine Ok.to (x := .sl b' F.roots.length) (by simp -implicitDefEqProofs only [bo5, Nat.reduceAdd, Nat.reduceMul, Nat.reduceLT, Int.reduceToNat, Int.reduceAdd, Int.reduceSub, Int.reduceMul, rsU, s_ldI, s_ldU, s_ldS, s_ldP, s_gtI, s_gtU, s_gtS, s_bleD, Nat.reduceLeDiff, decide_true, decide_false]) (Ok.to (x := (b', F.roots.length)) rfl ?_)
 refine Ok.to (x := .sl c' (F.weak.filter (· ≠ 0)).length) (by simp -implicitDefEqProofs only [bo5, Nat.reduceAdd, Nat.reduceMul, Nat.reduceLT, Int.reduceToNat, Int.reduceAdd, Int.reduceSub, Int.reduceMul, rsU, s_ldI, s_ldU, s_ldS, s_ldP, s_gtI, s_gtU, s_gtS, s_bleD, Nat.reduceLeDiff, decide_true, decide_false]) (Ok.to (x := (c', (F.weak.filter (· ≠ 0)).length)) rfl ?_)
 obtain ⟨σ6, hσ6⟩ : ∃ y, σ5.put (σ.next + 1) (.cells true 30 [.sl a' F.nodes.length, .sl b' F.roots.length, .sl c' (F.weak.filter (· ≠ 0)).length]) = y := ⟨_, rfl⟩
 refine Ok.to (x := σ6) (by rw [← hσ6]; simp -implicitDefEqProofs only [b5', Nat.reduceAdd, Nat.reduceMul, Nat.reduceLT, Int.reduceToNat, Int.reduceAdd, Int.reduceSub, Int.reduceMul, rsU, s_ldI, s_ldU, s_ldS, s_ldP, s_gtI, s_gtU, s_gtS, s_bleD, Nat.reduceLeDiff, decide_true, decide_false]) ?_
 have b6 : σ6.blk (σ.next + 1) = some (.cells true 30 [.sl a' F.nodes.length, .sl b' F.roots.length, .sl c' (F.weak.filter (· ≠ 0)).length]) := by rw [← hσ6]; exact s_bs
 have n6 : σ6.next = σ5.next := by rw [← hσ6]; rfl
 have q6 : ∀ j, j ≠ σ.next + 1 → σ6.blk j = σ5.blk j := fun j hj => by rw [← hσ6, s_bn hj]
 clear hσ6
 have own6 : OwnS σ6 75 7 a' F.nodes.length vs := own5.of (by omega) fun j hj => q6 j (by have := fr j hj; omega)
 have ow6 : OwnS σ6 3 1 c' (F.weak.filter (· ≠ 0)).length ((F.weak.filter (· ≠ 0)).map (AV.i .i64)) := ow.of (by omega) fun j hj => q6 j (by have := fr5 j hj; omega)
 refine Ok.to (x := .sl a' F.nodes.length) (by simp -implicitDefEqProofs only [b6, Nat.reduceAdd, Nat.reduceMul, Nat.reduceLT, Int.reduceToNat, Int.reduceAdd, Int.reduceSub, Int.reduceMul, rsU, s_ldI, s_ldU, s_ldS, s_ldP, s_gtI, s_gtU, s_gtS, s_bleD, Nat.reduceLeDiff, decide_true, decide_false]) (Ok.to (x := (a', F.nodes.length)) rfl ?_)
 refine Ok.to (x := .sl b' F.roots.length) (by simp -implicitDefEqProofs only [b6, Nat.reduceAdd, Nat.reduceMul, Nat.reduceLT, Int.reduceToNat, Int.reduceAdd, Int.reduceSub, Int.reduceMul, rsU, s_ldI, s_ldU, s_ldS, s_ldP, s_gtI, s_gtU, s_gtS, s_bleD, Nat.reduceLeDiff, decide_true, decide_false]) (Ok.to (x := (b', F.roots.length)) rfl ?_)
 refine Ok.to (x := .sl c' (F.weak.filter (· ≠ 0)).length) (by simp -implicitDefEqProofs only [b6, Nat.reduceAdd, Nat.reduceMul, Nat.reduceLT, Int.reduceToNat, Int.reduceAdd, Int.reduceSub, Int.reduceMul, rsU, s_ldI, s_ldU, s_ldS, s_ldP, s_gtI, s_gtU, s_gtS, s_bleD, Nat.reduceLeDiff, decide_true, decide_false]) (Ok.to (x := (c', (F.weak.filter (· ≠ 0)).length)) rfl ?_)
 have ln : F.nodes.length = (F.nodes.map yng).length := by simp
 rw [ln] at own6
 obtain ⟨f, f1, f2⟩ := form_fz3 own6 im iR' ow6 (fun j hj hm => by have := fr5 j hm; have := own.lt j hj; omega)
 rw [← ln] at f1
 refine Ok_some.2 ⟨f, _, f1, fun j hj => ?_, ⟨by show σ.next ≤ σ6.next; omega, fun j hj => ?_⟩, f2⟩
 ·rcases List.mem_append.1 hj with hj | hj
  ·have := fr j hj; omega
  ·have := fr5 j hj; omega
 ·rw [q6 _ (by omega), C.blk _ (by omega) (by simp; omega), LW.blk _ (by omega), q3 _ (by omega), E1.blk _ hj]
end Go.Abs.Tryz
