/-
  Layer 44: records that are gathered. No conditions.
-/
import Derived.Test.YteklninbijohcaaF1
import Derived.Test.YteklninbijohcaaS4l
set_option linter.unusedVariables false
set_option linter.unusedSimpArgs false
set_option linter.constructorNameAsVariable false
set_option linter.unusedSimpArgs false
set_option linter.unusedVariables false
set_option linter.unusedSectionVars false
set_option maxHeartbeats 1000000
namespace Go.Abs.Try
open Go Go.Abs
variable {O : Type}

/-- a record: a list of numbers -/
def rrow (r : List Int) : List TV := [ints .i64 r]
theorem rrow_len (r : List Int) : (rrow r).length = 1 := rfl
abbrev Recs (a : SA) (l : List (List Int)) : Prop := Row rrow 1 a l
theorem rrow_un {r : List Int} {us : List AV} (h : ImL (rrow r) us) : ∃ a, us = [.sl a r.length] ∧ Ints .i64 a r := by
  cases h with
  | cons h hc => cases hc; obtain ⟨a, rfl, i⟩ := ints_un h; exact ⟨a, rfl, i⟩
theorem rrow_mk {r : List Int} {a : SA} (h : Ints .i64 a r) : ImL (rrow r) [.sl a r.length] := .cons (ints_mk h) .nil
theorem rrow_deep (r : List Int) (d : Nat) : ∀ t ∈ rrow r, t.deep (d + 1) := by
  intro t ht
  simp [rrow] at ht
  subst ht
  unfold ints TV.deep
  intro t ht
  obtain ⟨x, _, hx⟩ := List.mem_flatMap.1 ht
  simp [int1] at hx
  subst hx
  unfold TV.deep; trivial
theorem recs_deep (el k n d : Nat) (l : List (List Int)) : (TV.sl el k n (l.flatMap rrow)).deep (d + 2) := by
  unfold TV.deep
  intro t ht
  obtain ⟨x, _, hx⟩ := List.mem_flatMap.1 ht
  exact rrow_deep x d t hx
/-- the maker: what it has gathered -/
structure Mk (base : Nat) (σ : AH O) (mb : Nat) (L : List (List Int)) : Prop where
  it : ∃ a el, σ.blk mb = some (.cells true el [.sl a L.length]) ∧ BldO base σ 24 1 rrow a L
  lt : mb < base
  top : base ≤ σ.next
theorem Mk.keep {base : Nat} {σ σ' : AH O} {mb : Nat} {L : List (List Int)} (h : Mk base σ mb L) (hn : σ.next ≤ σ'.next) (hm : σ'.blk mb = σ.blk mb) (hb : ∀ b, base ≤ b → b < σ.next → σ'.blk b = σ.blk b) : Mk base σ' mb L := by
  obtain ⟨⟨a, el, h1, h2⟩, h3, h4⟩ := h
  exact ⟨⟨a, el, hm.trans h1, h2.keep hn hb⟩, h3, by omega⟩
theorem Mk.ext {base : Nat} {σ σ' : AH O} {mb : Nat} {L : List (List Int)} (h : Mk base σ mb L) (e : Ext σ σ') : Mk base σ' mb L := h.keep e.next (e.blk mb (by have := h.lt; have := h.top; omega)) fun b _ hb => e.blk b hb
/-- behind a call of the maker -/
structure Made (base : Nat) (σ : AH O) (mb : Nat) (L : List (List Int)) (σ' : AH O) : Prop where
  m : Mk base σ' mb L
  n : σ.next ≤ σ'.next
  o : ∀ b, b < base → b ≠ mb → σ'.blk b = σ.blk b
theorem add_ok {σ : AH O} {mb base : Nat} {L : List (List Int)} {k : Int} {s : SA} {args : List Int} (h : Mk base σ mb L) (hs : Rd σ 1 s args.length (args.map (AV.i .i64))) (hsb : ∀ b ∈ SA.bk s, b < σ.next) (hl : L.length ≤ 1000000) (ha : args.length ≤ 1000000) :
    Ok (load_maker__add [.p (some (.n mb, 0)), .i .i64 k, .sl s args.length] σ) fun r => r.1 = .tup [] ∧ Made base σ mb (L ++ [k :: args]) r.2 := by
  obtain ⟨⟨a, el, hb, B⟩, hlt, htop⟩ := h
  have rs : ∀ x : Blk O, ((σ.bump 4).put σ.next x).rdSl s args.length 1 = some (args.map (AV.i .i64)) := fun x => (hs.of fun b hm => by have := hsb b hm; ((try simp only [rsD] at *); simp -implicitDefEqProofs (disch := (first | omega | rfl | assumption | (simp only [rsD]; first | omega | assumption))) only [s_bs, s_bn, s_kn, bump_blk])).rdSl
  have hbk := B.bk
  simp (config := { maxSteps := 2000000 }) -implicitDefEqProofs (disch := (first | omega | rfl | assumption | (simp only [rsD]; first | omega | assumption))) only [load_maker__add, load_maker__add_c, hb, rs, Nat.reduceAdd, Nat.reduceMul, Nat.reduceLT, Int.reduceToNat, Int.reduceAdd, Int.reduceSub, Int.reduceMul, rsU, rsC]
  refine Ok.step (app_ok (nid := σ.next + 1) (OwnS.new (cs := [.i .i64 k]) rfl s_bs (by simp)) (by simp [SA.bk]) (by simp) (show (args.map (AV.i .i64)).length = args.length * 1 by simp)) fun r ⟨a', g1, g2, g3, g4, g5⟩ => ?_
  obtain ⟨q, σ1⟩ := r
  simp only at g1 g2 g3 g4
  subst g1
  have hb1 : σ1.blk mb = some (.cells true el [.sl a L.length]) := by rw [g4 mb (by omega) (by simp [SA.bk]; omega)]; ((try simp only [rsD] at *); simp -implicitDefEqProofs (disch := (first | omega | rfl | assumption | (simp only [rsD]; first | omega | assumption))) only [s_bs, s_bn, s_kn, bump_blk]); exact hb
  have n1 : σ1.next = σ.next + 4 := by rw [g3]; simp
  simp (config := { maxSteps := 2000000 }) -implicitDefEqProofs (disch := (first | omega | rfl | assumption | (simp only [rsD]; first | omega | assumption))) only [hb1, eq_self, Nat.reduceAdd, Nat.reduceMul, Nat.reduceLT, Int.reduceToNat, Int.reduceAdd, Int.reduceSub, Int.reduceMul, rsU, rsC]
  have own : OwnS σ1 3 1 a' (1 + args.length) ((k :: args).map (AV.i .i64)) := g2
  have own2 : OwnS (σ1.put (σ.next + 1 + 1) (.cells true 24 [.sl a' (1 + args.length)])) 3 1 a' (1 + args.length) ((k :: args).map (AV.i .i64)) := own.of (by simp) fun b hm => by have := g5 b hm; ((try simp only [rsD] at *); simp -implicitDefEqProofs (disch := (first | omega | rfl | assumption | (simp only [rsD]; first | omega | assumption))) only [s_bs, s_bn, s_kn, bump_blk])
  have parts : OwL (σ1.put (σ.next + 1 + 1) (.cells true 24 [.sl a' (1 + args.length)])) ([k :: args].flatMap rrow) [.sl a' (1 + args.length)] (SA.bk a' ++ []) := by
    refine .cons ?_ .nil (by simp)
    have := Ow.leaves own2 (flat_ints (k :: args))
    rw [← int1_flat] at this
    have e : (ints .i64 (k :: args)) = .sl 3 1 (1 + args.length) ((k :: args).flatMap (int1 .i64)) := by unfold ints elK; rw [List.length_cons, Nat.add_comm]
    rw [e]; exact this
  refine Ok.step (B.app' (m := [k :: args]) htop (by simp; omega) (fun b h1 h2 => by rw [s_bn (by omega), g4 b (by omega) (by simp [SA.bk]; omega)]; ((try simp only [rsD] at *); simp -implicitDefEqProofs (disch := (first | omega | rfl | assumption | (simp only [rsD]; first | omega | assumption))) only [s_bs, s_bn, s_kn, bump_blk])) ⟨_, parts, fun b hm => by have := g5 b (by simpa using hm); omega⟩ (by omega) (by simp; omega)) fun r ⟨e', h1, h2, h3, h4, h5⟩ => ?_
  obtain ⟨q, σ2⟩ := r
  simp only at h1 h2 h3 h4
  subst h1
  have hb2 : σ2.blk mb = some (.cells true el [.sl a L.length]) := by rw [h4 mb (by omega) (fun hm => by have := hbk mb hm; omega), s_bn (by omega)]; exact hb1
  simp (config := { maxSteps := 2000000 }) -implicitDefEqProofs (disch := (first | omega | rfl | assumption | (simp only [rsD]; first | omega | assumption))) only [hb2, Nat.reduceAdd, Nat.reduceMul, Nat.reduceLT, Int.reduceToNat, Int.reduceAdd, Int.reduceSub, Int.reduceMul, rsU, rsC]
  have n2 : σ2.next = σ.next + 4 := by rw [h3]; simp [n1]
  refine Ok_some.2 ⟨rfl, ⟨⟨e', el, by rw [s_bs]; simp, h2.keep (by simp) fun b hb hm => s_bn (by omega)⟩, hlt, by simp; omega⟩, by show σ.next ≤ σ2.next; omega, fun b hb hne => ?_⟩
  show (AH.put _ _ _).blk b = _
  rw [s_bn hne, h4 b (by omega) (fun hm => by have := hbk b hm; omega), s_bn (by omega), g4 b (by omega) (by simp [SA.bk]; omega)]
  ((try simp only [rsD] at *); simp -implicitDefEqProofs (disch := (first | omega | rfl | assumption | (simp only [rsD]; first | omega | assumption))) only [s_bs, s_bn, s_kn, bump_blk])
/-- with the arguments side by side in a new block -/
theorem add_new {σ : AH O} {mb base el : Nat} {L : List (List Int)} {k : Int} {args : List Int} {n : Nat} (h : Mk base σ mb L) (hl : L.length ≤ 1000000) (ha : args.length ≤ 1000000) (hn : n = args.length) :
    Ok (load_maker__add [.p (some (.n mb, 0)), .i .i64 k, .sl (.loc (.n σ.next) 0 1) n] ((σ.bump 1).put σ.next (.cells true el (args.map (AV.i .i64))))) fun r => r.1 = .tup [] ∧ Made base σ mb (L ++ [k :: args]) r.2 := by
  subst hn
  have hlt := h.lt
  have htop := h.top
  have h' : Mk base ((σ.bump 1).put σ.next (.cells true el (args.map (AV.i .i64)))) mb L := h.ext (ext_of (by (try simp only [rsD] at *); omega) (fun b hb => by (try simp only [rsD] at *); simp -implicitDefEqProofs (disch := (first | omega | rfl | assumption | (simp only [rsD]; first | omega | assumption))) only [s_bn, s_kn, bump_blk]))
  have own : OwnS ((σ.bump 1).put σ.next (.cells true el (args.map (AV.i .i64)))) el 1 (.loc (.n σ.next) 0 1) args.length (args.map (AV.i .i64)) := OwnS.new (by simp) s_bs (by simp)
  refine (add_ok h' own.rd own.lt hl ha).mono ?_
  rintro r ⟨g1, g2⟩
  refine ⟨g1, g2.m, by have := g2.n; simp only [rsD] at this; omega, fun b hb hne => ?_⟩
  rw [g2.o b hb hne]; ((try simp only [rsD] at *); simp -implicitDefEqProofs (disch := (first | omega | rfl | assumption | (simp only [rsD]; first | omega | assumption))) only [s_bs, s_bn, s_kn, bump_blk])
theorem add_nil {σ : AH O} {mb base : Nat} {L : List (List Int)} {k : Int} (h : Mk base σ mb L) (hl : L.length ≤ 1000000) :
    Ok (load_maker__add [.p (some (.n mb, 0)), .i .i64 k, .sl .nil 0] σ) fun r => r.1 = .tup [] ∧ Made base σ mb (L ++ [[k]]) r.2 :=
  add_ok (args := []) h (OwnS.nil σ 3 1).rd (by simp [SA.bk]) hl (by simp)
end Go.Abs.Try
