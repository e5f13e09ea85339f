/-
  Copies, one more element, boxes: helpers of walks. No conditions.
-/
import Derived.Test.YthkpjongjnjfgaaAbsSim
import Derived.Test.YthkpjongjnjfgaaAbsSl
import Derived.Test.YthkpjongjnjfgaaN1
set_option linter.unusedVariables false
set_option linter.unusedSimpArgs false
set_option linter.constructorNameAsVariable false
namespace Go.Abs
open Go
variable {O : Type}
theorem box1 {J J1 : AH O} {x : Blk O} (h : (J.bump 1).put J.next x = J1) : Ext J J1 /\ J1.next = J.next + 1 /\ J1.blk J.next = some x := by
 subst h
 exact ⟨((Ext.refl J).bump 1).put (Nat.le_refl _) _, rfl, s_bs⟩
theorem box2 {J J1 : AH O} {x y : Blk O} (hJ : ((J.bump 2).put J.next x).put (J.next + 1) y = J1) : Ext J J1 /\ J1.next = J.next + 2 /\ J1.blk J.next = some x /\ J1.blk (J.next + 1) = some y := by
 subst hJ
 exact ⟨((((Ext.refl J).bump 2).put (Nat.le_refl _) _).put (by omega) _), rfl, (s_bn (by omega)).trans s_bs, s_bs⟩
theorem Rd.lt {J : AH O} {es n : Nat} {a : SA} {cs : List AV} (h : Rd J es a n cs) (hn : ∀ b ∈ SA.bk a, b < J.next) {J' : AH O} (e : Ext J J') : Rd J' es a n cs := h.of fun b hb => e.blk b (hn b hb)
theorem imm_at1 {a : SA} {n : Nat} {cs : List AV} (h : Imm 1 a n cs) {i : Nat} {v : AV} (hv : cs[i]? = some v) : ∃ bb oo, SA.ref a = some (bb, oo) /\ ∀ (O : Type) (J : AH O), J.ld bb (oo + i) = some v := by
 obtain ⟨bb, oo, e1, _⟩ := (h Unit ⟨fun _ => none, 0⟩).at1 hv
 refine ⟨bb, oo, by rw [e1]; rfl, fun O J => ?_⟩
 obtain ⟨b2, o2, e2, l2⟩ := (h O J).at1 hv
 rw [e1] at e2; cases e2
 rw [Nat.mul_one] at l2; exact l2
theorem rd_at1 {J : AH O} {a : SA} {n : Nat} {cs : List AV} (h : Rd J 1 a n cs) {i : Nat} {v : AV} (hv : cs[i]? = some v) : ∃ bb oo, SA.ref a = some (bb, oo) /\ J.ld bb (oo + i) = some v := by
 obtain ⟨bb, oo, e1, l⟩ := h.at1 hv
 rw [Nat.mul_one] at l
 exact ⟨bb, oo, by rw [e1]; rfl, l⟩
theorem cpy_ok {J : AH O} {nb el n : Nat} {vs : List AV} (hv : vs.length = n) (hb : J.blk nb = some (.cells true el [])) (hn : nb + 1 < J.next) :
  Ok (J.appSl (nb + 1) el 1 (.loc (.n nb) 0 1) 0 n vs) fun r => ∃ a', r.1 = .sl a' n /\ OwnS r.2 el 1 a' n vs /\ r.2.next = J.next /\ (∀ b, b < nb -> r.2.blk b = J.blk b) /\ ∀ b ∈ SA.bk a', b = nb + 1 := by
 have own : OwnS J el 1 (.loc (.n nb) 0 1) 0 [] := OwnS.new rfl hb (by omega)
 refine (app_ok (nid := nb + 1) own (by simp [SA.bk]) hn (show vs.length = n * 1 by omega)).mono fun r ⟨a', m1, m2, m3, m4, m5⟩ => ⟨a', by rw [m1, Nat.zero_add], ?_, m3, fun b hb => m4 b (by omega) (by simp [SA.bk]; omega), m5⟩
 rw [Nat.zero_add, List.nil_append] at m2; exact m2
theorem cpyN_ok {J : AH O} {el n : Nat} {vs : List AV} (hv : vs.length = n) : Ok (((J.bump 2).put J.next (.cells true el [])).appSl (J.next + 1) el 1 (.loc (.n J.next) 0 1) 0 n vs) fun r => ∃ a', r.1 = .sl a' n /\ OwnS r.2 el 1 a' n vs /\ Ext J r.2 /\ ∀ b ∈ SA.bk a', J.next <= b := by
 refine (cpy_ok (J := (J.bump 2).put J.next (.cells true el [])) (nb := J.next) hv s_bs (by simp)).mono fun r ⟨a', m1, m2, m3, m4, m5⟩ => ⟨a', m1, m2, ⟨by rw [m3]; simp, fun b hb => ?_⟩, fun b hb => by have := m5 b hb; omega⟩
 rw [m4 b hb, s_bn (by omega)]; rfl
theorem grow1 {J : AH O} {el : TypeId} {a : SA} {n : Nat} {cs : List AV} {v : AV} (ho : OwnS J el 1 a n cs) :
  Ok (((J.bump 2).put J.next (.cells true el [v])).appSl (J.next + 1) el 1 a n 1 [v]) fun r => ∃ a', r.1 = .sl a' (n + 1) /\ OwnS r.2 el 1 a' (n + 1) (cs ++ [v]) /\ Chg (SA.bk a) J r.2 /\ ∀ b ∈ SA.bk a', J.next <= b /\ b < r.2.next := by
 have hlt := ho.lt
 generalize hJ : (J.bump 2).put J.next (.cells true el [v]) = J1
 have n1 : J1.next = J.next + 2 := by rw [<- hJ]; rfl
 have b1 : ∀ b, b < J.next -> J1.blk b = J.blk b := fun b hb => by rw [<- hJ, s_bn (by omega)]; rfl
 clear hJ
 have ho1 : OwnS J1 el 1 a n cs := ho.of (by omega) fun b hb => b1 b (hlt b hb)
 refine (app_ok (nid := J.next + 1) ho1 (fun hm => by have := hlt _ hm; omega) (by omega) (show ([v] : List AV).length = 1 * 1 from rfl)).mono fun r ⟨a', g1, g2, g3, g4, g5⟩ => ⟨a', g1, g2, ⟨by omega, fun b hb hm => (g4 b (by omega) hm).trans (b1 b hb)⟩, fun b hb => by have := g5 b hb; omega⟩
theorem Chg.new {J0 J J' : AH O} {L : List Nat} (h : Ext J0 J) (hl : ∀ b ∈ L, J0.next <= b) (c : Chg L J J') : Ext J0 J' := ⟨Nat.le_trans h.next c.next, fun b hb => (c.blk b (Nat.lt_of_lt_of_le hb h.next) fun hm => by have := hl b hm; omega).trans (h.blk b hb)⟩
theorem frz_okC {s : Sm O} {xs : List AV} {J : AH O} {K : List Nat} {Q : AV -> AH O -> Prop} (h : Ok (s xs J) fun r => ∃ v' L, FZ 8 r.2.blk L r.1 v' /\ (∀ b ∈ L, J.next <= b) /\ Chg K J r.2 /\ Q v' r.2) :
  Ok (frz s xs J) fun r => Chg K J r.2 /\ ∃ J1, Q r.1 J1 /\ ∀ b, b < J.next -> r.2.blk b = J1.blk b := by
 obtain ⟨⟨v, J1⟩, h1, v', L, h2, h3, h4, h5⟩ := h
 obtain ⟨J2, e, n, b⟩ := h2 J1 fun _ _ => rfl
 have key : ∀ q, q < J.next -> J2.blk q = J1.blk q := fun q hq => by
  rw [b, if_neg (fun hm => by have := h3 q hm; omega)]
 refine ⟨(v', J2), by simp only [frz, h1, Option.bind_some, e], ⟨by show J.next <= J2.next; rw [n]; exact h4.next, fun q hq hm => ?_⟩, J1, h5, key⟩
 show J2.blk q = _
 rw [key q hq]; exact h4.blk q hq hm
theorem frz_ints {s : Sm O} {xs : List AV} {J : AH O} {k : IntKind} {l : List Int} (h : Ok (s xs J) fun r => ∃ a el, r.1 = .sl a l.length /\ OwnS r.2 el 1 a l.length (l.map (AV.i k)) /\ Ext J r.2 /\ ∀ b ∈ SA.bk a, J.next <= b) : Ok (frz s xs J) fun r => (∃ a, r.1 = .sl a l.length /\ Imm 1 a l.length (l.map (AV.i k))) /\ Ext J r.2 := by
 refine frz_ok (Q := fun v => ∃ a, v = .sl a l.length /\ Imm 1 a l.length (l.map (AV.i k))) (h.mono ?_)
 rintro ⟨v, J1⟩ ⟨a, el, rfl, own, E, fr⟩
 obtain ⟨a', f, m⟩ := FZ.sl (d := 6) own (fun _ _ => rfl) (FZL.flat (by simp [AV.flat])) rfl (by simp)
 exact ⟨_, _, f, fun b hb => fr b (by simpa using hb), E, a', rfl, m⟩
theorem frz_intsT {s : Sm O} {xs : List AV} {J : AH O} {k : IntKind} {l : List Int} {vs : List AV} (hv : vs.all AV.flat = true) (h : Ok (s xs J) fun r => ∃ a el, r.1 = .tup (.sl a l.length :: vs) /\ OwnS r.2 el 1 a l.length (l.map (AV.i k)) /\ Ext J r.2 /\ ∀ b ∈ SA.bk a, J.next <= b) : Ok (frz s xs J) fun r => (∃ a, r.1 = .tup (.sl a l.length :: vs) /\ Imm 1 a l.length (l.map (AV.i k))) /\ Ext J r.2 := by
 refine frz_ok (Q := fun v => ∃ a, v = .tup (.sl a l.length :: vs) /\ Imm 1 a l.length (l.map (AV.i k))) (h.mono ?_)
 rintro ⟨v, J1⟩ ⟨a, el, rfl, own, E, fr⟩
 obtain ⟨a', f, m⟩ := FZ.sl (d := 5) own (fun _ _ => rfl) (FZL.flat (by simp [AV.flat])) rfl (by simp)
 have := FZ.tup (FZL.cons f (FZL.flat (H := J1.blk) hv) (by simp))
 exact ⟨_, _, this, fun b hb => fr b (by simpa using hb), E, a', rfl, m⟩
end Go.Abs
set_option linter.unusedSimpArgs false
namespace Go.Abs
open Go
variable {O : Type}
theorem ints_deep (k : IntKind) (l : List Int) (d : Nat) : (ints k l).deep (d + 1) := by
 unfold ints TV.deep
 intro t ht
 obtain ⟨x, _, hx⟩ := List.mem_flatMap.1 ht
 simp [int1] at hx
 subst hx
 unfold TV.deep; trivial
theorem lf_deep (v : AV) (d : Nat) : (TV.lf v).deep d := by unfold TV.deep; trivial
theorem NV.deep (x : NV) (d : Nat) : ∀ t ∈ x.row, t.deep (d + 1) := by
 intro t ht
 simp only [NV.row, HV.cs, List.map_cons, List.map_nil, List.cons_append, List.nil_append, List.mem_cons, List.not_mem_nil, or_false] at ht
 rcases ht with rfl | rfl | rfl | rfl | rfl | rfl | rfl
 all_goals first | exact lf_deep _ _ | exact ints_deep _ _ _
theorem rows_deep {α : Type} {row : α -> List TV} {el k n d : Nat} {l : List α} (h : ∀ x, ∀ t ∈ row x, t.deep d) : (TV.sl el k n (l.flatMap row)).deep (d + 1) := by
 unfold TV.deep
 intro t ht
 obtain ⟨x, _, hx⟩ := List.mem_flatMap.1 ht
 exact h x t hx
def FV.rowE (el : Nat) (F : FV) : List TV := [.sl el 7 F.nodes.length (F.nodes.flatMap NV.row), ints .i64 F.roots, ints .i64 F.weak]
theorem FV.rowE_at {el : Nat} {F : FV} {vs : List AV} (h : ImL (F.rowE el) vs) : F.At (.agg vs) := by
 unfold FV.rowE at h
 cases h with
 | cons h0 h => cases h with
 | cons h1 h => cases h with
 | cons h2 h => cases h with
 | nil =>
  obtain ⟨a, rfl, ia⟩ := Row.of NV.len h0 rfl
  obtain ⟨b, rfl, ib⟩ := ints_un h1
  obtain ⟨c, rfl, ic⟩ := ints_un h2
  exact ⟨a, b, c, rfl, ia, ib, ic⟩
theorem FV.deepE {el : Nat} (G : FV) {d : Nat} : ∀ t ∈ G.rowE el, t.deep (d + 2) := by
 intro t ht
 simp only [FV.rowE, List.mem_cons, List.not_mem_nil, or_false] at ht
 rcases ht with rfl | rfl | rfl
 ·exact rows_deep fun x => NV.deep x d
 ·exact ints_deep _ _ _
 ·exact ints_deep _ _ _
theorem NV.im7 {x : NV} {c d : SA} (hc : Ints .i64 c x.P) (hd : Ints .u64 d x.R) : ImL x.row [.i .i64 x.h.p, .i .i64 x.h.r, .i .i64 x.h.site, .i .i64 x.h.age, .b x.h.large, .sl c x.P.length, .sl d x.R.length] := NV.mk_ hc hd
end Go.Abs
