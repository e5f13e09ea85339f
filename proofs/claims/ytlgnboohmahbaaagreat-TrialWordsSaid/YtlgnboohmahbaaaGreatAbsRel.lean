/-
  AbsRel: how abstract values and heaps stand to the model's, and what moves keep it.
-/
import Derived.Test.YtlgnboohmahbaaaGreatAbsCore
import Derived.Calls
import Derived.Orders
import Derived.LoopN
import Derived.Laws.Sem
import Derived.Laws.World
import Derived.Laws.Cells
import Derived.Laws.Rows
import Derived.Laws.Append
import Derived.RangeFuncRecord
import Derived.Laws.AppendOwn
import Derived.Laws.CopyRow
import GoSem.ClaimData
set_option linter.unusedVariables false
set_option linter.unusedSimpArgs false
set_option linter.constructorNameAsVariable false
namespace Go.Abs
open Go
structure Loc where
 B : Nat
 O : Nat
 size : Nat
 es : Nat
structure Inj where
 loc : Nat → Option Loc
 fz : Nat → Nat → Option Value
instance : CoeFun Inj (fun _ => Nat → Option Loc) := ⟨Inj.loc⟩
abbrev Fp := Nat → Nat → Option Obj
mutual
inductive VRel (ρ : Inj) : AV → Value → Prop
 | u (v : Value) : VRel ρ .u v
 | b (x : Bool) : VRel ρ (.b x) (.bool x)
 | i (k : IntKind) (n : Int) : VRel ρ (.i k n) (.int k n)
 | s (s : ByteArray) : VRel ρ (.s s.data.toList) (.string s)
 | pn : VRel ρ (.p none) (.pointer none)
 | p (b : Bid) (o : Nat) (L : Loc) (h : Sits ρ b L) : VRel ρ (.p (some (b, o))) (.pointer (some ⟨L.B, L.O + o, none⟩))
 | sln : VRel ρ (.sl .nil 0) (.slice none 0 0)
 | slz (a : Addr) : VRel ρ (.sl .z 0) (.slice (some a) 0 0)
 | sl0 (b : Bid) (o es : Nat) (a : Addr) : VRel ρ (.sl (.loc b o es) 0) (.slice (some a) 0 0)
 | sl (b : Bid) (o n cap : Nat) (L : Loc) (h : Sits ρ b L) (h1 : n ≤ cap) (h2 : cap ≤ maxLen) (h3 : o + cap * L.es ≤ L.size) : VRel ρ (.sl (.loc b o L.es) n) (.slice (some ⟨L.B, L.O + o, none⟩) n cap)
 | sla (b : Bid) (o es n cap : Nat) (L : Loc) (h : Sits ρ b L) (h0 : 0 < n) (h1 : n ≤ cap) (h2 : cap ≤ maxLen) : VRel ρ (.sl (.ar b o es) n) (.slice (some ⟨L.B, L.O + o, none⟩) n cap)
 | mpn : VRel ρ (.mp none) (.map none)
 | mp (b : Nat) (L : Loc) (h : Sits ρ (.n b) L) : VRel ρ (.mp (some b)) (.map (some L.B))
 | fnn : VRel ρ (.fn none) .nilFunc
 | yl (b : Nat) (L : Loc) (h : Sits ρ (.n b) L) : VRel ρ (.fn (some (.yield b, [], []))) (.func (.yield L.B) #[] #[])
 | fn (f : Fn) (fi ca : List AV) (fi' ca' : List Value) (hf : ∀ l, f ≠ .yield l) (h1 : VRels ρ fi fi') (h2 : VRels ρ ca ca') : VRel ρ (.fn (some (f, fi, ca))) (.func f fi'.toArray ca'.toArray)
 | nifc : VRel ρ .nifc .nilIface
 | agg (cs : List AV) (vs : List Value) (h1 : VRels ρ cs vs) (h2 : cs.all AV.isOne = true) : VRel ρ (.agg cs) (.agg vs.toArray)
 | tup (cs : List AV) (vs : List Value) (h1 : VRels ρ cs vs) : VRel ρ (.tup cs) (.tuple vs.toArray)
inductive VRels (ρ : Inj) : List AV → List Value → Prop
 | nil : VRels ρ [] []
 | cons (v : AV) (u : Value) (vs : List AV) (us : List Value) (h1 : VRel ρ v u) (h2 : VRels ρ vs us) : VRels ρ (v :: vs) (u :: us)
inductive Sits (ρ : Inj) : Bid → Loc → Prop
 | n (b : Nat) (L : Loc) (h : ρ b = some L) : Sits ρ (.n b) L
 | f (cs : List AV) (us : List Value) (L : Loc) (h1 : VRels ρ cs us) (h2 : cs.all AV.isOne = true) (h3 : ∀ i u, us[i]? = some u → ρ.fz L.B (L.O + i) = some u) : Sits ρ (.f cs) L
end
structure Inj.le (ρ ρ' : Inj) : Prop where
 l : ∀ b L, ρ b = some L → ρ' b = some L
 f : ∀ B O u, ρ.fz B O = some u → ρ'.fz B O = some u
theorem Inj.le_refl (ρ : Inj) : ρ.le ρ := ⟨fun _ _ h => h, fun _ _ _ h => h⟩
theorem Inj.le.trans {a b c : Inj} (h : a.le b) (k : b.le c) : a.le c := ⟨fun _ _ x => k.l _ _ (h.l _ _ x), fun _ _ _ x => k.f _ _ _ (h.f _ _ _ x)⟩
theorem Sits.n_inv {ρ : Inj} {b : Nat} {L : Loc} (h : Sits ρ (.n b) L) : ρ b = some L := by cases h; assumption
mutual
theorem VRel.mono {ρ ρ' : Inj} (hl : ρ.le ρ') : ∀ {v : AV} {u : Value}, VRel ρ v u → VRel ρ' v u
 | _, _, .u v => .u v
 | _, _, .b x => .b x
 | _, _, .i k n => .i k n
 | _, _, .s s => .s s
 | _, _, .pn => .pn
 | _, _, .p b o L h => .p b o L (Sits.mono hl h)
 | _, _, .sln => .sln
 | _, _, .slz a => .slz a
 | _, _, .sl0 b o es a => .sl0 b o es a
 | _, _, .sl b o n cap L h h1 h2 h3 => .sl b o n cap L (Sits.mono hl h) h1 h2 h3
 | _, _, .sla b o es n cap L h h0 h1 h2 => .sla b o es n cap L (Sits.mono hl h) h0 h1 h2
 | _, _, .mpn => .mpn
 | _, _, .mp b L h => .mp b L (Sits.mono hl h)
 | _, _, .fnn => .fnn
 | _, _, .yl b L h => .yl b L (Sits.mono hl h)
 | _, _, .fn f fi ca fi' ca' hf h1 h2 => .fn f fi ca fi' ca' hf (VRels.mono hl h1) (VRels.mono hl h2)
 | _, _, .nifc => .nifc
 | _, _, .agg cs vs h1 h2 => .agg cs vs (VRels.mono hl h1) h2
 | _, _, .tup cs vs h1 => .tup cs vs (VRels.mono hl h1)
theorem VRels.mono {ρ ρ' : Inj} (hl : ρ.le ρ') : ∀ {vs : List AV} {us : List Value}, VRels ρ vs us → VRels ρ' vs us
 | _, _, .nil => .nil
 | _, _, .cons v u vs us h1 h2 => .cons v u vs us (VRel.mono hl h1) (VRels.mono hl h2)
theorem Sits.mono {ρ ρ' : Inj} (hl : ρ.le ρ') : ∀ {b : Bid} {L : Loc}, Sits ρ b L → Sits ρ' b L
 | _, _, .n b L h => .n b L (hl.l _ _ h)
 | _, _, .f cs us L h1 h2 h3 => .f cs us L (VRels.mono hl h1) h2 fun i u hu => hl.f _ _ _ (h3 i u hu)
end
theorem VRels.length {ρ : Inj} : ∀ {vs : List AV} {us : List Value}, VRels ρ vs us → vs.length = us.length
 | _, _, .nil => rfl
 | _, _, .cons _ _ _ _ _ h2 => by simp [h2.length]
theorem VRels.get {ρ : Inj} : ∀ {vs : List AV} {us : List Value}, VRels ρ vs us → ∀ {j : Nat} {v : AV}, vs[j]? = some v → ∃ u, us[j]? = some u ∧ VRel ρ v u
 | _, _, .nil, _, _, h => by simp at h
 | _, _, .cons v u vs us h1 h2, 0, _, h => by simp at h; subst h; exact ⟨u, by simp, h1⟩
 | _, _, .cons v u vs us h1 h2, j + 1, _, h => by simp at h; simpa using h2.get h
theorem VRels.get' {ρ : Inj} {vs : List AV} {us : List Value} (h : VRels ρ vs us) {j : Nat} {u : Value} (hu : us[j]? = some u) : ∃ v, vs[j]? = some v ∧ VRel ρ v u := by
 have hl := h.length
 have hj : j < vs.length := by have := (List.getElem?_eq_some_iff.1 hu).1; omega
 obtain ⟨u', hu', hr⟩ := h.get (List.getElem?_eq_getElem hj)
 rw [hu] at hu'; cases hu'
 exact ⟨_, List.getElem?_eq_getElem hj, hr⟩
theorem VRels.append {ρ : Inj} : ∀ {vs ws : List AV} {us xs : List Value}, VRels ρ vs us → VRels ρ ws xs → VRels ρ (vs ++ ws) (us ++ xs)
 | _, _, _, _, .nil, h => h
 | _, _, _, _, .cons v u vs us h1 h2, h => .cons v u _ _ h1 (h2.append h)
theorem VRels.of_get {ρ : Inj} : ∀ {vs : List AV} {us : List Value}, vs.length = us.length → (∀ (j : Nat) (v : AV) (u : Value), vs[j]? = some v → us[j]? = some u → VRel ρ v u) → VRels ρ vs us
 | [], [], _, _ => .nil
 | v :: vs, u :: us, hl, h => .cons v u vs us (h 0 v u (by simp) (by simp)) (VRels.of_get (by simpa using hl) fun j v' u' h1 h2 => h (j + 1) v' u' (by simpa using h1) (by simpa using h2))
 | [], _ :: _, hl, _ => by simp at hl
 | _ :: _, [], hl, _ => by simp at hl
theorem VRels.take {ρ : Inj} {vs : List AV} {us : List Value} (h : VRels ρ vs us) (n : Nat) : VRels ρ (vs.take n) (us.take n) :=
 .of_get (by simp [h.length]) fun j v u hv hu => by
  rw [List.getElem?_take] at hv hu
  split at hv
  ·rename_i hj; simp only [hj, if_true] at hu; obtain ⟨u', h1, h2⟩ := h.get hv; rw [hu] at h1; cases h1; exact h2
  ·simp at hv
theorem VRels.drop {ρ : Inj} {vs : List AV} {us : List Value} (h : VRels ρ vs us) (n : Nat) : VRels ρ (vs.drop n) (us.drop n) :=
 .of_get (by simp [h.length]) fun j v u hv hu => by
  rw [List.getElem?_drop] at hv hu
  obtain ⟨u', h1, h2⟩ := h.get hv; rw [hu] at h1; cases h1; exact h2
theorem VRel.one {ρ : Inj} {v : AV} {u : Value} (h : VRel ρ v u) (ho : v.isOne = true) : u.oneCell' = true ∧ u.cells = #[u] ∧ v.cells = [v] := by
 cases h <;> simp_all [AV.isOne, Value.oneCell', Value.cells, AV.cells]
theorem VRel.cells {ρ : Inj} {v : AV} {u : Value} (h : VRel ρ v u) (ho : v.cells.all AV.isOne = true) : VRels ρ v.cells u.cells.toList ∧ (∀ x ∈ u.cells.toList, x.oneCell' = true) := by
 by_cases hv : v.isOne = true
 ·obtain ⟨h1, h2, h3⟩ := h.one hv
  rw [h2, h3]
  exact ⟨.cons _ _ _ _ h .nil, by simpa using h1⟩
 ·cases h <;> first | (simp [AV.isOne] at hv; done) | skip
  case u => simp [AV.cells, AV.isOne] at ho
  case agg cs vs h1 h2 =>
   refine ⟨h1, fun x hx => ?_⟩
   obtain ⟨j, hj⟩ := List.getElem?_of_mem (by simpa [Value.cells] using hx)
   obtain ⟨v, hv', hr⟩ := h1.get' hj
   exact (hr.one (List.all_eq_true.1 h2 v (List.mem_of_getElem? hv'))).1
  case tup => simp [AV.cells, AV.isOne] at ho
section rel
variable {O : Type} (RO : O → Loc → (Nat → Option Obj) → Prop) (P : Program)
def one (B : Nat) (o : Obj) : Nat → Option Obj := fun q => if q = B then some o else none
def jmpOf : Option Nat → Code | none => .ret | some id => .exit id
def LstRel : LSt → Loop → Prop
 | .ready, r => r.state = .ready ∧ r.pending = none
 | .busy, r => r.state = .busy
 | .done j, r => r.state = .done ∧ r.pending = some (jmpOf j)
 | .gone, _ => True
def EntsRel (ρ : Inj) : List (AV × AV) → List MapEntry → Prop
 | [], [] => True
 | q :: es, x :: xs => VRel ρ q.1 x.key ∧ VRel ρ q.2 x.val ∧ EntsRel ρ es xs
 | _, _ => False
theorem EntsRel.mono {ρ ρ' : Inj} (hl : ρ.le ρ') : ∀ {es : List (AV × AV)} {xs : List MapEntry}, EntsRel ρ es xs → EntsRel ρ' es xs
 | [], [], _ => trivial
 | _ :: _, _ :: _, ⟨a, b, c⟩ => ⟨a.mono hl, b.mono hl, EntsRel.mono hl c⟩
 | [], _ :: _, h => h.elim
 | _ :: _, [], h => h.elim
def BlkRel (ρ : Inj) (h : Nat → Option Obj) (L : Loc) (w : World) : Blk O → Prop
 | .cells true el cs => ∃ arr : Array Value, h = one L.B (.cells arr el (0, 0)) ∧ L.O + L.size ≤ arr.size ∧ cs.length ≤ L.size ∧ L.es = esOf P el ∧
   (∀ i v, cs[i]? = some v → v.isOne = true ∧ ∃ u, arr[L.O + i]? = some u ∧ VRel ρ v u) ∧ (isBld P el = true → L.O = 0 ∧ arr.size = cs.length)
 | .cells false _ cs => h = (fun _ => none) ∧ ∀ i v, cs[i]? = some v → v.isOne = true ∧ ∃ u, ρ.fz L.B (L.O + i) = some u ∧ VRel ρ v u
 | .obj o => RO o L h
 | .map es st c => ∃ (arr : Array MapEntry), h = one L.B (.map arr c) ∧ EntsRel ρ es arr.toList ∧ arr.toList.map (·.born) = st ∧ (∀ s ∈ st, s < c) ∧ st.Nodup
 | .iter m idx st c => L.O = 0 ∧ ∃ M, ρ m = some M ∧ h = one L.B (.mapIter (some M.B) c (idx.map (st.getD · 0)).toArray c)
 | .loop site env st => ∃ (r : Loop) (x : Array Tmp × Code × Code), h = one L.B (.loop r) ∧ siteOf P site = some x ∧ r.params = x.1 ∧ r.assign = x.2.1 ∧ r.body = x.2.2 ∧ LstRel st r ∧
   (∀ t, t ∈ x.1.toList ++ (writesOf x.2.1 ++ writesOf x.2.2) → t < r.tmps.size) ∧ ∀ t v, (t, v) ∈ env → VRel ρ v (r.tmps.getD t undef)
structure Rel (ρ : Inj) (fp : Fp) (σ : AH O) (w : World) : Prop where
 next : ∀ b, σ.next ≤ b → ρ b = none ∧ σ.blk b = none
 blk : ∀ b x L, σ.blk b = some x → ρ b = some L → BlkRel RO P ρ (fp b) L w x
 dead : ∀ b, (σ.blk b = none ∨ ρ b = none) → fp b = fun _ => none
 has : ∀ b B o, fp b B = some o → w.heap[B]? = some o
 disj : ∀ b c B, fp b B ≠ none → fp c B ≠ none → b = c
 fz : ∀ B O u, ρ.fz B O = some u → w.cell? ⟨B, O, none⟩ = some u ∧ ∀ c, fp c B = none
structure Fr (fp : Fp) (w w' : World) : Prop where
 os : w'.os = w.os
 tape : w'.tape = w.tape
 output : w'.output = w.output
 size : w.heap.size ≤ w'.heap.size
 keep : ∀ B, B < w.heap.size → (∀ b, fp b B = none) → w'.heap[B]? = w.heap[B]?
structure Post (S : Nat → Prop) (ρ : Inj) (fp : Fp) (σ : AH O) (w : World) (ρ' : Inj) (fp' : Fp) (σ' : AH O) (w' : World) : Prop where
 rel : Rel RO P ρ' fp' σ' w'
 fr : Fr fp w w'
 grow : ∀ b B, B < w.heap.size → fp' b B ≠ none → ∃ c, fp c B ≠ none
 gro : ∀ B O u, ρ'.fz B O = some u → B < w.heap.size → (∃ c, fp c B ≠ none) ∨ ∃ O' u', ρ.fz B O' = some u'
 le : ρ.le ρ'
 ext : ∀ b, S b → ρ' b = ρ b
 blank : ∀ b, S b → b < σ.next → σ.blk b = none → σ'.blk b = none
 next : σ.next ≤ σ'.next
variable {RO} {P}
theorem Fr.refl (fp : Fp) (w : World) : Fr fp w w := ⟨rfl, rfl, rfl, Nat.le_refl _, fun _ _ _ => rfl⟩
theorem Post.refl {S : Nat → Prop} {ρ : Inj} {fp : Fp} {σ : AH O} {w : World} (h : Rel RO P ρ fp σ w) : Post RO P S ρ fp σ w ρ fp σ w :=
 ⟨h, .refl _ _, fun b _ _ hb => ⟨b, hb⟩, fun _ _ _ hb _ => .inr ⟨_, _, hb⟩, Inj.le_refl _, fun _ _ => rfl, fun _ _ _ h => h, Nat.le_refl _⟩
theorem Post.mono {S S' : Nat → Prop} {ρ ρ' : Inj} {fp fp' : Fp} {σ σ' : AH O} {w w' : World} (h : Post RO P S ρ fp σ w ρ' fp' σ' w') (hs : ∀ b, S' b → S b) : Post RO P S' ρ fp σ w ρ' fp' σ' w' :=
 ⟨h.rel, h.fr, h.grow, h.gro, h.le, fun b hb => h.ext b (hs b hb), fun b hb => h.blank b (hs b hb), h.next⟩
theorem Post.trans {S : Nat → Prop} {ρ ρ' ρ'' : Inj} {fp fp' fp'' : Fp} {σ σ' σ'' : AH O} {w w' w'' : World} (h : Post RO P S ρ fp σ w ρ' fp' σ' w') (k : Post RO P S ρ' fp' σ' w' ρ'' fp'' σ'' w'') :
  Post RO P S ρ fp σ w ρ'' fp'' σ'' w'' where
 rel := k.rel
 fr := ⟨k.fr.os.trans h.fr.os, k.fr.tape.trans h.fr.tape, k.fr.output.trans h.fr.output, Nat.le_trans h.fr.size k.fr.size, fun B hB hn => by
  rw [k.fr.keep B (Nat.lt_of_lt_of_le hB h.fr.size) ?_, h.fr.keep B hB hn]
  intro b
  cases hb : fp' b B with
  | none => rfl
  | some o => obtain ⟨c, hc⟩ := h.grow b B hB (by simp [hb]); exact absurd (hn c) hc⟩
 grow := fun b B hB hb => by obtain ⟨c, hc⟩ := k.grow b B (Nat.lt_of_lt_of_le hB h.fr.size) hb; exact h.grow c B hB hc
 gro := fun B o u hb hlt => by
  rcases k.gro B o u hb (Nat.lt_of_lt_of_le hlt h.fr.size) with ⟨c, hc⟩ | ⟨o', u', h1⟩
  ·exact .inl (h.grow c _ hlt hc)
  ·exact h.gro B o' u' h1 hlt
 le := h.le.trans k.le
 ext := fun b hb => (k.ext b hb).trans (h.ext b hb)
 blank := fun b hb hlt h0 => k.blank b hb (Nat.lt_of_lt_of_le hlt h.next) (h.blank b hb hlt h0)
 next := Nat.le_trans h.next k.next
theorem BlkRel.mono {ρ ρ' : Inj} {h : Nat → Option Obj} {L : Loc} {w w' : World} {x : Blk O} (hl : ρ.le ρ') (hx : BlkRel RO P ρ h L w x) : BlkRel RO P ρ' h L w' x := by
 match x, hx with
 | .cells true el cs, ⟨arr, h1, h2, h3, h4, h5, h6⟩ => exact ⟨arr, h1, h2, h3, h4, fun i v hv => by obtain ⟨a, u, b, c⟩ := h5 i v hv; exact ⟨a, u, b, c.mono hl⟩, h6⟩
 | .cells false el cs, ⟨h1, h5⟩ => exact ⟨h1, fun i v hv => by obtain ⟨a, u, b, c⟩ := h5 i v hv; exact ⟨a, u, hl.f _ _ _ b, c.mono hl⟩⟩
 | .obj o, hx => exact hx
 | .map es st c, ⟨arr, h1, h2, h3⟩ => exact ⟨arr, h1, h2.mono hl, h3⟩
 | .iter m idx st c, ⟨h0, M, h1, h2⟩ => exact ⟨h0, M, hl.l _ _ h1, h2⟩
 | .loop site env st, ⟨r, x, h1, h2, h3, h4, h5, h6, h7, h8⟩ => exact ⟨r, x, h1, h2, h3, h4, h5, h6, h7, fun t v hm => (h8 t v hm).mono hl⟩
theorem cell_size {w : World} {B o : Nat} {u : Value} (h : w.cell? ⟨B, o, none⟩ = some u) : B < w.heap.size := by
 unfold World.cell? at h
 split at h
 ·rename_i c e f hb
  exact (Array.getElem?_eq_some_iff.1 hb).1
 ·cases h
theorem Rel.size {ρ : Inj} {fp : Fp} {σ : AH O} {w : World} (h : Rel RO P ρ fp σ w) {b B : Nat} (hb : fp b B ≠ none) : B < w.heap.size := by
 cases hx : fp b B with
 | none => exact absurd hx hb
 | some o => exact (Array.getElem?_eq_some_iff.1 (h.has b B o hx)).1
theorem Rel.world {ρ : Inj} {fp : Fp} {σ : AH O} {w w' : World} (h : Rel RO P ρ fp σ w) (hk : ∀ B : Nat, B < w.heap.size → w'.heap[B]? = w.heap[B]?) (_ : w.heap.size ≤ w'.heap.size) : Rel RO P ρ fp σ w' where
 next := h.next
 blk := fun b x L hx hL => (h.blk b x L hx hL).mono (Inj.le_refl _)
 dead := h.dead
 has := fun b B o hb => by rw [hk B (h.size (b := b) (by simp [hb]))]; exact h.has b B o hb
 disj := h.disj
 fz := fun B o u hu => by
  obtain ⟨h1, h2⟩ := h.fz B o u hu
  exact ⟨by rw [World.cell?_of_block (w := w) (w' := w') (hk B (cell_size h1))]; exact h1, h2⟩
theorem Post.drew {S : Nat → Prop} {ρ : Inj} {fp : Fp} {σ : AH O} {w : World} (h : Rel RO P ρ fp σ w) : Post RO P S ρ fp σ w ρ fp σ w.drew :=
 ⟨h.world (fun _ _ => rfl) (Nat.le_refl _), ⟨rfl, rfl, rfl, Nat.le_refl _, fun _ _ _ => rfl⟩, fun b _ _ hb => ⟨b, hb⟩, fun _ _ _ hb _ => .inr ⟨_, _, hb⟩, Inj.le_refl _, fun _ _ => rfl, fun _ _ _ h => h, Nat.le_refl _⟩
theorem one_self (B : Nat) (o : Obj) : one B o B = some o := by simp [one]
theorem one_ne {B C : Nat} {o : Obj} (h : one B o C ≠ none) : C = B := by
 unfold one at h; split at h
 ·assumption
 ·simp at h
theorem one_some {B C : Nat} {o p : Obj} (h : one B o C = some p) : C = B ∧ p = o := by
 unfold one at h; split at h
 ·rename_i hc; cases h; exact ⟨hc, rfl⟩
 ·simp at h
@[simp] theorem AH.put_blk {σ : AH O} {b q : Nat} {x : Blk O} : (σ.put b x).blk q = if q = b then some x else σ.blk q := by
 simp only [AH.put]; by_cases h : q = b
 ·subst h; simp
 ·have : Nat.beq q b = false := by cases hh : Nat.beq q b with | false => rfl | true => exact absurd (Nat.eq_of_beq_eq_true hh) h
  simp [this, h]
@[simp] theorem AH.kill_blk {σ : AH O} {b q : Nat} : (σ.kill b).blk q = if q = b then none else σ.blk q := by
 simp only [AH.kill]; by_cases h : q = b
 ·subst h; simp
 ·have : Nat.beq q b = false := by cases hh : Nat.beq q b with | false => rfl | true => exact absurd (Nat.eq_of_beq_eq_true hh) h
  simp [this, h]
@[simp] theorem AH.put_next {σ : AH O} {b : Nat} {x : Blk O} : (σ.put b x).next = σ.next := rfl
@[simp] theorem AH.kill_next {σ : AH O} {b : Nat} : (σ.kill b).next = σ.next := rfl
theorem Post.alloc {ρ : Inj} {fp : Fp} {σ : AH O} {w : World} (h : Rel RO P ρ fp σ w) {nid : Nat} (hn : nid < σ.next) (h1 : ρ nid = none)
  (el : TypeId) (cs : List AV) (arr : Array Value) (hl : cs.length ≤ arr.size) (hc : ∀ (i : Nat) (v : AV), cs[i]? = some v → v.isOne = true ∧ ∃ u, arr[i]? = some u ∧ VRel ρ v u) (hB : isBld P el = true → arr.size = cs.length) :
  ∃ ρ' fp', ρ' nid = some ⟨w.heap.size, 0, arr.size, esOf P el⟩ ∧ Post RO P (fun b => b ≠ nid) ρ fp σ w ρ' fp' (σ.put nid (.cells true el cs)) (w.alloc (.cells arr el)) := by
 let ρ' : Inj := ⟨fun b => if b = nid then some ⟨w.heap.size, 0, arr.size, esOf P el⟩ else ρ b, ρ.fz⟩
 let fp' : Fp := fun b => if b = nid then one w.heap.size (.cells arr el (0, 0)) else fp b
 have hle : ρ.le ρ' := ⟨fun b L hb => by
  have : b ≠ nid := fun e => by rw [e, h1] at hb; cases hb
  simp [ρ', this, hb], fun _ _ _ hu => hu⟩
 have hfn : fp nid = fun _ => none := h.dead nid (.inr h1)
 have hnew : ∀ b B, fp b B ≠ none → B ≠ w.heap.size := fun b B hb e => by have := h.size hb; omega
 refine ⟨ρ', fp', by simp [ρ'], ⟨⟨?_, ?_, ?_, ?_, ?_, ?_⟩, ⟨rfl, rfl, rfl, by simp, fun B hB _ => heap_alloc_old w _ B hB⟩, ?_, ?_, hle, fun b hb => by simp [ρ', hb], fun b hb _ h0 => by simp [hb, h0], Nat.le_refl _⟩⟩
 ·intro b hb
  have hb' : σ.next ≤ b := hb
  have : b ≠ nid := by omega
  obtain ⟨a, c⟩ := h.next b hb'
  simp [ρ', this, a, c]
 ·intro b x L hx hL
  by_cases hbn : b = nid
  ·subst hbn
   simp at hx; subst hx
   simp [ρ'] at hL; subst hL
   refine ⟨arr, by simp [fp'], by simp, hl, rfl, fun i v hv => ?_, fun q => ⟨rfl, hB q⟩⟩
   obtain ⟨a, u, b', c⟩ := hc i v hv
   exact ⟨a, u, by simpa using b', c.mono hle⟩
  ·simp [hbn] at hx
   simp [ρ', hbn] at hL
   simp only [fp', hbn, if_false]
   exact (h.blk b x L hx hL).mono hle
 ·intro b hb
  by_cases hbn : b = nid
  ·subst hbn; simp [ρ'] at hb
  ·simp only [fp', hbn, if_false]
   simp [hbn, ρ'] at hb
   exact h.dead b hb
 ·intro b B o hb
  by_cases hbn : b = nid
  ·simp only [fp', hbn, if_true] at hb
   obtain ⟨rfl, rfl⟩ := one_some hb
   exact heap_alloc_new w _
  ·simp only [fp', hbn, if_false] at hb
   rw [heap_alloc_old w _ B (h.size (b := b) (by simp [hb]))]
   exact h.has b B o hb
 ·intro b c B hb hc'
  by_cases hbn : b = nid <;> by_cases hcn : c = nid
  ·omega
  ·simp only [fp', hbn, if_true] at hb
   simp only [fp', hcn, if_false] at hc'
   have := one_ne hb; exact absurd this (hnew _ _ hc')
  ·simp only [fp', hcn, if_true] at hc'
   simp only [fp', hbn, if_false] at hb
   have := one_ne hc'; exact absurd this (hnew _ _ hb)
  ·simp only [fp', hbn, hcn, if_false] at hb hc'
   exact h.disj b c B hb hc'
 ·intro B o u hu
  obtain ⟨g1, g2⟩ := h.fz B o u hu
  have hlt := cell_size g1
  refine ⟨by rw [World.cell?_of_block (w := w) (heap_alloc_old w _ _ hlt)]; exact g1, fun c => ?_⟩
  by_cases hcn : c = nid
  ·simp only [fp', hcn, if_true, one]
   rw [if_neg (by omega)]
  ·simp only [fp', hcn, if_false]
   exact g2 c
 ·intro b B hB hb
  by_cases hbn : b = nid
  ·simp only [fp', hbn, if_true] at hb
   have := one_ne hb; omega
  ·simp only [fp', hbn, if_false] at hb
   exact ⟨b, hb⟩
 ·exact fun B o u hu _ => .inr ⟨o, u, hu⟩
theorem Rel.own {ρ : Inj} {fp : Fp} {σ : AH O} {w : World} (h : Rel RO P ρ fp σ w) {b : Nat} {el : TypeId} {cs : List AV} {L : Loc} (hb : σ.blk b = some (.cells true el cs)) (hL : ρ b = some L) :
  ∃ arr : Array Value, fp b = one L.B (.cells arr el (0, 0)) ∧ w.heap[L.B]? = some (.cells arr el (0, 0)) ∧ L.O + L.size ≤ arr.size ∧ cs.length ≤ L.size ∧ L.es = esOf P el ∧
   ∀ (i : Nat) (v : AV), cs[i]? = some v → v.isOne = true ∧ ∃ u, arr[L.O + i]? = some u ∧ VRel ρ v u := by
 obtain ⟨arr, h1, h2, h3, h4, h5, _⟩ := h.blk b _ L hb hL
 exact ⟨arr, h1, h.has b L.B _ (by rw [h1]; exact one_self _ _), h2, h3, h4, h5⟩
theorem Rel.alone {ρ : Inj} {fp : Fp} {σ : AH O} {w : World} (h : Rel RO P ρ fp σ w) {b : Nat} {el : TypeId} {cs : List AV} {L : Loc} (hb : σ.blk b = some (.cells true el cs)) (hL : ρ b = some L) (hB : isBld P el = true) {arr : Array Value} (ha : w.heap[L.B]? = some (.cells arr el (0, 0))) : L.O = 0 ∧ arr.size = cs.length := by
 obtain ⟨arr0, h1, h2, h3, h4, h5, h6⟩ := h.blk b _ L hb hL
 have h7 := h.has b L.B _ (by rw [h1]; exact one_self _ _)
 rw [ha] at h7
 cases h7
 exact h6 hB
theorem Rel.ld {ρ : Inj} {fp : Fp} {σ : AH O} {w : World} (h : Rel RO P ρ fp σ w) {b : Bid} {o : Nat} {v : AV} {L : Loc} (hv : σ.ld b o = some v) (hL : Sits ρ b L) :
  v.isOne = true ∧ ∃ u, w.cell? ⟨L.B, L.O + o, none⟩ = some u ∧ VRel ρ v u := by
 cases hL with
 | n b L hL =>
  simp only [AH.ld] at hv
  split at hv
  ·rename_i ow el cs hb
   cases ow with
   | true =>
    obtain ⟨arr, _, h2, _, _, _, h5⟩ := h.own hb hL
    obtain ⟨a, u, b', c⟩ := h5 o v hv
    exact ⟨a, u, by rw [cell_of_row w L.B (L.O + o) arr el (0, 0) h2]; exact b', c⟩
   | false =>
    obtain ⟨_, h5⟩ := h.blk b _ L hb hL
    obtain ⟨a, u, b', c⟩ := h5 o v hv
    exact ⟨a, u, (h.fz _ _ _ b').1, c⟩
  ·cases hv
 | f cs us L h1 h2 h3 =>
  simp only [AH.ld] at hv
  obtain ⟨u, hu, hr⟩ := h1.get hv
  exact ⟨List.all_eq_true.1 h2 v (List.mem_of_getElem? hv), u, (h.fz _ _ _ (h3 o u hu)).1, hr⟩
theorem Post.set {S : Nat → Prop} {ρ : Inj} {fp : Fp} {σ : AH O} {w : World} (h : Rel RO P ρ fp σ w) {b : Nat} {el : TypeId} {cs : List AV} {L : Loc} {arr : Array Value}
  (hb : σ.blk b = some (.cells true el cs)) (hL : ρ b = some L) (ha : w.heap[L.B]? = some (.cells arr el (0, 0)))
  (cs' : List AV) (arr' : Array Value) (hs : arr'.size = arr.size) (hl : cs'.length ≤ L.size)
  (hc : ∀ (i : Nat) (v : AV), cs'[i]? = some v → v.isOne = true ∧ ∃ u, arr'[L.O + i]? = some u ∧ VRel ρ v u) (hcl : cs'.length = cs.length) :
  ∃ fp', Post RO P S ρ fp σ w ρ fp' (σ.put b (.cells true el cs')) (w.setRow L.B arr') := by
 obtain ⟨arr0, h1, h2, h3, h4, h5, _⟩ := h.own hb hL
 obtain rfl : arr0 = arr := by rw [ha] at h2; cases h2; rfl
 let fp' : Fp := fun q => if q = b then one L.B (.cells arr' el (0, 0)) else fp q
 have hfb : ∀ q B, fp q B ≠ none → B = L.B → q = b := fun q B hq e => h.disj q b B hq (by rw [h1, e, one_self]; simp)
 have hlt : b < σ.next := by
  rcases Nat.lt_or_ge b σ.next with hh | hh
  ·exact hh
  ·rw [(h.next b hh).2] at hb; cases hb
 refine ⟨fp', ⟨⟨?_, ?_, ?_, ?_, ?_, ?_⟩, ⟨rfl, rfl, rfl, by simp, ?_⟩, ?_, ?_, Inj.le_refl _, fun _ _ => rfl, fun q _ _ h0 => by
  have : q ≠ b := fun e => by rw [e, hb] at h0; cases h0
  simp [this, h0], Nat.le_refl _⟩⟩
 ·intro q hq
  have hq' : σ.next ≤ q := hq
  obtain ⟨x, y⟩ := h.next q hq'
  exact ⟨x, by simp [y]; omega⟩
 ·intro q x L' hx hL'
  by_cases hqb : q = b
  ·subst hqb
   simp at hx; subst hx
   rw [hL] at hL'; cases hL'
   exact ⟨arr', by simp [fp'], by omega, hl, h5, hc, fun q => by have := h.alone hb hL q ha; omega⟩
  ·simp [hqb] at hx
   simp only [fp', hqb, if_false]
   exact (h.blk q x L' hx hL').mono (Inj.le_refl _)
 ·intro q hq
  by_cases hqb : q = b
  ·subst hqb; simp [hL] at hq
  ·simp only [fp', hqb, if_false]
   simp [hqb] at hq
   exact h.dead q hq
 ·intro q B o hq
  by_cases hqb : q = b
  ·simp only [fp', hqb, if_true] at hq
   obtain ⟨rfl, rfl⟩ := one_some hq
   exact setRow_heap w _ arr0 _ el _ ha
  ·simp only [fp', hqb, if_false] at hq
   rw [setRow_other w _ _ _ fun e => hqb (hfb q B (by simp [hq]) e)]
   exact h.has q B o hq
 ·intro q c B hq hc'
  have key : ∀ q, fp' q B ≠ none → fp q B ≠ none := by
   intro q hq
   by_cases hqb : q = b
   ·simp only [fp', hqb, if_true] at hq
    rw [hqb, h1, one_ne hq, one_self]; simp
   ·simpa only [fp', hqb, if_false] using hq
  exact h.disj q c B (key q hq) (key c hc')
 ·intro B o u hu
  obtain ⟨g1, g2⟩ := h.fz B o u hu
  have hne : B ≠ L.B := fun e => by
   have := g2 b
   rw [h1, e, one_self] at this; cases this
  refine ⟨by rw [World.cell?_of_block (w := w) (setRow_other w _ _ _ hne)]; exact g1, fun c => ?_⟩
  by_cases hcb : c = b
  ·simp only [fp', hcb, if_true, one]
   rw [if_neg hne]
  ·simp only [fp', hcb, if_false]
   exact g2 c
 ·intro B hB hn
  refine setRow_other w _ _ _ fun e => ?_
  have := hn b
  rw [h1, e, one_self] at this; cases this
 ·intro q B hB hq
  by_cases hqb : q = b
  ·simp only [fp', hqb, if_true] at hq
   exact ⟨b, by rw [h1, one_ne hq, one_self]; simp⟩
  ·simp only [fp', hqb, if_false] at hq
   exact ⟨q, hq⟩
 ·exact fun B o u hu _ => .inr ⟨o, u, hu⟩
theorem Post.kill {S : Nat → Prop} {ρ : Inj} {fp : Fp} {σ : AH O} {w : World} (h : Rel RO P ρ fp σ w) (b : Nat) : ∃ fp', Post RO P S ρ fp σ w ρ fp' (σ.kill b) w := by
 let fp' : Fp := fun q => if q = b then (fun _ => none) else fp q
 have key : ∀ q B, fp' q B ≠ none → fp q B ≠ none := by
  intro q B hq
  by_cases hqb : q = b
  ·simp [fp', hqb] at hq
  ·simpa only [fp', hqb, if_false] using hq
 refine ⟨fp', ⟨⟨?_, ?_, ?_, ?_, ?_, ?_⟩, .refl _ _, fun q B _ hq => ⟨q, key q B hq⟩, fun _ o u hu _ => .inr ⟨o, u, hu⟩, Inj.le_refl _, fun _ _ => rfl, fun q _ _ h0 => by simp [h0], Nat.le_refl _⟩⟩
 ·intro q hq
  obtain ⟨x, y⟩ := h.next q hq
  exact ⟨x, by simp [y]⟩
 ·intro q x L hx hL
  simp at hx
  obtain ⟨hqb, hx⟩ := hx
  simp only [fp', hqb, if_false]
  exact h.blk q x L hx hL
 ·intro q hq
  by_cases hqb : q = b
  ·simp [fp', hqb]
  ·simp only [fp', hqb, if_false]
   simp [hqb] at hq
   exact h.dead q hq
 ·intro q B o hq
  by_cases hqb : q = b
  ·simp [fp', hqb] at hq
  ·simp only [fp', hqb, if_false] at hq
   exact h.has q B o hq
 ·exact fun q c B hq hc => h.disj q c B (key q B hq) (key c B hc)
 ·intro B o u hu
  obtain ⟨g1, g2⟩ := h.fz B o u hu
  refine ⟨g1, fun c => ?_⟩
  by_cases hcb : c = b
  ·simp [fp', hcb]
  ·simpa only [fp', hcb, if_false] using g2 c
theorem Post.move {ρ : Inj} {fp : Fp} {σ : AH O} {w : World} (h : Rel RO P ρ fp σ w) {b nid : Nat} {el : TypeId} {cs : List AV} {L : Loc} {arr : Array Value}
  (hb : σ.blk b = some (.cells true el cs)) (hL : ρ b = some L) (ha : w.heap[L.B]? = some (.cells arr el (0, 0)))
  (hn : nid < σ.next) (hr0 : ρ nid = none) (o : Nat) (ho : o ≤ L.size)
  (cs' : List AV) (arr' : Array Value) (hs : arr'.size = arr.size) (hl : o + cs'.length ≤ L.size)
  (hc : ∀ (i : Nat) (v : AV), cs'[i]? = some v → v.isOne = true ∧ ∃ u, arr'[L.O + o + i]? = some u ∧ VRel ρ v u) (hB : isBld P el = false) :
  ∃ ρ' fp', ρ' nid = some ⟨L.B, L.O + o, L.size - o, L.es⟩ ∧ Post RO P (fun q => q ≠ nid) ρ fp σ w ρ' fp' ((σ.kill b).put nid (.cells true el cs')) (w.setRow L.B arr') := by
 obtain ⟨arr0, h1, h2, h3, h4, h5, _⟩ := h.own hb hL
 obtain rfl : arr0 = arr := by rw [ha] at h2; cases h2; rfl
 have hbn : b ≠ nid := fun e => by rw [e, hr0] at hL; cases hL
 let ρ' : Inj := ⟨fun q => if q = nid then some ⟨L.B, L.O + o, L.size - o, L.es⟩ else ρ q, ρ.fz⟩
 let fp' : Fp := fun q => if q = nid then one L.B (.cells arr' el (0, 0)) else if q = b then (fun _ => none) else fp q
 have hle : ρ.le ρ' := ⟨fun q L' hq => by
  have : q ≠ nid := fun e => by rw [e, hr0] at hq; cases hq
  simp [ρ', this, hq], fun _ _ _ hu => hu⟩
 have hfb : ∀ q B, fp q B ≠ none → B = L.B → q = b := fun q B hq e => h.disj q b B hq (by rw [h1, e, one_self]; simp)
 refine ⟨ρ', fp', by simp [ρ'], ⟨⟨?_, ?_, ?_, ?_, ?_, ?_⟩, ⟨rfl, rfl, rfl, by simp, ?_⟩, ?_, ?_, hle, fun q hq => by simp [ρ', hq], fun q hq _ h0 => by simp [hq, h0], Nat.le_refl _⟩⟩
 ·intro q hq
  have hq' : σ.next ≤ q := hq
  have : q ≠ nid := by omega
  obtain ⟨x, y⟩ := h.next q hq'
  simp [ρ', this, x, y]
 ·intro q x L' hx hL'
  by_cases hqn : q = nid
  ·subst hqn
   simp at hx; subst hx
   simp [ρ'] at hL'; subst hL'
   refine ⟨arr', by simp [fp'], by simp; omega, by simp; omega, h5, fun i v hv => ?_, fun q => by rw [hB] at q; cases q⟩
   obtain ⟨x1, u, x2, x3⟩ := hc i v hv
   exact ⟨x1, u, x2, x3.mono hle⟩
  ·simp [hqn] at hx
   simp [ρ', hqn] at hL'
   obtain ⟨hqb, hx⟩ := hx
   simp only [fp', hqn, hqb, if_false]
   exact (h.blk q x L' hx hL').mono hle
 ·intro q hq
  by_cases hqn : q = nid
  ·subst hqn; simp [ρ'] at hq
  ·by_cases hqb : q = b
   ·simp [fp', hqb, hbn]
   ·simp only [fp', hqn, hqb, if_false]
    simp [hqn, hqb, ρ'] at hq
    exact h.dead q hq
 ·intro q B x hq
  by_cases hqn : q = nid
  ·simp only [fp', hqn, if_true] at hq
   obtain ⟨rfl, rfl⟩ := one_some hq
   exact setRow_heap w _ arr0 _ el _ ha
  ·by_cases hqb : q = b
   ·simp [fp', hqb, hbn] at hq
   ·simp only [fp', hqn, hqb, if_false] at hq
    rw [setRow_other w _ _ _ fun e => hqb (hfb q B (by simp [hq]) e)]
    exact h.has q B x hq
 ·intro q c B hq hc'
  have key : ∀ q, fp' q B ≠ none → (q = nid ∧ B = L.B) ∨ (q ≠ nid ∧ q ≠ b ∧ fp q B ≠ none) := by
   intro q hq
   by_cases hqn : q = nid
   ·simp only [fp', hqn, if_true] at hq
    exact .inl ⟨hqn, one_ne hq⟩
   ·by_cases hqb : q = b
    ·simp [fp', hqb, hbn] at hq
    ·simp only [fp', hqn, hqb, if_false] at hq
     exact .inr ⟨hqn, hqb, hq⟩
  rcases key q hq with ⟨a1, a2⟩ | ⟨a1, a2, a3⟩ <;> rcases key c hc' with ⟨b1, b2⟩ | ⟨b1, b2, b3⟩
  ·omega
  ·exact absurd (hfb c B b3 a2) b2
  ·exact absurd (hfb q B a3 b2) a2
  ·exact h.disj q c B a3 b3
 ·intro B o' u hu
  obtain ⟨g1, g2⟩ := h.fz B o' u hu
  have hne : B ≠ L.B := fun e => by
   have := g2 b
   rw [h1, e, one_self] at this; cases this
  refine ⟨by rw [World.cell?_of_block (w := w) (setRow_other w _ _ _ hne)]; exact g1, fun c => ?_⟩
  by_cases hcn : c = nid
  ·simp [fp', hcn, one, hne]
  ·by_cases hcb : c = b
   ·simp [fp', hcb, hbn]
   ·simp only [fp', hcn, hcb, if_false]
    exact g2 c
 ·intro B hB hq
  refine setRow_other w _ _ _ fun e => ?_
  have := hq b
  rw [h1, e, one_self] at this; cases this
 ·intro q B hB hq
  by_cases hqn : q = nid
  ·simp only [fp', hqn, if_true] at hq
   exact ⟨b, by rw [h1, one_ne hq, one_self]; simp⟩
  ·by_cases hqb : q = b
   ·simp [fp', hqb, hbn] at hq
   ·simp only [fp', hqn, hqb, if_false] at hq
    exact ⟨q, hq⟩
 ·exact fun B o' u hu _ => .inr ⟨o', u, hu⟩
theorem Post.allocG {ρ : Inj} {fp : Fp} {σ : AH O} {w : World} (h : Rel RO P ρ fp σ w) {nid : Nat} (hn : nid < σ.next) (h1 : ρ nid = none)
  (ob : Obj) (x0 : Blk O) (L0 : Loc) (hx0 : ∀ ρ' : Inj, ρ.le ρ' → ∀ w', BlkRel RO P ρ' (one w.heap.size ob) L0 w' x0) :
  ∃ ρ' fp', ρ' nid = some L0 ∧ Post RO P (fun b => b ≠ nid) ρ fp σ w ρ' fp' (σ.put nid x0) (w.alloc ob) := by
 let ρ' : Inj := ⟨fun b => if b = nid then some L0 else ρ b, ρ.fz⟩
 let fp' : Fp := fun b => if b = nid then one w.heap.size ob else fp b
 have hle : ρ.le ρ' := ⟨fun b L hb => by
  have : b ≠ nid := fun e => by rw [e, h1] at hb; cases hb
  simp [ρ', this, hb], fun _ _ _ hu => hu⟩
 have hfn : fp nid = fun _ => none := h.dead nid (.inr h1)
 have hnew : ∀ b B, fp b B ≠ none → B ≠ w.heap.size := fun b B hb e => by have := h.size hb; omega
 refine ⟨ρ', fp', by simp [ρ'], ⟨⟨?_, ?_, ?_, ?_, ?_, ?_⟩, ⟨rfl, rfl, rfl, by simp, fun B hB _ => heap_alloc_old w _ B hB⟩, ?_, ?_, hle, fun b hb => by simp [ρ', hb], fun b hb _ h0 => by simp [hb, h0], Nat.le_refl _⟩⟩
 ·intro b hb
  have hb' : σ.next ≤ b := hb
  have : b ≠ nid := by omega
  obtain ⟨a, c⟩ := h.next b hb'
  simp [ρ', this, a, c]
 ·intro b x L hx hL
  by_cases hbn : b = nid
  ·subst hbn
   simp at hx; subst hx
   simp [ρ'] at hL; subst hL
   have := hx0 ρ' hle (w.alloc ob)
   simpa [fp'] using this
  ·simp [hbn] at hx
   simp [ρ', hbn] at hL
   simp only [fp', hbn, if_false]
   exact (h.blk b x L hx hL).mono hle
 ·intro b hb
  by_cases hbn : b = nid
  ·subst hbn; simp [ρ'] at hb
  ·simp only [fp', hbn, if_false]
   simp [hbn, ρ'] at hb
   exact h.dead b hb
 ·intro b B o hb
  by_cases hbn : b = nid
  ·simp only [fp', hbn, if_true] at hb
   obtain ⟨rfl, rfl⟩ := one_some hb
   exact heap_alloc_new w _
  ·simp only [fp', hbn, if_false] at hb
   rw [heap_alloc_old w _ B (h.size (b := b) (by simp [hb]))]
   exact h.has b B o hb
 ·intro b c B hb hc'
  by_cases hbn : b = nid <;> by_cases hcn : c = nid
  ·omega
  ·simp only [fp', hbn, if_true] at hb
   simp only [fp', hcn, if_false] at hc'
   have := one_ne hb; exact absurd this (hnew _ _ hc')
  ·simp only [fp', hcn, if_true] at hc'
   simp only [fp', hbn, if_false] at hb
   have := one_ne hc'; exact absurd this (hnew _ _ hb)
  ·simp only [fp', hbn, hcn, if_false] at hb hc'
   exact h.disj b c B hb hc'
 ·intro B o u hu
  obtain ⟨g1, g2⟩ := h.fz B o u hu
  have hlt := cell_size g1
  refine ⟨by rw [World.cell?_of_block (w := w) (heap_alloc_old w _ _ hlt)]; exact g1, fun c => ?_⟩
  by_cases hcn : c = nid
  ·simp only [fp', hcn, if_true, one]
   rw [if_neg (by omega)]
  ·simp only [fp', hcn, if_false]
   exact g2 c
 ·intro b B hB hb
  by_cases hbn : b = nid
  ·simp only [fp', hbn, if_true] at hb
   have := one_ne hb; omega
  ·simp only [fp', hbn, if_false] at hb
   exact ⟨b, hb⟩
 ·exact fun B o u hu _ => .inr ⟨o, u, hu⟩
theorem Post.setG {S : Nat → Prop} {ρ : Inj} {fp : Fp} {σ : AH O} {w : World} (h : Rel RO P ρ fp σ w) {b : Nat} {x0 x1 : Blk O} {L : Loc} {ob ob' : Obj}
  (hb : σ.blk b = some x0) (hL : ρ b = some L) (h1 : fp b = one L.B ob) (hx1 : ∀ w', BlkRel RO P ρ (one L.B ob') L w' x1) :
  ∃ fp', Post RO P S ρ fp σ w ρ fp' (σ.put b x1) (w.putObj L.B ob') := by
 have ha : w.heap[L.B]? = some ob := h.has b L.B _ (by rw [h1]; exact one_self _ _)
 have hsz : L.B < w.heap.size := (Array.getElem?_eq_some_iff.1 ha).1
 let fp' : Fp := fun q => if q = b then one L.B ob' else fp q
 have hfb : ∀ q B, fp q B ≠ none → B = L.B → q = b := fun q B hq e => h.disj q b B hq (by rw [h1, e, one_self]; simp)
 have hlt : b < σ.next := by
  rcases Nat.lt_or_ge b σ.next with hh | hh
  ·exact hh
  ·rw [(h.next b hh).2] at hb; cases hb
 refine ⟨fp', ⟨⟨?_, ?_, ?_, ?_, ?_, ?_⟩, ⟨rfl, rfl, rfl, by simp, ?_⟩, ?_, ?_, Inj.le_refl _, fun _ _ => rfl, fun q _ _ h0 => by
  have : q ≠ b := fun e => by rw [e, hb] at h0; cases h0
  simp [this, h0], Nat.le_refl _⟩⟩
 ·intro q hq
  have hq' : σ.next ≤ q := hq
  obtain ⟨x, y⟩ := h.next q hq'
  exact ⟨x, by simp [y]; omega⟩
 ·intro q x L' hx hL'
  by_cases hqb : q = b
  ·subst hqb
   simp at hx; subst hx
   rw [hL] at hL'; cases hL'
   have := hx1 (w.putObj L.B ob')
   simpa [fp'] using this
  ·simp [hqb] at hx
   simp only [fp', hqb, if_false]
   exact (h.blk q x L' hx hL').mono (Inj.le_refl _)
 ·intro q hq
  by_cases hqb : q = b
  ·subst hqb; simp [hL] at hq
  ·simp only [fp', hqb, if_false]
   simp [hqb] at hq
   exact h.dead q hq
 ·intro q B o hq
  by_cases hqb : q = b
  ·simp only [fp', hqb, if_true] at hq
   obtain ⟨rfl, rfl⟩ := one_some hq
   exact World.putObj_heap_same hsz
  ·simp only [fp', hqb, if_false] at hq
   rw [World.putObj_heap_other fun e => hqb (hfb q B (by simp [hq]) e)]
   exact h.has q B o hq
 ·intro q c B hq hc'
  have key : ∀ q, fp' q B ≠ none → fp q B ≠ none := by
   intro q hq
   by_cases hqb : q = b
   ·simp only [fp', hqb, if_true] at hq
    rw [hqb, h1, one_ne hq, one_self]; simp
   ·simpa only [fp', hqb, if_false] using hq
  exact h.disj q c B (key q hq) (key c hc')
 ·intro B o u hu
  obtain ⟨g1, g2⟩ := h.fz B o u hu
  have hne : B ≠ L.B := fun e => by
   have := g2 b
   rw [h1, e, one_self] at this; cases this
  refine ⟨by rw [World.cell?_of_block (w := w) (World.putObj_heap_other hne)]; exact g1, fun c => ?_⟩
  by_cases hcb : c = b
  ·simp only [fp', hcb, if_true, one]
   rw [if_neg hne]
  ·simp only [fp', hcb, if_false]
   exact g2 c
 ·intro B hB hn
  refine World.putObj_heap_other fun e => ?_
  have := hn b
  rw [h1, e, one_self] at this; cases this
 ·intro q B hB hq
  by_cases hqb : q = b
  ·simp only [fp', hqb, if_true] at hq
   exact ⟨b, by rw [h1, one_ne hq, one_self]; simp⟩
  ·simp only [fp', hqb, if_false] at hq
   exact ⟨q, hq⟩
 ·exact fun B o u hu _ => .inr ⟨o, u, hu⟩
theorem Post.more {S : Nat → Prop} {ρ : Inj} {fp : Fp} {σ : AH O} {w w' : World} (h : Rel RO P ρ fp σ w) (hk : ∀ B : Nat, B < w.heap.size → w'.heap[B]? = w.heap[B]?) (hs : w.heap.size ≤ w'.heap.size) (h1 : w'.os = w.os) (h2 : w'.tape = w.tape) (h3 : w'.output = w.output) : Post RO P S ρ fp σ w ρ fp σ w' :=
 ⟨h.world hk hs, ⟨h1, h2, h3, hs, fun B hB _ => hk B hB⟩, fun b _ _ hb => ⟨b, hb⟩, fun _ _ _ hb _ => .inr ⟨_, _, hb⟩, Inj.le_refl _, fun _ _ => rfl, fun _ _ _ h => h, Nat.le_refl _⟩
end rel
end Go.Abs
