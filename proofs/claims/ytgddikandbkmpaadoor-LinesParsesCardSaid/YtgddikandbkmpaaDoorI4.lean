/-
  Copies, one more element, boxes: helpers of walks. No conditions.
-/
import Derived.Test.YtgddikandbkmpaaDoorAbsSim
import Derived.Test.YtgddikandbkmpaaDoorAbsSl
import Derived.Test.YtgddikandbkmpaaDoorAbsBits
import Derived.Test.YtgddikandbkmpaaDoorN1
set_option linter.unusedVariables false
set_option linter.unusedSimpArgs false
set_option linter.constructorNameAsVariable false
namespace Go.Abs
open Go
variable {O : Type}
theorem box1 {σ σ1 : AH O} {x : Blk O} (h : (σ.bump 1).put σ.next x = σ1) : Ext σ σ1 ∧ σ1.next = σ.next + 1 ∧ σ1.blk σ.next = some x := by
 subst h
 exact ⟨((Ext.refl σ).bump 1).put (Nat.le_refl _) _, rfl, s_bs⟩
theorem box2 {σ σ1 : AH O} {x y : Blk O} (hσ : ((σ.bump 2).put σ.next x).put (σ.next + 1) y = σ1) : Ext σ σ1 ∧ σ1.next = σ.next + 2 ∧ σ1.blk σ.next = some x ∧ σ1.blk (σ.next + 1) = some y := by
 subst hσ
 exact ⟨((((Ext.refl σ).bump 2).put (Nat.le_refl _) _).put (by omega) _), rfl, (s_bn (by omega)).trans s_bs, s_bs⟩
theorem Rd.lt {σ : AH O} {es n : Nat} {a : SA} {cs : List AV} (h : Rd σ es a n cs) (hn : ∀ b ∈ SA.bk a, b < σ.next) {σ' : AH O} (e : Ext σ σ') : Rd σ' es a n cs := h.of fun b hb => e.blk b (hn b hb)
theorem grow1 {σ : AH O} {el : TypeId} {a : SA} {n : Nat} {cs : List AV} {v : AV} (ho : OwnS σ el 1 a n cs) :
  Ok (((σ.bump 2).put σ.next (.cells true el [v])).appSl (σ.next + 1) el 1 a n 1 [v]) fun r => ∃ a', r.1 = .sl a' (n + 1) ∧ OwnS r.2 el 1 a' (n + 1) (cs ++ [v]) ∧ Chg (SA.bk a) σ r.2 ∧ ∀ b ∈ SA.bk a', σ.next ≤ b ∧ b < r.2.next := by
 have hlt := ho.lt
 generalize hσ : (σ.bump 2).put σ.next (.cells true el [v]) = σ1
 have n1 : σ1.next = σ.next + 2 := by rw [← hσ]; rfl
 have b1 : ∀ b, b < σ.next → σ1.blk b = σ.blk b := fun b hb => by rw [← hσ, s_bn (by omega)]; rfl
 clear hσ
 have ho1 : OwnS σ1 el 1 a n cs := ho.of (by omega) fun b hb => b1 b (hlt b hb)
 refine (app_ok (nid := σ.next + 1) ho1 (fun hm => by have := hlt _ hm; omega) (by omega) (show ([v] : List AV).length = 1 * 1 from rfl)).mono fun r ⟨a', g1, g2, g3, g4, g5⟩ => ⟨a', g1, g2, ⟨by omega, fun b hb hm => (g4 b (by omega) hm).trans (b1 b hb)⟩, fun b hb => by have := g5 b hb; omega⟩
theorem Chg.new {σ0 σ σ' : AH O} {L : List Nat} (h : Ext σ0 σ) (hl : ∀ b ∈ L, σ0.next ≤ b) (c : Chg L σ σ') : Ext σ0 σ' := ⟨Nat.le_trans h.next c.next, fun b hb => (c.blk b (Nat.lt_of_lt_of_le hb h.next) fun hm => by have := hl b hm; omega).trans (h.blk b hb)⟩
theorem frz_intsT {s : Sm O} {xs : List AV} {σ : AH O} {k : IntKind} {l : List Int} {vs : List AV} (hv : vs.all AV.flat = true) (h : Ok (s xs σ) fun r => ∃ a el, r.1 = .tup (.sl a l.length :: vs) ∧ OwnS r.2 el 1 a l.length (l.map (AV.i k)) ∧ Ext σ r.2 ∧ ∀ b ∈ SA.bk a, σ.next ≤ b) : Ok (frz s xs σ) fun r => (∃ a, r.1 = .tup (.sl a l.length :: vs) ∧ Imm 1 a l.length (l.map (AV.i k))) ∧ Ext σ r.2 := by
 refine frz_ok (Q := fun v => ∃ a, v = .tup (.sl a l.length :: vs) ∧ Imm 1 a l.length (l.map (AV.i k))) (h.mono ?_)
 rintro ⟨v, σ1⟩ ⟨a, el, rfl, own, E, fr⟩
 obtain ⟨a', f, m⟩ := FZ.sl (d := 5) own (fun _ _ => rfl) (FZL.flat (by simp [AV.flat])) rfl (by simp)
 have := FZ.tup (FZL.cons f (FZL.flat (H := σ1.blk) hv) (by simp))
 exact ⟨_, _, this, fun b hb => fr b (by simpa using hb), E, a', rfl, m⟩
end Go.Abs
set_option linter.unusedSimpArgs false
namespace Go.Abs
open Go
def enc (w : Nat) : List Int := if w < 128 then [(w : Int)] else ((w % 128 + 128 : Nat) : Int) :: enc (w / 128) termination_by w
def Bytes (bs : List Int) : Prop := ∀ x ∈ bs, 0 ≤ x ∧ x < 256
theorem Bytes.tail {c : Int} {bs : List Int} (h : Bytes (c :: bs)) : Bytes bs := fun x hx => h x (List.mem_cons_of_mem _ hx)
theorem Bytes.head {c : Int} {bs : List Int} (h : Bytes (c :: bs)) : 0 ≤ c ∧ c < 256 := h c List.mem_cons_self
theorem Bytes.drop {bs : List Int} (h : Bytes bs) (n : Nat) : Bytes (bs.drop n) := fun x hx => h x (List.mem_of_mem_drop hx)
theorem Bytes.app {bs cs : List Int} (h : Bytes bs) (h' : Bytes cs) : Bytes (bs ++ cs) := fun x hx => by
 rcases List.mem_append.1 hx with hx | hx
 ·exact h x hx
 ·exact h' x hx
@[simp] theorem map_some' {A B : Type} {f : A → B} {a : A} : Option.map f (some a) = some (f a) := rfl
end Go.Abs
namespace Go.Abs
open Go
section
variable (unp : Int → Option HV) (pck : HV → Int)
variable {unp pck}
end
def meetP (n : Int) (least : Int) : Int → List Int → Option Int
 | met, [] => some met
 | met, k :: l => if least ≤ k ∧ k ≤ n ∧ k ≤ met + 1 then meetP n least (max met k) l else none
def hdP (h : HV) : Bool := decide ((0 ≤ h.p ∧ h.p ≤ 4095) ∧ (0 ≤ h.r ∧ h.r ≤ 4095) ∧ (0 ≤ h.site ∧ h.site ≤ 31) ∧ (0 ≤ h.age ∧ h.age ≤ 7))
def nodesR (n : Int) : Int → Int → List NV → Bool
 | _, _, [] => true
 | i, met, x :: N => decide (i < met) && (hdP x.h && (decide ((x.P.length : Int) = x.h.p) && (decide ((x.R.length : Int) = x.h.r) && (match meetP n 0 met x.P with | none => false | some m => nodesR n (i + 1) m N))))
def rightP (F : FV) : Bool := (match meetP F.nodes.length 1 0 F.roots with | none => false | some m => nodesR F.nodes.length 0 m F.nodes) && F.weak.all fun k => decide (0 ≤ k ∧ k ≤ F.nodes.length)
end Go.Abs
namespace Go.Abs
open Go
section
variable (unp : Int → Option HV)
end
section
variable {unp : Int → Option HV}
end
end Go.Abs
namespace Go.Abs
open Go
def pck (h : HV) : Int := 4611686018427387904 + (if h.large = true then 4294967296 else 0) + h.age * 536870912 + h.site * 16777216 + h.r * 4096 + h.p
def hdr (w : Int) : HV := ⟨w % 4096, w / 4096 % 4096, w / 16777216 % 32, w / 536870912 % 8, decide (w / 4294967296 % 2 = 1)⟩
def unp (w : Int) : Option HV := if pck (hdr w) = w then some (hdr w) else none
end Go.Abs
