/-
  Copies, one more element, boxes: helpers of walks. No conditions.
-/
import Derived.Test.YtnbichnjfamdkaaGreatAbsSim
import Derived.Test.YtnbichnjfamdkaaGreatAbsSl
import Derived.Test.YtnbichnjfamdkaaGreatAbsBits
import Derived.Test.YtnbichnjfamdkaaGreatN1
set_option linter.unusedVariables false
set_option linter.unusedSimpArgs false
set_option linter.constructorNameAsVariable false
namespace Go.Abs
open Go
variable {O : Type}
theorem box1 {σ σ1 : AH O} {x : Blk O} (h : (σ.bump 1).put σ.next x = σ1) : Ext σ σ1 ∧ σ1.next = σ.next + 1 ∧ σ1.blk σ.next = some x := by
 subst h
 exact ⟨((Ext.refl σ).bump 1).put (Nat.le_refl _) _, rfl, s_bs⟩
theorem box2 {σ σ1 : AH O} {x y : Blk O} (hσ : ((σ.bump 2).put σ.next x).put (σ.next + 1) y = σ1) : Ext σ σ1 ∧ σ1.next = σ.next + 2 ∧ σ1.blk σ.next = some x ∧ σ1.blk (σ.next + 1) = some y := by
 subst hσ
 exact ⟨((((Ext.refl σ).bump 2).put (Nat.le_refl _) _).put (by omega) _), rfl, (s_bn (by omega)).trans s_bs, s_bs⟩
theorem Rd.lt {σ : AH O} {es n : Nat} {a : SA} {cs : List AV} (h : Rd σ es a n cs) (hn : ∀ b ∈ SA.bk a, b < σ.next) {σ' : AH O} (e : Ext σ σ') : Rd σ' es a n cs := h.of fun b hb => e.blk b (hn b hb)
theorem cpy_ok {σ : AH O} {nb el n : Nat} {vs : List AV} (hv : vs.length = n) (hb : σ.blk nb = some (.cells true el [])) (hn : nb + 1 < σ.next) :
  Ok (σ.appSl (nb + 1) el 1 (.loc (.n nb) 0 1) 0 n vs) fun r => ∃ a', r.1 = .sl a' n ∧ OwnS r.2 el 1 a' n vs ∧ r.2.next = σ.next ∧ (∀ b, b < nb → r.2.blk b = σ.blk b) ∧ ∀ b ∈ SA.bk a', b = nb + 1 := by
 have own : OwnS σ el 1 (.loc (.n nb) 0 1) 0 [] := OwnS.new rfl hb (by omega)
 refine (app_ok (nid := nb + 1) own (by simp [SA.bk]) hn (show vs.length = n * 1 by omega)).mono fun r ⟨a', m1, m2, m3, m4, m5⟩ => ⟨a', by rw [m1, Nat.zero_add], ?_, m3, fun b hb => m4 b (by omega) (by simp [SA.bk]; omega), m5⟩
 rw [Nat.zero_add, List.nil_append] at m2; exact m2
theorem cpyN_ok {σ : AH O} {el n : Nat} {vs : List AV} (hv : vs.length = n) : Ok (((σ.bump 2).put σ.next (.cells true el [])).appSl (σ.next + 1) el 1 (.loc (.n σ.next) 0 1) 0 n vs) fun r => ∃ a', r.1 = .sl a' n ∧ OwnS r.2 el 1 a' n vs ∧ Ext σ r.2 ∧ ∀ b ∈ SA.bk a', σ.next ≤ b := by
 refine (cpy_ok (σ := (σ.bump 2).put σ.next (.cells true el [])) (nb := σ.next) hv s_bs (by simp)).mono fun r ⟨a', m1, m2, m3, m4, m5⟩ => ⟨a', m1, m2, ⟨by rw [m3]; simp, fun b hb => ?_⟩, fun b hb => by have := m5 b hb; omega⟩
 rw [m4 b hb, s_bn (by omega)]; rfl
theorem Chg.new {σ0 σ σ' : AH O} {L : List Nat} (h : Ext σ0 σ) (hl : ∀ b ∈ L, σ0.next ≤ b) (c : Chg L σ σ') : Ext σ0 σ' := ⟨Nat.le_trans h.next c.next, fun b hb => (c.blk b (Nat.lt_of_lt_of_le hb h.next) fun hm => by have := hl b hm; omega).trans (h.blk b hb)⟩
end Go.Abs
set_option linter.unusedSimpArgs false
namespace Go.Abs
open Go
def enc (w : Nat) : List Int := if w < 128 then [(w : Int)] else ((w % 128 + 128 : Nat) : Int) :: enc (w / 128) termination_by w
def Bytes (bs : List Int) : Prop := ∀ x ∈ bs, 0 ≤ x ∧ x < 256
theorem Bytes.head {c : Int} {bs : List Int} (h : Bytes (c :: bs)) : 0 ≤ c ∧ c < 256 := h c List.mem_cons_self
theorem Bytes.drop {bs : List Int} (h : Bytes bs) (n : Nat) : Bytes (bs.drop n) := fun x hx => h x (List.mem_of_mem_drop hx)
theorem Bytes.app {bs cs : List Int} (h : Bytes bs) (h' : Bytes cs) : Bytes (bs ++ cs) := fun x hx => by
 rcases List.mem_append.1 hx with hx | hx
 ·exact h x hx
 ·exact h' x hx
@[simp] theorem map_some' {A B : Type} {f : A → B} {a : A} : Option.map f (some a) = some (f a) := rfl
def Words (ws : List Int) : Prop := ∀ w ∈ ws, 0 ≤ w ∧ w < 18446744073709551616
end Go.Abs
namespace Go.Abs
open Go
section
variable (unp : Int → Option HV) (pck : HV → Int)
variable {unp pck}
end
def meetP (n : Int) (least : Int) : Int → List Int → Option Int
 | met, [] => some met
 | met, k :: l => if least ≤ k ∧ k ≤ n ∧ k ≤ met + 1 then meetP n least (max met k) l else none
def hdP (h : HV) : Bool := decide ((0 ≤ h.p ∧ h.p ≤ 4095) ∧ (0 ≤ h.r ∧ h.r ≤ 4095) ∧ (0 ≤ h.site ∧ h.site ≤ 31) ∧ (0 ≤ h.age ∧ h.age ≤ 7))
def nodesR (n : Int) : Int → Int → List NV → Bool
 | _, _, [] => true
 | i, met, x :: N => decide (i < met) && (hdP x.h && (decide ((x.P.length : Int) = x.h.p) && (decide ((x.R.length : Int) = x.h.r) && (match meetP n 0 met x.P with | none => false | some m => nodesR n (i + 1) m N))))
def rightP (F : FV) : Bool := (match meetP F.nodes.length 1 0 F.roots with | none => false | some m => nodesR F.nodes.length 0 m F.nodes) && F.weak.all fun k => decide (0 ≤ k ∧ k ≤ F.nodes.length)
end Go.Abs
namespace Go.Abs
open Go
section
variable (unp : Int → Option HV)
end
section
variable {unp : Int → Option HV}
end
end Go.Abs
namespace Go.Abs
open Go
def pck (h : HV) : Int := 4611686018427387904 + (if h.large = true then 4294967296 else 0) + h.age * 536870912 + h.site * 16777216 + h.r * 4096 + h.p
def hdr (w : Int) : HV := ⟨w % 4096, w / 4096 % 4096, w / 16777216 % 32, w / 536870912 % 8, decide (w / 4294967296 % 2 = 1)⟩
def unp (w : Int) : Option HV := if pck (hdr w) = w then some (hdr w) else none
end Go.Abs
