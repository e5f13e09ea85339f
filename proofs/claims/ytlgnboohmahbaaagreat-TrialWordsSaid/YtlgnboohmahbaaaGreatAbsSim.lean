/-
  AbsSim: rules by which what is run is reckoned: the heap's reads and writes, words that fit, truths that are known.
-/
import Derived.Test.YtlgnboohmahbaaaGreatAbsBits
import Derived.Test.YtlgnboohmahbaaaGreatAbsWord
set_option linter.unusedVariables false
set_option linter.unusedSimpArgs false
set_option linter.constructorNameAsVariable false
namespace Go.Abs
open Go
variable {O : Type}
theorem s_beq {n : Nat} : Nat.beq n n = true := Nat.beq_refl n
theorem s_agg {n : Nat} {cs : List AV} : AV.asAgg n (.agg cs) = bif Nat.beq cs.length n then some cs else none := rfl
theorem s_tup {n : Nat} {cs : List AV} : AV.asTup n (.tup cs) = bif Nat.beq cs.length n then some cs else none := rfl
theorem s_fn {f : Option (Fn × List AV × List AV)} : AV.asF (.fn f) = some f := rfl
theorem s_bindN {A B : Type} {f : A → Option B} : (none : Option A).bind f = none := rfl
theorem s_isNoneS {A : Type} {a : A} : (some a).isNone = false := rfl
theorem s_isNoneN {A : Type} : (none : Option A).isNone = true := rfl
theorem s_ref {b : Bid} {o es : Nat} : SA.ref (.loc b o es) = some (b, o) := rfl
theorem s_adv {b : Bid} {o es l : Nat} : SA.adv (.loc b o es) l es = some (.loc b (o + l * es) es) := by simp [SA.adv, Nat.beq_refl]
theorem s_ldf {σ : AH O} {cs : List AV} {o : Nat} : σ.ld (.f cs) o = cs[o]? := rfl
def ldM (x : Option (Blk O)) (o : Nat) : Option AV := match x with | some (.cells _ _ cs) => cs[o]? | _ => none
theorem s_ld {σ : AH O} {b o : Nat} : σ.ld (.n b) o = ldM (σ.blk b) o := rfl
theorem s_ldM {ow : Bool} {el o : Nat} {cs : List AV} : ldM (some (.cells ow el cs) : Option (Blk O)) o = cs[o]? := rfl
def splice (cs : List AV) (o : Nat) (vs : List AV) : List AV := cs.take o ++ vs ++ cs.drop (o + vs.length)
def stM (σ : AH O) (b : Nat) (x : Option (Blk O)) (o : Nat) (vs : List AV) : Option (AH O) := match x with | some (.cells true el cs) => bif Nat.ble (o + vs.length) cs.length then some (σ.put b (.cells true el (splice cs o vs))) else none | _ => none
theorem s_st {σ : AH O} {b o : Nat} {vs : List AV} : σ.st (.n b) o vs = stM σ b (σ.blk b) o vs := rfl
theorem s_stM {σ : AH O} {b el o : Nat} {cs vs : List AV} : stM σ b (some (.cells true el cs)) o vs = bif Nat.ble (o + vs.length) cs.length then some (σ.put b (.cells true el (splice cs o vs))) else none := rfl
theorem splice_z (cs : List AV) : splice cs 0 [] = cs := by simp [splice]
theorem splice_zz (c v : AV) (cs vs : List AV) : splice (c :: cs) 0 (v :: vs) = v :: splice cs 0 vs := by
 simp only [splice, List.take_zero, List.nil_append, Nat.zero_add, List.length_cons, List.cons_append, List.drop_succ_cons]
theorem splice_s (c : AV) (cs vs : List AV) (o : Nat) : splice (c :: cs) (o + 1) vs = c :: splice cs o vs := by
 simp only [splice, List.take_succ_cons, List.cons_append]
 rw [show o + 1 + vs.length = o + vs.length + 1 by omega, List.drop_succ_cons]
theorem s_bs {σ : AH O} {b : Nat} {x : Blk O} : (σ.put b x).blk b = some x := by simp
theorem s_bn {σ : AH O} {b q : Nat} {x : Blk O} (h : q ≠ b) : (σ.put b x).blk q = σ.blk q := by simp [h]
theorem s_pp {σ : AH O} {b : Nat} {x y : Blk O} : (σ.put b x).put b y = σ.put b y := by
 simp only [AH.put, AH.mk.injEq, and_true]
 funext q
 cases Nat.beq q b <;> rfl
theorem s_decT {p : Prop} [Decidable p] (h : p) : decide p = true := decide_eq_true h
theorem s_decF {p : Prop} [Decidable p] (h : ¬ p) : decide p = false := decide_eq_false h
theorem s_eqT {a b : Int} (h : a = b) : (a == b) = true := by simp [h]
theorem s_eqF {a b : Int} (h : a ≠ b) : (a == b) = false := by simp [h]
theorem s_i64 {n : Int} (h : -9223372036854775808 ≤ n ∧ n ≤ 9223372036854775807) : IntKind.i64.wrap n = n := i64_id h.1 h.2
theorem s_u64 {n : Int} (h : 0 ≤ n ∧ n < 18446744073709551616) : IntKind.u64.wrap n = n := u64_id h.1 h.2
theorem s_u8 {n : Int} (h : 0 ≤ n ∧ n < 256) : IntKind.u8.wrap n = n := u8_id h.1 h.2
theorem s_room {a b : Nat} (h : a ≤ b) : Nat.ble a b = true := Nat.ble_eq_true_of_le h
theorem s_mapS {A B : Type} {a : A} {f : A → B} : (some a).map f = some (f a) := rfl
theorem s_chk0 {p : Prop} (h : p) : chk p = some () := by simp [chk, h]
theorem s_chk {x y : Option AV} (h : x = y) : chkE x y = some () := by unfold chkE; cases eqOA x y <;> simp [s_chk0 h]
theorem s_chkl {x y : Option (List AV)} (h : x = y) : chkL x y = some () := by unfold chkL; cases eqOL x y <;> simp [s_chk0 h]
theorem s_bleD {a b : Nat} : Nat.ble a b = decide (a ≤ b) := by
 by_cases h : a ≤ b
 ·rw [Nat.ble_eq_true_of_le h, decide_eq_true h]
 ·rw [decide_eq_false h]; cases hb : Nat.ble a b with | false => rfl | true => exact absurd (Nat.le_of_ble_eq_true hb) h
theorem s_chkT {x : Option AV} : chkE x x = some () := s_chk rfl
theorem s_chkL {x : Option (List AV)} : chkL x x = some () := s_chkl rfl
theorem s_rdSl {σ : AH O} {b : Bid} {o e n es : Nat} : σ.rdSl (.loc b o e) n es = σ.ldN b o (n * es) := rfl
def ldNM (x : Option (Blk O)) (o n : Nat) : Option (List AV) := match x with | some (.cells _ _ cs) => bif Nat.ble (o + n) cs.length then some ((cs.drop o).take n) else none | _ => none
theorem s_ldN {σ : AH O} {b o n : Nat} : σ.ldN (.n b) o n = ldNM (σ.blk b) o n := rfl
theorem s_ldNM {ow : Bool} {el o n : Nat} {cs : List AV} : ldNM (some (.cells ow el cs) : Option (Blk O)) o n = bif Nat.ble (o + n) cs.length then some ((cs.drop o).take n) else none := rfl
theorem s_ldNf {σ : AH O} {cs : List AV} {o n : Nat} : σ.ldN (.f cs) o n = bif Nat.ble (o + n) cs.length then some ((cs.drop o).take n) else none := rfl
theorem s_wrSl {σ : AH O} {b : Bid} {o e : Nat} {vs : List AV} : σ.wrSl (.loc b o e) vs = σ.st b o vs := rfl
theorem s_yk {g : Nat} (h : g < 1000000) : Nat.ble yKey g = false := by
 cases hb : Nat.ble yKey g with
 | false => rfl
 | true => have := Nat.le_of_ble_eq_true hb; simp only [yKey] at this; omega
theorem rsU : (type_of% @s_beq) ∧ (type_of% @List.length_cons.{0}) ∧ (type_of% @List.length_nil.{0}) ∧ (type_of% @List.getD_cons_zero.{0}) ∧ (type_of% @List.getD_cons_succ.{0}) ∧ (type_of% @List.getElem?_cons_zero.{0}) ∧ (type_of% @List.getElem?_cons_succ.{0}) ∧ (type_of% @Option.bind_some.{0, 0}) ∧ (type_of% @Option.bind_assoc.{0, 0, 0}) ∧ (type_of% @s_bindN) ∧ (type_of% @asI_i) ∧ (type_of% @asB_b) ∧ (type_of% @asS_s) ∧ (type_of% @asP_p) ∧ (type_of% @asPS_p) ∧ (type_of% @asSl_sl) ∧ (type_of% @s_agg) ∧ (type_of% @s_tup) ∧ (type_of% @s_fn) ∧ (type_of% @joinB) ∧ (type_of% @joinI) ∧ (type_of% @joinR) ∧ (type_of% @beq_true) ∧ (type_of% @beq_false) ∧ (type_of% @Bool.not_true) ∧ (type_of% @Bool.not_false) ∧ (type_of% @Bool.not_not) ∧ (type_of% @cond_true.{1}) ∧ (type_of% @cond_false.{1}) ∧ (type_of% @neI) ∧ (type_of% @s_mapS) ∧ (type_of% @bindS_inl) ∧ (type_of% @bindS_inr) ∧ (type_of% @Bool.and_true) ∧ (type_of% @Bool.true_and) ∧ (type_of% @Bool.and_false) ∧ (type_of% @Bool.false_and) ∧ (type_of% @s_isNoneS) ∧ (type_of% @s_isNoneN) ∧ (type_of% @s_ref) ∧ (type_of% @s_adv) ∧ (type_of% @s_ldf) ∧ (type_of% @s_ld) ∧ (type_of% @s_ldM) ∧ (type_of% @s_st) ∧ (type_of% @s_stM) ∧ (type_of% @s_bs) ∧ (type_of% @s_pp) ∧ (type_of% @bump_blk) ∧ (type_of% @bump_next) ∧ (type_of% @put_next) ∧ (type_of% @splice_z) ∧ (type_of% @splice_zz) ∧ (type_of% @splice_s) ∧ (type_of% @Int.toNat_natCast) ∧ (type_of% @Nat.zero_add) ∧ (type_of% @s_chkT) ∧ (type_of% @s_chkL) ∧ (type_of% @s_rdSl) ∧ (type_of% @s_wrSl) ∧ (type_of% @s_ldN) ∧ (type_of% @s_ldNM) ∧ (type_of% @s_ldNf) ∧ (type_of% @List.drop_zero.{0}) ∧ (type_of% @List.take_succ_cons.{0}) ∧ (type_of% @List.take_zero.{0}) ∧ (type_of% @List.take_nil.{0}) ∧ (type_of% @List.take_length.{0}) ∧ (type_of% @Nat.mul_one) ∧ (type_of% @List.flatten_cons.{0}) ∧ (type_of% @List.flatten_nil.{0}) ∧ (type_of% @List.append_nil.{0}) ∧ (type_of% @List.nil_append.{0}) ∧ (type_of% @List.cons_append.{0}) := ⟨@s_beq, @List.length_cons.{0}, @List.length_nil.{0}, @List.getD_cons_zero.{0}, @List.getD_cons_succ.{0}, @List.getElem?_cons_zero.{0}, @List.getElem?_cons_succ.{0}, @Option.bind_some.{0, 0}, @Option.bind_assoc.{0, 0, 0}, @s_bindN, @asI_i, @asB_b, @asS_s, @asP_p, @asPS_p, @asSl_sl, @s_agg, @s_tup, @s_fn, @joinB, @joinI, @joinR, @beq_true, @beq_false, @Bool.not_true, @Bool.not_false, @Bool.not_not, @cond_true.{1}, @cond_false.{1}, @neI, @s_mapS, @bindS_inl, @bindS_inr, @Bool.and_true, @Bool.true_and, @Bool.and_false, @Bool.false_and, @s_isNoneS, @s_isNoneN, @s_ref, @s_adv, @s_ldf, @s_ld, @s_ldM, @s_st, @s_stM, @s_bs, @s_pp, @bump_blk, @bump_next, @put_next, @splice_z, @splice_zz, @splice_s, @Int.toNat_natCast, @Nat.zero_add, @s_chkT, @s_chkL, @s_rdSl, @s_wrSl, @s_ldN, @s_ldNM, @s_ldNf, @List.drop_zero.{0}, @List.take_succ_cons.{0}, @List.take_zero.{0}, @List.take_nil.{0}, @List.take_length.{0}, @Nat.mul_one, @List.flatten_cons.{0}, @List.flatten_nil.{0}, @List.append_nil.{0}, @List.nil_append.{0}, @List.cons_append.{0}⟩
theorem rsC : (type_of% @s_ldI) ∧ (type_of% @s_ldU) ∧ (type_of% @s_ldS) ∧ (type_of% @s_ldP) ∧ (type_of% @s_gtI) ∧ (type_of% @s_gtU) ∧ (type_of% @s_gtS) ∧ (type_of% @s_yk) ∧ (type_of% @s_bn) ∧ (type_of% @s_decT) ∧ (type_of% @s_decF) ∧ (type_of% @s_eqT) ∧ (type_of% @s_eqF) ∧ (type_of% @s_i64) ∧ (type_of% @s_u64) ∧ (type_of% @s_u8) ∧ (type_of% @s_room) := ⟨@s_ldI, @s_ldU, @s_ldS, @s_ldP, @s_gtI, @s_gtU, @s_gtS, @s_yk, @s_bn, @s_decT, @s_decF, @s_eqT, @s_eqF, @s_i64, @s_u64, @s_u8, @s_room⟩
theorem rsD : (type_of% @put_next) ∧ (type_of% @bump_next) ∧ (type_of% @kill_next) ∧ (type_of% @List.length_cons.{0}) ∧ (type_of% @List.length_nil.{0}) ∧ (type_of% @List.mem_cons.{0}) ∧ (type_of% @List.not_mem_nil.{0}) ∧ (type_of% @or_false) ∧ (type_of% @not_false_eq_true) := ⟨@put_next, @bump_next, @kill_next, @List.length_cons, @List.length_nil, @List.mem_cons, @List.not_mem_nil, @or_false, @not_false_eq_true⟩
end Go.Abs
