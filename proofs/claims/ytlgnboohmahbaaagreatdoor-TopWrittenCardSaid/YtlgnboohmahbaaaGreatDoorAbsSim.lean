/-
  AbsSim: rules by which what is run is reckoned: the heap's reads and writes, words that fit, truths that are known.
-/
import Derived.Test.YtlgnboohmahbaaaGreatDoorAbsBits
import Derived.Test.YtlgnboohmahbaaaGreatDoorAbsWord
set_option linter.unusedVariables false
set_option linter.unusedSimpArgs false
set_option linter.constructorNameAsVariable false
namespace Go.Abs
open Go
variable {O:Type}
theorem L8 {n:Nat}:Nat.beq n n=true:=Nat.beq_refl n
theorem ag9 {n:Nat} {cs:List AV}:AV.asAgg n (.agg cs)=bif Nat.beq cs.length n then some cs else none:=rfl
theorem ag' {n:Nat} {cs:List AV}:AV.aE n (.aS cs)=bif Nat.beq cs.length n then some cs else none:=rfl
theorem ale {f:Option (Fn × List AV × List AV)}:AV.Qt (.fn f)=some f:=rfl
theorem Xu {A B:Type} {f:A → Option B}:(none:Option A).bind f=none:=rfl
theorem PD {A:Type} {a:A}:(some a).isNone=false:=rfl
theorem PE {A:Type}:(none:Option A).isNone=true:=rfl
theorem aha {b:jJ} {o es:Nat}:SA.ref (.loc b o es)=some (b,o):=rfl
theorem aaU {b:jJ} {o es l:Nat}:SA.DD (.loc b o es) l es=some (.loc b (o+l*es) es):=by simp [SA.DD,Nat.beq_refl]
theorem ahb {σ:AH O} {cs:List AV} {o:Nat}:σ.ld (.f cs) o=cs[o]? := rfl
def ldM (x:Option (oM O)) (o:Nat):Option AV:=match x with |some (.cells _ _ cs)=>cs[o]? | _=>none
theorem adI {σ:AH O} {b o:Nat}:σ.ld (.n b) o=ldM (σ.ai b) o:=rfl
theorem Xv {ow:Bool} {el o:Nat} {cs:List AV}:ldM (some (.cells ow el cs):Option (oM O)) o=cs[o]? := rfl
def u4 (cs:List AV) (o:Nat) (vs:List AV):List AV:=cs.take o++vs++cs.drop (o+vs.length)
def stM (σ:AH O) (b:Nat) (x:Option (oM O)) (o:Nat) (vs:List AV):Option (AH O):=match x with |some (.cells true el cs)=>bif Nat.ble (o+vs.length) cs.length then some (σ.put b (.cells true el (u4 cs o vs))) else none |_=>none
theorem alf {σ:AH O} {b o:Nat} {vs:List AV}:σ.st (.n b) o vs=stM σ b (σ.ai b) o vs:=rfl
theorem ahc {σ:AH O} {b el o:Nat} {cs vs:List AV}:stM σ b (some (.cells true el cs)) o vs=bif Nat.ble (o+vs.length) cs.length then some (σ.put b (.cells true el (u4 cs o vs))) else none:=rfl
theorem TA (cs:List AV):u4 cs 0 []=cs:=by simp [u4]
theorem PF (c v:AV) (cs vs:List AV):u4 (c::cs) 0 (v::vs)=v::u4 cs 0 vs:=by
 simp only [u4,List.take_zero,List.nil_append,Nat.zero_add,List.length_cons,List.cons_append,List.drop_succ_cons]
theorem TB (c:AV) (cs vs:List AV) (o:Nat):u4 (c::cs) (o+1) vs=c::u4 cs o vs:=by
 simp only [u4,List.take_succ_cons,List.cons_append]
 rw [show o+1+vs.length=o+vs.length+1 by omega,List.drop_succ_cons]
theorem cH {σ:AH O} {b:Nat} {x:oM O}:(σ.put b x).ai b=some x:=by simp
theorem bu {σ:AH O} {b q:Nat} {x:oM O} (h:q≠b):(σ.put b x).ai q=σ.ai q:=by simp [h]
theorem iI {σ:AH O} {b q:Nat} (h:q≠b):(σ.kill b).ai q=σ.ai q:=by simp [h]
theorem alg {σ:AH O} {b:Nat} {x y:oM O}:(σ.put b x).put b y=σ.put b y:=by
 simp only [AH.put,AH.mk.injEq,and_true]
 funext q
 cases Nat.beq q b<;>rfl
theorem aaV {p:Prop} [Decidable p] (h:p):decide p=true:=decide_eq_true h
theorem aaW {p:Prop} [Decidable p] (h:¬ p):decide p=false:=decide_eq_false h
theorem Ma {a b:Int} (h:a=b):(a == b)=true:=by simp [h]
theorem Mb {a b:Int} (h:a≠b):(a == b)=false:=by simp [h]
theorem aaX {n:Int} (h : -9223372036854775808 ≤ n ∧ n ≤ 9223372036854775807):IntKind.i64.wrap n=n:=bJ h.1 h.2
theorem PG {n:Int} (h:0 ≤ n ∧ n<18446744073709551616):IntKind.u64.wrap n=n:=uY h.1 h.2
theorem adJ {n:Int} (h:0 ≤ n ∧ n<256):IntKind.u8.wrap n=n:=aae h.1 h.2
theorem dX {σ aj:AH O} (h:Ext σ aj) {b:Nat} (hb:b<σ.next):aj.ai b=σ.ai b:=h.ai b hb
theorem aaY {a b:Nat} (h:a ≤ b):Nat.ble a b=true:=Nat.ble_eq_true_of_le h
theorem aaZ {A B:Type} {a:A} {f:A → B}:(some a).map f=some (f a):=rfl
theorem aa0 {p:Prop} (h:p):chk p=some ():=by simp [chk,h]
theorem alh {x y:Option AV} (h:x=y):bc x y=some ():=by unfold bc;cases aag x y<;>simp [aa0 h]
theorem aa1 {x y:Option (List AV)} (h:x=y):VH x y=some ():=by unfold VH;cases adj x y<;>simp [aa0 h]
theorem ah {a b:Nat}:Nat.ble a b=decide (a ≤ b):=by
 by_cases h:a ≤ b
 ·rw [Nat.ble_eq_true_of_le h,decide_eq_true h]
 ·rw [decide_eq_false h];cases hb:Nat.ble a b with |false=>rfl |true=>exact absurd (Nat.le_of_ble_eq_true hb) h
theorem Mc {x:Option AV}:bc x x=some ():=alh rfl
theorem aa2 {x:Option (List AV)}:VH x x=some ():=aa1 rfl
theorem aa3 {σ:AH O} {b:jJ} {o e n es:Nat}:σ.bC (.loc b o e) n es=σ.O8 b o (n*es):=rfl
def ali (x:Option (oM O)) (o n:Nat):Option (List AV):=match x with |some (.cells _ _ cs)=>bif Nat.ble (o+n) cs.length then some ((cs.drop o).take n) else none |_=>none
theorem ahd {σ:AH O} {b o n:Nat}:σ.O8 (.n b) o n=ali (σ.ai b) o n:=rfl
theorem aa4 {ow:Bool} {el o n:Nat} {cs:List AV}:ali (some (.cells ow el cs):Option (oM O)) o n=bif Nat.ble (o+n) cs.length then some ((cs.drop o).take n) else none:=rfl
theorem aa5 {σ:AH O} {cs:List AV} {o n:Nat}:σ.O8 (.f cs) o n=bif Nat.ble (o+n) cs.length then some ((cs.drop o).take n) else none:=rfl
theorem aa6 {σ:AH O} {b:jJ} {o e:Nat} {vs:List AV}:σ.VE (.loc b o e) vs=σ.st b o vs:=rfl
theorem ep {σ aj:AH O} (hn:σ.next ≤ aj.next) (h:∀ b,b<σ.next → aj.ai b=σ.ai b):Ext σ aj:=⟨hn,h⟩
theorem alj {g:Nat} (h:g<1000000):Nat.ble wo g=false:=by
 cases hb:Nat.ble wo g with
 |false=>rfl
 |true=>have:=Nat.le_of_ble_eq_true hb;simp only [wo] at this;omega
theorem aB:(type_of% @L8) ∧ (type_of% @List.length_cons.{0}) ∧ (type_of% @List.length_nil.{0}) ∧ (type_of% @List.getD_cons_zero.{0}) ∧ (type_of% @List.getD_cons_succ.{0}) ∧ (type_of% @List.getElem?_cons_zero.{0}) ∧ (type_of% @List.getElem?_cons_succ.{0}) ∧ (type_of% @Option.bind_some.{0,0}) ∧ (type_of% @Option.bind_assoc.{0,0,0}) ∧ (type_of% @Xu) ∧ (type_of% @ag2) ∧ (type_of% @ag3) ∧ (type_of% @ag4) ∧ (type_of% @ag5) ∧ (type_of% @aaJ) ∧ (type_of% @Xt) ∧ (type_of% @ag9) ∧ (type_of% @ag') ∧ (type_of% @ale) ∧ (type_of% @agH) ∧ (type_of% @agI) ∧ (type_of% @agJ) ∧ (type_of% @beq_true) ∧ (type_of% @beq_false) ∧ (type_of% @Bool.not_true) ∧ (type_of% @Bool.not_false) ∧ (type_of% @Bool.not_not) ∧ (type_of% @cond_true.{1}) ∧ (type_of% @cond_false.{1}) ∧ (type_of% @neI) ∧ (type_of% @aaZ) ∧ (type_of% @Iq) ∧ (type_of% @Pw) ∧ (type_of% @Bool.and_true) ∧ (type_of% @Bool.true_and) ∧ (type_of% @Bool.and_false) ∧ (type_of% @Bool.false_and) ∧ (type_of% @PD) ∧ (type_of% @PE) ∧ (type_of% @aha) ∧ (type_of% @aaU) ∧ (type_of% @ahb) ∧ (type_of% @adI) ∧ (type_of% @Xv) ∧ (type_of% @alf) ∧ (type_of% @ahc) ∧ (type_of% @cH) ∧ (type_of% @alg) ∧ (type_of% @bd) ∧ (type_of% @bg) ∧ (type_of% @gK) ∧ (type_of% @TA) ∧ (type_of% @PF) ∧ (type_of% @TB) ∧ (type_of% @Int.toNat_natCast) ∧ (type_of% @Nat.zero_add) ∧ (type_of% @Mc) ∧ (type_of% @aa2) ∧ (type_of% @aa3) ∧ (type_of% @aa6) ∧ (type_of% @ahd) ∧ (type_of% @aa4) ∧ (type_of% @aa5) ∧ (type_of% @List.drop_zero.{0}) ∧ (type_of% @List.take_succ_cons.{0}) ∧ (type_of% @List.take_zero.{0}) ∧ (type_of% @List.take_nil.{0}) ∧ (type_of% @List.take_length.{0}) ∧ (type_of% @Nat.mul_one) ∧ (type_of% @List.flatten_cons.{0}) ∧ (type_of% @List.flatten_nil.{0}) ∧ (type_of% @List.append_nil.{0}) ∧ (type_of% @List.nil_append.{0}) ∧ (type_of% @List.cons_append.{0}):=⟨@L8,@List.length_cons.{0},@List.length_nil.{0},@List.getD_cons_zero.{0},@List.getD_cons_succ.{0},@List.getElem?_cons_zero.{0},@List.getElem?_cons_succ.{0},@Option.bind_some.{0,0},@Option.bind_assoc.{0,0,0},@Xu,@ag2,@ag3,@ag4,@ag5,@aaJ,@Xt,@ag9,@ag',@ale,@agH,@agI,@agJ,@beq_true,@beq_false,@Bool.not_true,@Bool.not_false,@Bool.not_not,@cond_true.{1},@cond_false.{1},@neI,@aaZ,@Iq,@Pw,@Bool.and_true,@Bool.true_and,@Bool.and_false,@Bool.false_and,@PD,@PE,@aha,@aaU,@ahb,@adI,@Xv,@alf,@ahc,@cH,@alg,@bd,@bg,@gK,@TA,@PF,@TB,@Int.toNat_natCast,@Nat.zero_add,@Mc,@aa2,@aa3,@aa6,@ahd,@aa4,@aa5,@List.drop_zero.{0},@List.take_succ_cons.{0},@List.take_zero.{0},@List.take_nil.{0},@List.take_length.{0},@Nat.mul_one,@List.flatten_cons.{0},@List.flatten_nil.{0},@List.append_nil.{0},@List.nil_append.{0},@List.cons_append.{0}⟩
theorem aX:(type_of% @ak) ∧ (type_of% @ao) ∧ (type_of% @au) ∧ (type_of% @aw) ∧ (type_of% @ax) ∧ (type_of% @ay) ∧ (type_of% @az) ∧ (type_of% @alj) ∧ (type_of% @bu) ∧ (type_of% @aaV) ∧ (type_of% @aaW) ∧ (type_of% @Ma) ∧ (type_of% @Mb) ∧ (type_of% @aaX) ∧ (type_of% @PG) ∧ (type_of% @adJ) ∧ (type_of% @aaY):=⟨@ak,@ao,@au,@aw,@ax,@ay,@az,@alj,@bu,@aaV,@aaW,@Ma,@Mb,@aaX,@PG,@adJ,@aaY⟩
theorem aK:(type_of% @gK) ∧ (type_of% @bg) ∧ (type_of% @gR) ∧ (type_of% @List.length_cons.{0}) ∧ (type_of% @List.length_nil.{0}) ∧ (type_of% @List.mem_cons.{0}) ∧ (type_of% @List.not_mem_nil.{0}) ∧ (type_of% @or_false) ∧ (type_of% @not_false_eq_true):=⟨@gK,@bg,@gR,@List.length_cons,@List.length_nil,@List.mem_cons,@List.not_mem_nil,@or_false,@not_false_eq_true⟩
end Go.Abs
