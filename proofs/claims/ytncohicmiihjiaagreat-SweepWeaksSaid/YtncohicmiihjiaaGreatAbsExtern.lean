/-
  AbsExtern: functions of the library that only reckon.
-/
import Derived.Test.YtncohicmiihjiaaGreatAbsFrz
import Derived.Laws.Externs
set_option linter.unusedVariables false
set_option linter.unusedSimpArgs false
set_option linter.constructorNameAsVariable false
namespace Go.Abs
open Go
variable {O:Type} {P:Program}
noncomputable def gq {O:Type}:Sm O:=fun xs J=>
 bif Nat.beq xs.length 3 then
 (AV.aX .u64 (xs.getD 0 .u)).bind fun x=>
 (AV.aX .u64 (xs.getD 1 .u)).bind fun y=>
 (AV.aX .u64 (xs.getD 2 .u)).bind fun c=>
 bif decide (0<=x) && decide (0<=y) && decide (0<=c) && decide (c<=1) then some (.aB [.i .u64 ((x+y+c) % 18446744073709551616),.i .u64 ((x+y+c) / 18446744073709551616)],J) else none
 else none
theorem Cg {xs:List AV} {args:Array Value} {ρ:bX} (hl:Nat.beq xs.length 3=true) (hr:aL ρ xs args.toList) {x y c:Int} (hx:AV.aX .u64 (xs.getD 0 .u)=some x) (hy:AV.aX .u64 (xs.getD 1 .u)=some y) (hc:AV.aX .u64 (xs.getD 2 .u)=some c):
  args = #[.int .u64 x,.int .u64 y,.int .u64 c]:=by
 have D9:=Nat.eq_of_beq_eq_true hl
 match xs,D9,hr with
 |[a,b,d],_,hr=>
  have inv:∀ {v:AV} {n:Int} {u:Value},AV.aX .u64 v=some n->aK ρ v u->u=.int .u64 n:=fun {v n u} h hv=>by
   cases v<;>simp [AV.aX] at h
   obtain ⟨rfl,rfl⟩:=h
   cases hv;rfl
  obtain ⟨l⟩:=args
  match l,hr with
  |[u1,u2,u3],.cons _ _ _ _ h1 (.cons _ _ _ _ h2 (.cons _ _ _ _ h3 .nil))=>
   rw [inv hx h1,inv hy h2,inv hc h3]
theorem FN {f:FuncId} {fn:Func} (hf:P.funcs[f]? = some fn) (Wr:(fn.name == "runtime.NumGoroutine")=false) (hb:fn.body.isNone=true) (hn:Extern.findNext fn=none) (he:Extern.find fn=some add64Entry):me P f (gq (O:=O)):=by
 intro xs J v J' h
 unfold gq at h
 obtain ⟨hl,h⟩:=aG h
 obtain ⟨x,hx,h⟩:=Option.bind_eq_some_iff.1 h
 obtain ⟨y,hy,h⟩:=Option.bind_eq_some_iff.1 h
 obtain ⟨c,hc,h⟩:=Option.bind_eq_some_iff.1 h
 obtain ⟨fv,h⟩:=aG h
 simp only [Bool.and_eq_true,decide_eq_true_eq] at fv
 cases h
 refine ⟨rfl,fun ρ args hr=>?_⟩
 rw [Cg hl hr hx hy hc]
 refine ⟨_,.aB _ [_,_] (.cons _ _ _ _ (.i _ _) (.cons _ _ _ _ (.i _ _) .nil)),fun w=>?_⟩
 rw [run_callFunc_extern hf Wr hb hn he,run_add64 x y c fv.1.1.1 fv.1.1.2 fv.1.2 fv.2]
 rfl
end Go.Abs
