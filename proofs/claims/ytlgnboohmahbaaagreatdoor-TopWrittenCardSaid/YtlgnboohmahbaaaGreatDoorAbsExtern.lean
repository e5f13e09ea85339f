/-
  AbsExtern: functions of the library that only reckon.
-/
import Derived.Test.YtlgnboohmahbaaaGreatDoorAbsFrz
import Derived.Laws.Externs
set_option linter.unusedVariables false
set_option linter.unusedSimpArgs false
set_option linter.constructorNameAsVariable false
namespace Go.Abs
open Go
variable {O:Type} {P:Program}
noncomputable def rL {O:Type}:Sm O:=fun xs σ=>
 bif Nat.beq xs.length 3 then
 (AV.ag .u64 (xs.getD 0 .u)).bind fun x=>
 (AV.ag .u64 (xs.getD 1 .u)).bind fun y=>
 (AV.ag .u64 (xs.getD 2 .u)).bind fun c=>
 bif decide (0 ≤ x) && decide (0 ≤ y) && decide (0 ≤ c) && decide (c ≤ 1) then some (.aS [.i .u64 ((x+y+c) % 18446744073709551616),.i .u64 ((x+y+c) / 18446744073709551616)],σ) else none
 else none
noncomputable def yg {O:Type}:Sm O:=fun xs σ=>
 bif Nat.beq xs.length 3 then
 (AV.ag .u64 (xs.getD 0 .u)).bind fun x=>
 (AV.ag .u64 (xs.getD 1 .u)).bind fun y=>
 (AV.ag .u64 (xs.getD 2 .u)).bind fun c=>
 bif decide (0 ≤ x) && decide (0 ≤ y) && decide (y<18446744073709551616) && decide (0 ≤ c) && decide (c ≤ 1) then some (.aS [.i .u64 ((x - y - c) % 18446744073709551616),.i .u64 (if x<y+c then 1 else 0)],σ) else none
 else none
theorem LH {xs:List AV} {args:Array Value} {ρ:cl} (hl:Nat.beq xs.length 3=true) (hr:aL ρ xs args.toList) {x y c:Int} (hx:AV.ag .u64 (xs.getD 0 .u)=some x) (hy:AV.ag .u64 (xs.getD 1 .u)=some y) (hc:AV.ag .u64 (xs.getD 2 .u)=some c):
  args = #[.int .u64 x,.int .u64 y,.int .u64 c]:=by
 have Xj:=Nat.eq_of_beq_eq_true hl
 match xs,Xj,hr with
 |[a,b,d],_,hr=>
  have inv:∀ {v:AV} {n:Int} {u:Value},AV.ag .u64 v=some n → aI ρ v u → u=.int .u64 n:=fun {v n u} h hv=>by
   cases v<;>simp [AV.ag] at h
   obtain ⟨rfl,rfl⟩:=h
   cases hv;rfl
  obtain ⟨l⟩:=args
  match l,hr with
  |[u1,u2,u3],.cons _ _ _ _ h1 (.cons _ _ _ _ h2 (.cons _ _ _ _ h3 .nil))=>
   rw [inv hx h1,inv hy h2,inv hc h3]
def Fc:Array Value → Sem Value:=fun args=>do
 let (x,y,b) ← Extern.MathBitsCarry.three "Sub64" args
 pure (Extern.MathBitsCarry.pair ((x+Extern.MathBitsCarry.m64 - y - b) % Extern.MathBitsCarry.m64) (if x<y+b then 1 else 0))
theorem Yv (x y c:Int) (hx:0 ≤ x) (hy:0 ≤ y) (hy':y<18446744073709551616) (hc0:0 ≤ c) (hc:c ≤ 1) (w:World):
  (Fc #[.int .u64 x,.int .u64 y,.int .u64 c]).run P w=.ok (.tuple #[.int .u64 ((x - y - c) % 18446744073709551616),.int .u64 (if x<y+c then 1 else 0)]) w:=by
 have key:∀ k:Nat,k ≤ 1 → (Fc #[.int .u64 x,.int .u64 y,.int .u64 (k:Int)]).run P w=
   .ok (Extern.MathBitsCarry.pair ((x.toNat+Extern.MathBitsCarry.m64 - y.toNat - k) % Extern.MathBitsCarry.m64) (if x.toNat<y.toNat+k then 1 else 0)) w:=by
  intro k hk
  have:k=0 ∨ k=1:=by omega
  rcases this with rfl |rfl<;>rfl
 obtain ⟨k,rfl⟩:=Int.eq_ofNat_of_zero_le hc0
 rw [key k (by omega)]
 obtain ⟨X,rfl⟩:=Int.eq_ofNat_of_zero_le hx
 obtain ⟨Y,rfl⟩:=Int.eq_ofNat_of_zero_le hy
 have hm:Extern.MathBitsCarry.m64=18446744073709551616:=rfl
 simp only [Extern.MathBitsCarry.pair,hm,Int.toNat_natCast]
 have e1:Int.ofNat ((X+18446744073709551616 - Y - k) % 18446744073709551616)=((X:Int) - (Y:Int) - (k:Int)) % 18446744073709551616:=by
  show (((X+18446744073709551616 - Y - k) % 18446744073709551616:Nat):Int)=_
  omega
 have e2:Int.ofNat (if X<Y+k then 1 else 0)=(if (X:Int)<(Y:Int)+(k:Int) then 1 else 0):=by
  by_cases h:X<Y+k
  ·rw [if_pos h,if_pos (by omega)];rfl
  ·rw [if_neg h,if_neg (by omega)];rfl
 rw [e1,e2]
theorem Yw {f:FuncId} {fn:Func} (hf:P.funcs[f]? = some fn) (aax:(fn.name == "runtime.NumGoroutine")=false) (hb:fn.body.isNone=true) (hn:Extern.findNext fn=none) (he:Extern.find fn=some add64Entry):rM P f (rL (O:=O)):=by
 intro xs σ v aj h
 unfold rL at h
 obtain ⟨hl,h⟩:=aD h
 obtain ⟨x,hx,h⟩:=Option.bind_eq_some_iff.1 h
 obtain ⟨y,hy,h⟩:=Option.bind_eq_some_iff.1 h
 obtain ⟨c,hc,h⟩:=Option.bind_eq_some_iff.1 h
 obtain ⟨Dm,h⟩:=aD h
 simp only [Bool.and_eq_true,decide_eq_true_eq] at Dm
 cases h
 refine ⟨rfl,fun ρ args hr=>?_⟩
 rw [LH hl hr hx hy hc]
 refine ⟨_,.aS _ [_,_] (.cons _ _ _ _ (.i _ _) (.cons _ _ _ _ (.i _ _) .nil)),fun w=>?_⟩
 rw [run_callFunc_extern hf aax hb hn he,run_add64 x y c Dm.1.1.1 Dm.1.1.2 Dm.1.2 Dm.2]
 rfl
theorem Yx {f:FuncId} {fn:Func} (hf:P.funcs[f]? = some fn) (aax:(fn.name == "runtime.NumGoroutine")=false) (hb:fn.body.isNone=true) (hn:Extern.findNext fn=none) (he:Extern.find fn=some Fc):rM P f (yg (O:=O)):=by
 intro xs σ v aj h
 unfold yg at h
 obtain ⟨hl,h⟩:=aD h
 obtain ⟨x,hx,h⟩:=Option.bind_eq_some_iff.1 h
 obtain ⟨y,hy,h⟩:=Option.bind_eq_some_iff.1 h
 obtain ⟨c,hc,h⟩:=Option.bind_eq_some_iff.1 h
 obtain ⟨Dm,h⟩:=aD h
 simp only [Bool.and_eq_true,decide_eq_true_eq] at Dm
 cases h
 refine ⟨rfl,fun ρ args hr=>?_⟩
 rw [LH hl hr hx hy hc]
 refine ⟨_,.aS _ [_,_] (.cons _ _ _ _ (.i _ _) (.cons _ _ _ _ (.i _ _) .nil)),fun w=>?_⟩
 rw [run_callFunc_extern hf aax hb hn he,Yv x y c Dm.1.1.1.1 Dm.1.1.1.2 Dm.1.1.2 Dm.1.2 Dm.2]
 rfl
end Go.Abs
