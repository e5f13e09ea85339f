/-
  AbsNat: what an operation yields does not hang on what is done with it.
-/
import Derived.Test.YtlgnboohmahbaaaGreatDoorAbsCore
set_option linter.unusedVariables false
set_option linter.unusedSimpArgs false
set_option linter.constructorNameAsVariable false
namespace Go.Abs
open Go
variable {O R:Type} {P:Program} {G:List (Nat × Sm O)}
theorem cG (l:jK) (v:AV) (K:AV → Option R):nQ l v K=(nQ l v some).bind K:=by
 cases l<;>simp [nQ,Option.bind_assoc]
theorem aaF {α β:Type} (c:Bool) (x y:α) (K:α → Option β):(bif c then K x else K y)=(bif c then some x else some y).bind K:=by cases c<;>rfl
theorem qZ:∀ {R:Type} (ls:List jK) (i:Nat) (vs:List AV) (K:List AV → Option R),fL ls i vs K=(fL ls i vs some).bind K
 |_,[],_,_,_=>rfl
 |_,l::ls,i,vs,K=>by
  simp only [fL]
  rw [cG,cG l _ (fun v=>fL ls (i+1) vs fun r=>some (v::r)),Option.bind_assoc]
  congr 1;funext v
  rw [qZ,qZ (R:=List AV) ls (i+1) vs (fun r=>some (v::r)),Option.bind_assoc];rfl
theorem Xr (ls:List jK) (v:AV) (K:AV → Option R):((AV.asAgg ls.length v).bind fun cs=>fL ls 0 cs fun vs=>K (.agg vs))=((AV.asAgg ls.length v).bind fun cs=>fL ls 0 cs fun vs=>some (AV.agg vs)).bind K:=by
 simp only [Option.bind_assoc]
 congr 1;funext cs
 rw [qZ,qZ (R:=AV) ls 0 cs (fun vs=>some (AV.agg vs)),Option.bind_assoc];rfl
theorem Xs (t:jK ⊕ List jK) (v:AV) (K:AV → Option R):as1 t v K=(as1 t v some).bind K:=by
 cases t with
 |inl l=>exact cG l v K
 |inr ls=>exact Xr ls v K
theorem GD:∀ {R:Type} (ls:List (jK ⊕ List jK)) (i:Nat) (vs:List AV) (K:List AV → Option R),Qu ls i vs K=(Qu ls i vs some).bind K
 |_,[],_,_,_=>rfl
 |_,l::ls,i,vs,K=>by
  simp only [Qu]
  rw [Xs,Xs l _ (fun v=>Qu ls (i+1) vs fun r=>some (v::r)),Option.bind_assoc]
  congr 1;funext v
  rw [GD,GD (R:=List AV) ls (i+1) vs (fun r=>some (v::r)),Option.bind_assoc];rfl
theorem BI (t:Ty) (v:AV) (K:AV → Option R):Oh t v K=(Oh t v some).bind K:=by
 cases t with
 |one l=>exact cG l v K
 |agg ls=>exact Xr ls v K
 |aS ts=>
  simp only [Oh,Option.bind_assoc]
  congr 1;funext cs
  rw [GD,GD (R:=AV) ts 0 cs (fun vs=>some (AV.aS vs)),Option.bind_assoc];rfl
theorem kF (t:TypeId) (F:Nat → Option R) (F':Nat → Option AV) (K:AV → Option R) (h:∀ n,F n=(F' n).bind K):gV P t F=(gV P t F').bind K:=by
 unfold gV;split
 ·exact h _
 ·rfl
theorem Pv (t:TypeId) (cs:List AV) (off:Nat) (K:AV → Option R):Bz P t cs off K=(Bz P t cs off some).bind K:=by
 unfold Bz
 split
 ·split
  ·rfl
  ·simp only [Option.bind_assoc];congr 1;funext v;exact cG _ v K
  ·rfl
 ·rfl
theorem aaG {α β:Type} (c:Bool) {x x':Option β} {y y':Option α} {K:α → Option β} (h:x=y.bind K) (h':x'=y'.bind K):(bif c then x else x')=(bif c then y else y').bind K:=by cases c;exact h';exact h
theorem cS {α β:Type} (c:Bool) (x:Option β) (y:Option α) (K:α → Option β) (h:x=y.bind K):(bif c then x else none)=(bif c then y else none).bind K:=by
 cases c
 ·rfl
 ·exact h
theorem LO (op:BinOp) (x:Bool) (K:AV → Option R):Bx op x K=(Bx op x some).bind K:=by cases op<;>rfl
theorem YJ (op:BinOp) (k:IntKind) (x y:Int) (K:AV → Option R):O9 op k x y K=(O9 op k x y some).bind K:=by
 cases op<;>simp only [O9]<;>first |rfl |(cases (y == 0)<;>rfl)
theorem YK (op:BinOp) (x y:List UInt8) (K:AV → Option R):Pa op x y K=(Pa op x y some).bind K:=by
 cases op<;>simp only [Pa]<;>first |rfl |(exact cS _ _ _ _ rfl)
theorem aaH (d:Option TypeDesc) (op:BinOp) (x y:AV) (K:AV → Option R):Yg d op x y K=(Yg d op x y some).bind K:=by
 unfold Yg
 split
 ·split
  ·rename_i c _ _;cases (decide (_<(0:Int)))<;>rfl
  ·cases (decide (_<(0:Int)))<;>rfl
  ·split
   ·exact YJ _ _ _ _ _
   ·rfl
 ·exact YK _ _ _ _
 all_goals first |rfl |(split<;>first |rfl |exact LO _ _ _ |exact aaG _ (LO _ _ _) (cS _ _ _ _ (LO _ _ _)))
theorem adD (op:UnOp) (x:AV) (K:AV → Option R):unK op x K=(unK op x some).bind K:=by
 unfold unK;split<;>rfl
theorem YL (op:BinOp) (q:Bool) (K:AV → Option R):Bx op q K=(Bx op q some).bind K:=by cases op<;>rfl
theorem la (op:Op) (ty:TypeId) (e:Env) (K:AV → Option R):bG P op ty e K=(bG P op ty e some).bind K:=by
 cases op<;>simp only [bG]<;>try rfl
 case makeFunc fn _ _=>cases Gs fn<;>rfl
 case pick=>
  split
  ·split
   ·rfl
   ·exact aaF _ _ _ _
  ·rfl
 case build=>
  split
  ·rfl
  ·split
   ·split
    ·split<;>rfl
    ·rfl
   ·split
    ·split<;>rfl
    ·rfl
   ·rfl
 case nilCheck=>
  split
  ·simp only [Option.bind_assoc];rfl
  ·simp only [Option.bind_assoc];congr 1;funext x;split<;>rfl
  ·rfl
 case binOp=>
  split
  ·cases P.eqGuardType P.depth _ with
   |true=>rfl
   |false=>
    simp only [cond_false]
    rw [Option.bind_assoc]
    congr 1;funext q
    exact YL _ _ _
  ·exact aaH _ _ _ _ _
 case unOp=>exact adD _ _ _
 case convert=>
  split
  ·split<;>rfl
  ·split<;>rfl
  ·rfl
 case slice=>
  split
  ·split
   ·split
    ·refine cS _ _ _ _ (kF _ _ _ _ fun n=>?_)
     simp only [Option.bind_assoc];rfl
    ·rfl
   ·rfl
  ·split
   ·split
    ·exact cS _ _ _ _ rfl
    ·rfl
   ·rfl
  ·split
   ·split
    ·refine cS _ _ _ _ (kF _ _ _ _ fun n=>?_)
     simp only [Option.bind_assoc];rfl
    ·rfl
   ·rfl
  ·split
   ·split
    ·exact cS _ _ _ _ (kF _ _ _ _ fun n=>rfl)
    ·rfl
   ·rfl
  ·rfl
 case fieldAddr=>
  split
  ·split
   ·refine kF _ _ _ _ fun n=>?_
    cases (Nat.beq n 0)
    ·simp only [cond_false,Option.bind_assoc];rfl
    ·rfl
   ·rfl
  ·rfl
 case field=>
  split
  ·split
   ·exact Pv _ _ _ _
   ·rfl
  ·rfl
 case indexAddr=>
  split
  ·split
   ·refine cS _ _ _ _ (kF _ _ _ _ fun n=>?_)
    simp only [Option.bind_assoc];rfl
   ·split
    ·refine cS _ _ _ _ (kF _ _ _ _ fun n=>?_)
     simp only [Option.bind_assoc];rfl
    ·rfl
   ·rfl
  ·rfl
 case index=>
  split
  ·split
   ·exact cS _ _ _ _ (kF _ _ _ _ fun n=>Pv _ _ _ _)
   ·refine cS _ _ _ _ ?_
    simp only [Option.bind_assoc];rfl
   ·rfl
  ·rfl
 case extract=>
  split
  ·simp only [Option.bind_assoc];congr 1;funext v;exact BI _ _ _
  ·rfl
 case call=>
  split
  ·split
   ·split<;>rfl
   ·split<;>rfl
   ·rfl
  ·split
   ·split<;>rfl
   ·split<;>rfl
   ·rfl
  ·split
   ·split<;>rfl
   ·split<;>rfl
   ·rfl
  ·rfl
abbrev two (v:AV) (σ:AH O):Option (AV × AH O):=some (v,σ)
theorem Dq (op:Op) (ty:TypeId) (e:Env) (σ:AH O) (K:AV → AH O → Option R):bG P op ty e (fun v=>K v σ)=(bG P op ty e (fun v=>two v σ)).bind fun x=>K x.1 x.2:=by
 rw [la,la (K:=fun v=>two v σ),Option.bind_assoc];rfl
theorem lb (σ:AH O) (b:jJ):∀ {R:Type} (ls:List jK) (o:Nat) (K:List AV → Option R),zD σ b ls o K=(zD σ b ls o some).bind K
 |_,[],_,_=>rfl
 |_,l::ls,o,K=>by
  simp only [zD,Option.bind_assoc]
  congr 1;funext v
  rw [cG,cG l v (fun v'=>bif v'.aZ then zD σ b ls (o+1) fun r=>some (v'::r) else none),Option.bind_assoc]
  congr 1;funext v'
  refine cS _ _ _ _ ?_
  rw [lb σ b ls,lb σ b (R:=List AV) ls (o+1) (fun r=>some (v'::r)),Option.bind_assoc];rfl
theorem Dl (σ:AH O) (b:jJ) (o:Nat) (t:Ty) (K:AV → Option R):loadT σ b o t K=(loadT σ b o t some).bind K:=by
 cases t with
 |one l=>
  simp only [loadT,Option.bind_assoc];congr 1;funext v
  rw [cG,cG l v (fun v'=>bif v'.aZ then some v' else none),Option.bind_assoc]
  congr 1;funext v';exact cS _ _ _ _ rfl
 |aS ts=>rfl
 |agg ls=>simp only [loadT];rw [lb,lb σ b (R:=AV) ls o (fun vs=>some (AV.agg vs)),Option.bind_assoc];rfl
theorem BJ {S:Type} (t:TypeId) (F:Nat → Option R) (F':Nat → Option S) (K:S → Option R) (h:∀ n,F n=(F' n).bind K):gV P t F=(gV P t F').bind K:=by
 unfold gV;split
 ·exact h _
 ·rfl
theorem aaI {S:Type} (σ:AH O) (es:Nat) (z:List AV) (d:TypeDesc) (v:AV) (F:Nat → List AV → Option R) (F':Nat → List AV → Option S) (K:S → Option R) (h:∀ m new,F m new=(F' m new).bind K):aai σ es z d v F=(aai σ es z d v F').bind K:=by
 unfold aai;split
 ·rw [Option.bind_assoc];congr 1;funext new;exact h _ _
 ·exact cS _ _ _ _ (h _ _)
 ·exact cS _ _ _ _ (h _ _)
 ·rfl
theorem adE (op:Op) (ty:TypeId) (e:Env) (σ:AH O) (nid:Nat) (K:AV → AH O → Option R):fe P G op ty e σ nid K=(fe P G op ty e σ nid two).bind fun x=>K x.1 x.2:=by
 cases op<;>simp only [fe]<;>try exact Dq _ _ _ _ _
 case alloc=>split<;>rfl
 case box=>exact cS _ _ _ _ rfl
 case buildSlice=>
  split
  ·split
   ·refine cS _ _ _ _ ?_
    split<;>rfl
   ·rfl
  ·rfl
 case makeSlice=>
  split
  ·refine cS _ _ _ _ ?_
   split<;>rfl
  ·rfl
 case makeMap=>
  split
  ·exact cS _ _ _ _ rfl
  ·rfl
 case range=>
  split
  ·simp only [Option.bind_assoc];rfl
  ·rfl
 case entry=>
  rw [Option.bind_assoc];rfl
 case lookup=>
  split
  ·simp only [Option.bind_assoc]
   congr 1;funext q;congr 1;funext es;congr 1;funext r';congr 1;funext z
   rw [BI,BI (K:=fun v=>two (bif _ then AV.aS [v,AV.b r'.isSome] else v) σ),Option.bind_assoc];rfl
  ·rfl
 case mapUpdate=>
  split
  ·simp only [Option.bind_assoc]
   rfl
  ·rfl
 case load=>
  rw [Option.bind_assoc];congr 1;funext q
  refine cS _ _ _ _ ?_
  rw [Dl,Dl (K:=fun v=>two v σ),Option.bind_assoc];rfl
 case store=>
  rw [Option.bind_assoc];congr 1;funext q
  refine BJ _ _ _ _ fun n=>cS _ _ _ _ ?_
  simp only [Option.bind_assoc];rfl
 case convert=>
  split
  ·split
   ·split
    ·simp only [Option.bind_assoc];rfl
    ·rfl
   ·rfl
  ·split
   ·split
    ·exact cS _ _ _ _ rfl
    ·rfl
   ·exact Dq _ _ _ _ _
  ·exact Dq _ _ _ _ _
 case call=>
  split
  ·split
   ·simp only [Option.bind_assoc];congr 1;funext r'
    rw [BI,BI (K:=fun v=>two v r'.2),Option.bind_assoc];rfl
   ·rfl
  ·split
   ·split
    ·split
     ·rfl
     ·refine BJ _ _ _ _ fun n=>cS _ _ _ _ (aaI _ _ _ _ _ _ _ _ fun m new=>cS _ _ _ _ ?_)
      simp only [Option.bind_assoc];congr 1;funext r'
      rw [cG,cG (K:=fun v=>two v r'.2),Option.bind_assoc];rfl
    ·rfl
   ·rfl
  ·split
   ·split
    ·refine BJ _ _ _ _ fun n=>?_
     cases (Nat.beq _ 0)
     ·simp only [cond_false,Option.bind_assoc];rfl
     ·rfl
    ·rfl
   ·rfl
  ·split
   ·split
    ·cases (Nat.beq _ 0)
     ·simp only [cond_false]
      split
      ·simp only [Option.bind_assoc];rfl
      ·rfl
     ·rfl
    ·rfl
   ·rfl
  ·split
   ·split
    ·simp only [Option.bind_assoc]
     rfl
    ·rfl
   ·rfl
  ·exact Dq _ _ _ _ _
end Go.Abs
