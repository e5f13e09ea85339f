/-
  AbsNat: what an operation yields does not hang on what is done with it.
-/
import Derived.Test.YtncohicmiihjiaaGreatAbsCore
set_option linter.unusedVariables false
set_option linter.unusedSimpArgs false
set_option linter.constructorNameAsVariable false
namespace Go.Abs
open Go
variable {O R:Type} {P:Program} {G:List (Nat × Sm O)}
theorem bY (l:fm) (v:AV) (K:AV->Option R):gm l v K=(gm l v some).bind K:=by
 cases l<;>simp [gm,Option.bind_assoc]
theorem Iq {α β:Type} (c:Bool) (x y:α) (K:α->Option β):(bif c then K x else K y)=(bif c then some x else some y).bind K:=by cases c<;>rfl
theorem iK:∀ {R:Type} (ls:List fm) (i:Nat) (vs:List AV) (K:List AV->Option R),dW ls i vs K=(dW ls i vs some).bind K
 |_,[],_,_,_=>rfl
 |_,l::ls,i,vs,K=>by
  simp only [dW]
  rw [bY,bY l _ (fun v=>dW ls (i+1) vs fun r=>some (v::r)),Option.bind_assoc]
  congr 1;funext v
  rw [iK,iK (R:=List AV) ls (i+1) vs (fun r=>some (v::r)),Option.bind_assoc];rfl
theorem D' (ls:List fm) (v:AV) (K:AV->Option R):((AV.asAgg ls.length v).bind fun cs=>dW ls 0 cs fun vs=>K (.agg vs))=((AV.asAgg ls.length v).bind fun cs=>dW ls 0 cs fun vs=>some (AV.agg vs)).bind K:=by
 simp only [Option.bind_assoc]
 congr 1;funext cs
 rw [iK,iK (R:=AV) ls 0 cs (fun vs=>some (AV.agg vs)),Option.bind_assoc];rfl
theorem Ea (t:fm ⊕ List fm) (v:AV) (K:AV->Option R):as1 t v K=(as1 t v some).bind K:=by
 cases t with
 |inl l=>exact bY l v K
 |inr ls=>exact D' ls v K
theorem pR:∀ {R:Type} (ls:List (fm ⊕ List fm)) (i:Nat) (vs:List AV) (K:List AV->Option R),xU ls i vs K=(xU ls i vs some).bind K
 |_,[],_,_,_=>rfl
 |_,l::ls,i,vs,K=>by
  simp only [xU]
  rw [Ea,Ea l _ (fun v=>xU ls (i+1) vs fun r=>some (v::r)),Option.bind_assoc]
  congr 1;funext v
  rw [pR,pR (R:=List AV) ls (i+1) vs (fun r=>some (v::r)),Option.bind_assoc];rfl
theorem mn (t:Ty) (v:AV) (K:AV->Option R):vC t v K=(vC t v some).bind K:=by
 cases t with
 |one l=>exact bY l v K
 |agg ls=>exact D' ls v K
 |aB ts=>
  simp only [vC,Option.bind_assoc]
  congr 1;funext cs
  rw [pR,pR (R:=AV) ts 0 cs (fun vs=>some (AV.aB vs)),Option.bind_assoc];rfl
theorem gu (t:TypeId) (F:Nat->Option R) (F':Nat->Option AV) (K:AV->Option R) (h:∀ n,F n=(F' n).bind K):eU P t F=(eU P t F').bind K:=by
 unfold eU;split
 ·exact h _
 ·rfl
theorem wS (t:TypeId) (cs:List AV) (off:Nat) (K:AV->Option R):lS P t cs off K=(lS P t cs off some).bind K:=by
 unfold lS
 split
 ·split
  ·rfl
  ·simp only [Option.bind_assoc];congr 1;funext v;exact bY _ v K
  ·rfl
 ·rfl
theorem Ir {α β:Type} (c:Bool) {x x':Option β} {y y':Option α} {K:α->Option β} (h:x=y.bind K) (h':x'=y'.bind K):(bif c then x else x')=(bif c then y else y').bind K:=by cases c;exact h';exact h
theorem cJ {α β:Type} (c:Bool) (x:Option β) (y:Option α) (K:α->Option β) (h:x=y.bind K):(bif c then x else none)=(bif c then y else none).bind K:=by
 cases c
 ·rfl
 ·exact h
theorem uk (op:BinOp) (x:Bool) (K:AV->Option R):lQ op x K=(lQ op x some).bind K:=by cases op<;>rfl
theorem FR (op:BinOp) (k:IntKind) (x y:Int) (K:AV->Option R):wy op k x y K=(wy op k x y some).bind K:=by
 cases op<;>simp only [wy]<;>first |rfl |(cases (y == 0)<;>rfl)
theorem FT (op:BinOp) (x y:List UInt8) (K:AV->Option R):wz op x y K=(wz op x y some).bind K:=by
 cases op<;>simp only [wz]<;>first |rfl |(exact cJ _ _ _ _ rfl)
theorem Is (d:Option TypeDesc) (op:BinOp) (x y:AV) (K:AV->Option R):Fy d op x y K=(Fy d op x y some).bind K:=by
 unfold Fy
 split
 ·split
  ·rename_i c _ _;cases (decide (_<(0:Int)))<;>rfl
  ·cases (decide (_<(0:Int)))<;>rfl
  ·split
   ·exact FR _ _ _ _ _
   ·rfl
 ·exact FT _ _ _ _
 all_goals first |rfl |(split<;>first |rfl |exact uk _ _ _ |exact Ir _ (uk _ _ _) (cJ _ _ _ _ (uk _ _ _)))
theorem MR (op:UnOp) (x:AV) (K:AV->Option R):V9 op x K=(V9 op x some).bind K:=by
 unfold V9;split<;>rfl
theorem FU (op:BinOp) (q:Bool) (K:AV->Option R):lQ op q K=(lQ op q some).bind K:=by cases op<;>rfl
theorem iT (op:Op) (ty:TypeId) (e:Env) (K:AV->Option R):bB P op ty e K=(bB P op ty e some).bind K:=by
 cases op<;>simp only [bB]<;>try rfl
 case makeFunc fn _ _=>cases pA fn<;>rfl
 case pick=>
  split
  ·split
   ·rfl
   ·exact Iq _ _ _ _
  ·rfl
 case build=>
  split
  ·rfl
  ·split
   ·split
    ·split<;>rfl
    ·rfl
   ·split
    ·split<;>rfl
    ·rfl
   ·rfl
 case nilCheck=>
  split
  ·simp only [Option.bind_assoc];rfl
  ·simp only [Option.bind_assoc];congr 1;funext x;split<;>rfl
  ·rfl
 case binOp=>
  split
  ·cases P.eqGuardType P.depth _ with
   |true=>rfl
   |false=>
    simp only [cond_false]
    rw [Option.bind_assoc]
    congr 1;funext q
    exact FU _ _ _
  ·exact Is _ _ _ _ _
 case unOp=>exact MR _ _ _
 case convert=>
  split
  ·split<;>rfl
  ·split<;>rfl
  ·rfl
 case slice=>
  split
  ·split
   ·split
    ·refine cJ _ _ _ _ (gu _ _ _ _ fun n=>?_)
     simp only [Option.bind_assoc];rfl
    ·rfl
   ·rfl
  ·split
   ·split
    ·exact cJ _ _ _ _ rfl
    ·rfl
   ·rfl
  ·split
   ·split
    ·exact cJ _ _ _ _ (gu _ _ _ _ fun n=>rfl)
    ·rfl
   ·rfl
  ·rfl
 case fieldAddr=>
  split
  ·split
   ·refine gu _ _ _ _ fun n=>?_
    cases (Nat.beq n 0)
    ·simp only [cond_false,Option.bind_assoc];rfl
    ·rfl
   ·rfl
  ·rfl
 case field=>
  split
  ·split
   ·exact wS _ _ _ _
   ·rfl
  ·rfl
 case indexAddr=>
  split
  ·split
   ·refine cJ _ _ _ _ (gu _ _ _ _ fun n=>?_)
    simp only [Option.bind_assoc];rfl
   ·split
    ·refine cJ _ _ _ _ (gu _ _ _ _ fun n=>?_)
     simp only [Option.bind_assoc];rfl
    ·rfl
   ·rfl
  ·rfl
 case index=>
  split
  ·split
   ·exact cJ _ _ _ _ (gu _ _ _ _ fun n=>wS _ _ _ _)
   ·refine cJ _ _ _ _ ?_
    simp only [Option.bind_assoc];rfl
   ·rfl
  ·rfl
 case extract=>
  split
  ·simp only [Option.bind_assoc];congr 1;funext v;exact mn _ _ _
  ·rfl
 case call=>
  split
  ·split
   ·split<;>rfl
   ·split<;>rfl
   ·rfl
  ·split
   ·split<;>rfl
   ·split<;>rfl
   ·rfl
  ·split
   ·split<;>rfl
   ·split<;>rfl
   ·rfl
  ·rfl
abbrev two (v:AV) (J:AH O):Option (AV × AH O):=some (v,J)
theorem qW (op:Op) (ty:TypeId) (e:Env) (J:AH O) (K:AV->AH O->Option R):bB P op ty e (fun v=>K v J)=(bB P op ty e (fun v=>two v J)).bind fun x=>K x.1 x.2:=by
 rw [iT,iT (K:=fun v=>two v J),Option.bind_assoc];rfl
theorem fJ (J:AH O) (b:fH):∀ {R:Type} (ls:List fm) (o:Nat) (K:List AV->Option R),ly J b ls o K=(ly J b ls o some).bind K
 |_,[],_,_=>rfl
 |_,l::ls,o,K=>by
  simp only [ly,Option.bind_assoc]
  congr 1;funext v
  rw [bY,bY l v (fun v'=>bif v'.aR then ly J b ls (o+1) fun r=>some (v'::r) else none),Option.bind_assoc]
  congr 1;funext v'
  refine cJ _ _ _ _ ?_
  rw [fJ J b ls,fJ J b (R:=List AV) ls (o+1) (fun r=>some (v'::r)),Option.bind_assoc];rfl
theorem mU (J:AH O) (b:fH) (o:Nat) (t:Ty) (K:AV->Option R):loadT J b o t K=(loadT J b o t some).bind K:=by
 cases t with
 |one l=>
  simp only [loadT,Option.bind_assoc];congr 1;funext v
  rw [bY,bY l v (fun v'=>bif v'.aR then some v' else none),Option.bind_assoc]
  congr 1;funext v';exact cJ _ _ _ _ rfl
 |aB ts=>rfl
 |agg ls=>simp only [loadT];rw [fJ,fJ J b (R:=AV) ls o (fun vs=>some (AV.agg vs)),Option.bind_assoc];rfl
theorem mr {S:Type} (t:TypeId) (F:Nat->Option R) (F':Nat->Option S) (K:S->Option R) (h:∀ n,F n=(F' n).bind K):eU P t F=(eU P t F').bind K:=by
 unfold eU;split
 ·exact h _
 ·rfl
theorem It {S:Type} (J:AH O) (es:Nat) (z:List AV) (d:TypeDesc) (v:AV) (F:Nat->List AV->Option R) (F':Nat->List AV->Option S) (K:S->Option R) (h:∀ m new,F m new=(F' m new).bind K):HW J es z d v F=(HW J es z d v F').bind K:=by
 unfold HW;split
 ·rw [Option.bind_assoc];congr 1;funext new;exact h _ _
 ·exact cJ _ _ _ _ (h _ _)
 ·exact cJ _ _ _ _ (h _ _)
 ·rfl
theorem MS (op:Op) (ty:TypeId) (e:Env) (J:AH O) (nid:Nat) (K:AV->AH O->Option R):dX P G op ty e J nid K=(dX P G op ty e J nid two).bind fun x=>K x.1 x.2:=by
 cases op<;>simp only [dX]<;>try exact qW _ _ _ _ _
 case alloc=>split<;>rfl
 case box=>exact cJ _ _ _ _ rfl
 case buildSlice=>
  split
  ·split
   ·refine cJ _ _ _ _ ?_
    split<;>rfl
   ·rfl
  ·rfl
 case makeSlice=>
  split
  ·refine cJ _ _ _ _ ?_
   split<;>rfl
  ·rfl
 case makeMap=>
  split
  ·exact cJ _ _ _ _ rfl
  ·rfl
 case lookup=>
  split
  ·simp only [Option.bind_assoc]
   congr 1;funext q;congr 1;funext es;congr 1;funext r';congr 1;funext z
   rw [mn,mn (K:=fun v=>two (bif _ then AV.aB [v,AV.b r'.isSome] else v) J),Option.bind_assoc];rfl
  ·rfl
 case mapUpdate=>
  split
  ·simp only [Option.bind_assoc]
   rfl
  ·rfl
 case load=>
  rw [Option.bind_assoc];congr 1;funext q
  refine cJ _ _ _ _ ?_
  rw [mU,mU (K:=fun v=>two v J),Option.bind_assoc];rfl
 case store=>
  rw [Option.bind_assoc];congr 1;funext q
  refine mr _ _ _ _ fun n=>cJ _ _ _ _ ?_
  simp only [Option.bind_assoc];rfl
 case convert=>
  split
  ·split
   ·split
    ·simp only [Option.bind_assoc];rfl
    ·rfl
   ·rfl
  ·exact qW _ _ _ _ _
 case call=>
  split
  ·split
   ·simp only [Option.bind_assoc];congr 1;funext r'
    rw [mn,mn (K:=fun v=>two v r'.2),Option.bind_assoc];rfl
   ·rfl
  ·split
   ·split
    ·split
     ·rfl
     ·refine mr _ _ _ _ fun n=>cJ _ _ _ _ (It _ _ _ _ _ _ _ _ fun m new=>cJ _ _ _ _ ?_)
      simp only [Option.bind_assoc];congr 1;funext r'
      rw [bY,bY (K:=fun v=>two v r'.2),Option.bind_assoc];rfl
    ·rfl
   ·rfl
  ·split
   ·split
    ·refine mr _ _ _ _ fun n=>?_
     cases (Nat.beq _ 0)
     ·simp only [cond_false,Option.bind_assoc];rfl
     ·rfl
    ·rfl
   ·rfl
  ·split
   ·split
    ·cases (Nat.beq _ 0)
     ·simp only [cond_false]
      split
      ·simp only [Option.bind_assoc];rfl
      ·rfl
     ·rfl
    ·rfl
   ·rfl
  ·split
   ·split
    ·simp only [Option.bind_assoc]
     rfl
    ·rfl
   ·rfl
  ·exact qW _ _ _ _ _
end Go.Abs
