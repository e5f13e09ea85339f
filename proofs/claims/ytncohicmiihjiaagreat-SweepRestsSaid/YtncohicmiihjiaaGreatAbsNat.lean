/-
  AbsNat: what an operation yields does not hang on what is done with it.
-/
import Derived.Test.YtncohicmiihjiaaGreatAbsCore
set_option linter.unusedVariables false
set_option linter.unusedSimpArgs false
set_option linter.constructorNameAsVariable false
namespace Go.Abs
open Go
variable {O R:Type} {P:Program} {G:List (Nat × Sm O)}
theorem bV (l:fg) (v:AV) (K:AV->Option R):gp l v K=(gp l v some).bind K:=by
 cases l<;>simp [gp,Option.bind_assoc]
theorem IM {α β:Type} (c:Bool) (x y:α) (K:α->Option β):(bif c then K x else K y)=(bif c then some x else some y).bind K:=by cases c<;>rfl
theorem iI:∀ {R:Type} (ls:List fg) (i:Nat) (vs:List AV) (K:List AV->Option R),dQ ls i vs K=(dQ ls i vs some).bind K
 |_,[],_,_,_=>rfl
 |_,l::ls,i,vs,K=>by
  simp only [dQ]
  rw [bV,bV l _ (fun v=>dQ ls (i+1) vs fun r=>some (v::r)),Option.bind_assoc]
  congr 1;funext v
  rw [iI,iI (R:=List AV) ls (i+1) vs (fun r=>some (v::r)),Option.bind_assoc];rfl
theorem Em (ls:List fg) (v:AV) (K:AV->Option R):((AV.asAgg ls.length v).bind fun cs=>dQ ls 0 cs fun vs=>K (.agg vs))=((AV.asAgg ls.length v).bind fun cs=>dQ ls 0 cs fun vs=>some (AV.agg vs)).bind K:=by
 simp only [Option.bind_assoc]
 congr 1;funext cs
 rw [iI,iI (R:=AV) ls 0 cs (fun vs=>some (AV.agg vs)),Option.bind_assoc];rfl
theorem En (t:fg ⊕ List fg) (v:AV) (K:AV->Option R):as1 t v K=(as1 t v some).bind K:=by
 cases t with
 |inl l=>exact bV l v K
 |inr ls=>exact Em ls v K
theorem pD:∀ {R:Type} (ls:List (fg ⊕ List fg)) (i:Nat) (vs:List AV) (K:List AV->Option R),xX ls i vs K=(xX ls i vs some).bind K
 |_,[],_,_,_=>rfl
 |_,l::ls,i,vs,K=>by
  simp only [xX]
  rw [En,En l _ (fun v=>xX ls (i+1) vs fun r=>some (v::r)),Option.bind_assoc]
  congr 1;funext v
  rw [pD,pD (R:=List AV) ls (i+1) vs (fun r=>some (v::r)),Option.bind_assoc];rfl
theorem mn (t:Ty) (v:AV) (K:AV->Option R):vG t v K=(vG t v some).bind K:=by
 cases t with
 |one l=>exact bV l v K
 |agg ls=>exact Em ls v K
 |aG ts=>
  simp only [vG,Option.bind_assoc]
  congr 1;funext cs
  rw [pD,pD (R:=AV) ts 0 cs (fun vs=>some (AV.aG vs)),Option.bind_assoc];rfl
theorem gz (t:TypeId) (F:Nat->Option R) (F':Nat->Option AV) (K:AV->Option R) (h:∀ n,F n=(F' n).bind K):eQ P t F=(eQ P t F').bind K:=by
 unfold eQ;split
 ·exact h _
 ·rfl
theorem wX (t:TypeId) (cs:List AV) (off:Nat) (K:AV->Option R):lT P t cs off K=(lT P t cs off some).bind K:=by
 unfold lT
 split
 ·split
  ·rfl
  ·simp only [Option.bind_assoc];congr 1;funext v;exact bV _ v K
  ·rfl
 ·rfl
theorem IN {α β:Type} (c:Bool) {x x':Option β} {y y':Option α} {K:α->Option β} (h:x=y.bind K) (h':x'=y'.bind K):(bif c then x else x')=(bif c then y else y').bind K:=by cases c;exact h';exact h
theorem cD {α β:Type} (c:Bool) (x:Option β) (y:Option α) (K:α->Option β) (h:x=y.bind K):(bif c then x else none)=(bif c then y else none).bind K:=by
 cases c
 ·rfl
 ·exact h
theorem uj (op:BinOp) (x:Bool) (K:AV->Option R):lS op x K=(lS op x some).bind K:=by cases op<;>rfl
theorem F8 (op:BinOp) (k:IntKind) (x y:Int) (K:AV->Option R):wA op k x y K=(wA op k x y some).bind K:=by
 cases op<;>simp only [wA]<;>first |rfl |(cases (y == 0)<;>rfl)
theorem F9 (op:BinOp) (x y:List UInt8) (K:AV->Option R):wB op x y K=(wB op x y some).bind K:=by
 cases op<;>simp only [wB]<;>first |rfl |(exact cD _ _ _ _ rfl)
theorem IP (d:Option TypeDesc) (op:BinOp) (x y:AV) (K:AV->Option R):FI d op x y K=(FI d op x y some).bind K:=by
 unfold FI
 split
 ·split
  ·rename_i c _ _;cases (decide (_<(0:Int)))<;>rfl
  ·cases (decide (_<(0:Int)))<;>rfl
  ·split
   ·exact F8 _ _ _ _ _
   ·rfl
 ·exact F9 _ _ _ _
 all_goals first |rfl |(split<;>first |rfl |exact uj _ _ _ |exact IN _ (uj _ _ _) (cD _ _ _ _ (uj _ _ _)))
theorem NC (op:UnOp) (x:AV) (K:AV->Option R):WR op x K=(WR op x some).bind K:=by
 unfold WR;split<;>rfl
theorem Ga (op:BinOp) (q:Bool) (K:AV->Option R):lS op q K=(lS op q some).bind K:=by cases op<;>rfl
theorem iN (op:Op) (ty:TypeId) (e:Env) (K:AV->Option R):bc P op ty e K=(bc P op ty e some).bind K:=by
 cases op<;>simp only [bc]<;>try rfl
 case makeFunc fn _ _=>cases oZ fn<;>rfl
 case pick=>
  split
  ·split
   ·rfl
   ·exact IM _ _ _ _
  ·rfl
 case build=>
  split
  ·rfl
  ·split
   ·split
    ·split<;>rfl
    ·rfl
   ·split
    ·split<;>rfl
    ·rfl
   ·rfl
 case nilCheck=>
  split
  ·simp only [Option.bind_assoc];rfl
  ·simp only [Option.bind_assoc];congr 1;funext x;split<;>rfl
  ·rfl
 case binOp=>
  split
  ·cases P.eqGuardType P.depth _ with
   |true=>rfl
   |false=>
    simp only [cond_false]
    rw [Option.bind_assoc]
    congr 1;funext q
    exact Ga _ _ _
  ·exact IP _ _ _ _ _
 case unOp=>exact NC _ _ _
 case convert=>
  split
  ·split<;>rfl
  ·split<;>rfl
  ·rfl
 case slice=>
  split
  ·split
   ·split
    ·refine cD _ _ _ _ (gz _ _ _ _ fun n=>?_)
     simp only [Option.bind_assoc];rfl
    ·rfl
   ·rfl
  ·split
   ·split
    ·exact cD _ _ _ _ rfl
    ·rfl
   ·rfl
  ·split
   ·split
    ·exact cD _ _ _ _ (gz _ _ _ _ fun n=>rfl)
    ·rfl
   ·rfl
  ·rfl
 case fieldAddr=>
  split
  ·split
   ·refine gz _ _ _ _ fun n=>?_
    cases (Nat.beq n 0)
    ·simp only [cond_false,Option.bind_assoc];rfl
    ·rfl
   ·rfl
  ·rfl
 case field=>
  split
  ·split
   ·exact wX _ _ _ _
   ·rfl
  ·rfl
 case indexAddr=>
  split
  ·split
   ·refine cD _ _ _ _ (gz _ _ _ _ fun n=>?_)
    simp only [Option.bind_assoc];rfl
   ·split
    ·refine cD _ _ _ _ (gz _ _ _ _ fun n=>?_)
     simp only [Option.bind_assoc];rfl
    ·rfl
   ·rfl
  ·rfl
 case index=>
  split
  ·split
   ·exact cD _ _ _ _ (gz _ _ _ _ fun n=>wX _ _ _ _)
   ·refine cD _ _ _ _ ?_
    simp only [Option.bind_assoc];rfl
   ·rfl
  ·rfl
 case extract=>
  split
  ·simp only [Option.bind_assoc];congr 1;funext v;exact mn _ _ _
  ·rfl
 case call=>
  split
  ·split
   ·split<;>rfl
   ·split<;>rfl
   ·rfl
  ·split
   ·split<;>rfl
   ·split<;>rfl
   ·rfl
  ·split
   ·split<;>rfl
   ·split<;>rfl
   ·rfl
  ·rfl
abbrev two (v:AV) (J:AH O):Option (AV × AH O):=some (v,J)
theorem qQ (op:Op) (ty:TypeId) (e:Env) (J:AH O) (K:AV->AH O->Option R):bc P op ty e (fun v=>K v J)=(bc P op ty e (fun v=>two v J)).bind fun x=>K x.1 x.2:=by
 rw [iN,iN (K:=fun v=>two v J),Option.bind_assoc];rfl
theorem fK (J:AH O) (b:fJ):∀ {R:Type} (ls:List fg) (o:Nat) (K:List AV->Option R),kZ J b ls o K=(kZ J b ls o some).bind K
 |_,[],_,_=>rfl
 |_,l::ls,o,K=>by
  simp only [kZ,Option.bind_assoc]
  congr 1;funext v
  rw [bV,bV l v (fun v'=>bif v'.aU then kZ J b ls (o+1) fun r=>some (v'::r) else none),Option.bind_assoc]
  congr 1;funext v'
  refine cD _ _ _ _ ?_
  rw [fK J b ls,fK J b (R:=List AV) ls (o+1) (fun r=>some (v'::r)),Option.bind_assoc];rfl
theorem mS (J:AH O) (b:fJ) (o:Nat) (t:Ty) (K:AV->Option R):loadT J b o t K=(loadT J b o t some).bind K:=by
 cases t with
 |one l=>
  simp only [loadT,Option.bind_assoc];congr 1;funext v
  rw [bV,bV l v (fun v'=>bif v'.aU then some v' else none),Option.bind_assoc]
  congr 1;funext v';exact cD _ _ _ _ rfl
 |aG ts=>rfl
 |agg ls=>simp only [loadT];rw [fK,fK J b (R:=AV) ls o (fun vs=>some (AV.agg vs)),Option.bind_assoc];rfl
theorem mr {S:Type} (t:TypeId) (F:Nat->Option R) (F':Nat->Option S) (K:S->Option R) (h:∀ n,F n=(F' n).bind K):eQ P t F=(eQ P t F').bind K:=by
 unfold eQ;split
 ·exact h _
 ·rfl
theorem IQ {S:Type} (J:AH O) (es:Nat) (z:List AV) (d:TypeDesc) (v:AV) (F:Nat->List AV->Option R) (F':Nat->List AV->Option S) (K:S->Option R) (h:∀ m new,F m new=(F' m new).bind K):Io J es z d v F=(Io J es z d v F').bind K:=by
 unfold Io;split
 ·rw [Option.bind_assoc];congr 1;funext new;exact h _ _
 ·exact cD _ _ _ _ (h _ _)
 ·exact cD _ _ _ _ (h _ _)
 ·rfl
theorem ND (op:Op) (ty:TypeId) (e:Env) (J:AH O) (nid:Nat) (K:AV->AH O->Option R):dF P G op ty e J nid K=(dF P G op ty e J nid two).bind fun x=>K x.1 x.2:=by
 cases op<;>simp only [dF]<;>try exact qQ _ _ _ _ _
 case alloc=>split<;>rfl
 case box=>exact cD _ _ _ _ rfl
 case buildSlice=>
  split
  ·split
   ·refine cD _ _ _ _ ?_
    split<;>rfl
   ·rfl
  ·rfl
 case makeSlice=>
  split
  ·refine cD _ _ _ _ ?_
   split<;>rfl
  ·rfl
 case makeMap=>
  split
  ·exact cD _ _ _ _ rfl
  ·rfl
 case range=>
  split
  ·simp only [Option.bind_assoc];rfl
  ·rfl
 case entry=>
  rw [Option.bind_assoc];rfl
 case lookup=>
  split
  ·simp only [Option.bind_assoc]
   congr 1;funext q;congr 1;funext es;congr 1;funext r';congr 1;funext z
   rw [mn,mn (K:=fun v=>two (bif _ then AV.aG [v,AV.b r'.isSome] else v) J),Option.bind_assoc];rfl
  ·rfl
 case mapUpdate=>
  split
  ·simp only [Option.bind_assoc]
   rfl
  ·rfl
 case load=>
  rw [Option.bind_assoc];congr 1;funext q
  refine cD _ _ _ _ ?_
  rw [mS,mS (K:=fun v=>two v J),Option.bind_assoc];rfl
 case store=>
  rw [Option.bind_assoc];congr 1;funext q
  refine mr _ _ _ _ fun n=>cD _ _ _ _ ?_
  simp only [Option.bind_assoc];rfl
 case convert=>
  split
  ·split
   ·split
    ·simp only [Option.bind_assoc];rfl
    ·rfl
   ·rfl
  ·exact qQ _ _ _ _ _
 case call=>
  split
  ·split
   ·simp only [Option.bind_assoc];congr 1;funext r'
    rw [mn,mn (K:=fun v=>two v r'.2),Option.bind_assoc];rfl
   ·rfl
  ·split
   ·split
    ·split
     ·rfl
     ·refine mr _ _ _ _ fun n=>cD _ _ _ _ (IQ _ _ _ _ _ _ _ _ fun m new=>cD _ _ _ _ ?_)
      simp only [Option.bind_assoc];congr 1;funext r'
      rw [bV,bV (K:=fun v=>two v r'.2),Option.bind_assoc];rfl
    ·rfl
   ·rfl
  ·split
   ·split
    ·refine mr _ _ _ _ fun n=>?_
     cases (Nat.beq _ 0)
     ·simp only [cond_false,Option.bind_assoc];rfl
     ·rfl
    ·rfl
   ·rfl
  ·split
   ·split
    ·cases (Nat.beq _ 0)
     ·simp only [cond_false]
      split
      ·simp only [Option.bind_assoc];rfl
      ·rfl
     ·rfl
    ·rfl
   ·rfl
  ·split
   ·split
    ·simp only [Option.bind_assoc]
     rfl
    ·rfl
   ·rfl
  ·exact qQ _ _ _ _ _
end Go.Abs
