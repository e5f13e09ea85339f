/-
  AbsNat: what an operation yields does not hang on what is done with it.
-/
import Derived.Test.YtlgnboohmahbaaaGreatAbsCore
set_option linter.unusedVariables false
set_option linter.unusedSimpArgs false
set_option linter.constructorNameAsVariable false
namespace Go.Abs
open Go
variable {O R : Type} {P : Program} {G : List (Nat × Sm O)}
theorem asLeaf_nat (l : Leaf) (v : AV) (K : AV → Option R) : asLeaf l v K = (asLeaf l v some).bind K := by
 cases l <;> simp [asLeaf, Option.bind_assoc]
theorem cond_nat {α β : Type} (c : Bool) (x y : α) (K : α → Option β) : (bif c then K x else K y) = (bif c then some x else some y).bind K := by cases c <;> rfl
theorem asLeaves_nat : ∀ {R : Type} (ls : List Leaf) (i : Nat) (vs : List AV) (K : List AV → Option R), asLeaves ls i vs K = (asLeaves ls i vs some).bind K
 | _, [], _, _, _ => rfl
 | _, l :: ls, i, vs, K => by
  simp only [asLeaves]
  rw [asLeaf_nat, asLeaf_nat l _ (fun v => asLeaves ls (i + 1) vs fun r => some (v :: r)), Option.bind_assoc]
  congr 1; funext v
  rw [asLeaves_nat, asLeaves_nat (R := List AV) ls (i + 1) vs (fun r => some (v :: r)), Option.bind_assoc]; rfl
theorem agg_nat (ls : List Leaf) (v : AV) (K : AV → Option R) : ((AV.asAgg ls.length v).bind fun cs => asLeaves ls 0 cs fun vs => K (.agg vs)) = ((AV.asAgg ls.length v).bind fun cs => asLeaves ls 0 cs fun vs => some (AV.agg vs)).bind K := by
 simp only [Option.bind_assoc]
 congr 1; funext cs
 rw [asLeaves_nat, asLeaves_nat (R := AV) ls 0 cs (fun vs => some (AV.agg vs)), Option.bind_assoc]; rfl
theorem as1_nat (t : Leaf ⊕ List Leaf) (v : AV) (K : AV → Option R) : as1 t v K = (as1 t v some).bind K := by
 cases t with
 | inl l => exact asLeaf_nat l v K
 | inr ls => exact agg_nat ls v K
theorem as1s_nat : ∀ {R : Type} (ls : List (Leaf ⊕ List Leaf)) (i : Nat) (vs : List AV) (K : List AV → Option R), as1s ls i vs K = (as1s ls i vs some).bind K
 | _, [], _, _, _ => rfl
 | _, l :: ls, i, vs, K => by
  simp only [as1s]
  rw [as1_nat, as1_nat l _ (fun v => as1s ls (i + 1) vs fun r => some (v :: r)), Option.bind_assoc]
  congr 1; funext v
  rw [as1s_nat, as1s_nat (R := List AV) ls (i + 1) vs (fun r => some (v :: r)), Option.bind_assoc]; rfl
theorem asTy_nat (t : Ty) (v : AV) (K : AV → Option R) : asTy t v K = (asTy t v some).bind K := by
 cases t with
 | one l => exact asLeaf_nat l v K
 | agg ls => exact agg_nat ls v K
 | tup ts =>
  simp only [asTy, Option.bind_assoc]
  congr 1; funext cs
  rw [as1s_nat, as1s_nat (R := AV) ts 0 cs (fun vs => some (AV.tup vs)), Option.bind_assoc]; rfl
theorem withES_nat (t : TypeId) (F : Nat → Option R) (F' : Nat → Option AV) (K : AV → Option R) (h : ∀ n, F n = (F' n).bind K) : withES P t F = (withES P t F').bind K := by
 unfold withES; split
 ·exact h _
 ·rfl
theorem partK_nat (t : TypeId) (cs : List AV) (off : Nat) (K : AV → Option R) : partK P t cs off K = (partK P t cs off some).bind K := by
 unfold partK
 split
 ·split
  ·rfl
  ·simp only [Option.bind_assoc]; congr 1; funext v; exact asLeaf_nat _ v K
  ·rfl
 ·rfl
theorem bifc_nat {α β : Type} (c : Bool) {x x' : Option β} {y y' : Option α} {K : α → Option β} (h : x = y.bind K) (h' : x' = y'.bind K) : (bif c then x else x') = (bif c then y else y').bind K := by cases c; exact h'; exact h
theorem bif_nat {α β : Type} (c : Bool) (x : Option β) (y : Option α) (K : α → Option β) (h : x = y.bind K) : (bif c then x else none) = (bif c then y else none).bind K := by
 cases c
 ·rfl
 ·exact h
theorem eqNe_nat (op : BinOp) (x : Bool) (K : AV → Option R) : eqNe op x K = (eqNe op x some).bind K := by cases op <;> rfl
theorem binII_nat (op : BinOp) (k : IntKind) (x y : Int) (K : AV → Option R) : binII op k x y K = (binII op k x y some).bind K := by
 cases op <;> simp only [binII] <;> first | rfl | (cases (y == 0) <;> rfl)
theorem binSS_nat (op : BinOp) (x y : List UInt8) (K : AV → Option R) : binSS op x y K = (binSS op x y some).bind K := by
 cases op <;> simp only [binSS] <;> first | rfl | (exact bif_nat _ _ _ _ rfl)
theorem binK_nat (d : Option TypeDesc) (op : BinOp) (x y : AV) (K : AV → Option R) : binK d op x y K = (binK d op x y some).bind K := by
 unfold binK
 split
 ·split
  ·rename_i c _ _ ; cases (decide (_ < (0 : Int))) <;> rfl
  ·cases (decide (_ < (0 : Int))) <;> rfl
  ·split
   ·exact binII_nat _ _ _ _ _
   ·rfl
 ·exact binSS_nat _ _ _ _
 all_goals first | rfl | (split <;> first | rfl | exact eqNe_nat _ _ _ | exact bifc_nat _ (eqNe_nat _ _ _) (bif_nat _ _ _ _ (eqNe_nat _ _ _)))
theorem unK_nat (op : UnOp) (x : AV) (K : AV → Option R) : unK op x K = (unK op x some).bind K := by
 unfold unK; split <;> rfl
theorem eqNe_nat' (op : BinOp) (q : Bool) (K : AV → Option R) : eqNe op q K = (eqNe op q some).bind K := by cases op <;> rfl
theorem pureK_nat (op : Op) (ty : TypeId) (e : Env) (K : AV → Option R) : pureK P op ty e K = (pureK P op ty e some).bind K := by
 cases op <;> simp only [pureK] <;> try rfl
 case makeFunc fn _ _ => cases notYield fn <;> rfl
 case pick =>
  split
  ·split
   ·rfl
   ·exact cond_nat _ _ _ _
  ·rfl
 case build =>
  split
  ·rfl
  ·split
   ·split
    ·split <;> rfl
    ·rfl
   ·split
    ·split <;> rfl
    ·rfl
   ·rfl
 case nilCheck =>
  split
  ·simp only [Option.bind_assoc]; rfl
  ·simp only [Option.bind_assoc]; congr 1; funext x; split <;> rfl
  ·rfl
 case binOp =>
  split
  ·cases P.eqGuardType P.depth _ with
   | true => rfl
   | false =>
    simp only [cond_false]
    rw [Option.bind_assoc]
    congr 1; funext q
    exact eqNe_nat' _ _ _
  ·exact binK_nat _ _ _ _ _
 case unOp => exact unK_nat _ _ _
 case convert =>
  split
  ·split <;> rfl
  ·split <;> rfl
  ·rfl
 case slice =>
  split
  ·split
   ·split
    ·refine bif_nat _ _ _ _ (withES_nat _ _ _ _ fun n => ?_)
     simp only [Option.bind_assoc]; rfl
    ·rfl
   ·rfl
  ·split
   ·split
    ·exact bif_nat _ _ _ _ rfl
    ·rfl
   ·rfl
  ·split
   ·split
    ·refine bif_nat _ _ _ _ (withES_nat _ _ _ _ fun n => ?_)
     simp only [Option.bind_assoc]; rfl
    ·rfl
   ·rfl
  ·split
   ·split
    ·exact bif_nat _ _ _ _ (withES_nat _ _ _ _ fun n => rfl)
    ·rfl
   ·rfl
  ·rfl
 case fieldAddr =>
  split
  ·split
   ·refine withES_nat _ _ _ _ fun n => ?_
    cases (Nat.beq n 0)
    ·simp only [cond_false, Option.bind_assoc]; rfl
    ·rfl
   ·rfl
  ·rfl
 case field =>
  split
  ·split
   ·exact partK_nat _ _ _ _
   ·rfl
  ·rfl
 case indexAddr =>
  split
  ·split
   ·refine bif_nat _ _ _ _ (withES_nat _ _ _ _ fun n => ?_)
    simp only [Option.bind_assoc]; rfl
   ·split
    ·refine bif_nat _ _ _ _ (withES_nat _ _ _ _ fun n => ?_)
     simp only [Option.bind_assoc]; rfl
    ·rfl
   ·rfl
  ·rfl
 case index =>
  split
  ·split
   ·exact bif_nat _ _ _ _ (withES_nat _ _ _ _ fun n => partK_nat _ _ _ _)
   ·refine bif_nat _ _ _ _ ?_
    simp only [Option.bind_assoc]; rfl
   ·rfl
  ·rfl
 case extract =>
  split
  ·simp only [Option.bind_assoc]; congr 1; funext v; exact asTy_nat _ _ _
  ·rfl
 case call =>
  split
  ·split
   ·split <;> rfl
   ·split <;> rfl
   ·rfl
  ·split
   ·split <;> rfl
   ·split <;> rfl
   ·rfl
  ·split
   ·split <;> rfl
   ·split <;> rfl
   ·rfl
  ·rfl
abbrev two (v : AV) (σ : AH O) : Option (AV × AH O) := some (v, σ)
theorem pure2_nat (op : Op) (ty : TypeId) (e : Env) (σ : AH O) (K : AV → AH O → Option R) : pureK P op ty e (fun v => K v σ) = (pureK P op ty e (fun v => two v σ)).bind fun x => K x.1 x.2 := by
 rw [pureK_nat, pureK_nat (K := fun v => two v σ), Option.bind_assoc]; rfl
theorem loadK_nat (σ : AH O) (b : Bid) : ∀ {R : Type} (ls : List Leaf) (o : Nat) (K : List AV → Option R), loadK σ b ls o K = (loadK σ b ls o some).bind K
 | _, [], _, _ => rfl
 | _, l :: ls, o, K => by
  simp only [loadK, Option.bind_assoc]
  congr 1; funext v
  rw [asLeaf_nat, asLeaf_nat l v (fun v' => bif v'.isOne then loadK σ b ls (o + 1) fun r => some (v' :: r) else none), Option.bind_assoc]
  congr 1; funext v'
  refine bif_nat _ _ _ _ ?_
  rw [loadK_nat σ b ls, loadK_nat σ b (R := List AV) ls (o + 1) (fun r => some (v' :: r)), Option.bind_assoc]; rfl
theorem loadT_nat (σ : AH O) (b : Bid) (o : Nat) (t : Ty) (K : AV → Option R) : loadT σ b o t K = (loadT σ b o t some).bind K := by
 cases t with
 | one l =>
  simp only [loadT, Option.bind_assoc]; congr 1; funext v
  rw [asLeaf_nat, asLeaf_nat l v (fun v' => bif v'.isOne then some v' else none), Option.bind_assoc]
  congr 1; funext v'; exact bif_nat _ _ _ _ rfl
 | tup ts => rfl
 | agg ls => simp only [loadT]; rw [loadK_nat, loadK_nat σ b (R := AV) ls o (fun vs => some (AV.agg vs)), Option.bind_assoc]; rfl
theorem withES_nat2 {S : Type} (t : TypeId) (F : Nat → Option R) (F' : Nat → Option S) (K : S → Option R) (h : ∀ n, F n = (F' n).bind K) : withES P t F = (withES P t F').bind K := by
 unfold withES; split
 ·exact h _
 ·rfl
theorem srcK_nat {S : Type} (σ : AH O) (es : Nat) (z : List AV) (d : TypeDesc) (v : AV) (F : Nat → List AV → Option R) (F' : Nat → List AV → Option S) (K : S → Option R) (h : ∀ m new, F m new = (F' m new).bind K) : srcK σ es z d v F = (srcK σ es z d v F').bind K := by
 unfold srcK; split
 ·rw [Option.bind_assoc]; congr 1; funext new; exact h _ _
 ·exact bif_nat _ _ _ _ (h _ _)
 ·exact bif_nat _ _ _ _ (h _ _)
 ·rfl
theorem opK_nat (op : Op) (ty : TypeId) (e : Env) (σ : AH O) (nid : Nat) (K : AV → AH O → Option R) : opK P G op ty e σ nid K = (opK P G op ty e σ nid two).bind fun x => K x.1 x.2 := by
 cases op <;> simp only [opK] <;> try exact pure2_nat _ _ _ _ _
 case alloc => split <;> rfl
 case box => exact bif_nat _ _ _ _ rfl
 case buildSlice =>
  split
  ·split
   ·refine bif_nat _ _ _ _ ?_
    split <;> rfl
   ·rfl
  ·rfl
 case makeSlice =>
  split
  ·refine bif_nat _ _ _ _ ?_
   split <;> rfl
  ·rfl
 case makeMap =>
  split
  ·exact bif_nat _ _ _ _ rfl
  ·rfl
 case range =>
  split
  ·simp only [Option.bind_assoc]; rfl
  ·rfl
 case entry =>
  rw [Option.bind_assoc]; rfl
 case lookup =>
  split
  ·simp only [Option.bind_assoc]
   congr 1; funext q; congr 1; funext es; congr 1; funext r'; congr 1; funext z
   rw [asTy_nat, asTy_nat (K := fun v => two (bif _ then AV.tup [v, AV.b r'.isSome] else v) σ), Option.bind_assoc]; rfl
  ·rfl
 case mapUpdate =>
  split
  ·simp only [Option.bind_assoc]
   rfl
  ·rfl
 case load =>
  rw [Option.bind_assoc]; congr 1; funext q
  refine bif_nat _ _ _ _ ?_
  rw [loadT_nat, loadT_nat (K := fun v => two v σ), Option.bind_assoc]; rfl
 case store =>
  rw [Option.bind_assoc]; congr 1; funext q
  refine withES_nat2 _ _ _ _ fun n => bif_nat _ _ _ _ ?_
  simp only [Option.bind_assoc]; rfl
 case convert =>
  split
  ·split
   ·split
    ·simp only [Option.bind_assoc]; rfl
    ·rfl
   ·rfl
  ·split
   ·split
    ·exact bif_nat _ _ _ _ rfl
    ·rfl
   ·exact pure2_nat _ _ _ _ _
  ·exact pure2_nat _ _ _ _ _
 case call =>
  split
  ·split
   ·simp only [Option.bind_assoc]; congr 1; funext r'
    rw [asTy_nat, asTy_nat (K := fun v => two v r'.2), Option.bind_assoc]; rfl
   ·rfl
  ·split
   ·split
    ·split
     ·rfl
     ·refine withES_nat2 _ _ _ _ fun n => bif_nat _ _ _ _ (srcK_nat _ _ _ _ _ _ _ _ fun m new => bif_nat _ _ _ _ ?_)
      simp only [Option.bind_assoc]; congr 1; funext r'
      rw [asLeaf_nat, asLeaf_nat (K := fun v => two v r'.2), Option.bind_assoc]; rfl
    ·rfl
   ·rfl
  ·split
   ·split
    ·refine withES_nat2 _ _ _ _ fun n => ?_
     cases (Nat.beq _ 0)
     ·simp only [cond_false, Option.bind_assoc]; rfl
     ·rfl
    ·rfl
   ·rfl
  ·split
   ·split
    ·cases (Nat.beq _ 0)
     ·simp only [cond_false]
      split
      ·simp only [Option.bind_assoc]; rfl
      ·rfl
     ·rfl
    ·rfl
   ·rfl
  ·split
   ·split
    ·simp only [Option.bind_assoc]
     rfl
    ·rfl
   ·rfl
  ·exact pure2_nat _ _ _ _ _
end Go.Abs
