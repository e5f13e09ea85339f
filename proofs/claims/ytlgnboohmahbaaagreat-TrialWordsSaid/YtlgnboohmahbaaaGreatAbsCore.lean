/-
  AbsCore: an abstract, deterministic reading of the model's code: abstract values, an abstract heap, and 'exec', which runs a function's code on them.
-/
import GoSem.Core.Code
import GoSem.Core.View
import GoSem.Core.Region
import GoSem.Dispatch
set_option linter.unusedVariables false
set_option linter.unusedSimpArgs false
set_option linter.constructorNameAsVariable false
namespace Go.Abs
open Go
mutual
inductive Bid where
 | n (b : Nat)
 | f (cs : List AV)
inductive SA where
 | nil
 | z
 | loc (b : Bid) (o es : Nat)
  | ar (b : Bid) (o es : Nat)
inductive AV where
 | u
 | b (x : Bool)
 | i (k : IntKind) (n : Int)
 | s (l : List UInt8)
 | p (a : Option (Bid × Nat))
 | sl (a : SA) (len : Nat)
 | mp (r : Option Nat)
 | fn (f : Option (Fn × List AV × List AV))
 | ifc (t : TypeId) (v : AV)
 | nifc
 | agg (cs : List AV)
 | tup (vs : List AV)
end
instance : Inhabited Bid := ⟨.n 0⟩
instance : Inhabited SA := ⟨.nil⟩
instance : Inhabited AV := ⟨.u⟩
inductive LSt where
 | ready | busy | gone
 | done (j : Option Nat)
def LSt.code : LSt → Nat | .ready => 0 | .busy => 1 | .gone => 2 | .done none => 3 | .done (some id) => id + 4
inductive Blk (O : Type) where
 | cells (own : Bool) (el : TypeId) (cs : List AV)
 | obj (o : O)
  | loop (site : Nat) (env : List (Nat × AV)) (st : LSt)
  | map (es : List (AV × AV)) (st : List Nat) (c : Nat)
  | iter (m : Nat) (idx st : List Nat) (c : Nat)
structure AH (O : Type) where
 blk : Nat → Option (Blk O)
 next : Nat
section heap
variable {O : Type}
def AH.put (σ : AH O) (b : Nat) (x : Blk O) : AH O := ⟨fun q => bif Nat.beq q b then some x else σ.blk q, σ.next⟩
def AH.kill (σ : AH O) (b : Nat) : AH O := ⟨fun q => bif Nat.beq q b then none else σ.blk q, σ.next⟩
def AH.bump (σ : AH O) (n : Nat) : AH O := ⟨σ.blk, σ.next + n⟩
def AH.ld (σ : AH O) (b : Bid) (o : Nat) : Option AV :=
 match b with
 | .n b => match σ.blk b with
  | some (.cells _ _ cs) => cs[o]?
  | _ => none
 | .f cs => cs[o]?
def AH.st (σ : AH O) (b : Bid) (o : Nat) (vs : List AV) : Option (AH O) :=
 match b with
 | .n b => match σ.blk b with
  | some (.cells true el cs) => bif Nat.ble (o + vs.length) cs.length then some (σ.put b (.cells true el (cs.take o ++ vs ++ cs.drop (o + vs.length)))) else none
  | _ => none
 | .f _ => none
def AH.ldN (σ : AH O) (b : Bid) (o n : Nat) : Option (List AV) :=
 match b with
 | .n b => match σ.blk b with
  | some (.cells _ _ cs) => bif Nat.ble (o + n) cs.length then some ((cs.drop o).take n) else none
  | _ => none
 | .f cs => bif Nat.ble (o + n) cs.length then some ((cs.drop o).take n) else none
def AH.rdSl (σ : AH O) (a : SA) (n es : Nat) : Option (List AV) :=
 match a with
 | .loc b o _ => σ.ldN b o (n * es)
 | .ar b o _ => σ.ldN b o (n * es)
 | _ => bif Nat.beq n 0 then some [] else none
def AH.wrSl (σ : AH O) (a : SA) (vs : List AV) : Option (AH O) :=
 match a with
 | .loc b o _ => σ.st b o vs
 | .ar b o _ => σ.st b o vs
 | _ => none
def AH.appSl (σ : AH O) (nid el es : Nat) (a : SA) (n m : Nat) (new : List AV) : Option (AV × AH O) :=
 match a with
 | .loc (.n b) o _ =>
  match σ.blk b with
  | some (.cells true el' cs) =>
   bif Nat.beq el' el && Nat.ble (o + n * es) cs.length then
    some (.sl (.loc (.n nid) 0 es) (n + m), (σ.kill b).put nid (.cells true el ((cs.drop o).take (n * es) ++ new)))
   else none
  | _ => none
 | .loc (.f _) _ _ => none
 | .ar _ _ _ => none
 | a => bif Nat.beq n 0 then (bif Nat.beq m 0 then some (.sl a 0, σ) else some (.sl (.loc (.n nid) 0 es) m, σ.put nid (.cells true el new))) else none
end heap
def SA.ref : SA → Option (Bid × Nat) | .loc b o _ => some (b, o) | _ => none
def SA.adv (a : SA) (l es : Nat) : Option SA :=
 match a with
 | .loc b o es' => bif Nat.beq es' es then some (.loc b (o + l * es) es) else none
 | .ar _ _ _ => none
 | a => some a
noncomputable def chk (p : Prop) : Option Unit := open Classical in if p then some () else none
def eqBid (E : AV → AV → Bool) : Bid → Bid → Bool
 | .n a, .n b => Nat.beq a b
 | .f xs, .f ys => eqLs E xs ys
 | _, _ => false
where eqLs (E : AV → AV → Bool) : List AV → List AV → Bool
 | [], [] => true
 | x :: xs, y :: ys => E x y && eqLs E xs ys
 | _, _ => false
def eqSA (E : AV → AV → Bool) : SA → SA → Bool
 | .nil, .nil => true
 | .z, .z => true
 | .loc b o e, .loc b' o' e' => eqBid E b b' && Nat.beq o o' && Nat.beq e e'
 | _, _ => false
def eqAV : Nat → AV → AV → Bool
 | 0, _, _ => false
 | d + 1, x, y =>
  match x, y with
  | .u, .u => true
  | .b x, .b y => x == y
  | .i k n, .i k' m => decide (k = k') && decide (n = m)
  | .s l, .s m => decide (l = m)
  | .p none, .p none => true
  | .p (some (b, o)), .p (some (b', o')) => eqBid (eqAV d) b b' && Nat.beq o o'
  | .sl a n, .sl a' n' => eqSA (eqAV d) a a' && Nat.beq n n'
  | .mp a, .mp b => decide (a = b)
  | .fn none, .fn none => true
  | .ifc t v, .ifc t' v' => Nat.beq t t' && eqAV d v v'
  | .nifc, .nifc => true
  | .agg xs, .agg ys => eqBid.eqLs (eqAV d) xs ys
  | .tup xs, .tup ys => eqBid.eqLs (eqAV d) xs ys
  | _, _ => false
def eqOA : Option AV → Option AV → Bool
 | some x, some y => eqAV 8 x y
 | _, _ => false
def eqOL : Option (List AV) → Option (List AV) → Bool
 | some x, some y => eqBid.eqLs (eqAV 8) x y
 | _, _ => false
theorem eqLs_sound {E : AV → AV → Bool} (hE : ∀ x y, E x y = true → x = y) : ∀ xs ys : List AV, eqBid.eqLs E xs ys = true → xs = ys
 | [], [], _ => rfl
 | x :: xs, y :: ys, h => by
  simp only [eqBid.eqLs, Bool.and_eq_true] at h
  rw [hE _ _ h.1, eqLs_sound hE xs ys h.2]
 | [], _ :: _, h => by cases h
 | _ :: _, [], h => by cases h
theorem eqBid_sound {E : AV → AV → Bool} (hE : ∀ x y, E x y = true → x = y) (a b : Bid) (h : eqBid E a b = true) : a = b := by
 unfold eqBid at h
 split at h
 ·rw [Nat.eq_of_beq_eq_true h]
 ·rw [eqLs_sound hE _ _ h]
 ·cases h
theorem eqSA_sound {E : AV → AV → Bool} (hE : ∀ x y, E x y = true → x = y) (a b : SA) (h : eqSA E a b = true) : a = b := by
 unfold eqSA at h
 split at h
 ·rfl
 ·rfl
 ·simp only [Bool.and_eq_true] at h
  rw [eqBid_sound hE _ _ h.1.1, Nat.eq_of_beq_eq_true h.1.2, Nat.eq_of_beq_eq_true h.2]
 ·cases h
theorem eqAV_sound : ∀ (d : Nat) (x y : AV), eqAV d x y = true → x = y
 | 0, _, _, h => by cases h
 | d + 1, x, y, h => by
  have ih := eqAV_sound d
  unfold eqAV at h
  split at h
  ·rfl
  ·rw [eq_of_beq h]
  ·simp only [Bool.and_eq_true, decide_eq_true_eq] at h; rw [h.1, h.2]
  ·rw [of_decide_eq_true h]
  ·rfl
  ·simp only [Bool.and_eq_true] at h; rw [eqBid_sound ih _ _ h.1, Nat.eq_of_beq_eq_true h.2]
  ·simp only [Bool.and_eq_true] at h; rw [eqSA_sound ih _ _ h.1, Nat.eq_of_beq_eq_true h.2]
  ·rw [of_decide_eq_true h]
  ·rfl
  ·simp only [Bool.and_eq_true] at h; rw [Nat.eq_of_beq_eq_true h.1, ih _ _ h.2]
  ·rfl
  ·rw [eqLs_sound ih _ _ h]
  ·rw [eqLs_sound ih _ _ h]
  ·cases h
noncomputable def chkE (x y : Option AV) : Option Unit := bif eqOA x y then some () else chk (x = y)
noncomputable def chkL (x y : Option (List AV)) : Option Unit := bif eqOL x y then some () else chk (x = y)
theorem chk_spec {p : Prop} {u : Unit} (h : chk p = some u) : p := by
 unfold chk at h; split at h
 ·assumption
 ·cases h
theorem chkE_spec {x y : Option AV} {u : Unit} (h : chkE x y = some u) : x = y := by
 unfold chkE at h
 cases hb : eqOA x y with
 | true =>
  unfold eqOA at hb
  split at hb
  ·rw [eqAV_sound _ _ _ hb]
  ·cases hb
 | false => rw [hb] at h; exact chk_spec h
theorem chkL_spec {x y : Option (List AV)} {u : Unit} (h : chkL x y = some u) : x = y := by
 unfold chkL at h
 cases hb : eqOL x y with
 | true =>
  unfold eqOL at hb
  split at hb
  ·rw [eqLs_sound (eqAV_sound _) _ _ hb]
  ·cases hb
 | false => rw [hb] at h; exact chk_spec h
abbrev Sm (O : Type) := List AV → AH O → Option (AV × AH O)
abbrev Env := Nat → AV
def Env.set (e : Env) (d : Nat) (v : AV) : Env := fun t => bif Nat.beq t d then v else e t
def Env.put (e : Env) (d : Option Nat) (v : AV) : Env := match d with | some d => e.set d v | none => e
def Env.mask (ws : List Nat) (e : Env) : Env := fun t => bif ws.elem t then .u else e t
inductive Leaf where
 | b | i (k : IntKind) | s | p | sl | f | mp | any
 deriving DecidableEq, Inhabited
def AV.asB : AV → Option Bool | .b x => some x | _ => none
def AV.asI (k : IntKind) : AV → Option Int | .i k' n => if k' = k then some n else none | _ => none
def AV.asS : AV → Option (List UInt8) | .s l => some l | _ => none
def AV.asP : AV → Option (Option (Bid × Nat)) | .p a => some a | _ => none
def AV.asPS : AV → Option (Bid × Nat) | .p a => a | _ => none
def AV.asSl : AV → Option (SA × Nat) | .sl a n => some (a, n) | _ => none
def AV.asF : AV → Option (Option (Fn × List AV × List AV)) | .fn a => some a | _ => none
def AV.asMp : AV → Option (Option Nat) | .mp a => some a | _ => none
def AV.isOne : AV → Bool | .u => false | .agg _ => false | .tup _ => false | _ => true
def asLeaf {R : Type} (l : Leaf) (v : AV) (K : AV → Option R) : Option R :=
 match l with
 | .b => (AV.asB v).bind fun x => K (.b x)
 | .i k => (AV.asI k v).bind fun n => K (.i k n)
 | .s => (AV.asS v).bind fun x => K (.s x)
 | .p => (AV.asP v).bind fun x => K (.p x)
 | .sl => (AV.asSl v).bind fun x => K (.sl x.1 x.2)
 | .f => (AV.asF v).bind fun x => K (.fn x)
 | .mp => (AV.asMp v).bind fun x => K (.mp x)
 | .any => K v
inductive Ty where
 | one (l : Leaf)
 | agg (ls : List Leaf)
 | tup (ts : List (Leaf ⊕ List Leaf))
 deriving Inhabited
def leavesOf (P : Program) : Nat → TypeId → List Leaf
 | 0, _ => []
 | n + 1, t =>
  match P.underlying t with
  | some .bool => [.b]
  | some (.int k) => [.i k]
  | some .string => [.s]
  | some (.pointer _) => [.p]
  | some (.slice _) => [.sl]
  | some (.func _ _ _) => [.f]
  | some (.map _ _) => [.mp]
  | some (.struct fs) => fs.toList.flatMap fun f => leavesOf P n f.type
  | some (.array m e) => (List.replicate m (leavesOf P n e)).flatten
  | _ => [.any]
def ty1Of (P : Program) (t : TypeId) : Leaf ⊕ List Leaf :=
 match P.underlying t with
 | some (.struct _) | some (.array _ _) => .inr (leavesOf P 12 t)
 | _ => .inl ((leavesOf P 12 t).headD .any)
def tyOf (P : Program) (t : TypeId) : Ty :=
 match P.underlying t with
 | some (.tuple ts) => .tup (ts.toList.map (ty1Of P))
 | some (.struct _) | some (.array _ _) => .agg (leavesOf P 12 t)
 | _ => .one ((leavesOf P 12 t).headD .any)
def asLeaves {R : Type} : List Leaf → Nat → List AV → (List AV → Option R) → Option R
 | [], _, _, K => K []
 | l :: ls, i, vs, K => asLeaf l (vs.getD i .u) fun v => asLeaves ls (i + 1) vs fun r => K (v :: r)
def AV.asAgg (n : Nat) : AV → Option (List AV) | .agg cs => bif Nat.beq cs.length n then some cs else none | _ => none
def AV.asTup (n : Nat) : AV → Option (List AV) | .tup cs => bif Nat.beq cs.length n then some cs else none | _ => none
def as1 {R : Type} (t : Leaf ⊕ List Leaf) (v : AV) (K : AV → Option R) : Option R :=
 match t with
 | .inl l => asLeaf l v K
 | .inr ls => (AV.asAgg ls.length v).bind fun cs => asLeaves ls 0 cs fun vs => K (.agg vs)
def as1s {R : Type} : List (Leaf ⊕ List Leaf) → Nat → List AV → (List AV → Option R) → Option R
 | [], _, _, K => K []
 | t :: ts, i, vs, K => as1 t (vs.getD i .u) fun v => as1s ts (i + 1) vs fun r => K (v :: r)
def asTy {R : Type} (t : Ty) (v : AV) (K : AV → Option R) : Option R :=
 match t with
 | .one l => asLeaf l v K
 | .agg ls => (AV.asAgg ls.length v).bind fun cs => asLeaves ls 0 cs fun vs => K (.agg vs)
 | .tup ts => (AV.asTup ts.length v).bind fun cs => as1s ts 0 cs fun vs => K (.tup vs)
def ofVal1 : Value → AV
 | .bool x => .b x
 | .int k n => .i k n
 | .string s => .s s.data.toList
 | .pointer none => .p none
 | .slice none 0 0 => .sl .nil 0
 | .map none => .mp none
 | .nilFunc => .fn none
 | .nilIface => .nifc
 | _ => .u
def ofVal : Value → AV
 | .agg cs => bif (cs.toList.map ofVal1).all AV.isOne then .agg (cs.toList.map ofVal1) else .u
 | v => ofVal1 v
def ev (e : Env) : Operand → AV
 | .tmp t => e t
 | .const v => ofVal v
 | .global _ => .u
 | .func f => .fn (some (.func f, [], []))
def AV.cells : AV → List AV
 | .agg cs => cs
 | v => [v]
def zeroOf (P : Program) (t : TypeId) : Option (List AV) :=
 match P.info? t with
 | some i => match i.zero with
  | some v => bif (ofVal v).cells.all AV.isOne && Nat.beq (ofVal v).cells.length i.size then some (ofVal v).cells else none
  | none => none
 | none => none
def esOf (P : Program) (t : TypeId) : Nat := match P.info? t with | some i => i.size | none => 0
def isBld (P : Program) (el : TypeId) : Bool :=
 match P.underlying el with
 | some (.struct fs) => match fs.toList with
  | [f, g] => (match P.underlying f.type with | some (.pointer q) => Nat.beq q el | _ => false) && (match P.underlying g.type with | some (.slice _) => true | _ => false)
  | _ => false
 | _ => false
def withES {R : Type} (P : Program) (t : TypeId) (F : Nat → Option R) : Option R := match P.info? t with | some i => F i.size | none => none
def bytesOf (P : Program) (t : TypeId) : Nat := match P.info? t with | some i => i.bytes | none => 0
def ibits (op : BinOp) (k : IntKind) (x y : Int) : Int :=
 let a := BitVec.ofInt k.bits x
 let c := BitVec.ofInt k.bits y
 match op with
 | .and => k.wrap (a &&& c).toNat
 | .or => k.wrap (a ||| c).toNat
 | .xor => k.wrap (a ^^^ c).toNat
 | _ => k.wrap (a &&& ~~~c).toNat
def binII {R : Type} (op : BinOp) (k : IntKind) (x y : Int) (K : AV → Option R) : Option R :=
 match op with
 | .add => K (.i k (k.wrap (x + y)))
 | .sub => K (.i k (k.wrap (x - y)))
 | .mul => K (.i k (k.wrap (x * y)))
 | .quo => bif y == 0 then none else K (.i k (k.wrap (x.tdiv y)))
 | .rem => bif y == 0 then none else K (.i k (x.tmod y))
 | .and => K (.i k (ibits .and k x y))
 | .or => K (.i k (ibits .or k x y))
 | .xor => K (.i k (ibits .xor k x y))
 | .andNot => K (.i k (ibits .andNot k x y))
 | .eql => K (.b (x == y))
 | .neq => K (.b (x != y))
 | .lss => K (.b (decide (x < y)))
 | .leq => K (.b (decide (x ≤ y)))
 | .gtr => K (.b (decide (x > y)))
 | .geq => K (.b (decide (x ≥ y)))
 | _ => none
def binSS {R : Type} (op : BinOp) (x y : List UInt8) (K : AV → Option R) : Option R :=
 match op with
 | .eql => K (.b (x == y))
 | .neq => K (.b !(x == y))
 | .lss => K (.b (Op.bytesLess x y))
 | .leq => K (.b (Op.bytesLess x y || x == y))
 | .gtr => K (.b !(Op.bytesLess x y || x == y))
 | .geq => K (.b !(Op.bytesLess x y))
 | .add => bif Nat.ble (x.length + y.length) 9223372036854775807 then K (.s (x ++ y)) else none
 | _ => none
def SA.isNil : SA → Bool | .nil => true | _ => false
def eqNe {R : Type} (op : BinOp) (x : Bool) (K : AV → Option R) : Option R := match op with | .eql => K (.b x) | .neq => K (.b !x) | _ => none
def binK {R : Type} (d : Option TypeDesc) (op : BinOp) (x y : AV) (K : AV → Option R) : Option R :=
 match x, y with
 | .i k a, .i k' c =>
  match op with
  | .shl => bif decide (c < 0) then none else K (.i k (k.wrap (a * 2 ^ min c.toNat k.bits)))
  | .shr => bif decide (c < 0) then none else K (.i k (a.fdiv (2 ^ min c.toNat k.bits)))
  | op => if k = k' then binII op k a c K else none
 | .s a, .s c => binSS op a c K
 | .b a, .b c => match d with | some .bool => eqNe op (a == c) K | _ => none
 | .p a, .p c => match d with | some (.pointer _) => bif c.isNone then eqNe op a.isNone K else bif a.isNone then eqNe op c.isNone K else none | _ => none
 | .sl a _, .sl c _ => match d with | some (.slice _) => bif c.isNil then eqNe op a.isNil K else bif a.isNil then eqNe op c.isNil K else none | _ => none
 | .fn a, .fn c => match d with | some (.func _ _ _) => bif c.isNone then eqNe op a.isNone K else bif a.isNone then eqNe op c.isNone K else none | _ => none
 | .mp a, .mp c => match d with | some (.map _ _) => bif c.isNone then eqNe op a.isNone K else bif a.isNone then eqNe op c.isNone K else none | _ => none
 | _, _ => none
def unK {R : Type} (op : UnOp) (x : AV) (K : AV → Option R) : Option R :=
 match op, x with
 | .neg, .i k n => K (.i k (k.wrap (0 - n)))
 | .xor, .i k n => K (.i k (ibits .xor k (if k.signed then -1 else k.max) n))
 | .not, .b c => K (.b !c)
 | _, _ => none
def fillA (place : Nat → Option (Nat × Nat)) (cells : List AV) : List (Nat × AV) → Option (List AV)
 | [] => some cells
 | (i, v) :: rest =>
  match place i with
  | none => none
  | some (off, size) =>
   bif Nat.beq v.cells.length size && Nat.ble (off + size) cells.length && v.cells.all AV.isOne then fillA place (cells.take off ++ v.cells ++ cells.drop (off + size)) rest else none
section ops
variable {O R : Type} (P : Program)
def loadK (σ : AH O) (b : Bid) : List Leaf → Nat → (List AV → Option R) → Option R
 | [], _, K => K []
 | l :: ls, o, K => (σ.ld b o).bind fun v => asLeaf l v fun v' => bif v'.isOne then loadK σ b ls (o + 1) fun r => K (v' :: r) else none
def tyOK (t : TypeId) : Bool :=
 match P.info? t, P.underlying t with
 | some i, some _ => match tyOf P t with
  | .agg ls => Nat.beq ls.length i.size
  | .one _ => true
  | .tup _ => false
 | _, _ => false
def loadT (σ : AH O) (b : Bid) (o : Nat) (t : Ty) (K : AV → Option R) : Option R :=
 match t with
 | .one l => (σ.ld b o).bind fun v => asLeaf l v fun v' => bif v'.isOne then K v' else none
 | .agg ls => loadK σ b ls o fun vs => K (.agg vs)
 | .tup _ => none
def asBytes : List AV → Option (List UInt8)
 | [] => some []
 | .i .u8 n :: r => (asBytes r).map fun l => UInt8.ofNat n.toNat :: l
 | _ :: _ => none
def partK (t : TypeId) (cs : List AV) (off : Nat) (K : AV → Option R) : Option R :=
 match P.info? t, P.underlying t with
 | some i, some _ => match tyOf P t with
  | .agg _ => K (.agg ((cs.drop off).take i.size))
  | .one l => (cs[off]?).bind fun v => asLeaf l v K
  | .tup _ => none
 | _, _ => none
def eqFs (E : TypeId → AV → AV → Option Bool) (xs ys : List AV) : List Field → Option Bool
 | [] => some true
 | f :: fs =>
  if f.name = "_" then eqFs E xs ys fs
  else (partK P f.type xs f.offset some).bind fun a => (partK P f.type ys f.offset some).bind fun b => (E f.type a b).bind fun r => (eqFs E xs ys fs).bind fun q => some (r && q)
def eqIs (E : TypeId → AV → AV → Option Bool) (e : TypeId) (xs ys : List AV) : List Nat → Option Bool
 | [] => some true
 | i :: is => (partK P e xs (i * P.cellsOf e) some).bind fun a => (partK P e ys (i * P.cellsOf e) some).bind fun b => (E e a b).bind fun r => (eqIs E e xs ys is).bind fun q => some (r && q)
def eqT : Nat → TypeId → AV → AV → Option Bool
 | 0, _, _, _ => none
 | d + 1, t, x, y =>
  match P.underlying t with
  | some .bool => (AV.asB x).bind fun a => (AV.asB y).bind fun b => some (a == b)
  | some (.int k) => (AV.asI k x).bind fun a => (AV.asI k y).bind fun b => some (a == b)
  | some .string => (AV.asS x).bind fun a => (AV.asS y).bind fun b => some (a == b)
  | some (.struct fs) => bif P.stoodInHeld t then none else
    match x, y with
    | .agg xs, .agg ys => eqFs P (eqT d) xs ys fs.toList
    | _, _ => none
  | some (.array n el) =>
    match x, y with
    | .agg xs, .agg ys => match P.info? el with | some _ => eqIs P (eqT d) el xs ys (List.range n) | none => none
    | _, _ => none
  | _ => none
def notYield : Fn → Bool | .yield _ => false | _ => true
def pureK (op : Op) (ty : TypeId) (e : Env) (K : AV → Option R) : Option R :=
 match op with
 | .move x | .assign x => K (ev e x)
 | .pick c a b =>
  match ev e c with
  | .b t => match ev e a, ev e b with
   | .b x, .b y => K (.b (bif t then x else y))
   | va, vb => bif t then K va else K vb
  | _ => none
 | .build t parts =>
  match zeroOf P t with
  | none => none
  | some z => match P.underlying t with
   | some (.struct fs) =>
    match fs.toList.mapM (fun f => (P.info? f.type).map fun i => (f.offset, i.size)) with
    | some places =>
     match fillA (fun i => places[i]?) z (parts.toList.map fun x => (x.1, ev e x.2)) with
     | some cs => K (.agg cs)
     | none => none
    | none => none
   | some (.array _ el) =>
    match P.info? el with
    | some ie =>
     match fillA (fun i => some (i * ie.size, ie.size)) z (parts.toList.map fun x => (x.1, ev e x.2)) with
     | some cs => K (.agg cs)
     | none => none
    | none => none
   | _ => none
 | .nilCheck x =>
  match ev e x with
  | .p a => a.bind fun ad => K (.p (some ad))
  | .fn a => a.bind fun x => match x with | (.func f, fi, ca) => K (.fn (some (.func f, fi, ca))) | _ => none
  | _ => none
 | .binOp op t x y _ =>
  match ev e x, ev e y with
  | .agg xs, .agg ys => bif P.eqGuardType P.depth t then none else (eqT P 8 t (.agg xs) (.agg ys)).bind fun q => eqNe op q K
  | vx, vy => binK (P.underlying t) op vx vy K
 | .unOp op _ x => unK op (ev e x) K
 | .convert src dst x =>
  match ev e x with
  | .i _ n => match P.underlying src, P.underlying dst with
   | some _, some (.int k) => K (.i k (k.wrap n))
   | _, _ => none
  | .s l => match P.underlying src, P.underlying dst with
   | some _, some .string => K (.s l)
   | _, _ => none
  | _ => none
 | .makeFunc fn first captured => bif notYield fn then K (.fn (some (fn, first.toList.map (ev e), captured.toList.map (ev e)))) else none
 | .slice t x lo hi mx =>
  match mx, ev e x with
  | none, .sl a n =>
   match P.underlying t with
   | some (.slice el) =>
    match (match lo with | some o => ev e o | none => .i .i64 0), (match hi with | some o => ev e o | none => .i .i64 n) with
    | .i _ l, .i _ h =>
     bif decide (0 ≤ l) && decide (l ≤ h) && decide (h ≤ (n : Int)) then
      withES P el fun es => (a.adv l.toNat es).bind fun a' => K (.sl a' (h.toNat - l.toNat))
     else none
    | _, _ => none
   | _ => none
  | none, .s s =>
   match P.underlying t with
   | some .string =>
    match (match lo with | some o => ev e o | none => .i .i64 0), (match hi with | some o => ev e o | none => .i .i64 s.length) with
    | .i _ l, .i _ h =>
     bif decide (0 ≤ l) && decide (l ≤ h) && decide (h ≤ (s.length : Int)) then K (.s ((s.drop l.toNat).take (h.toNat - l.toNat))) else none
    | _, _ => none
   | _ => none
  | none, .p q =>
   match P.underlying t with
   | some (.array len el) =>
    match (match lo with | some o => ev e o | none => .i .i64 0), (match hi with | some o => ev e o | none => .i .i64 len) with
    | .i _ l, .i _ h =>
     bif decide (0 ≤ l) && decide (l < h) && decide (h ≤ (len : Int)) && Nat.ble len 1000000 then
      withES P el fun es => q.bind fun ad => K (.sl (.ar ad.1 (ad.2 + l.toNat * es) es) (h.toNat - l.toNat))
     else none
    | _, _ => none
   | _ => none
  | some m, .sl a _ =>
   match P.underlying t with
   | some (.slice el) =>
    match (match lo with | some o => ev e o | none => .i .i64 0), (match hi with | some o => ev e o | none => .u), ev e m with
    | .i _ l, .i _ h, .i _ c => bif decide (l = 0) && decide (h = 0) && decide (c = 0) then withES P el fun _ => K (.sl (match a with | .nil => .nil | _ => .z) 0) else none
    | _, _, _ => none
   | _ => none
  | _, _ => none
 | .fieldAddr s x f =>
  match P.underlying s with
  | some (.struct fs) => match fs[f]? with
   | some fd => withES P fd.type fun es => bif Nat.beq es 0 then none else (AV.asPS (ev e x)).bind fun q => K (.p (some (q.1, q.2 + fd.offset)))
   | none => none
  | _ => none
 | .field t x f =>
  match ev e x, P.underlying t with
  | .agg cs, some (.struct fs) => match fs[f]? with
   | some fd => partK P fd.type cs fd.offset K
   | none => none
  | _, _ => none
 | .indexAddr t x ix =>
  match ev e ix with
  | .i _ i =>
   match P.underlying t with
   | some (.array len el) => bif decide (0 ≤ i) && decide (i < (len : Int)) then withES P el fun es => (AV.asPS (ev e x)).bind fun q => K (.p (some (q.1, q.2 + i.toNat * es))) else none
   | some (.slice el) =>
    match ev e x with
    | .sl a n => bif decide (0 ≤ i) && decide (i < (n : Int)) then withES P el fun es => a.ref.bind fun q => K (.p (some (q.1, q.2 + i.toNat * es))) else none
    | _ => none
   | _ => none
  | _ => none
 | .index t x ix =>
  match ev e ix with
  | .i _ i => match P.underlying t, ev e x with
   | some (.array len el), .agg cs =>
    bif decide (0 ≤ i) && decide (i < (len : Int)) then
     withES P el fun es => partK P el cs (i.toNat * es) K
    else none
   | some .string, .s s => bif decide (0 ≤ i) then (s[i.toNat]?).bind fun c => K (.i .u8 c.toNat) else none
   | _, _ => none
  | _ => none
 | .extract x n =>
  match ev e x with
  | .tup vs => (vs[n]?).bind fun v => asTy (tyOf P ty) v K
  | _ => none
 | .call c =>
  match c.callee with
  | .builtin .len =>
   match c.args.toList.map (ev e), c.argTypes.toList with
   | [.s l], [t] => match P.underlying t with
    | some .string => K (.i .i64 l.length)
    | _ => none
   | [.sl _ n], [t] => match P.underlying t with
    | some (.slice _) => K (.i .i64 n)
    | _ => none
   | _, _ => none
  | .builtin .min =>
   match c.args.toList.map (ev e) with
   | [.i k x, .i k' y] => if k = k' then K (.i k (if y < x then y else x)) else none
   | [.i k x, .i k' y, .i k'' z] => if k = k' ∧ k = k'' then K (.i k (if z < (if y < x then y else x) then z else (if y < x then y else x))) else none
   | _ => none
  | .builtin .max =>
   match c.args.toList.map (ev e) with
   | [.i k x, .i k' y] => if k = k' then K (.i k (if y > x then y else x)) else none
   | [.i k x, .i k' y, .i k'' z] => if k = k' ∧ k = k'' then K (.i k (if z > (if y > x then y else x) then z else (if y > x then y else x))) else none
   | _ => none
  | _ => none
 | _ => none
def allocs (op : Op) : Bool :=
 match op with
 | .alloc _ | .box .. | .buildSlice .. | .makeSlice .. | .makeMap .. | .range .. => true
 | .call { callee := .builtin .append, .. } => true
 | _ => false
def getG (G : List (Nat × Sm O)) (f : Nat) : Sm O :=
 match G with
 | [] => fun _ _ => none
 | (g, s) :: r => bif Nat.beq g f then s else getG r f
abbrev yKey : Nat := 1000000
abbrev rKey : Nat := 2000000
def callV (G : List (Nat × Sm O)) (x : Option (Fn × List AV × List AV)) (xs : List AV) (σ : AH O) : Option (AV × AH O) :=
 match x with
 | some (.func g, first, captured) => bif Nat.ble yKey g then none else getG G g (first ++ xs ++ captured) σ
 | some (.yield b, _, _) => getG G yKey (.p (some (.n b, 0)) :: xs) σ
 | _ => none
def rangeV (G : List (Nat × Sm O)) (x : Option (Fn × List AV × List AV)) (site : Nat) (env : List (Nat × AV)) (σ : AH O) : Option (AV × AH O) :=
 match x with
 | some (.func c, fi, ca) => getG G (c + rKey) (fi ++ [.fn (some (.yield σ.next, [], []))] ++ ca) ((σ.bump 1).put σ.next (.loop site env .ready))
 | _ => none
def srcK (σ : AH O) (es : Nat) (z : List AV) (d : TypeDesc) (v : AV) (K : Nat → List AV → Option R) : Option R :=
 match d, v with
 | .slice _, .sl a m => (σ.rdSl a m es).bind fun new => K m new
 | .string, .s l => bif Nat.beq es 1 then K l.length (l.map fun c => .i .u8 c.toNat) else none
 | .int _, .i _ n => bif decide (0 ≤ n) then K n.toNat ((List.replicate n.toNat z).flatten) else none
 | _, _ => none
def findM (k : IntKind) (n : Int) : List (AV × AV) → Option (Option (Nat × AV))
 | [] => some none
 | (.i k' m, v) :: r => if k = k' then (bif n == m then some (some (0, v)) else (findM k n r).map fun q => q.map fun x => (x.1 + 1, x.2)) else none
 | _ => none
def lookV (r : Option (Nat × AV)) (z : AV) : AV := match r with | some (_, v) => v | none => z
def updM (r : Option (Nat × AV)) (es : List (AV × AV)) (k v : AV) : List (AV × AV) := match r with | some (i, _) => es.set i (k, v) | none => es ++ [(k, v)]
def delM (r : Option (Nat × AV)) (es : List (AV × AV)) : List (AV × AV) := match r with | some (i, _) => es.eraseIdx i | none => es
def zeroV (P : Program) (t : TypeId) : Option AV := match P.info? t with | some i => i.zero.map ofVal | none => none
def entsOf {O : Type} (σ : AH O) : AV → Option (List (AV × AV))
 | .mp none => some []
 | .mp (some b) => match σ.blk b with
  | some (.map es _ _) => some es
  | _ => none
 | _ => none
def stampsOf {O : Type} (σ : AH O) (b : Nat) : List Nat × Nat := match σ.blk b with | some (.map _ st c) => (st, c) | _ => ([], 0)
def updB {O : Type} (σ : AH O) (b : Nat) (r : Option (Nat × AV)) (es : List (AV × AV)) (k v : AV) : Blk O :=
 match r with
 | some _ => .map (updM r es k v) (stampsOf σ b).1 (stampsOf σ b).2
 | none => .map (updM r es k v) ((stampsOf σ b).1 ++ [(stampsOf σ b).2]) ((stampsOf σ b).2 + 1)
def delB {O : Type} (σ : AH O) (b : Nat) (r : Option (Nat × AV)) (es : List (AV × AV)) : Blk O :=
 match r with
 | some (i, _) => .map (delM r es) ((stampsOf σ b).1.eraseIdx i) (stampsOf σ b).2
 | none => .map (delM r es) (stampsOf σ b).1 (stampsOf σ b).2
def entA {O : Type} (σ : AH O) (v : AV) : Option (AV × AV) :=
 match v with
 | .p (some (.n b, 0)) => match σ.blk b with
  | some (.iter m idx st c) => match σ.blk m with
   | some (.map es st' c') => bif (st' == st) && Nat.beq c' c then (idx.getLast?).bind fun i => es[i]? else none
   | _ => none
  | _ => none
 | _ => none
def rangeM {O : Type} (σ : AH O) (v : AV) : Option (Nat × List Nat × Nat) :=
 match v with
 | .mp (some m) => match σ.blk m with
  | some (.map _ st c) => some (m, st, c)
  | _ => none
 | _ => none
def itOf {O : Type} (σ : AH O) (v : AV) : Option (Nat × Nat × List Nat × Nat) :=
 match v with
 | .p (some (.n b, 0)) => match σ.blk b with
  | some (.iter m [] st c) => some (b, m, st, c)
  | _ => none
 | _ => none
def itOK {O : Type} (σ : AH O) (b m : Nat) (idx st : List Nat) (c : Nat) : Option Unit :=
 match σ.blk b with
 | some (.iter m' idx' st' c') => match σ.blk m with
  | some (.map _ st'' c'') => bif Nat.beq m' m && (idx' == idx) && (st' == st) && Nat.beq c' c && (st'' == st) && Nat.beq c'' c then some () else none
  | _ => none
 | _ => none
def intKey (P : Program) (kt : TypeId) (v : AV) : Option (IntKind × Int) := match P.underlying kt, v with | some (.int k), .i k' n => if k = k' then some (k, n) else none | _, _ => none
def opK (G : List (Nat × Sm O)) (op : Op) (ty : TypeId) (e : Env) (σ : AH O) (nid : Nat) (K : AV → AH O → Option R) : Option R :=
 match op with
 | .alloc t =>
  match zeroOf P t with
  | some cs => K (.p (some (.n nid, 0))) (σ.put nid (.cells true t cs))
  | none => none
 | .box t x => bif (ev e x).cells.all AV.isOne then K (.p (some (.n nid, 0))) (σ.put nid (.cells true t (ev e x).cells)) else none
 | .buildSlice t n parts =>
  match P.underlying t with
  | some (.slice el) =>
    match zeroOf P el with
    | some z =>
     bif Nat.ble (n * z.length) 16777216 && Nat.ble n 16777216 then
     match fillA (fun i => some (i * z.length, z.length)) ((List.replicate n z).flatten) (parts.toList.map fun x => (x.1, ev e x.2)) with
     | some cs => K (.sl (.loc (.n nid) 0 z.length) n) (σ.put nid (.cells true el cs))
     | none => none
     else none
    | none => none
  | _ => none
 | .makeSlice t l c =>
  match P.underlying t, ev e l, ev e c with
  | some (.slice el), .i _ n, .i _ m =>
   bif !isBld P el && (decide (0 ≤ n) && decide (n ≤ m) && decide (m * bytesOf P el ≤ 140737488355328) && decide (m ≤ 140737488355328)) then
    match zeroOf P el with
    | some z => K (.sl (.loc (.n nid) 0 z.length) n.toNat) (σ.put nid (.cells true el ((List.replicate n.toNat z).flatten)))
    | none => none
   else none
  | _, _, _ => none
 | .load t a =>
  (AV.asPS (ev e a)).bind fun q => bif tyOK P t then loadT σ q.1 q.2 (tyOf P t) fun v => K v σ else none
 | .store t a x =>
  (AV.asPS (ev e a)).bind fun q => withES P t fun es => bif Nat.beq (ev e x).cells.length es && (ev e x).cells.all AV.isOne then (σ.st q.1 q.2 (ev e x).cells).bind fun σ' => K .u σ' else none
 | .convert src dst x =>
  match ev e x with
  | .sl a n => match P.underlying src, P.underlying dst with
   | some (.slice el), some .string => match P.underlying el with
    | some (.int .u8) => (σ.rdSl a n 1).bind fun cs => (asBytes cs).bind fun l => K (.s l) σ
    | _ => none
   | _, _ => none
  | .s l => match P.underlying src, P.underlying dst with
   | some _, some (.slice el) => match P.underlying el with
    | some (.int .u8) => bif Nat.ble (l.length * 2) 35184372088832 then K (.sl (.loc (.f (l.map fun c => .i .u8 c.toNat)) 0 1) l.length) σ else none
    | _ => none
   | _, _ => pureK P op ty e fun v => K v σ
  | _ => pureK P op ty e fun v => K v σ
 | .makeMap t r =>
  match P.underlying t with
  | some (.map _ _) => bif (match r with | none => true | some x => match ev e x with | .i _ _ => true | _ => false) then K (.mp (some nid)) (σ.put nid (.map [] [] 0)) else none
  | _ => none
 | .lookup t x ix ok =>
  match P.underlying t with
  | some (.map kt et) =>
   (intKey P kt (ev e ix)).bind fun q => (entsOf σ (ev e x)).bind fun es => (findM q.1 q.2 es).bind fun r => (zeroV P et).bind fun z =>
    asTy (tyOf P et) (lookV r z) fun v => K (bif ok then .tup [v, .b r.isSome] else v) σ
  | _ => none
 | .mapUpdate t m x y =>
  match P.underlying t with
  | some (.map kt _) =>
   (intKey P kt (ev e x)).bind fun q => (AV.asMp (ev e m)).bind fun mo => mo.bind fun b => (entsOf σ (.mp (some b))).bind fun es => (findM q.1 q.2 es).bind fun r =>
    K .u (σ.put b (updB σ b r es (.i q.1 q.2) (ev e y)))
  | _ => none
 | .range t x =>
  match P.underlying t with
  | some (.map _ _) => (rangeM σ (ev e x)).bind fun q => K (.p (some (.n nid, 0))) (σ.put nid (.iter q.1 [] q.2.1 q.2.2))
  | _ => none
 | .entry x => (entA σ (ev e x)).bind fun q => K (.tup [q.1, q.2]) σ
 | .call c =>
  match c.callee with
  | .value f =>
   match ev e f with
   | .fn x => (callV G x (c.args.toList.map (ev e)) σ).bind fun r => asTy (tyOf P ty) r.1 fun v => K v r.2
   | _ => none
  | .builtin .append =>
   match c.args.toList.map (ev e), c.argTypes.toList with
   | [.sl a n, v], [t, t'] =>
    match P.underlying t, P.underlying t' with
    | some (.slice el), some d' =>
     match zeroOf P el with
     | none => none
     | some z =>
     withES P el fun es =>
     bif Nat.beq z.length es then
      srcK σ es z d' v fun m new => bif !isBld P el && Nat.ble ((n + m) * (bytesOf P el + 1)) 35184372088832 then (σ.appSl nid el es a n m new).bind fun r => asLeaf .sl r.1 fun v => K v r.2 else none
     else none
    | _, _ => none
   | _, _ => none
  | .builtin .copy =>
   match c.args.toList.map (ev e), c.argTypes.toList with
   | [.sl a n, .sl a' m], [t, _] =>
    match P.underlying t with
    | some (.slice el) =>
     withES P el fun es =>
     bif Nat.beq (min m n) 0 then K (.i .i64 0) σ else
      (σ.rdSl a' (min m n) es).bind fun cs => (σ.wrSl a cs).bind fun σ' => K (.i .i64 (min m n : Nat)) σ'
    | _ => none
   | _, _ => none
  | .builtin .clear =>
   match c.args.toList.map (ev e), c.argTypes.toList with
   | [.sl a n], [t] =>
    match P.underlying t with
    | some (.slice el) =>
     bif Nat.beq n 0 then K (.tup []) σ else
      match zeroOf P el with
      | some z => (σ.wrSl a ((List.replicate n z).flatten)).bind fun σ' => K (.tup []) σ'
      | none => none
    | _ => none
   | _, _ => none
  | .builtin .delete =>
   match c.args.toList.map (ev e), c.argTypes.toList with
   | [m, x], [t, _] =>
    match P.underlying t with
    | some (.map kt _) =>
     (intKey P kt x).bind fun q => (AV.asMp m).bind fun mo => mo.bind fun b => (entsOf σ (.mp (some b))).bind fun es => (findM q.1 q.2 es).bind fun r =>
      K (.tup []) (σ.put b (delB σ b r es))
    | _ => none
   | _, _ => none
  | _ => pureK P op ty e fun v => K v σ
 | op => pureK P op ty e fun v => K v σ
end ops
def turns (op : Op) : Bool :=
 match op with
 | .store .. => true
 | .makeMap .. => true
 | .lookup .. => true
 | .mapUpdate .. => true
 | .range .. => true
 | .entry .. => true
 | .call c => match c.callee with
  | .builtin .len => false
  | .builtin .min => false
  | .builtin .max => false
  | _ => true
 | _ => false
def loads (op : Op) : Bool := match op with | .load .. => true | .convert .. => true | _ => false
def befs (ops : List Oper) : List Nat :=
 ops.foldl (fun acc o => acc ++ [o.after.toList.foldl (fun s e => bif Region.binds .any e then Nat.lor (Nat.lor s (2 ^ e.on)) (acc.getD e.on 0) else s) 0]) []
def bit (m i : Nat) : Bool := Nat.beq ((m / 2 ^ i) % 2) 1
def looks (ops : List Oper) (o : Oper) : List Nat :=
 (o.op.operands.toList.filterMap fun x => match x with | .tmp t => some t | _ => none) ++
  (match o.guard with | some (j, _) => (match ops[j]? with | some oj => oj.dst.toList | none => []) | none => [])
def meddle (ops : List Oper) (x y : Oper) : Bool :=
 (match x.dst with | some d => (looks ops y).elem d || (match y.dst with | some d' => Nat.beq d d' | none => false) | none => false) ||
 (match y.dst with | some d => (looks ops x).elem d | none => false)
def okPair (ops : List Oper) (bef : List Nat) (i i' : Nat) : Bool :=
 match ops[i]?, ops[i']? with
 | some o, some o' =>
  !Nat.beq i i' && !bit (bef.getD i 0) i' &&
  (bit (bef.getD i' 0) i || (!meddle ops o o' && !(turns o.op && (turns o'.op || loads o'.op)) && !(allocs o.op && !turns o.op && turns o'.op)))
 | _, _ => false
def okAll (ops : List Oper) (bef : List Nat) : List Nat → Bool
 | [] => true
 | i :: r => r.all (okPair ops bef i) && okAll ops bef r
def noOdd (o : Oper) : Bool := match o.op with | .select .. => false | .defer _ => false | .recv .. => false | _ => true
def okEdges (ops : List Oper) : List Nat → List Nat → Bool
 | _, [] => true
 | done, i :: r => (match ops[i]? with | some o => o.after.toList.all (fun e => !Region.binds .any e || done.elem e.on) | none => false) && okEdges ops (i :: done) r
def nidOf (ops : List Oper) : List Nat → Nat → Nat
 | [], n => n
 | q :: r, n => nidOf ops r (match ops[q]? with | some o => bif allocs o.op then n + 1 else n | none => n)
def numAllocs (ops : List Oper) : Nat := (ops.filter fun o => allocs o.op).length
def okSched (ops : List Oper) (bef l : List Nat) : Bool :=
 Nat.beq l.length ops.length && l.all (fun i => Nat.blt i ops.length) && (List.range ops.length).all (fun i => l.elem i) && okAll ops bef l && ops.all noOdd && okEdges ops [] l && Nat.beq (nidOf ops l 0) (numAllocs ops)
def befsChk (bf : List Nat) : List Oper → Nat → Bool
 | [], k => Nat.beq bf.length k
 | o :: r, k => Nat.beq (bf.getD k 0) (o.after.toList.foldl (fun s e => bif Region.binds .any e then Nat.lor (Nat.lor s (2 ^ e.on)) ((bf.take k).getD e.on 0) else s) 0) && befsChk bf r (k + 1)
structure LdC (O : Type) where
 p : AH O → Prop
 c : AH O → Option Unit
 h : ∀ σ u, c σ = some u → p σ
structure RS (O : Type) where
 e : Env
 σ : AH O
 nid : Nat
 dec : List Nat
 loads : List (Nat × LdC O)
section region
variable {O : Type} (P : Program) (G : List (Nat × Sm O)) (bef : List Nat) (dr : Bool)
def chks {R : Type} (j : Nat) (σ : AH O) : List (Nat × LdC O) → Option R → Option R
 | [], K => K
 | (i, p) :: r, K => bif bit (bef.getD j 0) i then chks j σ r K else (p.c σ).bind fun _ => chks j σ r K
noncomputable def readsOf (i : Nat) (b : Bid) (o : Nat) : List AV → List (Nat × LdC O)
 | [] => []
 | v :: vs => (i, ⟨fun σ => σ.ld b o = some v, fun σ => chkE (σ.ld b o) (some v), fun _ _ h => chkE_spec h⟩) :: readsOf i b (o + 1) vs
noncomputable def stepK {R : Type} (i : Nat) (o : Oper) (s : RS O) (K : RS O → Option R) : Option R :=
 opK P G o.op o.type s.e s.σ s.nid fun v σ' =>
  let s' : RS O := { s with e := s.e.put o.dst v, σ := σ', nid := bif allocs o.op then s.nid + 1 else s.nid }
  bif dr then
   match o.op with
   | .load _ a => (AV.asPS (ev s.e a)).bind fun q => K { s' with loads := s.loads ++ readsOf i q.1 q.2 v.cells }
   | .convert _ _ x => match ev s.e x with
    | .sl a n => K { s' with loads := s.loads ++ [(i, ⟨fun σ2 => σ2.rdSl a n 1 = s.σ.rdSl a n 1, fun σ2 => chkL (σ2.rdSl a n 1) (s.σ.rdSl a n 1), fun _ _ h => chkL_spec h⟩)] }
    | _ => K s'
   | op => bif turns op then chks bef i σ' s.loads (K s') else K s'
  else K s'
end region
inductive Ann where
 | z
 | n (l r : Ann)
  | j (sum : Bool) (slots : List (Nat × Ty)) (l r : Ann)
  | g (scs : List (Nat × Nat × List (Nat × Ty)))
  | d (scs : List (Nat × Nat × List (Nat × Ty))) (ord bf : List Nat)
  | lp (sum : Bool) (xid : Nat) (head out : List (Nat × Ty)) (l : Ann)
  | rf (site : Nat) (slots : List Nat) (outs : List Nat)
  | lm (head : List (Nat × Ty)) (l : Ann)
  | x
 deriving Inhabited
def Ann.off {R : Type} (an : Ann) (k : Option R) : Option R := match an with | .x => none | _ => k
theorem Ann.off_some {R : Type} {an : Ann} {k : Option R} {r : R} (h : an.off k = some r) : k = some r := by
 cases an <;> first | exact h | cases h
def Ann.l : Ann → Ann | .n l _ => l | .j _ _ l _ => l | _ => .z
def Ann.r : Ann → Ann | .n _ r => r | .j _ _ _ r => r | _ => .z
def unpackK {R : Type} : List (Nat × Ty) → Nat → List AV → Env → (Env → Option R) → Option R
 | [], _, _, e, K => K e
 | (t, ty) :: rest, i, vs, e, K => asTy ty (vs.getD i .u) fun v => unpackK rest (i + 1) vs (e.set t v) K
def packE (slots : List (Nat × Ty)) (e : Env) : List AV := slots.map fun s => e s.1
def bindS {S R : Type} (m : Option (S ⊕ R)) (f : S → Option R) : Option R :=
 match m with
 | some (.inl s) => f s
 | some (.inr r) => some r
 | none => none
section regions
variable {O : Type} (P : Program) (G : List (Nat × Sm O)) (bef : List Nat) (dr : Bool) (scs : List (Nat × Nat × List (Nat × Ty))) (ops : List Oper)
def scopeOf (len : Nat) (j : Nat) : List (Nat × Nat × List (Nat × Ty)) → Nat × List (Nat × Ty)
 | [] => (len, [])
 | x :: r => bif Nat.beq x.1 j then x.2 else scopeOf len j r
def dstsIn (l : List Nat) : List Nat := l.filterMap fun q => match ops[q]? with | some o => o.dst | none => none
def scopeOK (l1 l2 : List Nat) : Bool :=
 l1.all fun q => match ops[q]? with
  | some o => !loads o.op || l2.all fun q' => match ops[q']? with | some o' => !turns o'.op || bit (bef.getD q' 0) q | none => false
  | none => false
noncomputable def opsK : Nat → List Nat → {R : Type} → RS O → (RS O → Option R) → Option R
 | 0, l, _, s, K => match l with | [] => K s | _ => none
 | f + 1, l, _, s, K =>
  match l with
  | [] => K s
  | i :: rest =>
   match ops[i]? with
   | none => none
   | some o =>
    match o.guard with
    | none => stepK P G bef dr i o s fun s' => opsK f rest s' K
    | some (j, want) =>
     match ops[j]? with
     | none => none
     | some oj =>
      match oj.dst with
      | none => none
      | some d =>
       match s.e d with
       | .b t =>
        bif s.dec.elem j then
         bif t == want then stepK P G bef dr i o s fun s' => opsK f rest s' K
         else opsK f rest { s with e := s.e.put o.dst (.tup []), nid := bif allocs o.op then s.nid + 1 else s.nid } K
        else
         bif dr && !scopeOK bef ops (i :: rest.take (scopeOf rest.length j scs).1) (rest.drop (scopeOf rest.length j scs).1) then none else
         (bif t == want then
          stepK P G bef dr i o { s with e := s.e.set d (.b want), dec := j :: s.dec } fun s' =>
           opsK f (rest.take (scopeOf rest.length j scs).1) (R := List AV × AH O) s' fun s => some (packE (scopeOf rest.length j scs).2 s.e, s.σ)
         else
          opsK f (rest.take (scopeOf rest.length j scs).1) (R := List AV × AH O) { s with e := (s.e.set d (.b !want)).put o.dst (.tup []), dec := j :: s.dec, nid := bif allocs o.op then s.nid + 1 else s.nid } fun s => some (packE (scopeOf rest.length j scs).2 s.e, s.σ)).bind fun r =>
          unpackK (scopeOf rest.length j scs).2 0 r.1 (Env.mask (dstsIn ops (i :: rest.take (scopeOf rest.length j scs).1)) s.e) fun e =>
           opsK f (rest.drop (scopeOf rest.length j scs).1) { s with e := e, σ := r.2, nid := nidOf ops (i :: rest.take (scopeOf rest.length j scs).1) s.nid } K
       | .tup [] => opsK f rest { s with e := s.e.put o.dst (.tup []), nid := bif allocs o.op then s.nid + 1 else s.nid } K
       | _ => none
def dstsOf (ops : List Oper) : List Nat := ops.filterMap (·.dst)
noncomputable def regionK (ord bf : List Nat) {R : Type} (e : Env) (σ : AH O) (K : Env → AH O → Option R) : Option R :=
 let s : RS O := ⟨e, bif Nat.beq (numAllocs ops) 0 then σ else σ.bump (numAllocs ops), σ.next, [], []⟩
 bif dr then
  bif befsChk bf ops 0 && okSched ops bf ord then opsK P G bf true scs ops ops.length ord s fun s => K s.e s.σ else none
 else opsK P G [] false scs ops ops.length (List.range ops.length) s fun s => K s.e s.σ
end regions
inductive X where
 | norm
 | exit (id : Nat)
 | ret
 deriving DecidableEq, Inhabited
def writesOf : Code → List Nat
 | .region _ ops _ => dstsOf ops.toList
 | .seq a b => writesOf a ++ writesOf b
 | .cond _ a b => writesOf a ++ writesOf b
 | .block _ c => writesOf c
 | .loop c => writesOf c
 | .scope c => writesOf c
 | .rangeFunc _ ps a b => ps.toList ++ (writesOf a ++ writesOf b)
 | _ => []
def loopN {S T : Type} (f : S → Option (S ⊕ T)) : Nat → S → Option T
 | 0, _ => none
 | n + 1, s => bindS (f s) (loopN f n)
open Classical in
noncomputable def loopF {S T : Type} (f : S → Option (S ⊕ T)) (s : S) : Option T :=
 match loopN f 65536 s with
 | some t => some t
 | none => if h : ∃ n t, loopN f n s = some t then some (Classical.choose (Classical.choose_spec h)) else none
def foldO {S : Type} (f : Nat → List Nat → S → Option S) : List Nat → List Nat → S → Option S
 | [], _, s => some s
 | i :: p, d, s => (f i d s).bind fun s => foldO f p (d ++ [i]) s
open Classical in
noncomputable def foldAny {S : Type} (f : Nat → List Nat → S → Option S) (n : Nat) (s : S) : Option S :=
 bif Nat.ble n 1 then foldO f (List.range n) [] s
 else if h : ∃ t, ∀ p : List Nat, p.Perm (List.range n) → foldO f p [] s = some t then some (Classical.choose h) else none
def lmOK (ops : List Oper) (d : Bool) (mo : Operand) (ca cb : Code) : Option (Nat × Nat × Nat × Nat) :=
 match d, ops, mo, ca, cb with
 | false, [o1, o2], .tmp q, .skip, .exit out =>
  match o1.op, o1.dst, o1.guard, o2.op, o2.dst, o2.guard with
  | .next (.tmp it) false, some tn, none, .extract (.tmp tn') 0, some tm, none => bif Nat.beq tn tn' && Nat.beq tm q && !Nat.beq tn tm then some (it, tn, tm, out) else none
  | _, _, _, _, _, _ => none
 | _, _, _, _, _ => none
def joinK {O R : Type} (an : Ann) (ws : List Nat) (e : Env) (here : X → Bool) (body : {R : Type} → (X → Env → AH O → Option R) → Option R) (K : X → Env → AH O → Option R) : Option R :=
 match an with
 | .j false slots _ _ =>
  (body fun x e σ => bif here x then some (packE slots e, σ) else none).bind fun r => unpackK slots 0 r.1 (Env.mask ws e) fun e => K .norm e r.2
 | .j true slots _ _ =>
  bindS (body fun x e σ => bif here x then some (Sum.inl (packE slots e, σ)) else (K x e σ).map Sum.inr) fun r => unpackK slots 0 r.1 (Env.mask ws e) fun e => K .norm e r.2
 | _ => body fun x e σ => bif here x then K .norm e σ else K x e σ
def X.isNorm : X → Bool | .norm => true | _ => false
def X.isOut (id : Nat) : X → Bool | .norm => true | .exit i => Nat.beq i id | _ => false
def xOf (c : Nat) : X := if c = 3 then .ret else .exit (c - 4)
def outsK {R : Type} : List Nat → Nat → (X → Option R) → Option R
 | [], _, _ => none
 | c :: cs, s, K => bif Nat.ble 3 c && Nat.beq s c then K (xOf c) else outsK cs s K
def lstN {O : Type} (σ : AH O) (b : Nat) : Option Nat := match σ.blk b with | some (.loop _ _ st) => some st.code | _ => none
def markL {O : Type} (σ : AH O) (b : Nat) (st : LSt) : Option (AH O) := match σ.blk b with | some (.loop s env _) => some (σ.put b (.loop s env st)) | _ => none
def busyL {O : Type} (σ : AH O) (b : Nat) : Option (AH O) := match σ.blk b with | some (.loop s env .ready) => some (σ.put b (.loop s env .busy)) | _ => none
def envOf (l : List (Nat × AV)) : Env := fun t => match l with | [] => .u | (q, v) :: l => bif Nat.beq t q then v else envOf l t
def sitesOf : Code → List (Array Tmp × Code × Code)
 | .rangeFunc _ ps a b => (ps, a, b) :: (sitesOf a ++ sitesOf b)
 | .seq a b => sitesOf a ++ sitesOf b
 | .cond _ a b => sitesOf a ++ sitesOf b
 | .block _ c => sitesOf c
 | .loop c => sitesOf c
 | .scope c => sitesOf c
 | _ => []
def siteOf (P : Program) (s : Nat) : Option (Array Tmp × Code × Code) := (P.funcs[s / 1000]?).bind fun f => f.body.bind fun c => (sitesOf c)[s % 1000]?
def plain : Code → Bool
 | .rangeFunc _ _ _ _ => false
 | .seq a b => plain a && plain b
 | .cond _ a b => plain a && plain b
 | .block _ c => plain c
 | .loop c => plain c
 | .scope c => plain c
 | _ => true
noncomputable def exec {O : Type} (P : Program) (G : List (Nat × Sm O)) : Code → Ann → {R : Type} → Env → AH O → (X → Env → AH O → Option R) → Option R
 | .skip, _, _, e, σ, K => K .norm e σ
 | .label _, _, _, e, σ, K => K .norm e σ
 | .region _ ops d, an, _, e, σ, K => regionK P G d (match an with | .g scs => scs | .d scs _ _ => scs | _ => []) ops.toList (match an with | .d _ o _ => o | _ => []) (match an with | .d _ _ b => b | _ => []) e σ fun e σ => K .norm e σ
 | .seq a b, an, _, e, σ, K => exec P G a an.l e σ fun x e σ =>
   match x with
   | .norm => exec P G b an.r e σ K
   | x => K x e σ
 | .cond c a b, an, _, e, σ, K =>
   match ev e c with
   | .b t => joinK an (writesOf a ++ writesOf b) e X.isNorm (fun K => bif t then an.l.off (exec P G a an.l e σ K) else an.r.off (exec P G b an.r e σ K)) K
   | _ => none
 | .block id c, an, _, e, σ, K => joinK an (writesOf c) e (X.isOut id) (fun K => exec P G c an.l e σ K) K
 | .loop c, an, R, e, σ, K =>
   match an with
   | .lp false xid head out l =>
    (loopF (S := List AV × AH O) (T := List AV × AH O) (fun r => unpackK head 0 r.1 (Env.mask (writesOf c) e) fun e => exec P G c l e r.2 fun x e σ =>
      match x with
      | .norm => some (Sum.inl (packE head e, σ))
      | .exit id => bif Nat.beq id xid then some (Sum.inr (packE out e, σ)) else none
      | .ret => none) (packE head e, σ)).bind fun r =>
     unpackK out 0 r.1 (Env.mask (writesOf c) e) fun e => K (.exit xid) e r.2
   | .lp true xid head out l =>
    bindS (loopF (S := List AV × AH O) (T := (List AV × AH O) ⊕ R) (fun r => unpackK head 0 r.1 (Env.mask (writesOf c) e) fun e => exec P G c l e r.2 fun x e σ =>
      match x with
      | .norm => some (Sum.inl (packE head e, σ))
      | .exit id => bif Nat.beq id xid then some (Sum.inr (Sum.inl (packE out e, σ))) else (K (.exit id) e σ).map fun r => Sum.inr (Sum.inr r)
      | .ret => (K .ret e σ).map fun r => Sum.inr (Sum.inr r)) (packE head e, σ)) fun r =>
     unpackK out 0 r.1 (Env.mask (writesOf c) e) fun e => K (.exit xid) e r.2
   | .lm head l =>
    match c with
    | .seq (.region rid ops d) (.seq (.cond mo ca cb) body) =>
     match lmOK ops.toList d mo ca cb with
     | some (it, tn, tm, out) =>
      bif (writesOf (.seq (.region rid ops d) (.seq (.cond mo ca cb) body))).elem it || head.any (fun s => Nat.beq s.1 tn || Nat.beq s.1 tm) then none else
      (itOf σ (e it)).bind fun q => (itOK σ q.1 q.2.1 [] q.2.2.1 q.2.2.2).bind fun _ =>
       (foldAny (S := List AV × AH O) (fun i dn (r : List AV × AH O) => unpackK head 0 r.1 (Env.mask (writesOf (.seq (.region rid ops d) (.seq (.cond mo ca cb) body))) e) fun e' =>
        exec P G body l ((e'.set tn .u).set tm (.b true)) (r.2.put q.1 (.iter q.2.1 (dn ++ [i]) q.2.2.1 q.2.2.2)) fun x e' σ' =>
         match x with
         | .norm => (itOK σ' q.1 q.2.1 (dn ++ [i]) q.2.2.1 q.2.2.2).bind fun _ => some (packE head e', σ'.put q.1 (.iter q.2.1 [] q.2.2.1 q.2.2.2))
         | _ => none) q.2.2.1.length (packE head e, σ)).bind fun r =>
        unpackK head 0 r.1 (Env.mask (writesOf (.seq (.region rid ops d) (.seq (.cond mo ca cb) body))) e) fun e' => K (.exit out) e' (r.2.kill q.1)
     | none => none
    | _ => none
   | _ => none
 | .exit id, _, _, e, σ, K => K (.exit id) e σ
 | .ret, _, _, e, σ, K => K .ret e σ
 | .scope c, an, _, e, σ, K => exec P G c an.l e σ K
 | .rangeFunc g _ _ _, an, _, e, σ, K =>
  match an with
  | .rf site slots outs =>
   match ev e g with
   | .fn f =>
    (rangeV G f site (slots.map fun t => (t, e t)) σ).bind fun r =>
     (lstN r.2 σ.next).bind fun s => bif Nat.beq s 0 then K .norm e (r.2.kill σ.next) else outsK outs s fun x => K x e (r.2.kill σ.next)
   | _ => none
  | _ => none
 | _, _, _, _, _, _ => none
def roundW {O : Type} (site n : Nat) (F : Env → List AV → Nat → AH O → Option (AV × AH O)) : Sm O := fun xs σ =>
 match xs with
 | .p (some (.n b, _)) :: ys =>
  match σ.blk b with
  | some (.loop s env .ready) => bif Nat.beq s site && Nat.beq ys.length n then F (envOf env) ys b σ else none
  | _ => none
 | _ => none
noncomputable def roundS {O : Type} (P : Program) (G : List (Nat × Sm O)) (site : Nat) (ps : List Nat) (asg body : Code) (ets pts : List (Nat × Ty)) (an : Ann) : Sm O := roundW site ps.length fun env ys b σ =>
 unpackK ets 0 (ets.map fun p => env p.1) (fun _ => .u) fun e => unpackK pts 0 ys e fun e =>
  exec P G asg an.l e σ fun x e σ =>
   match x with
   | .norm => (busyL σ b).bind fun σ => exec P G body an.r e σ fun x _ σ =>
     match x with
     | .norm => (markL σ b .ready).bind fun σ => some (.b true, σ)
     | .ret => (markL σ b (.done none)).bind fun σ => some (.b false, σ)
     | .exit id => (markL σ b (.done (some id))).bind fun σ => some (.b false, σ)
   | _ => none
def distinct : List Nat → Bool
 | [] => true
 | t :: ts => !ts.elem t && distinct ts
noncomputable def roundAt {O : Type} (P : Program) (G : List (Nat × Sm O)) (f : Nat) (fn : Func) (i : Nat) (ets pts : List (Nat × Ty)) (an : Ann) : Sm O :=
 match fn.body with
 | none => fun _ _ => none
 | some c =>
  match (sitesOf c)[i]? with
  | none => fun _ _ => none
  | some x => bif plain x.2.1 && plain x.2.2 && Nat.blt i 1000 && (pts.map (·.1) == x.1.toList) && distinct (ets.map (·.1) ++ pts.map (·.1)) then
    roundS P G (f * 1000 + i) x.1.toList x.2.1 x.2.2 ets pts an else fun _ _ => none
def orR {O : Type} (a b : Sm O) : Sm O := fun xs σ => match a xs σ with | some r => some r | none => b xs σ
def annSites : Code → Ann → List (Nat × (Array Tmp × Code × Code))
 | .seq a b, an => annSites a an.l ++ annSites b an.r
 | .cond _ a b, an => annSites a an.l ++ annSites b an.r
 | .block _ c, an => annSites c an.l
 | .loop c, an => match an with | .lp _ _ _ _ l => annSites c l | .lm _ l => annSites c (.n .z (.n .z l)) | _ => []
 | .scope c, an => annSites c an.l
 | .rangeFunc _ ps a b, an => match an with | .rf site _ _ => [(site, (ps, a, b))] | _ => []
 | _, _ => []
def resK {O : Type} (P : Program) (e : Env) (σ : AH O) : List ResultVar → (List AV → Option (AV × AH O)) → Option (AV × AH O)
 | [], K => K []
 | .tmp t :: rs, K => resK P e σ rs fun vs => K (e t :: vs)
 | .cell a ty :: rs, K =>
  (AV.asPS (e a)).bind fun q => bif tyOK P ty then loadT σ q.1 q.2 (tyOf P ty) fun v => resK P e σ rs fun vs => K (v :: vs) else none
def oneOrTup : List AV → AV | [v] => v | vs => .tup vs
def argsK {R : Type} : List Ty → Nat → List AV → Env → (Env → Option R) → Option R
 | [], _, _, e, K => K e
 | ty :: tys, i, xs, e, K => asTy ty (xs.getD i .u) fun v => argsK tys (i + 1) xs (e.set i v) K
noncomputable def run {O : Type} (P : Program) (G : List (Nat × Sm O)) (f : Func) (an : Ann) : Sm O := fun xs σ =>
 match f.body with
 | none => none
 | some c =>
  bif Nat.beq xs.length (f.params.size + f.nfree) then
   argsK (f.params.toList.map (tyOf P) ++ List.replicate f.nfree (.one .any)) 0 xs (fun _ => .u) fun e =>
    exec P G c an e σ fun x e σ =>
     match x with
     | .exit _ => none
     | _ => resK P e σ f.results.toList fun vs => some (oneOrTup vs, σ)
  else none
end Go.Abs
