/-
  AbsCore: an abstract, deterministic reading of the model's code: abstract values, an abstract heap, and 'exec', which runs a function's code on them.
-/
import GoSem.Core.Code
import GoSem.Core.View
import GoSem.Core.Region
import GoSem.Dispatch
set_option linter.unusedVariables false
set_option linter.unusedSimpArgs false
set_option linter.constructorNameAsVariable false
namespace Go.Abs
open Go
mutual
inductive jJ where
 |n (b:Nat)
 |f (cs:List AV)
inductive SA where
 |nil
 |z
 |loc (b:jJ) (o es:Nat)
  |ar (b:jJ) (o es:Nat)
inductive AV where
 |u
 |b (x:Bool)
 |i (k:IntKind) (n:Int)
 |s (l:List UInt8)
 |p (a:Option (jJ × Nat))
 |sl (a:SA) (len:Nat)
 |mp (r:Option Nat)
 |fn (f:Option (Fn × List AV × List AV))
 |ifc (t:TypeId) (v:AV)
 |DC
 |agg (cs:List AV)
 |aS (vs:List AV)
end
instance:Inhabited jJ:=⟨.n 0⟩
instance:Inhabited SA:=⟨.nil⟩
instance:Inhabited AV:=⟨.u⟩
inductive ZZ where
 |ready |busy |gone
 |done (j:Option Nat)
def ZZ.code:ZZ → Nat |.ready=>0 |.busy=>1 |.gone=>2 |.done none=>3 |.done (some id)=>id+4
inductive oM (O:Type) where
 |cells (own:Bool) (el:TypeId) (cs:List AV)
 |obj (o:O)
  |loop (site:Nat) (env:List (Nat × AV)) (st:ZZ)
  |map (es:List (AV × AV)) (st:List Nat) (c:Nat)
  |iter (m:Nat) (idx st:List Nat) (c:Nat)
structure AH (O:Type) where
 ai:Nat → Option (oM O)
 next:Nat
section heap
variable {O:Type}
def AH.put (σ:AH O) (b:Nat) (x:oM O):AH O:=⟨fun q=>bif Nat.beq q b then some x else σ.ai q,σ.next⟩
def AH.kill (σ:AH O) (b:Nat):AH O:=⟨fun q=>bif Nat.beq q b then none else σ.ai q,σ.next⟩
def AH.bump (σ:AH O) (n:Nat):AH O:=⟨σ.ai,σ.next+n⟩
def AH.ld (σ:AH O) (b:jJ) (o:Nat):Option AV:=
 match b with
 |.n b=>match σ.ai b with
  |some (.cells _ _ cs)=>cs[o]?
  |_=>none
 |.f cs=>cs[o]?
def AH.st (σ:AH O) (b:jJ) (o:Nat) (vs:List AV):Option (AH O):=
 match b with
 |.n b=>match σ.ai b with
  |some (.cells true el cs)=>bif Nat.ble (o+vs.length) cs.length then some (σ.put b (.cells true el (cs.take o++vs++cs.drop (o+vs.length)))) else none
  |_=>none
 |.f _=>none
def AH.O8 (σ:AH O) (b:jJ) (o n:Nat):Option (List AV):=
 match b with
 |.n b=>match σ.ai b with
  |some (.cells _ _ cs)=>bif Nat.ble (o+n) cs.length then some ((cs.drop o).take n) else none
  |_=>none
 |.f cs=>bif Nat.ble (o+n) cs.length then some ((cs.drop o).take n) else none
def AH.bC (σ:AH O) (a:SA) (n es:Nat):Option (List AV):=
 match a with
 |.loc b o _=>σ.O8 b o (n*es)
 |.ar b o _=>σ.O8 b o (n*es)
 |_=>bif Nat.beq n 0 then some [] else none
def AH.VE (σ:AH O) (a:SA) (vs:List AV):Option (AH O):=
 match a with
 |.loc b o _=>σ.st b o vs
 |.ar b o _=>σ.st b o vs
 |_=>none
def AH.bP (σ:AH O) (nid el es:Nat) (a:SA) (n m:Nat) (new:List AV):Option (AV × AH O):=
 match a with
 |.loc (.n b) o _=>
  match σ.ai b with
  |some (.cells true el' cs)=>
   bif Nat.beq el' el && Nat.ble (o+n*es) cs.length then
    some (.sl (.loc (.n nid) 0 es) (n+m),(σ.kill b).put nid (.cells true el ((cs.drop o).take (n*es)++new)))
   else none
  |_=>none
 |.loc (.f _) _ _=>none
 |.ar _ _ _=>none
 |a=>bif Nat.beq n 0 then (bif Nat.beq m 0 then some (.sl a 0,σ) else some (.sl (.loc (.n nid) 0 es) m,σ.put nid (.cells true el new))) else none
end heap
def SA.ref:SA → Option (jJ × Nat) |.loc b o _=>some (b,o) |_=>none
def SA.DD (a:SA) (l es:Nat):Option SA:=
 match a with
 |.loc b o N8=>bif Nat.beq N8 es then some (.loc b (o+l*es) es) else none
 |.ar _ _ _=>none
 |a=>some a
noncomputable def chk (p:Prop):Option Unit:=open Classical in if p then some () else none
def Gr (E:AV → AV → Bool):jJ → jJ → Bool
 |.n a,.n b=>Nat.beq a b
 |.f xs,.f ys=>VF E xs ys
 |_,_=>false
where VF (E:AV → AV → Bool):List AV → List AV → Bool
 |[],[]=>true
 |x::xs,y::ys=>E x y && VF E xs ys
 |_,_=>false
def ahN (E:AV → AV → Bool):SA → SA → Bool
 |.nil,.nil=>true
 |.z,.z=>true
 |.loc b o e,.loc b' o' e'=>Gr E b b' && Nat.beq o o' && Nat.beq e e'
 |_,_=>false
def Qs:Nat → AV → AV → Bool
 |0,_,_=>false
 |d+1,x,y=>
  match x,y with
  |.u,.u=>true
  |.b x,.b y=>x == y
  |.i k n,.i k' m=>decide (k=k') && decide (n=m)
  |.s l,.s m=>decide (l=m)
  |.p none,.p none=>true
  |.p (some (b,o)),.p (some (b',o'))=>Gr (Qs d) b b' && Nat.beq o o'
  |.sl a n,.sl a' n'=>ahN (Qs d) a a' && Nat.beq n n'
  |.mp a,.mp b=>decide (a=b)
  |.fn none,.fn none=>true
  |.ifc t v,.ifc t' v'=>Nat.beq t t' && Qs d v v'
  |.DC,.DC=>true
  |.agg xs,.agg ys=>Gr.VF (Qs d) xs ys
  |.aS xs,.aS ys=>Gr.VF (Qs d) xs ys
  |_,_=>false
def aag:Option AV → Option AV → Bool
 |some x,some y=>Qs 8 x y
 |_,_=>false
def adj:Option (List AV) → Option (List AV) → Bool
 |some x,some y=>Gr.VF (Qs 8) x y
 |_,_=>false
theorem rH {E:AV → AV → Bool} (hE:∀ x y,E x y=true → x=y):∀ xs ys:List AV,Gr.VF E xs ys=true → xs=ys
 |[],[],_=>rfl
 |x::xs,y::ys,h=>by
  simp only [Gr.VF,Bool.and_eq_true] at h
  rw [hE _ _ h.1,rH hE xs ys h.2]
 |[],_::_,h=>by cases h
 |_::_,[],h=>by cases h
theorem Jz {E:AV → AV → Bool} (hE:∀ x y,E x y=true → x=y) (a b:jJ) (h:Gr E a b=true):a=b:=by
 unfold Gr at h
 split at h
 ·rw [Nat.eq_of_beq_eq_true h]
 ·rw [rH hE _ _ h]
 ·cases h
theorem VG {E:AV → AV → Bool} (hE:∀ x y,E x y=true → x=y) (a b:SA) (h:ahN E a b=true):a=b:=by
 unfold ahN at h
 split at h
 ·rfl
 ·rfl
 ·simp only [Bool.and_eq_true] at h
  rw [Jz hE _ _ h.1.1,Nat.eq_of_beq_eq_true h.1.2,Nat.eq_of_beq_eq_true h.2]
 ·cases h
theorem EX:∀ (d:Nat) (x y:AV),Qs d x y=true → x=y
 |0,_,_,h=>by cases h
 |d+1,x,y,h=>by
  have ih:=EX d
  unfold Qs at h
  split at h
  ·rfl
  ·rw [eq_of_beq h]
  ·simp only [Bool.and_eq_true,decide_eq_true_eq] at h;rw [h.1,h.2]
  ·rw [of_decide_eq_true h]
  ·rfl
  ·simp only [Bool.and_eq_true] at h;rw [Jz ih _ _ h.1,Nat.eq_of_beq_eq_true h.2]
  ·simp only [Bool.and_eq_true] at h;rw [VG ih _ _ h.1,Nat.eq_of_beq_eq_true h.2]
  ·rw [of_decide_eq_true h]
  ·rfl
  ·simp only [Bool.and_eq_true] at h;rw [Nat.eq_of_beq_eq_true h.1,ih _ _ h.2]
  ·rfl
  ·rw [rH ih _ _ h]
  ·rw [rH ih _ _ h]
  ·cases h
noncomputable def bc (x y:Option AV):Option Unit:=bif aag x y then some () else chk (x=y)
noncomputable def VH (x y:Option (List AV)):Option Unit:=bif adj x y then some () else chk (x=y)
theorem SO {p:Prop} {u:Unit} (h:chk p=some u):p:=by
 unfold chk at h;split at h
 ·assumption
 ·cases h
theorem Ye {x y:Option AV} {u:Unit} (h:bc x y=some u):x=y:=by
 unfold bc at h
 cases hb:aag x y with
 |true=>
  unfold aag at hb
  split at hb
  ·rw [EX _ _ _ hb]
  ·cases hb
 |false=>rw [hb] at h;exact SO h
theorem Yf {x y:Option (List AV)} {u:Unit} (h:VH x y=some u):x=y:=by
 unfold VH at h
 cases hb:adj x y with
 |true=>
  unfold adj at hb
  split at hb
  ·rw [rH (EX _) _ _ hb]
  ·cases hb
 |false=>rw [hb] at h;exact SO h
abbrev Sm (O:Type):=List AV → AH O → Option (AV × AH O)
abbrev Env:=Nat → AV
def Env.set (e:Env) (d:Nat) (v:AV):Env:=fun t=>bif Nat.beq t d then v else e t
def Env.put (e:Env) (d:Option Nat) (v:AV):Env:=match d with |some d=>e.set d v |none=>e
def Env.mask (ws:List Nat) (e:Env):Env:=fun t=>bif ws.elem t then .u else e t
inductive jK where
 |b |i (k:IntKind) |s |p |sl |f |mp |any
 deriving DecidableEq,Inhabited
def AV.aV:AV → Option Bool |.b x=>some x |_=>none
def AV.ag (k:IntKind):AV → Option Int |.i k' n=>if k'=k then some n else none |_=>none
def AV.dV:AV → Option (List UInt8) |.s l=>some l |_=>none
def AV.aT:AV → Option (Option (jJ × Nat)) |.p a=>some a |_=>none
def AV.lN:AV → Option (jJ × Nat) |.p a=>a |_=>none
def AV.aG:AV → Option (SA × Nat) |.sl a n=>some (a,n) |_=>none
def AV.Qt:AV → Option (Option (Fn × List AV × List AV)) |.fn a=>some a |_=>none
def AV.VI:AV → Option (Option Nat) |.mp a=>some a |_=>none
def AV.aZ:AV → Bool |.u=>false |.agg _=>false |.aS _=>false |_=>true
def nQ {R:Type} (l:jK) (v:AV) (K:AV → Option R):Option R:=
 match l with
 |.b=>(AV.aV v).bind fun x=>K (.b x)
 |.i k=>(AV.ag k v).bind fun n=>K (.i k n)
 |.s=>(AV.dV v).bind fun x=>K (.s x)
 |.p=>(AV.aT v).bind fun x=>K (.p x)
 |.sl=>(AV.aG v).bind fun x=>K (.sl x.1 x.2)
 |.f=>(AV.Qt v).bind fun x=>K (.fn x)
 |.mp=>(AV.VI v).bind fun x=>K (.mp x)
 |.any=>K v
inductive Ty where
 |one (l:jK)
 |agg (ls:List jK)
 |aS (ts:List (jK ⊕ List jK))
 deriving Inhabited
def wm (P:Program):Nat → TypeId → List jK
 |0,_=>[]
 |n+1,t=>
  match P.underlying t with
  |some .bool=>[.b]
  |some (.int k)=>[.i k]
  |some .string=>[.s]
  |some (.pointer _)=>[.p]
  |some (.slice _)=>[.sl]
  |some (.func _ _ _)=>[.f]
  |some (.map _ _)=>[.mp]
  |some (.struct fs)=>fs.toList.flatMap fun f=>wm P n f.type
  |some (.array m e)=>(List.replicate m (wm P n e)).flatten
  |_=>[.any]
def akz (P:Program) (t:TypeId):jK ⊕ List jK:=
 match P.underlying t with
 |some (.struct _) |some (.array _ _)=>.inr (wm P 12 t)
 |_=>.inl ((wm P 12 t).headD .any)
def Ag (P:Program) (t:TypeId):Ty:=
 match P.underlying t with
 |some (.tuple ts)=>.aS (ts.toList.map (akz P))
 |some (.struct _) |some (.array _ _)=>.agg (wm P 12 t)
 |_=>.one ((wm P 12 t).headD .any)
def fL {R:Type}:List jK → Nat → List AV → (List AV → Option R) → Option R
 |[],_,_,K=>K []
 |l::ls,i,vs,K=>nQ l (vs.getD i .u) fun v=>fL ls (i+1) vs fun r=>K (v::r)
def AV.asAgg (n:Nat):AV → Option (List AV) |.agg cs=>bif Nat.beq cs.length n then some cs else none |_=>none
def AV.aE (n:Nat):AV → Option (List AV) |.aS cs=>bif Nat.beq cs.length n then some cs else none |_=>none
def as1 {R:Type} (t:jK ⊕ List jK) (v:AV) (K:AV → Option R):Option R:=
 match t with
 |.inl l=>nQ l v K
 |.inr ls=>(AV.asAgg ls.length v).bind fun cs=>fL ls 0 cs fun vs=>K (.agg vs)
def Qu {R:Type}:List (jK ⊕ List jK) → Nat → List AV → (List AV → Option R) → Option R
 |[],_,_,K=>K []
 |t::ts,i,vs,K=>as1 t (vs.getD i .u) fun v=>Qu ts (i+1) vs fun r=>K (v::r)
def Oh {R:Type} (t:Ty) (v:AV) (K:AV → Option R):Option R:=
 match t with
 |.one l=>nQ l v K
 |.agg ls=>(AV.asAgg ls.length v).bind fun cs=>fL ls 0 cs fun vs=>K (.agg vs)
 |.aS ts=>(AV.aE ts.length v).bind fun cs=>Qu ts 0 cs fun vs=>K (.aS vs)
def EY:Value → AV
 |.bool x=>.b x
 |.int k n=>.i k n
 |.string s=>.s s.data.toList
 |.pointer none=>.p none
 |.slice none 0 0=>.sl .nil 0
 |.map none=>.mp none
 |.nilFunc=>.fn none
 |.nilIface=>.DC
 |_=>.u
def Bv:Value → AV
 |.agg cs=>bif (cs.toList.map EY).all AV.aZ then .agg (cs.toList.map EY) else .u
 |v=>EY v
def ev (e:Env):Operand → AV
 |.tmp t=>e t
 |.const v=>Bv v
 |.global _=>.u
 |.func f=>.fn (some (.func f,[],[]))
def AV.cells:AV → List AV
 |.agg cs=>cs
 |v=>[v]
def zeroOf (P:Program) (t:TypeId):Option (List AV):=
 match P.info? t with
 |some i=>match i.zero with
  |some v=>bif (Bv v).cells.all AV.aZ && Nat.beq (Bv v).cells.length i.size then some (Bv v).cells else none
  |none=>none
 |none=>none
def Lt (P:Program) (t:TypeId):Nat:=match P.info? t with |some i=>i.size |none=>0
def Ep (P:Program) (el:TypeId):Bool:=
 match P.underlying el with
 |some (.struct fs)=>match fs.toList with
  |[f,g]=>(match P.underlying f.type with |some (.pointer q)=>Nat.beq q el |_=>false) && (match P.underlying g.type with |some (.slice _)=>true |_=>false)
  |_=>false
 |_=>false
def gV {R:Type} (P:Program) (t:TypeId) (F:Nat → Option R):Option R:=match P.info? t with |some i=>F i.size |none=>none
def bytesOf (P:Program) (t:TypeId):Nat:=match P.info? t with |some i=>i.bytes |none=>0
def bE (op:BinOp) (k:IntKind) (x y:Int):Int:=
 let a:=BitVec.ofInt k.bits x
 let c:=BitVec.ofInt k.bits y
 match op with
 |.and=>k.wrap (a &&& c).toNat
 |.or=>k.wrap (a ||| c).toNat
 |.xor=>k.wrap (a ^^^ c).toNat
 |_=>k.wrap (a &&& ~~~c).toNat
def O9 {R:Type} (op:BinOp) (k:IntKind) (x y:Int) (K:AV → Option R):Option R:=
 match op with
 |.add=>K (.i k (k.wrap (x+y)))
 |.sub=>K (.i k (k.wrap (x - y)))
 |.mul=>K (.i k (k.wrap (x*y)))
 |.quo=>bif y == 0 then none else K (.i k (k.wrap (x.tdiv y)))
 |.rem=>bif y == 0 then none else K (.i k (x.tmod y))
 |.and=>K (.i k (bE .and k x y))
 |.or=>K (.i k (bE .or k x y))
 |.xor=>K (.i k (bE .xor k x y))
 |.andNot=>K (.i k (bE .andNot k x y))
 |.eql=>K (.b (x == y))
 |.neq=>K (.b (x != y))
 |.lss=>K (.b (decide (x<y)))
 |.leq=>K (.b (decide (x ≤ y)))
 |.gtr=>K (.b (decide (x > y)))
 |.geq=>K (.b (decide (x ≥ y)))
 |_=>none
def Pa {R:Type} (op:BinOp) (x y:List UInt8) (K:AV → Option R):Option R:=
 match op with
 |.eql=>K (.b (x == y))
 |.neq=>K (.b !(x == y))
 |.lss=>K (.b (Op.bytesLess x y))
 |.leq=>K (.b (Op.bytesLess x y || x == y))
 |.gtr=>K (.b !(Op.bytesLess x y || x == y))
 |.geq=>K (.b !(Op.bytesLess x y))
 |.add=>bif Nat.ble (x.length+y.length) 9223372036854775807 then K (.s (x++y)) else none
 |_=>none
def SA.isNil:SA → Bool |.nil=>true |_=>false
def Bx {R:Type} (op:BinOp) (x:Bool) (K:AV → Option R):Option R:=match op with |.eql=>K (.b x) |.neq=>K (.b !x) |_=>none
def Yg {R:Type} (d:Option TypeDesc) (op:BinOp) (x y:AV) (K:AV → Option R):Option R:=
 match x,y with
 |.i k a,.i k' c=>
  match op with
  |.shl=>bif decide (c<0) then none else K (.i k (k.wrap (a*2 ^ min c.toNat k.bits)))
  |.shr=>bif decide (c<0) then none else K (.i k (a.fdiv (2 ^ min c.toNat k.bits)))
  |op=>if k=k' then O9 op k a c K else none
 |.s a,.s c=>Pa op a c K
 |.b a,.b c=>match d with |some .bool=>Bx op (a == c) K |_=>none
 |.p a,.p c=>match d with |some (.pointer _)=>bif c.isNone then Bx op a.isNone K else bif a.isNone then Bx op c.isNone K else none |_=>none
 |.sl a _,.sl c _=>match d with |some (.slice _)=>bif c.isNil then Bx op a.isNil K else bif a.isNil then Bx op c.isNil K else none |_=>none
 |.fn a,.fn c=>match d with |some (.func _ _ _)=>bif c.isNone then Bx op a.isNone K else bif a.isNone then Bx op c.isNone K else none |_=>none
 |.mp a,.mp c=>match d with |some (.map _ _)=>bif c.isNone then Bx op a.isNone K else bif a.isNone then Bx op c.isNone K else none |_=>none
 |_,_=>none
def unK {R:Type} (op:UnOp) (x:AV) (K:AV → Option R):Option R:=
 match op,x with
 |.neg,.i k n=>K (.i k (k.wrap (0 - n)))
 |.xor,.i k n=>K (.i k (bE .xor k (if k.signed then -1 else k.max) n))
 |.not,.b c=>K (.b !c)
 |_,_=>none
def Er (place:Nat → Option (Nat × Nat)) (cells:List AV):List (Nat × AV) → Option (List AV)
 |[]=>some cells
 |(i,v)::rest=>
  match place i with
  |none=>none
  |some (off,size)=>
   bif Nat.beq v.cells.length size && Nat.ble (off+size) cells.length && v.cells.all AV.aZ then Er place (cells.take off++v.cells++cells.drop (off+size)) rest else none
section ops
variable {O R:Type} (P:Program)
def zD (σ:AH O) (b:jJ):List jK → Nat → (List AV → Option R) → Option R
 |[],_,K=>K []
 |l::ls,o,K=>(σ.ld b o).bind fun v=>nQ l v fun v'=>bif v'.aZ then zD σ b ls (o+1) fun r=>K (v'::r) else none
def Yh (t:TypeId):Bool:=
 match P.info? t,P.underlying t with
 |some i,some _=>match Ag P t with
  |.agg ls=>Nat.beq ls.length i.size
  |.one _=>true
  |.aS _=>false
 |_,_=>false
def loadT (σ:AH O) (b:jJ) (o:Nat) (t:Ty) (K:AV → Option R):Option R:=
 match t with
 |.one l=>(σ.ld b o).bind fun v=>nQ l v fun v'=>bif v'.aZ then K v' else none
 |.agg ls=>zD σ b ls o fun vs=>K (.agg vs)
 |.aS _=>none
def dO:List AV → Option (List UInt8)
 |[]=>some []
 |.i .u8 n::r=>(dO r).map fun l=>UInt8.ofNat n.toNat::l
 |_::_=>none
def Bz (t:TypeId) (cs:List AV) (off:Nat) (K:AV → Option R):Option R:=
 match P.info? t,P.underlying t with
 |some i,some _=>match Ag P t with
  |.agg _=>K (.agg ((cs.drop off).take i.size))
  |.one l=>(cs[off]?).bind fun v=>nQ l v K
  |.aS _=>none
 |_,_=>none
def aah (E:TypeId → AV → AV → Option Bool) (xs ys:List AV):List Field → Option Bool
 |[]=>some true
 |f::fs=>
  if f.name = "_" then aah E xs ys fs
  else (Bz P f.type xs f.offset some).bind fun a=>(Bz P f.type ys f.offset some).bind fun b=>(E f.type a b).bind fun r=>(aah E xs ys fs).bind fun q=>some (r && q)
def adk (E:TypeId → AV → AV → Option Bool) (e:TypeId) (xs ys:List AV):List Nat → Option Bool
 |[]=>some true
 |i::is=>(Bz P e xs (i*P.cellsOf e) some).bind fun a=>(Bz P e ys (i*P.cellsOf e) some).bind fun b=>(E e a b).bind fun r=>(adk E e xs ys is).bind fun q=>some (r && q)
def eqT:Nat → TypeId → AV → AV → Option Bool
 |0,_,_,_=>none
 |d+1,t,x,y=>
  match P.underlying t with
  |some .bool=>(AV.aV x).bind fun a=>(AV.aV y).bind fun b=>some (a == b)
  |some (.int k)=>(AV.ag k x).bind fun a=>(AV.ag k y).bind fun b=>some (a == b)
  |some .string=>(AV.dV x).bind fun a=>(AV.dV y).bind fun b=>some (a == b)
  |some (.struct fs)=>bif P.stoodInHeld t then none else
    match x,y with
    |.agg xs,.agg ys=>aah P (eqT d) xs ys fs.toList
    |_,_=>none
  |some (.array n el)=>
    match x,y with
    |.agg xs,.agg ys=>match P.info? el with |some _=>adk P (eqT d) el xs ys (List.range n) |none=>none
    |_,_=>none
  |_=>none
def Gs:Fn → Bool |.yield _=>false |_=>true
def bG (op:Op) (ty:TypeId) (e:Env) (K:AV → Option R):Option R:=
 match op with
 |.move x |.assign x=>K (ev e x)
 |.pick c a b=>
  match ev e c with
  |.b t=>match ev e a,ev e b with
   |.b x,.b y=>K (.b (bif t then x else y))
   |va,vb=>bif t then K va else K vb
  |_=>none
 |.build t parts=>
  match zeroOf P t with
  |none=>none
  |some z=>match P.underlying t with
   |some (.struct fs)=>
    match fs.toList.mapM (fun f=>(P.info? f.type).map fun i=>(f.offset,i.size)) with
    |some places=>
     match Er (fun i=>places[i]?) z (parts.toList.map fun x=>(x.1,ev e x.2)) with
     |some cs=>K (.agg cs)
     |none=>none
    |none=>none
   |some (.array _ el)=>
    match P.info? el with
    |some ie=>
     match Er (fun i=>some (i*ie.size,ie.size)) z (parts.toList.map fun x=>(x.1,ev e x.2)) with
     |some cs=>K (.agg cs)
     |none=>none
    |none=>none
   |_=>none
 |.nilCheck x=>
  match ev e x with
  |.p a=>a.bind fun ad=>K (.p (some ad))
  |.fn a=>a.bind fun x=>match x with |(.func f,fi,ca)=>K (.fn (some (.func f,fi,ca))) |_=>none
  |_=>none
 |.binOp op t x y _=>
  match ev e x,ev e y with
  |.agg xs,.agg ys=>bif P.eqGuardType P.depth t then none else (eqT P 8 t (.agg xs) (.agg ys)).bind fun q=>Bx op q K
  |vx,vy=>Yg (P.underlying t) op vx vy K
 |.unOp op _ x=>unK op (ev e x) K
 |.convert src dst x=>
  match ev e x with
  |.i _ n=>match P.underlying src,P.underlying dst with
   |some _,some (.int k)=>K (.i k (k.wrap n))
   |_,_=>none
  |.s l=>match P.underlying src,P.underlying dst with
   |some _,some .string=>K (.s l)
   |_,_=>none
  |_=>none
 |.makeFunc fn first captured=>bif Gs fn then K (.fn (some (fn,first.toList.map (ev e),captured.toList.map (ev e)))) else none
 |.slice t x lo hi mx=>
  match mx,ev e x with
  |none,.sl a n=>
   match P.underlying t with
   |some (.slice el)=>
    match (match lo with |some o=>ev e o |none=>.i .i64 0),(match hi with |some o=>ev e o |none=>.i .i64 n) with
    |.i _ l,.i _ h=>
     bif decide (0 ≤ l) && decide (l ≤ h) && decide (h ≤ (n:Int)) then
      gV P el fun es=>(a.DD l.toNat es).bind fun a'=>K (.sl a' (h.toNat - l.toNat))
     else none
    |_,_=>none
   |_=>none
  |none,.s s=>
   match P.underlying t with
   |some .string=>
    match (match lo with |some o=>ev e o |none=>.i .i64 0),(match hi with |some o=>ev e o |none=>.i .i64 s.length) with
    |.i _ l,.i _ h=>
     bif decide (0 ≤ l) && decide (l ≤ h) && decide (h ≤ (s.length:Int)) then K (.s ((s.drop l.toNat).take (h.toNat - l.toNat))) else none
    |_,_=>none
   |_=>none
  |none,.p q=>
   match P.underlying t with
   |some (.array len el)=>
    match (match lo with |some o=>ev e o |none=>.i .i64 0),(match hi with |some o=>ev e o |none=>.i .i64 len) with
    |.i _ l,.i _ h=>
     bif decide (0 ≤ l) && decide (l<h) && decide (h ≤ (len:Int)) && Nat.ble len 1000000 then
      gV P el fun es=>q.bind fun ad=>K (.sl (.ar ad.1 (ad.2+l.toNat*es) es) (h.toNat - l.toNat))
     else none
    |_,_=>none
   |_=>none
  |some m,.sl a _=>
   match P.underlying t with
   |some (.slice el)=>
    match (match lo with |some o=>ev e o |none=>.i .i64 0),(match hi with |some o=>ev e o |none=>.u),ev e m with
    |.i _ l,.i _ h,.i _ c=>bif decide (l=0) && decide (h=0) && decide (c=0) then gV P el fun _=>K (.sl (match a with |.nil=>.nil |_=>.z) 0) else none
    |_,_,_=>none
   |_=>none
  |_,_=>none
 |.fieldAddr s x f=>
  match P.underlying s with
  |some (.struct fs)=>match fs[f]? with
   |some fd=>gV P fd.type fun es=>bif Nat.beq es 0 then none else (AV.lN (ev e x)).bind fun q=>K (.p (some (q.1,q.2+fd.offset)))
   |none=>none
  |_=>none
 |.field t x f=>
  match ev e x,P.underlying t with
  |.agg cs,some (.struct fs)=>match fs[f]? with
   |some fd=>Bz P fd.type cs fd.offset K
   |none=>none
  |_,_=>none
 |.indexAddr t x ix=>
  match ev e ix with
  |.i _ i=>
   match P.underlying t with
   |some (.array len el)=>bif decide (0 ≤ i) && decide (i<(len:Int)) then gV P el fun es=>(AV.lN (ev e x)).bind fun q=>K (.p (some (q.1,q.2+i.toNat*es))) else none
   |some (.slice el)=>
    match ev e x with
    |.sl a n=>bif decide (0 ≤ i) && decide (i<(n:Int)) then gV P el fun es=>a.ref.bind fun q=>K (.p (some (q.1,q.2+i.toNat*es))) else none
    |_=>none
   |_=>none
  |_=>none
 |.index t x ix=>
  match ev e ix with
  |.i _ i=>match P.underlying t,ev e x with
   |some (.array len el),.agg cs=>
    bif decide (0 ≤ i) && decide (i<(len:Int)) then
     gV P el fun es=>Bz P el cs (i.toNat*es) K
    else none
   |some .string,.s s=>bif decide (0 ≤ i) then (s[i.toNat]?).bind fun c=>K (.i .u8 c.toNat) else none
   |_,_=>none
  |_=>none
 |.extract x n=>
  match ev e x with
  |.aS vs=>(vs[n]?).bind fun v=>Oh (Ag P ty) v K
  |_=>none
 |.call c=>
  match c.callee with
  |.builtin .len=>
   match c.args.toList.map (ev e),c.argTypes.toList with
   |[.s l],[t]=>match P.underlying t with
    |some .string=>K (.i .i64 l.length)
    |_=>none
   |[.sl _ n],[t]=>match P.underlying t with
    |some (.slice _)=>K (.i .i64 n)
    |_=>none
   |_,_=>none
  |.builtin .min=>
   match c.args.toList.map (ev e) with
   |[.i k x,.i k' y]=>if k=k' then K (.i k (if y<x then y else x)) else none
   |[.i k x,.i k' y,.i k'' z]=>if k=k' ∧ k=k'' then K (.i k (if z<(if y<x then y else x) then z else (if y<x then y else x))) else none
   |_=>none
  |.builtin .max=>
   match c.args.toList.map (ev e) with
   |[.i k x,.i k' y]=>if k=k' then K (.i k (if y > x then y else x)) else none
   |[.i k x,.i k' y,.i k'' z]=>if k=k' ∧ k=k'' then K (.i k (if z > (if y > x then y else x) then z else (if y > x then y else x))) else none
   |_=>none
  |_=>none
 |_=>none
def aM (op:Op):Bool:=
 match op with
 |.alloc _ |.box .. | .buildSlice .. | .makeSlice .. | .makeMap .. | .range .. => true
 |.call {callee:=.builtin .append,..}=>true
 |_=>false
def Gt (G:List (Nat × Sm O)) (f:Nat):Sm O:=
 match G with
 |[]=>fun _ _=>none
 |(g,s)::r=>bif Nat.beq g f then s else Gt r f
abbrev wo:Nat:=1000000
abbrev Kl:Nat:=2000000
def JA (G:List (Nat × Sm O)) (x:Option (Fn × List AV × List AV)) (xs:List AV) (σ:AH O):Option (AV × AH O):=
 match x with
 |some (.func g,first,captured)=>bif Nat.ble wo g then none else Gt G g (first++xs++captured) σ
 |some (.yield b,_,_)=>Gt G wo (.p (some (.n b,0))::xs) σ
 |_=>none
def VJ (G:List (Nat × Sm O)) (x:Option (Fn × List AV × List AV)) (site:Nat) (env:List (Nat × AV)) (σ:AH O):Option (AV × AH O):=
 match x with
 |some (.func c,fi,ca)=>Gt G (c+Kl) (fi++[.fn (some (.yield σ.next,[],[]))]++ca) ((σ.bump 1).put σ.next (.loop site env .ready))
 |_=>none
def aai (σ:AH O) (es:Nat) (z:List AV) (d:TypeDesc) (v:AV) (K:Nat → List AV → Option R):Option R:=
 match d,v with
 |.slice _,.sl a m=>(σ.bC a m es).bind fun new=>K m new
 |.string,.s l=>bif Nat.beq es 1 then K l.length (l.map fun c=>.i .u8 c.toNat) else none
 |.int _,.i _ n=>bif decide (0 ≤ n) then K n.toNat ((List.replicate n.toNat z).flatten) else none
 |_,_=>none
def Lu (k:IntKind) (n:Int):List (AV × AV) → Option (Option (Nat × AV))
 |[]=>some none
 |(.i k' m,v)::r=>if k=k' then (bif n == m then some (some (0,v)) else (Lu k n r).map fun q=>q.map fun x=>(x.1+1,x.2)) else none
 |_=>none
def akD (r:Option (Nat × AV)) (z:AV):AV:=match r with |some (_,v)=>v |none=>z
def adl (r:Option (Nat × AV)) (es:List (AV × AV)) (k v:AV):List (AV × AV):=match r with |some (i,_)=>es.set i (k,v) |none=>es++[(k,v)]
def adm (r:Option (Nat × AV)) (es:List (AV × AV)):List (AV × AV):=match r with |some (i,_)=>es.eraseIdx i |none=>es
def zeroV (P:Program) (t:TypeId):Option AV:=match P.info? t with |some i=>i.zero.map Bv |none=>none
def Lv {O:Type} (σ:AH O):AV → Option (List (AV × AV))
 |.mp none=>some []
 |.mp (some b)=>match σ.ai b with
  |some (.map es _ _)=>some es
  |_=>none
 |_=>none
def iE {O:Type} (σ:AH O) (b:Nat):List Nat × Nat:=match σ.ai b with |some (.map _ st c)=>(st,c) |_=>([],0)
def aaj {O:Type} (σ:AH O) (b:Nat) (r:Option (Nat × AV)) (es:List (AV × AV)) (k v:AV):oM O:=
 match r with
 |some _=>.map (adl r es k v) (iE σ b).1 (iE σ b).2
 |none=>.map (adl r es k v) ((iE σ b).1++[(iE σ b).2]) ((iE σ b).2+1)
def aak {O:Type} (σ:AH O) (b:Nat) (r:Option (Nat × AV)) (es:List (AV × AV)):oM O:=
 match r with
 |some (i,_)=>.map (adm r es) ((iE σ b).1.eraseIdx i) (iE σ b).2
 |none=>.map (adm r es) (iE σ b).1 (iE σ b).2
def ahO {O:Type} (σ:AH O) (v:AV):Option (AV × AV):=
 match v with
 |.p (some (.n b,0))=>match σ.ai b with
  |some (.iter m idx st c)=>match σ.ai m with
   |some (.map es Z0 c')=>bif (Z0 == st) && Nat.beq c' c then (idx.getLast?).bind fun i=>es[i]? else none
   |_=>none
  |_=>none
 |_=>none
def VK {O:Type} (σ:AH O) (v:AV):Option (Nat × List Nat × Nat):=
 match v with
 |.mp (some m)=>match σ.ai m with
  |some (.map _ st c)=>some (m,st,c)
  |_=>none
 |_=>none
def ahP {O:Type} (σ:AH O) (v:AV):Option (Nat × Nat × List Nat × Nat):=
 match v with
 |.p (some (.n b,0))=>match σ.ai b with
  |some (.iter m [] st c)=>some (b,m,st,c)
  |_=>none
 |_=>none
def VL {O:Type} (σ:AH O) (b m:Nat) (idx st:List Nat) (c:Nat):Option Unit:=
 match σ.ai b with
 |some (.iter m' akE Z0 c')=>match σ.ai m with
  |some (.map _ akF c'')=>bif Nat.beq m' m && (akE == idx) && (Z0 == st) && Nat.beq c' c && (akF == st) && Nat.beq c'' c then some () else none
  |_=>none
 |_=>none
def Lw (P:Program) (kt:TypeId) (v:AV):Option (IntKind × Int):=match P.underlying kt,v with |some (.int k),.i k' n=>if k=k' then some (k,n) else none |_,_=>none
def fe (G:List (Nat × Sm O)) (op:Op) (ty:TypeId) (e:Env) (σ:AH O) (nid:Nat) (K:AV → AH O → Option R):Option R:=
 match op with
 |.alloc t=>
  match zeroOf P t with
  |some cs=>K (.p (some (.n nid,0))) (σ.put nid (.cells true t cs))
  |none=>none
 |.box t x=>bif (ev e x).cells.all AV.aZ then K (.p (some (.n nid,0))) (σ.put nid (.cells true t (ev e x).cells)) else none
 |.buildSlice t n parts=>
  match P.underlying t with
  |some (.slice el)=>
    match zeroOf P el with
    |some z=>
     bif Nat.ble (n*z.length) 16777216 && Nat.ble n 16777216 then
     match Er (fun i=>some (i*z.length,z.length)) ((List.replicate n z).flatten) (parts.toList.map fun x=>(x.1,ev e x.2)) with
     |some cs=>K (.sl (.loc (.n nid) 0 z.length) n) (σ.put nid (.cells true el cs))
     |none=>none
     else none
    |none=>none
  |_=>none
 |.makeSlice t l c=>
  match P.underlying t,ev e l,ev e c with
  |some (.slice el),.i _ n,.i _ m=>
   bif !Ep P el && (decide (0 ≤ n) && decide (n ≤ m) && decide (m*bytesOf P el ≤ 140737488355328) && decide (m ≤ 140737488355328)) then
    match zeroOf P el with
    |some z=>K (.sl (.loc (.n nid) 0 z.length) n.toNat) (σ.put nid (.cells true el ((List.replicate n.toNat z).flatten)))
    |none=>none
   else none
  |_,_,_=>none
 |.load t a=>
  (AV.lN (ev e a)).bind fun q=>bif Yh P t then loadT σ q.1 q.2 (Ag P t) fun v=>K v σ else none
 |.store t a x=>
  (AV.lN (ev e a)).bind fun q=>gV P t fun es=>bif Nat.beq (ev e x).cells.length es && (ev e x).cells.all AV.aZ then (σ.st q.1 q.2 (ev e x).cells).bind fun aj=>K .u aj else none
 |.convert src dst x=>
  match ev e x with
  |.sl a n=>match P.underlying src,P.underlying dst with
   |some (.slice el),some .string=>match P.underlying el with
    |some (.int .u8)=>(σ.bC a n 1).bind fun cs=>(dO cs).bind fun l=>K (.s l) σ
    |_=>none
   |_,_=>none
  |.s l=>match P.underlying src,P.underlying dst with
   |some _,some (.slice el)=>match P.underlying el with
    |some (.int .u8)=>bif Nat.ble (l.length*2) 35184372088832 then K (.sl (.loc (.f (l.map fun c=>.i .u8 c.toNat)) 0 1) l.length) σ else none
    |_=>none
   |_,_=>bG P op ty e fun v=>K v σ
  |_=>bG P op ty e fun v=>K v σ
 |.makeMap t r=>
  match P.underlying t with
  |some (.map _ _)=>bif (match r with |none=>true |some x=>match ev e x with |.i _ _=>true |_=>false) then K (.mp (some nid)) (σ.put nid (.map [] [] 0)) else none
  |_=>none
 |.lookup t x ix ok=>
  match P.underlying t with
  |some (.map kt et)=>
   (
    Lw P kt (ev e ix)).bind fun q=>(Lv σ (ev e x)).bind fun es=>(Lu q.1 q.2 es).bind fun r=>(zeroV P et).bind fun z=>
    Oh (Ag P et) (akD r z) fun v=>K (bif ok then .aS [v,.b r.isSome] else v) σ
  |_=>none
 |.mapUpdate t m x y=>
  match P.underlying t with
  |some (.map kt _)=>
   (
    Lw P kt (ev e x)).bind fun q=>(AV.VI (ev e m)).bind fun mo=>mo.bind fun b=>(Lv σ (.mp (some b))).bind fun es=>(Lu q.1 q.2 es).bind fun r=>
    K .u (σ.put b (aaj σ b r es (.i q.1 q.2) (ev e y)))
  |_=>none
 |.range t x=>
  match P.underlying t with
  |some (.map _ _)=>(VK σ (ev e x)).bind fun q=>K (.p (some (.n nid,0))) (σ.put nid (.iter q.1 [] q.2.1 q.2.2))
  |_=>none
 |.entry x=>(ahO σ (ev e x)).bind fun q=>K (.aS [q.1,q.2]) σ
 |.call c=>
  match c.callee with
  |.value f=>
   match ev e f with
   |.fn x=>(JA G x (c.args.toList.map (ev e)) σ).bind fun r=>Oh (Ag P ty) r.1 fun v=>K v r.2
   |_=>none
  |.builtin .append=>
   match c.args.toList.map (ev e),c.argTypes.toList with
   |[.sl a n,v],[t,t']=>
    match P.underlying t,P.underlying t' with
    |some (.slice el),some d'=>
     match zeroOf P el with
     |none=>none
     |some z=>
     gV P el fun es=>
     bif Nat.beq z.length es then
      aai σ es z d' v fun m new=>bif !Ep P el && Nat.ble ((n+m)*(bytesOf P el+1)) 35184372088832 then (σ.bP nid el es a n m new).bind fun r=>nQ .sl r.1 fun v=>K v r.2 else none
     else none
    |_,_=>none
   |_,_=>none
  |.builtin .copy=>
   match c.args.toList.map (ev e),c.argTypes.toList with
   |[.sl a n,.sl a' m],[t,_]=>
    match P.underlying t with
    |some (.slice el)=>
     gV P el fun es=>
     bif Nat.beq (min m n) 0 then K (.i .i64 0) σ else
      (σ.bC a' (min m n) es).bind fun cs=>(σ.VE a cs).bind fun aj=>K (.i .i64 (min m n:Nat)) aj
    |_=>none
   |_,_=>none
  |.builtin .clear=>
   match c.args.toList.map (ev e),c.argTypes.toList with
   |[.sl a n],[t]=>
    match P.underlying t with
    |some (.slice el)=>
     bif Nat.beq n 0 then K (.aS []) σ else
      match zeroOf P el with
      |some z=>(σ.VE a ((List.replicate n z).flatten)).bind fun aj=>K (.aS []) aj
      |none=>none
    |_=>none
   |_,_=>none
  |.builtin .delete=>
   match c.args.toList.map (ev e),c.argTypes.toList with
   |[m,x],[t,_]=>
    match P.underlying t with
    |some (.map kt _)=>
     (
      Lw P kt x).bind fun q=>(AV.VI m).bind fun mo=>mo.bind fun b=>(Lv σ (.mp (some b))).bind fun es=>(Lu q.1 q.2 es).bind fun r=>
      K (.aS []) (σ.put b (aak σ b r es))
    |_=>none
   |_,_=>none
  |_=>bG P op ty e fun v=>K v σ
 |op=>bG P op ty e fun v=>K v σ
end ops
def turns (op:Op):Bool:=
 match op with
 |.store .. => true
 |.makeMap .. => true
 |.lookup .. => true
 |.mapUpdate .. => true
 |.range .. => true
 |.entry .. => true
 |.call c=>match c.callee with
  |.builtin .len=>false
  |.builtin .min=>false
  |.builtin .max=>false
  |_=>true
 |_=>false
def de (op:Op):Bool:=match op with |.load .. => true |.convert .. => true |_=>false
def Gu (ops:List Oper):List Nat:=
 ops.foldl (fun acc o=>acc++[o.after.toList.foldl (fun s e=>bif Region.binds .any e then Nat.lor (Nat.lor s (2 ^ e.on)) (acc.getD e.on 0) else s) 0]) []
def bit (m i:Nat):Bool:=Nat.beq ((m / 2 ^ i) % 2) 1
def looks (ops:List Oper) (o:Oper):List Nat:=
 (
  o.op.operands.toList.filterMap fun x=>match x with |.tmp t=>some t |_=>none)++
  (match o.guard with |some (j,_)=>(match ops[j]? with |some oj=>oj.dst.toList |none=>[]) |none=>[])
def Qv (ops:List Oper) (x y:Oper):Bool:=
 (match x.dst with |some d=>(looks ops y).elem d || (match y.dst with |some d'=>Nat.beq d d' | none=>false) |none=>false) ||
 (match y.dst with |some d=>(looks ops x).elem d |none=>false)
def Qw (ops:List Oper) (kE:List Nat) (i i':Nat):Bool:=
 match ops[i]?,ops[i']? with
 |some o,some o'=>
  !Nat.beq i i' && !bit (kE.getD i 0) i' &&
  (bit (kE.getD i' 0) i || (!Qv ops o o' && !(turns o.op && (turns o'.op || de o'.op)) && !(aM o.op && !turns o.op && turns o'.op)))
 |_,_=>false
def W9 (ops:List Oper) (kE:List Nat):List Nat → Bool
 |[]=>true
 |i::r=>r.all (Qw ops kE i) && W9 ops kE r
def agK (o:Oper):Bool:=match o.op with |.select .. => false |.defer _=>false |.recv .. => false |_=>true
def Lj (ops:List Oper):List Nat → List Nat → Bool
 |_,[]=>true
 |done,i::r=>(match ops[i]? with |some o=>o.after.toList.all (fun e => !Region.binds .any e || done.elem e.on) |none=>false) && Lj ops (i::done) r
def tL (ops:List Oper):List Nat → Nat → Nat
 |[],n=>n
 |q::r,n=>tL ops r (match ops[q]? with |some o=>bif aM o.op then n+1 else n |none=>n)
def fM (ops:List Oper):Nat:=(ops.filter fun o=>aM o.op).length
def Qx (ops:List Oper) (kE l:List Nat):Bool:=
 Nat.beq l.length ops.length && l.all (fun i=>Nat.blt i ops.length) && (List.range ops.length).all (fun i=>l.elem i) && W9 ops kE l && ops.all agK && Lj ops [] l && Nat.beq (tL ops l 0) (fM ops)
def yb (bf:List Nat):List Oper → Nat → Bool
 |[],k=>Nat.beq bf.length k
 |o::r,k=>Nat.beq (bf.getD k 0) (o.after.toList.foldl (fun s e=>bif Region.binds .any e then Nat.lor (Nat.lor s (2 ^ e.on)) ((bf.take k).getD e.on 0) else s) 0) && yb bf r (k+1)
structure LdC (O:Type) where
 p:AH O → Prop
 c:AH O → Option Unit
 h:∀ σ u,c σ=some u → p σ
structure RS (O:Type) where
 e:Env
 σ:AH O
 nid:Nat
 dec:List Nat
 de:List (Nat × LdC O)
section region
variable {O:Type} (P:Program) (G:List (Nat × Sm O)) (kE:List Nat) (dr:Bool)
def aal {R:Type} (j:Nat) (σ:AH O):List (Nat × LdC O) → Option R → Option R
 |[],K=>K
 |(i,p)::r,K=>bif bit (kE.getD j 0) i then aal j σ r K else (p.c σ).bind fun _=>aal j σ r K
noncomputable def Qy (i:Nat) (b:jJ) (o:Nat):List AV → List (Nat × LdC O)
 |[]=>[]
 |v::vs=>(i,⟨fun σ=>σ.ld b o=some v,fun σ=>bc (σ.ld b o) (some v),fun _ _ h=>Ye h⟩)::Qy i b (o+1) vs
noncomputable def Pb {R:Type} (i:Nat) (o:Oper) (s:RS O) (K:RS O → Option R):Option R:=
 fe P G o.op o.type s.e s.σ s.nid fun v aj=>
  let s':RS O:={s with e:=s.e.put o.dst v,σ:=aj,nid:=bif aM o.op then s.nid+1 else s.nid}
  bif dr then
   match o.op with
   |.load _ a=>(AV.lN (ev s.e a)).bind fun q=>K {s' with de:=s.de++Qy i q.1 q.2 v.cells}
   |.convert _ _ x=>match ev s.e x with
    |.sl a n=>K {s' with de:=s.de++[(i,⟨fun aP=>aP.bC a n 1=s.σ.bC a n 1,fun aP=>VH (aP.bC a n 1) (s.σ.bC a n 1),fun _ _ h=>Yf h⟩)]}
    |_=>K s'
   |op=>bif turns op then aal kE i aj s.de (K s') else K s'
  else K s'
end region
inductive Di where
 |z
 |n (l r:Di)
  |j (sum:Bool) (cf:List (Nat × Ty)) (l r:Di)
  |g (H8:List (Nat × Nat × List (Nat × Ty)))
  |d (H8:List (Nat × Nat × List (Nat × Ty))) (ord bf:List Nat)
  |lp (sum:Bool) (Yi:Nat) (head out:List (Nat × Ty)) (l:Di)
  |rf (site:Nat) (cf:List Nat) (outs:List Nat)
  |lm (head:List (Nat × Ty)) (l:Di)
  |x
 deriving Inhabited
def Di.off {R:Type} (an:Di) (k:Option R):Option R:=match an with |.x=>none |_=>k
theorem Di.SP {R:Type} {an:Di} {k:Option R} {r:R} (h:an.off k=some r):k=some r:=by
 cases an<;>first |exact h |cases h
def Di.l:Di → Di |.n l _=>l |.j _ _ l _=>l |_=>.z
def Di.r:Di → Di |.n _ r=>r |.j _ _ _ r=>r |_=>.z
def eI {R:Type}:List (Nat × Ty) → Nat → List AV → Env → (Env → Option R) → Option R
 |[],_,_,e,K=>K e
 |(t,ty)::rest,i,vs,e,K=>Oh ty (vs.getD i .u) fun v=>eI rest (i+1) vs (e.set t v) K
def ei (cf:List (Nat × Ty)) (e:Env):List AV:=cf.map fun s=>e s.1
def bK {S R:Type} (m:Option (S ⊕ R)) (f:S → Option R):Option R:=
 match m with
 |some (.inl s)=>f s
 |some (.inr r)=>some r
 |none=>none
section regions
variable {O:Type} (P:Program) (G:List (Nat × Sm O)) (kE:List Nat) (dr:Bool) (H8:List (Nat × Nat × List (Nat × Ty))) (ops:List Oper)
def kv (len:Nat) (j:Nat):List (Nat × Nat × List (Nat × Ty)) → Nat × List (Nat × Ty)
 |[]=>(len,[])
 |x::r=>bif Nat.beq x.1 j then x.2 else kv len j r
def H9 (l:List Nat):List Nat:=l.filterMap fun q=>match ops[q]? with |some o=>o.dst |none=>none
def Qz (l1 l2:List Nat):Bool:=
 l1.all fun q=>match ops[q]? with
  |some o => !de o.op || l2.all fun q'=>match ops[q']? with |some o' => !turns o'.op || bit (kE.getD q' 0) q |none=>false
  |none=>false
noncomputable def H':Nat → List Nat → {R:Type} → RS O → (RS O → Option R) → Option R
 |0,l,_,s,K=>match l with | []=>K s |_=>none
 |f+1,l,_,s,K=>
  match l with
  |[]=>K s
  |i::rest=>
   match ops[i]? with
   |none=>none
   |some o=>
    match o.guard with
    |none=>Pb P G kE dr i o s fun s'=>H' f rest s' K
    |some (j,want)=>
     match ops[j]? with
     |none=>none
     |some oj=>
      match oj.dst with
      |none=>none
      |some d=>
       match s.e d with
       |.b t=>
        bif s.dec.elem j then
         bif t == want then Pb P G kE dr i o s fun s'=>H' f rest s' K
         else H' f rest {s with e:=s.e.put o.dst (.aS []),nid:=bif aM o.op then s.nid+1 else s.nid} K
        else
         bif dr && !Qz kE ops (i::rest.take (kv rest.length j H8).1) (rest.drop (kv rest.length j H8).1) then none else
         (
          bif t == want then
          Pb P G kE dr i o {s with e:=s.e.set d (.b want),dec:=j::s.dec} fun s'=>
           H' f (rest.take (kv rest.length j H8).1) (R:=List AV × AH O) s' fun s=>some (ei (kv rest.length j H8).2 s.e,s.σ)
         else
          H' f (rest.take (kv rest.length j H8).1) (R:=List AV × AH O) {s with e:=(s.e.set d (.b !want)).put o.dst (.aS []),dec:=j::s.dec,nid:=bif aM o.op then s.nid+1 else s.nid} fun s=>some (ei (kv rest.length j H8).2 s.e,s.σ)).bind fun r=>
          eI (kv rest.length j H8).2 0 r.1 (Env.mask (H9 ops (i::rest.take (kv rest.length j H8).1)) s.e) fun e=>
           H' f (rest.drop (kv rest.length j H8).1) {s with e:=e,σ:=r.2,nid:=tL ops (i::rest.take (kv rest.length j H8).1) s.nid} K
       |.aS []=>H' f rest {s with e:=s.e.put o.dst (.aS []),nid:=bif aM o.op then s.nid+1 else s.nid} K
       |_=>none
def dstsOf (ops:List Oper):List Nat:=ops.filterMap (·.dst)
noncomputable def Gv (ord bf:List Nat) {R:Type} (e:Env) (σ:AH O) (K:Env → AH O → Option R):Option R:=
 let s:RS O:=⟨e,bif Nat.beq (fM ops) 0 then σ else σ.bump (fM ops),σ.next,[],[]⟩
 bif dr then
  bif yb bf ops 0 && Qx ops bf ord then H' P G bf true H8 ops ops.length ord s fun s=>K s.e s.σ else none
 else H' P G [] false H8 ops ops.length (List.range ops.length) s fun s=>K s.e s.σ
end regions
inductive X where
 |norm
 |exit (id:Nat)
 |ret
 deriving DecidableEq,Inhabited
def aF:Code → List Nat
 |.region _ ops _=>dstsOf ops.toList
 |.seq a b=>aF a++aF b
 |.cond _ a b=>aF a++aF b
 |.block _ c=>aF c
 |.loop c=>aF c
 |.scope c=>aF c
 |.rangeFunc _ ps a b=>ps.toList++(aF a++aF b)
 |_=>[]
def iF {S T:Type} (f:S → Option (S ⊕ T)):Nat → S → Option T
 |0,_=>none
 |n+1,s=>bK (f s) (iF f n)
open Classical in
noncomputable def aQ {S T:Type} (f:S → Option (S ⊕ T)) (s:S):Option T:=
 match iF f 65536 s with
 |some t=>some t
 |none=>if h:∃ n t,iF f n s=some t then some (Classical.choose (Classical.choose_spec h)) else none
def zE {S:Type} (f:Nat → List Nat → S → Option S):List Nat → List Nat → S → Option S
 |[],_,s=>some s
 |i::p,d,s=>(f i d s).bind fun s=>zE f p (d++[i]) s
open Classical in
noncomputable def Dj {S:Type} (f:Nat → List Nat → S → Option S) (n:Nat) (s:S):Option S:=
 bif Nat.ble n 1 then zE f (List.range n) [] s
 else if h:∃ t,∀ p:List Nat,p.Perm (List.range n) → zE f p [] s=some t then some (Classical.choose h) else none
def adn (ops:List Oper) (d:Bool) (mo:Operand) (ca cb:Code):Option (Nat × Nat × Nat × Nat):=
 match d,ops,mo,ca,cb with
 |false,[o1,o2],.tmp q,.skip,.exit out=>
  match o1.op,o1.dst,o1.guard,o2.op,o2.dst,o2.guard with
  |.next (.tmp it) false,some tn,none,.extract (.tmp tn') 0,some tm,none=>bif Nat.beq tn tn' && Nat.beq tm q && !Nat.beq tn tm then some (it,tn,tm,out) else none
  |_,_,_,_,_,_=>none
 |_,_,_,_,_=>none
def Xa {O R:Type} (an:Di) (ws:List Nat) (e:Env) (here:X → Bool) (body:{R:Type} → (X → Env → AH O → Option R) → Option R) (K:X → Env → AH O → Option R):Option R:=
 match an with
 |.j false cf _ _=>
  (body fun x e σ=>bif here x then some (ei cf e,σ) else none).bind fun r=>eI cf 0 r.1 (Env.mask ws e) fun e=>K .norm e r.2
 |.j true cf _ _=>
  bK (body fun x e σ=>bif here x then some (Sum.inl (ei cf e,σ)) else (K x e σ).map Sum.inr) fun r=>eI cf 0 r.1 (Env.mask ws e) fun e=>K .norm e r.2
 |_=>body fun x e σ=>bif here x then K .norm e σ else K x e σ
def X.ahQ:X → Bool |.norm=>true |_=>false
def X.agL (id:Nat):X → Bool |.norm=>true |.exit i=>Nat.beq i id |_=>false
def xOf (c:Nat):X:=if c=3 then .ret else .exit (c - 4)
def Xb {R:Type}:List Nat → Nat → (X → Option R) → Option R
 |[],_,_=>none
 |c::cs,s,K=>bif Nat.ble 3 c && Nat.beq s c then K (xOf c) else Xb cs s K
def ahR {O:Type} (σ:AH O) (b:Nat):Option Nat:=match σ.ai b with |some (.loop _ _ st)=>some st.code |_=>none
def Pc {O:Type} (σ:AH O) (b:Nat) (st:ZZ):Option (AH O):=match σ.ai b with |some (.loop s env _)=>some (σ.put b (.loop s env st)) |_=>none
def Xc {O:Type} (σ:AH O) (b:Nat):Option (AH O):=match σ.ai b with |some (.loop s env .ready)=>some (σ.put b (.loop s env .busy)) |_=>none
def Pd (l:List (Nat × AV)):Env:=fun t=>match l with | []=>.u |(q,v)::l=>bif Nat.beq t q then v else Pd l t
def jh:Code → List (Array Tmp × Code × Code)
 |.rangeFunc _ ps a b=>(ps,a,b)::(jh a++jh b)
 |.seq a b=>jh a++jh b
 |.cond _ a b=>jh a++jh b
 |.block _ c=>jh c
 |.loop c=>jh c
 |.scope c=>jh c
 |_=>[]
def pN (P:Program) (s:Nat):Option (Array Tmp × Code × Code):=(P.funcs[s / 1000]?).bind fun f=>f.body.bind fun c=>(jh c)[s % 1000]?
def plain:Code → Bool
 |.rangeFunc _ _ _ _=>false
 |.seq a b=>plain a && plain b
 |.cond _ a b=>plain a && plain b
 |.block _ c=>plain c
 |.loop c=>plain c
 |.scope c=>plain c
 |_=>true
noncomputable def exec {O:Type} (P:Program) (G:List (Nat × Sm O)):Code → Di → {R:Type} → Env → AH O → (X → Env → AH O → Option R) → Option R
 |.skip,_,_,e,σ,K=>K .norm e σ
 |.label _,_,_,e,σ,K=>K .norm e σ
 |.region _ ops d,an,_,e,σ,K=>Gv P G d (match an with |.g H8=>H8 |.d H8 _ _=>H8 |_=>[]) ops.toList (match an with |.d _ o _=>o |_=>[]) (match an with |.d _ _ b=>b |_=>[]) e σ fun e σ=>K .norm e σ
 |.seq a b,an,_,e,σ,K=>exec P G a an.l e σ fun x e σ=>
   match x with
   |.norm=>exec P G b an.r e σ K
   |x=>K x e σ
 |.cond c a b,an,_,e,σ,K=>
   match ev e c with
   |.b t=>Xa an (aF a++aF b) e X.ahQ (fun K=>bif t then an.l.off (exec P G a an.l e σ K) else an.r.off (exec P G b an.r e σ K)) K
   |_=>none
 |.block id c,an,_,e,σ,K=>Xa an (aF c) e (X.agL id) (fun K=>exec P G c an.l e σ K) K
 |.loop c,an,R,e,σ,K=>
   match an with
   |.lp false Yi head out l=>
    (aQ (S:=List AV × AH O) (T:=List AV × AH O) (fun r=>eI head 0 r.1 (Env.mask (aF c) e) fun e=>exec P G c l e r.2 fun x e σ=>
      match x with
      |.norm=>some (Sum.inl (ei head e,σ))
      |.exit id=>bif Nat.beq id Yi then some (Sum.inr (ei out e,σ)) else none
      |.ret=>none) (ei head e,σ)).bind fun r=>
     eI out 0 r.1 (Env.mask (aF c) e) fun e=>K (.exit Yi) e r.2
   |.lp true Yi head out l=>
    bK (aQ (S:=List AV × AH O) (T:=(List AV × AH O) ⊕ R) (fun r=>eI head 0 r.1 (Env.mask (aF c) e) fun e=>exec P G c l e r.2 fun x e σ=>
      match x with
      |.norm=>some (Sum.inl (ei head e,σ))
      |.exit id=>bif Nat.beq id Yi then some (Sum.inr (Sum.inl (ei out e,σ))) else (K (.exit id) e σ).map fun r=>Sum.inr (Sum.inr r)
      |.ret=>(K .ret e σ).map fun r=>Sum.inr (Sum.inr r)) (ei head e,σ)) fun r=>
     eI out 0 r.1 (Env.mask (aF c) e) fun e=>K (.exit Yi) e r.2
   |.lm head l=>
    match c with
    |.seq (.region SQ ops d) (.seq (.cond mo ca cb) body)=>
     match adn ops.toList d mo ca cb with
     |some (it,tn,tm,out)=>
      bif (aF (.seq (.region SQ ops d) (.seq (.cond mo ca cb) body))).elem it || head.any (fun s=>Nat.beq s.1 tn || Nat.beq s.1 tm) then none else
      (
       ahP σ (e it)).bind fun q=>(VL σ q.1 q.2.1 [] q.2.2.1 q.2.2.2).bind fun _=>
       (
        Dj (S:=List AV × AH O) (fun i dn (r:List AV × AH O)=>eI head 0 r.1 (Env.mask (aF (.seq (.region SQ ops d) (.seq (.cond mo ca cb) body))) e) fun e'=>
        exec P G body l ((e'.set tn .u).set tm (.b true)) (r.2.put q.1 (.iter q.2.1 (dn++[i]) q.2.2.1 q.2.2.2)) fun x e' aj=>
         match x with
         |.norm=>(VL aj q.1 q.2.1 (dn++[i]) q.2.2.1 q.2.2.2).bind fun _=>some (ei head e',aj.put q.1 (.iter q.2.1 [] q.2.2.1 q.2.2.2))
         |_=>none) q.2.2.1.length (ei head e,σ)).bind fun r=>
        eI head 0 r.1 (Env.mask (aF (.seq (.region SQ ops d) (.seq (.cond mo ca cb) body))) e) fun e'=>K (.exit out) e' (r.2.kill q.1)
     |none=>none
    |_=>none
   |_=>none
 |.exit id,_,_,e,σ,K=>K (.exit id) e σ
 |.ret,_,_,e,σ,K=>K .ret e σ
 |.scope c,an,_,e,σ,K=>exec P G c an.l e σ K
 |.rangeFunc g _ _ _,an,_,e,σ,K=>
  match an with
  |.rf site cf outs=>
   match ev e g with
   |.fn f=>
    (
     VJ G f site (cf.map fun t=>(t,e t)) σ).bind fun r=>
     (ahR r.2 σ.next).bind fun s=>bif Nat.beq s 0 then K .norm e (r.2.kill σ.next) else Xb outs s fun x=>K x e (r.2.kill σ.next)
   |_=>none
  |_=>none
 |_,_,_,_,_,_=>none
def VM {O:Type} (site n:Nat) (F:Env → List AV → Nat → AH O → Option (AV × AH O)):Sm O:=fun xs σ=>
 match xs with
 |.p (some (.n b,_))::ys=>
  match σ.ai b with
  |some (.loop s env .ready)=>bif Nat.beq s site && Nat.beq ys.length n then F (Pd env) ys b σ else none
  |_=>none
 |_=>none
noncomputable def VN {O:Type} (P:Program) (G:List (Nat × Sm O)) (site:Nat) (ps:List Nat) (Xd body:Code) (Z1 Yj:List (Nat × Ty)) (an:Di):Sm O:=VM site ps.length fun env ys b σ=>
 eI Z1 0 (Z1.map fun p=>env p.1) (fun _=>.u) fun e=>eI Yj 0 ys e fun e=>
  exec P G Xd an.l e σ fun x e σ=>
   match x with
   |.norm=>(Xc σ b).bind fun σ=>exec P G body an.r e σ fun x _ σ=>
     match x with
     |.norm=>(Pc σ b .ready).bind fun σ=>some (.b true,σ)
     |.ret=>(Pc σ b (.done none)).bind fun σ=>some (.b false,σ)
     |.exit id=>(Pc σ b (.done (some id))).bind fun σ=>some (.b false,σ)
   |_=>none
def distinct:List Nat → Bool
 |[]=>true
 |t::ts => !ts.elem t && distinct ts
noncomputable def QA {O:Type} (P:Program) (G:List (Nat × Sm O)) (f:Nat) (fn:Func) (i:Nat) (Z1 Yj:List (Nat × Ty)) (an:Di):Sm O:=
 match fn.body with
 |none=>fun _ _=>none
 |some c=>
  match (jh c)[i]? with
  |none=>fun _ _=>none
  |some x=>bif plain x.2.1 && plain x.2.2 && Nat.blt i 1000 && (Yj.map (·.1) == x.1.toList) && distinct (Z1.map (·.1)++Yj.map (·.1)) then
    VN P G (f*1000+i) x.1.toList x.2.1 x.2.2 Z1 Yj an else fun _ _=>none
def orR {O:Type} (a b:Sm O):Sm O:=fun xs σ=>match a xs σ with |some r=>some r |none=>b xs σ
def bH:Code → Di → List (Nat × (Array Tmp × Code × Code))
 |.seq a b,an=>bH a an.l++bH b an.r
 |.cond _ a b,an=>bH a an.l++bH b an.r
 |.block _ c,an=>bH c an.l
 |.loop c,an=>match an with |.lp _ _ _ _ l=>bH c l |.lm _ l=>bH c (.n .z (.n .z l)) |_=>[]
 |.scope c,an=>bH c an.l
 |.rangeFunc _ ps a b,an=>match an with |.rf site _ _=>[(site,(ps,a,b))] |_=>[]
 |_,_=>[]
def VO {O:Type} (P:Program) (e:Env) (σ:AH O):List ResultVar → (List AV → Option (AV × AH O)) → Option (AV × AH O)
 |[],K=>K []
 |.tmp t::rs,K=>VO P e σ rs fun vs=>K (e t::vs)
 |.cell a ty::rs,K=>
  (AV.lN (e a)).bind fun q=>bif Yh P ty then loadT σ q.1 q.2 (Ag P ty) fun v=>VO P e σ rs fun vs=>K (v::vs) else none
def SR:List AV → AV | [v]=>v |vs=>.aS vs
def Xe {R:Type}:List Ty → Nat → List AV → Env → (Env → Option R) → Option R
 |[],_,_,e,K=>K e
 |ty::tys,i,xs,e,K=>Oh ty (xs.getD i .u) fun v=>Xe tys (i+1) xs (e.set i v) K
noncomputable def run {O:Type} (P:Program) (G:List (Nat × Sm O)) (f:Func) (an:Di):Sm O:=fun xs σ=>
 match f.body with
 |none=>none
 |some c=>
  bif Nat.beq xs.length (f.params.size+f.nfree) then
   Xe (f.params.toList.map (Ag P)++List.replicate f.nfree (.one .any)) 0 xs (fun _=>.u) fun e=>
    exec P G c an e σ fun x e σ=>
     match x with
     |.exit _=>none
     |_=>VO P e σ f.results.toList fun vs=>some (SR vs,σ)
  else none
end Go.Abs
