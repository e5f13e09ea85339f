/-
  AbsCore: an abstract, deterministic reading of the model's code: abstract values, an abstract heap, and 'exec', which runs a function's code on them.
-/
import GoSem.Core.Code
import GoSem.Core.View
import GoSem.Core.Region
import GoSem.Dispatch
set_option linter.unusedVariables false
set_option linter.unusedSimpArgs false
set_option linter.constructorNameAsVariable false
namespace Go.Abs
open Go
mutual
inductive fJ where
 |n (b:Nat)
 |f (cs:List AV)
inductive SA where
 |nil
 |z
 |loc (b:fJ) (o es:Nat)
inductive AV where
 |u
 |b (x:Bool)
 |i (k:IntKind) (n:Int)
 |s (l:List UInt8)
 |p (a:Option (fJ × Nat))
 |sl (a:SA) (len:Nat)
 |mp (r:Option Nat)
 |fn (f:Option (Fn × List AV × List AV))
 |ifc (t:TypeId) (v:AV)
 |zY
 |agg (cs:List AV)
 |aG (vs:List AV)
end
instance:Inhabited fJ:=⟨.n 0⟩
instance:Inhabited SA:=⟨.nil⟩
instance:Inhabited AV:=⟨.u⟩
inductive Nd where
 |ready |busy |gone
 |done (j:Option Nat)
def Nd.code:Nd->Nat |.ready=>0 |.busy=>1 |.gone=>2 |.done none=>3 |.done (some id)=>id+4
inductive dL (O:Type) where
 |cells (own:Bool) (el:TypeId) (cs:List AV)
 |obj (o:O)
  |loop (site:Nat) (env:List (Nat × AV)) (st:Nd)
  |map (es:List (AV × AV)) (st:List Nat) (c:Nat)
  |iter (m:Nat) (idx st:List Nat) (c:Nat)
structure AH (O:Type) where
 aa:Nat->Option (dL O)
 next:Nat
section heap
variable {O:Type}
def AH.put (J:AH O) (b:Nat) (x:dL O):AH O:=⟨fun q=>bif Nat.beq q b then some x else J.aa q,J.next⟩
def AH.kill (J:AH O) (b:Nat):AH O:=⟨fun q=>bif Nat.beq q b then none else J.aa q,J.next⟩
def AH.ax (J:AH O) (n:Nat):AH O:=⟨J.aa,J.next+n⟩
def AH.ld (J:AH O) (b:fJ) (o:Nat):Option AV:=
 match b with
 |.n b=>match J.aa b with
  |some (.cells _ _ cs)=>cs[o]?
  |_=>none
 |.f cs=>cs[o]?
def AH.st (J:AH O) (b:fJ) (o:Nat) (vs:List AV):Option (AH O):=
 match b with
 |.n b=>match J.aa b with
  |some (.cells true el cs)=>bif Nat.ble (o+vs.length) cs.length then some (J.put b (.cells true el (cs.take o++vs++cs.drop (o+vs.length)))) else none
  |_=>none
 |.f _=>none
def AH.BM (J:AH O) (b:fJ) (o n:Nat):Option (List AV):=
 match b with
 |.n b=>match J.aa b with
  |some (.cells _ _ cs)=>bif Nat.ble (o+n) cs.length then some ((cs.drop o).take n) else none
  |_=>none
 |.f cs=>bif Nat.ble (o+n) cs.length then some ((cs.drop o).take n) else none
def AH.bU (J:AH O) (a:SA) (n es:Nat):Option (List AV):=
 match a with
 |.loc b o _=>J.BM b o (n*es)
 |_=>bif Nat.beq n 0 then some [] else none
def AH.zZ (J:AH O) (a:SA) (vs:List AV):Option (AH O):=
 match a with
 |.loc b o _=>J.st b o vs
 |_=>none
def AH.cL (J:AH O) (nid el es:Nat) (a:SA) (n m:Nat) (new:List AV):Option (AV × AH O):=
 match a with
 |.loc (.n b) o _=>
  match J.aa b with
  |some (.cells true BN cs)=>
   bif Nat.beq BN el && Nat.ble (o+n*es) cs.length then
    some (.sl (.loc (.n nid) 0 es) (n+m),(J.kill b).put nid (.cells true el ((cs.drop o).take (n*es)++new)))
   else none
  |_=>none
 |.loc (.f _) _ _=>none
 |a=>bif Nat.beq n 0 then (bif Nat.beq m 0 then some (.sl a 0,J) else some (.sl (.loc (.n nid) 0 es) m,J.put nid (.cells true el new))) else none
end heap
def SA.ref:SA->Option (fJ × Nat) |.loc b o _=>some (b,o) |_=>none
def SA.Cm (a:SA) (l es:Nat):Option SA:=
 match a with
 |.loc b o vz=>bif Nat.beq vz es then some (.loc b (o+l*es) es) else none
 |a=>some a
noncomputable def Qp (p:Prop):Option Unit:=open Classical in if p then some () else none
def oX (E:AV->AV->Bool):fJ->fJ->Bool
 |.n a,.n b=>Nat.beq a b
 |.f xs,.f ys=>Cn E xs ys
 |_,_=>false
where Cn (E:AV->AV->Bool):List AV->List AV->Bool
 |[],[]=>true
 |x::xs,y::ys=>E x y && Cn E xs ys
 |_,_=>false
def Sk (E:AV->AV->Bool):SA->SA->Bool
 |.nil,.nil=>true
 |.z,.z=>true
 |.loc b o e,.loc b' o' e'=>oX E b b' && Nat.beq o o' && Nat.beq e e'
 |_,_=>false
def xW:Nat->AV->AV->Bool
 |0,_,_=>false
 |d+1,x,y=>
  match x,y with
  |.u,.u=>true
  |.b x,.b y=>x == y
  |.i k n,.i k' m=>decide (k=k') && decide (n=m)
  |.s l,.s m=>decide (l=m)
  |.p none,.p none=>true
  |.p (some (b,o)),.p (some (b',o'))=>oX (xW d) b b' && Nat.beq o o'
  |.sl a n,.sl a' n'=>Sk (xW d) a a' && Nat.beq n n'
  |.mp a,.mp b=>decide (a=b)
  |.fn none,.fn none=>true
  |.ifc t v,.ifc t' v'=>Nat.beq t t' && xW d v v'
  |.zY,.zY=>true
  |.agg xs,.agg ys=>oX.Cn (xW d) xs ys
  |.aG xs,.aG ys=>oX.Cn (xW d) xs ys
  |_,_=>false
def Nf:Option AV->Option AV->Bool
 |some x,some y=>xW 8 x y
 |_,_=>false
def Ng:Option (List AV)->Option (List AV)->Bool
 |some x,some y=>oX.Cn (xW 8) x y
 |_,_=>false
theorem iU {E:AV->AV->Bool} (hE:∀ x y,E x y=true->x=y):∀ xs ys:List AV,oX.Cn E xs ys=true->xs=ys
 |[],[],_=>rfl
 |x::xs,y::ys,h=>by
  simp only [oX.Cn,Bool.and_eq_true] at h
  rw [hE _ _ h.1,iU hE xs ys h.2]
 |[],_::_,h=>by cases h
 |_::_,[],h=>by cases h
theorem rO {E:AV->AV->Bool} (hE:∀ x y,E x y=true->x=y) (a b:fJ) (h:oX E a b=true):a=b:=by
 unfold oX at h
 split at h
 ·rw [Nat.eq_of_beq_eq_true h]
 ·rw [iU hE _ _ h]
 ·cases h
theorem Co {E:AV->AV->Bool} (hE:∀ x y,E x y=true->x=y) (a b:SA) (h:Sk E a b=true):a=b:=by
 unfold Sk at h
 split at h
 ·rfl
 ·rfl
 ·simp only [Bool.and_eq_true] at h
  rw [rO hE _ _ h.1.1,Nat.eq_of_beq_eq_true h.1.2,Nat.eq_of_beq_eq_true h.2]
 ·cases h
theorem nT:∀ (d:Nat) (x y:AV),xW d x y=true->x=y
 |0,_,_,h=>by cases h
 |d+1,x,y,h=>by
  have ih:=nT d
  unfold xW at h
  split at h
  ·rfl
  ·rw [eq_of_beq h]
  ·simp only [Bool.and_eq_true,decide_eq_true_eq] at h;rw [h.1,h.2]
  ·rw [of_decide_eq_true h]
  ·rfl
  ·simp only [Bool.and_eq_true] at h;rw [rO ih _ _ h.1,Nat.eq_of_beq_eq_true h.2]
  ·simp only [Bool.and_eq_true] at h;rw [Co ih _ _ h.1,Nat.eq_of_beq_eq_true h.2]
  ·rw [of_decide_eq_true h]
  ·rfl
  ·simp only [Bool.and_eq_true] at h;rw [Nat.eq_of_beq_eq_true h.1,ih _ _ h.2]
  ·rfl
  ·rw [iU ih _ _ h]
  ·rw [iU ih _ _ h]
  ·cases h
noncomputable def aO (x y:Option AV):Option Unit:=bif Nf x y then some () else Qp (x=y)
noncomputable def FE (x y:Option (List AV)):Option Unit:=bif Ng x y then some () else Qp (x=y)
theorem z7 {p:Prop} {u:Unit} (h:Qp p=some u):p:=by
 unfold Qp at h;split at h
 ·assumption
 ·cases h
theorem FF {x y:Option AV} {u:Unit} (h:aO x y=some u):x=y:=by
 unfold aO at h
 cases hb:Nf x y with
 |true=>
  unfold Nf at hb
  split at hb
  ·rw [nT _ _ _ hb]
  ·cases hb
 |false=>rw [hb] at h;exact z7 h
theorem FG {x y:Option (List AV)} {u:Unit} (h:FE x y=some u):x=y:=by
 unfold FE at h
 cases hb:Ng x y with
 |true=>
  unfold Ng at hb
  split at hb
  ·rw [iU (nT _) _ _ hb]
  ·cases hb
 |false=>rw [hb] at h;exact z7 h
abbrev Sm (O:Type):=List AV->AH O->Option (AV × AH O)
abbrev Env:=Nat->AV
def Env.set (e:Env) (d:Nat) (v:AV):Env:=fun t=>bif Nat.beq t d then v else e t
def Env.put (e:Env) (d:Option Nat) (v:AV):Env:=match d with |some d=>e.set d v |none=>e
def Env.mask (ws:List Nat) (e:Env):Env:=fun t=>bif ws.elem t then .u else e t
inductive fg where
 |b |i (k:IntKind) |s |p |sl |f |mp |any
 deriving DecidableEq,Inhabited
def AV.aZ:AV->Option Bool |.b x=>some x |_=>none
def AV.aX (k:IntKind):AV->Option Int |.i k' n=>if k'=k then some n else none |_=>none
def AV.Sl:AV->Option (List UInt8) |.s l=>some l |_=>none
def AV.bH:AV->Option (Option (fJ × Nat)) |.p a=>some a |_=>none
def AV.qz:AV->Option (fJ × Nat) |.p a=>a |_=>none
def AV.eG:AV->Option (SA × Nat) |.sl a n=>some (a,n) |_=>none
def AV.Vb:AV->Option (Option (Fn × List AV × List AV)) |.fn a=>some a |_=>none
def AV.FH:AV->Option (Option Nat) |.mp a=>some a |_=>none
def AV.aU:AV->Bool |.u=>false |.agg _=>false |.aG _=>false |_=>true
def gp {R:Type} (l:fg) (v:AV) (K:AV->Option R):Option R:=
 match l with
 |.b=>(AV.aZ v).bind fun x=>K (.b x)
 |.i k=>(AV.aX k v).bind fun n=>K (.i k n)
 |.s=>(AV.Sl v).bind fun x=>K (.s x)
 |.p=>(AV.bH v).bind fun x=>K (.p x)
 |.sl=>(AV.eG v).bind fun x=>K (.sl x.1 x.2)
 |.f=>(AV.Vb v).bind fun x=>K (.fn x)
 |.mp=>(AV.FH v).bind fun x=>K (.mp x)
 |.any=>K v
inductive Ty where
 |one (l:fg)
 |agg (ls:List fg)
 |aG (ts:List (fg ⊕ List fg))
 deriving Inhabited
def jP (P:Program):Nat->TypeId->List fg
 |0,_=>[]
 |n+1,t=>
  match P.underlying t with
  |some .bool=>[.b]
  |some (.int k)=>[.i k]
  |some .string=>[.s]
  |some (.pointer _)=>[.p]
  |some (.slice _)=>[.sl]
  |some (.func _ _ _)=>[.f]
  |some (.map _ _)=>[.mp]
  |some (.struct fs)=>fs.toList.flatMap fun f=>jP P n f.type
  |some (.array m e)=>(List.replicate m (jP P n e)).flatten
  |_=>[.any]
def WQ (P:Program) (t:TypeId):fg ⊕ List fg:=
 match P.underlying t with
 |some (.struct _) |some (.array _ _)=>.inr (jP P 12 t)
 |_=>.inl ((jP P 12 t).headD .any)
def lB (P:Program) (t:TypeId):Ty:=
 match P.underlying t with
 |some (.tuple ts)=>.aG (ts.toList.map (WQ P))
 |some (.struct _) |some (.array _ _)=>.agg (jP P 12 t)
 |_=>.one ((jP P 12 t).headD .any)
def dQ {R:Type}:List fg->Nat->List AV->(List AV->Option R)->Option R
 |[],_,_,K=>K []
 |l::ls,i,vs,K=>gp l (vs.getD i .u) fun v=>dQ ls (i+1) vs fun r=>K (v::r)
def AV.asAgg (n:Nat):AV->Option (List AV) |.agg cs=>bif Nat.beq cs.length n then some cs else none |_=>none
def AV.az (n:Nat):AV->Option (List AV) |.aG cs=>bif Nat.beq cs.length n then some cs else none |_=>none
def as1 {R:Type} (t:fg ⊕ List fg) (v:AV) (K:AV->Option R):Option R:=
 match t with
 |.inl l=>gp l v K
 |.inr ls=>(AV.asAgg ls.length v).bind fun cs=>dQ ls 0 cs fun vs=>K (.agg vs)
def xX {R:Type}:List (fg ⊕ List fg)->Nat->List AV->(List AV->Option R)->Option R
 |[],_,_,K=>K []
 |t::ts,i,vs,K=>as1 t (vs.getD i .u) fun v=>xX ts (i+1) vs fun r=>K (v::r)
def vG {R:Type} (t:Ty) (v:AV) (K:AV->Option R):Option R:=
 match t with
 |.one l=>gp l v K
 |.agg ls=>(AV.asAgg ls.length v).bind fun cs=>dQ ls 0 cs fun vs=>K (.agg vs)
 |.aG ts=>(AV.az ts.length v).bind fun cs=>xX ts 0 cs fun vs=>K (.aG vs)
def nU:Value->AV
 |.bool x=>.b x
 |.int k n=>.i k n
 |.string s=>.s s.data.toList
 |.pointer none=>.p none
 |.slice none 0 0=>.sl .nil 0
 |.map none=>.mp none
 |.nilFunc=>.fn none
 |.nilIface=>.zY
 |_=>.u
def lQ:Value->AV
 |.agg cs=>bif (cs.toList.map nU).all AV.aU then .agg (cs.toList.map nU) else .u
 |v=>nU v
def ev (e:Env):Operand->AV
 |.tmp t=>e t
 |.const v=>lQ v
 |.global _=>.u
 |.func f=>.fn (some (.func f,[],[]))
def AV.cells:AV->List AV
 |.agg cs=>cs
 |v=>[v]
def zeroOf (P:Program) (t:TypeId):Option (List AV):=
 match P.info? t with
 |some i=>match i.zero with
  |some v=>bif (lQ v).cells.all AV.aU && Nat.beq (lQ v).cells.length i.size then some (lQ v).cells else none
  |none=>none
 |none=>none
def tG (P:Program) (t:TypeId):Nat:=match P.info? t with |some i=>i.size |none=>0
def eQ {R:Type} (P:Program) (t:TypeId) (F:Nat->Option R):Option R:=match P.info? t with |some i=>F i.size |none=>none
def bytesOf (P:Program) (t:TypeId):Nat:=match P.info? t with |some i=>i.bytes |none=>0
def bK (op:BinOp) (k:IntKind) (x y:Int):Int:=
 let a:=BitVec.ofInt k.bits x
 let c:=BitVec.ofInt k.bits y
 match op with
 |.and=>k.wrap (a &&& c).toNat
 |.or=>k.wrap (a ||| c).toNat
 |.xor=>k.wrap (a ^^^ c).toNat
 |_=>k.wrap (a &&& ~~~c).toNat
def wA {R:Type} (op:BinOp) (k:IntKind) (x y:Int) (K:AV->Option R):Option R:=
 match op with
 |.add=>K (.i k (k.wrap (x+y)))
 |.sub=>K (.i k (k.wrap (x - y)))
 |.mul=>K (.i k (k.wrap (x*y)))
 |.quo=>bif y == 0 then none else K (.i k (k.wrap (x.tdiv y)))
 |.rem=>bif y == 0 then none else K (.i k (x.tmod y))
 |.and=>K (.i k (bK .and k x y))
 |.or=>K (.i k (bK .or k x y))
 |.xor=>K (.i k (bK .xor k x y))
 |.andNot=>K (.i k (bK .andNot k x y))
 |.eql=>K (.b (x == y))
 |.neq=>K (.b (x != y))
 |.lss=>K (.b (decide (x<y)))
 |.leq=>K (.b (decide (x<=y)))
 |.gtr=>K (.b (decide (x > y)))
 |.geq=>K (.b (decide (x>=y)))
 |_=>none
def wB {R:Type} (op:BinOp) (x y:List UInt8) (K:AV->Option R):Option R:=
 match op with
 |.eql=>K (.b (x == y))
 |.neq=>K (.b !(x == y))
 |.lss=>K (.b (Op.bytesLess x y))
 |.leq=>K (.b (Op.bytesLess x y || x == y))
 |.gtr=>K (.b !(Op.bytesLess x y || x == y))
 |.geq=>K (.b !(Op.bytesLess x y))
 |.add=>bif Nat.ble (x.length+y.length) 9223372036854775807 then K (.s (x++y)) else none
 |_=>none
def SA.isNil:SA->Bool |.nil=>true |_=>false
def lS {R:Type} (op:BinOp) (x:Bool) (K:AV->Option R):Option R:=match op with |.eql=>K (.b x) |.neq=>K (.b !x) |_=>none
def FI {R:Type} (d:Option TypeDesc) (op:BinOp) (x y:AV) (K:AV->Option R):Option R:=
 match x,y with
 |.i k a,.i k' c=>
  match op with
  |.shl=>bif decide (c<0) then none else K (.i k (k.wrap (a*2 ^ min c.toNat k.bits)))
  |.shr=>bif decide (c<0) then none else K (.i k (a.fdiv (2 ^ min c.toNat k.bits)))
  |op=>if k=k' then wA op k a c K else none
 |.s a,.s c=>wB op a c K
 |.b a,.b c=>match d with |some .bool=>lS op (a == c) K |_=>none
 |.p a,.p c=>match d with |some (.pointer _)=>bif c.isNone then lS op a.isNone K else bif a.isNone then lS op c.isNone K else none |_=>none
 |.sl a _,.sl c _=>match d with |some (.slice _)=>bif c.isNil then lS op a.isNil K else bif a.isNil then lS op c.isNil K else none |_=>none
 |.fn a,.fn c=>match d with |some (.func _ _ _)=>bif c.isNone then lS op a.isNone K else bif a.isNone then lS op c.isNone K else none |_=>none
 |.mp a,.mp c=>match d with |some (.map _ _)=>bif c.isNone then lS op a.isNone K else bif a.isNone then lS op c.isNone K else none |_=>none
 |_,_=>none
def WR {R:Type} (op:UnOp) (x:AV) (K:AV->Option R):Option R:=
 match op,x with
 |.neg,.i k n=>K (.i k (k.wrap (0 - n)))
 |.xor,.i k n=>K (.i k (bK .xor k (if k.signed then -1 else k.max) n))
 |.not,.b c=>K (.b !c)
 |_,_=>none
def nI (place:Nat->Option (Nat × Nat)) (cells:List AV):List (Nat × AV)->Option (List AV)
 |[]=>some cells
 |(i,v)::rest=>
  match place i with
  |none=>none
  |some (off,size)=>
   bif Nat.beq v.cells.length size && Nat.ble (off+size) cells.length && v.cells.all AV.aU then nI place (cells.take off++v.cells++cells.drop (off+size)) rest else none
section ops
variable {O R:Type} (P:Program)
def kZ (J:AH O) (b:fJ):List fg->Nat->(List AV->Option R)->Option R
 |[],_,K=>K []
 |l::ls,o,K=>(J.ld b o).bind fun v=>gp l v fun v'=>bif v'.aU then kZ J b ls (o+1) fun r=>K (v'::r) else none
def FJ (t:TypeId):Bool:=
 match P.info? t,P.underlying t with
 |some i,some _=>match lB P t with
  |.agg ls=>Nat.beq ls.length i.size
  |.one _=>true
  |.aG _=>false
 |_,_=>false
def loadT (J:AH O) (b:fJ) (o:Nat) (t:Ty) (K:AV->Option R):Option R:=
 match t with
 |.one l=>(J.ld b o).bind fun v=>gp l v fun v'=>bif v'.aU then K v' else none
 |.agg ls=>kZ J b ls o fun vs=>K (.agg vs)
 |.aG _=>none
def ju:List AV->Option (List UInt8)
 |[]=>some []
 |.i .u8 n::r=>(ju r).map fun l=>UInt8.ofNat n.toNat::l
 |_::_=>none
def lT (t:TypeId) (cs:List AV) (off:Nat) (K:AV->Option R):Option R:=
 match P.info? t,P.underlying t with
 |some i,some _=>match lB P t with
  |.agg _=>K (.agg ((cs.drop off).take i.size))
  |.one l=>(cs[off]?).bind fun v=>gp l v K
  |.aG _=>none
 |_,_=>none
def Ik (E:TypeId->AV->AV->Option Bool) (xs ys:List AV):List Field->Option Bool
 |[]=>some true
 |f::fs=>
  if f.name = "_" then Ik E xs ys fs
  else (lT P f.type xs f.offset some).bind fun a=>(lT P f.type ys f.offset some).bind fun b=>(E f.type a b).bind fun r=>(Ik E xs ys fs).bind fun q=>some (r && q)
def Nh (E:TypeId->AV->AV->Option Bool) (e:TypeId) (xs ys:List AV):List Nat->Option Bool
 |[]=>some true
 |i::is=>(lT P e xs (i*P.cellsOf e) some).bind fun a=>(lT P e ys (i*P.cellsOf e) some).bind fun b=>(E e a b).bind fun r=>(Nh E e xs ys is).bind fun q=>some (r && q)
def WS:Nat->TypeId->AV->AV->Option Bool
 |0,_,_,_=>none
 |d+1,t,x,y=>
  match P.underlying t with
  |some .bool=>(AV.aZ x).bind fun a=>(AV.aZ y).bind fun b=>some (a == b)
  |some (.int k)=>(AV.aX k x).bind fun a=>(AV.aX k y).bind fun b=>some (a == b)
  |some .string=>(AV.Sl x).bind fun a=>(AV.Sl y).bind fun b=>some (a == b)
  |some (.struct fs)=>bif P.stoodInHeld t then none else
    match x,y with
    |.agg xs,.agg ys=>Ik P (WS d) xs ys fs.toList
    |_,_=>none
  |some (.array n el)=>
    match x,y with
    |.agg xs,.agg ys=>match P.info? el with |some _=>Nh P (WS d) el xs ys (List.range n) |none=>none
    |_,_=>none
  |_=>none
def oZ:Fn->Bool |.yield _=>false |_=>true
def bc (op:Op) (ty:TypeId) (e:Env) (K:AV->Option R):Option R:=
 match op with
 |.move x |.assign x=>K (ev e x)
 |.pick c a b=>
  match ev e c with
  |.b t=>match ev e a,ev e b with
   |.b x,.b y=>K (.b (bif t then x else y))
   |va,vb=>bif t then K va else K vb
  |_=>none
 |.build t parts=>
  match zeroOf P t with
  |none=>none
  |some z=>match P.underlying t with
   |some (.struct fs)=>
    match fs.toList.mapM (fun f=>(P.info? f.type).map fun i=>(f.offset,i.size)) with
    |some Cp=>
     match nI (fun i=>Cp[i]?) z (parts.toList.map fun x=>(x.1,ev e x.2)) with
     |some cs=>K (.agg cs)
     |none=>none
    |none=>none
   |some (.array _ el)=>
    match P.info? el with
    |some ie=>
     match nI (fun i=>some (i*ie.size,ie.size)) z (parts.toList.map fun x=>(x.1,ev e x.2)) with
     |some cs=>K (.agg cs)
     |none=>none
    |none=>none
   |_=>none
 |.nilCheck x=>
  match ev e x with
  |.p a=>a.bind fun ad=>K (.p (some ad))
  |.fn a=>a.bind fun x=>match x with |(.func f,fi,ca)=>K (.fn (some (.func f,fi,ca))) |_=>none
  |_=>none
 |.binOp op t x y _=>
  match ev e x,ev e y with
  |.agg xs,.agg ys=>bif P.eqGuardType P.depth t then none else (WS P 8 t (.agg xs) (.agg ys)).bind fun q=>lS op q K
  |vx,vy=>FI (P.underlying t) op vx vy K
 |.unOp op _ x=>WR op (ev e x) K
 |.convert src dst x=>
  match ev e x with
  |.i _ n=>match P.underlying src,P.underlying dst with
   |some _,some (.int k)=>K (.i k (k.wrap n))
   |_,_=>none
  |.s l=>match P.underlying src,P.underlying dst with
   |some _,some .string=>K (.s l)
   |_,_=>none
  |_=>none
 |.makeFunc fn first captured=>bif oZ fn then K (.fn (some (fn,first.toList.map (ev e),captured.toList.map (ev e)))) else none
 |.slice t x lo hi mx=>
  match mx,ev e x with
  |none,.sl a n=>
   match P.underlying t with
   |some (.slice el)=>
    match (match lo with |some o=>ev e o |none=>.i .i64 0),(match hi with |some o=>ev e o |none=>.i .i64 n) with
    |.i _ l,.i _ h=>
     bif decide (0<=l) && decide (l<=h) && decide (h<=(n:Int)) then
      eQ P el fun es=>(a.Cm l.toNat es).bind fun a'=>K (.sl a' (h.toNat - l.toNat))
     else none
    |_,_=>none
   |_=>none
  |none,.s s=>
   match P.underlying t with
   |some .string=>
    match (match lo with |some o=>ev e o |none=>.i .i64 0),(match hi with |some o=>ev e o |none=>.i .i64 s.length) with
    |.i _ l,.i _ h=>
     bif decide (0<=l) && decide (l<=h) && decide (h<=(s.length:Int)) then K (.s ((s.drop l.toNat).take (h.toNat - l.toNat))) else none
    |_,_=>none
   |_=>none
  |some m,.sl a _=>
   match P.underlying t with
   |some (.slice el)=>
    match (match lo with |some o=>ev e o |none=>.i .i64 0),(match hi with |some o=>ev e o |none=>.u),ev e m with
    |.i _ l,.i _ h,.i _ c=>bif decide (l=0) && decide (h=0) && decide (c=0) then eQ P el fun _=>K (.sl (match a with |.nil=>.nil |_=>.z) 0) else none
    |_,_,_=>none
   |_=>none
  |_,_=>none
 |.fieldAddr s x f=>
  match P.underlying s with
  |some (.struct fs)=>match fs[f]? with
   |some fd=>eQ P fd.type fun es=>bif Nat.beq es 0 then none else (AV.qz (ev e x)).bind fun q=>K (.p (some (q.1,q.2+fd.offset)))
   |none=>none
  |_=>none
 |.field t x f=>
  match ev e x,P.underlying t with
  |.agg cs,some (.struct fs)=>match fs[f]? with
   |some fd=>lT P fd.type cs fd.offset K
   |none=>none
  |_,_=>none
 |.indexAddr t x ix=>
  match ev e ix with
  |.i _ i=>
   match P.underlying t with
   |some (.array len el)=>bif decide (0<=i) && decide (i<(len:Int)) then eQ P el fun es=>(AV.qz (ev e x)).bind fun q=>K (.p (some (q.1,q.2+i.toNat*es))) else none
   |some (.slice el)=>
    match ev e x with
    |.sl a n=>bif decide (0<=i) && decide (i<(n:Int)) then eQ P el fun es=>a.ref.bind fun q=>K (.p (some (q.1,q.2+i.toNat*es))) else none
    |_=>none
   |_=>none
  |_=>none
 |.index t x ix=>
  match ev e ix with
  |.i _ i=>match P.underlying t,ev e x with
   |some (.array len el),.agg cs=>
    bif decide (0<=i) && decide (i<(len:Int)) then
     eQ P el fun es=>lT P el cs (i.toNat*es) K
    else none
   |some .string,.s s=>bif decide (0<=i) then (s[i.toNat]?).bind fun c=>K (.i .u8 c.toNat) else none
   |_,_=>none
  |_=>none
 |.extract x n=>
  match ev e x with
  |.aG vs=>(vs[n]?).bind fun v=>vG (lB P ty) v K
  |_=>none
 |.call c=>
  match c.callee with
  |.builtin .len=>
   match c.args.toList.map (ev e),c.argTypes.toList with
   |[.s l],[t]=>match P.underlying t with
    |some .string=>K (.i .i64 l.length)
    |_=>none
   |[.sl _ n],[t]=>match P.underlying t with
    |some (.slice _)=>K (.i .i64 n)
    |_=>none
   |_,_=>none
  |.builtin .min=>
   match c.args.toList.map (ev e) with
   |[.i k x,.i k' y]=>if k=k' then K (.i k (if y<x then y else x)) else none
   |[.i k x,.i k' y,.i WT z]=>if k=k'/\k=WT then K (.i k (if z<(if y<x then y else x) then z else (if y<x then y else x))) else none
   |_=>none
  |.builtin .max=>
   match c.args.toList.map (ev e) with
   |[.i k x,.i k' y]=>if k=k' then K (.i k (if y > x then y else x)) else none
   |[.i k x,.i k' y,.i WT z]=>if k=k'/\k=WT then K (.i k (if z > (if y > x then y else x) then z else (if y > x then y else x))) else none
   |_=>none
  |_=>none
 |_=>none
def aM (op:Op):Bool:=
 match op with
 |.alloc _ |.box .. | .buildSlice .. | .makeSlice .. | .makeMap .. | .range .. => true
 |.call {callee:=.builtin .append,..}=>true
 |_=>false
def qA (G:List (Nat × Sm O)) (f:Nat):Sm O:=
 match G with
 |[]=>fun _ _=>none
 |(g,s)::r=>bif Nat.beq g f then s else qA r f
abbrev kx:Nat:=1000000
abbrev tI:Nat:=2000000
def D7 (G:List (Nat × Sm O)) (x:Option (Fn × List AV × List AV)) (xs:List AV) (J:AH O):Option (AV × AH O):=
 match x with
 |some (.func g,first,captured)=>bif Nat.ble kx g then none else qA G g (first++xs++captured) J
 |some (.yield b,_,_)=>qA G kx (.p (some (.n b,0))::xs) J
 |_=>none
def Il (G:List (Nat × Sm O)) (x:Option (Fn × List AV × List AV)) (site:Nat) (env:List (Nat × AV)) (J:AH O):Option (AV × AH O):=
 match x with
 |some (.func c,fi,ca)=>qA G (c+tI) (fi++[.fn (some (.yield J.next,[],[]))]++ca) ((J.ax 1).put J.next (.loop site env .ready))
 |_=>none
def Io (J:AH O) (es:Nat) (z:List AV) (d:TypeDesc) (v:AV) (K:Nat->List AV->Option R):Option R:=
 match d,v with
 |.slice _,.sl a m=>(J.bU a m es).bind fun new=>K m new
 |.string,.s l=>bif Nat.beq es 1 then K l.length (l.map fun c=>.i .u8 c.toNat) else none
 |.int _,.i _ n=>bif decide (0<=n) then K n.toNat ((List.replicate n.toNat z).flatten) else none
 |_,_=>none
def tJ (k:IntKind) (n:Int):List (AV × AV)->Option (Option (Nat × AV))
 |[]=>some none
 |(.i k' m,v)::r=>if k=k' then (bif n == m then some (some (0,v)) else (tJ k n r).map fun q=>q.map fun x=>(x.1+1,x.2)) else none
 |_=>none
def WU (r:Option (Nat × AV)) (z:AV):AV:=match r with |some (_,v)=>v |none=>z
def Ni (r:Option (Nat × AV)) (es:List (AV × AV)) (k v:AV):List (AV × AV):=match r with |some (i,_)=>es.set i (k,v) |none=>es++[(k,v)]
def Nj (r:Option (Nat × AV)) (es:List (AV × AV)):List (AV × AV):=match r with |some (i,_)=>es.eraseIdx i |none=>es
def zeroV (P:Program) (t:TypeId):Option AV:=match P.info? t with |some i=>i.zero.map lQ |none=>none
def tK {O:Type} (J:AH O):AV->Option (List (AV × AV))
 |.mp none=>some []
 |.mp (some b)=>match J.aa b with
  |some (.map es _ _)=>some es
  |_=>none
 |_=>none
def eR {O:Type} (J:AH O) (b:Nat):List Nat × Nat:=match J.aa b with |some (.map _ st c)=>(st,c) |_=>([],0)
def Ip {O:Type} (J:AH O) (b:Nat) (r:Option (Nat × AV)) (es:List (AV × AV)) (k v:AV):dL O:=
 match r with
 |some _=>.map (Ni r es k v) (eR J b).1 (eR J b).2
 |none=>.map (Ni r es k v) ((eR J b).1++[(eR J b).2]) ((eR J b).2+1)
def Iq {O:Type} (J:AH O) (b:Nat) (r:Option (Nat × AV)) (es:List (AV × AV)):dL O:=
 match r with
 |some (i,_)=>.map (Nj r es) ((eR J b).1.eraseIdx i) (eR J b).2
 |none=>.map (Nj r es) (eR J b).1 (eR J b).2
def WV {O:Type} (J:AH O) (v:AV):Option (AV × AV):=
 match v with
 |.p (some (.n b,0))=>match J.aa b with
  |some (.iter m idx st c)=>match J.aa m with
   |some (.map es Hz c')=>bif (Hz == st) && Nat.beq c' c then (idx.getLast?).bind fun i=>es[i]? else none
   |_=>none
  |_=>none
 |_=>none
def Ir {O:Type} (J:AH O) (v:AV):Option (Nat × List Nat × Nat):=
 match v with
 |.mp (some m)=>match J.aa m with
  |some (.map _ st c)=>some (m,st,c)
  |_=>none
 |_=>none
def WW {O:Type} (J:AH O) (v:AV):Option (Nat × Nat × List Nat × Nat):=
 match v with
 |.p (some (.n b,0))=>match J.aa b with
  |some (.iter m [] st c)=>some (b,m,st,c)
  |_=>none
 |_=>none
def Is {O:Type} (J:AH O) (b m:Nat) (idx st:List Nat) (c:Nat):Option Unit:=
 match J.aa b with
 |some (.iter m' WX Hz c')=>match J.aa m with
  |some (.map _ WY c'')=>bif Nat.beq m' m && (WX == idx) && (Hz == st) && Nat.beq c' c && (WY == st) && Nat.beq c'' c then some () else none
  |_=>none
 |_=>none
def tL (P:Program) (kt:TypeId) (v:AV):Option (IntKind × Int):=match P.underlying kt,v with |some (.int k),.i k' n=>if k=k' then some (k,n) else none |_,_=>none
def dF (G:List (Nat × Sm O)) (op:Op) (ty:TypeId) (e:Env) (J:AH O) (nid:Nat) (K:AV->AH O->Option R):Option R:=
 match op with
 |.alloc t=>
  match zeroOf P t with
  |some cs=>K (.p (some (.n nid,0))) (J.put nid (.cells true t cs))
  |none=>none
 |.box t x=>bif (ev e x).cells.all AV.aU then K (.p (some (.n nid,0))) (J.put nid (.cells true t (ev e x).cells)) else none
 |.buildSlice t n parts=>
  match P.underlying t with
  |some (.slice el)=>
    match zeroOf P el with
    |some z=>
     bif Nat.ble (n*z.length) 16777216 && Nat.ble n 16777216 then
     match nI (fun i=>some (i*z.length,z.length)) ((List.replicate n z).flatten) (parts.toList.map fun x=>(x.1,ev e x.2)) with
     |some cs=>K (.sl (.loc (.n nid) 0 z.length) n) (J.put nid (.cells true el cs))
     |none=>none
     else none
    |none=>none
  |_=>none
 |.makeSlice t l c=>
  match P.underlying t,ev e l,ev e c with
  |some (.slice el),.i _ n,.i _ m=>
   bif decide (0<=n) && decide (n<=m) && decide (m*bytesOf P el<=140737488355328) && decide (m<=140737488355328) then
    match zeroOf P el with
    |some z=>K (.sl (.loc (.n nid) 0 z.length) n.toNat) (J.put nid (.cells true el ((List.replicate n.toNat z).flatten)))
    |none=>none
   else none
  |_,_,_=>none
 |.load t a=>
  (AV.qz (ev e a)).bind fun q=>bif FJ P t then loadT J q.1 q.2 (lB P t) fun v=>K v J else none
 |.store t a x=>
  (AV.qz (ev e a)).bind fun q=>eQ P t fun es=>bif Nat.beq (ev e x).cells.length es && (ev e x).cells.all AV.aU then (J.st q.1 q.2 (ev e x).cells).bind fun J'=>K .u J' else none
 |.convert src dst x=>
  match ev e x with
  |.sl a n=>match P.underlying src,P.underlying dst with
   |some (.slice el),some .string=>match P.underlying el with
    |some (.int .u8)=>(J.bU a n 1).bind fun cs=>(ju cs).bind fun l=>K (.s l) J
    |_=>none
   |_,_=>none
  |_=>bc P op ty e fun v=>K v J
 |.makeMap t r=>
  match P.underlying t with
  |some (.map _ _)=>bif (match r with |none=>true |some x=>match ev e x with |.i _ _=>true |_=>false) then K (.mp (some nid)) (J.put nid (.map [] [] 0)) else none
  |_=>none
 |.lookup t x ix ok=>
  match P.underlying t with
  |some (.map kt et)=>
   (
    tL P kt (ev e ix)).bind fun q=>(tK J (ev e x)).bind fun es=>(tJ q.1 q.2 es).bind fun r=>(zeroV P et).bind fun z=>
    vG (lB P et) (WU r z) fun v=>K (bif ok then .aG [v,.b r.isSome] else v) J
  |_=>none
 |.mapUpdate t m x y=>
  match P.underlying t with
  |some (.map kt _)=>
   (
    tL P kt (ev e x)).bind fun q=>(AV.FH (ev e m)).bind fun mo=>mo.bind fun b=>(tK J (.mp (some b))).bind fun es=>(tJ q.1 q.2 es).bind fun r=>
    K .u (J.put b (Ip J b r es (.i q.1 q.2) (ev e y)))
  |_=>none
 |.range t x=>
  match P.underlying t with
  |some (.map _ _)=>(Ir J (ev e x)).bind fun q=>K (.p (some (.n nid,0))) (J.put nid (.iter q.1 [] q.2.1 q.2.2))
  |_=>none
 |.entry x=>(WV J (ev e x)).bind fun q=>K (.aG [q.1,q.2]) J
 |.call c=>
  match c.callee with
  |.value f=>
   match ev e f with
   |.fn x=>(D7 G x (c.args.toList.map (ev e)) J).bind fun r=>vG (lB P ty) r.1 fun v=>K v r.2
   |_=>none
  |.builtin .append=>
   match c.args.toList.map (ev e),c.argTypes.toList with
   |[.sl a n,v],[t,t']=>
    match P.underlying t,P.underlying t' with
    |some (.slice el),some d'=>
     match zeroOf P el with
     |none=>none
     |some z=>
     eQ P el fun es=>
     bif Nat.beq z.length es then
      Io J es z d' v fun m new=>bif Nat.ble ((n+m)*(bytesOf P el+1)) 35184372088832 then (J.cL nid el es a n m new).bind fun r=>gp .sl r.1 fun v=>K v r.2 else none
     else none
    |_,_=>none
   |_,_=>none
  |.builtin .copy=>
   match c.args.toList.map (ev e),c.argTypes.toList with
   |[.sl a n,.sl a' m],[t,_]=>
    match P.underlying t with
    |some (.slice el)=>
     eQ P el fun es=>
     bif Nat.beq (min m n) 0 then K (.i .i64 0) J else
      (J.bU a' (min m n) es).bind fun cs=>(J.zZ a cs).bind fun J'=>K (.i .i64 (min m n:Nat)) J'
    |_=>none
   |_,_=>none
  |.builtin .clear=>
   match c.args.toList.map (ev e),c.argTypes.toList with
   |[.sl a n],[t]=>
    match P.underlying t with
    |some (.slice el)=>
     bif Nat.beq n 0 then K (.aG []) J else
      match zeroOf P el with
      |some z=>(J.zZ a ((List.replicate n z).flatten)).bind fun J'=>K (.aG []) J'
      |none=>none
    |_=>none
   |_,_=>none
  |.builtin .delete=>
   match c.args.toList.map (ev e),c.argTypes.toList with
   |[m,x],[t,_]=>
    match P.underlying t with
    |some (.map kt _)=>
     (
      tL P kt x).bind fun q=>(AV.FH m).bind fun mo=>mo.bind fun b=>(tK J (.mp (some b))).bind fun es=>(tJ q.1 q.2 es).bind fun r=>
      K (.aG []) (J.put b (Iq J b r es))
    |_=>none
   |_,_=>none
  |_=>bc P op ty e fun v=>K v J
 |op=>bc P op ty e fun v=>K v J
end ops
def turns (op:Op):Bool:=
 match op with
 |.store .. => true
 |.makeMap .. => true
 |.lookup .. => true
 |.mapUpdate .. => true
 |.range .. => true
 |.entry .. => true
 |.call c=>match c.callee with
  |.builtin .len=>false
  |.builtin .min=>false
  |.builtin .max=>false
  |_=>true
 |_=>false
def ct (op:Op):Bool:=match op with |.load .. => true |.convert .. => true |_=>false
def o9 (ops:List Oper):List Nat:=
 ops.foldl (fun acc o=>acc++[o.after.toList.foldl (fun s e=>bif Region.binds .any e then Nat.lor (Nat.lor s (2 ^ e.on)) (acc.getD e.on 0) else s) 0]) []
def bit (m i:Nat):Bool:=Nat.beq ((m / 2 ^ i) % 2) 1
def lU (ops:List Oper) (o:Oper):List Nat:=
 (
  o.op.operands.toList.filterMap fun x=>match x with |.tmp t=>some t |_=>none)++
  (match o.guard with |some (j,_)=>(match ops[j]? with |some oj=>oj.dst.toList |none=>[]) |none=>[])
def xY (ops:List Oper) (x y:Oper):Bool:=
 (match x.dst with |some d=>(lU ops y).elem d || (match y.dst with |some d'=>Nat.beq d d' | none=>false) |none=>false) ||
 (match y.dst with |some d=>(lU ops x).elem d |none=>false)
def xZ (ops:List Oper) (fG:List Nat) (i i':Nat):Bool:=
 match ops[i]?,ops[i']? with
 |some o,some o'=>
  !Nat.beq i i' && !bit (fG.getD i 0) i' &&
  (bit (fG.getD i' 0) i || (!xY ops o o' && !(turns o.op && (turns o'.op || ct o'.op)) && !(aM o.op && !turns o.op && turns o'.op)))
 |_,_=>false
def D8 (ops:List Oper) (fG:List Nat):List Nat->Bool
 |[]=>true
 |i::r=>r.all (xZ ops fG i) && D8 ops fG r
def Qq (o:Oper):Bool:=match o.op with |.select .. => false |.defer _=>false |.recv .. => false |_=>true
def sU (ops:List Oper):List Nat->List Nat->Bool
 |_,[]=>true
 |done,i::r=>(match ops[i]? with |some o=>o.after.toList.all (fun e => !Region.binds .any e || done.elem e.on) |none=>false) && sU ops (i::done) r
def jv (ops:List Oper):List Nat->Nat->Nat
 |[],n=>n
 |q::r,n=>jv ops r (match ops[q]? with |some o=>bif aM o.op then n+1 else n |none=>n)
def dS (ops:List Oper):Nat:=(ops.filter fun o=>aM o.op).length
def x8 (ops:List Oper) (fG l:List Nat):Bool:=
 Nat.beq l.length ops.length && l.all (fun i=>Nat.blt i ops.length) && (List.range ops.length).all (fun i=>l.elem i) && D8 ops fG l && ops.all Qq && sU ops [] l && Nat.beq (jv ops l 0) (dS ops)
def ky (bf:List Nat):List Oper->Nat->Bool
 |[],k=>Nat.beq bf.length k
 |o::r,k=>Nat.beq (bf.getD k 0) (o.after.toList.foldl (fun s e=>bif Region.binds .any e then Nat.lor (Nat.lor s (2 ^ e.on)) ((bf.take k).getD e.on 0) else s) 0) && ky bf r (k+1)
structure LdC (O:Type) where
 p:AH O->Prop
 c:AH O->Option Unit
 h:∀ J u,c J=some u->p J
structure RS (O:Type) where
 e:Env
 J:AH O
 nid:Nat
 dec:List Nat
 ct:List (Nat × LdC O)
section region
variable {O:Type} (P:Program) (G:List (Nat × Sm O)) (fG:List Nat) (dr:Bool)
def It {R:Type} (j:Nat) (J:AH O):List (Nat × LdC O)->Option R->Option R
 |[],K=>K
 |(i,p)::r,K=>bif bit (fG.getD j 0) i then It j J r K else (p.c J).bind fun _=>It j J r K
noncomputable def x9 (i:Nat) (b:fJ) (o:Nat):List AV->List (Nat × LdC O)
 |[]=>[]
 |v::vs=>(i,⟨fun J=>J.ld b o=some v,fun J=>aO (J.ld b o) (some v),fun _ _ h=>FF h⟩)::x9 i b (o+1) vs
noncomputable def wC {R:Type} (i:Nat) (o:Oper) (s:RS O) (K:RS O->Option R):Option R:=
 dF P G o.op o.type s.e s.J s.nid fun v J'=>
  let s':RS O:={s with e:=s.e.put o.dst v,J:=J',nid:=bif aM o.op then s.nid+1 else s.nid}
  bif dr then
   match o.op with
   |.load _ a=>(AV.qz (ev s.e a)).bind fun q=>K {s' with ct:=s.ct++x9 i q.1 q.2 v.cells}
   |.convert _ _ x=>match ev s.e x with
    |.sl a n=>K {s' with ct:=s.ct++[(i,⟨fun J2=>J2.bU a n 1=s.J.bU a n 1,fun J2=>FE (J2.bU a n 1) (s.J.bU a n 1),fun _ _ h=>FG h⟩)]}
    |_=>K s'
   |op=>bif turns op then It fG i J' s.ct (K s') else K s'
  else K s'
end region
inductive pd where
 |z
 |n (l r:pd)
  |j (sum:Bool) (bM:List (Nat × Ty)) (l r:pd)
  |g (qB:List (Nat × Nat × List (Nat × Ty)))
  |d (qB:List (Nat × Nat × List (Nat × Ty))) (ord bf:List Nat)
  |lp (sum:Bool) (FK:Nat) (head out:List (Nat × Ty)) (l:pd)
  |rf (site:Nat) (bM:List Nat) (outs:List Nat)
  |lm (head:List (Nat × Ty)) (l:pd)
  |x
 deriving Inhabited
def pd.off {R:Type} (an:pd) (k:Option R):Option R:=match an with |.x=>none |_=>k
theorem pd.z8 {R:Type} {an:pd} {k:Option R} {r:R} (h:an.off k=some r):k=some r:=by
 cases an<;>first |exact h |cases h
def pd.l:pd->pd |.n l _=>l |.j _ _ l _=>l |_=>.z
def pd.r:pd->pd |.n _ r=>r |.j _ _ _ r=>r |_=>.z
def dO {R:Type}:List (Nat × Ty)->Nat->List AV->Env->(Env->Option R)->Option R
 |[],_,_,e,K=>K e
 |(t,ty)::rest,i,vs,e,K=>vG ty (vs.getD i .u) fun v=>dO rest (i+1) vs (e.set t v) K
def cW (bM:List (Nat × Ty)) (e:Env):List AV:=bM.map fun s=>e s.1
def cE {S R:Type} (m:Option (S ⊕ R)) (f:S->Option R):Option R:=
 match m with
 |some (.inl s)=>f s
 |some (.inr r)=>some r
 |none=>none
section regions
variable {O:Type} (P:Program) (G:List (Nat × Sm O)) (fG:List Nat) (dr:Bool) (qB:List (Nat × Nat × List (Nat × Ty))) (ops:List Oper)
def fB (len:Nat) (j:Nat):List (Nat × Nat × List (Nat × Ty))->Nat × List (Nat × Ty)
 |[]=>(len,[])
 |x::r=>bif Nat.beq x.1 j then x.2 else fB len j r
def qC (l:List Nat):List Nat:=l.filterMap fun q=>match ops[q]? with |some o=>o.dst |none=>none
def ya (l1 l2:List Nat):Bool:=
 l1.all fun q=>match ops[q]? with
  |some o => !ct o.op || l2.all fun q'=>match ops[q']? with |some o' => !turns o'.op || bit (fG.getD q' 0) q |none=>false
  |none=>false
noncomputable def qD:Nat->List Nat->{R:Type}->RS O->(RS O->Option R)->Option R
 |0,l,_,s,K=>match l with | []=>K s |_=>none
 |f+1,l,_,s,K=>
  match l with
  |[]=>K s
  |i::rest=>
   match ops[i]? with
   |none=>none
   |some o=>
    match o.guard with
    |none=>wC P G fG dr i o s fun s'=>qD f rest s' K
    |some (j,gT)=>
     match ops[j]? with
     |none=>none
     |some oj=>
      match oj.dst with
      |none=>none
      |some d=>
       match s.e d with
       |.b t=>
        bif s.dec.elem j then
         bif t == gT then wC P G fG dr i o s fun s'=>qD f rest s' K
         else qD f rest {s with e:=s.e.put o.dst (.aG []),nid:=bif aM o.op then s.nid+1 else s.nid} K
        else
         bif dr && !ya fG ops (i::rest.take (fB rest.length j qB).1) (rest.drop (fB rest.length j qB).1) then none else
         (
          bif t == gT then
          wC P G fG dr i o {s with e:=s.e.set d (.b gT),dec:=j::s.dec} fun s'=>
           qD f (rest.take (fB rest.length j qB).1) (R:=List AV × AH O) s' fun s=>some (cW (fB rest.length j qB).2 s.e,s.J)
         else
          qD f (rest.take (fB rest.length j qB).1) (R:=List AV × AH O) {s with e:=(s.e.set d (.b !gT)).put o.dst (.aG []),dec:=j::s.dec,nid:=bif aM o.op then s.nid+1 else s.nid} fun s=>some (cW (fB rest.length j qB).2 s.e,s.J)).bind fun r=>
          dO (fB rest.length j qB).2 0 r.1 (Env.mask (qC ops (i::rest.take (fB rest.length j qB).1)) s.e) fun e=>
           qD f (rest.drop (fB rest.length j qB).1) {s with e:=e,J:=r.2,nid:=jv ops (i::rest.take (fB rest.length j qB).1) s.nid} K
       |.aG []=>qD f rest {s with e:=s.e.put o.dst (.aG []),nid:=bif aM o.op then s.nid+1 else s.nid} K
       |_=>none
def kz (ops:List Oper):List Nat:=ops.filterMap (·.dst)
noncomputable def ph (ord bf:List Nat) {R:Type} (e:Env) (J:AH O) (K:Env->AH O->Option R):Option R:=
 let s:RS O:=⟨e,bif Nat.beq (dS ops) 0 then J else J.ax (dS ops),J.next,[],[]⟩
 bif dr then
  bif ky bf ops 0 && x8 ops bf ord then qD P G bf true qB ops ops.length ord s fun s=>K s.e s.J else none
 else qD P G [] false qB ops ops.length (List.range ops.length) s fun s=>K s.e s.J
end regions
inductive X where
 |norm
 |exit (id:Nat)
 |ret
 deriving DecidableEq,Inhabited
def aB:Code->List Nat
 |.region _ ops _=>kz ops.toList
 |.seq a b=>aB a++aB b
 |.cond _ a b=>aB a++aB b
 |.block _ c=>aB c
 |.loop c=>aB c
 |.scope c=>aB c
 |.rangeFunc _ ps a b=>ps.toList++(aB a++aB b)
 |_=>[]
def fu {S T:Type} (f:S->Option (S ⊕ T)):Nat->S->Option T
 |0,_=>none
 |n+1,s=>cE (f s) (fu f n)
open Classical in
noncomputable def bu {S T:Type} (f:S->Option (S ⊕ T)) (s:S):Option T:=
 match fu f 65536 s with
 |some t=>some t
 |none=>if h:∃ n t,fu f n s=some t then some (Classical.choose (Classical.choose_spec h)) else none
def lh {S:Type} (f:Nat->List Nat->S->Option S):List Nat->List Nat->S->Option S
 |[],_,s=>some s
 |i::p,d,s=>(f i d s).bind fun s=>lh f p (d++[i]) s
open Classical in
noncomputable def pj {S:Type} (f:Nat->List Nat->S->Option S) (n:Nat) (s:S):Option S:=
 bif Nat.ble n 1 then lh f (List.range n) [] s
 else if h:∃ t,∀ p:List Nat,p.Perm (List.range n)->lh f p [] s=some t then some (Classical.choose h) else none
def Nk (ops:List Oper) (d:Bool) (mo:Operand) (ca cb:Code):Option (Nat × Nat × Nat × Nat):=
 match d,ops,mo,ca,cb with
 |false,[o1,o2],.tmp q,.skip,.exit out=>
  match o1.op,o1.dst,o1.guard,o2.op,o2.dst,o2.guard with
  |.next (.tmp it) false,some tn,none,.extract (.tmp tn') 0,some tm,none=>bif Nat.beq tn tn' && Nat.beq tm q && !Nat.beq tn tm then some (it,tn,tm,out) else none
  |_,_,_,_,_,_=>none
 |_,_,_,_,_=>none
def D9 {O R:Type} (an:pd) (ws:List Nat) (e:Env) (here:X->Bool) (body:{R:Type}->(X->Env->AH O->Option R)->Option R) (K:X->Env->AH O->Option R):Option R:=
 match an with
 |.j false bM _ _=>
  (body fun x e J=>bif here x then some (cW bM e,J) else none).bind fun r=>dO bM 0 r.1 (Env.mask ws e) fun e=>K .norm e r.2
 |.j true bM _ _=>
  cE (body fun x e J=>bif here x then some (Sum.inl (cW bM e,J)) else (K x e J).map Sum.inr) fun r=>dO bM 0 r.1 (Env.mask ws e) fun e=>K .norm e r.2
 |_=>body fun x e J=>bif here x then K .norm e J else K x e J
def X.Sn:X->Bool |.norm=>true |_=>false
def X.Qr (id:Nat):X->Bool |.norm=>true |.exit i=>Nat.beq i id |_=>false
def Vc (c:Nat):X:=if c=3 then .ret else .exit (c - 4)
def D' {R:Type}:List Nat->Nat->(X->Option R)->Option R
 |[],_,_=>none
 |c::cs,s,K=>bif Nat.ble 3 c && Nat.beq s c then K (Vc c) else D' cs s K
def WZ {O:Type} (J:AH O) (b:Nat):Option Nat:=match J.aa b with |some (.loop _ _ st)=>some st.code |_=>none
def gE:Code->List (Array Tmp × Code × Code)
 |.rangeFunc _ ps a b=>(ps,a,b)::(gE a++gE b)
 |.seq a b=>gE a++gE b
 |.cond _ a b=>gE a++gE b
 |.block _ c=>gE c
 |.loop c=>gE c
 |.scope c=>gE c
 |_=>[]
def kA (P:Program) (s:Nat):Option (Array Tmp × Code × Code):=(P.funcs[s / 1000]?).bind fun f=>f.body.bind fun c=>(gE c)[s % 1000]?
def plain:Code->Bool
 |.rangeFunc _ _ _ _=>false
 |.seq a b=>plain a && plain b
 |.cond _ a b=>plain a && plain b
 |.block _ c=>plain c
 |.loop c=>plain c
 |.scope c=>plain c
 |_=>true
noncomputable def exec {O:Type} (P:Program) (G:List (Nat × Sm O)):Code->pd->{R:Type}->Env->AH O->(X->Env->AH O->Option R)->Option R
 |.skip,_,_,e,J,K=>K .norm e J
 |.label _,_,_,e,J,K=>K .norm e J
 |.region _ ops d,an,_,e,J,K=>ph P G d (match an with |.g qB=>qB |.d qB _ _=>qB |_=>[]) ops.toList (match an with |.d _ o _=>o |_=>[]) (match an with |.d _ _ b=>b |_=>[]) e J fun e J=>K .norm e J
 |.seq a b,an,_,e,J,K=>exec P G a an.l e J fun x e J=>
   match x with
   |.norm=>exec P G b an.r e J K
   |x=>K x e J
 |.cond c a b,an,_,e,J,K=>
   match ev e c with
   |.b t=>D9 an (aB a++aB b) e X.Sn (fun K=>bif t then an.l.off (exec P G a an.l e J K) else an.r.off (exec P G b an.r e J K)) K
   |_=>none
 |.block id c,an,_,e,J,K=>D9 an (aB c) e (X.Qr id) (fun K=>exec P G c an.l e J K) K
 |.loop c,an,R,e,J,K=>
   match an with
   |.lp false FK head out l=>
    (bu (S:=List AV × AH O) (T:=List AV × AH O) (fun r=>dO head 0 r.1 (Env.mask (aB c) e) fun e=>exec P G c l e r.2 fun x e J=>
      match x with
      |.norm=>some (Sum.inl (cW head e,J))
      |.exit id=>bif Nat.beq id FK then some (Sum.inr (cW out e,J)) else none
      |.ret=>none) (cW head e,J)).bind fun r=>
     dO out 0 r.1 (Env.mask (aB c) e) fun e=>K (.exit FK) e r.2
   |.lp true FK head out l=>
    cE (bu (S:=List AV × AH O) (T:=(List AV × AH O) ⊕ R) (fun r=>dO head 0 r.1 (Env.mask (aB c) e) fun e=>exec P G c l e r.2 fun x e J=>
      match x with
      |.norm=>some (Sum.inl (cW head e,J))
      |.exit id=>bif Nat.beq id FK then some (Sum.inr (Sum.inl (cW out e,J))) else (K (.exit id) e J).map fun r=>Sum.inr (Sum.inr r)
      |.ret=>(K .ret e J).map fun r=>Sum.inr (Sum.inr r)) (cW head e,J)) fun r=>
     dO out 0 r.1 (Env.mask (aB c) e) fun e=>K (.exit FK) e r.2
   |.lm head l=>
    match c with
    |.seq (.region z9 ops d) (.seq (.cond mo ca cb) body)=>
     match Nk ops.toList d mo ca cb with
     |some (it,tn,tm,out)=>
      bif (aB (.seq (.region z9 ops d) (.seq (.cond mo ca cb) body))).elem it || head.any (fun s=>Nat.beq s.1 tn || Nat.beq s.1 tm) then none else
      (
       WW J (e it)).bind fun q=>(Is J q.1 q.2.1 [] q.2.2.1 q.2.2.2).bind fun _=>
       (
        pj (S:=List AV × AH O) (fun i dn (r:List AV × AH O)=>dO head 0 r.1 (Env.mask (aB (.seq (.region z9 ops d) (.seq (.cond mo ca cb) body))) e) fun e'=>
        exec P G body l ((e'.set tn .u).set tm (.b true)) (r.2.put q.1 (.iter q.2.1 (dn++[i]) q.2.2.1 q.2.2.2)) fun x e' J'=>
         match x with
         |.norm=>(Is J' q.1 q.2.1 (dn++[i]) q.2.2.1 q.2.2.2).bind fun _=>some (cW head e',J'.put q.1 (.iter q.2.1 [] q.2.2.1 q.2.2.2))
         |_=>none) q.2.2.1.length (cW head e,J)).bind fun r=>
        dO head 0 r.1 (Env.mask (aB (.seq (.region z9 ops d) (.seq (.cond mo ca cb) body))) e) fun e'=>K (.exit out) e' (r.2.kill q.1)
     |none=>none
    |_=>none
   |_=>none
 |.exit id,_,_,e,J,K=>K (.exit id) e J
 |.ret,_,_,e,J,K=>K .ret e J
 |.scope c,an,_,e,J,K=>exec P G c an.l e J K
 |.rangeFunc g _ _ _,an,_,e,J,K=>
  match an with
  |.rf site bM outs=>
   match ev e g with
   |.fn f=>
    (
     Il G f site (bM.map fun t=>(t,e t)) J).bind fun r=>
     (WZ r.2 J.next).bind fun s=>bif Nat.beq s 0 then K .norm e (r.2.kill J.next) else D' outs s fun x=>K x e (r.2.kill J.next)
   |_=>none
  |_=>none
 |_,_,_,_,_,_=>none
def orR {O:Type} (a b:Sm O):Sm O:=fun xs J=>match a xs J with |some r=>some r |none=>b xs J
def bp:Code->pd->List (Nat × (Array Tmp × Code × Code))
 |.seq a b,an=>bp a an.l++bp b an.r
 |.cond _ a b,an=>bp a an.l++bp b an.r
 |.block _ c,an=>bp c an.l
 |.loop c,an=>match an with |.lp _ _ _ _ l=>bp c l |.lm _ l=>bp c (.n .z (.n .z l)) |_=>[]
 |.scope c,an=>bp c an.l
 |.rangeFunc _ ps a b,an=>match an with |.rf site _ _=>[(site,(ps,a,b))] |_=>[]
 |_,_=>[]
def Cq {O:Type} (P:Program) (e:Env) (J:AH O):List ResultVar->(List AV->Option (AV × AH O))->Option (AV × AH O)
 |[],K=>K []
 |.tmp t::rs,K=>Cq P e J rs fun vs=>K (e t::vs)
 |.cell a ty::rs,K=>
  (AV.qz (e a)).bind fun q=>bif FJ P ty then loadT J q.1 q.2 (lB P ty) fun v=>Cq P e J rs fun vs=>K (v::vs) else none
def Aa:List AV->AV | [v]=>v |vs=>.aG vs
def Ea {R:Type}:List Ty->Nat->List AV->Env->(Env->Option R)->Option R
 |[],_,_,e,K=>K e
 |ty::Vd,i,xs,e,K=>vG ty (xs.getD i .u) fun v=>Ea Vd (i+1) xs (e.set i v) K
noncomputable def run {O:Type} (P:Program) (G:List (Nat × Sm O)) (f:Func) (an:pd):Sm O:=fun xs J=>
 match f.body with
 |none=>none
 |some c=>
  bif Nat.beq xs.length (f.params.size+f.nfree) then
   Ea (f.params.toList.map (lB P)++List.replicate f.nfree (.one .any)) 0 xs (fun _=>.u) fun e=>
    exec P G c an e J fun x e J=>
     match x with
     |.exit _=>none
     |_=>Cq P e J f.results.toList fun vs=>some (Aa vs,J)
  else none
end Go.Abs
