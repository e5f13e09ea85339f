/-
  AbsCore: an abstract, deterministic reading of the model's code: abstract values, an abstract heap, and 'exec', which runs a function's code on them.
-/
import GoSem.Core.Code
import GoSem.Core.View
import GoSem.Core.Region
import GoSem.Dispatch
set_option linter.unusedVariables false
set_option linter.unusedSimpArgs false
set_option linter.constructorNameAsVariable false
namespace Go.Abs
open Go
mutual
inductive fH where
 |n (b:Nat)
 |f (cs:List AV)
inductive SA where
 |nil
 |z
 |loc (b:fH) (o es:Nat)
inductive AV where
 |u
 |b (x:Bool)
 |i (k:IntKind) (n:Int)
 |s (l:List UInt8)
 |p (a:Option (fH × Nat))
 |sl (a:SA) (len:Nat)
 |mp (r:Option Nat)
 |fn (f:Option (Fn × List AV × List AV))
 |ifc (t:TypeId) (v:AV)
 |zT
 |agg (cs:List AV)
 |aB (vs:List AV)
end
instance:Inhabited fH:=⟨.n 0⟩
instance:Inhabited SA:=⟨.nil⟩
instance:Inhabited AV:=⟨.u⟩
inductive Fs where
 |ready |busy |gone
 |done (j:Option Nat)
def Fs.code:Fs->Nat |.ready=>0 |.busy=>1 |.gone=>2 |.done none=>3 |.done (some id)=>id+4
inductive eY (O:Type) where
 |cells (own:Bool) (el:TypeId) (cs:List AV)
 |obj (o:O)
  |loop (site:Nat) (env:List (Nat × AV)) (st:Fs)
  |map (es:List (AV × AV))
structure AH (O:Type) where
 aa:Nat->Option (eY O)
 next:Nat
section heap
variable {O:Type}
def AH.put (J:AH O) (b:Nat) (x:eY O):AH O:=⟨fun q=>bif Nat.beq q b then some x else J.aa q,J.next⟩
def AH.kill (J:AH O) (b:Nat):AH O:=⟨fun q=>bif Nat.beq q b then none else J.aa q,J.next⟩
def AH.az (J:AH O) (n:Nat):AH O:=⟨J.aa,J.next+n⟩
def AH.ld (J:AH O) (b:fH) (o:Nat):Option AV:=
 match b with
 |.n b=>match J.aa b with
  |some (.cells _ _ cs)=>cs[o]?
  |_=>none
 |.f cs=>cs[o]?
def AH.st (J:AH O) (b:fH) (o:Nat) (vs:List AV):Option (AH O):=
 match b with
 |.n b=>match J.aa b with
  |some (.cells true el cs)=>bif Nat.ble (o+vs.length) cs.length then some (J.put b (.cells true el (cs.take o++vs++cs.drop (o+vs.length)))) else none
  |_=>none
 |.f _=>none
def AH.Bu (J:AH O) (b:fH) (o n:Nat):Option (List AV):=
 match b with
 |.n b=>match J.aa b with
  |some (.cells _ _ cs)=>bif Nat.ble (o+n) cs.length then some ((cs.drop o).take n) else none
  |_=>none
 |.f cs=>bif Nat.ble (o+n) cs.length then some ((cs.drop o).take n) else none
def AH.bT (J:AH O) (a:SA) (n es:Nat):Option (List AV):=
 match a with
 |.loc b o _=>J.Bu b o (n*es)
 |_=>bif Nat.beq n 0 then some [] else none
def AH.zU (J:AH O) (a:SA) (vs:List AV):Option (AH O):=
 match a with
 |.loc b o _=>J.st b o vs
 |_=>none
def AH.cF (J:AH O) (nid el es:Nat) (a:SA) (n m:Nat) (new:List AV):Option (AV × AH O):=
 match a with
 |.loc (.n b) o _=>
  match J.aa b with
  |some (.cells true DT cs)=>
   bif Nat.beq DT el && Nat.ble (o+n*es) cs.length then
    some (.sl (.loc (.n nid) 0 es) (n+m),(J.kill b).put nid (.cells true el ((cs.drop o).take (n*es)++new)))
   else none
  |_=>none
 |.loc (.f _) _ _=>none
 |a=>bif Nat.beq n 0 then (bif Nat.beq m 0 then some (.sl a 0,J) else some (.sl (.loc (.n nid) 0 es) m,J.put nid (.cells true el new))) else none
end heap
def SA.ref:SA->Option (fH × Nat) |.loc b o _=>some (b,o) |_=>none
def SA.B4 (a:SA) (l es:Nat):Option SA:=
 match a with
 |.loc b o vj=>bif Nat.beq vj es then some (.loc b (o+l*es) es) else none
 |a=>some a
noncomputable def PA (p:Prop):Option Unit:=open Classical in if p then some () else none
def py (E:AV->AV->Bool):fH->fH->Bool
 |.n a,.n b=>Nat.beq a b
 |.f xs,.f ys=>B5 E xs ys
 |_,_=>false
where B5 (E:AV->AV->Bool):List AV->List AV->Bool
 |[],[]=>true
 |x::xs,y::ys=>E x y && B5 E xs ys
 |_,_=>false
def Rw (E:AV->AV->Bool):SA->SA->Bool
 |.nil,.nil=>true
 |.z,.z=>true
 |.loc b o e,.loc b' o' e'=>py E b b' && Nat.beq o o' && Nat.beq e e'
 |_,_=>false
def xT:Nat->AV->AV->Bool
 |0,_,_=>false
 |d+1,x,y=>
  match x,y with
  |.u,.u=>true
  |.b x,.b y=>x == y
  |.i k n,.i k' m=>decide (k=k') && decide (n=m)
  |.s l,.s m=>decide (l=m)
  |.p none,.p none=>true
  |.p (some (b,o)),.p (some (b',o'))=>py (xT d) b b' && Nat.beq o o'
  |.sl a n,.sl a' n'=>Rw (xT d) a a' && Nat.beq n n'
  |.mp a,.mp b=>decide (a=b)
  |.fn none,.fn none=>true
  |.ifc t v,.ifc t' v'=>Nat.beq t t' && xT d v v'
  |.zT,.zT=>true
  |.agg xs,.agg ys=>py.B5 (xT d) xs ys
  |.aB xs,.aB ys=>py.B5 (xT d) xs ys
  |_,_=>false
def MD:Option AV->Option AV->Bool
 |some x,some y=>xT 8 x y
 |_,_=>false
def ME:Option (List AV)->Option (List AV)->Bool
 |some x,some y=>py.B5 (xT 8) x y
 |_,_=>false
theorem ja {E:AV->AV->Bool} (hE:∀ x y,E x y=true->x=y):∀ xs ys:List AV,py.B5 E xs ys=true->xs=ys
 |[],[],_=>rfl
 |x::xs,y::ys,h=>by
  simp only [py.B5,Bool.and_eq_true] at h
  rw [hE _ _ h.1,ja hE xs ys h.2]
 |[],_::_,h=>by cases h
 |_::_,[],h=>by cases h
theorem rZ {E:AV->AV->Bool} (hE:∀ x y,E x y=true->x=y) (a b:fH) (h:py E a b=true):a=b:=by
 unfold py at h
 split at h
 ·rw [Nat.eq_of_beq_eq_true h]
 ·rw [ja hE _ _ h]
 ·cases h
theorem B6 {E:AV->AV->Bool} (hE:∀ x y,E x y=true->x=y) (a b:SA) (h:Rw E a b=true):a=b:=by
 unfold Rw at h
 split at h
 ·rfl
 ·rfl
 ·simp only [Bool.and_eq_true] at h
  rw [rZ hE _ _ h.1.1,Nat.eq_of_beq_eq_true h.1.2,Nat.eq_of_beq_eq_true h.2]
 ·cases h
theorem nZ:∀ (d:Nat) (x y:AV),xT d x y=true->x=y
 |0,_,_,h=>by cases h
 |d+1,x,y,h=>by
  have ih:=nZ d
  unfold xT at h
  split at h
  ·rfl
  ·rw [eq_of_beq h]
  ·simp only [Bool.and_eq_true,decide_eq_true_eq] at h;rw [h.1,h.2]
  ·rw [of_decide_eq_true h]
  ·rfl
  ·simp only [Bool.and_eq_true] at h;rw [rZ ih _ _ h.1,Nat.eq_of_beq_eq_true h.2]
  ·simp only [Bool.and_eq_true] at h;rw [B6 ih _ _ h.1,Nat.eq_of_beq_eq_true h.2]
  ·rw [of_decide_eq_true h]
  ·rfl
  ·simp only [Bool.and_eq_true] at h;rw [Nat.eq_of_beq_eq_true h.1,ih _ _ h.2]
  ·rfl
  ·rw [ja ih _ _ h]
  ·rw [ja ih _ _ h]
  ·cases h
noncomputable def aT (x y:Option AV):Option Unit:=bif MD x y then some () else PA (x=y)
noncomputable def Ft (x y:Option (List AV)):Option Unit:=bif ME x y then some () else PA (x=y)
theorem zV {p:Prop} {u:Unit} (h:PA p=some u):p:=by
 unfold PA at h;split at h
 ·assumption
 ·cases h
theorem Fu {x y:Option AV} {u:Unit} (h:aT x y=some u):x=y:=by
 unfold aT at h
 cases hb:MD x y with
 |true=>
  unfold MD at hb
  split at hb
  ·rw [nZ _ _ _ hb]
  ·cases hb
 |false=>rw [hb] at h;exact zV h
theorem Fv {x y:Option (List AV)} {u:Unit} (h:Ft x y=some u):x=y:=by
 unfold Ft at h
 cases hb:ME x y with
 |true=>
  unfold ME at hb
  split at hb
  ·rw [ja (nZ _) _ _ hb]
  ·cases hb
 |false=>rw [hb] at h;exact zV h
abbrev Sm (O:Type):=List AV->AH O->Option (AV × AH O)
abbrev Env:=Nat->AV
def Env.set (e:Env) (d:Nat) (v:AV):Env:=fun t=>bif Nat.beq t d then v else e t
def Env.put (e:Env) (d:Option Nat) (v:AV):Env:=match d with |some d=>e.set d v |none=>e
def Env.mask (ws:List Nat) (e:Env):Env:=fun t=>bif ws.elem t then .u else e t
inductive fm where
 |b |i (k:IntKind) |s |p |sl |f |mp |any
 deriving DecidableEq,Inhabited
def AV.aZ:AV->Option Bool |.b x=>some x |_=>none
def AV.aX (k:IntKind):AV->Option Int |.i k' n=>if k'=k then some n else none |_=>none
def AV.Rx:AV->Option (List UInt8) |.s l=>some l |_=>none
def AV.bD:AV->Option (Option (fH × Nat)) |.p a=>some a |_=>none
def AV.kC:AV->Option (fH × Nat) |.p a=>a |_=>none
def AV.dF:AV->Option (SA × Nat) |.sl a n=>some (a,n) |_=>none
def AV.Hk:AV->Option (Option (Fn × List AV × List AV)) |.fn a=>some a |_=>none
def AV.Fx:AV->Option (Option Nat) |.mp a=>some a |_=>none
def AV.aR:AV->Bool |.u=>false |.agg _=>false |.aB _=>false |_=>true
def gm {R:Type} (l:fm) (v:AV) (K:AV->Option R):Option R:=
 match l with
 |.b=>(AV.aZ v).bind fun x=>K (.b x)
 |.i k=>(AV.aX k v).bind fun n=>K (.i k n)
 |.s=>(AV.Rx v).bind fun x=>K (.s x)
 |.p=>(AV.bD v).bind fun x=>K (.p x)
 |.sl=>(AV.dF v).bind fun x=>K (.sl x.1 x.2)
 |.f=>(AV.Hk v).bind fun x=>K (.fn x)
 |.mp=>(AV.Fx v).bind fun x=>K (.mp x)
 |.any=>K v
inductive Ty where
 |one (l:fm)
 |agg (ls:List fm)
 |aB (ts:List (fm ⊕ List fm))
 deriving Inhabited
def jW (P:Program):Nat->TypeId->List fm
 |0,_=>[]
 |n+1,t=>
  match P.underlying t with
  |some .bool=>[.b]
  |some (.int k)=>[.i k]
  |some .string=>[.s]
  |some (.pointer _)=>[.p]
  |some (.slice _)=>[.sl]
  |some (.func _ _ _)=>[.f]
  |some (.map _ _)=>[.mp]
  |some (.struct fs)=>fs.toList.flatMap fun f=>jW P n f.type
  |some (.array m e)=>(List.replicate m (jW P n e)).flatten
  |_=>[.any]
def V8 (P:Program) (t:TypeId):fm ⊕ List fm:=
 match P.underlying t with
 |some (.struct _) |some (.array _ _)=>.inr (jW P 12 t)
 |_=>.inl ((jW P 12 t).headD .any)
def lD (P:Program) (t:TypeId):Ty:=
 match P.underlying t with
 |some (.tuple ts)=>.aB (ts.toList.map (V8 P))
 |some (.struct _) |some (.array _ _)=>.agg (jW P 12 t)
 |_=>.one ((jW P 12 t).headD .any)
def dW {R:Type}:List fm->Nat->List AV->(List AV->Option R)->Option R
 |[],_,_,K=>K []
 |l::ls,i,vs,K=>gm l (vs.getD i .u) fun v=>dW ls (i+1) vs fun r=>K (v::r)
def AV.asAgg (n:Nat):AV->Option (List AV) |.agg cs=>bif Nat.beq cs.length n then some cs else none |_=>none
def AV.ay (n:Nat):AV->Option (List AV) |.aB cs=>bif Nat.beq cs.length n then some cs else none |_=>none
def as1 {R:Type} (t:fm ⊕ List fm) (v:AV) (K:AV->Option R):Option R:=
 match t with
 |.inl l=>gm l v K
 |.inr ls=>(AV.asAgg ls.length v).bind fun cs=>dW ls 0 cs fun vs=>K (.agg vs)
def xU {R:Type}:List (fm ⊕ List fm)->Nat->List AV->(List AV->Option R)->Option R
 |[],_,_,K=>K []
 |t::ts,i,vs,K=>as1 t (vs.getD i .u) fun v=>xU ts (i+1) vs fun r=>K (v::r)
def vC {R:Type} (t:Ty) (v:AV) (K:AV->Option R):Option R:=
 match t with
 |.one l=>gm l v K
 |.agg ls=>(AV.asAgg ls.length v).bind fun cs=>dW ls 0 cs fun vs=>K (.agg vs)
 |.aB ts=>(AV.ay ts.length v).bind fun cs=>xU ts 0 cs fun vs=>K (.aB vs)
def oc:Value->AV
 |.bool x=>.b x
 |.int k n=>.i k n
 |.string s=>.s s.data.toList
 |.pointer none=>.p none
 |.slice none 0 0=>.sl .nil 0
 |.map none=>.mp none
 |.nilFunc=>.fn none
 |.nilIface=>.zT
 |_=>.u
def lP:Value->AV
 |.agg cs=>bif (cs.toList.map oc).all AV.aR then .agg (cs.toList.map oc) else .u
 |v=>oc v
def ev (e:Env):Operand->AV
 |.tmp t=>e t
 |.const v=>lP v
 |.global _=>.u
 |.func f=>.fn (some (.func f,[],[]))
def AV.cells:AV->List AV
 |.agg cs=>cs
 |v=>[v]
def zeroOf (P:Program) (t:TypeId):Option (List AV):=
 match P.info? t with
 |some i=>match i.zero with
  |some v=>bif (lP v).cells.all AV.aR && Nat.beq (lP v).cells.length i.size then some (lP v).cells else none
  |none=>none
 |none=>none
def tL (P:Program) (t:TypeId):Nat:=match P.info? t with |some i=>i.size |none=>0
def eU {R:Type} (P:Program) (t:TypeId) (F:Nat->Option R):Option R:=match P.info? t with |some i=>F i.size |none=>none
def bytesOf (P:Program) (t:TypeId):Nat:=match P.info? t with |some i=>i.bytes |none=>0
def bG (op:BinOp) (k:IntKind) (x y:Int):Int:=
 let a:=BitVec.ofInt k.bits x
 let c:=BitVec.ofInt k.bits y
 match op with
 |.and=>k.wrap (a &&& c).toNat
 |.or=>k.wrap (a ||| c).toNat
 |.xor=>k.wrap (a ^^^ c).toNat
 |_=>k.wrap (a &&& ~~~c).toNat
def wy {R:Type} (op:BinOp) (k:IntKind) (x y:Int) (K:AV->Option R):Option R:=
 match op with
 |.add=>K (.i k (k.wrap (x+y)))
 |.sub=>K (.i k (k.wrap (x - y)))
 |.mul=>K (.i k (k.wrap (x*y)))
 |.quo=>bif y == 0 then none else K (.i k (k.wrap (x.tdiv y)))
 |.rem=>bif y == 0 then none else K (.i k (x.tmod y))
 |.and=>K (.i k (bG .and k x y))
 |.or=>K (.i k (bG .or k x y))
 |.xor=>K (.i k (bG .xor k x y))
 |.andNot=>K (.i k (bG .andNot k x y))
 |.eql=>K (.b (x == y))
 |.neq=>K (.b (x != y))
 |.lss=>K (.b (decide (x<y)))
 |.leq=>K (.b (decide (x<=y)))
 |.gtr=>K (.b (decide (x > y)))
 |.geq=>K (.b (decide (x>=y)))
 |_=>none
def wz {R:Type} (op:BinOp) (x y:List UInt8) (K:AV->Option R):Option R:=
 match op with
 |.eql=>K (.b (x == y))
 |.neq=>K (.b !(x == y))
 |.lss=>K (.b (Op.bytesLess x y))
 |.leq=>K (.b (Op.bytesLess x y || x == y))
 |.gtr=>K (.b !(Op.bytesLess x y || x == y))
 |.geq=>K (.b !(Op.bytesLess x y))
 |.add=>bif Nat.ble (x.length+y.length) 9223372036854775807 then K (.s (x++y)) else none
 |_=>none
def SA.isNil:SA->Bool |.nil=>true |_=>false
def lQ {R:Type} (op:BinOp) (x:Bool) (K:AV->Option R):Option R:=match op with |.eql=>K (.b x) |.neq=>K (.b !x) |_=>none
def Fy {R:Type} (d:Option TypeDesc) (op:BinOp) (x y:AV) (K:AV->Option R):Option R:=
 match x,y with
 |.i k a,.i k' c=>
  match op with
  |.shl=>bif decide (c<0) then none else K (.i k (k.wrap (a*2 ^ min c.toNat k.bits)))
  |.shr=>bif decide (c<0) then none else K (.i k (a.fdiv (2 ^ min c.toNat k.bits)))
  |op=>if k=k' then wy op k a c K else none
 |.s a,.s c=>wz op a c K
 |.b a,.b c=>match d with |some .bool=>lQ op (a == c) K |_=>none
 |.p a,.p c=>match d with |some (.pointer _)=>bif c.isNone then lQ op a.isNone K else bif a.isNone then lQ op c.isNone K else none |_=>none
 |.sl a _,.sl c _=>match d with |some (.slice _)=>bif c.isNil then lQ op a.isNil K else bif a.isNil then lQ op c.isNil K else none |_=>none
 |.fn a,.fn c=>match d with |some (.func _ _ _)=>bif c.isNone then lQ op a.isNone K else bif a.isNone then lQ op c.isNone K else none |_=>none
 |.mp a,.mp c=>match d with |some (.map _ _)=>bif c.isNone then lQ op a.isNone K else bif a.isNone then lQ op c.isNone K else none |_=>none
 |_,_=>none
def V9 {R:Type} (op:UnOp) (x:AV) (K:AV->Option R):Option R:=
 match op,x with
 |.neg,.i k n=>K (.i k (k.wrap (0 - n)))
 |.xor,.i k n=>K (.i k (bG .xor k (if k.signed then -1 else k.max) n))
 |.not,.b c=>K (.b !c)
 |_,_=>none
def nM (place:Nat->Option (Nat × Nat)) (cells:List AV):List (Nat × AV)->Option (List AV)
 |[]=>some cells
 |(i,v)::rest=>
  match place i with
  |none=>none
  |some (off,size)=>
   bif Nat.beq v.cells.length size && Nat.ble (off+size) cells.length && v.cells.all AV.aR then nM place (cells.take off++v.cells++cells.drop (off+size)) rest else none
section ops
variable {O R:Type} (P:Program)
def ly (J:AH O) (b:fH):List fm->Nat->(List AV->Option R)->Option R
 |[],_,K=>K []
 |l::ls,o,K=>(J.ld b o).bind fun v=>gm l v fun v'=>bif v'.aR then ly J b ls (o+1) fun r=>K (v'::r) else none
def Fz (t:TypeId):Bool:=
 match P.info? t,P.underlying t with
 |some i,some _=>match lD P t with
  |.agg ls=>Nat.beq ls.length i.size
  |.one _=>true
  |.aB _=>false
 |_,_=>false
def loadT (J:AH O) (b:fH) (o:Nat) (t:Ty) (K:AV->Option R):Option R:=
 match t with
 |.one l=>(J.ld b o).bind fun v=>gm l v fun v'=>bif v'.aR then K v' else none
 |.agg ls=>ly J b ls o fun vs=>K (.agg vs)
 |.aB _=>none
def jB:List AV->Option (List UInt8)
 |[]=>some []
 |.i .u8 n::r=>(jB r).map fun l=>UInt8.ofNat n.toNat::l
 |_::_=>none
def lS (t:TypeId) (cs:List AV) (off:Nat) (K:AV->Option R):Option R:=
 match P.info? t,P.underlying t with
 |some i,some _=>match lD P t with
  |.agg _=>K (.agg ((cs.drop off).take i.size))
  |.one l=>(cs[off]?).bind fun v=>gm l v K
  |.aB _=>none
 |_,_=>none
def HU (E:TypeId->AV->AV->Option Bool) (xs ys:List AV):List Field->Option Bool
 |[]=>some true
 |f::fs=>
  if f.name = "_" then HU E xs ys fs
  else (lS P f.type xs f.offset some).bind fun a=>(lS P f.type ys f.offset some).bind fun b=>(E f.type a b).bind fun r=>(HU E xs ys fs).bind fun q=>some (r && q)
def MF (E:TypeId->AV->AV->Option Bool) (e:TypeId) (xs ys:List AV):List Nat->Option Bool
 |[]=>some true
 |i::is=>(lS P e xs (i*P.cellsOf e) some).bind fun a=>(lS P e ys (i*P.cellsOf e) some).bind fun b=>(E e a b).bind fun r=>(MF E e xs ys is).bind fun q=>some (r && q)
def Wa:Nat->TypeId->AV->AV->Option Bool
 |0,_,_,_=>none
 |d+1,t,x,y=>
  match P.underlying t with
  |some .bool=>(AV.aZ x).bind fun a=>(AV.aZ y).bind fun b=>some (a == b)
  |some (.int k)=>(AV.aX k x).bind fun a=>(AV.aX k y).bind fun b=>some (a == b)
  |some .string=>(AV.Rx x).bind fun a=>(AV.Rx y).bind fun b=>some (a == b)
  |some (.struct fs)=>bif P.stoodInHeld t then none else
    match x,y with
    |.agg xs,.agg ys=>HU P (Wa d) xs ys fs.toList
    |_,_=>none
  |some (.array n el)=>
    match x,y with
    |.agg xs,.agg ys=>match P.info? el with |some _=>MF P (Wa d) el xs ys (List.range n) |none=>none
    |_,_=>none
  |_=>none
def pA:Fn->Bool |.yield _=>false |_=>true
def bB (op:Op) (ty:TypeId) (e:Env) (K:AV->Option R):Option R:=
 match op with
 |.move x |.assign x=>K (ev e x)
 |.pick c a b=>
  match ev e c with
  |.b t=>match ev e a,ev e b with
   |.b x,.b y=>K (.b (bif t then x else y))
   |va,vb=>bif t then K va else K vb
  |_=>none
 |.build t parts=>
  match zeroOf P t with
  |none=>none
  |some z=>match P.underlying t with
   |some (.struct fs)=>
    match fs.toList.mapM (fun f=>(P.info? f.type).map fun i=>(f.offset,i.size)) with
    |some B7=>
     match nM (fun i=>B7[i]?) z (parts.toList.map fun x=>(x.1,ev e x.2)) with
     |some cs=>K (.agg cs)
     |none=>none
    |none=>none
   |some (.array _ el)=>
    match P.info? el with
    |some ie=>
     match nM (fun i=>some (i*ie.size,ie.size)) z (parts.toList.map fun x=>(x.1,ev e x.2)) with
     |some cs=>K (.agg cs)
     |none=>none
    |none=>none
   |_=>none
 |.nilCheck x=>
  match ev e x with
  |.p a=>a.bind fun ad=>K (.p (some ad))
  |.fn a=>a.bind fun x=>match x with |(.func f,fi,ca)=>K (.fn (some (.func f,fi,ca))) |_=>none
  |_=>none
 |.binOp op t x y _=>
  match ev e x,ev e y with
  |.agg xs,.agg ys=>bif P.eqGuardType P.depth t then none else (Wa P 8 t (.agg xs) (.agg ys)).bind fun q=>lQ op q K
  |vx,vy=>Fy (P.underlying t) op vx vy K
 |.unOp op _ x=>V9 op (ev e x) K
 |.convert src dst x=>
  match ev e x with
  |.i _ n=>match P.underlying src,P.underlying dst with
   |some _,some (.int k)=>K (.i k (k.wrap n))
   |_,_=>none
  |.s l=>match P.underlying src,P.underlying dst with
   |some _,some .string=>K (.s l)
   |_,_=>none
  |_=>none
 |.makeFunc fn first captured=>bif pA fn then K (.fn (some (fn,first.toList.map (ev e),captured.toList.map (ev e)))) else none
 |.slice t x lo hi mx=>
  match mx,ev e x with
  |none,.sl a n=>
   match P.underlying t with
   |some (.slice el)=>
    match (match lo with |some o=>ev e o |none=>.i .i64 0),(match hi with |some o=>ev e o |none=>.i .i64 n) with
    |.i _ l,.i _ h=>
     bif decide (0<=l) && decide (l<=h) && decide (h<=(n:Int)) then
      eU P el fun es=>(a.B4 l.toNat es).bind fun a'=>K (.sl a' (h.toNat - l.toNat))
     else none
    |_,_=>none
   |_=>none
  |none,.s s=>
   match P.underlying t with
   |some .string=>
    match (match lo with |some o=>ev e o |none=>.i .i64 0),(match hi with |some o=>ev e o |none=>.i .i64 s.length) with
    |.i _ l,.i _ h=>
     bif decide (0<=l) && decide (l<=h) && decide (h<=(s.length:Int)) then K (.s ((s.drop l.toNat).take (h.toNat - l.toNat))) else none
    |_,_=>none
   |_=>none
  |some m,.sl a _=>
   match P.underlying t with
   |some (.slice el)=>
    match (match lo with |some o=>ev e o |none=>.i .i64 0),(match hi with |some o=>ev e o |none=>.u),ev e m with
    |.i _ l,.i _ h,.i _ c=>bif decide (l=0) && decide (h=0) && decide (c=0) then eU P el fun _=>K (.sl (match a with |.nil=>.nil |_=>.z) 0) else none
    |_,_,_=>none
   |_=>none
  |_,_=>none
 |.fieldAddr s x f=>
  match P.underlying s with
  |some (.struct fs)=>match fs[f]? with
   |some fd=>eU P fd.type fun es=>bif Nat.beq es 0 then none else (AV.kC (ev e x)).bind fun q=>K (.p (some (q.1,q.2+fd.offset)))
   |none=>none
  |_=>none
 |.field t x f=>
  match ev e x,P.underlying t with
  |.agg cs,some (.struct fs)=>match fs[f]? with
   |some fd=>lS P fd.type cs fd.offset K
   |none=>none
  |_,_=>none
 |.indexAddr t x ix=>
  match ev e ix with
  |.i _ i=>
   match P.underlying t with
   |some (.array len el)=>bif decide (0<=i) && decide (i<(len:Int)) then eU P el fun es=>(AV.kC (ev e x)).bind fun q=>K (.p (some (q.1,q.2+i.toNat*es))) else none
   |some (.slice el)=>
    match ev e x with
    |.sl a n=>bif decide (0<=i) && decide (i<(n:Int)) then eU P el fun es=>a.ref.bind fun q=>K (.p (some (q.1,q.2+i.toNat*es))) else none
    |_=>none
   |_=>none
  |_=>none
 |.index t x ix=>
  match ev e ix with
  |.i _ i=>match P.underlying t,ev e x with
   |some (.array len el),.agg cs=>
    bif decide (0<=i) && decide (i<(len:Int)) then
     eU P el fun es=>lS P el cs (i.toNat*es) K
    else none
   |some .string,.s s=>bif decide (0<=i) then (s[i.toNat]?).bind fun c=>K (.i .u8 c.toNat) else none
   |_,_=>none
  |_=>none
 |.extract x n=>
  match ev e x with
  |.aB vs=>(vs[n]?).bind fun v=>vC (lD P ty) v K
  |_=>none
 |.call c=>
  match c.callee with
  |.builtin .len=>
   match c.args.toList.map (ev e),c.argTypes.toList with
   |[.s l],[t]=>match P.underlying t with
    |some .string=>K (.i .i64 l.length)
    |_=>none
   |[.sl _ n],[t]=>match P.underlying t with
    |some (.slice _)=>K (.i .i64 n)
    |_=>none
   |_,_=>none
  |.builtin .min=>
   match c.args.toList.map (ev e) with
   |[.i k x,.i k' y]=>if k=k' then K (.i k (if y<x then y else x)) else none
   |[.i k x,.i k' y,.i Wb z]=>if k=k'/\k=Wb then K (.i k (if z<(if y<x then y else x) then z else (if y<x then y else x))) else none
   |_=>none
  |.builtin .max=>
   match c.args.toList.map (ev e) with
   |[.i k x,.i k' y]=>if k=k' then K (.i k (if y > x then y else x)) else none
   |[.i k x,.i k' y,.i Wb z]=>if k=k'/\k=Wb then K (.i k (if z > (if y > x then y else x) then z else (if y > x then y else x))) else none
   |_=>none
  |_=>none
 |_=>none
def aM (op:Op):Bool:=
 match op with
 |.alloc _ |.box .. | .buildSlice .. | .makeSlice .. | .makeMap .. => true
 |.call {callee:=.builtin .append,..}=>true
 |_=>false
def ny (G:List (Nat × Sm O)) (f:Nat):Sm O:=
 match G with
 |[]=>fun _ _=>none
 |(g,s)::r=>bif Nat.beq g f then s else ny r f
abbrev jK:Nat:=1000000
abbrev sI:Nat:=2000000
def pB (G:List (Nat × Sm O)) (x:Option (Fn × List AV × List AV)) (xs:List AV) (J:AH O):Option (AV × AH O):=
 match x with
 |some (.func g,first,captured)=>bif Nat.ble jK g then none else ny G g (first++xs++captured) J
 |some (.yield b,_,_)=>ny G jK (.p (some (.n b,0))::xs) J
 |_=>none
def xV (G:List (Nat × Sm O)) (x:Option (Fn × List AV × List AV)) (site:Nat) (env:List (Nat × AV)) (J:AH O):Option (AV × AH O):=
 match x with
 |some (.func c,fi,ca)=>ny G (c+sI) (fi++[.fn (some (.yield J.next,[],[]))]++ca) ((J.az 1).put J.next (.loop site env .ready))
 |_=>none
def HW (J:AH O) (es:Nat) (z:List AV) (d:TypeDesc) (v:AV) (K:Nat->List AV->Option R):Option R:=
 match d,v with
 |.slice _,.sl a m=>(J.bT a m es).bind fun new=>K m new
 |.string,.s l=>bif Nat.beq es 1 then K l.length (l.map fun c=>.i .u8 c.toNat) else none
 |.int _,.i _ n=>bif decide (0<=n) then K n.toNat ((List.replicate n.toNat z).flatten) else none
 |_,_=>none
def tM (k:IntKind) (n:Int):List (AV × AV)->Option (Option (Nat × AV))
 |[]=>some none
 |(.i k' m,v)::r=>if k=k' then (bif n == m then some (some (0,v)) else (tM k n r).map fun q=>q.map fun x=>(x.1+1,x.2)) else none
 |_=>none
def Wc (r:Option (Nat × AV)) (z:AV):AV:=match r with |some (_,v)=>v |none=>z
def afq (r:Option (Nat × AV)) (es:List (AV × AV)) (k v:AV):List (AV × AV):=match r with |some (i,_)=>es.set i (k,v) |none=>es++[(k,v)]
def afr (r:Option (Nat × AV)) (es:List (AV × AV)):List (AV × AV):=match r with |some (i,_)=>es.eraseIdx i |none=>es
def zeroV (P:Program) (t:TypeId):Option AV:=match P.info? t with |some i=>i.zero.map lP |none=>none
def tN {O:Type} (J:AH O):AV->Option (List (AV × AV))
 |.mp none=>some []
 |.mp (some b)=>match J.aa b with
  |some (.map es)=>some es
  |_=>none
 |_=>none
def tO (P:Program) (kt:TypeId) (v:AV):Option (IntKind × Int):=match P.underlying kt,v with |some (.int k),.i k' n=>if k=k' then some (k,n) else none |_,_=>none
def dX (G:List (Nat × Sm O)) (op:Op) (ty:TypeId) (e:Env) (J:AH O) (nid:Nat) (K:AV->AH O->Option R):Option R:=
 match op with
 |.alloc t=>
  match zeroOf P t with
  |some cs=>K (.p (some (.n nid,0))) (J.put nid (.cells true t cs))
  |none=>none
 |.box t x=>bif (ev e x).cells.all AV.aR then K (.p (some (.n nid,0))) (J.put nid (.cells true t (ev e x).cells)) else none
 |.buildSlice t n parts=>
  match P.underlying t with
  |some (.slice el)=>
    match zeroOf P el with
    |some z=>
     bif Nat.ble (n*z.length) 16777216 && Nat.ble n 16777216 then
     match nM (fun i=>some (i*z.length,z.length)) ((List.replicate n z).flatten) (parts.toList.map fun x=>(x.1,ev e x.2)) with
     |some cs=>K (.sl (.loc (.n nid) 0 z.length) n) (J.put nid (.cells true el cs))
     |none=>none
     else none
    |none=>none
  |_=>none
 |.makeSlice t l c=>
  match P.underlying t,ev e l,ev e c with
  |some (.slice el),.i _ n,.i _ m=>
   bif decide (0<=n) && decide (n<=m) && decide (m*bytesOf P el<=140737488355328) && decide (m<=140737488355328) then
    match zeroOf P el with
    |some z=>K (.sl (.loc (.n nid) 0 z.length) n.toNat) (J.put nid (.cells true el ((List.replicate n.toNat z).flatten)))
    |none=>none
   else none
  |_,_,_=>none
 |.load t a=>
  (AV.kC (ev e a)).bind fun q=>bif Fz P t then loadT J q.1 q.2 (lD P t) fun v=>K v J else none
 |.store t a x=>
  (AV.kC (ev e a)).bind fun q=>eU P t fun es=>bif Nat.beq (ev e x).cells.length es && (ev e x).cells.all AV.aR then (J.st q.1 q.2 (ev e x).cells).bind fun J'=>K .u J' else none
 |.convert src dst x=>
  match ev e x with
  |.sl a n=>match P.underlying src,P.underlying dst with
   |some (.slice el),some .string=>match P.underlying el with
    |some (.int .u8)=>(J.bT a n 1).bind fun cs=>(jB cs).bind fun l=>K (.s l) J
    |_=>none
   |_,_=>none
  |_=>bB P op ty e fun v=>K v J
 |.makeMap t r=>
  match P.underlying t with
  |some (.map _ _)=>bif (match r with |none=>true |some x=>match ev e x with |.i _ _=>true |_=>false) then K (.mp (some nid)) (J.put nid (.map [])) else none
  |_=>none
 |.lookup t x ix ok=>
  match P.underlying t with
  |some (.map kt et)=>
   (
    tO P kt (ev e ix)).bind fun q=>(tN J (ev e x)).bind fun es=>(tM q.1 q.2 es).bind fun r=>(zeroV P et).bind fun z=>
    vC (lD P et) (Wc r z) fun v=>K (bif ok then .aB [v,.b r.isSome] else v) J
  |_=>none
 |.mapUpdate t m x y=>
  match P.underlying t with
  |some (.map kt _)=>
   (
    tO P kt (ev e x)).bind fun q=>(AV.Fx (ev e m)).bind fun mo=>mo.bind fun b=>(tN J (.mp (some b))).bind fun es=>(tM q.1 q.2 es).bind fun r=>
    K .u (J.put b (.map (afq r es (.i q.1 q.2) (ev e y))))
  |_=>none
 |.call c=>
  match c.callee with
  |.value f=>
   match ev e f with
   |.fn x=>(pB G x (c.args.toList.map (ev e)) J).bind fun r=>vC (lD P ty) r.1 fun v=>K v r.2
   |_=>none
  |.builtin .append=>
   match c.args.toList.map (ev e),c.argTypes.toList with
   |[.sl a n,v],[t,t']=>
    match P.underlying t,P.underlying t' with
    |some (.slice el),some d'=>
     match zeroOf P el with
     |none=>none
     |some z=>
     eU P el fun es=>
     bif Nat.beq z.length es then
      HW J es z d' v fun m new=>bif Nat.ble ((n+m)*(bytesOf P el+1)) 35184372088832 then (J.cF nid el es a n m new).bind fun r=>gm .sl r.1 fun v=>K v r.2 else none
     else none
    |_,_=>none
   |_,_=>none
  |.builtin .copy=>
   match c.args.toList.map (ev e),c.argTypes.toList with
   |[.sl a n,.sl a' m],[t,_]=>
    match P.underlying t with
    |some (.slice el)=>
     eU P el fun es=>
     bif Nat.beq (min m n) 0 then K (.i .i64 0) J else
      (J.bT a' (min m n) es).bind fun cs=>(J.zU a cs).bind fun J'=>K (.i .i64 (min m n:Nat)) J'
    |_=>none
   |_,_=>none
  |.builtin .clear=>
   match c.args.toList.map (ev e),c.argTypes.toList with
   |[.sl a n],[t]=>
    match P.underlying t with
    |some (.slice el)=>
     bif Nat.beq n 0 then K (.aB []) J else
      match zeroOf P el with
      |some z=>(J.zU a ((List.replicate n z).flatten)).bind fun J'=>K (.aB []) J'
      |none=>none
    |_=>none
   |_,_=>none
  |.builtin .delete=>
   match c.args.toList.map (ev e),c.argTypes.toList with
   |[m,x],[t,_]=>
    match P.underlying t with
    |some (.map kt _)=>
     (
      tO P kt x).bind fun q=>(AV.Fx m).bind fun mo=>mo.bind fun b=>(tN J (.mp (some b))).bind fun es=>(tM q.1 q.2 es).bind fun r=>
      K (.aB []) (J.put b (.map (afr r es)))
    |_=>none
   |_,_=>none
  |_=>bB P op ty e fun v=>K v J
 |op=>bB P op ty e fun v=>K v J
end ops
def turns (op:Op):Bool:=
 match op with
 |.store .. => true
 |.makeMap .. => true
 |.lookup .. => true
 |.mapUpdate .. => true
 |.call c=>match c.callee with
  |.builtin .len=>false
  |.builtin .min=>false
  |.builtin .max=>false
  |_=>true
 |_=>false
def cA (op:Op):Bool:=match op with |.load .. => true |.convert .. => true |_=>false
def pC (ops:List Oper):List Nat:=
 ops.foldl (fun acc o=>acc++[o.after.toList.foldl (fun s e=>bif Region.binds .any e then Nat.lor (Nat.lor s (2 ^ e.on)) (acc.getD e.on 0) else s) 0]) []
def bit (m i:Nat):Bool:=Nat.beq ((m / 2 ^ i) % 2) 1
def lT (ops:List Oper) (o:Oper):List Nat:=
 (
  o.op.operands.toList.filterMap fun x=>match x with |.tmp t=>some t |_=>none)++
  (match o.guard with |some (j,_)=>(match ops[j]? with |some oj=>oj.dst.toList |none=>[]) |none=>[])
def xW (ops:List Oper) (x y:Oper):Bool:=
 (match x.dst with |some d=>(lT ops y).elem d || (match y.dst with |some d'=>Nat.beq d d' | none=>false) |none=>false) ||
 (match y.dst with |some d=>(lT ops x).elem d |none=>false)
def xX (ops:List Oper) (fI:List Nat) (i i':Nat):Bool:=
 match ops[i]?,ops[i']? with
 |some o,some o'=>
  !Nat.beq i i' && !bit (fI.getD i 0) i' &&
  (bit (fI.getD i' 0) i || (!xW ops o o' && !(turns o.op && (turns o'.op || cA o'.op)) && !(aM o.op && !turns o.op && turns o'.op)))
 |_,_=>false
def DU (ops:List Oper) (fI:List Nat):List Nat->Bool
 |[]=>true
 |i::r=>r.all (xX ops fI i) && DU ops fI r
def PB (o:Oper):Bool:=match o.op with |.select .. => false |.defer _=>false |.recv .. => false |_=>true
def sZ (ops:List Oper):List Nat->List Nat->Bool
 |_,[]=>true
 |done,i::r=>(match ops[i]? with |some o=>o.after.toList.all (fun e => !Region.binds .any e || done.elem e.on) |none=>false) && sZ ops (i::done) r
def jC (ops:List Oper):List Nat->Nat->Nat
 |[],n=>n
 |q::r,n=>jC ops r (match ops[q]? with |some o=>bif aM o.op then n+1 else n |none=>n)
def dY (ops:List Oper):Nat:=(ops.filter fun o=>aM o.op).length
def xY (ops:List Oper) (fI l:List Nat):Bool:=
 Nat.beq l.length ops.length && l.all (fun i=>Nat.blt i ops.length) && (List.range ops.length).all (fun i=>l.elem i) && DU ops fI l && ops.all PB && sZ ops [] l && Nat.beq (jC ops l 0) (dY ops)
def kD (bf:List Nat):List Oper->Nat->Bool
 |[],k=>Nat.beq bf.length k
 |o::r,k=>Nat.beq (bf.getD k 0) (o.after.toList.foldl (fun s e=>bif Region.binds .any e then Nat.lor (Nat.lor s (2 ^ e.on)) ((bf.take k).getD e.on 0) else s) 0) && kD bf r (k+1)
structure LdC (O:Type) where
 p:AH O->Prop
 c:AH O->Option Unit
 h:∀ J u,c J=some u->p J
structure RS (O:Type) where
 e:Env
 J:AH O
 nid:Nat
 dec:List Nat
 cA:List (Nat × LdC O)
section region
variable {O:Type} (P:Program) (G:List (Nat × Sm O)) (fI:List Nat) (dr:Bool)
def HX {R:Type} (j:Nat) (J:AH O):List (Nat × LdC O)->Option R->Option R
 |[],K=>K
 |(i,p)::r,K=>bif bit (fI.getD j 0) i then HX j J r K else (p.c J).bind fun _=>HX j J r K
noncomputable def xZ (i:Nat) (b:fH) (o:Nat):List AV->List (Nat × LdC O)
 |[]=>[]
 |v::vs=>(i,⟨fun J=>J.ld b o=some v,fun J=>aT (J.ld b o) (some v),fun _ _ h=>Fu h⟩)::xZ i b (o+1) vs
noncomputable def wA {R:Type} (i:Nat) (o:Oper) (s:RS O) (K:RS O->Option R):Option R:=
 dX P G o.op o.type s.e s.J s.nid fun v J'=>
  let s':RS O:={s with e:=s.e.put o.dst v,J:=J',nid:=bif aM o.op then s.nid+1 else s.nid}
  bif dr then
   match o.op with
   |.load _ a=>(AV.kC (ev s.e a)).bind fun q=>K {s' with cA:=s.cA++xZ i q.1 q.2 v.cells}
   |.convert _ _ x=>match ev s.e x with
    |.sl a n=>K {s' with cA:=s.cA++[(i,⟨fun J2=>J2.bT a n 1=s.J.bT a n 1,fun J2=>Ft (J2.bT a n 1) (s.J.bT a n 1),fun _ _ h=>Fv h⟩)]}
    |_=>K s'
   |op=>bif turns op then HX fI i J' s.cA (K s') else K s'
  else K s'
end region
inductive og where
 |z
 |n (l r:og)
  |j (sum:Bool) (bM:List (Nat × Ty)) (l r:og)
  |g (qL:List (Nat × Nat × List (Nat × Ty)))
  |d (qL:List (Nat × Nat × List (Nat × Ty))) (ord bf:List Nat)
  |lp (sum:Bool) (FB:Nat) (head out:List (Nat × Ty)) (l:og)
  |rf (site:Nat) (bM:List Nat) (outs:List Nat)
  |x
 deriving Inhabited
def og.off {R:Type} (an:og) (k:Option R):Option R:=match an with |.x=>none |_=>k
theorem og.zW {R:Type} {an:og} {k:Option R} {r:R} (h:an.off k=some r):k=some r:=by
 cases an<;>first |exact h |cases h
def og.l:og->og |.n l _=>l |.j _ _ l _=>l |_=>.z
def og.r:og->og |.n _ r=>r |.j _ _ _ r=>r |_=>.z
def dV {R:Type}:List (Nat × Ty)->Nat->List AV->Env->(Env->Option R)->Option R
 |[],_,_,e,K=>K e
 |(t,ty)::rest,i,vs,e,K=>vC ty (vs.getD i .u) fun v=>dV rest (i+1) vs (e.set t v) K
def fA (bM:List (Nat × Ty)) (e:Env):List AV:=bM.map fun s=>e s.1
def cv {S R:Type} (m:Option (S ⊕ R)) (f:S->Option R):Option R:=
 match m with
 |some (.inl s)=>f s
 |some (.inr r)=>some r
 |none=>none
section regions
variable {O:Type} (P:Program) (G:List (Nat × Sm O)) (fI:List Nat) (dr:Bool) (qL:List (Nat × Nat × List (Nat × Ty))) (ops:List Oper)
def fG (len:Nat) (j:Nat):List (Nat × Nat × List (Nat × Ty))->Nat × List (Nat × Ty)
 |[]=>(len,[])
 |x::r=>bif Nat.beq x.1 j then x.2 else fG len j r
def qM (l:List Nat):List Nat:=l.filterMap fun q=>match ops[q]? with |some o=>o.dst |none=>none
def x7 (l1 l2:List Nat):Bool:=
 l1.all fun q=>match ops[q]? with
  |some o => !cA o.op || l2.all fun q'=>match ops[q']? with |some o' => !turns o'.op || bit (fI.getD q' 0) q |none=>false
  |none=>false
noncomputable def qN:Nat->List Nat->{R:Type}->RS O->(RS O->Option R)->Option R
 |0,l,_,s,K=>match l with | []=>K s |_=>none
 |f+1,l,_,s,K=>
  match l with
  |[]=>K s
  |i::rest=>
   match ops[i]? with
   |none=>none
   |some o=>
    match o.guard with
    |none=>wA P G fI dr i o s fun s'=>qN f rest s' K
    |some (j,gV)=>
     match ops[j]? with
     |none=>none
     |some oj=>
      match oj.dst with
      |none=>none
      |some d=>
       match s.e d with
       |.b t=>
        bif s.dec.elem j then
         bif t == gV then wA P G fI dr i o s fun s'=>qN f rest s' K
         else qN f rest {s with e:=s.e.put o.dst (.aB []),nid:=bif aM o.op then s.nid+1 else s.nid} K
        else
         bif dr && !x7 fI ops (i::rest.take (fG rest.length j qL).1) (rest.drop (fG rest.length j qL).1) then none else
         (
          bif t == gV then
          wA P G fI dr i o {s with e:=s.e.set d (.b gV),dec:=j::s.dec} fun s'=>
           qN f (rest.take (fG rest.length j qL).1) (R:=List AV × AH O) s' fun s=>some (fA (fG rest.length j qL).2 s.e,s.J)
         else
          qN f (rest.take (fG rest.length j qL).1) (R:=List AV × AH O) {s with e:=(s.e.set d (.b !gV)).put o.dst (.aB []),dec:=j::s.dec,nid:=bif aM o.op then s.nid+1 else s.nid} fun s=>some (fA (fG rest.length j qL).2 s.e,s.J)).bind fun r=>
          dV (fG rest.length j qL).2 0 r.1 (Env.mask (qM ops (i::rest.take (fG rest.length j qL).1)) s.e) fun e=>
           qN f (rest.drop (fG rest.length j qL).1) {s with e:=e,J:=r.2,nid:=jC ops (i::rest.take (fG rest.length j qL).1) s.nid} K
       |.aB []=>qN f rest {s with e:=s.e.put o.dst (.aB []),nid:=bif aM o.op then s.nid+1 else s.nid} K
       |_=>none
def tP (ops:List Oper):List Nat:=ops.filterMap (·.dst)
noncomputable def pD (ord bf:List Nat) {R:Type} (e:Env) (J:AH O) (K:Env->AH O->Option R):Option R:=
 let s:RS O:=⟨e,bif Nat.beq (dY ops) 0 then J else J.az (dY ops),J.next,[],[]⟩
 bif dr then
  bif kD bf ops 0 && xY ops bf ord then qN P G bf true qL ops ops.length ord s fun s=>K s.e s.J else none
 else qN P G [] false qL ops ops.length (List.range ops.length) s fun s=>K s.e s.J
end regions
inductive X where
 |norm
 |exit (id:Nat)
 |ret
 deriving DecidableEq,Inhabited
def aU:Code->List Nat
 |.region _ ops _=>tP ops.toList
 |.seq a b=>aU a++aU b
 |.cond _ a b=>aU a++aU b
 |.block _ c=>aU c
 |.loop c=>aU c
 |.scope c=>aU c
 |.rangeFunc _ ps a b=>ps.toList++(aU a++aU b)
 |_=>[]
def fB {S T:Type} (f:S->Option (S ⊕ T)):Nat->S->Option T
 |0,_=>none
 |n+1,s=>cv (f s) (fB f n)
open Classical in
noncomputable def bC {S T:Type} (f:S->Option (S ⊕ T)) (s:S):Option T:=
 match fB f 65536 s with
 |some t=>some t
 |none=>if h:∃ n t,fB f n s=some t then some (Classical.choose (Classical.choose_spec h)) else none
def DV {O R:Type} (an:og) (ws:List Nat) (e:Env) (here:X->Bool) (body:{R:Type}->(X->Env->AH O->Option R)->Option R) (K:X->Env->AH O->Option R):Option R:=
 match an with
 |.j false bM _ _=>
  (body fun x e J=>bif here x then some (fA bM e,J) else none).bind fun r=>dV bM 0 r.1 (Env.mask ws e) fun e=>K .norm e r.2
 |.j true bM _ _=>
  cv (body fun x e J=>bif here x then some (Sum.inl (fA bM e,J)) else (K x e J).map Sum.inr) fun r=>dV bM 0 r.1 (Env.mask ws e) fun e=>K .norm e r.2
 |_=>body fun x e J=>bif here x then K .norm e J else K x e J
def X.Ry:X->Bool |.norm=>true |_=>false
def X.PC (id:Nat):X->Bool |.norm=>true |.exit i=>Nat.beq i id |_=>false
def Um (c:Nat):X:=if c=3 then .ret else .exit (c - 4)
def DW {R:Type}:List Nat->Nat->(X->Option R)->Option R
 |[],_,_=>none
 |c::cs,s,K=>bif Nat.ble 3 c && Nat.beq s c then K (Um c) else DW cs s K
def MG {O:Type} (J:AH O) (b:Nat):Option Nat:=match J.aa b with |some (.loop _ _ st)=>some st.code |_=>none
def pE {O:Type} (J:AH O) (b:Nat) (st:Fs):Option (AH O):=match J.aa b with |some (.loop s env _)=>some (J.put b (.loop s env st)) |_=>none
def zX {O:Type} (J:AH O) (b:Nat):Option (AH O):=match J.aa b with |some (.loop s env .ready)=>some (J.put b (.loop s env .busy)) |_=>none
def tQ (l:List (Nat × AV)):Env:=fun t=>match l with | []=>.u |(q,v)::l=>bif Nat.beq t q then v else tQ l t
def eZ:Code->List (Array Tmp × Code × Code)
 |.rangeFunc _ ps a b=>(ps,a,b)::(eZ a++eZ b)
 |.seq a b=>eZ a++eZ b
 |.cond _ a b=>eZ a++eZ b
 |.block _ c=>eZ c
 |.loop c=>eZ c
 |.scope c=>eZ c
 |_=>[]
def gW (P:Program) (s:Nat):Option (Array Tmp × Code × Code):=(P.funcs[s / 1000]?).bind fun f=>f.body.bind fun c=>(eZ c)[s % 1000]?
def plain:Code->Bool
 |.rangeFunc _ _ _ _=>false
 |.seq a b=>plain a && plain b
 |.cond _ a b=>plain a && plain b
 |.block _ c=>plain c
 |.loop c=>plain c
 |.scope c=>plain c
 |_=>true
noncomputable def exec {O:Type} (P:Program) (G:List (Nat × Sm O)):Code->og->{R:Type}->Env->AH O->(X->Env->AH O->Option R)->Option R
 |.skip,_,_,e,J,K=>K .norm e J
 |.label _,_,_,e,J,K=>K .norm e J
 |.region _ ops d,an,_,e,J,K=>pD P G d (match an with |.g qL=>qL |.d qL _ _=>qL |_=>[]) ops.toList (match an with |.d _ o _=>o |_=>[]) (match an with |.d _ _ b=>b |_=>[]) e J fun e J=>K .norm e J
 |.seq a b,an,_,e,J,K=>exec P G a an.l e J fun x e J=>
   match x with
   |.norm=>exec P G b an.r e J K
   |x=>K x e J
 |.cond c a b,an,_,e,J,K=>
   match ev e c with
   |.b t=>DV an (aU a++aU b) e X.Ry (fun K=>bif t then an.l.off (exec P G a an.l e J K) else an.r.off (exec P G b an.r e J K)) K
   |_=>none
 |.block id c,an,_,e,J,K=>DV an (aU c) e (X.PC id) (fun K=>exec P G c an.l e J K) K
 |.loop c,an,R,e,J,K=>
   match an with
   |.lp false FB head out l=>
    (bC (S:=List AV × AH O) (T:=List AV × AH O) (fun r=>dV head 0 r.1 (Env.mask (aU c) e) fun e=>exec P G c l e r.2 fun x e J=>
      match x with
      |.norm=>some (Sum.inl (fA head e,J))
      |.exit id=>bif Nat.beq id FB then some (Sum.inr (fA out e,J)) else none
      |.ret=>none) (fA head e,J)).bind fun r=>
     dV out 0 r.1 (Env.mask (aU c) e) fun e=>K (.exit FB) e r.2
   |.lp true FB head out l=>
    cv (bC (S:=List AV × AH O) (T:=(List AV × AH O) ⊕ R) (fun r=>dV head 0 r.1 (Env.mask (aU c) e) fun e=>exec P G c l e r.2 fun x e J=>
      match x with
      |.norm=>some (Sum.inl (fA head e,J))
      |.exit id=>bif Nat.beq id FB then some (Sum.inr (Sum.inl (fA out e,J))) else (K (.exit id) e J).map fun r=>Sum.inr (Sum.inr r)
      |.ret=>(K .ret e J).map fun r=>Sum.inr (Sum.inr r)) (fA head e,J)) fun r=>
     dV out 0 r.1 (Env.mask (aU c) e) fun e=>K (.exit FB) e r.2
   |_=>none
 |.exit id,_,_,e,J,K=>K (.exit id) e J
 |.ret,_,_,e,J,K=>K .ret e J
 |.scope c,an,_,e,J,K=>exec P G c an.l e J K
 |.rangeFunc g _ _ _,an,_,e,J,K=>
  match an with
  |.rf site bM outs=>
   match ev e g with
   |.fn f=>
    (
     xV G f site (bM.map fun t=>(t,e t)) J).bind fun r=>
     (MG r.2 J.next).bind fun s=>bif Nat.beq s 0 then K .norm e (r.2.kill J.next) else DW outs s fun x=>K x e (r.2.kill J.next)
   |_=>none
  |_=>none
 |_,_,_,_,_,_=>none
def x8 {O:Type} (site n:Nat) (F:Env->List AV->Nat->AH O->Option (AV × AH O)):Sm O:=fun xs J=>
 match xs with
 |.p (some (.n b,_))::ys=>
  match J.aa b with
  |some (.loop s env .ready)=>bif Nat.beq s site && Nat.beq ys.length n then F (tQ env) ys b J else none
  |_=>none
 |_=>none
noncomputable def B8 {O:Type} (P:Program) (G:List (Nat × Sm O)) (site:Nat) (ps:List Nat) (DX body:Code) (Hl FD:List (Nat × Ty)) (an:og):Sm O:=x8 site ps.length fun env ys b J=>
 dV Hl 0 (Hl.map fun p=>env p.1) (fun _=>.u) fun e=>dV FD 0 ys e fun e=>
  exec P G DX an.l e J fun x e J=>
   match x with
   |.norm=>(zX J b).bind fun J=>exec P G body an.r e J fun x _ J=>
     match x with
     |.norm=>(pE J b .ready).bind fun J=>some (.b true,J)
     |.ret=>(pE J b (.done none)).bind fun J=>some (.b false,J)
     |.exit id=>(pE J b (.done (some id))).bind fun J=>some (.b false,J)
   |_=>none
def distinct:List Nat->Bool
 |[]=>true
 |t::ts => !ts.elem t && distinct ts
noncomputable def x9 {O:Type} (P:Program) (G:List (Nat × Sm O)) (f:Nat) (fn:Func) (i:Nat) (Hl FD:List (Nat × Ty)) (an:og):Sm O:=
 match fn.body with
 |none=>fun _ _=>none
 |some c=>
  match (eZ c)[i]? with
  |none=>fun _ _=>none
  |some x=>bif plain x.2.1 && plain x.2.2 && Nat.blt i 1000 && (FD.map (·.1) == x.1.toList) && distinct (Hl.map (·.1)++FD.map (·.1)) then
    B8 P G (f*1000+i) x.1.toList x.2.1 x.2.2 Hl FD an else fun _ _=>none
def orR {O:Type} (a b:Sm O):Sm O:=fun xs J=>match a xs J with |some r=>some r |none=>b xs J
def bE:Code->og->List (Nat × (Array Tmp × Code × Code))
 |.seq a b,an=>bE a an.l++bE b an.r
 |.cond _ a b,an=>bE a an.l++bE b an.r
 |.block _ c,an=>bE c an.l
 |.loop c,an=>match an with |.lp _ _ _ _ l=>bE c l |_=>[]
 |.scope c,an=>bE c an.l
 |.rangeFunc _ ps a b,an=>match an with |.rf site _ _=>[(site,(ps,a,b))] |_=>[]
 |_,_=>[]
def B9 {O:Type} (P:Program) (e:Env) (J:AH O):List ResultVar->(List AV->Option (AV × AH O))->Option (AV × AH O)
 |[],K=>K []
 |.tmp t::rs,K=>B9 P e J rs fun vs=>K (e t::vs)
 |.cell a ty::rs,K=>
  (AV.kC (e a)).bind fun q=>bif Fz P ty then loadT J q.1 q.2 (lD P ty) fun v=>B9 P e J rs fun vs=>K (v::vs) else none
def zY:List AV->AV | [v]=>v |vs=>.aB vs
def DY {R:Type}:List Ty->Nat->List AV->Env->(Env->Option R)->Option R
 |[],_,_,e,K=>K e
 |ty::Un,i,xs,e,K=>vC ty (xs.getD i .u) fun v=>DY Un (i+1) xs (e.set i v) K
noncomputable def run {O:Type} (P:Program) (G:List (Nat × Sm O)) (f:Func) (an:og):Sm O:=fun xs J=>
 match f.body with
 |none=>none
 |some c=>
  bif Nat.beq xs.length (f.params.size+f.nfree) then
   DY (f.params.toList.map (lD P)++List.replicate f.nfree (.one .any)) 0 xs (fun _=>.u) fun e=>
    exec P G c an e J fun x e J=>
     match x with
     |.exit _=>none
     |_=>B9 P e J f.results.toList fun vs=>some (zY vs,J)
  else none
end Go.Abs
