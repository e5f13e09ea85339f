/-
  AbsRel: how abstract values and heaps stand to the model's, and what moves keep it.
-/
import Derived.Test.YtncohicmiihjiaaGreatAbsCore
import Derived.Calls
import Derived.Orders
import Derived.LoopN
import Derived.Laws.Sem
import Derived.Laws.World
import Derived.Laws.Cells
import Derived.Laws.Rows
import Derived.Laws.Append
import Derived.RangeFuncRecord
import Derived.Laws.AppendOwn
import Derived.Laws.CopyRow
import GoSem.ClaimData
set_option linter.unusedVariables false
set_option linter.unusedSimpArgs false
set_option linter.constructorNameAsVariable false
namespace Go.Abs
open Go
structure Loc where
 B:Nat
 O:Nat
 size:Nat
 es:Nat
structure bX where
 loc:Nat->Option Loc
 fz:Nat->Nat->Option Value
instance:CoeFun bX (fun _=>Nat->Option Loc):=⟨bX.loc⟩
abbrev Fp:=Nat->Nat->Option Obj
mutual
inductive aK (ρ:bX):AV->Value->Prop
 |u (v:Value):aK ρ .u v
 |b (x:Bool):aK ρ (.b x) (.bool x)
 |i (k:IntKind) (n:Int):aK ρ (.i k n) (.int k n)
 |s (s:ByteArray):aK ρ (.s s.data.toList) (.string s)
 |pn:aK ρ (.p none) (.pointer none)
 |p (b:fH) (o:Nat) (L:Loc) (h:iZ ρ b L):aK ρ (.p (some (b,o))) (.pointer (some ⟨L.B,L.O+o,none⟩))
 |B1:aK ρ (.sl .nil 0) (.slice none 0 0)
 |zD (a:Addr):aK ρ (.sl .z 0) (.slice (some a) 0 0)
 |Bz (b:fH) (o es:Nat) (a:Addr):aK ρ (.sl (.loc b o es) 0) (.slice (some a) 0 0)
 |sl (b:fH) (o n cap:Nat) (L:Loc) (h:iZ ρ b L) (h1:n<=cap) (h2:cap<=maxLen) (h3:o+cap*L.es<=L.size):aK ρ (.sl (.loc b o L.es) n) (.slice (some ⟨L.B,L.O+o,none⟩) n cap)
 |mpn:aK ρ (.mp none) (.map none)
 |mp (b:Nat) (L:Loc) (h:iZ ρ (.n b) L):aK ρ (.mp (some b)) (.map (some L.B))
 |fnn:aK ρ (.fn none) .nilFunc
 |yl (b:Nat) (L:Loc) (h:iZ ρ (.n b) L):aK ρ (.fn (some (.yield b,[],[]))) (.func (.yield L.B) #[] #[])
 |fn (f:Fn) (fi ca:List AV) (yi yj:List Value) (hf:∀ l,f≠.yield l) (h1:aL ρ fi yi) (h2:aL ρ ca yj):aK ρ (.fn (some (f,fi,ca))) (.func f yi.toArray yj.toArray)
 |zT:aK ρ .zT .nilIface
 |agg (cs:List AV) (vs:List Value) (h1:aL ρ cs vs) (h2:cs.all AV.aR=true):aK ρ (.agg cs) (.agg vs.toArray)
 |aB (cs:List AV) (vs:List Value) (h1:aL ρ cs vs):aK ρ (.aB cs) (.tuple vs.toArray)
inductive aL (ρ:bX):List AV->List Value->Prop
 |nil:aL ρ [] []
 |cons (v:AV) (u:Value) (vs:List AV) (us:List Value) (h1:aK ρ v u) (h2:aL ρ vs us):aL ρ (v::vs) (u::us)
inductive iZ (ρ:bX):fH->Loc->Prop
 |n (b:Nat) (L:Loc) (h:ρ b=some L):iZ ρ (.n b) L
 |f (cs:List AV) (us:List Value) (L:Loc) (h1:aL ρ cs us) (h2:cs.all AV.aR=true) (h3:∀ i u,us[i]? = some u->ρ.fz L.B (L.O+i)=some u):iZ ρ (.f cs) L
end
structure bX.le (ρ aQ:bX):Prop where
 l:∀ b L,ρ b=some L->aQ b=some L
 f:∀ B O u,ρ.fz B O=some u->aQ.fz B O=some u
theorem bX.le_refl (ρ:bX):ρ.le ρ:=⟨fun _ _ h=>h,fun _ _ _ h=>h⟩
theorem bX.le.trans {a b c:bX} (h:a.le b) (k:b.le c):a.le c:=⟨fun _ _ x=>k.l _ _ (h.l _ _ x),fun _ _ _ x=>k.f _ _ _ (h.f _ _ _ x)⟩
theorem iZ.Ac {ρ:bX} {b:Nat} {L:Loc} (h:iZ ρ (.n b) L):ρ b=some L:=by cases h;assumption
mutual
theorem aK.mono {ρ aQ:bX} (hl:ρ.le aQ):∀ {v:AV} {u:Value},aK ρ v u->aK aQ v u
 |_,_,.u v=>.u v
 |_,_,.b x=>.b x
 |_,_,.i k n=>.i k n
 |_,_,.s s=>.s s
 |_,_,.pn=>.pn
 |_,_,.p b o L h=>.p b o L (iZ.mono hl h)
 |_,_,.B1=>.B1
 |_,_,.zD a=>.zD a
 |_,_,.Bz b o es a=>.Bz b o es a
 |_,_,.sl b o n cap L h h1 h2 h3=>.sl b o n cap L (iZ.mono hl h) h1 h2 h3
 |_,_,.mpn=>.mpn
 |_,_,.mp b L h=>.mp b L (iZ.mono hl h)
 |_,_,.fnn=>.fnn
 |_,_,.yl b L h=>.yl b L (iZ.mono hl h)
 |_,_,.fn f fi ca yi yj hf h1 h2=>.fn f fi ca yi yj hf (aL.mono hl h1) (aL.mono hl h2)
 |_,_,.zT=>.zT
 |_,_,.agg cs vs h1 h2=>.agg cs vs (aL.mono hl h1) h2
 |_,_,.aB cs vs h1=>.aB cs vs (aL.mono hl h1)
theorem aL.mono {ρ aQ:bX} (hl:ρ.le aQ):∀ {vs:List AV} {us:List Value},aL ρ vs us->aL aQ vs us
 |_,_,.nil=>.nil
 |_,_,.cons v u vs us h1 h2=>.cons v u vs us (aK.mono hl h1) (aL.mono hl h2)
theorem iZ.mono {ρ aQ:bX} (hl:ρ.le aQ):∀ {b:fH} {L:Loc},iZ ρ b L->iZ aQ b L
 |_,_,.n b L h=>.n b L (hl.l _ _ h)
 |_,_,.f cs us L h1 h2 h3=>.f cs us L (aL.mono hl h1) h2 fun i u hu=>hl.f _ _ _ (h3 i u hu)
end
theorem aL.length {ρ:bX}:∀ {vs:List AV} {us:List Value},aL ρ vs us->vs.length=us.length
 |_,_,.nil=>rfl
 |_,_,.cons _ _ _ _ _ h2=>by simp [h2.length]
theorem aL.get {ρ:bX}:∀ {vs:List AV} {us:List Value},aL ρ vs us->∀ {j:Nat} {v:AV},vs[j]? = some v->∃ u,us[j]? = some u/\aK ρ v u
 |_,_,.nil,_,_,h=>by simp at h
 |_,_,.cons v u vs us h1 h2,0,_,h=>by simp at h;subst h;exact ⟨u,by simp,h1⟩
 |_,_,.cons v u vs us h1 h2,j+1,_,h=>by simp at h;simpa using h2.get h
theorem aL.get' {ρ:bX} {vs:List AV} {us:List Value} (h:aL ρ vs us) {j:Nat} {u:Value} (hu:us[j]? = some u):∃ v,vs[j]? = some v/\aK ρ v u:=by
 have hl:=h.length
 have hj:j<vs.length:=by have:=(List.getElem?_eq_some_iff.1 hu).1;omega
 obtain ⟨u',DR,hr⟩:=h.get (List.getElem?_eq_getElem hj)
 rw [hu] at DR;cases DR
 exact ⟨_,List.getElem?_eq_getElem hj,hr⟩
theorem aL.append {ρ:bX}:∀ {vs ws:List AV} {us xs:List Value},aL ρ vs us->aL ρ ws xs->aL ρ (vs++ws) (us++xs)
 |_,_,_,_,.nil,h=>h
 |_,_,_,_,.cons v u vs us h1 h2,h=>.cons v u _ _ h1 (h2.append h)
theorem aL.oE {ρ:bX}:∀ {vs:List AV} {us:List Value},vs.length=us.length->(∀ (j:Nat) (v:AV) (u:Value),vs[j]? = some v->us[j]? = some u->aK ρ v u)->aL ρ vs us
 |[],[],_,_=>.nil
 |v::vs,u::us,hl,h=>.cons v u vs us (h 0 v u (by simp) (by simp)) (aL.oE (by simpa using hl) fun j v' u' h1 h2=>h (j+1) v' u' (by simpa using h1) (by simpa using h2))
 |[],_::_,hl,_=>by simp at hl
 |_::_,[],hl,_=>by simp at hl
theorem aL.take {ρ:bX} {vs:List AV} {us:List Value} (h:aL ρ vs us) (n:Nat):aL ρ (vs.take n) (us.take n):=
 .oE (by simp [h.length]) fun j v u hv hu=>by
  rw [List.getElem?_take] at hv hu
  split at hv
  ·rename_i hj;simp only [hj,if_true] at hu;obtain ⟨u',h1,h2⟩:=h.get hv;rw [hu] at h1;cases h1;exact h2
  ·simp at hv
theorem aL.drop {ρ:bX} {vs:List AV} {us:List Value} (h:aL ρ vs us) (n:Nat):aL ρ (vs.drop n) (us.drop n):=
 .oE (by simp [h.length]) fun j v u hv hu=>by
  rw [List.getElem?_drop] at hv hu
  obtain ⟨u',h1,h2⟩:=h.get hv;rw [hu] at h1;cases h1;exact h2
theorem aK.one {ρ:bX} {v:AV} {u:Value} (h:aK ρ v u) (ho:v.aR=true):u.oneCell'=true/\u.cells = #[u]/\v.cells=[v]:=by
 cases h<;>simp_all [AV.aR,Value.oneCell',Value.cells,AV.cells]
theorem aK.cells {ρ:bX} {v:AV} {u:Value} (h:aK ρ v u) (ho:v.cells.all AV.aR=true):aL ρ v.cells u.cells.toList/\(∀ x∈u.cells.toList,x.oneCell'=true):=by
 by_cases hv:v.aR=true
 ·obtain ⟨h1,h2,h3⟩:=h.one hv
  rw [h2,h3]
  exact ⟨.cons _ _ _ _ h .nil,by simpa using h1⟩
 ·cases h<;>first |(simp [AV.aR] at hv;done) |skip
  case u=>simp [AV.cells,AV.aR] at ho
  case agg cs vs h1 h2=>
   refine ⟨h1,fun x hx=>?_⟩
   obtain ⟨j,hj⟩:=List.getElem?_of_mem (by simpa [Value.cells] using hx)
   obtain ⟨v,iD,hr⟩:=h1.get' hj
   exact (hr.one (List.all_eq_true.1 h2 v (List.mem_of_getElem? iD))).1
  case aB=>simp [AV.cells,AV.aR] at ho
section rel
variable {O:Type} (RO:O->Loc->(Nat->Option Obj)->Prop) (P:Program)
def one (B:Nat) (o:Obj):Nat->Option Obj:=fun q=>if q=B then some o else none
def PO:Option Nat->Code |none=>.ret |some id=>.exit id
def IC:Fs->Loop->Prop
 |.ready,r=>r.state=.ready/\r.pending=none
 |.busy,r=>r.state=.busy
 |.done j,r=>r.state=.done/\r.pending=some (PO j)
 |.gone,_=>True
def ct (ρ:bX):List (AV × AV)->List MapEntry->Prop
 |[],[]=>True
 |q::es,x::xs=>aK ρ q.1 x.key/\aK ρ q.2 x.val/\ct ρ es xs
 |_,_=>False
theorem ct.mono {ρ aQ:bX} (hl:ρ.le aQ):∀ {es:List (AV × AV)} {xs:List MapEntry},ct ρ es xs->ct aQ es xs
 |[],[],_=>trivial
 |_::_,_::_,⟨a,b,c⟩=>⟨a.mono hl,b.mono hl,ct.mono hl c⟩
 |[],_::_,h=>h.elim
 |_::_,[],h=>h.elim
def qZ (ρ:bX) (h:Nat->Option Obj) (L:Loc) (w:World):eY O->Prop
 |.cells true el cs=>∃ arr:Array Value,h=one L.B (.cells arr el (0,0))/\L.O+L.size<=arr.size/\cs.length<=L.size/\L.es=tL P el/\
   ∀ i v,cs[i]? = some v->v.aR=true/\∃ u,arr[L.O+i]? = some u/\aK ρ v u
 |.cells false _ cs=>h=(fun _=>none)/\∀ i v,cs[i]? = some v->v.aR=true/\∃ u,ρ.fz L.B (L.O+i)=some u/\aK ρ v u
 |.obj o=>RO o L h
 |.map es=>∃ (arr:Array MapEntry) (clock:Nat),h=one L.B (.map arr clock)/\ct ρ es arr.toList
 |.loop site env st=>∃ (r:Loop) (x:Array Tmp × Code × Code),h=one L.B (.loop r)/\gW P site=some x/\r.params=x.1/\r.assign=x.2.1/\r.body=x.2.2/\IC st r/\
   (∀ t,t∈x.1.toList++(aU x.2.1++aU x.2.2)->t<r.tmps.size)/\∀ t v,(t,v)∈env->aK ρ v (r.tmps.getD t undef)
structure Rel (ρ:bX) (fp:Fp) (J:AH O) (w:World):Prop where
 next:∀ b,J.next<=b->ρ b=none/\J.aa b=none
 aa:∀ b x L,J.aa b=some x->ρ b=some L->qZ RO P ρ (fp b) L w x
 dead:∀ b,(J.aa b=none ∨ ρ b=none)->fp b=fun _=>none
 has:∀ b B o,fp b B=some o->w.heap[B]? = some o
 iH:∀ b c B,fp b B≠none->fp c B≠none->b=c
 fz:∀ B O u,ρ.fz B O=some u->w.cell? ⟨B,O,none⟩=some u/\∀ c,fp c B=none
structure Fr (fp:Fp) (w w':World):Prop where
 os:w'.os=w.os
 tape:w'.tape=w.tape
 output:w'.output=w.output
 size:w.heap.size<=w'.heap.size
 dv:∀ B,B<w.heap.size->(∀ b,fp b B=none)->w'.heap[B]? = w.heap[B]?
structure aS (S:Nat->Prop) (ρ:bX) (fp:Fp) (J:AH O) (w:World) (aQ:bX) (fp':Fp) (J':AH O) (w':World):Prop where
 rel:Rel RO P aQ fp' J' w'
 fr:Fr fp w w'
 grow:∀ b B,B<w.heap.size->fp' b B≠none->∃ c,fp c B≠none
 MJ:∀ B O u,aQ.fz B O=some u->B<w.heap.size->(∃ c,fp c B≠none) ∨ ∃ O' u',ρ.fz B O'=some u'
 le:ρ.le aQ
 ext:∀ b,S b->aQ b=ρ b
 blank:∀ b,S b->b<J.next->J.aa b=none->J'.aa b=none
 next:J.next<=J'.next
variable {RO} {P}
theorem Fr.refl (fp:Fp) (w:World):Fr fp w w:=⟨rfl,rfl,rfl,Nat.le_refl _,fun _ _ _=>rfl⟩
theorem aS.refl {S:Nat->Prop} {ρ:bX} {fp:Fp} {J:AH O} {w:World} (h:Rel RO P ρ fp J w):aS RO P S ρ fp J w ρ fp J w:=
 ⟨h,.refl _ _,fun b _ _ hb=>⟨b,hb⟩,fun _ _ _ hb _=>.inr ⟨_,_,hb⟩,bX.le_refl _,fun _ _=>rfl,fun _ _ _ h=>h,Nat.le_refl _⟩
theorem aS.mono {S S':Nat->Prop} {ρ aQ:bX} {fp fp':Fp} {J J':AH O} {w w':World} (h:aS RO P S ρ fp J w aQ fp' J' w') (hs:∀ b,S' b->S b):aS RO P S' ρ fp J w aQ fp' J' w':=
 ⟨h.rel,h.fr,h.grow,h.MJ,h.le,fun b hb=>h.ext b (hs b hb),fun b hb=>h.blank b (hs b hb),h.next⟩
theorem aS.trans {S:Nat->Prop} {ρ aQ vF:bX} {fp fp' vG:Fp} {J J' nS:AH O} {w w' vE:World} (h:aS RO P S ρ fp J w aQ fp' J' w') (k:aS RO P S aQ fp' J' w' vF vG nS vE):
  aS RO P S ρ fp J w vF vG nS vE where
 rel:=k.rel
 fr:=⟨k.fr.os.trans h.fr.os,k.fr.tape.trans h.fr.tape,k.fr.output.trans h.fr.output,Nat.le_trans h.fr.size k.fr.size,fun B hB hn=>by
  rw [k.fr.dv B (Nat.lt_of_lt_of_le hB h.fr.size) ?_,h.fr.dv B hB hn]
  intro b
  cases hb:fp' b B with
  |none=>rfl
  |some o=>obtain ⟨c,hc⟩:=h.grow b B hB (by simp [hb]);exact absurd (hn c) hc⟩
 grow:=fun b B hB hb=>by obtain ⟨c,hc⟩:=k.grow b B (Nat.lt_of_lt_of_le hB h.fr.size) hb;exact h.grow c B hB hc
 MJ:=fun B o u hb bp=>by
  rcases k.MJ B o u hb (Nat.lt_of_lt_of_le bp h.fr.size) with ⟨c,hc⟩ |⟨o',u',h1⟩
  ·exact .inl (h.grow c _ bp hc)
  ·exact h.MJ B o' u' h1 bp
 le:=h.le.trans k.le
 ext:=fun b hb=>(k.ext b hb).trans (h.ext b hb)
 blank:=fun b hb bp h0=>k.blank b hb (Nat.lt_of_lt_of_le bp h.next) (h.blank b hb bp h0)
 next:=Nat.le_trans h.next k.next
theorem qZ.mono {ρ aQ:bX} {h:Nat->Option Obj} {L:Loc} {w w':World} {x:eY O} (hl:ρ.le aQ) (hx:qZ RO P ρ h L w x):qZ RO P aQ h L w' x:=by
 match x,hx with
 |.cells true el cs,⟨arr,h1,h2,h3,h4,h5⟩=>exact ⟨arr,h1,h2,h3,h4,fun i v hv=>by obtain ⟨a,u,b,c⟩:=h5 i v hv;exact ⟨a,u,b,c.mono hl⟩⟩
 |.cells false el cs,⟨h1,h5⟩=>exact ⟨h1,fun i v hv=>by obtain ⟨a,u,b,c⟩:=h5 i v hv;exact ⟨a,u,hl.f _ _ _ b,c.mono hl⟩⟩
 |.obj o,hx=>exact hx
 |.map es,⟨arr,clock,h1,h2⟩=>exact ⟨arr,clock,h1,h2.mono hl⟩
 |.loop site env st,⟨r,x,h1,h2,h3,h4,h5,h6,h7,h8⟩=>exact ⟨r,x,h1,h2,h3,h4,h5,h6,h7,fun t v hm=>(h8 t v hm).mono hl⟩
theorem ra {w:World} {B o:Nat} {u:Value} (h:w.cell? ⟨B,o,none⟩=some u):B<w.heap.size:=by
 unfold World.cell? at h
 split at h
 ·rename_i c e f hb
  exact (Array.getElem?_eq_some_iff.1 hb).1
 ·cases h
theorem Rel.size {ρ:bX} {fp:Fp} {J:AH O} {w:World} (h:Rel RO P ρ fp J w) {b B:Nat} (hb:fp b B≠none):B<w.heap.size:=by
 cases hx:fp b B with
 |none=>exact absurd hx hb
 |some o=>exact (Array.getElem?_eq_some_iff.1 (h.has b B o hx)).1
theorem Rel.world {ρ:bX} {fp:Fp} {J:AH O} {w w':World} (h:Rel RO P ρ fp J w) (hk:∀ B:Nat,B<w.heap.size->w'.heap[B]? = w.heap[B]?) (_:w.heap.size<=w'.heap.size):Rel RO P ρ fp J w' where
 next:=h.next
 aa:=fun b x L hx hL=>(h.aa b x L hx hL).mono (bX.le_refl _)
 dead:=h.dead
 has:=fun b B o hb=>by rw [hk B (h.size (b:=b) (by simp [hb]))];exact h.has b B o hb
 iH:=h.iH
 fz:=fun B o u hu=>by
  obtain ⟨h1,h2⟩:=h.fz B o u hu
  exact ⟨by rw [World.cell?_of_block (w:=w) (w':=w') (hk B (ra h1))];exact h1,h2⟩
theorem aS.drew {S:Nat->Prop} {ρ:bX} {fp:Fp} {J:AH O} {w:World} (h:Rel RO P ρ fp J w):aS RO P S ρ fp J w ρ fp J w.drew:=
 ⟨h.world (fun _ _=>rfl) (Nat.le_refl _),⟨rfl,rfl,rfl,Nat.le_refl _,fun _ _ _=>rfl⟩,fun b _ _ hb=>⟨b,hb⟩,fun _ _ _ hb _=>.inr ⟨_,_,hb⟩,bX.le_refl _,fun _ _=>rfl,fun _ _ _ h=>h,Nat.le_refl _⟩
theorem bO (B:Nat) (o:Obj):one B o B=some o:=by simp [one]
theorem gp {B C:Nat} {o:Obj} (h:one B o C≠none):C=B:=by
 unfold one at h;split at h
 ·assumption
 ·simp at h
theorem mw {B C:Nat} {o p:Obj} (h:one B o C=some p):C=B/\p=o:=by
 unfold one at h;split at h
 ·rename_i hc;cases h;exact ⟨hc,rfl⟩
 ·simp at h
@[simp] theorem AH.pI {J:AH O} {b q:Nat} {x:eY O}:(J.put b x).aa q=if q=b then some x else J.aa q:=by
 simp only [AH.put];by_cases h:q=b
 ·subst h;simp
 ·have:Nat.beq q b=false:=by cases hh:Nat.beq q b with |false=>rfl |true=>exact absurd (Nat.eq_of_beq_eq_true hh) h
  simp [this,h]
@[simp] theorem AH.gL {J:AH O} {b q:Nat}:(J.kill b).aa q=if q=b then none else J.aa q:=by
 simp only [AH.kill];by_cases h:q=b
 ·subst h;simp
 ·have:Nat.beq q b=false:=by cases hh:Nat.beq q b with |false=>rfl |true=>exact absurd (Nat.eq_of_beq_eq_true hh) h
  simp [this,h]
@[simp] theorem AH.bR {J:AH O} {b:Nat} {x:eY O}:(J.put b x).next=J.next:=rfl
@[simp] theorem AH.dd {J:AH O} {b:Nat}:(J.kill b).next=J.next:=rfl
theorem aS.alloc {ρ:bX} {fp:Fp} {J:AH O} {w:World} (h:Rel RO P ρ fp J w) {nid:Nat} (hn:nid<J.next) (h1:ρ nid=none)
  (el:TypeId) (cs:List AV) (arr:Array Value) (hl:cs.length<=arr.size) (hc:∀ (i:Nat) (v:AV),cs[i]? = some v->v.aR=true/\∃ u,arr[i]? = some u/\aK ρ v u):
  ∃ aQ fp',aQ nid=some ⟨w.heap.size,0,arr.size,tL P el⟩/\aS RO P (fun b=>b≠nid) ρ fp J w aQ fp' (J.put nid (.cells true el cs)) (w.alloc (.cells arr el)):=by
 let aQ:bX:=⟨fun b=>if b=nid then some ⟨w.heap.size,0,arr.size,tL P el⟩ else ρ b,ρ.fz⟩
 let fp':Fp:=fun b=>if b=nid then one w.heap.size (.cells arr el (0,0)) else fp b
 have hle:ρ.le aQ:=⟨fun b L hb=>by
  have:b≠nid:=fun e=>by rw [e,h1] at hb;cases hb
  simp [aQ,this,hb],fun _ _ _ hu=>hu⟩
 have hfn:fp nid=fun _=>none:=h.dead nid (.inr h1)
 have nC:∀ b B,fp b B≠none->B≠w.heap.size:=fun b B hb e=>by have:=h.size hb;omega
 refine ⟨aQ,fp',by simp [aQ],⟨⟨?_,?_,?_,?_,?_,?_⟩,⟨rfl,rfl,rfl,by simp,fun B hB _=>heap_alloc_old w _ B hB⟩,?_,?_,hle,fun b hb=>by simp [aQ,hb],fun b hb _ h0=>by simp [hb,h0],Nat.le_refl _⟩⟩
 ·intro b hb
  have dI:J.next<=b:=hb
  have:b≠nid:=by omega
  obtain ⟨a,c⟩:=h.next b dI
  simp [aQ,this,a,c]
 ·intro b x L hx hL
  by_cases gK:b=nid
  ·subst gK
   simp at hx;subst hx
   simp [aQ] at hL;subst hL
   refine ⟨arr,by simp [fp'],by simp,hl,rfl,fun i v hv=>?_⟩
   obtain ⟨a,u,b',c⟩:=hc i v hv
   exact ⟨a,u,by simpa using b',c.mono hle⟩
  ·simp [gK] at hx
   simp [aQ,gK] at hL
   simp only [fp',gK,if_false]
   exact (h.aa b x L hx hL).mono hle
 ·intro b hb
  by_cases gK:b=nid
  ·subst gK;simp [aQ] at hb
  ·simp only [fp',gK,if_false]
   simp [gK,aQ] at hb
   exact h.dead b hb
 ·intro b B o hb
  by_cases gK:b=nid
  ·simp only [fp',gK,if_true] at hb
   obtain ⟨rfl,rfl⟩:=mw hb
   exact heap_alloc_new w _
  ·simp only [fp',gK,if_false] at hb
   rw [heap_alloc_old w _ B (h.size (b:=b) (by simp [hb]))]
   exact h.has b B o hb
 ·intro b c B hb qP
  by_cases gK:b=nid<;>by_cases lG:c=nid
  ·omega
  ·simp only [fp',gK,if_true] at hb
   simp only [fp',lG,if_false] at qP
   have:=gp hb;exact absurd this (nC _ _ qP)
  ·simp only [fp',lG,if_true] at qP
   simp only [fp',gK,if_false] at hb
   have:=gp qP;exact absurd this (nC _ _ hb)
  ·simp only [fp',gK,lG,if_false] at hb qP
   exact h.iH b c B hb qP
 ·intro B o u hu
  obtain ⟨g1,g2⟩:=h.fz B o u hu
  have bp:=ra g1
  refine ⟨by rw [World.cell?_of_block (w:=w) (heap_alloc_old w _ _ bp)];exact g1,fun c=>?_⟩
  by_cases lG:c=nid
  ·simp only [fp',lG,if_true,one]
   rw [if_neg (by omega)]
  ·simp only [fp',lG,if_false]
   exact g2 c
 ·intro b B hB hb
  by_cases gK:b=nid
  ·simp only [fp',gK,if_true] at hb
   have:=gp hb;omega
  ·simp only [fp',gK,if_false] at hb
   exact ⟨b,hb⟩
 ·exact fun B o u hu _=>.inr ⟨o,u,hu⟩
theorem Rel.own {ρ:bX} {fp:Fp} {J:AH O} {w:World} (h:Rel RO P ρ fp J w) {b:Nat} {el:TypeId} {cs:List AV} {L:Loc} (hb:J.aa b=some (.cells true el cs)) (hL:ρ b=some L):
  ∃ arr:Array Value,fp b=one L.B (.cells arr el (0,0))/\w.heap[L.B]? = some (.cells arr el (0,0))/\L.O+L.size<=arr.size/\cs.length<=L.size/\L.es=tL P el/\
   ∀ (i:Nat) (v:AV),cs[i]? = some v->v.aR=true/\∃ u,arr[L.O+i]? = some u/\aK ρ v u:=by
 obtain ⟨arr,h1,h2,h3,h4,h5⟩:=h.aa b _ L hb hL
 exact ⟨arr,h1,h.has b L.B _ (by rw [h1];exact bO _ _),h2,h3,h4,h5⟩
theorem Rel.ld {ρ:bX} {fp:Fp} {J:AH O} {w:World} (h:Rel RO P ρ fp J w) {b:fH} {o:Nat} {v:AV} {L:Loc} (hv:J.ld b o=some v) (hL:iZ ρ b L):
  v.aR=true/\∃ u,w.cell? ⟨L.B,L.O+o,none⟩=some u/\aK ρ v u:=by
 cases hL with
 |n b L hL=>
  simp only [AH.ld] at hv
  split at hv
  ·rename_i ow el cs hb
   cases ow with
   |true=>
    obtain ⟨arr,_,h2,_,_,_,h5⟩:=h.own hb hL
    obtain ⟨a,u,b',c⟩:=h5 o v hv
    exact ⟨a,u,by rw [cell_of_row w L.B (L.O+o) arr el (0,0) h2];exact b',c⟩
   |false=>
    obtain ⟨_,h5⟩:=h.aa b _ L hb hL
    obtain ⟨a,u,b',c⟩:=h5 o v hv
    exact ⟨a,u,(h.fz _ _ _ b').1,c⟩
  ·cases hv
 |f cs us L h1 h2 h3=>
  simp only [AH.ld] at hv
  obtain ⟨u,hu,hr⟩:=h1.get hv
  exact ⟨List.all_eq_true.1 h2 v (List.mem_of_getElem? hv),u,(h.fz _ _ _ (h3 o u hu)).1,hr⟩
theorem aS.set {S:Nat->Prop} {ρ:bX} {fp:Fp} {J:AH O} {w:World} (h:Rel RO P ρ fp J w) {b:Nat} {el:TypeId} {cs:List AV} {L:Loc} {arr:Array Value}
  (hb:J.aa b=some (.cells true el cs)) (hL:ρ b=some L) (ha:w.heap[L.B]? = some (.cells arr el (0,0)))
  (iI:List AV) (oH:Array Value) (hs:oH.size=arr.size) (hl:iI.length<=L.size)
  (hc:∀ (i:Nat) (v:AV),iI[i]? = some v->v.aR=true/\∃ u,oH[L.O+i]? = some u/\aK ρ v u):
  ∃ fp',aS RO P S ρ fp J w ρ fp' (J.put b (.cells true el iI)) (w.setRow L.B oH):=by
 obtain ⟨ID,h1,h2,h3,h4,h5,_⟩:=h.own hb hL
 obtain rfl:ID=arr:=by rw [ha] at h2;cases h2;rfl
 let fp':Fp:=fun q=>if q=b then one L.B (.cells oH el (0,0)) else fp q
 have RR:∀ q B,fp q B≠none->B=L.B->q=b:=fun q B hq e=>h.iH q b B hq (by rw [h1,e,bO];simp)
 have bp:b<J.next:=by
  rcases Nat.lt_or_ge b J.next with hh |hh
  ·exact hh
  ·rw [(h.next b hh).2] at hb;cases hb
 refine ⟨fp',⟨⟨?_,?_,?_,?_,?_,?_⟩,⟨rfl,rfl,rfl,by simp,?_⟩,?_,?_,bX.le_refl _,fun _ _=>rfl,fun q _ _ h0=>by
  have:q≠b:=fun e=>by rw [e,hb] at h0;cases h0
  simp [this,h0],Nat.le_refl _⟩⟩
 ·intro q hq
  have Cy:J.next<=q:=hq
  obtain ⟨x,y⟩:=h.next q Cy
  exact ⟨x,by simp [y];omega⟩
 ·intro q x L' hx Ed
  by_cases eC:q=b
  ·subst eC
   simp at hx;subst hx
   rw [hL] at Ed;cases Ed
   exact ⟨oH,by simp [fp'],by omega,hl,h5,hc⟩
  ·simp [eC] at hx
   simp only [fp',eC,if_false]
   exact (h.aa q x L' hx Ed).mono (bX.le_refl _)
 ·intro q hq
  by_cases eC:q=b
  ·subst eC;simp [hL] at hq
  ·simp only [fp',eC,if_false]
   simp [eC] at hq
   exact h.dead q hq
 ·intro q B o hq
  by_cases eC:q=b
  ·simp only [fp',eC,if_true] at hq
   obtain ⟨rfl,rfl⟩:=mw hq
   exact setRow_heap w _ ID _ el _ ha
  ·simp only [fp',eC,if_false] at hq
   rw [setRow_other w _ _ _ fun e=>eC (RR q B (by simp [hq]) e)]
   exact h.has q B o hq
 ·intro q c B hq qP
  have key:∀ q,fp' q B≠none->fp q B≠none:=by
   intro q hq
   by_cases eC:q=b
   ·simp only [fp',eC,if_true] at hq
    rw [eC,h1,gp hq,bO];simp
   ·simpa only [fp',eC,if_false] using hq
  exact h.iH q c B (key q hq) (key c qP)
 ·intro B o u hu
  obtain ⟨g1,g2⟩:=h.fz B o u hu
  have db:B≠L.B:=fun e=>by
   have:=g2 b
   rw [h1,e,bO] at this;cases this
  refine ⟨by rw [World.cell?_of_block (w:=w) (setRow_other w _ _ _ db)];exact g1,fun c=>?_⟩
  by_cases vO:c=b
  ·simp only [fp',vO,if_true,one]
   rw [if_neg db]
  ·simp only [fp',vO,if_false]
   exact g2 c
 ·intro B hB hn
  refine setRow_other w _ _ _ fun e=>?_
  have:=hn b
  rw [h1,e,bO] at this;cases this
 ·intro q B hB hq
  by_cases eC:q=b
  ·simp only [fp',eC,if_true] at hq
   exact ⟨b,by rw [h1,gp hq,bO];simp⟩
  ·simp only [fp',eC,if_false] at hq
   exact ⟨q,hq⟩
 ·exact fun B o u hu _=>.inr ⟨o,u,hu⟩
theorem aS.kill {S:Nat->Prop} {ρ:bX} {fp:Fp} {J:AH O} {w:World} (h:Rel RO P ρ fp J w) (b:Nat):∃ fp',aS RO P S ρ fp J w ρ fp' (J.kill b) w:=by
 let fp':Fp:=fun q=>if q=b then (fun _=>none) else fp q
 have key:∀ q B,fp' q B≠none->fp q B≠none:=by
  intro q B hq
  by_cases eC:q=b
  ·simp [fp',eC] at hq
  ·simpa only [fp',eC,if_false] using hq
 refine ⟨fp',⟨⟨?_,?_,?_,?_,?_,?_⟩,.refl _ _,fun q B _ hq=>⟨q,key q B hq⟩,fun _ o u hu _=>.inr ⟨o,u,hu⟩,bX.le_refl _,fun _ _=>rfl,fun q _ _ h0=>by simp [h0],Nat.le_refl _⟩⟩
 ·intro q hq
  obtain ⟨x,y⟩:=h.next q hq
  exact ⟨x,by simp [y]⟩
 ·intro q x L hx hL
  simp at hx
  obtain ⟨eC,hx⟩:=hx
  simp only [fp',eC,if_false]
  exact h.aa q x L hx hL
 ·intro q hq
  by_cases eC:q=b
  ·simp [fp',eC]
  ·simp only [fp',eC,if_false]
   simp [eC] at hq
   exact h.dead q hq
 ·intro q B o hq
  by_cases eC:q=b
  ·simp [fp',eC] at hq
  ·simp only [fp',eC,if_false] at hq
   exact h.has q B o hq
 ·exact fun q c B hq hc=>h.iH q c B (key q B hq) (key c B hc)
 ·intro B o u hu
  obtain ⟨g1,g2⟩:=h.fz B o u hu
  refine ⟨g1,fun c=>?_⟩
  by_cases vO:c=b
  ·simp [fp',vO]
  ·simpa only [fp',vO,if_false] using g2 c
theorem aS.move {ρ:bX} {fp:Fp} {J:AH O} {w:World} (h:Rel RO P ρ fp J w) {b nid:Nat} {el:TypeId} {cs:List AV} {L:Loc} {arr:Array Value}
  (hb:J.aa b=some (.cells true el cs)) (hL:ρ b=some L) (ha:w.heap[L.B]? = some (.cells arr el (0,0)))
  (hn:nid<J.next) (FM:ρ nid=none) (o:Nat) (ho:o<=L.size)
  (iI:List AV) (oH:Array Value) (hs:oH.size=arr.size) (hl:o+iI.length<=L.size)
  (hc:∀ (i:Nat) (v:AV),iI[i]? = some v->v.aR=true/\∃ u,oH[L.O+o+i]? = some u/\aK ρ v u):
  ∃ aQ fp',aQ nid=some ⟨L.B,L.O+o,L.size - o,L.es⟩/\aS RO P (fun q=>q≠nid) ρ fp J w aQ fp' ((J.kill b).put nid (.cells true el iI)) (w.setRow L.B oH):=by
 obtain ⟨ID,h1,h2,h3,h4,h5,_⟩:=h.own hb hL
 obtain rfl:ID=arr:=by rw [ha] at h2;cases h2;rfl
 have gK:b≠nid:=fun e=>by rw [e,FM] at hL;cases hL
 let aQ:bX:=⟨fun q=>if q=nid then some ⟨L.B,L.O+o,L.size - o,L.es⟩ else ρ q,ρ.fz⟩
 let fp':Fp:=fun q=>if q=nid then one L.B (.cells oH el (0,0)) else if q=b then (fun _=>none) else fp q
 have hle:ρ.le aQ:=⟨fun q L' hq=>by
  have:q≠nid:=fun e=>by rw [e,FM] at hq;cases hq
  simp [aQ,this,hq],fun _ _ _ hu=>hu⟩
 have RR:∀ q B,fp q B≠none->B=L.B->q=b:=fun q B hq e=>h.iH q b B hq (by rw [h1,e,bO];simp)
 refine ⟨aQ,fp',by simp [aQ],⟨⟨?_,?_,?_,?_,?_,?_⟩,⟨rfl,rfl,rfl,by simp,?_⟩,?_,?_,hle,fun q hq=>by simp [aQ,hq],fun q hq _ h0=>by simp [hq,h0],Nat.le_refl _⟩⟩
 ·intro q hq
  have Cy:J.next<=q:=hq
  have:q≠nid:=by omega
  obtain ⟨x,y⟩:=h.next q Cy
  simp [aQ,this,x,y]
 ·intro q x L' hx Ed
  by_cases yx:q=nid
  ·subst yx
   simp at hx;subst hx
   simp [aQ] at Ed;subst Ed
   refine ⟨oH,by simp [fp'],by simp;omega,by simp;omega,h5,fun i v hv=>?_⟩
   obtain ⟨x1,u,x2,x3⟩:=hc i v hv
   exact ⟨x1,u,x2,x3.mono hle⟩
  ·simp [yx] at hx
   simp [aQ,yx] at Ed
   obtain ⟨eC,hx⟩:=hx
   simp only [fp',yx,eC,if_false]
   exact (h.aa q x L' hx Ed).mono hle
 ·intro q hq
  by_cases yx:q=nid
  ·subst yx;simp [aQ] at hq
  ·by_cases eC:q=b
   ·simp [fp',eC,gK]
   ·simp only [fp',yx,eC,if_false]
    simp [yx,eC,aQ] at hq
    exact h.dead q hq
 ·intro q B x hq
  by_cases yx:q=nid
  ·simp only [fp',yx,if_true] at hq
   obtain ⟨rfl,rfl⟩:=mw hq
   exact setRow_heap w _ ID _ el _ ha
  ·by_cases eC:q=b
   ·simp [fp',eC,gK] at hq
   ·simp only [fp',yx,eC,if_false] at hq
    rw [setRow_other w _ _ _ fun e=>eC (RR q B (by simp [hq]) e)]
    exact h.has q B x hq
 ·intro q c B hq qP
  have key:∀ q,fp' q B≠none->(q=nid/\B=L.B) ∨ (q≠nid/\q≠b/\fp q B≠none):=by
   intro q hq
   by_cases yx:q=nid
   ·simp only [fp',yx,if_true] at hq
    exact .inl ⟨yx,gp hq⟩
   ·by_cases eC:q=b
    ·simp [fp',eC,gK] at hq
    ·simp only [fp',yx,eC,if_false] at hq
     exact .inr ⟨yx,eC,hq⟩
  rcases key q hq with ⟨a1,a2⟩ |⟨a1,a2,a3⟩<;>rcases key c qP with ⟨b1,b2⟩ |⟨b1,b2,b3⟩
  ·omega
  ·exact absurd (RR c B b3 a2) b2
  ·exact absurd (RR q B a3 b2) a2
  ·exact h.iH q c B a3 b3
 ·intro B o' u hu
  obtain ⟨g1,g2⟩:=h.fz B o' u hu
  have db:B≠L.B:=fun e=>by
   have:=g2 b
   rw [h1,e,bO] at this;cases this
  refine ⟨by rw [World.cell?_of_block (w:=w) (setRow_other w _ _ _ db)];exact g1,fun c=>?_⟩
  by_cases lG:c=nid
  ·simp [fp',lG,one,db]
  ·by_cases vO:c=b
   ·simp [fp',vO,gK]
   ·simp only [fp',lG,vO,if_false]
    exact g2 c
 ·intro B hB hq
  refine setRow_other w _ _ _ fun e=>?_
  have:=hq b
  rw [h1,e,bO] at this;cases this
 ·intro q B hB hq
  by_cases yx:q=nid
  ·simp only [fp',yx,if_true] at hq
   exact ⟨b,by rw [h1,gp hq,bO];simp⟩
  ·by_cases eC:q=b
   ·simp [fp',eC,gK] at hq
   ·simp only [fp',yx,eC,if_false] at hq
    exact ⟨q,hq⟩
 ·exact fun B o' u hu _=>.inr ⟨o',u,hu⟩
theorem aS.freeze {S:Nat->Prop} {ρ:bX} {fp:Fp} {J:AH O} {w:World} (h:Rel RO P ρ fp J w) {b:Nat} {el:TypeId} {cs:List AV} {L:Loc} (hb:J.aa b=some (.cells true el cs)) (hL:ρ b=some L):
  ∃ aQ fp',aS RO P S ρ fp J w aQ fp' (J.kill b) w/\∃ us:List Value,aL aQ cs us/\cs.all AV.aR=true/\∀ i u,us[i]? = some u->aQ.fz L.B (L.O+i)=some u:=by
 obtain ⟨arr,h1,h2,h3,h4,h5,h6⟩:=h.own hb hL
 let aQ:bX:=⟨ρ.loc,fun B o=>if B=L.B then w.cell? ⟨B,o,none⟩ else ρ.fz B o⟩
 let fp':Fp:=fun q=>if q=b then (fun _=>none) else fp q
 have hle:ρ.le aQ:=⟨fun _ _ h=>h,fun B o u hu=>by
  by_cases hB:B=L.B
  ·simp only [aQ,hB,if_true];rw [<-hB];exact (h.fz B o u hu).1
  ·simp only [aQ,hB,if_false];exact hu⟩
 have key:∀ q B,fp' q B≠none->fp q B≠none:=by
  intro q B hq
  by_cases eC:q=b
  ·simp [fp',eC] at hq
  ·simpa only [fp',eC,if_false] using hq
 refine ⟨aQ,fp',⟨⟨?_,?_,?_,?_,?_,?_⟩,.refl _ _,fun q B _ hq=>⟨q,key q B hq⟩,fun B o u hu bp=>?_,hle,fun _ _=>rfl,fun q _ _ h0=>by simp [h0],Nat.le_refl _⟩,?_⟩
 ·intro q hq
  obtain ⟨x,y⟩:=h.next q hq
  exact ⟨x,by simp [y]⟩
 ·intro q x L' hx Ed
  simp at hx
  obtain ⟨eC,hx⟩:=hx
  simp only [fp',eC,if_false]
  exact (h.aa q x L' hx Ed).mono hle
 ·intro q hq
  by_cases eC:q=b
  ·simp [fp',eC]
  ·simp only [fp',eC,if_false]
   simp [eC] at hq
   exact h.dead q hq
 ·intro q B o hq
  by_cases eC:q=b
  ·simp [fp',eC] at hq
  ·simp only [fp',eC,if_false] at hq
   exact h.has q B o hq
 ·exact fun q c B hq hc=>h.iH q c B (key q B hq) (key c B hc)
 ·intro B o u hu
  by_cases hB:B=L.B
  ·simp only [aQ,hB,if_true] at hu
   refine ⟨by rw [hB];exact hu,fun c=>?_⟩
   by_cases vO:c=b
   ·simp [fp',vO]
   ·simp only [fp',vO,if_false]
    cases hx:fp c B with
    |none=>rfl
    |some y=>exact absurd (h.iH c b B (by rw [hx];simp) (by rw [h1,hB,bO];simp)) vO
  ·simp only [aQ,hB,if_false] at hu
   obtain ⟨g1,g2⟩:=h.fz B o u hu
   refine ⟨g1,fun c=>?_⟩
   by_cases vO:c=b
   ·simp [fp',vO]
   ·simpa only [fp',vO,if_false] using g2 c
 ·by_cases hB:B=L.B
  ·exact .inl ⟨b,by rw [h1,hB,bO];simp⟩
  ·simp only [aQ,hB,if_false] at hu
   exact .inr ⟨o,u,hu⟩
 ·refine ⟨(arr.toList.drop L.O).take cs.length,?_,?_,fun i u hu=>?_⟩
  ·refine .oE (by simp;omega) fun j v u hv hu=>?_
   rw [List.getElem?_take] at hu
   split at hu
   ·rw [List.getElem?_drop] at hu
    obtain ⟨_,u',g1,g2⟩:=h6 j v hv
    rw [Array.getElem?_toList] at hu
    rw [g1] at hu;cases hu
    exact g2.mono hle
   ·cases hu
  ·refine List.all_eq_true.2 fun x hx=>?_
   obtain ⟨j,hj⟩:=List.getElem?_of_mem hx
   exact (h6 j x hj).1
  ·rw [List.getElem?_take] at hu
   split at hu
   ·rw [List.getElem?_drop,Array.getElem?_toList] at hu
    simp only [aQ,if_true]
    rw [cell_of_row w L.B (L.O+i) arr el (0,0) h2];exact hu
   ·cases hu
theorem aS.Ii {ρ:bX} {fp:Fp} {J:AH O} {w:World} (h:Rel RO P ρ fp J w) {nid:Nat} (hn:nid<J.next) (h1:ρ nid=none)
  (ob:Obj) (x0:eY O) (L0:Loc) (hx0:∀ aQ:bX,ρ.le aQ->∀ w',qZ RO P aQ (one w.heap.size ob) L0 w' x0):
  ∃ aQ fp',aQ nid=some L0/\aS RO P (fun b=>b≠nid) ρ fp J w aQ fp' (J.put nid x0) (w.alloc ob):=by
 let aQ:bX:=⟨fun b=>if b=nid then some L0 else ρ b,ρ.fz⟩
 let fp':Fp:=fun b=>if b=nid then one w.heap.size ob else fp b
 have hle:ρ.le aQ:=⟨fun b L hb=>by
  have:b≠nid:=fun e=>by rw [e,h1] at hb;cases hb
  simp [aQ,this,hb],fun _ _ _ hu=>hu⟩
 have hfn:fp nid=fun _=>none:=h.dead nid (.inr h1)
 have nC:∀ b B,fp b B≠none->B≠w.heap.size:=fun b B hb e=>by have:=h.size hb;omega
 refine ⟨aQ,fp',by simp [aQ],⟨⟨?_,?_,?_,?_,?_,?_⟩,⟨rfl,rfl,rfl,by simp,fun B hB _=>heap_alloc_old w _ B hB⟩,?_,?_,hle,fun b hb=>by simp [aQ,hb],fun b hb _ h0=>by simp [hb,h0],Nat.le_refl _⟩⟩
 ·intro b hb
  have dI:J.next<=b:=hb
  have:b≠nid:=by omega
  obtain ⟨a,c⟩:=h.next b dI
  simp [aQ,this,a,c]
 ·intro b x L hx hL
  by_cases gK:b=nid
  ·subst gK
   simp at hx;subst hx
   simp [aQ] at hL;subst hL
   have:=hx0 aQ hle (w.alloc ob)
   simpa [fp'] using this
  ·simp [gK] at hx
   simp [aQ,gK] at hL
   simp only [fp',gK,if_false]
   exact (h.aa b x L hx hL).mono hle
 ·intro b hb
  by_cases gK:b=nid
  ·subst gK;simp [aQ] at hb
  ·simp only [fp',gK,if_false]
   simp [gK,aQ] at hb
   exact h.dead b hb
 ·intro b B o hb
  by_cases gK:b=nid
  ·simp only [fp',gK,if_true] at hb
   obtain ⟨rfl,rfl⟩:=mw hb
   exact heap_alloc_new w _
  ·simp only [fp',gK,if_false] at hb
   rw [heap_alloc_old w _ B (h.size (b:=b) (by simp [hb]))]
   exact h.has b B o hb
 ·intro b c B hb qP
  by_cases gK:b=nid<;>by_cases lG:c=nid
  ·omega
  ·simp only [fp',gK,if_true] at hb
   simp only [fp',lG,if_false] at qP
   have:=gp hb;exact absurd this (nC _ _ qP)
  ·simp only [fp',lG,if_true] at qP
   simp only [fp',gK,if_false] at hb
   have:=gp qP;exact absurd this (nC _ _ hb)
  ·simp only [fp',gK,lG,if_false] at hb qP
   exact h.iH b c B hb qP
 ·intro B o u hu
  obtain ⟨g1,g2⟩:=h.fz B o u hu
  have bp:=ra g1
  refine ⟨by rw [World.cell?_of_block (w:=w) (heap_alloc_old w _ _ bp)];exact g1,fun c=>?_⟩
  by_cases lG:c=nid
  ·simp only [fp',lG,if_true,one]
   rw [if_neg (by omega)]
  ·simp only [fp',lG,if_false]
   exact g2 c
 ·intro b B hB hb
  by_cases gK:b=nid
  ·simp only [fp',gK,if_true] at hb
   have:=gp hb;omega
  ·simp only [fp',gK,if_false] at hb
   exact ⟨b,hb⟩
 ·exact fun B o u hu _=>.inr ⟨o,u,hu⟩
theorem aS.ym {S:Nat->Prop} {ρ:bX} {fp:Fp} {J:AH O} {w:World} (h:Rel RO P ρ fp J w) {b:Nat} {x0 x1:eY O} {L:Loc} {ob ob':Obj}
  (hb:J.aa b=some x0) (hL:ρ b=some L) (h1:fp b=one L.B ob) (LU:∀ w',qZ RO P ρ (one L.B ob') L w' x1):
  ∃ fp',aS RO P S ρ fp J w ρ fp' (J.put b x1) (w.putObj L.B ob'):=by
 have ha:w.heap[L.B]? = some ob:=h.has b L.B _ (by rw [h1];exact bO _ _)
 have kA:L.B<w.heap.size:=(Array.getElem?_eq_some_iff.1 ha).1
 let fp':Fp:=fun q=>if q=b then one L.B ob' else fp q
 have RR:∀ q B,fp q B≠none->B=L.B->q=b:=fun q B hq e=>h.iH q b B hq (by rw [h1,e,bO];simp)
 have bp:b<J.next:=by
  rcases Nat.lt_or_ge b J.next with hh |hh
  ·exact hh
  ·rw [(h.next b hh).2] at hb;cases hb
 refine ⟨fp',⟨⟨?_,?_,?_,?_,?_,?_⟩,⟨rfl,rfl,rfl,by simp,?_⟩,?_,?_,bX.le_refl _,fun _ _=>rfl,fun q _ _ h0=>by
  have:q≠b:=fun e=>by rw [e,hb] at h0;cases h0
  simp [this,h0],Nat.le_refl _⟩⟩
 ·intro q hq
  have Cy:J.next<=q:=hq
  obtain ⟨x,y⟩:=h.next q Cy
  exact ⟨x,by simp [y];omega⟩
 ·intro q x L' hx Ed
  by_cases eC:q=b
  ·subst eC
   simp at hx;subst hx
   rw [hL] at Ed;cases Ed
   have:=LU (w.putObj L.B ob')
   simpa [fp'] using this
  ·simp [eC] at hx
   simp only [fp',eC,if_false]
   exact (h.aa q x L' hx Ed).mono (bX.le_refl _)
 ·intro q hq
  by_cases eC:q=b
  ·subst eC;simp [hL] at hq
  ·simp only [fp',eC,if_false]
   simp [eC] at hq
   exact h.dead q hq
 ·intro q B o hq
  by_cases eC:q=b
  ·simp only [fp',eC,if_true] at hq
   obtain ⟨rfl,rfl⟩:=mw hq
   exact World.putObj_heap_same kA
  ·simp only [fp',eC,if_false] at hq
   rw [World.putObj_heap_other fun e=>eC (RR q B (by simp [hq]) e)]
   exact h.has q B o hq
 ·intro q c B hq qP
  have key:∀ q,fp' q B≠none->fp q B≠none:=by
   intro q hq
   by_cases eC:q=b
   ·simp only [fp',eC,if_true] at hq
    rw [eC,h1,gp hq,bO];simp
   ·simpa only [fp',eC,if_false] using hq
  exact h.iH q c B (key q hq) (key c qP)
 ·intro B o u hu
  obtain ⟨g1,g2⟩:=h.fz B o u hu
  have db:B≠L.B:=fun e=>by
   have:=g2 b
   rw [h1,e,bO] at this;cases this
  refine ⟨by rw [World.cell?_of_block (w:=w) (World.putObj_heap_other db)];exact g1,fun c=>?_⟩
  by_cases vO:c=b
  ·simp only [fp',vO,if_true,one]
   rw [if_neg db]
  ·simp only [fp',vO,if_false]
   exact g2 c
 ·intro B hB hn
  refine World.putObj_heap_other fun e=>?_
  have:=hn b
  rw [h1,e,bO] at this;cases this
 ·intro q B hB hq
  by_cases eC:q=b
  ·simp only [fp',eC,if_true] at hq
   exact ⟨b,by rw [h1,gp hq,bO];simp⟩
  ·simp only [fp',eC,if_false] at hq
   exact ⟨q,hq⟩
 ·exact fun B o u hu _=>.inr ⟨o,u,hu⟩
theorem aS.more {S:Nat->Prop} {ρ:bX} {fp:Fp} {J:AH O} {w w':World} (h:Rel RO P ρ fp J w) (hk:∀ B:Nat,B<w.heap.size->w'.heap[B]? = w.heap[B]?) (hs:w.heap.size<=w'.heap.size) (h1:w'.os=w.os) (h2:w'.tape=w.tape) (h3:w'.output=w.output):aS RO P S ρ fp J w ρ fp J w':=
 ⟨h.world hk hs,⟨h1,h2,h3,hs,fun B hB _=>hk B hB⟩,fun b _ _ hb=>⟨b,hb⟩,fun _ _ _ hb _=>.inr ⟨_,_,hb⟩,bX.le_refl _,fun _ _=>rfl,fun _ _ _ h=>h,Nat.le_refl _⟩
end rel
end Go.Abs
