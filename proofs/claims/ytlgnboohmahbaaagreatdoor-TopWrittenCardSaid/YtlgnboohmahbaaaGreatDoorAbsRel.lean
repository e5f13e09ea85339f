/-
  AbsRel: how abstract values and heaps stand to the model's, and what moves keep it.
-/
import Derived.Test.YtlgnboohmahbaaaGreatDoorAbsCore
import Derived.Calls
import Derived.Orders
import Derived.LoopN
import Derived.Laws.Sem
import Derived.Laws.World
import Derived.Laws.Cells
import Derived.Laws.Rows
import Derived.Laws.Append
import Derived.RangeFuncRecord
import Derived.Laws.AppendOwn
import Derived.Laws.CopyRow
import GoSem.ClaimData
set_option linter.unusedVariables false
set_option linter.unusedSimpArgs false
set_option linter.constructorNameAsVariable false
namespace Go.Abs
open Go
structure Loc where
 B:Nat
 O:Nat
 size:Nat
 es:Nat
structure cl where
 loc:Nat → Option Loc
 fz:Nat → Nat → Option Value
instance:CoeFun cl (fun _=>Nat → Option Loc):=⟨cl.loc⟩
abbrev Fp:=Nat → Nat → Option Obj
mutual
inductive aI (ρ:cl):AV → Value → Prop
 |u (v:Value):aI ρ .u v
 |b (x:Bool):aI ρ (.b x) (.bool x)
 |i (k:IntKind) (n:Int):aI ρ (.i k n) (.int k n)
 |s (s:ByteArray):aI ρ (.s s.data.toList) (.string s)
 |pn:aI ρ (.p none) (.pointer none)
 |p (b:jJ) (o:Nat) (L:Loc) (h:pL ρ b L):aI ρ (.p (some (b,o))) (.pointer (some ⟨L.B,L.O+o,none⟩))
 |SN:aI ρ (.sl .nil 0) (.slice none 0 0)
 |Og (a:Addr):aI ρ (.sl .z 0) (.slice (some a) 0 0)
 |QK (b:jJ) (o es:Nat) (a:Addr):aI ρ (.sl (.loc b o es) 0) (.slice (some a) 0 0)
 |sl (b:jJ) (o n cap:Nat) (L:Loc) (h:pL ρ b L) (h1:n ≤ cap) (h2:cap ≤ maxLen) (h3:o+cap*L.es ≤ L.size):aI ρ (.sl (.loc b o L.es) n) (.slice (some ⟨L.B,L.O+o,none⟩) n cap)
 |YB (b:jJ) (o es n cap:Nat) (L:Loc) (h:pL ρ b L) (h0:0<n) (h1:n ≤ cap) (h2:cap ≤ maxLen):aI ρ (.sl (.ar b o es) n) (.slice (some ⟨L.B,L.O+o,none⟩) n cap)
 |mpn:aI ρ (.mp none) (.map none)
 |mp (b:Nat) (L:Loc) (h:pL ρ (.n b) L):aI ρ (.mp (some b)) (.map (some L.B))
 |fnn:aI ρ (.fn none) .nilFunc
 |yl (b:Nat) (L:Loc) (h:pL ρ (.n b) L):aI ρ (.fn (some (.yield b,[],[]))) (.func (.yield L.B) #[] #[])
 |fn (f:Fn) (fi ca:List AV) (QI QJ:List Value) (hf:∀ l,f≠.yield l) (h1:aL ρ fi QI) (h2:aL ρ ca QJ):aI ρ (.fn (some (f,fi,ca))) (.func f QI.toArray QJ.toArray)
 |DC:aI ρ .DC .nilIface
 |agg (cs:List AV) (vs:List Value) (h1:aL ρ cs vs) (h2:cs.all AV.aZ=true):aI ρ (.agg cs) (.agg vs.toArray)
 |aS (cs:List AV) (vs:List Value) (h1:aL ρ cs vs):aI ρ (.aS cs) (.tuple vs.toArray)
inductive aL (ρ:cl):List AV → List Value → Prop
 |nil:aL ρ [] []
 |cons (v:AV) (u:Value) (vs:List AV) (us:List Value) (h1:aI ρ v u) (h2:aL ρ vs us):aL ρ (v::vs) (u::us)
inductive pL (ρ:cl):jJ → Loc → Prop
 |n (b:Nat) (L:Loc) (h:ρ b=some L):pL ρ (.n b) L
 |f (cs:List AV) (us:List Value) (L:Loc) (h1:aL ρ cs us) (h2:cs.all AV.aZ=true) (h3:∀ i u,us[i]? = some u → ρ.fz L.B (L.O+i)=some u):pL ρ (.f cs) L
end
structure cl.le (ρ aR:cl):Prop where
 l:∀ b L,ρ b=some L → aR b=some L
 f:∀ B O u,ρ.fz B O=some u → aR.fz B O=some u
theorem cl.le_refl (ρ:cl):ρ.le ρ:=⟨fun _ _ h=>h,fun _ _ _ h=>h⟩
theorem cl.le.trans {a b c:cl} (h:a.le b) (k:b.le c):a.le c:=⟨fun _ _ x=>k.l _ _ (h.l _ _ x),fun _ _ _ x=>k.f _ _ _ (h.f _ _ _ x)⟩
theorem pL.tQ {ρ:cl} {b:Nat} {L:Loc} (h:pL ρ (.n b) L):ρ b=some L:=by cases h;assumption
mutual
theorem aI.mono {ρ aR:cl} (hl:ρ.le aR):∀ {v:AV} {u:Value},aI ρ v u → aI aR v u
 |_,_,.u v=>.u v
 |_,_,.b x=>.b x
 |_,_,.i k n=>.i k n
 |_,_,.s s=>.s s
 |_,_,.pn=>.pn
 |_,_,.p b o L h=>.p b o L (pL.mono hl h)
 |_,_,.SN=>.SN
 |_,_,.Og a=>.Og a
 |_,_,.QK b o es a=>.QK b o es a
 |_,_,.sl b o n cap L h h1 h2 h3=>.sl b o n cap L (pL.mono hl h) h1 h2 h3
 |_,_,.YB b o es n cap L h h0 h1 h2=>.YB b o es n cap L (pL.mono hl h) h0 h1 h2
 |_,_,.mpn=>.mpn
 |_,_,.mp b L h=>.mp b L (pL.mono hl h)
 |_,_,.fnn=>.fnn
 |_,_,.yl b L h=>.yl b L (pL.mono hl h)
 |_,_,.fn f fi ca QI QJ hf h1 h2=>.fn f fi ca QI QJ hf (aL.mono hl h1) (aL.mono hl h2)
 |_,_,.DC=>.DC
 |_,_,.agg cs vs h1 h2=>.agg cs vs (aL.mono hl h1) h2
 |_,_,.aS cs vs h1=>.aS cs vs (aL.mono hl h1)
theorem aL.mono {ρ aR:cl} (hl:ρ.le aR):∀ {vs:List AV} {us:List Value},aL ρ vs us → aL aR vs us
 |_,_,.nil=>.nil
 |_,_,.cons v u vs us h1 h2=>.cons v u vs us (aI.mono hl h1) (aL.mono hl h2)
theorem pL.mono {ρ aR:cl} (hl:ρ.le aR):∀ {b:jJ} {L:Loc},pL ρ b L → pL aR b L
 |_,_,.n b L h=>.n b L (hl.l _ _ h)
 |_,_,.f cs us L h1 h2 h3=>.f cs us L (aL.mono hl h1) h2 fun i u hu=>hl.f _ _ _ (h3 i u hu)
end
theorem aL.length {ρ:cl}:∀ {vs:List AV} {us:List Value},aL ρ vs us → vs.length=us.length
 |_,_,.nil=>rfl
 |_,_,.cons _ _ _ _ _ h2=>by simp [h2.length]
theorem aL.get {ρ:cl}:∀ {vs:List AV} {us:List Value},aL ρ vs us → ∀ {j:Nat} {v:AV},vs[j]? = some v → ∃ u,us[j]? = some u ∧ aI ρ v u
 |_,_,.nil,_,_,h=>by simp at h
 |_,_,.cons v u vs us h1 h2,0,_,h=>by simp at h;subst h;exact ⟨u,by simp,h1⟩
 |_,_,.cons v u vs us h1 h2,j+1,_,h=>by simp at h;simpa using h2.get h
theorem aL.get' {ρ:cl} {vs:List AV} {us:List Value} (h:aL ρ vs us) {j:Nat} {u:Value} (hu:us[j]? = some u):∃ v,vs[j]? = some v ∧ aI ρ v u:=by
 have hl:=h.length
 have hj:j<vs.length:=by have:=(List.getElem?_eq_some_iff.1 hu).1;omega
 obtain ⟨u',VC,hr⟩:=h.get (List.getElem?_eq_getElem hj)
 rw [hu] at VC;cases VC
 exact ⟨_,List.getElem?_eq_getElem hj,hr⟩
theorem aL.append {ρ:cl}:∀ {vs ws:List AV} {us xs:List Value},aL ρ vs us → aL ρ ws xs → aL ρ (vs++ws) (us++xs)
 |_,_,_,_,.nil,h=>h
 |_,_,_,_,.cons v u vs us h1 h2,h=>.cons v u _ _ h1 (h2.append h)
theorem aL.Ff {ρ:cl}:∀ {vs:List AV} {us:List Value},vs.length=us.length → (∀ (j:Nat) (v:AV) (u:Value),vs[j]? = some v → us[j]? = some u → aI ρ v u) → aL ρ vs us
 |[],[],_,_=>.nil
 |v::vs,u::us,hl,h=>.cons v u vs us (h 0 v u (by simp) (by simp)) (aL.Ff (by simpa using hl) fun j v' u' h1 h2=>h (j+1) v' u' (by simpa using h1) (by simpa using h2))
 |[],_::_,hl,_=>by simp at hl
 |_::_,[],hl,_=>by simp at hl
theorem aL.take {ρ:cl} {vs:List AV} {us:List Value} (h:aL ρ vs us) (n:Nat):aL ρ (vs.take n) (us.take n):=
 .Ff (by simp [h.length]) fun j v u hv hu=>by
  rw [List.getElem?_take] at hv hu
  split at hv
  ·rename_i hj;simp only [hj,if_true] at hu;obtain ⟨u',h1,h2⟩:=h.get hv;rw [hu] at h1;cases h1;exact h2
  ·simp at hv
theorem aL.drop {ρ:cl} {vs:List AV} {us:List Value} (h:aL ρ vs us) (n:Nat):aL ρ (vs.drop n) (us.drop n):=
 .Ff (by simp [h.length]) fun j v u hv hu=>by
  rw [List.getElem?_drop] at hv hu
  obtain ⟨u',h1,h2⟩:=h.get hv;rw [hu] at h1;cases h1;exact h2
theorem aI.one {ρ:cl} {v:AV} {u:Value} (h:aI ρ v u) (ho:v.aZ=true):u.oneCell'=true ∧ u.cells = #[u] ∧ v.cells=[v]:=by
 cases h<;>simp_all [AV.aZ,Value.oneCell',Value.cells,AV.cells]
theorem aI.cells {ρ:cl} {v:AV} {u:Value} (h:aI ρ v u) (ho:v.cells.all AV.aZ=true):aL ρ v.cells u.cells.toList ∧ (∀ x∈u.cells.toList,x.oneCell'=true):=by
 by_cases hv:v.aZ=true
 ·obtain ⟨h1,h2,h3⟩:=h.one hv
  rw [h2,h3]
  exact ⟨.cons _ _ _ _ h .nil,by simpa using h1⟩
 ·cases h<;>first |(simp [AV.aZ] at hv;done) |skip
  case u=>simp [AV.cells,AV.aZ] at ho
  case agg cs vs h1 h2=>
   refine ⟨h1,fun x hx=>?_⟩
   obtain ⟨j,hj⟩:=List.getElem?_of_mem (by simpa [Value.cells] using hx)
   obtain ⟨v,tp,hr⟩:=h1.get' hj
   exact (hr.one (List.all_eq_true.1 h2 v (List.mem_of_getElem? tp))).1
  case aS=>simp [AV.cells,AV.aZ] at ho
section rel
variable {O:Type} (RO:O → Loc → (Nat → Option Obj) → Prop) (P:Program)
def one (B:Nat) (o:Obj):Nat → Option Obj:=fun q=>if q=B then some o else none
def agT:Option Nat → Code |none=>.ret |some id=>.exit id
def aaT:ZZ → Loop → Prop
 |.ready,r=>r.state=.ready ∧ r.pending=none
 |.busy,r=>r.state=.busy
 |.done j,r=>r.state=.done ∧ r.pending=some (agT j)
 |.gone,_=>True
def cn (ρ:cl):List (AV × AV) → List MapEntry → Prop
 |[],[]=>True
 |q::es,x::xs=>aI ρ q.1 x.key ∧ aI ρ q.2 x.val ∧ cn ρ es xs
 |_,_=>False
theorem cn.mono {ρ aR:cl} (hl:ρ.le aR):∀ {es:List (AV × AV)} {xs:List MapEntry},cn ρ es xs → cn aR es xs
 |[],[],_=>trivial
 |_::_,_::_,⟨a,b,c⟩=>⟨a.mono hl,b.mono hl,cn.mono hl c⟩
 |[],_::_,h=>h.elim
 |_::_,[],h=>h.elim
def Iu (ρ:cl) (h:Nat → Option Obj) (L:Loc) (w:World):oM O → Prop
 |.cells true el cs=>∃ arr:Array Value,h=one L.B (.cells arr el (0,0)) ∧ L.O+L.size ≤ arr.size ∧ cs.length ≤ L.size ∧ L.es=Lt P el ∧
   (∀ i v,cs[i]? = some v → v.aZ=true ∧ ∃ u,arr[L.O+i]? = some u ∧ aI ρ v u) ∧ (Ep P el=true → L.O=0 ∧ arr.size=cs.length)
 |.cells false _ cs=>h=(fun _=>none) ∧ ∀ i v,cs[i]? = some v → v.aZ=true ∧ ∃ u,ρ.fz L.B (L.O+i)=some u ∧ aI ρ v u
 |.obj o=>RO o L h
 |.map es st c=>∃ (arr:Array MapEntry),h=one L.B (.map arr c) ∧ cn ρ es arr.toList ∧ arr.toList.map (·.born)=st ∧ (∀ s∈st,s<c) ∧ st.Nodup
 |.iter m idx st c=>L.O=0 ∧ ∃ M,ρ m=some M ∧ h=one L.B (.mapIter (some M.B) c (idx.map (st.getD · 0)).toArray c)
 |.loop site env st=>∃ (r:Loop) (x:Array Tmp × Code × Code),h=one L.B (.loop r) ∧ pN P site=some x ∧ r.params=x.1 ∧ r.assign=x.2.1 ∧ r.body=x.2.2 ∧ aaT st r ∧
   (∀ t,t∈x.1.toList++(aF x.2.1++aF x.2.2) → t<r.tmps.size) ∧ ∀ t v,(t,v)∈env → aI ρ v (r.tmps.getD t undef)
structure Rel (ρ:cl) (fp:Fp) (σ:AH O) (w:World):Prop where
 next:∀ b,σ.next ≤ b → ρ b=none ∧ σ.ai b=none
 ai:∀ b x L,σ.ai b=some x → ρ b=some L → Iu RO P ρ (fp b) L w x
 dead:∀ b,(σ.ai b=none ∨ ρ b=none) → fp b=fun _=>none
 has:∀ b B o,fp b B=some o → w.heap[B]? = some o
 nT:∀ b c B,fp b B≠none → fp c B≠none → b=c
 fz:∀ B O u,ρ.fz B O=some u → w.cell? ⟨B,O,none⟩=some u ∧ ∀ c,fp c B=none
structure Fr (fp:Fp) (w w':World):Prop where
 os:w'.os=w.os
 tape:w'.tape=w.tape
 output:w'.output=w.output
 size:w.heap.size ≤ w'.heap.size
 Kk:∀ B,B<w.heap.size → (∀ b,fp b B=none) → w'.heap[B]? = w.heap[B]?
structure aO (S:Nat → Prop) (ρ:cl) (fp:Fp) (σ:AH O) (w:World) (aR:cl) (fp':Fp) (aj:AH O) (w':World):Prop where
 rel:Rel RO P aR fp' aj w'
 fr:Fr fp w w'
 grow:∀ b B,B<w.heap.size → fp' b B≠none → ∃ c,fp c B≠none
 gro:∀ B O u,aR.fz B O=some u → B<w.heap.size → (∃ c,fp c B≠none) ∨ ∃ O' u',ρ.fz B O'=some u'
 le:ρ.le aR
 ext:∀ b,S b → aR b=ρ b
 blank:∀ b,S b → b<σ.next → σ.ai b=none → aj.ai b=none
 next:σ.next ≤ aj.next
variable {RO} {P}
theorem Fr.refl (fp:Fp) (w:World):Fr fp w w:=⟨rfl,rfl,rfl,Nat.le_refl _,fun _ _ _=>rfl⟩
theorem aO.refl {S:Nat → Prop} {ρ:cl} {fp:Fp} {σ:AH O} {w:World} (h:Rel RO P ρ fp σ w):aO RO P S ρ fp σ w ρ fp σ w:=
 ⟨h,.refl _ _,fun b _ _ hb=>⟨b,hb⟩,fun _ _ _ hb _=>.inr ⟨_,_,hb⟩,cl.le_refl _,fun _ _=>rfl,fun _ _ _ h=>h,Nat.le_refl _⟩
theorem aO.mono {S S':Nat → Prop} {ρ aR:cl} {fp fp':Fp} {σ aj:AH O} {w w':World} (h:aO RO P S ρ fp σ w aR fp' aj w') (hs:∀ b,S' b → S b):aO RO P S' ρ fp σ w aR fp' aj w':=
 ⟨h.rel,h.fr,h.grow,h.gro,h.le,fun b hb=>h.ext b (hs b hb),fun b hb=>h.blank b (hs b hb),h.next⟩
theorem aO.trans {S:Nat → Prop} {ρ aR Oj:cl} {fp fp' Ol:Fp} {σ aj oS:AH O} {w w' Oi:World} (h:aO RO P S ρ fp σ w aR fp' aj w') (k:aO RO P S aR fp' aj w' Oj Ol oS Oi):
  aO RO P S ρ fp σ w Oj Ol oS Oi where
 rel:=k.rel
 fr:=⟨k.fr.os.trans h.fr.os,k.fr.tape.trans h.fr.tape,k.fr.output.trans h.fr.output,Nat.le_trans h.fr.size k.fr.size,fun B hB hn=>by
  rw [k.fr.Kk B (Nat.lt_of_lt_of_le hB h.fr.size) ?_,h.fr.Kk B hB hn]
  intro b
  cases hb:fp' b B with
  |none=>rfl
  |some o=>obtain ⟨c,hc⟩:=h.grow b B hB (by simp [hb]);exact absurd (hn c) hc⟩
 grow:=fun b B hB hb=>by obtain ⟨c,hc⟩:=k.grow b B (Nat.lt_of_lt_of_le hB h.fr.size) hb;exact h.grow c B hB hc
 gro:=fun B o u hb bS=>by
  rcases k.gro B o u hb (Nat.lt_of_lt_of_le bS h.fr.size) with ⟨c,hc⟩ |⟨o',u',h1⟩
  ·exact .inl (h.grow c _ bS hc)
  ·exact h.gro B o' u' h1 bS
 le:=h.le.trans k.le
 ext:=fun b hb=>(k.ext b hb).trans (h.ext b hb)
 blank:=fun b hb bS h0=>k.blank b hb (Nat.lt_of_lt_of_le bS h.next) (h.blank b hb bS h0)
 next:=Nat.le_trans h.next k.next
theorem Iu.mono {ρ aR:cl} {h:Nat → Option Obj} {L:Loc} {w w':World} {x:oM O} (hl:ρ.le aR) (hx:Iu RO P ρ h L w x):Iu RO P aR h L w' x:=by
 match x,hx with
 |.cells true el cs,⟨arr,h1,h2,h3,h4,h5,h6⟩=>exact ⟨arr,h1,h2,h3,h4,fun i v hv=>by obtain ⟨a,u,b,c⟩:=h5 i v hv;exact ⟨a,u,b,c.mono hl⟩,h6⟩
 |.cells false el cs,⟨h1,h5⟩=>exact ⟨h1,fun i v hv=>by obtain ⟨a,u,b,c⟩:=h5 i v hv;exact ⟨a,u,hl.f _ _ _ b,c.mono hl⟩⟩
 |.obj o,hx=>exact hx
 |.map es st c,⟨arr,h1,h2,h3⟩=>exact ⟨arr,h1,h2.mono hl,h3⟩
 |.iter m idx st c,⟨h0,M,h1,h2⟩=>exact ⟨h0,M,hl.l _ _ h1,h2⟩
 |.loop site env st,⟨r,x,h1,h2,h3,h4,h5,h6,h7,h8⟩=>exact ⟨r,x,h1,h2,h3,h4,h5,h6,h7,fun t v hm=>(h8 t v hm).mono hl⟩
theorem wC {w:World} {B o:Nat} {u:Value} (h:w.cell? ⟨B,o,none⟩=some u):B<w.heap.size:=by
 unfold World.cell? at h
 split at h
 ·rename_i c e f hb
  exact (Array.getElem?_eq_some_iff.1 hb).1
 ·cases h
theorem Rel.size {ρ:cl} {fp:Fp} {σ:AH O} {w:World} (h:Rel RO P ρ fp σ w) {b B:Nat} (hb:fp b B≠none):B<w.heap.size:=by
 cases hx:fp b B with
 |none=>exact absurd hx hb
 |some o=>exact (Array.getElem?_eq_some_iff.1 (h.has b B o hx)).1
theorem Rel.world {ρ:cl} {fp:Fp} {σ:AH O} {w w':World} (h:Rel RO P ρ fp σ w) (hk:∀ B:Nat,B<w.heap.size → w'.heap[B]? = w.heap[B]?) (_:w.heap.size ≤ w'.heap.size):Rel RO P ρ fp σ w' where
 next:=h.next
 ai:=fun b x L hx hL=>(h.ai b x L hx hL).mono (cl.le_refl _)
 dead:=h.dead
 has:=fun b B o hb=>by rw [hk B (h.size (b:=b) (by simp [hb]))];exact h.has b B o hb
 nT:=h.nT
 fz:=fun B o u hu=>by
  obtain ⟨h1,h2⟩:=h.fz B o u hu
  exact ⟨by rw [World.cell?_of_block (w:=w) (w':=w') (hk B (wC h1))];exact h1,h2⟩
theorem aO.drew {S:Nat → Prop} {ρ:cl} {fp:Fp} {σ:AH O} {w:World} (h:Rel RO P ρ fp σ w):aO RO P S ρ fp σ w ρ fp σ w.drew:=
 ⟨h.world (fun _ _=>rfl) (Nat.le_refl _),⟨rfl,rfl,rfl,Nat.le_refl _,fun _ _ _=>rfl⟩,fun b _ _ hb=>⟨b,hb⟩,fun _ _ _ hb _=>.inr ⟨_,_,hb⟩,cl.le_refl _,fun _ _=>rfl,fun _ _ _ h=>h,Nat.le_refl _⟩
theorem bp (B:Nat) (o:Obj):one B o B=some o:=by simp [one]
theorem nU {B C:Nat} {o:Obj} (h:one B o C≠none):C=B:=by
 unfold one at h;split at h
 ·assumption
 ·simp at h
theorem BM {B C:Nat} {o p:Obj} (h:one B o C=some p):C=B ∧ p=o:=by
 unfold one at h;split at h
 ·rename_i hc;cases h;exact ⟨hc,rfl⟩
 ·simp at h
@[simp] theorem AH.Gz {σ:AH O} {b q:Nat} {x:oM O}:(σ.put b x).ai q=if q=b then some x else σ.ai q:=by
 simp only [AH.put];by_cases h:q=b
 ·subst h;simp
 ·have:Nat.beq q b=false:=by cases hh:Nat.beq q b with |false=>rfl |true=>exact absurd (Nat.eq_of_beq_eq_true hh) h
  simp [this,h]
@[simp] theorem AH.lS {σ:AH O} {b q:Nat}:(σ.kill b).ai q=if q=b then none else σ.ai q:=by
 simp only [AH.kill];by_cases h:q=b
 ·subst h;simp
 ·have:Nat.beq q b=false:=by cases hh:Nat.beq q b with |false=>rfl |true=>exact absurd (Nat.eq_of_beq_eq_true hh) h
  simp [this,h]
@[simp] theorem AH.gK {σ:AH O} {b:Nat} {x:oM O}:(σ.put b x).next=σ.next:=rfl
@[simp] theorem AH.gR {σ:AH O} {b:Nat}:(σ.kill b).next=σ.next:=rfl
theorem aO.alloc {ρ:cl} {fp:Fp} {σ:AH O} {w:World} (h:Rel RO P ρ fp σ w) {nid:Nat} (hn:nid<σ.next) (h1:ρ nid=none)
  (el:TypeId) (cs:List AV) (arr:Array Value) (hl:cs.length ≤ arr.size) (hc:∀ (i:Nat) (v:AV),cs[i]? = some v → v.aZ=true ∧ ∃ u,arr[i]? = some u ∧ aI ρ v u) (hB:Ep P el=true → arr.size=cs.length):
  ∃ aR fp',aR nid=some ⟨w.heap.size,0,arr.size,Lt P el⟩ ∧ aO RO P (fun b=>b≠nid) ρ fp σ w aR fp' (σ.put nid (.cells true el cs)) (w.alloc (.cells arr el)):=by
 let aR:cl:=⟨fun b=>if b=nid then some ⟨w.heap.size,0,arr.size,Lt P el⟩ else ρ b,ρ.fz⟩
 let fp':Fp:=fun b=>if b=nid then one w.heap.size (.cells arr el (0,0)) else fp b
 have hle:ρ.le aR:=⟨fun b L hb=>by
  have:b≠nid:=fun e=>by rw [e,h1] at hb;cases hb
  simp [aR,this,hb],fun _ _ _ hu=>hu⟩
 have hfn:fp nid=fun _=>none:=h.dead nid (.inr h1)
 have Ij:∀ b B,fp b B≠none → B≠w.heap.size:=fun b B hb e=>by have:=h.size hb;omega
 refine ⟨aR,fp',by simp [aR],⟨⟨?_,?_,?_,?_,?_,?_⟩,⟨rfl,rfl,rfl,by simp,fun B hB _=>heap_alloc_old w _ B hB⟩,?_,?_,hle,fun b hb=>by simp [aR,hb],fun b hb _ h0=>by simp [hb,h0],Nat.le_refl _⟩⟩
 ·intro b hb
  have oP:σ.next ≤ b:=hb
  have:b≠nid:=by omega
  obtain ⟨a,c⟩:=h.next b oP
  simp [aR,this,a,c]
 ·intro b x L hx hL
  by_cases qY:b=nid
  ·subst qY
   simp at hx;subst hx
   simp [aR] at hL;subst hL
   refine ⟨arr,by simp [fp'],by simp,hl,rfl,fun i v hv=>?_,fun q=>⟨rfl,hB q⟩⟩
   obtain ⟨a,u,b',c⟩:=hc i v hv
   exact ⟨a,u,by simpa using b',c.mono hle⟩
  ·simp [qY] at hx
   simp [aR,qY] at hL
   simp only [fp',qY,if_false]
   exact (h.ai b x L hx hL).mono hle
 ·intro b hb
  by_cases qY:b=nid
  ·subst qY;simp [aR] at hb
  ·simp only [fp',qY,if_false]
   simp [qY,aR] at hb
   exact h.dead b hb
 ·intro b B o hb
  by_cases qY:b=nid
  ·simp only [fp',qY,if_true] at hb
   obtain ⟨rfl,rfl⟩:=BM hb
   exact heap_alloc_new w _
  ·simp only [fp',qY,if_false] at hb
   rw [heap_alloc_old w _ B (h.size (b:=b) (by simp [hb]))]
   exact h.has b B o hb
 ·intro b c B hb Ib
  by_cases qY:b=nid<;>by_cases H0:c=nid
  ·omega
  ·simp only [fp',qY,if_true] at hb
   simp only [fp',H0,if_false] at Ib
   have:=nU hb;exact absurd this (Ij _ _ Ib)
  ·simp only [fp',H0,if_true] at Ib
   simp only [fp',qY,if_false] at hb
   have:=nU Ib;exact absurd this (Ij _ _ hb)
  ·simp only [fp',qY,H0,if_false] at hb Ib
   exact h.nT b c B hb Ib
 ·intro B o u hu
  obtain ⟨g1,g2⟩:=h.fz B o u hu
  have bS:=wC g1
  refine ⟨by rw [World.cell?_of_block (w:=w) (heap_alloc_old w _ _ bS)];exact g1,fun c=>?_⟩
  by_cases H0:c=nid
  ·simp only [fp',H0,if_true,one]
   rw [if_neg (by omega)]
  ·simp only [fp',H0,if_false]
   exact g2 c
 ·intro b B hB hb
  by_cases qY:b=nid
  ·simp only [fp',qY,if_true] at hb
   have:=nU hb;omega
  ·simp only [fp',qY,if_false] at hb
   exact ⟨b,hb⟩
 ·exact fun B o u hu _=>.inr ⟨o,u,hu⟩
theorem Rel.own {ρ:cl} {fp:Fp} {σ:AH O} {w:World} (h:Rel RO P ρ fp σ w) {b:Nat} {el:TypeId} {cs:List AV} {L:Loc} (hb:σ.ai b=some (.cells true el cs)) (hL:ρ b=some L):
  ∃ arr:Array Value,fp b=one L.B (.cells arr el (0,0)) ∧ w.heap[L.B]? = some (.cells arr el (0,0)) ∧ L.O+L.size ≤ arr.size ∧ cs.length ≤ L.size ∧ L.es=Lt P el ∧
   ∀ (i:Nat) (v:AV),cs[i]? = some v → v.aZ=true ∧ ∃ u,arr[L.O+i]? = some u ∧ aI ρ v u:=by
 obtain ⟨arr,h1,h2,h3,h4,h5,_⟩:=h.ai b _ L hb hL
 exact ⟨arr,h1,h.has b L.B _ (by rw [h1];exact bp _ _),h2,h3,h4,h5⟩
theorem Rel.alone {ρ:cl} {fp:Fp} {σ:AH O} {w:World} (h:Rel RO P ρ fp σ w) {b:Nat} {el:TypeId} {cs:List AV} {L:Loc} (hb:σ.ai b=some (.cells true el cs)) (hL:ρ b=some L) (hB:Ep P el=true) {arr:Array Value} (ha:w.heap[L.B]? = some (.cells arr el (0,0))):L.O=0 ∧ arr.size=cs.length:=by
 obtain ⟨YO,h1,h2,h3,h4,h5,h6⟩:=h.ai b _ L hb hL
 have h7:=h.has b L.B _ (by rw [h1];exact bp _ _)
 rw [ha] at h7
 cases h7
 exact h6 hB
theorem Rel.ld {ρ:cl} {fp:Fp} {σ:AH O} {w:World} (h:Rel RO P ρ fp σ w) {b:jJ} {o:Nat} {v:AV} {L:Loc} (hv:σ.ld b o=some v) (hL:pL ρ b L):
  v.aZ=true ∧ ∃ u,w.cell? ⟨L.B,L.O+o,none⟩=some u ∧ aI ρ v u:=by
 cases hL with
 |n b L hL=>
  simp only [AH.ld] at hv
  split at hv
  ·rename_i ow el cs hb
   cases ow with
   |true=>
    obtain ⟨arr,_,h2,_,_,_,h5⟩:=h.own hb hL
    obtain ⟨a,u,b',c⟩:=h5 o v hv
    exact ⟨a,u,by rw [cell_of_row w L.B (L.O+o) arr el (0,0) h2];exact b',c⟩
   |false=>
    obtain ⟨_,h5⟩:=h.ai b _ L hb hL
    obtain ⟨a,u,b',c⟩:=h5 o v hv
    exact ⟨a,u,(h.fz _ _ _ b').1,c⟩
  ·cases hv
 |f cs us L h1 h2 h3=>
  simp only [AH.ld] at hv
  obtain ⟨u,hu,hr⟩:=h1.get hv
  exact ⟨List.all_eq_true.1 h2 v (List.mem_of_getElem? hv),u,(h.fz _ _ _ (h3 o u hu)).1,hr⟩
theorem aO.set {S:Nat → Prop} {ρ:cl} {fp:Fp} {σ:AH O} {w:World} (h:Rel RO P ρ fp σ w) {b:Nat} {el:TypeId} {cs:List AV} {L:Loc} {arr:Array Value}
  (hb:σ.ai b=some (.cells true el cs)) (hL:ρ b=some L) (ha:w.heap[L.B]? = some (.cells arr el (0,0)))
  (qm:List AV) (Fh:Array Value) (hs:Fh.size=arr.size) (hl:qm.length ≤ L.size)
  (hc:∀ (i:Nat) (v:AV),qm[i]? = some v → v.aZ=true ∧ ∃ u,Fh[L.O+i]? = some u ∧ aI ρ v u) (Jy:qm.length=cs.length):
  ∃ fp',aO RO P S ρ fp σ w ρ fp' (σ.put b (.cells true el qm)) (w.setRow L.B Fh):=by
 obtain ⟨YO,h1,h2,h3,h4,h5,_⟩:=h.own hb hL
 obtain rfl:YO=arr:=by rw [ha] at h2;cases h2;rfl
 let fp':Fp:=fun q=>if q=b then one L.B (.cells Fh el (0,0)) else fp q
 have hfb:∀ q B,fp q B≠none → B=L.B → q=b:=fun q B hq e=>h.nT q b B hq (by rw [h1,e,bp];simp)
 have bS:b<σ.next:=by
  rcases Nat.lt_or_ge b σ.next with hh |hh
  ·exact hh
  ·rw [(h.next b hh).2] at hb;cases hb
 refine ⟨fp',⟨⟨?_,?_,?_,?_,?_,?_⟩,⟨rfl,rfl,rfl,by simp,?_⟩,?_,?_,cl.le_refl _,fun _ _=>rfl,fun q _ _ h0=>by
  have:q≠b:=fun e=>by rw [e,hb] at h0;cases h0
  simp [this,h0],Nat.le_refl _⟩⟩
 ·intro q hq
  have LF:σ.next ≤ q:=hq
  obtain ⟨x,y⟩:=h.next q LF
  exact ⟨x,by simp [y];omega⟩
 ·intro q x L' hx SD
  by_cases eL:q=b
  ·subst eL
   simp at hx;subst hx
   rw [hL] at SD;cases SD
   exact ⟨Fh,by simp [fp'],by omega,hl,h5,hc,fun q=>by have:=h.alone hb hL q ha;omega⟩
  ·simp [eL] at hx
   simp only [fp',eL,if_false]
   exact (h.ai q x L' hx SD).mono (cl.le_refl _)
 ·intro q hq
  by_cases eL:q=b
  ·subst eL;simp [hL] at hq
  ·simp only [fp',eL,if_false]
   simp [eL] at hq
   exact h.dead q hq
 ·intro q B o hq
  by_cases eL:q=b
  ·simp only [fp',eL,if_true] at hq
   obtain ⟨rfl,rfl⟩:=BM hq
   exact setRow_heap w _ YO _ el _ ha
  ·simp only [fp',eL,if_false] at hq
   rw [setRow_other w _ _ _ fun e=>eL (hfb q B (by simp [hq]) e)]
   exact h.has q B o hq
 ·intro q c B hq Ib
  have key:∀ q,fp' q B≠none → fp q B≠none:=by
   intro q hq
   by_cases eL:q=b
   ·simp only [fp',eL,if_true] at hq
    rw [eL,h1,nU hq,bp];simp
   ·simpa only [fp',eL,if_false] using hq
  exact h.nT q c B (key q hq) (key c Ib)
 ·intro B o u hu
  obtain ⟨g1,g2⟩:=h.fz B o u hu
  have jL:B≠L.B:=fun e=>by
   have:=g2 b
   rw [h1,e,bp] at this;cases this
  refine ⟨by rw [World.cell?_of_block (w:=w) (setRow_other w _ _ _ jL)];exact g1,fun c=>?_⟩
  by_cases SE:c=b
  ·simp only [fp',SE,if_true,one]
   rw [if_neg jL]
  ·simp only [fp',SE,if_false]
   exact g2 c
 ·intro B hB hn
  refine setRow_other w _ _ _ fun e=>?_
  have:=hn b
  rw [h1,e,bp] at this;cases this
 ·intro q B hB hq
  by_cases eL:q=b
  ·simp only [fp',eL,if_true] at hq
   exact ⟨b,by rw [h1,nU hq,bp];simp⟩
  ·simp only [fp',eL,if_false] at hq
   exact ⟨q,hq⟩
 ·exact fun B o u hu _=>.inr ⟨o,u,hu⟩
theorem aO.kill {S:Nat → Prop} {ρ:cl} {fp:Fp} {σ:AH O} {w:World} (h:Rel RO P ρ fp σ w) (b:Nat):∃ fp',aO RO P S ρ fp σ w ρ fp' (σ.kill b) w:=by
 let fp':Fp:=fun q=>if q=b then (fun _=>none) else fp q
 have key:∀ q B,fp' q B≠none → fp q B≠none:=by
  intro q B hq
  by_cases eL:q=b
  ·simp [fp',eL] at hq
  ·simpa only [fp',eL,if_false] using hq
 refine ⟨fp',⟨⟨?_,?_,?_,?_,?_,?_⟩,.refl _ _,fun q B _ hq=>⟨q,key q B hq⟩,fun _ o u hu _=>.inr ⟨o,u,hu⟩,cl.le_refl _,fun _ _=>rfl,fun q _ _ h0=>by simp [h0],Nat.le_refl _⟩⟩
 ·intro q hq
  obtain ⟨x,y⟩:=h.next q hq
  exact ⟨x,by simp [y]⟩
 ·intro q x L hx hL
  simp at hx
  obtain ⟨eL,hx⟩:=hx
  simp only [fp',eL,if_false]
  exact h.ai q x L hx hL
 ·intro q hq
  by_cases eL:q=b
  ·simp [fp',eL]
  ·simp only [fp',eL,if_false]
   simp [eL] at hq
   exact h.dead q hq
 ·intro q B o hq
  by_cases eL:q=b
  ·simp [fp',eL] at hq
  ·simp only [fp',eL,if_false] at hq
   exact h.has q B o hq
 ·exact fun q c B hq hc=>h.nT q c B (key q B hq) (key c B hc)
 ·intro B o u hu
  obtain ⟨g1,g2⟩:=h.fz B o u hu
  refine ⟨g1,fun c=>?_⟩
  by_cases SE:c=b
  ·simp [fp',SE]
  ·simpa only [fp',SE,if_false] using g2 c
theorem aO.move {ρ:cl} {fp:Fp} {σ:AH O} {w:World} (h:Rel RO P ρ fp σ w) {b nid:Nat} {el:TypeId} {cs:List AV} {L:Loc} {arr:Array Value}
  (hb:σ.ai b=some (.cells true el cs)) (hL:ρ b=some L) (ha:w.heap[L.B]? = some (.cells arr el (0,0)))
  (hn:nid<σ.next) (Yr:ρ nid=none) (o:Nat) (ho:o ≤ L.size)
  (qm:List AV) (Fh:Array Value) (hs:Fh.size=arr.size) (hl:o+qm.length ≤ L.size)
  (hc:∀ (i:Nat) (v:AV),qm[i]? = some v → v.aZ=true ∧ ∃ u,Fh[L.O+o+i]? = some u ∧ aI ρ v u) (hB:Ep P el=false):
  ∃ aR fp',aR nid=some ⟨L.B,L.O+o,L.size - o,L.es⟩ ∧ aO RO P (fun q=>q≠nid) ρ fp σ w aR fp' ((σ.kill b).put nid (.cells true el qm)) (w.setRow L.B Fh):=by
 obtain ⟨YO,h1,h2,h3,h4,h5,_⟩:=h.own hb hL
 obtain rfl:YO=arr:=by rw [ha] at h2;cases h2;rfl
 have qY:b≠nid:=fun e=>by rw [e,Yr] at hL;cases hL
 let aR:cl:=⟨fun q=>if q=nid then some ⟨L.B,L.O+o,L.size - o,L.es⟩ else ρ q,ρ.fz⟩
 let fp':Fp:=fun q=>if q=nid then one L.B (.cells Fh el (0,0)) else if q=b then (fun _=>none) else fp q
 have hle:ρ.le aR:=⟨fun q L' hq=>by
  have:q≠nid:=fun e=>by rw [e,Yr] at hq;cases hq
  simp [aR,this,hq],fun _ _ _ hu=>hu⟩
 have hfb:∀ q B,fp q B≠none → B=L.B → q=b:=fun q B hq e=>h.nT q b B hq (by rw [h1,e,bp];simp)
 refine ⟨aR,fp',by simp [aR],⟨⟨?_,?_,?_,?_,?_,?_⟩,⟨rfl,rfl,rfl,by simp,?_⟩,?_,?_,hle,fun q hq=>by simp [aR,hq],fun q hq _ h0=>by simp [hq,h0],Nat.le_refl _⟩⟩
 ·intro q hq
  have LF:σ.next ≤ q:=hq
  have:q≠nid:=by omega
  obtain ⟨x,y⟩:=h.next q LF
  simp [aR,this,x,y]
 ·intro q x L' hx SD
  by_cases QV:q=nid
  ·subst QV
   simp at hx;subst hx
   simp [aR] at SD;subst SD
   refine ⟨Fh,by simp [fp'],by simp;omega,by simp;omega,h5,fun i v hv=>?_,fun q=>by rw [hB] at q;cases q⟩
   obtain ⟨x1,u,x2,x3⟩:=hc i v hv
   exact ⟨x1,u,x2,x3.mono hle⟩
  ·simp [QV] at hx
   simp [aR,QV] at SD
   obtain ⟨eL,hx⟩:=hx
   simp only [fp',QV,eL,if_false]
   exact (h.ai q x L' hx SD).mono hle
 ·intro q hq
  by_cases QV:q=nid
  ·subst QV;simp [aR] at hq
  ·by_cases eL:q=b
   ·simp [fp',eL,qY]
   ·simp only [fp',QV,eL,if_false]
    simp [QV,eL,aR] at hq
    exact h.dead q hq
 ·intro q B x hq
  by_cases QV:q=nid
  ·simp only [fp',QV,if_true] at hq
   obtain ⟨rfl,rfl⟩:=BM hq
   exact setRow_heap w _ YO _ el _ ha
  ·by_cases eL:q=b
   ·simp [fp',eL,qY] at hq
   ·simp only [fp',QV,eL,if_false] at hq
    rw [setRow_other w _ _ _ fun e=>eL (hfb q B (by simp [hq]) e)]
    exact h.has q B x hq
 ·intro q c B hq Ib
  have key:∀ q,fp' q B≠none → (q=nid ∧ B=L.B) ∨ (q≠nid ∧ q≠b ∧ fp q B≠none):=by
   intro q hq
   by_cases QV:q=nid
   ·simp only [fp',QV,if_true] at hq
    exact .inl ⟨QV,nU hq⟩
   ·by_cases eL:q=b
    ·simp [fp',eL,qY] at hq
    ·simp only [fp',QV,eL,if_false] at hq
     exact .inr ⟨QV,eL,hq⟩
  rcases key q hq with ⟨a1,a2⟩ |⟨a1,a2,a3⟩<;>rcases key c Ib with ⟨b1,b2⟩ |⟨b1,b2,b3⟩
  ·omega
  ·exact absurd (hfb c B b3 a2) b2
  ·exact absurd (hfb q B a3 b2) a2
  ·exact h.nT q c B a3 b3
 ·intro B o' u hu
  obtain ⟨g1,g2⟩:=h.fz B o' u hu
  have jL:B≠L.B:=fun e=>by
   have:=g2 b
   rw [h1,e,bp] at this;cases this
  refine ⟨by rw [World.cell?_of_block (w:=w) (setRow_other w _ _ _ jL)];exact g1,fun c=>?_⟩
  by_cases H0:c=nid
  ·simp [fp',H0,one,jL]
  ·by_cases SE:c=b
   ·simp [fp',SE,qY]
   ·simp only [fp',H0,SE,if_false]
    exact g2 c
 ·intro B hB hq
  refine setRow_other w _ _ _ fun e=>?_
  have:=hq b
  rw [h1,e,bp] at this;cases this
 ·intro q B hB hq
  by_cases QV:q=nid
  ·simp only [fp',QV,if_true] at hq
   exact ⟨b,by rw [h1,nU hq,bp];simp⟩
  ·by_cases eL:q=b
   ·simp [fp',eL,qY] at hq
   ·simp only [fp',QV,eL,if_false] at hq
    exact ⟨q,hq⟩
 ·exact fun B o' u hu _=>.inr ⟨o',u,hu⟩
theorem aO.freeze {S:Nat → Prop} {ρ:cl} {fp:Fp} {σ:AH O} {w:World} (h:Rel RO P ρ fp σ w) {b:Nat} {el:TypeId} {cs:List AV} {L:Loc} (hb:σ.ai b=some (.cells true el cs)) (hL:ρ b=some L):
  ∃ aR fp',aO RO P S ρ fp σ w aR fp' (σ.kill b) w ∧ ∃ us:List Value,aL aR cs us ∧ cs.all AV.aZ=true ∧ ∀ i u,us[i]? = some u → aR.fz L.B (L.O+i)=some u:=by
 obtain ⟨arr,h1,h2,h3,h4,h5,h6⟩:=h.own hb hL
 let aR:cl:=⟨ρ.loc,fun B o=>if B=L.B then w.cell? ⟨B,o,none⟩ else ρ.fz B o⟩
 let fp':Fp:=fun q=>if q=b then (fun _=>none) else fp q
 have hle:ρ.le aR:=⟨fun _ _ h=>h,fun B o u hu=>by
  by_cases hB:B=L.B
  ·simp only [aR,hB,if_true];rw [← hB];exact (h.fz B o u hu).1
  ·simp only [aR,hB,if_false];exact hu⟩
 have key:∀ q B,fp' q B≠none → fp q B≠none:=by
  intro q B hq
  by_cases eL:q=b
  ·simp [fp',eL] at hq
  ·simpa only [fp',eL,if_false] using hq
 refine ⟨aR,fp',⟨⟨?_,?_,?_,?_,?_,?_⟩,.refl _ _,fun q B _ hq=>⟨q,key q B hq⟩,fun B o u hu bS=>?_,hle,fun _ _=>rfl,fun q _ _ h0=>by simp [h0],Nat.le_refl _⟩,?_⟩
 ·intro q hq
  obtain ⟨x,y⟩:=h.next q hq
  exact ⟨x,by simp [y]⟩
 ·intro q x L' hx SD
  simp at hx
  obtain ⟨eL,hx⟩:=hx
  simp only [fp',eL,if_false]
  exact (h.ai q x L' hx SD).mono hle
 ·intro q hq
  by_cases eL:q=b
  ·simp [fp',eL]
  ·simp only [fp',eL,if_false]
   simp [eL] at hq
   exact h.dead q hq
 ·intro q B o hq
  by_cases eL:q=b
  ·simp [fp',eL] at hq
  ·simp only [fp',eL,if_false] at hq
   exact h.has q B o hq
 ·exact fun q c B hq hc=>h.nT q c B (key q B hq) (key c B hc)
 ·intro B o u hu
  by_cases hB:B=L.B
  ·simp only [aR,hB,if_true] at hu
   refine ⟨by rw [hB];exact hu,fun c=>?_⟩
   by_cases SE:c=b
   ·simp [fp',SE]
   ·simp only [fp',SE,if_false]
    cases hx:fp c B with
    |none=>rfl
    |some y=>exact absurd (h.nT c b B (by rw [hx];simp) (by rw [h1,hB,bp];simp)) SE
  ·simp only [aR,hB,if_false] at hu
   obtain ⟨g1,g2⟩:=h.fz B o u hu
   refine ⟨g1,fun c=>?_⟩
   by_cases SE:c=b
   ·simp [fp',SE]
   ·simpa only [fp',SE,if_false] using g2 c
 ·by_cases hB:B=L.B
  ·exact .inl ⟨b,by rw [h1,hB,bp];simp⟩
  ·simp only [aR,hB,if_false] at hu
   exact .inr ⟨o,u,hu⟩
 ·refine ⟨(arr.toList.drop L.O).take cs.length,?_,?_,fun i u hu=>?_⟩
  ·refine .Ff (by simp;omega) fun j v u hv hu=>?_
   rw [List.getElem?_take] at hu
   split at hu
   ·rw [List.getElem?_drop] at hu
    obtain ⟨_,u',g1,g2⟩:=h6 j v hv
    rw [Array.getElem?_toList] at hu
    rw [g1] at hu;cases hu
    exact g2.mono hle
   ·cases hu
  ·refine List.all_eq_true.2 fun x hx=>?_
   obtain ⟨j,hj⟩:=List.getElem?_of_mem hx
   exact (h6 j x hj).1
  ·rw [List.getElem?_take] at hu
   split at hu
   ·rw [List.getElem?_drop,Array.getElem?_toList] at hu
    simp only [aR,if_true]
    rw [cell_of_row w L.B (L.O+i) arr el (0,0) h2];exact hu
   ·cases hu
theorem aO.VS {ρ:cl} {fp:Fp} {σ:AH O} {w:World} (h:Rel RO P ρ fp σ w) {nid:Nat} (hn:nid<σ.next) (h1:ρ nid=none)
  (ob:Obj) (x0:oM O) (L0:Loc) (hx0:∀ aR:cl,ρ.le aR → ∀ w',Iu RO P aR (one w.heap.size ob) L0 w' x0):
  ∃ aR fp',aR nid=some L0 ∧ aO RO P (fun b=>b≠nid) ρ fp σ w aR fp' (σ.put nid x0) (w.alloc ob):=by
 let aR:cl:=⟨fun b=>if b=nid then some L0 else ρ b,ρ.fz⟩
 let fp':Fp:=fun b=>if b=nid then one w.heap.size ob else fp b
 have hle:ρ.le aR:=⟨fun b L hb=>by
  have:b≠nid:=fun e=>by rw [e,h1] at hb;cases hb
  simp [aR,this,hb],fun _ _ _ hu=>hu⟩
 have hfn:fp nid=fun _=>none:=h.dead nid (.inr h1)
 have Ij:∀ b B,fp b B≠none → B≠w.heap.size:=fun b B hb e=>by have:=h.size hb;omega
 refine ⟨aR,fp',by simp [aR],⟨⟨?_,?_,?_,?_,?_,?_⟩,⟨rfl,rfl,rfl,by simp,fun B hB _=>heap_alloc_old w _ B hB⟩,?_,?_,hle,fun b hb=>by simp [aR,hb],fun b hb _ h0=>by simp [hb,h0],Nat.le_refl _⟩⟩
 ·intro b hb
  have oP:σ.next ≤ b:=hb
  have:b≠nid:=by omega
  obtain ⟨a,c⟩:=h.next b oP
  simp [aR,this,a,c]
 ·intro b x L hx hL
  by_cases qY:b=nid
  ·subst qY
   simp at hx;subst hx
   simp [aR] at hL;subst hL
   have:=hx0 aR hle (w.alloc ob)
   simpa [fp'] using this
  ·simp [qY] at hx
   simp [aR,qY] at hL
   simp only [fp',qY,if_false]
   exact (h.ai b x L hx hL).mono hle
 ·intro b hb
  by_cases qY:b=nid
  ·subst qY;simp [aR] at hb
  ·simp only [fp',qY,if_false]
   simp [qY,aR] at hb
   exact h.dead b hb
 ·intro b B o hb
  by_cases qY:b=nid
  ·simp only [fp',qY,if_true] at hb
   obtain ⟨rfl,rfl⟩:=BM hb
   exact heap_alloc_new w _
  ·simp only [fp',qY,if_false] at hb
   rw [heap_alloc_old w _ B (h.size (b:=b) (by simp [hb]))]
   exact h.has b B o hb
 ·intro b c B hb Ib
  by_cases qY:b=nid<;>by_cases H0:c=nid
  ·omega
  ·simp only [fp',qY,if_true] at hb
   simp only [fp',H0,if_false] at Ib
   have:=nU hb;exact absurd this (Ij _ _ Ib)
  ·simp only [fp',H0,if_true] at Ib
   simp only [fp',qY,if_false] at hb
   have:=nU Ib;exact absurd this (Ij _ _ hb)
  ·simp only [fp',qY,H0,if_false] at hb Ib
   exact h.nT b c B hb Ib
 ·intro B o u hu
  obtain ⟨g1,g2⟩:=h.fz B o u hu
  have bS:=wC g1
  refine ⟨by rw [World.cell?_of_block (w:=w) (heap_alloc_old w _ _ bS)];exact g1,fun c=>?_⟩
  by_cases H0:c=nid
  ·simp only [fp',H0,if_true,one]
   rw [if_neg (by omega)]
  ·simp only [fp',H0,if_false]
   exact g2 c
 ·intro b B hB hb
  by_cases qY:b=nid
  ·simp only [fp',qY,if_true] at hb
   have:=nU hb;omega
  ·simp only [fp',qY,if_false] at hb
   exact ⟨b,hb⟩
 ·exact fun B o u hu _=>.inr ⟨o,u,hu⟩
theorem aO.S6 {S:Nat → Prop} {ρ:cl} {fp:Fp} {σ:AH O} {w:World} (h:Rel RO P ρ fp σ w) {b:Nat} {x0 x1:oM O} {L:Loc} {ob ob':Obj}
  (hb:σ.ai b=some x0) (hL:ρ b=some L) (h1:fp b=one L.B ob) (QT:∀ w',Iu RO P ρ (one L.B ob') L w' x1):
  ∃ fp',aO RO P S ρ fp σ w ρ fp' (σ.put b x1) (w.putObj L.B ob'):=by
 have ha:w.heap[L.B]? = some ob:=h.has b L.B _ (by rw [h1];exact bp _ _)
 have qX:L.B<w.heap.size:=(Array.getElem?_eq_some_iff.1 ha).1
 let fp':Fp:=fun q=>if q=b then one L.B ob' else fp q
 have hfb:∀ q B,fp q B≠none → B=L.B → q=b:=fun q B hq e=>h.nT q b B hq (by rw [h1,e,bp];simp)
 have bS:b<σ.next:=by
  rcases Nat.lt_or_ge b σ.next with hh |hh
  ·exact hh
  ·rw [(h.next b hh).2] at hb;cases hb
 refine ⟨fp',⟨⟨?_,?_,?_,?_,?_,?_⟩,⟨rfl,rfl,rfl,by simp,?_⟩,?_,?_,cl.le_refl _,fun _ _=>rfl,fun q _ _ h0=>by
  have:q≠b:=fun e=>by rw [e,hb] at h0;cases h0
  simp [this,h0],Nat.le_refl _⟩⟩
 ·intro q hq
  have LF:σ.next ≤ q:=hq
  obtain ⟨x,y⟩:=h.next q LF
  exact ⟨x,by simp [y];omega⟩
 ·intro q x L' hx SD
  by_cases eL:q=b
  ·subst eL
   simp at hx;subst hx
   rw [hL] at SD;cases SD
   have:=QT (w.putObj L.B ob')
   simpa [fp'] using this
  ·simp [eL] at hx
   simp only [fp',eL,if_false]
   exact (h.ai q x L' hx SD).mono (cl.le_refl _)
 ·intro q hq
  by_cases eL:q=b
  ·subst eL;simp [hL] at hq
  ·simp only [fp',eL,if_false]
   simp [eL] at hq
   exact h.dead q hq
 ·intro q B o hq
  by_cases eL:q=b
  ·simp only [fp',eL,if_true] at hq
   obtain ⟨rfl,rfl⟩:=BM hq
   exact World.putObj_heap_same qX
  ·simp only [fp',eL,if_false] at hq
   rw [World.putObj_heap_other fun e=>eL (hfb q B (by simp [hq]) e)]
   exact h.has q B o hq
 ·intro q c B hq Ib
  have key:∀ q,fp' q B≠none → fp q B≠none:=by
   intro q hq
   by_cases eL:q=b
   ·simp only [fp',eL,if_true] at hq
    rw [eL,h1,nU hq,bp];simp
   ·simpa only [fp',eL,if_false] using hq
  exact h.nT q c B (key q hq) (key c Ib)
 ·intro B o u hu
  obtain ⟨g1,g2⟩:=h.fz B o u hu
  have jL:B≠L.B:=fun e=>by
   have:=g2 b
   rw [h1,e,bp] at this;cases this
  refine ⟨by rw [World.cell?_of_block (w:=w) (World.putObj_heap_other jL)];exact g1,fun c=>?_⟩
  by_cases SE:c=b
  ·simp only [fp',SE,if_true,one]
   rw [if_neg jL]
  ·simp only [fp',SE,if_false]
   exact g2 c
 ·intro B hB hn
  refine World.putObj_heap_other fun e=>?_
  have:=hn b
  rw [h1,e,bp] at this;cases this
 ·intro q B hB hq
  by_cases eL:q=b
  ·simp only [fp',eL,if_true] at hq
   exact ⟨b,by rw [h1,nU hq,bp];simp⟩
  ·simp only [fp',eL,if_false] at hq
   exact ⟨q,hq⟩
 ·exact fun B o u hu _=>.inr ⟨o,u,hu⟩
theorem aO.more {S:Nat → Prop} {ρ:cl} {fp:Fp} {σ:AH O} {w w':World} (h:Rel RO P ρ fp σ w) (hk:∀ B:Nat,B<w.heap.size → w'.heap[B]? = w.heap[B]?) (hs:w.heap.size ≤ w'.heap.size) (h1:w'.os=w.os) (h2:w'.tape=w.tape) (h3:w'.output=w.output):aO RO P S ρ fp σ w ρ fp σ w':=
 ⟨h.world hk hs,⟨h1,h2,h3,hs,fun B hB _=>hk B hB⟩,fun b _ _ hb=>⟨b,hb⟩,fun _ _ _ hb _=>.inr ⟨_,_,hb⟩,cl.le_refl _,fun _ _=>rfl,fun _ _ _ h=>h,Nat.le_refl _⟩
end rel
end Go.Abs
