/-
  AbsArgs: what comes in, whatever its type: values without blocks.
-/
import Derived.Test.YtlgnboohmahbaaaGreatDoorAbsFrz
import Derived.Test.YtlgnboohmahbaaaGreatDoorAbsOk
import Derived.Below
import Derived.WideShapes
import Derived.ChangeReads
set_option linter.unusedVariables false
set_option linter.unusedSimpArgs false
set_option linter.constructorNameAsVariable false
namespace Go.Abs
open Go Go.RowKit
variable {O:Type} {RO:O → Loc → (Nat → Option Obj) → Prop} {P:Program}
def uX (w:World):cl:=⟨fun _=>none,fun B o=>w.cell? ⟨B,o,none⟩⟩
def startH:AH O:=⟨fun _=>none,0⟩
theorem Yb (w:World):Rel (O:=O) RO P (uX w) (fun _ _=>none) startH w:=
 ⟨fun _ _=>⟨rfl,rfl⟩,fun _ _ _ h=>(by cases h),fun _ _=>rfl,fun _ _ _ h=>(by cases h),fun _ _ _ h=>absurd rfl h,fun _ _ _ h=>⟨h,fun _=>rfl⟩⟩
def Qp (P:Program):List Field → Nat → Option Nat
 |[],n=>some n
 |f::fs,n=>bif Nat.beq f.offset n then Qp P fs (n+P.cellsOf f.type) else none
def qW (P:Program):Nat → TypeId → Bool
 |0,_=>false
 |d+1,t=>
  match P.underlying t with
  |some .bool=>true
  |some (.int _)=>true
  |some .string=>true
  |some (.slice e)=>qW P d e && !Nat.beq (P.cellsOf e) 0
  |some (.struct fs)=>fs.toList.all (fun f=>qW P d f.type) && (Qp P fs.toList 0 == some (P.cellsOf t))
  |some (.array n e)=>qW P d e && Nat.beq (n*P.cellsOf e) (P.cellsOf t)
  |_=>false
def Gp (P:Program):Nat → TypeId → List AV → Prop
 |0,_,_=>False
 |d+1,t,cs=>
  match P.underlying t with
  |some .bool=>∃ x,cs=[.b x]
  |some (.int k)=>∃ n,cs=[.i k n] ∧ k.min ≤ n ∧ n ≤ k.max
  |some .string=>∃ s,cs=[.s s] ∧ s.length ≤ maxLen
  |some (.slice e)=>∃ (els:List (List AV)) (sa:SA),cs=[.sl sa els.length] ∧ els.length ≤ maxLen ∧ (∀ el∈els,Gp P d e el) ∧ ((sa=.nil ∧ els=[]) ∨ (sa=.z ∧ els=[]) ∨ sa=.loc (.f els.flatten) 0 (P.cellsOf e))
  |some (.struct fs)=>∃ parts:List (List AV),cs=parts.flatten ∧ parts.length=fs.toList.length ∧ ∀ (i:Nat) (f:Field) (part:List AV),fs.toList[i]? = some f → parts[i]? = some part → Gp P d f.type part
  |some (.array n e)=>∃ els:List (List AV),els.length=n ∧ cs=els.flatten ∧ ∀ el∈els,Gp P d e el
  |_=>False
theorem wk {α β:Type} {f:α → Option β}:∀ {l:List α} {r:List β},l.mapM f=some r → r.length=l.length ∧ ∀ (i:Nat) (x:α),l[i]? = some x → ∃ y,r[i]? = some y ∧ f x=some y
 |[],r,h=>by simp at h;subst h;simp
 |a::l,r,h=>by
  rw [List.mapM_cons] at h
  cases ha:f a with
  |none=>simp [ha] at h
  |some b=>
   cases hl:l.mapM f with
   |none=>simp [ha,hl] at h
   |some bs=>
    simp [ha,hl] at h
    subst h
    obtain ⟨h1,h2⟩:=wk hl
    refine ⟨by simp [h1],fun i x hx=>?_⟩
    cases i with
    |zero=>simp at hx;subst hx;exact ⟨b,by simp,ha⟩
    |succ i=>simp at hx;simpa using h2 i x hx
theorem O7 {w:World} {base:Nat} {a:Addr} {n:Nat} {cs:List Value} (h:w.cells? base a n=some cs):cs.length=n ∧ ∀ i,i<n → ∃ u,cs[i]? = some u ∧ w.cell? (a.add i)=some u:=by
 unfold World.cells? at h
 split at h
 ·obtain ⟨h1,h2⟩:=wk h
  refine ⟨by simpa using h1,fun i hi=>?_⟩
  exact h2 i i (by simp [hi])
 ·cases h
theorem Yc {w:World} {a:Addr} {u:Value} (h:w.cell? a=some u):a.spot=none:=by
 unfold World.cell? at h
 split at h
 ·split at h
  ·cases h
  ·rename_i hs;simpa using hs
 ·cases h
section
variable {H:Type} {enc:TypeId × Value → H} {w:World} {base:Nat} {held:Bool}
theorem SK {ρ:cl} (Q:Nat → List AV → Prop) (sz:Nat → Nat):∀ (n:Nat) (pK:Nat → Nat) (cs:List Value),pK 0=0 → (∀ i,i<n → pK (i+1)=pK i+sz i) → cs.length=pK n →
  (∀ i,i<n → ∃ av,aL ρ av ((cs.drop (pK i)).take (sz i)) ∧ av.all AV.aZ=true ∧ Q i av) →
  ∃ parts:List (List AV),parts.length=n ∧ aL ρ parts.flatten cs ∧ parts.flatten.all AV.aZ=true ∧ ∀ (i:Nat) (part:List AV),parts[i]? = some part → Q i part:=by
 intro n
 induction n with
 |zero=>
  intro pK cs h0 _ hl _
  rw [h0] at hl
  have:cs=[]:=List.eq_nil_of_length_eq_zero hl
  subst this
  exact ⟨[],rfl,.nil,rfl,fun i part h=>by simp at h⟩
 |succ n ih=>
  intro pK cs h0 hs hl hp
  have hn:=hs n (by omega)
  obtain ⟨parts,g1,g2,g3,g4⟩:=ih pK (cs.take (pK n)) h0 (fun i hi=>hs i (by omega)) (by simp;omega) (fun i hi=>by
   obtain ⟨av,a1,a2,a3⟩:=hp i (by omega)
   refine ⟨av,?_,a2,a3⟩
   have hle:pK i+sz i ≤ pK n:=by
    have:∀ k,i+1+k ≤ n → pK (i+1) ≤ pK (i+1+k):=fun k=>by
     induction k with
     |zero=>intro _;exact Nat.le_refl _
     |succ k ihk=>intro hk;have:=hs (i+1+k) (by omega);have:=ihk (by omega);rw [show i+1+(k+1)=i+1+k+1 by omega];omega
    have h1:=this (n - (i+1)) (by omega)
    rw [show i+1+(n - (i+1))=n by omega] at h1
    have:=hs i (by omega);omega
   rw [List.drop_take,List.take_take,Nat.min_eq_left (by omega)]
   exact a1)
  obtain ⟨av,a1,a2,a3⟩:=hp n (by omega)
  have e:(cs.drop (pK n)).take (sz n)=cs.drop (pK n):=List.take_of_length_le (by simp;omega)
  rw [e] at a1
  refine ⟨parts++[av],by simp [g1],?_,by simp [g3,a2],fun i part hi=>?_⟩
  ·have:=g2.append a1
   rw [List.take_append_drop] at this
   simpa using this
  ·rw [List.getElem?_append] at hi
   split at hi
   ·exact g4 i part hi
   ·rename_i bS
    have:i - parts.length=0:=by
     have:=(List.getElem?_eq_some_iff.1 hi).1
     simp at this;omega
    rw [this] at hi
    simp at hi
    subst hi
    rw [show i=n by omega];exact a3
theorem Jx:∀ (fs:List Field) (n m:Nat),Qp P fs n=some m → ∃ pK:Nat → Nat,pK 0=n ∧ (∀ i f,fs[i]? = some f → pK i=f.offset ∧ pK (i+1)=pK i+P.cellsOf f.type) ∧ pK fs.length=m
 |[],n,m,h=>by cases h;exact ⟨fun _=>n,rfl,fun i f hf=>by simp at hf,rfl⟩
 |f::fs,n,m,h=>by
  simp only [Qp] at h
  obtain ⟨h1,h⟩:=aD h
  have h1:=Nat.eq_of_beq_eq_true h1
  obtain ⟨pK,g1,g2,g3⟩:=Jx fs _ _ h
  refine ⟨fun i=>match i with |0=>n |i+1=>pK i,rfl,fun i g hg=>?_,g3⟩
  cases i with
  |zero=>simp at hg;subst hg;exact ⟨h1.symm,g1⟩
  |succ i=>simp at hg;exact g2 i g hg
theorem Yd {rr:TypeId → List Value → Option (DataW H × List MemPlace)} {t:TypeId} {cs:List Value} {x:DataW H × List MemPlace} (hu:P.underlying t=some .bool) (h:DataW.trodStep enc P w base (fun _=>true) held rr t cs=some x):∃ b,cs=[.bool b]:=by
 unfold DataW.trodStep at h;rw [hu] at h;split at h<;>simp_all
theorem aad {rr:TypeId → List Value → Option (DataW H × List MemPlace)} {t:TypeId} {cs:List Value} {x:DataW H × List MemPlace} {k:IntKind} (hu:P.underlying t=some (.int k)) (h:DataW.trodStep enc P w base (fun _=>true) held rr t cs=some x):∃ n,cs=[.int k n] ∧ (Lit.int k n).wf=true:=by
 unfold DataW.trodStep at h;rw [hu] at h;split at h<;>simp_all
theorem SL {rr:TypeId → List Value → Option (DataW H × List MemPlace)} {t:TypeId} {cs:List Value} {x:DataW H × List MemPlace} (hu:P.underlying t=some .string) (h:DataW.trodStep enc P w base (fun _=>true) held rr t cs=some x):∃ s:ByteArray,cs=[.string s] ∧ s.size ≤ maxLen:=by
 unfold DataW.trodStep at h;rw [hu] at h;split at h<;>simp_all
theorem VA {rr:TypeId → List Value → Option (DataW H × List MemPlace)} {t e:TypeId} {cs:List Value} {x:DataW H × List MemPlace} (hu:P.underlying t=some (.slice e)) (h:DataW.trodStep enc P w base (fun _=>true) held rr t cs=some x):
  cs=[.slice none 0 0] ∨ ∃ a len cap,cs=[.slice (some a) len cap] ∧ (base ≤ a.block ∧ len ≤ cap ∧ cap ≤ maxLen) ∧
   ∃ elems rest,((List.range len).mapM fun i=>(w.cells? base (a.add (i*P.cellsOf e)) (P.cellsOf e)).bind (rr e))=some elems ∧ ((List.range (cap - len)).mapM fun j=>(w.cells? base (a.add ((len+j)*P.cellsOf e)) (P.cellsOf e)).bind (rr e))=some rest:=by
 unfold DataW.trodStep at h;rw [hu] at h;split at h<;>first |(simp at *;done) |skip
 all_goals first |(rename_i e1;cases e1;done) |skip
 all_goals first |(exact .inl rfl) |skip
 all_goals
  rename_i a len cap e1
  cases e1
  simp only at h
  split at h
  ·rename_i hc
   obtain ⟨elems,he,h⟩:=Option.bind_eq_some_iff.1 h
   simp only [if_true] at h
   obtain ⟨rest,hr,_⟩:=Option.map_eq_some_iff.1 h
   exact .inr ⟨a,len,cap,rfl,hc,elems,rest,he,hr⟩
  ·cases h
theorem SM {rr:TypeId → List Value → Option (DataW H × List MemPlace)} {t:TypeId} {fs:Array Field} {cs:List Value} {x:DataW H × List MemPlace} (hu:P.underlying t=some (.struct fs)) (h:DataW.trodStep enc P w base (fun _=>true) held rr t cs=some x):
  cs.length=P.cellsOf t ∧ ∃ xs,(fs.toList.mapM fun f=>rr f.type ((cs.drop f.offset).take (P.cellsOf f.type)))=some xs:=by
 unfold DataW.trodStep at h;rw [hu] at h;split at h<;>first |(simp at *;done) |skip
 all_goals first |(rename_i e1;cases e1;done) |skip
 all_goals
  rename_i e1
  cases e1
  split at h
  ·rename_i hc
   obtain ⟨xs,hx,_⟩:=Option.map_eq_some_iff.1 h
   exact ⟨hc,xs,hx⟩
  ·cases h
theorem VB {rr:TypeId → List Value → Option (DataW H × List MemPlace)} {t n e:Nat} {cs:List Value} {x:DataW H × List MemPlace} (hu:P.underlying t=some (.array n e)) (h:DataW.trodStep enc P w base (fun _=>true) held rr t cs=some x):
  cs.length=P.cellsOf t ∧ ∃ xs,((List.range n).mapM fun i=>rr e ((cs.drop (i*P.cellsOf e)).take (P.cellsOf e)))=some xs:=by
 unfold DataW.trodStep at h;rw [hu] at h;split at h<;>first |(simp at *;done) |skip
 all_goals first |(rename_i e1;cases e1;done) |skip
 all_goals
  rename_i e1
  cases e1
  split at h
  ·rename_i hc
   obtain ⟨xs,hx,_⟩:=Option.map_eq_some_iff.1 h
   exact ⟨hc,xs,hx⟩
  ·cases h
theorem W6:∀ (d:Nat) (fuel:Nat) (t:TypeId) (cs:List Value) (x:DataW H × List MemPlace),qW P d t=true → DataW.trod enc P w base (fun _=>true) held fuel t cs=some x →
  ∃ av,aL (uX w) av cs ∧ av.all AV.aZ=true ∧ Gp P d t av
 |0,_,_,_,_,hp,_=>by cases hp
 |d+1,0,_,_,_,_,h=>by cases h
 |d+1,fuel+1,t,cs,x,hp,h=>by
  have ih:=W6 d fuel
  unfold qW at hp
  unfold Gp
  rw [DataW.trod_step] at h
  cases hu:P.underlying t with
  |none=>rw [hu] at hp;cases hp
  |some ty=>
   rw [hu] at hp
   cases ty with
   |bool=>
    obtain ⟨b,rfl⟩:=Yd hu h
    exact ⟨[.b b],.cons _ _ _ _ (.b b) .nil,by simp [AV.aZ],b,rfl⟩
   |int k=>
    obtain ⟨n,rfl,h2⟩:=aad hu h
    exact ⟨[.i k n],.cons _ _ _ _ (.i k n) .nil,by simp [AV.aZ],n,rfl,by simpa [Lit.wf] using h2⟩
   |string=>
    obtain ⟨s,rfl,h2⟩:=SL hu h
    exact ⟨[.s s.data.toList],.cons _ _ _ _ (.s s) .nil,by simp [AV.aZ],s.data.toList,rfl,by simpa using h2⟩
   |slice e=>
    simp only [Bool.and_eq_true] at hp
    have HZ:P.cellsOf e≠0:=fun e0=>by rw [e0] at hp;cases hp.2
    rcases VA hu h with rfl |⟨a,len,cap,rfl,hc,elems,rest,he,hr⟩
    ·exact ⟨[.sl .nil 0],.cons _ _ _ _ .SN .nil,by simp [AV.aZ],[],.nil,rfl,by simp,by simp,.inl ⟨rfl,rfl⟩⟩
    ·clear h
     ·obtain ⟨hb,hlc,hcm⟩:=hc
      obtain ⟨e1,e2⟩:=wk he
      obtain ⟨r1,r2⟩:=wk hr
      by_cases hc0:cap=0
      ·subst hc0
       obtain rfl:len=0:=by omega
       exact ⟨[.sl .z 0],.cons _ _ _ _ (.Og a) .nil,by simp [AV.aZ],[],.z,rfl,by simp,by simp,.inr (.inl ⟨rfl,rfl⟩)⟩
      ·have hall:∀ i,i<cap → ∃ y,(w.cells? base (a.add (i*P.cellsOf e)) (P.cellsOf e)).bind (DataW.trod enc P w base (fun _=>true) held fuel e)=some y:=fun i hi=>by
        by_cases hil:i<len
        ·obtain ⟨y,_,hy⟩:=e2 i i (by simp [hil])
         exact ⟨y,hy⟩
        ·obtain ⟨y,_,hy⟩:=r2 (i - len) (i - len) (List.getElem?_range (by omega))
         rw [show len+(i - len)=i by omega] at hy
         exact ⟨y,hy⟩
       have hsp:a.spot=none:=by
        obtain ⟨y,hy⟩:=hall 0 (by omega)
        obtain ⟨c,hc,_⟩:=Option.bind_eq_some_iff.1 hy
        obtain ⟨_,g⟩:=O7 hc
        obtain ⟨u,_,VC⟩:=g 0 (by omega)
        have:=Yc VC
        rw [Nat.zero_mul] at this
        simpa [Addr.add] using this
       obtain ⟨B,o,sp⟩:=a
       simp only at hsp hb
       subst hsp
       have ao4:∀ i j,((⟨B,o,none⟩:Addr).add i).add j=⟨B,o+(i+j),none⟩:=fun i j=>by
        unfold Addr.add
        repeat' split
        all_goals simp_all
        all_goals omega
       have key:∀ m,m ≤ len → ∃ (els:List (List AV)) (us:List Value),els.length=m ∧ aL (uX w) els.flatten us ∧ els.flatten.all AV.aZ=true ∧ us.length=m*P.cellsOf e ∧ (∀ k u,us[k]? = some u → w.cell? ⟨B,o+k,none⟩=some u) ∧ ∀ el∈els,Gp P d e el:=by
        intro m
        induction m with
        |zero=>exact fun _=>⟨[],[],rfl,.nil,rfl,by simp,by simp,by simp⟩
        |succ m ihm=>
         intro hm
         obtain ⟨els,us,q1,q2,q3,q4,q5,q6⟩:=ihm (by omega)
         obtain ⟨y,hy⟩:=hall m (by omega)
         obtain ⟨c,hc,hy⟩:=Option.bind_eq_some_iff.1 hy
         obtain ⟨c1,c2⟩:=O7 hc
         obtain ⟨av,v1,v2,v3⟩:=ih e c y hp.1 hy
         refine ⟨els++[av],us++c,by simp [q1],by simpa using q2.append v1,by simp [q3,v2],by simp [q4,c1,Nat.succ_mul],fun k u hk=>?_,fun el Eo=>?_⟩
         ·rw [List.getElem?_append] at hk
          split at hk
          ·exact q5 k u hk
          ·rename_i bS
           have hk':k - us.length<P.cellsOf e:=by
            have:=(List.getElem?_eq_some_iff.1 hk).1;omega
           obtain ⟨u',g1,g2⟩:=c2 (k - us.length) hk'
           rw [hk] at g1;cases g1
           rw [ao4] at g2
           rw [show o+k=o+(m*P.cellsOf e+(k - us.length)) by omega]
           exact g2
         ·rcases List.mem_append.1 Eo with h |h
          ·exact q6 el h
          ·simp at h;subst h;exact v3
       obtain ⟨els,us,q1,q2,q3,q4,q5,q6⟩:=key len (Nat.le_refl _)
       have hs:pL (uX w) (.f els.flatten) ⟨B,o,cap*P.cellsOf e,P.cellsOf e⟩:=.f _ us _ q2 q3 fun i u hu=>q5 i u hu
       refine ⟨[.sl (.loc (.f els.flatten) 0 (P.cellsOf e)) len],.cons _ _ _ _ (aI.sl _ 0 len cap _ hs hlc hcm (by simp)) .nil,by simp [AV.aZ],els,_,by rw [q1],by omega,q6,.inr (.inr rfl)⟩
   |struct fs=>
     obtain ⟨Jy,xs,hxs⟩:=SM hu h
     simp only [Bool.and_eq_true,beq_iff_eq,List.all_eq_true] at hp
     obtain ⟨N7,W7⟩:=hp
     obtain ⟨m1,m2⟩:=wk hxs
     obtain ⟨pK,o1,o2,o3⟩:=Jx _ _ _ W7
     obtain ⟨parts,k1,k2,k3,k4⟩:=SK (ρ:=uX w) (fun i part=>∀ f,fs.toList[i]? = some f → Gp P d f.type part) (fun i=>((fs.toList[i]?).map fun f=>P.cellsOf f.type).getD 0) fs.toList.length pK cs o1
      (
       fun i hi=>by
       have:=(o2 i _ (List.getElem?_eq_getElem hi)).2
       rw [this,List.getElem?_eq_getElem hi];rfl) (by rw [o3];exact Jy) (fun i hi=>by
       have hf:=List.getElem?_eq_getElem hi
       obtain ⟨y,_,hy⟩:=m2 i _ hf
       obtain ⟨av,v1,v2,v3⟩:=ih _ _ _ (N7 _ (List.mem_of_getElem? hf)) hy
       refine ⟨av,?_,v2,fun f VD=>?_⟩
       ·rw [hf,(o2 i _ hf).1];exact v1
       ·rw [hf] at VD;cases VD;exact v3)
     exact ⟨_,k2,k3,parts,rfl,k1,fun i f part hf hpt=>k4 i part hpt f hf⟩
   |array n e=>
     obtain ⟨Jy,xs,hxs⟩:=VB hu h
     simp only [Bool.and_eq_true] at hp
     obtain ⟨N7,W7⟩:=hp
     have W7:=Nat.eq_of_beq_eq_true W7
     obtain ⟨m1,m2⟩:=wk hxs
     obtain ⟨parts,k1,k2,k3,k4⟩:=SK (ρ:=uX w) (fun i part=>Gp P d e part) (fun _=>P.cellsOf e) n (fun i=>i*P.cellsOf e) cs (by simp) (fun i _=>Nat.succ_mul _ _) (by omega) (fun i hi=>by
       obtain ⟨y,_,hy⟩:=m2 i i (by simp [hi])
       obtain ⟨av,v1,v2,v3⟩:=ih _ _ _ N7 hy
       exact ⟨av,v1,v2,v3⟩)
     exact ⟨_,k2,k3,parts,k1,rfl,fun el Eo=>by
      obtain ⟨i,hi⟩:=List.getElem?_of_mem Eo
      exact k4 i el hi⟩
   |_=>cases hp
def Gq (P:Program) (t:TypeId) (x:AV):Prop:=
 match P.underlying t with
 |some (.struct _) |some (.array _ _)=>∃ cs,x=.agg cs ∧ Gp P 12 t cs
 |_=>Gp P 12 t [x]
def ArgsAre (P:Program):List TypeId → List AV → Prop
 |[],[]=>True
 |t::ts,x::xs=>Gq P t x ∧ ArgsAre P ts xs
 |_,_=>False
theorem adf {t:TypeId} {av:List AV} (h:Gp P 12 t av) (hn:match P.underlying t with |some (.struct _) |some (.array _ _)=>False |_=>True):∃ x,av=[x]:=by
 unfold Gp at h
 cases hu:P.underlying t with
 |none=>rw [hu] at h;exact h.elim
 |some ty=>
  rw [hu] at h hn
  cases ty<;>simp only at h hn<;>first |(exact h.elim;done) |(exact hn.elim;done) |skip
  ·obtain ⟨x,rfl⟩:=h;exact ⟨_,rfl⟩
  ·obtain ⟨x,rfl,_⟩:=h;exact ⟨_,rfl⟩
  ·obtain ⟨x,rfl,_⟩:=h;exact ⟨_,rfl⟩
  ·obtain ⟨x,y,rfl,_⟩:=h;exact ⟨_,rfl⟩
theorem ahM {t:TypeId} {v:Value} {d:DataW H} {ps:List MemPlace} {r:Reach} {b0:Nat} (hp:qW P 12 t=true) (h:DataW.Trod enc P w base (fun _=>true) held t v d ps) (hv:Value.okWide P w r b0 t v):∃ x,aI (uX w) x v ∧ Gq P t x:=by
 obtain ⟨fuel,h⟩:=h
 obtain ⟨av,g1,g2,g3⟩:=W6 12 fuel t _ _ hp h
 have single:(match P.underlying t with |some (.struct _) |some (.array _ _)=>False |_=>True) → v.cells.toList=[v] → ∃ x,aI (uX w) x v ∧ Gq P t x:=fun hn hc=>by
  obtain ⟨x,rfl⟩:=adf g3 hn
  rw [hc] at g1
  cases g1 with
  |cons _ _ _ _ g1 _=>
   refine ⟨x,g1,?_⟩
   unfold Gq
   cases hu:P.underlying t with
   |none=>exact g3
   |some ty=>rw [hu] at hn;cases ty<;>first |exact g3 |exact hn.elim
 unfold qW at hp
 cases hu:P.underlying t with
 |none=>rw [hu] at hp;cases hp
 |some ty=>
  rw [hu] at hp
  cases ty<;>simp only at hp<;>first |(cases hp;done) |skip
  case bool=>
   obtain ⟨b,rfl⟩:=WideShapes.okWide_bool hu hv
   exact single (by rw [hu];trivial) (by simp [Value.cells])
  case int k=>
   obtain ⟨b,rfl⟩:=WideShapes.okWide_int hu hv
   exact single (by rw [hu];trivial) (by simp [Value.cells])
  case string=>
   obtain ⟨b,rfl⟩:=WideShapes.okWide_string hu hv
   exact single (by rw [hu];trivial) (by simp [Value.cells])
  case slice e=>
   obtain ⟨a,l,c,rfl⟩:=WideShapes.okWide_slice hu hv
   exact single (by rw [hu];trivial) (by simp [Value.cells])
  all_goals
   unfold Value.okWide at hv
   rw [hu] at hv
   simp only at hv
   obtain ⟨cs,rfl,_⟩:=hv
   refine ⟨.agg av,?_,?_⟩
   ·have:aI (uX w) (.agg av) (.agg cs.toList.toArray):=.agg av _ (by simpa [Value.cells] using g1) g2
    simpa using this
   ·unfold Gq;rw [hu];exact ⟨_,rfl,g3⟩
theorem W8 {r:Reach} {b0:Nat}:∀ (ts:List TypeId) (vs:List Value) (ds:List (DataW H)) (ps:List MemPlace),ts.all (fun t=>qW P 12 t)=true → DataW.TrodAll enc P w base (fun _=>true) held ts vs ds ps →
  (∀ (j:Nat) t v,ts[j]? = some t → vs[j]? = some v → Value.okWide P w r b0 t v) → ∃ xs,aL (uX w) xs vs ∧ ArgsAre P ts xs
 |[],[],[],_,_,_,_=>⟨[],.nil,trivial⟩
 |t::ts,v::vs,d::ds,ps,hp,h,hv=>by
  simp only [List.all_cons,Bool.and_eq_true] at hp
  obtain ⟨p,q,h1,h2,_⟩:=h
  obtain ⟨x,g1,g2⟩:=ahM hp.1 h1 (hv 0 t v rfl rfl)
  obtain ⟨xs,g3,g4⟩:=W8 ts vs ds q hp.2 h2 fun j t v a b=>hv (j+1) t v (by simpa using a) (by simpa using b)
  exact ⟨x::xs,.cons _ _ _ _ g1 g3,g2,g4⟩
 |[],_::_,_,_,_,h,_=>h.elim
 |[],[],_::_,_,_,h,_=>h.elim
 |_::_,[],_,_,_,h,_=>h.elim
 |_::_,_::_,[],_,_,h,_=>h.elim
theorem lift {r:Reach} {b0:Nat} {ts:List TypeId} {args:Array Value} {ds:List (DataW H)} {ps:List MemPlace} {f:FuncId} {s:Sm Unit} (hs:ae (O:=Unit) (fun _ _ _=>False) P f s) (hp:ts.all (fun t=>qW P 12 t)=true)
  (h:DataW.TrodAll enc P w base (fun _=>true) held ts args.toList ds ps) (hv:∀ (j:Nat) t v,ts[j]? = some t → args.toList[j]? = some v → Value.okWide P w r b0 t v)
  (H7:∀ xs,ArgsAre P ts xs → Ok (s xs startH) fun r=>r.1=.b true):Calls P f args w fun e w'=>e=.returned (.bool true) ∧ Below w.heap.size w w':=by
 obtain ⟨xs,g1,g2⟩:=W8 ts _ ds ps hp h hv
 obtain ⟨⟨v,aj⟩,h1,h2⟩:=H7 xs g2
 simp only at h2
 subst h2
 refine (hs xs _ _ aj h1 _ _ w args g1 (Yb w)).mono fun e w' h=>?_
 obtain ⟨aR,fp',u,rfl,hu,hp⟩:=h
 have:u=.bool true:=by cases hu;rfl
 subst this
 exact ⟨rfl,hp.fr.os,hp.fr.tape,hp.fr.output,hp.fr.size,fun k hk=>hp.fr.Kk k hk fun _=>rfl⟩
end
end Go.Abs
