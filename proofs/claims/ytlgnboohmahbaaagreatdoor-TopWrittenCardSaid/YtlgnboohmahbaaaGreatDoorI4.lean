/-
  Copies, one more element, boxes: helpers of walks. No conditions.
-/
import Derived.Test.YtlgnboohmahbaaaGreatDoorAbsSim
import Derived.Test.YtlgnboohmahbaaaGreatDoorAbsSl
import Derived.Test.YtlgnboohmahbaaaGreatDoorAbsBits
import Derived.Test.YtlgnboohmahbaaaGreatDoorN1
set_option linter.unusedVariables false
set_option linter.unusedSimpArgs false
set_option linter.constructorNameAsVariable false
namespace Go.Abs
open Go
variable {O:Type}
theorem Ku {σ aJ:AH O} {x:oM O} (h:(σ.bump 1).put σ.next x=aJ):Ext σ aJ ∧ aJ.next=σ.next+1 ∧ aJ.ai σ.next=some x:=by
 subst h
 exact ⟨((Ext.refl σ).bump 1).put (Nat.le_refl _) _,rfl,cH⟩
theorem aqb {σ aJ:AH O} {x y:oM O} (dP:((σ.bump 2).put σ.next x).put (σ.next+1) y=aJ):Ext σ aJ ∧ aJ.next=σ.next+2 ∧ aJ.ai σ.next=some x ∧ aJ.ai (σ.next+1)=some y:=by
 subst dP
 exact ⟨((((Ext.refl σ).bump 2).put (Nat.le_refl _) _).put (by omega) _),rfl,(bu (by omega)).trans cH,cH⟩
theorem Rd.lt {σ:AH O} {es n:Nat} {a:SA} {cs:List AV} (h:Rd σ es a n cs) (hn:∀ b∈SA.bk a,b<σ.next) {aj:AH O} (e:Ext σ aj):Rd aj es a n cs:=h.of fun b hb=>e.ai b (hn b hb)
theorem Wm {σ:AH O} {a:SA} {n:Nat} {cs:List AV} (h:Rd σ 1 a n cs) {i:Nat} {v:AV} (hv:cs[i]? = some v):∃ bb oo,SA.ref a=some (bb,oo) ∧ σ.ld bb (oo+i)=some v:=by
 obtain ⟨bb,oo,e1,l⟩:=h.at1 hv
 rw [Nat.mul_one] at l
 exact ⟨bb,oo,by rw [e1];rfl,l⟩
theorem ain {σ:AH O} {nb el n:Nat} {vs:List AV} (hv:vs.length=n) (hb:σ.ai nb=some (.cells true el [])) (hn:nb+1<σ.next):
  Ok (σ.bP (nb+1) el 1 (.loc (.n nb) 0 1) 0 n vs) fun r=>∃ a',r.1=.sl a' n ∧ aN r.2 el 1 a' n vs ∧ r.2.next=σ.next ∧ (∀ b,b<nb → r.2.ai b=σ.ai b) ∧ ∀ b∈SA.bk a',b=nb+1:=by
 have own:aN σ el 1 (.loc (.n nb) 0 1) 0 []:=aN.new rfl hb (by omega)
 refine (nW (nid:=nb+1) own (by simp [SA.bk]) hn (show vs.length=n*1 by omega)).mono fun r ⟨a',m1,m2,m3,m4,m5⟩=>⟨a',by rw [m1,Nat.zero_add],?_,m3,fun b hb=>m4 b (by omega) (by simp [SA.bk];omega),m5⟩
 rw [Nat.zero_add,List.nil_append] at m2;exact m2
theorem Q2 {σ:AH O} {el n:Nat} {vs:List AV} (hv:vs.length=n):Ok (((σ.bump 2).put σ.next (.cells true el [])).bP (σ.next+1) el 1 (.loc (.n σ.next) 0 1) 0 n vs) fun r=>∃ a',r.1=.sl a' n ∧ aN r.2 el 1 a' n vs ∧ Ext σ r.2 ∧ ∀ b∈SA.bk a',σ.next ≤ b:=by
 refine (ain (σ:=(σ.bump 2).put σ.next (.cells true el [])) (nb:=σ.next) hv cH (by simp)).mono fun r ⟨a',m1,m2,m3,m4,m5⟩=>⟨a',m1,m2,⟨by rw [m3];simp,fun b hb=>?_⟩,fun b hb=>by have:=m5 b hb;omega⟩
 rw [m4 b hb,bu (by omega)];rfl
theorem BT {σ:AH O} {el:TypeId} {a:SA} {n:Nat} {cs:List AV} {v:AV} (ho:aN σ el 1 a n cs):
  Ok (((σ.bump 2).put σ.next (.cells true el [v])).bP (σ.next+1) el 1 a n 1 [v]) fun r=>∃ a',r.1=.sl a' (n+1) ∧ aN r.2 el 1 a' (n+1) (cs++[v]) ∧ dE (SA.bk a) σ r.2 ∧ ∀ b∈SA.bk a',σ.next ≤ b ∧ b<r.2.next:=by
 have bS:=ho.lt
 generalize dP:(σ.bump 2).put σ.next (.cells true el [v])=aJ
 have n1:aJ.next=σ.next+2:=by rw [← dP];rfl
 have b1:∀ b,b<σ.next → aJ.ai b=σ.ai b:=fun b hb=>by rw [← dP,bu (by omega)];rfl
 clear dP
 have Xk:aN aJ el 1 a n cs:=ho.of (by omega) fun b hb=>b1 b (bS b hb)
 refine (nW (nid:=σ.next+1) Xk (fun hm=>by have:=bS _ hm;omega) (by omega) (show ([v]:List AV).length=1*1 from rfl)).mono fun r ⟨a',g1,g2,g3,g4,g5⟩=>⟨a',g1,g2,⟨by omega,fun b hb hm=>(g4 b (by omega) hm).trans (b1 b hb)⟩,fun b hb=>by have:=g5 b hb;omega⟩
theorem dE.new {gJ σ aj:AH O} {L:List Nat} (h:Ext gJ σ) (hl:∀ b∈L,gJ.next ≤ b) (c:dE L σ aj):Ext gJ aj:=⟨Nat.le_trans h.next c.next,fun b hb=>(c.ai b (Nat.lt_of_lt_of_le hb h.next) fun hm=>by have:=hl b hm;omega).trans (h.ai b hb)⟩
theorem Xw {s:Sm O} {xs:List AV} {σ:AH O} {K:List Nat} {Q:AV → AH O → Prop} (h:Ok (s xs σ) fun r=>∃ v' L,FZ 8 r.2.ai L r.1 v' ∧ (∀ b∈L,σ.next ≤ b) ∧ dE K σ r.2 ∧ Q v' r.2):
  Ok (yh s xs σ) fun r=>dE K σ r.2 ∧ ∃ aJ,Q r.1 aJ ∧ ∀ b,b<σ.next → r.2.ai b=aJ.ai b:=by
 obtain ⟨⟨v,aJ⟩,h1,v',L,h2,h3,h4,h5⟩:=h
 obtain ⟨aP,e,n,b⟩:=h2 aJ fun _ _=>rfl
 have key:∀ q,q<σ.next → aP.ai q=aJ.ai q:=fun q hq=>by
  rw [b,if_neg (fun hm=>by have:=h3 q hm;omega)]
 refine ⟨(v',aP),by simp only [yh,h1,Option.bind_some,e],⟨by show σ.next ≤ aP.next;rw [n];exact h4.next,fun q hq hm=>?_⟩,aJ,h5,key⟩
 show aP.ai q=_
 rw [key q hq];exact h4.ai q hq hm
theorem Mm {s:Sm O} {xs:List AV} {σ:AH O} {k:IntKind} {l:List Int} (h:Ok (s xs σ) fun r=>∃ a el,r.1=.sl a l.length ∧ aN r.2 el 1 a l.length (l.map (AV.i k)) ∧ Ext σ r.2 ∧ ∀ b∈SA.bk a,σ.next ≤ b):Ok (yh s xs σ) fun r=>(∃ a,r.1=.sl a l.length ∧ nh 1 a l.length (l.map (AV.i k))) ∧ Ext σ r.2:=by
 refine yp (Q:=fun v=>∃ a,v=.sl a l.length ∧ nh 1 a l.length (l.map (AV.i k))) (h.mono ?_)
 rintro ⟨v,aJ⟩ ⟨a,el,rfl,own,E,fr⟩
 obtain ⟨a',f,m⟩:=FZ.sl (d:=6) own (fun _ _=>rfl) (re.flat (by simp [AV.flat])) rfl (by simp)
 exact ⟨_,_,f,fun b hb=>fr b (by simpa using hb),E,a',rfl,m⟩
theorem Dw {s:Sm O} {xs:List AV} {σ:AH O} {k:IntKind} {l:List Int} {vs:List AV} (hv:vs.all AV.flat=true) (h:Ok (s xs σ) fun r=>∃ a el,r.1=.aS (.sl a l.length::vs) ∧ aN r.2 el 1 a l.length (l.map (AV.i k)) ∧ Ext σ r.2 ∧ ∀ b∈SA.bk a,σ.next ≤ b):Ok (yh s xs σ) fun r=>(∃ a,r.1=.aS (.sl a l.length::vs) ∧ nh 1 a l.length (l.map (AV.i k))) ∧ Ext σ r.2:=by
 refine yp (Q:=fun v=>∃ a,v=.aS (.sl a l.length::vs) ∧ nh 1 a l.length (l.map (AV.i k))) (h.mono ?_)
 rintro ⟨v,aJ⟩ ⟨a,el,rfl,own,E,fr⟩
 obtain ⟨a',f,m⟩:=FZ.sl (d:=5) own (fun _ _=>rfl) (re.flat (by simp [AV.flat])) rfl (by simp)
 have:=FZ.aS (re.cons f (re.flat (H:=aJ.ai) hv) (by simp))
 exact ⟨_,_,this,fun b hb=>fr b (by simpa using hb),E,a',rfl,m⟩
end Go.Abs
set_option linter.unusedSimpArgs false
namespace Go.Abs
open Go
def enc (w:Nat):List Int:=if w<128 then [(w:Int)] else ((w % 128+128:Nat):Int)::enc (w / 128) termination_by w
theorem Mn {w:Nat} (h:w<128):enc w=[(w:Int)]:=by rw [enc,if_pos h]
theorem Mo {w:Nat} (h:¬ w<128):enc w=((w % 128+128:Nat):Int)::enc (w / 128):=by rw [enc,if_neg h]
theorem aio (w:Nat):∀ x∈enc w,0 ≤ x ∧ x<256:=by
 induction w using Nat.strongRecOn with
 |_ w ih=>
  by_cases h:w<128
  ·rw [Mn h];intro x hx;simp at hx;subst hx;omega
  ·rw [Mo h];intro x hx
   rcases List.mem_cons.1 hx with rfl |hx
   ·omega
   ·exact ih _ (by omega) x hx
theorem adW (w:Nat):∀ k,w<128 ^ (k+1) → 1 ≤ (enc w).length ∧ (enc w).length ≤ k+1:=by
 induction w using Nat.strongRecOn with
 |_ w ih=>
  intro k hk
  by_cases h:w<128
  ·rw [Mn h];simp
  ·rw [Mo h]
   cases k with
   |zero=>simp at hk;omega
   |succ k=>
    have:=ih (w / 128) (by omega) k (by rw [Nat.div_lt_iff_lt_mul (by omega)];rw [Nat.pow_succ] at hk;exact hk)
    simp;omega
theorem Dx {w:Nat} (h:w<18446744073709551616):1 ≤ (enc w).length ∧ (enc w).length ≤ 10:=adW w 9 (by omega)
set_option maxRecDepth 10000 in
theorem alH:∀ x:Fin 256,x.val ||| 128=x.val % 128+128:=by decide
def bT (i:Nat):List Int → Int × Int × Int
 |[]=>(0,0,6)
 |c::bs=>
  if i=10 ∨ (i=9 ∧ 1<c % 128) then (0,0,7)
  else if 128 ≤ c then (if (bT (i+1) bs).2.2=0 then (c % 128+128*(bT (i+1) bs).1,(bT (i+1) bs).2.1,0) else bT (i+1) bs)
  else if c=0 ∧ 0<i then (0,0,5)
  else (c,i+1,0)
def Bytes (bs:List Int):Prop:=∀ x∈bs,0 ≤ x ∧ x<256
theorem Bytes.tail {c:Int} {bs:List Int} (h:Bytes (c::bs)):Bytes bs:=fun x hx=>h x (List.mem_cons_of_mem _ hx)
theorem Bytes.head {c:Int} {bs:List Int} (h:Bytes (c::bs)):0 ≤ c ∧ c<256:=h c List.mem_cons_self
theorem Bytes.drop {bs:List Int} (h:Bytes bs) (n:Nat):Bytes (bs.drop n):=fun x hx=>h x (List.mem_of_mem_drop hx)
theorem Bytes.app {bs cs:List Int} (h:Bytes bs) (h':Bytes cs):Bytes (bs++cs):=fun x hx=>by
 rcases List.mem_append.1 hx with hx |hx
 ·exact h x hx
 ·exact h' x hx
theorem PN:∀ (bs:List Int) (i:Nat),(bT i bs).2.2≠0 → (bT i bs).1=0 ∧ (bT i bs).2.1=0
 |[],i,_=>⟨rfl,rfl⟩
 |c::bs,i,h=>by
  simp only [bT] at h ⊢
  split
  ·exact ⟨rfl,rfl⟩
  ·split
   ·split
    ·rename_i h1 h2 h3
     rw [if_neg h1,if_pos h2,if_pos h3] at h
     exact absurd rfl h
    ·rename_i h1 h2 h3
     exact PN bs (i+1) h3
   ·split
    ·exact ⟨rfl,rfl⟩
    ·rename_i h1 h2 h3
     rw [if_neg h1,if_neg h2,if_neg h3] at h
     exact absurd rfl h
theorem PO {i:Nat} (h:i ≤ 8):(2:Nat) ^ (64 - 7*i)=128*2 ^ (64 - 7*(i+1)):=by
 rw [show 64 - 7*i=7+(64 - 7*(i+1)) by omega,Nat.pow_add]
theorem TK:∀ (bs:List Int) (i:Nat),i ≤ 10 → Bytes bs → (bT i bs).2.2=0 → i ≤ 9 ∧ 0 ≤ (bT i bs).1 ∧ (bT i bs).1<((2 ^ (64 - 7*i):Nat):Int) ∧ (0<i → 0<(bT i bs).1) ∧
  ∃ m:Nat,(bT i bs).2.1=(i+m+1:Nat) ∧ m<bs.length ∧ enc (bT i bs).1.toNat=bs.take (m+1)
 |[],i,_,_,h=>by simp [bT] at h
 |c::bs,i,aqc,hb,h=>by
  have hc:=hb.head
  simp only [bT] at h ⊢
  split
  ·rename_i h1;rw [if_pos h1] at h;simp at h
  ·rename_i h1
   rw [if_neg h1] at h
   split
   ·rename_i h2
    rw [if_pos h2] at h
    split
    ·rename_i h3
     obtain ⟨g1,g2,g3,g4,m,g5,g6,g7⟩:=TK bs (i+1) (by omega) hb.tail h3
     have hp:=PO (i:=i) (by omega)
     have g4':=g4 (by omega)
     generalize hW:(bT (i+1) bs).1=W at*
     refine ⟨by omega,by simp only;omega,?_,fun _=>by simp only;omega,m+1,by simp only;rw [g5];omega,by simp;omega,?_⟩
     ·simp only
      rw [hp]
      have:W+1 ≤ ((2 ^ (64 - 7*(i+1)):Nat):Int):=g3
      push_cast at this ⊢
      omega
     ·simp only
      rw [Mo (by omega),List.take_succ_cons]
      congr 1
      ·omega
      ·rw [← g7];congr 1;omega
    ·rename_i h3;rw [if_neg h3] at h;exact absurd h h3
   ·rename_i h2
    rw [if_neg h2] at h
    split
    ·rename_i h3;rw [if_pos h3] at h;simp at h
    ·rename_i h3
     have hi:i ≤ 9:=by omega
     refine ⟨hi,hc.1,?_,fun hi0=>?_,0,by simp,by simp,?_⟩
     ·simp only
      by_cases h9:i=9
      ·subst h9
       have:(2:Nat) ^ (64 - 7*9)=2:=rfl
       rw [this];omega
      ·have:2 ^ 7 ≤ (2:Nat) ^ (64 - 7*i):=Nat.pow_le_pow_right (by omega) (by omega)
       omega
     ·have:¬ c=0:=fun e=>h3 ⟨e,hi0⟩
      omega
     ·show enc c.toNat=_
      rw [Mn (by omega)]
      simp;omega
theorem PQ:∀ (k:Nat) (w:Nat) (i:Nat) (rest:List Int),w<2 ^ (64 - 7*i) → i ≤ 9 → (0<i → 0<w) → w ≤ k → bT i (enc w++rest)=((w:Int),((i+(enc w).length:Nat):Int),0)
 |k,w,i,rest,h,hi,h0,hk=>by
  by_cases hw:w<128
  ·rw [Mn hw]
   simp only [List.cons_append,List.nil_append,bT]
   rw [if_neg,if_neg (by omega),if_neg (by omega)]
   ·simp
   ·rintro (h1 |⟨rfl,h1⟩)
    ·omega
    ·have:(2:Nat) ^ (64 - 7*9)=2:=rfl
     rw [this] at h;omega
  ·have hi8:i ≤ 8:=by
    by_cases h9:i=9
    ·subst h9
     have:(2:Nat) ^ (64 - 7*9)=2:=rfl
     rw [this] at h;omega
    ·omega
   cases k with
   |zero=>omega
   |succ k=>
    have hp:=PO hi8
    have ih:=PQ k (w / 128) (i+1) rest (by omega) (by omega) (by omega) (by omega)
    rw [Mo hw]
    simp only [List.cons_append,bT,ih,if_true]
    rw [if_neg (by omega),if_pos (by omega)]
    simp only [List.length_cons,Prod.mk.injEq,and_true]
    constructor<;>omega
theorem adX {w:Nat} (h:w<18446744073709551616) (rest:List Int):bT 0 (enc w++rest)=((w:Int),((enc w).length:Int),0):=by
 have:=PQ w w 0 rest (by simpa using h) (by omega) (by omega) (Nat.le_refl _)
 simpa using this
set_option maxRecDepth 10000 in
theorem YX:∀ c:Fin 256,bE .andNot .u8 (c.val:Int) 128=((c.val % 128:Nat):Int):=by decide +kernel
set_option maxRecDepth 10000 in
theorem aip:∀ c:Fin 256,bE .and .u8 (c.val:Int) 128=if c.val<128 then 0 else 128:=by decide +kernel
theorem YY {c:Int} (h:0 ≤ c ∧ c<256):bE .andNot .u8 c 128=c % 128:=by
 have:=YX ⟨c.toNat,by omega⟩
 simp only at this
 rw [Int.toNat_of_nonneg h.1] at this
 rw [this];omega
theorem Wn {c:Int} (h:0 ≤ c ∧ c<256):bE .and .u8 c 128=if c<128 then 0 else 128:=by
 have:=aip ⟨c.toNat,by omega⟩
 simp only at this
 rw [Int.toNat_of_nonneg h.1] at this
 rw [this]
 by_cases hc:c<128
 ·rw [if_pos hc,if_pos (by omega)]
 ·rw [if_neg hc,if_neg (by omega)]
theorem adY {w p:Int} {k:Nat} (hw:0 ≤ w) (hw':w<((2 ^ k:Nat):Int)) (hp:0 ≤ p) (hk:(p.toNat+1)*2 ^ k ≤ 18446744073709551616):bE .or .u64 w (p*2 ^ k)=w+p*2 ^ k:=by
 have e:p*2 ^ k=((p.toNat*2 ^ k:Nat):Int):=by push_cast;rw [Int.toNat_of_nonneg hp]
 have h1:2 ^ k ≤ (p.toNat+1)*2 ^ k:=Nat.le_mul_of_pos_left _ (by omega)
 have h2:p.toNat*2 ^ k+2 ^ k ≤ 18446744073709551616:=by rw [← Nat.succ_mul];exact hk
 rw [e,aaf hw (by omega) (by omega) (by omega)]
 have:=Nat.two_pow_add_eq_or_of_lt (i:=k) (b:=w.toNat) (by omega) p.toNat
 have e2:((p.toNat*2 ^ k:Nat):Int).toNat=2 ^ k*p.toNat:=by rw [Int.toNat_natCast,Nat.mul_comm]
 rw [e2,Nat.or_comm,← this,Nat.mul_comm]
 omega
@[simp] theorem ajQ {A B:Type} {f:A → B} {a:A}:Option.map f (some a)=some (f a):=rfl
def TL (bs:List Int):AV:=.aS [.i .u64 (bT 0 bs).1,.i .i64 (bT 0 bs).2.1,.i .i64 (bT 0 bs).2.2]
theorem PR {bs:List Int} (hb:Bytes bs) {i:Nat} (hi:i<bs.length):0 ≤ bs[i] ∧ bs[i]<256:=hb _ (List.getElem_mem hi)
theorem XC {k:IntKind} {bs:List Int} {i:Nat} (hi:i<bs.length):(bs.map (AV.i k))[i]? = some (.i k bs[i]):=by simp [hi]
def bz:Nat → List Int → List Int × Int
 |0,_=>([],0)
 |f+1,bs=>
  if bs=[] then ([],0)
  else if (bT 0 bs).2.2=0 then
   (if (bz f (bs.drop (bT 0 bs).2.1.toNat)).2=0 then ((bT 0 bs).1::(bz f (bs.drop (bT 0 bs).2.1.toNat)).1,0) else ([],(bz f (bs.drop (bT 0 bs).2.1.toNat)).2))
  else ([],(bT 0 bs).2.2)
theorem Mp (f:Nat):bz f []=([],0):=by cases f<;>simp [bz]
theorem Wo:∀ (f:Nat) (bs:List Int),(bz f bs).2≠0 → (bz f bs).1=[]
 |0,_,_=>rfl
 |f+1,bs,h=>by
  simp only [bz] at h ⊢
  split
  ·rfl
  ·rename_i h1
   rw [if_neg h1] at h
   split
   ·rename_i h2
    rw [if_pos h2] at h
    split
    ·rename_i h3;rw [if_pos h3] at h;exact absurd rfl h
    ·rfl
   ·rfl
theorem XD {bs:List Int} (hb:Bytes bs) (h:(bT 0 bs).2.2=0):∃ m:Nat,(bT 0 bs).2.1=(m:Int) ∧ 1 ≤ m ∧ m ≤ bs.length ∧ 0 ≤ (bT 0 bs).1 ∧ (bT 0 bs).1<18446744073709551616 ∧ enc (bT 0 bs).1.toNat=bs.take m:=by
 obtain ⟨_,g2,g3,_,m,g5,g6,g7⟩:=TK bs 0 (by omega) hb h
 exact ⟨m+1,by rw [g5];congr 1;omega,by omega,by omega,g2,g3,g7⟩
def jk (ws:List Int):List Int:=ws.flatMap fun w=>enc w.toNat
def Words (ws:List Int):Prop:=∀ w∈ws,0 ≤ w ∧ w<18446744073709551616
theorem Mk (ws:List Int):Bytes (jk ws):=fun x hx=>by
 obtain ⟨w,_,h⟩:=List.mem_flatMap.1 hx
 exact aio _ x h
theorem BS:∀ {ws:List Int},Words ws → ws.length ≤ (jk ws).length ∧ (jk ws).length ≤ 10*ws.length
 |[],_=>by simp [jk]
 |w::ws,h=>by
  have h1:=BS (ws:=ws) fun x hx=>h x (List.mem_cons_of_mem _ hx)
  have h2:=Dx (w:=w.toNat) (by have:=h w List.mem_cons_self;omega)
  simp only [jk,List.flatMap_cons,List.length_append,List.length_cons] at h1 ⊢
  omega
theorem YZ {ws:List Int} {k:Nat} (hk:k<ws.length):jk (ws.take (k+1))=jk (ws.take k)++enc ws[k].toNat:=by
 unfold jk
 rw [List.take_succ_eq_append_getElem hk,List.flatMap_append]
 simp only [List.flatMap_cons,List.flatMap_nil,List.append_nil]
theorem Mi:∀ (f:Nat) (bs:List Int),Bytes bs → bs.length ≤ f → (bz f bs).2=0 → jk (bz f bs).1=bs ∧ Words (bz f bs).1
 |0,bs,_,hf,_=>by
  have:bs=[]:=List.length_eq_zero_iff.1 (by omega)
  subst this
  exact ⟨rfl,fun x hx=>by cases hx⟩
 |f+1,bs,hb,hf,h=>by
  simp only [bz] at h ⊢
  by_cases h0:bs=[]
  ·subst h0;exact ⟨rfl,fun x hx=>by simp at hx⟩
  ·rw [if_neg h0] at h ⊢
   by_cases h1:(bT 0 bs).2.2=0
   ·obtain ⟨q,q1,q2,q3,q4,q5,q6⟩:=XD hb h1
    simp only [h1,q1,if_true,Int.toNat_natCast] at h ⊢
    by_cases h2:(bz f (bs.drop q)).2=0
    ·obtain ⟨g1,g2⟩:=Mi f (bs.drop q) (hb.drop q) (by simp;omega) h2
     simp only [h2,if_true]
     refine ⟨?_,fun x hx=>?_⟩
     ·show enc (bT 0 bs).1.toNat++jk (bz f (bs.drop q)).1=bs
      rw [g1,q6,List.take_append_drop]
     ·rcases List.mem_cons.1 hx with rfl |hx
      ·exact ⟨q4,q5⟩
      ·exact g2 x hx
    ·simp only [h2,if_false] at h
   ·simp only [h1,if_false] at h
theorem JI:∀ (ws:List Int) (f:Nat),Words ws → (jk ws).length ≤ f → bz f (jk ws)=(ws,0)
 |[],f,_,_=>Mp f
 |w::ws,f,hw,hf=>by
  have h2:=Dx (w:=w.toNat) (by have:=hw w List.mem_cons_self;omega)
  have e:jk (w::ws)=enc w.toNat++jk ws:=rfl
  cases f with
  |zero=>rw [e] at hf;simp only [List.length_append] at hf;omega
  |succ f=>
   have hw0:=hw w List.mem_cons_self
   have hg:=adX (w:=w.toNat) (by omega) (jk ws)
   rw [e] at hf ⊢
   simp only [List.length_append] at hf
   have jL:enc w.toNat++jk ws≠[]:=by
    intro h
    have:=congrArg List.length h
    simp at this
    rw [this.1] at h2;simp at h2
   simp only [bz,if_neg jL,hg,if_true,Int.toNat_natCast,List.drop_left]
   rw [JI ws f (fun x hx=>hw x (List.mem_cons_of_mem _ hx)) (by omega)]
   simp only [if_true]
   rw [Int.toNat_of_nonneg hw0.1]
end Go.Abs
namespace Go.Abs
open Go
def lV (n:Nat) (l:List Int):Option (List Int × List Int):=if n ≤ l.length ∧ ∀ x∈l.take n,x ≤ 4194304 then some (l.take n,l.drop n) else none
theorem Mq {n:Nat} {l P r:List Int} (h:lV n l=some (P,r)):P=l.take n ∧ r=l.drop n ∧ n ≤ l.length ∧ (∀ x∈P,x ≤ 4194304) ∧ P++r=l:=by
 unfold lV at h
 split at h
 ·rename_i hc
  cases h
  exact ⟨rfl,rfl,hc.1,hc.2,List.take_append_drop _ _⟩
 ·cases h
section
variable (unp:Int → Option HV) (pck:HV → Int)
def GI (l:List Int):Option (NV × List Int):=
 match l with
 |[]=>none
 |w::l=>match unp w with
  |none=>none
  |some h=>match lV h.p.toNat l with
   |none=>none
   |some (P,r)=>if h.r.toNat ≤ r.length then some (⟨h,P,r.take h.r.toNat⟩,r.drop h.r.toNat) else none
def pS:Nat → List Int → Option (List NV × List Int)
 |0,l=>some ([],l)
 |n+1,l=>match GI unp l with
  |none=>none
  |some (x,r)=>match pS n r with
   |none=>none
   |some (N,q)=>some (x::N,q)
def oD (l:List Int):Option (List Int × List Int):=
 match l with
 |[]=>none
 |c::r=>if c ≤ r.length then lV c.toNat r else none
def eT (x:NV):List Int:=pck x.h::(x.P++x.R)
def fZ (l:List Int):List Int:=(l.length:Int)::l
def ey (F:FV):List Int:=(F.nodes.length:Int)::(F.nodes.flatMap (eT pck)++(fZ F.roots++fZ F.bn))
variable {unp pck}
theorem Wp {l r:List Int} {x:NV} (h:GI unp l=some (x,r)) (hu:∀ w v,0 ≤ w → unp w=some v → pck v=w) (h0:∀ w∈l,0 ≤ w):eT pck x++r=l ∧ r.length<l.length ∧ (∀ w∈r,w∈l):=by
 cases l with
 |nil=>cases h
 |cons w l=>
  simp only [GI] at h
  cases hw:unp w with
  |none=>rw [hw] at h;cases h
  |some hv=>
   rw [hw] at h
   simp only at h
   cases ht:lV hv.p.toNat l with
   |none=>rw [ht] at h;cases h
   |some q=>
    obtain ⟨P,q⟩:=q
    rw [ht] at h
    simp only at h
    obtain ⟨_,_,_,_,e⟩:=Mq ht
    split at h
    ·cases h
     unfold eT
     simp only
     refine ⟨?_,?_,fun y hy=>?_⟩
     ·rw [hu w hv (h0 w List.mem_cons_self) hw,List.cons_append,List.append_assoc,List.take_append_drop,e]
     ·rw [← e];simp;omega
     ·rw [← e]
      exact List.mem_cons_of_mem _ (List.mem_append_right _ (List.mem_of_mem_drop hy))
    ·cases h
theorem JK (hu:∀ w v,0 ≤ w → unp w=some v → pck v=w):∀ (n:Nat) {l r:List Int} {N:List NV},pS unp n l=some (N,r) → (∀ w∈l,0 ≤ w) → N.length=n ∧ N.flatMap (eT pck)++r=l ∧ r.length+n ≤ l.length ∧ ∀ w∈r,w∈l
 |0,l,r,N,h,h0=>by
  simp only [pS] at h
  cases h
  exact ⟨rfl,rfl,by omega,fun _ h=>h⟩
 |n+1,l,r,N,h,h0=>by
  simp only [pS] at h
  cases hx:GI unp l with
  |none=>rw [hx] at h;cases h
  |some q=>
   obtain ⟨x,q⟩:=q
   rw [hx] at h
   simp only at h
   obtain ⟨e1,l1,m1⟩:=Wp (pck:=pck) hx hu h0
   cases hn:pS unp n q with
   |none=>rw [hn] at h;cases h
   |some p=>
    obtain ⟨N',q'⟩:=p
    rw [hn] at h
    simp only at h
    cases h
    obtain ⟨g1,g2,g3,g4⟩:=JK hu n hn fun w hw=>h0 w (m1 w hw)
    refine ⟨by simp [g1],?_,by omega,fun w hw=>m1 w (g4 w hw)⟩
    rw [List.flatMap_cons,List.append_assoc,g2,e1]
theorem TM {l r P:List Int} (h:oD l=some (P,r)) (h0:∀ w∈l,0 ≤ w):fZ P++r=l ∧ ∀ w∈r,w∈l:=by
 cases l with
 |nil=>cases h
 |cons c l=>
  simp only [oD] at h
  split at h
  ·rename_i hc
   obtain ⟨e1,e2,e3,_,e5⟩:=Mq h
   have hc0:=h0 c List.mem_cons_self
   refine ⟨?_,fun w hw=>List.mem_cons_of_mem _ (by rw [e2] at hw;exact List.mem_of_mem_drop hw)⟩
   unfold fZ
   rw [List.cons_append,e5]
   congr 1
   rw [e1,List.length_take]
   omega
  ·cases h
theorem PS {P r:List Int} (h:∀ x∈P,x ≤ 4194304):lV P.length (P++r)=some (P,r):=by
 unfold lV
 rw [List.take_left,List.drop_left,if_pos ⟨by simp,h⟩]
theorem Y0 {x:NV} {r:List Int} (hu:unp (pck x.h)=some x.h) (hp:x.P.length=x.h.p.toNat) (hr:x.R.length=x.h.r.toNat) (hs:∀ y∈x.P,y ≤ 4194304):GI unp (eT pck x++r)=some (x,r):=by
 unfold eT GI
 rw [List.cons_append]
 simp only [hu]
 rw [← hp,List.append_assoc,PS hs]
 simp only
 rw [← hr,if_pos (by simp),List.take_left,List.drop_left]
theorem Mr:∀ (N:List NV) {r:List Int},(∀ x∈N,unp (pck x.h)=some x.h ∧ x.P.length=x.h.p.toNat ∧ x.R.length=x.h.r.toNat ∧ ∀ y∈x.P,y ≤ 4194304) → pS unp N.length (N.flatMap (eT pck)++r)=some (N,r)
 |[],r,_=>rfl
 |x::N,r,h=>by
  obtain ⟨h1,h2,h3,h4⟩:=h x List.mem_cons_self
  rw [List.flatMap_cons,List.length_cons,List.append_assoc]
  simp only [pS]
  rw [Y0 h1 h2 h3 h4]
  simp only
  rw [Mr N fun y hy=>h y (List.mem_cons_of_mem _ hy)]
theorem Ms {P r:List Int} (h:∀ x∈P,x ≤ 4194304):oD (fZ P++r)=some (P,r):=by
 unfold fZ oD
 rw [List.cons_append]
 simp only
 rw [if_pos (by simp;omega),Int.toNat_natCast,PS h]
end
def zF (n:Int) (least:Int):Int → List Int → Option Int
 |met,[]=>some met
 |met,k::l=>if least ≤ k ∧ k ≤ n ∧ k ≤ met+1 then zF n least (max met k) l else none
def Ob (h:HV):Bool:=decide ((0 ≤ h.p ∧ h.p ≤ 4095) ∧ (0 ≤ h.r ∧ h.r ≤ 4095) ∧ (0 ≤ h.site ∧ h.site ≤ 31) ∧ (0 ≤ h.pR ∧ h.pR ≤ 7))
def lW (n:Int):Int → Int → List NV → Bool
 |_,_,[]=>true
 |i,met,x::N=>decide (i<met) && (Ob x.h && (decide ((x.P.length:Int)=x.h.p) && (decide ((x.R.length:Int)=x.h.r) && (match zF n 0 met x.P with |none=>false |some m=>lW n (i+1) m N))))
def ct (F:FV):Bool:=(match zF F.nodes.length 1 0 F.roots with |none=>false |some m=>lW F.nodes.length 0 m F.nodes) && F.bn.all fun k=>decide (0 ≤ k ∧ k ≤ F.nodes.length)
def TN (unp:Int → Option HV) (l:List Int):Option FV:=
 match l with
 |[]=>none
 |c::r=>if c ≤ r.length then match pS unp c.toNat r with
   |none=>none
   |some (N,r1)=>match oD r1 with
    |none=>none
    |some (R,r2)=>match oD r2 with
     |none=>none
     |some (K,r3)=>if r3=[] ∧ ct ⟨N,R,K⟩=true then some ⟨N,R,K⟩ else none
  else none
theorem Mt {n least:Int}:∀ {l:List Int} {met m:Int},zF n least met l=some m → ∀ k∈l,least ≤ k ∧ k ≤ n
 |[],_,_,_,k,hk=>by cases hk
 |x::l,met,m,h,k,hk=>by
  simp only [zF] at h
  split at h
  ·rename_i hc
   rcases List.mem_cons.1 hk with rfl |hk
   ·exact ⟨hc.1,hc.2.1⟩
   ·exact Mt h k hk
  ·cases h
theorem PT {n:Int}:∀ {N:List NV} {i met:Int},lW n i met N=true → ∀ x∈N,Ob x.h=true ∧ (x.P.length:Int)=x.h.p ∧ (x.R.length:Int)=x.h.r ∧ ∀ k∈x.P,0 ≤ k ∧ k ≤ n
 |[],_,_,_,x,hx=>by cases hx
 |y::N,i,met,h,x,hx=>by
  simp only [lW,Bool.and_eq_true,decide_eq_true_eq] at h
  obtain ⟨_,h2,h3,h4,h5⟩:=h
  cases hm:zF n 0 met y.P with
  |none=>rw [hm] at h5;cases h5
  |some m=>
   rw [hm] at h5
   rcases List.mem_cons.1 hx with rfl |hx
   ·exact ⟨h2,h3,h4,Mt hm⟩
   ·exact PT h5 x hx
theorem wJ {F:FV} (h:ct F=true):(∀ x∈F.nodes,Ob x.h=true ∧ (x.P.length:Int)=x.h.p ∧ (x.R.length:Int)=x.h.r ∧ ∀ k∈x.P,0 ≤ k ∧ k ≤ F.nodes.length) ∧ (∀ k∈F.roots,1 ≤ k ∧ k ≤ F.nodes.length) ∧ ∀ k∈F.bn,0 ≤ k ∧ k ≤ F.nodes.length:=by
 unfold ct at h
 rw [Bool.and_eq_true] at h
 obtain ⟨h1,h2⟩:=h
 cases hm:zF F.nodes.length 1 0 F.roots with
 |none=>rw [hm] at h1;cases h1
 |some m=>
  rw [hm] at h1
  refine ⟨PT h1,Mt hm,fun k hk=>?_⟩
  have:=List.all_eq_true.1 h2 k hk
  simpa using this
theorem TO {unp:Int → Option HV} {pck:HV → Int} (hu:∀ h,Ob h=true → unp (pck h)=some h) {F:FV} (h:ct F=true) (hn:F.nodes.length ≤ 4194304):TN unp (ey pck F)=some F:=by
 obtain ⟨h1,h2,h3⟩:=wJ h
 unfold ey TN
 simp only
 have e:=Mr (unp:=unp) (pck:=pck) F.nodes (r:=fZ F.roots++fZ F.bn) fun x hx=>by
  obtain ⟨a,b,c,d⟩:=h1 x hx
  exact ⟨hu _ a,by omega,by omega,fun y hy=>by have:=(d y hy).2;omega⟩
 rw [if_pos ?_,Int.toNat_natCast,e]
 ·simp only
  rw [Ms fun x hx=>by have:=(h2 x hx).2;omega]
  simp only
  have e2:=Ms (P:=F.bn) (r:=[]) fun x hx=>by have:=(h3 x hx).2;omega
  rw [List.append_nil] at e2
  rw [e2]
  simp only
  rw [if_pos ⟨trivial,h⟩]
 ·have:F.nodes.length ≤ (F.nodes.flatMap (eT pck)).length:=by
   generalize F.nodes=N
   induction N with
   |nil=>simp
   |cons x N ih=>
    rw [List.flatMap_cons,List.length_append,List.length_cons]
    have:1 ≤ (eT pck x).length:=by unfold eT;simp
    omega
  simp only [List.length_append]
  omega
end Go.Abs
namespace Go.Abs
open Go
structure pJ where
 left:List Int
 bad:Bool
def aY (s:pJ):Int × pJ:=match s.left with | []=>(0,⟨[],true⟩) |w::l=>(w,⟨l,s.bad⟩)
def bO (s:pJ):Int × pJ:=if (aY s).1 > (aY s).2.left.length then (0,⟨(aY s).2.left,true⟩) else aY s
def bj (s:pJ):Int × pJ:=if (aY s).1 > 4194304 then (0,⟨(aY s).2.left,true⟩) else aY s
def lj:Nat → pJ → List Int × pJ
 |0,s=>([],s)
 |k+1,s=>((bj s).1::(lj k (bj s).2).1,(lj k (bj s).2).2)
def bU (f:pJ → Int × pJ):Nat → pJ → List Int × pJ
 |0,s=>([],s)
 |k+1,s=>if s.bad=true then ([],s) else ((f s).1::(bU f k (f s).2).1,(bU f k (f s).2).2)
def dv (s:pJ):List Int × pJ:=lj (bO s).1.toNat (bO s).2
def abc:HV:=⟨0,0,0,0,false⟩
section
variable (unp:Int → Option HV)
def iJ (s:pJ):NV × pJ:=match unp (aY s).1 with
 |none=>(⟨abc,[],[]⟩,⟨(aY s).2.left,true⟩)
 |some h=>(⟨h,(bU bj h.p.toNat (aY s).2).1,(bU aY h.r.toNat (bU bj h.p.toNat (aY s).2).2).1⟩,(bU aY h.r.toNat (bU bj h.p.toNat (aY s).2).2).2)
def cU:Nat → pJ → List NV × pJ
 |0,s=>([],s)
 |k+1,s=>if s.bad=true then ([],s) else ((iJ unp s).1::(cU k (iJ unp s).2).1,(cU k (iJ unp s).2).2)
end
theorem TP {s:pJ} (h:s.bad=true):(aY s).2.bad=true:=by
 unfold aY
 split
 ·rfl
 ·exact h
theorem Wq {s:pJ} (h:s.bad=true):(bj s).2.bad=true:=by
 unfold bj
 split
 ·rfl
 ·exact TP h
theorem Y1 {s:pJ} (h:s.bad=true):(bO s).2.bad=true:=by
 unfold bO
 split
 ·rfl
 ·exact TP h
theorem rG:∀ (k:Nat) {s:pJ},s.bad=true → (lj k s).2.bad=true
 |0,_,h=>h
 |k+1,s,h=>rG k (Wq h)
theorem Mu {s:pJ} (h:s.bad=true):(dv s).2.bad=true:=rG _ (Y1 h)
theorem Dy (f:pJ → Int × pJ) {k:Nat} {s:pJ} (h:s.bad=true):bU f k s=([],s):=by
 cases k with
 |zero=>rfl
 |succ k=>unfold bU;rw [if_pos h]
theorem Mv (l:List Int):lV 0 l=some ([],l):=by unfold lV;simp
theorem Mw {n:Nat} {w:Int} {l:List Int}:lV (n+1) (w::l)=if w ≤ 4194304 then (lV n l).map fun q=>(w::q.1,q.2) else none:=by
 unfold lV
 by_cases hw:w ≤ 4194304
 ·rw [if_pos hw]
  by_cases hc:n ≤ l.length ∧ ∀ x∈l.take n,x ≤ 4194304
  ·rw [if_pos hc,if_pos ⟨by simp;omega,fun x hx=>by
    rw [List.take_succ_cons] at hx
    rcases List.mem_cons.1 hx with rfl |hx
    ·exact hw
    ·exact hc.2 x hx⟩]
   simp
  ·rw [if_neg hc,if_neg fun h=>hc ⟨by have:=h.1;simp at this;omega,fun x hx=>h.2 x (by rw [List.take_succ_cons];exact List.mem_cons_of_mem _ hx)⟩]
   rfl
 ·rw [if_neg hw,if_neg fun h=>hw (h.2 w (by rw [List.take_succ_cons];exact List.mem_cons_self))]
theorem PU {n:Nat}:lV (n+1) []=none:=by unfold lV;rw [if_neg fun h=>by have:=h.1;simp at this]
theorem TQ:∀ (k:Nat) (l:List Int),match lV k l with |some (P,r)=>lj k ⟨l,false⟩=(P,⟨r,false⟩) |none=>(lj k ⟨l,false⟩).2.bad=true
 |0,l=>by rw [Mv];rfl
 |k+1,[]=>by
  rw [PU]
  exact rG k rfl
 |k+1,w::l=>by
  rw [Mw]
  by_cases hw:w ≤ 4194304
  ·rw [if_pos hw]
   have hn:bj ⟨w::l,false⟩=(w,⟨l,false⟩):=by unfold bj aY;simp only;rw [if_neg (by omega)]
   have ih:=TQ k l
   cases ht:lV k l with
   |none=>
    rw [ht] at ih
    simp only [Option.map_none]
    unfold lj
    rw [hn];exact ih
   |some q=>
    obtain ⟨P,r⟩:=q
    rw [ht] at ih
    simp only at ih
    simp only [Option.map_some]
    unfold lj
    rw [hn];simp only;rw [ih]
  ·rw [if_neg hw]
   simp only
   unfold lj
   refine rG k ?_
   unfold bj aY
   simp only
   rw [if_pos (by omega)]
theorem TR:∀ (k:Nat) (l:List Int),match lV k l with |some (P,r)=>bU bj k ⟨l,false⟩=(P,⟨r,false⟩) |none=>(bU bj k ⟨l,false⟩).2.bad=true
 |0,l=>by rw [Mv];rfl
 |k+1,[]=>by
  rw [PU]
  simp only
  unfold bU
  rw [if_neg (by decide)]
  rw [Dy bj (s:=(bj ⟨[],false⟩).2) rfl]
  rfl
 |k+1,w::l=>by
  rw [Mw]
  by_cases hw:w ≤ 4194304
  ·rw [if_pos hw]
   have hn:bj ⟨w::l,false⟩=(w,⟨l,false⟩):=by unfold bj aY;simp only;rw [if_neg (by omega)]
   have ih:=TR k l
   cases ht:lV k l with
   |none=>
    rw [ht] at ih
    simp only [Option.map_none]
    unfold bU
    rw [if_neg (by simp),hn];exact ih
   |some q=>
    obtain ⟨P,r⟩:=q
    rw [ht] at ih
    simp only at ih
    simp only [Option.map_some]
    unfold bU
    rw [if_neg (by simp),hn];simp only;rw [ih]
  ·rw [if_neg hw]
   simp only
   have hn:bj ⟨w::l,false⟩=(0,⟨l,true⟩):=by unfold bj aY;simp only;rw [if_pos (by omega)]
   unfold bU
   rw [if_neg (by simp),hn]
   simp only
   rw [Dy bj (s:=⟨l,true⟩) rfl]
theorem XE:∀ (k:Nat) (l:List Int),if k ≤ l.length then bU aY k ⟨l,false⟩=(l.take k,⟨l.drop k,false⟩) else (bU aY k ⟨l,false⟩).2.bad=true
 |0,l=>by simp [bU]
 |k+1,[]=>by
  rw [if_neg (by simp)]
  unfold bU
  rw [if_neg (by decide)]
  rw [Dy aY (s:=(aY ⟨[],false⟩).2) rfl]
  rfl
 |k+1,w::l=>by
  have ih:=XE k l
  have hn:aY ⟨w::l,false⟩=(w,⟨l,false⟩):=rfl
  by_cases hk:k ≤ l.length
  ·rw [if_pos hk] at ih
   rw [if_pos (by simp;omega)]
   unfold bU
   rw [if_neg (by simp),hn]
   simp only
   rw [ih];simp
  ·rw [if_neg hk] at ih
   rw [if_neg (by simp;omega)]
   unfold bU
   rw [if_neg (by simp),hn]
   exact ih
section
variable {unp:Int → Option HV}
theorem abn (h0:unp 0=none) (l:List Int):match GI unp l with |some (x,r)=>iJ unp ⟨l,false⟩=(x,⟨r,false⟩) |none=>(iJ unp ⟨l,false⟩).2.bad=true:=by
 cases l with
 |nil=>
  show (iJ unp ⟨[],false⟩).2.bad=true
  unfold iJ
  have:(aY ⟨[],false⟩).1=0:=rfl
  rw [this,h0]
 |cons w l=>
  have hn:aY ⟨w::l,false⟩=(w,⟨l,false⟩):=rfl
  unfold GI iJ
  rw [hn]
  simp only
  cases hw:unp w with
  |none=>simp only
  |some h=>
   simp only
   have t:=TR h.p.toNat l
   cases ht:lV h.p.toNat l with
   |none=>
    rw [ht] at t
    simp only at t ⊢
    rw [Dy aY t];exact t
   |some q=>
    obtain ⟨P,r⟩:=q
    rw [ht] at t
    simp only at t ⊢
    rw [t]
    simp only
    have u:=XE h.r.toNat r
    by_cases hr:h.r.toNat ≤ r.length
    ·rw [if_pos hr] at u ⊢
     simp only
     rw [u]
    ·rw [if_neg hr] at u ⊢
     exact u
theorem Fq {k:Nat} {s:pJ} (h:s.bad=true):cU unp k s=([],s):=by
 cases k with
 |zero=>rfl
 |succ k=>unfold cU;rw [if_pos h]
theorem PV (h0:unp 0=none):∀ (k:Nat) (l:List Int),match pS unp k l with |some (N,r)=>cU unp k ⟨l,false⟩=(N,⟨r,false⟩) |none=>(cU unp k ⟨l,false⟩).2.bad=true
 |0,l=>rfl
 |k+1,l=>by
  have t:=abn h0 l
  unfold pS cU
  rw [if_neg (show ¬ (⟨l,false⟩:pJ).bad=true by simp)]
  cases hx:GI unp l with
  |none=>
   rw [hx] at t
   simp only at t ⊢
   rw [Fq t];exact t
  |some q=>
   obtain ⟨x,r⟩:=q
   rw [hx] at t
   simp only at t ⊢
   rw [t]
   simp only
   have ih:=PV h0 k r
   cases hn:pS unp k r with
   |none=>
    rw [hn] at ih
    exact ih
   |some q=>
    obtain ⟨N,r'⟩:=q
    rw [hn] at ih
    simp only at ih ⊢
    rw [ih]
theorem TS (l:List Int) (h0:∀ w∈l,0 ≤ w):match oD l with |some (P,r)=>dv ⟨l,false⟩=(P,⟨r,false⟩) |none=>(dv ⟨l,false⟩).2.bad=true:=by
 cases l with
 |nil=>
  show (dv ⟨[],false⟩).2.bad=true
  unfold dv
  exact rG _ (by unfold bO aY;simp)
 |cons c l=>
  unfold oD dv
  simp only
  have hn:aY ⟨c::l,false⟩=(c,⟨l,false⟩):=rfl
  by_cases hc:c ≤ l.length
  ·have e:bO ⟨c::l,false⟩=(c,⟨l,false⟩):=by unfold bO;rw [hn];simp only;rw [if_neg (by omega)]
   rw [if_pos hc,e]
   exact TQ c.toNat l
  ·have e:bO ⟨c::l,false⟩=(0,⟨l,true⟩):=by unfold bO;rw [hn];simp only;rw [if_pos (by omega)]
   rw [if_neg hc,e]
   exact rG _ rfl
def lU (unp:Int → Option HV) (l:List Int):FV × pJ:=
 (
  ⟨(cU unp (bO ⟨l,false⟩).1.toNat (bO ⟨l,false⟩).2).1,(dv (cU unp (bO ⟨l,false⟩).1.toNat (bO ⟨l,false⟩).2).2).1,(dv (dv (cU unp (bO ⟨l,false⟩).1.toNat (bO ⟨l,false⟩).2).2).2).1⟩,
  (dv (dv (cU unp (bO ⟨l,false⟩).1.toNat (bO ⟨l,false⟩).2).2).2).2)
theorem abf (h0:unp 0=none) (hu:∃ pck:HV → Int,∀ w v,0 ≤ w → unp w=some v → pck v=w) (l:List Int) (hl:∀ w∈l,0 ≤ w):TN unp l=if (lU unp l).2.bad=false ∧ (lU unp l).2.left=[] ∧ ct (lU unp l).1=true then some (lU unp l).1 else none:=by
 obtain ⟨pck,hu⟩:=hu
 have no:∀ {s:pJ},s.bad=true → (dv (dv s).2).2.bad=true:=fun h=>Mu (Mu h)
 cases l with
 |nil=>
  have:(lU unp []).2.bad=true:=no (by
   have:(bO ⟨[],false⟩).2.bad=true:=by unfold bO aY;simp
   rw [Fq this];exact this)
  rw [if_neg (by rw [this];simp)];rfl
 |cons c l=>
  have hn:aY ⟨c::l,false⟩=(c,⟨l,false⟩):=rfl
  unfold TN
  simp only
  by_cases hc:c ≤ l.length
  ·rw [if_pos hc]
   have e:bO ⟨c::l,false⟩=(c,⟨l,false⟩):=by unfold bO;rw [hn];simp only;rw [if_neg (by omega)]
   have t:=PV h0 c.toNat l
   cases hx:pS unp c.toNat l with
   |none=>
    rw [hx] at t
    simp only at t ⊢
    rw [if_neg]
    unfold lU
    rw [e]
    simp only
    rw [no t];simp
   |some q=>
    obtain ⟨N,r1⟩:=q
    rw [hx] at t
    simp only at t ⊢
    obtain ⟨_,_,_,hm⟩:=JK (pck:=pck) hu _ hx fun w hw=>hl w (List.mem_cons_of_mem _ hw)
    have h1:∀ w∈r1,0 ≤ w:=fun w hw=>hl w (List.mem_cons_of_mem _ (hm w hw))
    have u:=TS r1 h1
    cases hr:oD r1 with
    |none=>
     rw [hr] at u
     simp only at u ⊢
     rw [if_neg]
     unfold lU
     rw [e]
     simp only
     rw [t]
     simp only
     rw [Mu u];simp
    |some q=>
     obtain ⟨R,r2⟩:=q
     rw [hr] at u
     simp only at u ⊢
     obtain ⟨_,hm2⟩:=TM hr h1
     have v:=TS r2 fun w hw=>h1 w (hm2 w hw)
     cases hk:oD r2 with
     |none=>
      rw [hk] at v
      simp only at v ⊢
      rw [if_neg]
      unfold lU
      rw [e]
      simp only
      rw [t]
      simp only
      rw [u]
      simp only
      rw [v];simp
     |some q=>
      obtain ⟨K,r3⟩:=q
      rw [hk] at v
      simp only at v ⊢
      have er:lU unp (c::l)=(⟨N,R,K⟩,⟨r3,false⟩):=by
       unfold lU
       rw [e]
       simp only
       rw [t]
       simp only
       rw [u]
       simp only
       rw [v]
      rw [er]
      simp only [true_and]
  ·rw [if_neg hc]
   have e:bO ⟨c::l,false⟩=(0,⟨l,true⟩):=by unfold bO;rw [hn];simp only;rw [if_pos (by omega)]
   rw [if_neg]
   unfold lU
   rw [e]
   simp only
   rw [no (by rw [Fq rfl])];simp
end
end Go.Abs
namespace Go.Abs
open Go
def pck (h:HV):Int:=4611686018427387904+(if h.bW=true then 4294967296 else 0)+h.pR*536870912+h.site*16777216+h.r*4096+h.p
def Y2 (w:Int):HV:=⟨w % 4096,w / 4096 % 4096,w / 16777216 % 32,w / 536870912 % 8,decide (w / 4294967296 % 2=1)⟩
def unp (w:Int):Option HV:=if pck (Y2 w)=w then some (Y2 w) else none
theorem abg:unp 0=none:=by decide
theorem adR {w:Int} {v:HV} (h:unp w=some v):pck v=w:=by
 unfold unp at h
 split at h
 ·cases h;assumption
 ·cases h
theorem adZ {h:HV} (k:Ob h=true):Y2 (pck h)=h:=by
 obtain ⟨p,r,s,g,l⟩:=h
 simp only [Ob,decide_eq_true_eq] at k
 obtain ⟨k1,k2,k3,k4⟩:=k
 cases l with
 |true=>
  simp only [Y2,pck,if_true]
  congr 1
  ·omega
  ·omega
  ·omega
  ·omega
  ·exact decide_eq_true (by omega)
 |false=>
  simp only [Y2,pck,Bool.false_eq_true,if_false]
  congr 1
  ·omega
  ·omega
  ·omega
  ·omega
  ·exact decide_eq_false (by omega)
theorem aiq {h:HV} (k:Ob h=true):unp (pck h)=some h:=by
 unfold unp
 rw [adZ k,if_pos rfl]
theorem ad0 {h:HV} (k:Ob h=true):0 ≤ pck h ∧ pck h<18446744073709551616:=by
 simp only [Ob,decide_eq_true_eq] at k
 obtain ⟨k1,k2,k3,k4⟩:=k
 unfold pck
 split<;>omega
abbrev abh (l:List Int):Option FV:=TN unp l
theorem TJ {F:FV} (h:ct F=true) (hn:F.nodes.length ≤ 4194304):abh (ey pck F)=some F:=TO (fun h k=>aiq k) h hn
def abe (l:List Int):FV × Int:=match abh l with |some F=>(F,0) |none=>(⟨[],[],[]⟩,5)
end Go.Abs
namespace Go.Abs
open Go
abbrev W:=BitVec 64
def alI:W:=0x42f0e1eba9ea3693#64
def lX (s:W):W:=(s <<< 1) ^^^ (if s.msb then alI else 0#64)
def nY (m:Bool):W:=if m then 0x8000000000000000#64 else 0#64
def feed (s:W) (m:Bool):W:=lX (s ^^^ nY m)
def Kv (s:W) (l:List Bool):W:=l.foldl feed s
theorem msb_xor (s t:W):(s ^^^ t).msb=(s.msb ^^ t.msb):=by simp [BitVec.msb_xor]
theorem Y3 (s t:W):lX (s ^^^ t)=lX s ^^^ lX t:=by
 unfold lX
 rw [msb_xor,BitVec.shiftLeft_xor_distrib]
 have e:∀ A B p:W,(A ^^^ p) ^^^ (B ^^^ p)=A ^^^ B:=fun A B p=>by rw [BitVec.xor_assoc,BitVec.xor_comm B p,← BitVec.xor_assoc p p,BitVec.xor_self,BitVec.zero_xor]
 cases s.msb<;>cases t.msb
 ·simp
 ·simp only [Bool.false_xor,if_true,Bool.false_eq_true,if_false,BitVec.xor_zero];ac_rfl
 ·simp only [Bool.xor_false,if_true,Bool.false_eq_true,if_false,BitVec.xor_zero];ac_rfl
 ·simp only [Bool.xor_self,if_true,Bool.false_eq_true,if_false,BitVec.xor_zero];rw [e]
theorem Wr:lX 0#64=0#64:=by decide
theorem Y4 {s:W} (h:lX s=0#64):s=0#64:=by
 unfold lX at h
 have h0:=congrArg (fun x:W=>x.getLsbD 0) h
 cases hm:s.msb with
 |true=>
  rw [hm] at h0
  have hp:alI[0]=true:=by decide
  simp [BitVec.getLsbD_shiftLeft,hp] at h0
 |false=>
  rw [hm] at h
  simp only [Bool.false_eq_true,if_false,BitVec.xor_zero] at h
  apply BitVec.eq_of_getLsbD_eq
  intro i hi
  have h1:=congrArg (fun x:W=>x.getLsbD (i+1)) h
  by_cases QO:i=63
  ·subst QO
   rw [BitVec.msb_eq_getLsbD_last] at hm
   simpa using hm
  ·simp only [BitVec.getLsbD_shiftLeft,BitVec.getLsbD_zero] at h1
   have:i+1<64:=by omega
   simpa [this] using h1
def rQ:Nat → W → W
 |0,s=>s
 |n+1,s=>rQ n (lX s)
theorem JL:∀ n,rQ n 0#64=0#64
 |0=>rfl
 |n+1=>by simp only [rQ,Wr,JL n]
theorem Mx:∀ (n:Nat) {s:W},rQ n s=0#64 → s=0#64
 |0,_,h=>h
 |n+1,s,h=>Y4 (Mx n h)
theorem ad1 (s:W) (l m:List Bool):Kv s (l++m)=Kv (Kv s l) m:=List.foldl_append
def top:List Bool → W
 |[]=>0#64
 |m::l=>nY m ^^^ (top l >>> 1)
theorem XF:∀ (l:List Bool) (k:Nat),k+l.length<64 → (top l).getLsbD k=false
 |[],k,_=>by simp [top]
 |m::l,k,h=>by
  simp only [List.length_cons] at h
  have h1:=XF l (k+1) (by omega)
  have h2:(nY m).getLsbD k=false:=by
   unfold nY
   cases m with
   |false=>simp
   |true=>
    have:(0x8000000000000000#64:W)=(1#64) <<< 63:=by decide
    simp only [if_true,this,BitVec.getLsbD_shiftLeft]
    simp;omega
  simp only [top,BitVec.getLsbD_xor,BitVec.getLsbD_ushiftRight,h2,Bool.false_xor]
  rw [Nat.add_comm];exact h1
theorem Y5 {t:W} (h:t.getLsbD 0=false):lX (t >>> 1)=t:=by
 unfold lX
 have hm:(t >>> 1).msb=false:=by simp [BitVec.msb_eq_getLsbD_last]
 rw [hm]
 simp only [Bool.false_eq_true,if_false,BitVec.xor_zero]
 apply BitVec.eq_of_getLsbD_eq
 intro i hi
 rw [BitVec.getLsbD_shiftLeft]
 cases i with
 |zero=>simpa using h.symm
 |succ i=>
  have:i+1<64:=hi
  simp [hi,BitVec.getLsbD_ushiftRight,Nat.add_comm]
theorem Q3:∀ (l:List Bool) (s:W),l.length ≤ 64 → Kv s l=rQ l.length (s ^^^ top l)
 |[],s,_=>by simp [Kv,rQ,top]
 |m::l,s,h=>by
  have hl:l.length ≤ 63:=by simpa using h
  have h1:=Q3 l (feed s m) (by omega)
  show Kv (feed s m) l=rQ l.length (lX (s ^^^ top (m::l)))
  rw [h1]
  congr 1
  unfold feed
  have h2:top l=lX (top l >>> 1):=(Y5 (XF l 0 (by omega))).symm
  show lX (s ^^^ nY m) ^^^ top l=lX (s ^^^ (nY m ^^^ (top l >>> 1)))
  rw [← BitVec.xor_assoc,Y3 (s ^^^ nY m),← h2]
def JM (s:W):List Bool:=(List.range 64).map fun k=>s.getLsbD (63 - k)
theorem Q4:∀ (l:List Bool) (k:Nat),k<64 → (top l).getLsbD (63 - k)=l.getD k false
 |[],k,_=>by simp [top]
 |m::l,0,_=>by
  simp only [top,BitVec.getLsbD_xor,BitVec.getLsbD_ushiftRight]
  have h64:(top l).getLsbD (1+(63 - 0))=false:=by simp
  rw [h64]
  cases m with
  |true=>
   have:(nY true).getLsbD 63=true:=by decide
   show ((nY true).getLsbD 63 ^^ false)=true
   rw [this];rfl
  |false=>
   have:(nY false).getLsbD 63=false:=by decide
   show ((nY false).getLsbD 63 ^^ false)=false
   rw [this];rfl
 |m::l,k+1,h=>by
  have h1:=Q4 l k (by omega)
  simp only [top,BitVec.getLsbD_xor,BitVec.getLsbD_ushiftRight]
  have e:1+(63 - (k+1))=63 - k:=by omega
  rw [e,h1]
  have h2:(nY m).getLsbD (63 - (k+1))=false:=by
   unfold nY
   cases m with
   |false=>simp
   |true=>
    have:(0x8000000000000000#64:W)=(1#64) <<< 63:=by decide
    simp only [if_true,this,BitVec.getLsbD_shiftLeft]
    simp;omega
  rw [h2];simp
theorem Y6 (s:W):top (JM s)=s:=by
 apply BitVec.eq_of_getLsbD_eq
 intro i hi
 have:=Q4 (JM s) (63 - i) (by omega)
 rw [show 63 - (63 - i)=i by omega] at this
 rw [this]
 have:63 - i<64:=by omega
 simp [JM,List.getD,this]
 congr 1;omega
theorem Y7 (s:W):(JM s).length=64:=by simp [JM]
theorem ad2 (s:W) (l:List Bool) (hl:l.length=64):Kv s l=0#64 ↔ l=JM s:=by
 rw [Q3 l s (by omega)]
 constructor
 ·intro h
  have h1:=Mx _ h
  have h2:top l=s:=by
   have:s ^^^ (s ^^^ top l)=s ^^^ 0#64:=by rw [h1]
   rw [← BitVec.xor_assoc,BitVec.xor_self,BitVec.zero_xor,BitVec.xor_zero] at this
   exact this
  apply List.ext_getElem
  ·rw [hl,Y7]
  ·intro k h3 h4
   have h5:=Q4 l k (by omega)
   rw [h2] at h5
   simp [JM,h5,List.getD,h3]
 ·rintro rfl
  rw [Y6,BitVec.xor_self,JL]
def ga (c:Nat):List Bool:=[c.testBit 7,c.testBit 6,c.testBit 5,c.testBit 4,c.testBit 3,c.testBit 2,c.testBit 1,c.testBit 0]
def dY (bs:List Int):List Bool:=bs.flatMap fun c=>ga c.toNat
set_option maxRecDepth 10000 in
theorem Y8:∀ c:Fin 256,top (ga c.val)=BitVec.ofNat 64 (c.val*72057594037927936):=by decide +kernel
theorem Y9 (a b:List Int):dY (a++b)=dY a++dY b:=List.flatMap_append
theorem PW:∀ bs:List Int,(dY bs).length=8*bs.length
 |[]=>rfl
 |c::bs=>by
  have:=PW bs
  simp only [dY,List.flatMap_cons,List.length_append,List.length_cons] at this ⊢
  rw [this];simp [ga];omega
def wI (s:W):Int:=(s.toNat:Int)
theorem TT (s:W):0 ≤ wI s ∧ wI s<18446744073709551616:=by
 have:=s.isLt
 unfold wI;omega
theorem air {s t:W} (h:wI s=wI t):s=t:=BitVec.eq_of_toNat_eq (by unfold wI at h;omega)
theorem ad3:wI 0#64=0:=rfl
theorem Y' (s:W):bE .xor .u64 (IntKind.u64.wrap (wI s*2 ^ 1)) (bE .and .u64 4823603603198064275 (IntKind.u64.wrap (0 - Int.fdiv (wI s) (2 ^ 63))))=wI (lX s):=by
 have hr:=TT s
 have hs:((s <<< 1).toNat:Int)=IntKind.u64.wrap (wI s*2 ^ 1):=by
  rw [BitVec.toNat_shiftLeft,wrap_u64,Nat.shiftLeft_eq]
  unfold wI;omega
 rw [← hs]
 have alJ:s.msb=decide (2 ^ 63 ≤ s.toNat):=by rw [BitVec.msb_eq_decide]
 have hl:=(s <<< 1).isLt
 rw [Int.fdiv_eq_ediv_of_nonneg _ (by decide)]
 unfold lX
 cases hm:s.msb with
 |true=>
  have Vg:9223372036854775808 ≤ s.toNat:=by rw [alJ] at hm;simpa using hm
  have e1:IntKind.u64.wrap (0 - wI s / 2 ^ 63)=18446744073709551615:=by
   have:=s.isLt
   rw [wrap_u64];unfold wI;omega
  have e2:bE .and .u64 4823603603198064275 18446744073709551615=4823603603198064275:=by decide +kernel
  rw [e1,e2,Qq (by omega) (by omega) (by omega) (by omega),if_pos rfl]
  unfold wI
  rw [BitVec.toNat_xor]
  rfl
 |false=>
  have bS:s.toNat<9223372036854775808:=by rw [alJ] at hm;simpa using hm
  have e1:IntKind.u64.wrap (0 - wI s / 2 ^ 63)=0:=by rw [wrap_u64];unfold wI;omega
  have e2:bE .and .u64 4823603603198064275 0=0:=by decide +kernel
  rw [e1,e2,Qr (by omega) (by omega)]
  simp [wI]
theorem JN:∀ (n:Nat) (s:W),rQ (n+1) s=lX (rQ n s)
 |0,_=>rfl
 |n+1,s=>by
  show rQ (n+1) (lX s)=_
  rw [JN n];rfl
theorem Ws {bs:List Int} {k:Nat} (hk:k<bs.length):dY (bs.take (k+1))=dY (bs.take k)++ga bs[k].toNat:=by
 rw [List.take_succ_eq_append_getElem hk,Y9]
 simp [dY]
def lY (s:W):List Int:=(List.range 8).map fun i=>wI s / 2 ^ (56 - 8*i) % 256
theorem GJ (s:W):Bytes (lY s):=fun x hx=>by
 obtain ⟨i,_,rfl⟩:=List.mem_map.1 hx
 omega
theorem Za (c:Nat) (k:Nat) (hk:k<8):(ga c).getD k false=c.testBit (7 - k):=by
 match k,hk with
 |0,_=>rfl
 |1,_=>rfl
 |2,_=>rfl
 |3,_=>rfl
 |4,_=>rfl
 |5,_=>rfl
 |6,_=>rfl
 |7,_=>rfl
theorem Zb (s:W) (i:Nat) (hi:i<8):(wI s / 2 ^ (56 - 8*i) % 256).toNat=s.toNat / 2 ^ (56 - 8*i) % 256:=by
 generalize 56 - 8*i=k
 have:wI s / 2 ^ k % 256=((s.toNat / 2 ^ k % 256:Nat):Int):=by unfold wI;rw [Int.natCast_emod,Int.natCast_ediv,Int.natCast_pow];rfl
 rw [this];rfl
set_option maxRecDepth 10000 in
theorem TU (s:W):dY (lY s)=JM s:=by
 have h1:∀ i,i<8 → ga (wI s / 2 ^ (56 - 8*i) % 256).toNat=(List.range 8).map fun k=>s.getLsbD (63 - (8*i+k)):=fun i hi=>by
  rw [Zb s i hi]
  have hb:∀ k,k<8 → (s.toNat / 2 ^ (56 - 8*i) % 256).testBit (7 - k)=s.getLsbD (63 - (8*i+k)):=fun k hk=>by
   have:(256:Nat)=2 ^ 8:=rfl
   rw [this,Nat.testBit_mod_two_pow,Nat.testBit_div_two_pow,BitVec.getLsbD]
   have e:7 - k+(56 - 8*i)=63 - (8*i+k):=by omega
   rw [e]
   simp;omega
  show [_,_,_,_,_,_,_,_]=[_,_,_,_,_,_,_,_]
  have b0:=hb 0 (by omega)
  have b1:=hb 1 (by omega)
  have b2:=hb 2 (by omega)
  have b3:=hb 3 (by omega)
  have b4:=hb 4 (by omega)
  have b5:=hb 5 (by omega)
  have b6:=hb 6 (by omega)
  have b7:=hb 7 (by omega)
  simp only [Nat.sub_zero,show 7 - 1=6 from rfl,show 7 - 2=5 from rfl,show 7 - 3=4 from rfl,show 7 - 4=3 from rfl,show 7 - 5=2 from rfl,show 7 - 6=1 from rfl,show 7 - 7=0 from rfl] at b0 b1 b2 b3 b4 b5 b6 b7
  rw [b0,b1,b2,b3,b4,b5,b6,b7]
 have r:List.range 8=[0,1,2,3,4,5,6,7]:=rfl
 unfold dY lY
 rw [r]
 show ga _++(ga _++(ga _++(ga _++(ga _++(ga _++(ga _++(ga _++[])))))))=_
 rw [h1 0 (by omega),h1 1 (by omega),h1 2 (by omega),h1 3 (by omega),h1 4 (by omega),h1 5 (by omega),h1 6 (by omega),h1 7 (by omega)]
 rfl
theorem Zc {c d:Nat} (hc:c<256) (hd:d<256) (h:ga c=ga d):c=d:=by
 apply Nat.eq_of_testBit_eq
 intro i
 by_cases hi:i<8
 ·have e:=congrArg (fun l:List Bool=>l.getD (7 - i) false) h
  simp only [Za _ _ (show 7 - i<8 by omega)] at e
  rw [show 7 - (7 - i)=i by omega] at e
  exact e
 ·have h1:256 ≤ 2 ^ i:=by
   have:(256:Nat)=2 ^ 8:=rfl
   rw [this];exact Nat.pow_le_pow_right (by omega) (by omega)
  rw [Nat.testBit_lt_two_pow (by omega),Nat.testBit_lt_two_pow (by omega)]
theorem PX:∀ {b c:List Int},Bytes b → Bytes c → dY b=dY c → b=c
 |[],[],_,_,_=>rfl
 |[],d::c,_,_,h=>by simp [dY,ga] at h
 |a::b,[],_,_,h=>by simp [dY,ga] at h
 |a::b,d::c,hb,hc,h=>by
  have h1:ga a.toNat++dY b=ga d.toNat++dY c:=h
  obtain ⟨g1,g2⟩:=List.append_inj h1 (by simp [ga])
  have ha:=hb.head
  have hd:=hc.head
  have:=Zc (by omega) (by omega) g1
  rw [PX hb.tail hc.tail g2]
  congr 1;omega
theorem TW {s:W} {k:Nat} (hk:k<8):(lY s).take (k+1)=(lY s).take k++[wI s / 2 ^ (56 - 8*k) % 256]:=by
 have hl:k<(lY s).length:=by simp [lY];exact hk
 rw [List.take_succ_eq_append_getElem hl]
 simp [lY]
theorem Fs (s:W):(lY s).length=8:=by simp [lY]
def fN (bs:List Int):List Int:=bs++lY (Kv 0#64 (dY bs))
theorem Q1 {bs:List Int} (hb:Bytes bs):Bytes (fN bs):=hb.app (GJ _)
theorem ad4 {p q:List Int} (hp:Bytes p) (hq:Bytes q) (hl:q.length=8):Kv (Kv 0#64 (dY p)) (dY q)=0#64 ↔ p++q=fN p:=by
 rw [ad2 _ _ (by rw [PW,hl]),← TU]
 unfold fN
 constructor
 ·intro h;rw [PX hq (GJ _) h]
 ·intro h;rw [List.append_cancel_left h]
theorem TI (p:List Int):(fN p).take p.length=p:=by unfold fN;rw [List.take_left]
theorem Mj (p:List Int):(fN p).length=p.length+8:=by unfold fN;rw [List.length_append,Fs]
end Go.Abs
