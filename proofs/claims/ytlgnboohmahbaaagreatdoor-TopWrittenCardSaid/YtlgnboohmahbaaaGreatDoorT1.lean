/-
  Numbers as texts, by definition, and that they are read back. No conditions.
-/
import Derived.Lib.SplitLaws
import Derived.Lib.Join
set_option linter.unusedVariables false
set_option linter.unusedSimpArgs false
set_option linter.constructorNameAsVariable false
set_option linter.unusedSimpArgs false
namespace Go.Abs
abbrev Bs:=List UInt8
def gP (u:Nat):Bs:=if h:u<10 then [UInt8.ofNat (48+u)] else gP (u / 10)++[UInt8.ofNat (48+u % 10)]
termination_by u
decreasing_by omega
def cw (n:Int):Bs:=if n<0 then 45::gP (-n).toNat else gP n.toNat
def Kb (c:UInt8):Bool:=decide (48 ≤ c.toNat ∧ c.toNat ≤ 57)
def dc (a:Nat) (d:Bs):Nat:=d.foldl (fun u c=>u*10+(c.toNat - 48)) a
def bo (s:Bs):Bs:=if s.head? = some 45 then s.tail else s
def tK (s:Bs):Int × Nat:=
 if bo s=[] ∨ ((bo s).head? = some 48 ∧ 1<s.length) then (0,5)
 else if (bo s).all Kb=false then (0,5)
 else if 19<(bo s).length then (0,2)
 else if (bo s).length=s.length then (if 9223372036854775807<dc 0 s then (0,2) else ((dc 0 s:Int),0))
 else (if 9223372036854775808<dc 0 (bo s) then (0,2) else (-(dc 0 (bo s):Int),0))
theorem uW (a:Nat) (d e:Bs):dc a (d++e)=dc (dc a d) e:=by unfold dc;rw [List.foldl_append]
theorem u8n {k:Nat} (h:k<256):(UInt8.ofNat k).toNat=k:=by
 rw [UInt8.toNat_ofNat'];exact Nat.mod_eq_of_lt h
theorem X0 (u:Nat):gP u≠[]:=by
 unfold gP;split
 ·simp
 ·simp
theorem UL (u:Nat):dc 0 (gP u)=u:=by
 induction u using Nat.strongRecOn with
 |_ u ih=>
  unfold gP
  split
  ·rename_i h
   simp only [dc,List.foldl_cons,List.foldl_nil]
   rw [u8n (by omega)];omega
  ·rename_i h
   rw [uW,ih (u / 10) (by omega)]
   simp only [dc,List.foldl_cons,List.foldl_nil]
   rw [u8n (by omega)];omega
theorem NQ (u:Nat):(gP u).all Kb=true:=by
 induction u using Nat.strongRecOn with
 |_ u ih=>
  unfold gP
  split
  ·rename_i h
   simp only [List.all_cons,List.all_nil,Bool.and_true,Kb,decide_eq_true_eq]
   rw [u8n (by omega)];omega
  ·rename_i h
   rw [List.all_append,ih (u / 10) (by omega)]
   simp only [List.all_cons,List.all_nil,Bool.and_true,Bool.true_and,Kb,decide_eq_true_eq]
   rw [u8n (by omega)];omega
theorem Js {u:Nat} (h:0<u):∃ c t,gP u=c::t ∧ c≠48 ∧ c≠45:=by
 induction u using Nat.strongRecOn with
 |_ u ih=>
  unfold gP
  split
  ·rename_i h1
   refine ⟨_,[],rfl,fun e=>?_,fun e=>?_⟩
   ·have:=congrArg UInt8.toNat e
    rw [u8n (by omega)] at this
    have q:(48:UInt8).toNat=48:=rfl
    omega
   ·have:=congrArg UInt8.toNat e
    rw [u8n (by omega)] at this
    have q:(45:UInt8).toNat=45:=rfl
    omega
  ·rename_i h1
   obtain ⟨c,t,e,h2,h3⟩:=ih (u / 10) (by omega) (by omega)
   exact ⟨c,t++[UInt8.ofNat (48+u % 10)],by rw [e];rfl,h2,h3⟩
theorem Ql:gP 0=[48]:=by unfold gP;rfl
theorem NR {u k:Nat} (hk:0<k) (h:u<10 ^ k):(gP u).length ≤ k:=by
 induction k generalizing u with
 |zero=>omega
 |succ k ih=>
  unfold gP
  split
  ·simp
  ·rename_i h1
   rw [List.length_append,List.length_singleton]
   rcases Nat.eq_zero_or_pos k with e |e
   ·subst e;omega
   ·have:=ih e (u:=u / 10) (by rw [Nat.pow_succ] at h;omega)
    omega
theorem agl (u:Nat):(gP u).head? ≠ some 45:=by
 rcases Nat.eq_zero_or_pos u with e |e
 ·subst e;rw [Ql];decide
 ·obtain ⟨c,t,h1,h2,h3⟩:=Js e
  rw [h1];simpa using h3
theorem ZK {n:Int} (h0 : -9223372036854775808 ≤ n) (h1:n ≤ 9223372036854775807):tK (cw n)=(n,0):=by
 by_cases c:n<0
 ·have ns:bo (cw n)=gP (-n).toNat:=by unfold cw bo;rw [if_pos c];rfl
  have pos:0<(-n).toNat:=by omega
  obtain ⟨x,t,e,h2,h3⟩:=Js pos
  have len:=NR (u:=(-n).toNat) (k:=19) (by decide) (by omega)
  unfold tK
  rw [ns,if_neg,if_neg,if_neg (by omega),if_neg,UL,if_neg (by omega)]
  ·congr 1;omega
  ·unfold cw;rw [if_pos c];simp
  ·rw [NQ];simp
  ·rw [e];simp [h2]
 ·have tn:cw n=gP n.toNat:=by unfold cw;rw [if_neg c]
  have ns:bo (cw n)=gP n.toNat:=by rw [tn];unfold bo;rw [if_neg (agl _)]
  have len:=NR (u:=n.toNat) (k:=19) (by decide) (by omega)
  unfold tK
  rw [ns,if_neg,if_neg,if_neg (by omega),if_pos (by rw [tn]),tn,UL,if_neg (by omega)]
  ·congr 1;omega
  ·rw [NQ];simp
  ·rw [tn]
   rcases Nat.eq_zero_or_pos n.toNat with e |e
   ·rw [e,Ql];simp
   ·obtain ⟨x,t,e,h2,h3⟩:=Js e
    rw [e];simp [h2]
theorem HN (a:Nat):∀ d:Bs,a*10 ^ d.length ≤ dc a d
 |[]=>by simp [dc]
 |c::d=>by
  have:=HN (a*10+(c.toNat - 48)) d
  show _ ≤ dc (a*10+(c.toNat - 48)) d
  refine Nat.le_trans ?_ this
  rw [List.length_cons,Nat.pow_succ,Nat.mul_comm (10 ^ d.length) 10,← Nat.mul_assoc]
  exact Nat.mul_le_mul_right _ (by omega)
theorem X1 (d:Bs) (h:d.all Kb=true) (jL:d≠[]) (h0:d.head? = some 48 → d.length=1):gP (dc 0 d)=d:=by
 generalize hn:d.length=n
 induction n using Nat.strongRecOn generalizing d with
 |_ n ih=>
  obtain ⟨e,c,rfl⟩:∃ e c,d=e++[c]:=⟨d.dropLast,d.getLast jL,(List.dropLast_concat_getLast jL).symm⟩
  rw [List.all_append,Bool.and_eq_true] at h
  have hc:48 ≤ c.toNat ∧ c.toNat ≤ 57:=by
   have:=h.2
   simpa [Kb] using this
  have val:dc 0 (e++[c])=dc 0 e*10+(c.toNat - 48):=by rw [uW];rfl
  have back:UInt8.ofNat (48+(c.toNat - 48))=c:=by
   apply UInt8.toNat_inj.1
   rw [u8n (by omega)];omega
  rw [val]
  cases e with
  |nil=>
   unfold gP
   rw [dif_pos (by show dc 0 []*10+_<10;simp only [dc,List.foldl_nil];omega)]
   simp only [dc,List.foldl_nil,List.nil_append]
   rw [show 48+(0*10+(c.toNat - 48))=48+(c.toNat - 48) by omega,back]
  |cons x e=>
   have hx:x≠48:=fun ex=>by
    have:=h0 (by simp [ex])
    simp at this
   have hxd:48 ≤ x.toNat ∧ x.toNat ≤ 57:=by
    have:=h.1
    simp only [List.all_cons,Bool.and_eq_true,Kb,decide_eq_true_eq] at this
    exact this.1
   have QT:1 ≤ x.toNat - 48:=by
    rcases Nat.lt_or_ge 48 x.toNat with q |q
    ·omega
    ·exact absurd (UInt8.toNat_inj.1 (show x.toNat=(48:UInt8).toNat by show _=48;omega)) hx
   have g:1 ≤ dc 0 (x::e):=by
    have:=HN (x.toNat - 48) e
    have p:0<10 ^ e.length:=Nat.pos_of_ne_zero (by simp)
    have q:dc 0 (x::e)=dc (x.toNat - 48) e:=by simp [dc]
    rw [q]
    refine Nat.le_trans ?_ this
    exact Nat.le_trans QT (Nat.le_mul_of_pos_right _ p)
   unfold gP
   rw [dif_neg (by omega)]
   have q1:(dc 0 (x::e)*10+(c.toNat - 48)) / 10=dc 0 (x::e):=by omega
   have q2:(dc 0 (x::e)*10+(c.toNat - 48)) % 10=c.toNat - 48:=by omega
   rw [q1,q2,back,ih _ (by simp at hn;simp;omega) (x::e) h.1 (by simp) (fun q=>absurd (by simpa using q) hx) rfl]
theorem ZL {s:Bs} {n:Int} (h:tK s=(n,0)):cw n=s ∧ -9223372036854775808 ≤ n ∧ n ≤ 9223372036854775807:=by
 unfold tK at h
 split at h
 ·simp at h
 rename_i c1
 split at h
 ·simp at h
 rename_i c2
 split at h
 ·simp at h
 rename_i c3
 have hd:(bo s).all Kb=true:=by simpa using c2
 have jL:bo s≠[]:=fun e=>c1 (.inl e)
 split at h
 ·rename_i c4
  split at h
  ·simp at h
  rename_i c5
  simp only [Prod.mk.injEq,and_true] at h
  have es:bo s=s:=by
   unfold bo at c4 jL ⊢
   split at c4
   ·rename_i q
    cases s with
    |nil=>simp at q
    |cons x s=>simp at c4
   ·rename_i q;rw [if_neg q]
  rw [es] at hd jL c1
  subst h
  refine ⟨?_,by omega,by omega⟩
  unfold cw
  rw [if_neg (by omega),Int.toNat_natCast]
  refine X1 s hd jL fun q=>?_
  have:=mt (fun r=>(Or.inr ⟨q,r⟩:s=[] ∨ (s.head? = some 48 ∧ 1<s.length))) c1
  have:s.length≠0:=fun e=>jL (List.eq_nil_of_length_eq_zero e)
  omega
 ·rename_i c4
  split at h
  ·simp at h
  rename_i c5
  simp only [Prod.mk.injEq,and_true] at h
  obtain ⟨t,rfl⟩:∃ t,s=45::t:=by
   unfold bo at c4
   split at c4
   ·rename_i q
    cases s with
    |nil=>simp at q
    |cons x s=>
     simp only [List.head?_cons,Option.some.injEq] at q
     exact ⟨s,by rw [q]⟩
   ·exact absurd rfl c4
  have ns:bo (45::t)=t:=rfl
  rw [ns] at hd jL c1 c5 h
  have nz:t.head? ≠ some 48:=fun q=>c1 (.inr ⟨q,by
   have:t.length≠0:=fun e=>jL (List.eq_nil_of_length_eq_zero e)
   simp;omega⟩)
  have pos:0<dc 0 t:=by
   cases t with
   |nil=>exact absurd rfl jL
   |cons x t=>
    simp only [List.all_cons,Bool.and_eq_true,Kb,decide_eq_true_eq] at hd
    have QT:1 ≤ x.toNat - 48:=by
     rcases Nat.lt_or_ge 48 x.toNat with q |q
     ·omega
     ·exact absurd (by rw [UInt8.toNat_inj.1 (show x.toNat=(48:UInt8).toNat by show _=48;omega)];rfl) nz
    have:=HN (x.toNat - 48) t
    have p:0<10 ^ t.length:=Nat.pos_of_ne_zero (by simp)
    have q:dc 0 (x::t)=dc (x.toNat - 48) t:=by simp [dc]
    rw [q]
    exact Nat.lt_of_lt_of_le QT (Nat.le_trans (Nat.le_mul_of_pos_right _ p) this)
  subst h
  refine ⟨?_,by omega,by omega⟩
  unfold cw
  rw [if_pos (by omega),show (- -(dc 0 t:Int)).toNat=dc 0 t by omega,X1 t hd jL fun q=>absurd q nz]
theorem agm {d:Bs} (h:d.all Kb=true) (h0:d.head? ≠ some 48) (hl:19<d.length):9223372036854775808<dc 0 d:=by
 cases d with
 |nil=>simp at hl
 |cons x t=>
  simp only [List.all_cons,Bool.and_eq_true,Kb,decide_eq_true_eq] at h
  have QT:1 ≤ x.toNat - 48:=by
   rcases Nat.lt_or_ge 48 x.toNat with q |q
   ·omega
   ·exact absurd (by rw [UInt8.toNat_inj.1 (show x.toNat=(48:UInt8).toNat by show _=48;omega)];rfl) h0
  have:=HN (x.toNat - 48) t
  have p:10 ^ 19 ≤ 10 ^ t.length:=Nat.pow_le_pow_right (by decide) (by simp at hl;omega)
  have q:dc 0 (x::t)=dc (x.toNat - 48) t:=by simp [dc]
  rw [q]
  have:10 ^ 19 ≤ (x.toNat - 48)*10 ^ t.length:=Nat.le_trans p (Nat.le_mul_of_pos_left _ QT)
  omega
end Go.Abs
namespace Go.Abs
def fig (d:Nat):UInt8:=if d<10 then UInt8.ofNat (48+d) else UInt8.ofNat (87+d)
def HO (c:UInt8):Option Nat:=if 48 ≤ c.toNat ∧ c.toNat ≤ 57 then some (c.toNat - 48) else if 97 ≤ c.toNat ∧ c.toNat ≤ 102 then some (c.toNat - 87) else none
def Gb:Nat → Nat → Bs
 |0,_=>[]
 |k+1,w=>Gb k (w / 16)++[fig (w % 16)]
def wb:Nat → Bs → Option Nat
 |a,[]=>some a
 |a,c::s=>match HO c with |some d=>wb (a*16+d) s |none=>none
def HP (w:Nat):Bs:=Gb 16 w
def O6 (s:Bs):Option Nat:=if s.length=16 then wb 0 s else none
theorem Lq {d:Nat} (h:d<16):(fig d).toNat=if d<10 then 48+d else 87+d:=by
 unfold fig;split<;>rw [u8n (by omega)]
theorem ach {d:Nat} (h:d<16):HO (fig d)=some d:=by
 unfold HO
 rw [Lq h]
 by_cases c:d<10
 ·rw [if_pos c,if_pos (by omega)];congr 1;omega
 ·rw [if_neg c,if_neg (by omega),if_pos (by omega)];congr 1;omega
theorem NS {c:UInt8} {d:Nat} (h:HO c=some d):fig d=c ∧ d<16:=by
 unfold HO at h
 split at h
 ·simp only [Option.some.injEq] at h
  refine ⟨UInt8.toNat_inj.1 ?_,by omega⟩
  rw [Lq (by omega),if_pos (by omega)];omega
 ·split at h
  ·simp only [Option.some.injEq] at h
   refine ⟨UInt8.toNat_inj.1 ?_,by omega⟩
   rw [Lq (by omega),if_neg (by omega)];omega
  ·cases h
theorem jf:∀ (k w:Nat),(Gb k w).length=k
 |0,_=>rfl
 |k+1,w=>by rw [Gb,List.length_append,jf k,List.length_singleton]
theorem Db:∀ (s t:Bs) (a:Nat),wb a (s++t)=(wb a s).bind fun b=>wb b t
 |[],t,a=>rfl
 |c::s,t,a=>by
  simp only [List.cons_append,wb]
  cases HO c with
  |none=>rfl
  |some d=>exact Db s t _
theorem Qm:∀ (k w a:Nat),w<16 ^ k → wb a (Gb k w)=some (a*16 ^ k+w)
 |0,w,a,h=>by simp only [Gb,wb,Nat.pow_zero] at *;congr 1;omega
 |k+1,w,a,h=>by
  have h2:w / 16<16 ^ k:=by rw [Nat.pow_succ] at h;exact Nat.div_lt_of_lt_mul (by rw [Nat.mul_comm];exact h)
  rw [Gb,Db,Qm k (w / 16) a h2]
  simp only [Option.bind_some,wb,ach (Nat.mod_lt w (by decide:0<16))]
  congr 1
  rw [Nat.pow_succ,← Nat.mul_assoc]
  generalize a*16 ^ k=z
  omega
theorem ZM {w:Nat} (h:w<18446744073709551616):O6 (HP w)=some w:=by
 unfold O6 HP
 rw [if_pos (jf 16 w),Qm 16 w 0 (by omega)];congr 1;omega
theorem X2:∀ (s:Bs) (a b:Nat),wb a s=some b → b<(a+1)*16 ^ s.length
 |[],a,b,h=>by simp only [wb,Option.some.injEq] at h;simp;omega
 |c::s,a,b,h=>by
  simp only [wb] at h
  cases hc:HO c with
  |none=>rw [hc] at h;cases h
  |some d=>
   rw [hc] at h
   have:=X2 s _ _ h
   refine Nat.lt_of_lt_of_le this ?_
   rw [List.length_cons,Nat.pow_succ,Nat.mul_comm (16 ^ s.length) 16,← Nat.mul_assoc]
   have:=(NS hc).2
   exact Nat.mul_le_mul_right _ (by omega)
theorem ZN (s:Bs):∀ (b:Nat),wb 0 s=some b → Gb s.length b=s:=by
 generalize hn:s.length=n
 induction n generalizing s with
 |zero=>intro b h;rw [List.eq_nil_of_length_eq_zero hn];rfl
 |succ n ih=>
  intro b h
  have jL:s≠[]:=fun e=>by rw [e] at hn;cases hn
  obtain ⟨e,c,rfl⟩:∃ e c,s=e++[c]:=⟨s.dropLast,s.getLast jL,(List.dropLast_concat_getLast jL).symm⟩
  rw [Db] at h
  cases he:wb 0 e with
  |none=>rw [he] at h;cases h
  |some a=>
   rw [he] at h
   simp only [Option.bind_some,wb] at h
   cases hc:HO c with
   |none=>rw [hc] at h;cases h
   |some d=>
    rw [hc] at h
    simp only [Option.some.injEq] at h
    obtain ⟨q1,q2⟩:=NS hc
    rw [Gb,show b / 16=a by omega,show b % 16=d by omega,q1,ih e (by simp at hn;exact hn) a he]
theorem ZO {s:Bs} {w:Nat} (h:O6 s=some w):HP w=s ∧ w<18446744073709551616:=by
 unfold O6 at h
 split at h
 ·rename_i hl
  have h1:=ZN s w h
  have h2:=X2 s 0 w h
  rw [hl] at h1 h2
  exact ⟨h1,by simpa using h2⟩
 ·cases h
def dK (c:UInt8):Bs → List Bs
 |[]=>[[]]
 |x::s=>if x=c then []::dK c s else match dK c s with | []=>[[x]] |w::ws=>(x::w)::ws
def bL (c:UInt8):List Bs → Bs
 |[]=>[]
 |[w]=>w
 |w::v::ws=>w++c::bL c (v::ws)
theorem Sx (c:UInt8):∀ s,dK c s≠[]
 |[]=>by simp [dK]
 |x::s=>by
  unfold dK
  split
  ·simp
  ·split<;>simp
theorem HQ (c:UInt8):∀ s,bL c (dK c s)=s
 |[]=>rfl
 |x::s=>by
  have ih:=HQ c s
  have ne:=Sx c s
  unfold dK
  split
  ·rename_i e
   subst e
   cases h:dK x s with
   |nil=>exact absurd h ne
   |cons w ws=>rw [h] at ih;show []++x::bL x (w::ws)=_;rw [ih];rfl
  ·cases h:dK c s with
   |nil=>exact absurd h ne
   |cons w ws=>
    rw [h] at ih
    show bL c ((x::w)::ws)=_
    cases ws with
    |nil=>show x::w=_;rw [← ih];rfl
    |cons v ws=>show (x::w)++c::bL c (v::ws)=_;rw [← ih];rfl
theorem UM (c:UInt8):∀ {w:Bs},c∉w → dK c w=[w]
 |[],_=>rfl
 |x::w,h=>by
  simp only [List.mem_cons,not_or] at h
  unfold dK
  rw [if_neg (fun e=>h.1 e.symm),UM c h.2]
theorem X3 (c:UInt8):∀ {w:Bs} (s:Bs),c∉w → dK c (w++c::s)=w::dK c s
 |[],s,_=>by
  show dK c (c::s)=_
  conv=>lhs;unfold dK
  rw [if_pos rfl]
 |x::w,s,h=>by
  simp only [List.mem_cons,not_or] at h
  show dK c (x::(w++c::s))=_
  conv=>lhs;unfold dK
  rw [if_neg (fun e=>h.1 e.symm),X3 c s h.2]
theorem HR (c:UInt8):∀ {ws:List Bs},ws≠[] → (∀ w∈ws,c∉w) → dK c (bL c ws)=ws
 |[],h,_=>absurd rfl h
 |[w],_,h=>UM c (h w (by simp))
 |w::v::ws,_,h=>by
  show dK c (w++c::bL c (v::ws))=_
  rw [X3 c _ (h w (by simp)),HR c (by simp) fun u hu=>h u (List.mem_cons_of_mem _ hu)]
theorem ti (c:UInt8) (w:Bs) {ws:List Bs} (h:ws≠[]):bL c (w::ws)=w++c::bL c ws:=by
 cases ws with
 |nil=>exact absurd rfl h
 |cons v ws=>rfl
theorem NT (c:UInt8):∀ {ws:List Bs} (w:Bs),ws≠[] → bL c (ws++[w])=bL c ws++c::w
 |[],_,h=>absurd rfl h
 |[v],w,_=>rfl
 |v::u::ws,w,_=>by
  show v++c::bL c (u::ws++[w])=(v++c::bL c (u::ws))++c::w
  rw [NT c w (by simp)];simp
end Go.Abs
namespace Go.Abs
theorem UN (x c:UInt8) (s:Bs):Lib.index (x::s) [c]=if x=c then 0 else if Lib.index s [c] == -1 then -1 else Lib.index s [c]+1:=by
 rw [Lib.index]
 by_cases h:x=c
 ·subst h;simp [List.isPrefixOf]
 ·have:([c]:List UInt8).isPrefixOf (x::s)=false:=by simp [List.isPrefixOf,Ne.symm h]
  rw [this,if_neg h];rfl
theorem P6 (c:UInt8):∀ s:Bs,Lib.splitK [c] 0 (Lib.count s [c]) s=dK c s
 |[]=>by rw [Lib.count_one];rfl
 |x::s=>by
  have ih:=P6 c s
  by_cases h:x=c
  ·subst h
   rw [Lib.count_cons_eq,Nat.add_comm]
   unfold Lib.splitK dK
   rw [UN,if_pos rfl,if_pos rfl,if_neg (by decide)]
   show []::Lib.splitK [x] 0 (Lib.count s [x]) s=_
   rw [ih]
  ·rw [Lib.count_cons_ne x c s h]
   conv=>rhs;unfold dK
   rw [if_neg h]
   cases hk:Lib.count s [c] with
   |zero=>
    rw [hk] at ih
    rw [← ih];rfl
   |succ k=>
    rw [hk] at ih
    unfold Lib.splitK at ih ⊢
    rw [UN,if_neg h]
    by_cases hi:(Lib.index s [c] == -1)=true
    ·rw [if_pos hi] at ih
     rw [if_pos hi,if_pos (by decide),← ih]
    ·rw [if_neg hi] at ih
     have Vg:=Lib.index_ge s [c]
     have jL:Lib.index s [c] ≠ -1:=fun e=>hi (by rw [e];rfl)
     have e2:¬ ((Lib.index s [c]+1 == -1)=true):=fun e=>by have:=beq_iff_eq.1 e;omega
     rw [if_neg hi,if_neg e2,← ih,show (Lib.index s [c]+1).toNat=(Lib.index s [c]).toNat+1 by omega]
     simp only [Nat.add_zero,List.take_succ_cons,List.length_singleton,List.drop_succ_cons]
theorem XL (c:UInt8):∀ ws:List Bs,Lib.join ws [c]=bL c ws
 |[]=>rfl
 |[w]=>by simp [Lib.join,bL,List.intercalate]
 |w::v::ws=>by
  have ih:=XL c (v::ws)
  show _=w++c::bL c (v::ws)
  rw [← ih]
  simp [Lib.join,List.intercalate]
end Go.Abs
