/-
  AbsDraw0: the order that is run, and what may be turned about in it.
-/
import Derived.Test.YtlgnboohmahbaaaGreatDoorAbsRegion
import Derived.OrdersIn
set_option linter.unusedVariables false
set_option linter.unusedSimpArgs false
set_option linter.constructorNameAsVariable false
namespace Go.Abs
open Go
variable {O:Type} {RO:O → Loc → (Nat → Option Obj) → Prop} {P:Program} {G:List (Nat × Sm O)} {n:Nat}
theorem Ly (m i:Nat):bit m i=m.testBit i:=by
 rw [Nat.testBit_eq_decide_div_mod_eq]
 unfold bit
 cases h:Nat.beq ((m / 2 ^ i) % 2) 1 with
 |true=>have:=Nat.eq_of_beq_eq_true h;simp [this]
 |false=>
  have:¬ (m / 2 ^ i) % 2=1:=fun e=>by rw [e] at h;cases h
  simp [this]
def Es (acc:List Nat) (o:Oper):Nat:=o.after.toList.foldl (fun s e=>bif Region.binds .any e then Nat.lor (Nat.lor s (2 ^ e.on)) (acc.getD e.on 0) else s) 0
theorem Lz (acc:List Nat) (j:Nat):∀ (es:List Edge) (s:Nat),bit (es.foldl (fun s e=>bif Region.binds .any e then Nat.lor (Nat.lor s (2 ^ e.on)) (acc.getD e.on 0) else s) s) j=true →
  bit s j=true ∨ ∃ e∈es,Region.binds .any e=true ∧ (e.on=j ∨ bit (acc.getD e.on 0) j=true)
 |[],s,h=>.inl h
 |e::es,s,h=>by
  simp only [List.foldl_cons] at h
  rcases Lz acc j es _ h with h |⟨e',h1,h2⟩
  ·cases hb:Region.binds .any e with
   |false=>rw [hb] at h;exact .inl h
   |true=>
    rw [hb,cond_true,Ly] at h
    have e1:Nat.lor (Nat.lor s (2 ^ e.on)) (acc.getD e.on 0)=(s ||| 2 ^ e.on) ||| acc.getD e.on 0:=rfl
    rw [e1,Nat.testBit_or,Nat.testBit_or,Nat.testBit_two_pow] at h
    simp only [Bool.or_eq_true,decide_eq_true_eq] at h
    rcases h with (h |h) |h
    ·exact .inl (by rw [Ly];exact h)
    ·exact .inr ⟨e,List.mem_cons_self,hb,.inl h⟩
    ·exact .inr ⟨e,List.mem_cons_self,hb,.inr (by rw [Ly];exact h)⟩
  ·exact .inr ⟨e',List.mem_cons_of_mem _ h1,h2⟩
theorem Xg:∀ (ops:List Oper) (acc:List Nat) (k:Nat) (o:Oper),ops[k]? = some o →
  ∃ Yq:List Nat,Yq.length=acc.length+k ∧ (∀ i,i<Yq.length → (ops.foldl (fun acc o=>acc++[Es acc o]) acc)[i]? = Yq[i]?) ∧ (ops.foldl (fun acc o=>acc++[Es acc o]) acc)[acc.length+k]? = some (Es Yq o)
 |[],acc,k,o,h=>by cases h
 |o'::ops,acc,k,o,h=>by
  have pre:∀ (ops:List Oper) (acc:List Nat) (i:Nat),i<acc.length → (ops.foldl (fun acc o=>acc++[Es acc o]) acc)[i]? = acc[i]? := by
   intro ops
   induction ops with
   |nil=>intro acc i _;rfl
   |cons o ops ih=>
    intro acc i hi
    rw [List.foldl_cons,ih _ i (by simp;omega),List.getElem?_append_left hi]
  cases k with
  |zero=>
   cases h
   refine ⟨acc,by simp,fun i hi=>pre _ acc i hi,?_⟩
   rw [List.foldl_cons,Nat.add_zero,pre ops (acc++[Es acc o']) acc.length (by simp)]
   simp
  |succ k=>
   obtain ⟨Yq,h1,h2,h3⟩:=Xg ops (acc++[Es acc o']) k o (by simpa using h)
   refine ⟨Yq,by simp at h1;omega,h2,?_⟩
   rw [List.foldl_cons]
   rw [← h3];congr 1;simp;omega
theorem Pj {ops:List Oper} {i j:Nat} {o:Oper} (ho:ops[i]? = some o) (h:bit ((Gu ops).getD i 0) j=true):
  ∃ e∈o.after,Region.binds .any e=true ∧ (e.on=j ∨ (e.on<i ∧ bit ((Gu ops).getD e.on 0) j=true)):=by
 have hb:Gu ops=ops.foldl (fun acc o=>acc++[Es acc o]) []:=rfl
 obtain ⟨acc,h1,h2,h3⟩:=Xg ops [] i o ho
 rw [← hb] at h2 h3
 simp only [List.length_nil,Nat.zero_add] at h1 h3
 have:(Gu ops).getD i 0=Es acc o:=by simp [List.getD,h3]
 rw [this] at h
 rcases Lz acc j o.after.toList 0 h with h |⟨e,g1,g2,g3⟩
 ·rw [Ly] at h;simp at h
 ·refine ⟨e,by simpa using g1,g2,?_⟩
  rcases g3 with g3 |g3
  ·exact .inl g3
  ·by_cases he:e.on<i
   ·refine .inr ⟨he,?_⟩
    have:=h2 e.on (by omega)
    simpa [List.getD,this] using g3
   ·have:acc[e.on]? = none:=List.getElem?_eq_none (by omega)
    rw [List.getD,this,Ly] at g3
    simp at g3
theorem BA:∀ {ops:List Oper} {bf:List Nat} {k:Nat},yb bf ops k=true → bf.length=k+ops.length
 |[],bf,k,h=>by
  have:=Nat.eq_of_beq_eq_true h
  simpa using this
 |o::ops,bf,k,h=>by
  simp only [yb,Bool.and_eq_true] at h
  have:=BA h.2
  simp only [List.length_cons];omega
theorem LA:∀ {ops:List Oper} {bf:List Nat} {k:Nat},yb bf ops k=true → ops.foldl (fun acc o=>acc++[Es acc o]) (bf.take k)=bf
 |[],bf,k,h=>by
  have:=BA h
  simp at this
  rw [List.foldl_nil,List.take_of_length_le (by omega)]
 |o::ops,bf,k,h=>by
  have hl:=BA h
  simp only [List.length_cons] at hl
  simp only [yb,Bool.and_eq_true] at h
  have h1:=Nat.eq_of_beq_eq_true h.1
  rw [List.foldl_cons]
  have hk:k<bf.length:=by omega
  have e:bf.take k++[Es (bf.take k) o]=bf.take (k+1):=by
   rw [List.take_succ_eq_append_getElem hk]
   congr 2
   have:bf.getD k 0=bf[k]:=by simp [List.getD,hk]
   rw [← this,h1];rfl
  rw [e]
  exact LA h.2
theorem QD {ops:List Oper} {bf:List Nat} (h:yb bf ops 0=true):Gu ops=bf:=LA h
def E' (ops:List Oper) (D:Nat → Prop):Prop:=∀ i o,ops[i]? = some o → D i → ∀ e∈o.after,Region.binds .any e=true → D e.on
theorem E'.kE {ops:List Oper} {D:Nat → Prop} (h:E' ops D) (hD:∀ i,D i → i<ops.length):∀ (i j:Nat),D i → bit ((Gu ops).getD i 0) j=true → D j:=by
 intro i
 induction i using Nat.strongRecOn with
 |_ i ih=>
  intro j hi hb
  have bS:=hD i hi
  have ho:ops[i]? = some ops[i]:=List.getElem?_eq_getElem bS
  obtain ⟨e,h1,h2,h3⟩:=Pj ho hb
  have:=h i _ ho hi e h1 h2
  rcases h3 with h3 |⟨h3,h4⟩
  ·rw [← h3];exact this
  ·exact ih e.on h3 j this h4
theorem Ia {ops:List Oper} {D:Nat → Prop} (h:E' ops D) (hD:∀ i,D i → i<ops.length) {i j:Nat} {o:Oper} (ho:ops[i]? = some o) (hr:∀ e∈o.after,Region.binds .any e=true → D e.on) (hb:bit ((Gu ops).getD i 0) j=true):D j:=by
 obtain ⟨e,h1,h2,h3⟩:=Pj ho hb
 have:=hr e h1 h2
 rcases h3 with h3 |⟨_,h4⟩
 ·rw [← h3];exact this
 ·exact h.kE hD _ _ this h4
theorem LB {ops:List Oper} {kE:List Nat}:∀ {l:List Nat},W9 ops kE l=true → ∀ (p q i i':Nat),p<q → l[p]? = some i → l[q]? = some i' → Qw ops kE i i'=true
 |[],_,p,q,i,i',_,h1,_=>by cases h1
 |x::l,h,p,q,i,i',hpq,h1,h2=>by
  simp only [W9,Bool.and_eq_true] at h
  cases p with
  |zero=>
   cases h1
   cases q with
   |zero=>omega
   |succ q=>exact List.all_eq_true.1 h.1 i' (List.mem_of_getElem? (by simpa using h2))
  |succ p=>
   cases q with
   |zero=>omega
   |succ q=>exact LB h.2 p q i i' (by omega) (by simpa using h1) (by simpa using h2)
structure aao (ops:List Oper) (i i':Nat) (o o':Oper):Prop where
 ne:i≠i'
 nb:bit ((Gu ops).getD i 0) i'=false
 or:bit ((Gu ops).getD i' 0) i=true ∨ (Qv ops o o'=false ∧ (turns o.op=true → turns o'.op=false ∧ de o'.op=false) ∧ (aM o.op=true → turns o.op=false → turns o'.op=false))
theorem SZ {ops:List Oper} {i i':Nat} {o o':Oper} (h:Qw ops (Gu ops) i i'=true) (ho:ops[i]? = some o) (ho':ops[i']? = some o'):aao ops i i' o o':=by
 unfold Qw at h
 rw [ho,ho'] at h
 simp only [Bool.and_eq_true,Bool.not_eq_true',Bool.or_eq_true,Bool.and_eq_false_iff,Bool.or_eq_false_iff,Bool.not_eq_false'] at h
 obtain ⟨⟨h1,h2⟩,h3⟩:=h
 refine ⟨fun e=>by subst e;simp at h1,h2,?_⟩
 rcases h3 with h3 |⟨⟨h4,h5⟩,h6⟩
 ·exact .inl h3
 ·refine .inr ⟨h4,fun ht=>?_,fun ha ht=>?_⟩
  ·rcases h5 with h5 |h5
   ·rw [ht] at h5;cases h5
   ·exact h5
  ·rcases h6 with (h6 |h6) |h6
   ·rw [ha] at h6;cases h6
   ·rw [ht] at h6;cases h6
   ·exact h6
theorem BB {ops:List Oper} {x y:Oper} (h:Qv ops x y=false):(∀ d,x.dst=some d → d∉looks ops y ∧ y.dst≠some d) ∧ (∀ d,y.dst=some d → d∉looks ops x):=by
 unfold Qv at h
 simp only [Bool.or_eq_false_iff] at h
 obtain ⟨h1,h2⟩:=h
 refine ⟨fun d hd=>?_,fun d hd=>?_⟩
 ·rw [hd] at h1
  simp only [Bool.or_eq_false_iff] at h1
  refine ⟨by simpa using h1.1,fun e=>?_⟩
  rw [e] at h1;simp at h1
 ·rw [hd] at h2;simpa using h2
end Go.Abs
