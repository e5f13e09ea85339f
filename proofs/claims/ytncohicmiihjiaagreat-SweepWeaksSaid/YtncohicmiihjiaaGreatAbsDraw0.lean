/-
  AbsDraw0: the order that is run, and what may be turned about in it.
-/
import Derived.Test.YtncohicmiihjiaaGreatAbsRegion
import Derived.OrdersIn
set_option linter.unusedVariables false
set_option linter.unusedSimpArgs false
set_option linter.constructorNameAsVariable false
namespace Go.Abs
open Go
variable {O:Type} {RO:O->Loc->(Nat->Option Obj)->Prop} {P:Program} {G:List (Nat × Sm O)} {n:Nat}
theorem tT (m i:Nat):bit m i=m.testBit i:=by
 rw [Nat.testBit_eq_decide_div_mod_eq]
 unfold bit
 cases h:Nat.beq ((m / 2 ^ i) % 2) 1 with
 |true=>have:=Nat.eq_of_beq_eq_true h;simp [this]
 |false=>
  have:¬ (m / 2 ^ i) % 2=1:=fun e=>by rw [e] at h;cases h
  simp [this]
def nO (acc:List Nat) (o:Oper):Nat:=o.after.toList.foldl (fun s e=>bif Region.binds .any e then Nat.lor (Nat.lor s (2 ^ e.on)) (acc.getD e.on 0) else s) 0
theorem tU (acc:List Nat) (j:Nat):∀ (es:List Edge) (s:Nat),bit (es.foldl (fun s e=>bif Region.binds .any e then Nat.lor (Nat.lor s (2 ^ e.on)) (acc.getD e.on 0) else s) s) j=true->
  bit s j=true ∨ ∃ e∈es,Region.binds .any e=true/\(e.on=j ∨ bit (acc.getD e.on 0) j=true)
 |[],s,h=>.inl h
 |e::es,s,h=>by
  simp only [List.foldl_cons] at h
  rcases tU acc j es _ h with h |⟨e',h1,h2⟩
  ·cases hb:Region.binds .any e with
   |false=>rw [hb] at h;exact .inl h
   |true=>
    rw [hb,cond_true,tT] at h
    have e1:Nat.lor (Nat.lor s (2 ^ e.on)) (acc.getD e.on 0)=(s ||| 2 ^ e.on) ||| acc.getD e.on 0:=rfl
    rw [e1,Nat.testBit_or,Nat.testBit_or,Nat.testBit_two_pow] at h
    simp only [Bool.or_eq_true,decide_eq_true_eq] at h
    rcases h with (h |h) |h
    ·exact .inl (by rw [tT];exact h)
    ·exact .inr ⟨e,List.mem_cons_self,hb,.inl h⟩
    ·exact .inr ⟨e,List.mem_cons_self,hb,.inr (by rw [tT];exact h)⟩
  ·exact .inr ⟨e',List.mem_cons_of_mem _ h1,h2⟩
theorem D2:∀ (ops:List Oper) (acc:List Nat) (k:Nat) (o:Oper),ops[k]? = some o->
  ∃ FJ:List Nat,FJ.length=acc.length+k/\(∀ i,i<FJ.length->(ops.foldl (fun acc o=>acc++[nO acc o]) acc)[i]? = FJ[i]?)/\(ops.foldl (fun acc o=>acc++[nO acc o]) acc)[acc.length+k]? = some (nO FJ o)
 |[],acc,k,o,h=>by cases h
 |o'::ops,acc,k,o,h=>by
  have pre:∀ (ops:List Oper) (acc:List Nat) (i:Nat),i<acc.length->(ops.foldl (fun acc o=>acc++[nO acc o]) acc)[i]? = acc[i]? := by
   intro ops
   induction ops with
   |nil=>intro acc i _;rfl
   |cons o ops ih=>
    intro acc i hi
    rw [List.foldl_cons,ih _ i (by simp;omega),List.getElem?_append_left hi]
  cases k with
  |zero=>
   cases h
   refine ⟨acc,by simp,fun i hi=>pre _ acc i hi,?_⟩
   rw [List.foldl_cons,Nat.add_zero,pre ops (acc++[nO acc o']) acc.length (by simp)]
   simp
  |succ k=>
   obtain ⟨FJ,h1,h2,h3⟩:=D2 ops (acc++[nO acc o']) k o (by simpa using h)
   refine ⟨FJ,by simp at h1;omega,h2,?_⟩
   rw [List.foldl_cons]
   rw [<-h3];congr 1;simp;omega
theorem wG {ops:List Oper} {i j:Nat} {o:Oper} (ho:ops[i]? = some o) (h:bit ((pC ops).getD i 0) j=true):
  ∃ e∈o.after,Region.binds .any e=true/\(e.on=j ∨ (e.on<i/\bit ((pC ops).getD e.on 0) j=true)):=by
 have hb:pC ops=ops.foldl (fun acc o=>acc++[nO acc o]) []:=rfl
 obtain ⟨acc,h1,h2,h3⟩:=D2 ops [] i o ho
 rw [<-hb] at h2 h3
 simp only [List.length_nil,Nat.zero_add] at h1 h3
 have:(pC ops).getD i 0=nO acc o:=by simp [List.getD,h3]
 rw [this] at h
 rcases tU acc j o.after.toList 0 h with h |⟨e,g1,g2,g3⟩
 ·rw [tT] at h;simp at h
 ·refine ⟨e,by simpa using g1,g2,?_⟩
  rcases g3 with g3 |g3
  ·exact .inl g3
  ·by_cases he:e.on<i
   ·refine .inr ⟨he,?_⟩
    have:=h2 e.on (by omega)
    simpa [List.getD,this] using g3
   ·have:acc[e.on]? = none:=List.getElem?_eq_none (by omega)
    rw [List.getD,this,tT] at g3
    simp at g3
theorem lV:∀ {ops:List Oper} {bf:List Nat} {k:Nat},kD bf ops k=true->bf.length=k+ops.length
 |[],bf,k,h=>by
  have:=Nat.eq_of_beq_eq_true h
  simpa using this
 |o::ops,bf,k,h=>by
  simp only [kD,Bool.and_eq_true] at h
  have:=lV h.2
  simp only [List.length_cons];omega
theorem tV:∀ {ops:List Oper} {bf:List Nat} {k:Nat},kD bf ops k=true->ops.foldl (fun acc o=>acc++[nO acc o]) (bf.take k)=bf
 |[],bf,k,h=>by
  have:=lV h
  simp at this
  rw [List.foldl_nil,List.take_of_length_le (by omega)]
 |o::ops,bf,k,h=>by
  have hl:=lV h
  simp only [List.length_cons] at hl
  simp only [kD,Bool.and_eq_true] at h
  have h1:=Nat.eq_of_beq_eq_true h.1
  rw [List.foldl_cons]
  have hk:k<bf.length:=by omega
  have e:bf.take k++[nO (bf.take k) o]=bf.take (k+1):=by
   rw [List.take_succ_eq_append_getElem hk]
   congr 2
   have:bf.getD k 0=bf[k]:=by simp [List.getD,hk]
   rw [<-this,h1];rfl
  rw [e]
  exact tV h.2
theorem yc {ops:List Oper} {bf:List Nat} (h:kD bf ops 0=true):pC ops=bf:=tV h
def oq (ops:List Oper) (D:Nat->Prop):Prop:=∀ i o,ops[i]? = some o->D i->∀ e∈o.after,Region.binds .any e=true->D e.on
theorem oq.fI {ops:List Oper} {D:Nat->Prop} (h:oq ops D) (hD:∀ i,D i->i<ops.length):∀ (i j:Nat),D i->bit ((pC ops).getD i 0) j=true->D j:=by
 intro i
 induction i using Nat.strongRecOn with
 |_ i ih=>
  intro j hi hb
  have bp:=hD i hi
  have ho:ops[i]? = some ops[i]:=List.getElem?_eq_getElem bp
  obtain ⟨e,h1,h2,h3⟩:=wG ho hb
  have:=h i _ ho hi e h1 h2
  rcases h3 with h3 |⟨h3,h4⟩
  ·rw [<-h3];exact this
  ·exact ih e.on h3 j this h4
theorem qO {ops:List Oper} {D:Nat->Prop} (h:oq ops D) (hD:∀ i,D i->i<ops.length) {i j:Nat} {o:Oper} (ho:ops[i]? = some o) (hr:∀ e∈o.after,Region.binds .any e=true->D e.on) (hb:bit ((pC ops).getD i 0) j=true):D j:=by
 obtain ⟨e,h1,h2,h3⟩:=wG ho hb
 have:=hr e h1 h2
 rcases h3 with h3 |⟨_,h4⟩
 ·rw [<-h3];exact this
 ·exact h.fI hD _ _ this h4
theorem tW {ops:List Oper} {fI:List Nat}:∀ {l:List Nat},DU ops fI l=true->∀ (p q i i':Nat),p<q->l[p]? = some i->l[q]? = some i'->xX ops fI i i'=true
 |[],_,p,q,i,i',_,h1,_=>by cases h1
 |x::l,h,p,q,i,i',PH,h1,h2=>by
  simp only [DU,Bool.and_eq_true] at h
  cases p with
  |zero=>
   cases h1
   cases q with
   |zero=>omega
   |succ q=>exact List.all_eq_true.1 h.1 i' (List.mem_of_getElem? (by simpa using h2))
  |succ p=>
   cases q with
   |zero=>omega
   |succ q=>exact tW h.2 p q i i' (by omega) (by simpa using h1) (by simpa using h2)
structure H' (ops:List Oper) (i i':Nat) (o o':Oper):Prop where
 ne:i≠i'
 nb:bit ((pC ops).getD i 0) i'=false
 or:bit ((pC ops).getD i' 0) i=true ∨ (xW ops o o'=false/\(turns o.op=true->turns o'.op=false/\cA o'.op=false)/\(aM o.op=true->turns o.op=false->turns o'.op=false))
theorem Aa {ops:List Oper} {i i':Nat} {o o':Oper} (h:xX ops (pC ops) i i'=true) (ho:ops[i]? = some o) (Wg:ops[i']? = some o'):H' ops i i' o o':=by
 unfold xX at h
 rw [ho,Wg] at h
 simp only [Bool.and_eq_true,Bool.not_eq_true',Bool.or_eq_true,Bool.and_eq_false_iff,Bool.or_eq_false_iff,Bool.not_eq_false'] at h
 obtain ⟨⟨h1,h2⟩,h3⟩:=h
 refine ⟨fun e=>by subst e;simp at h1,h2,?_⟩
 rcases h3 with h3 |⟨⟨h4,h5⟩,h6⟩
 ·exact .inl h3
 ·refine .inr ⟨h4,fun ht=>?_,fun ha ht=>?_⟩
  ·rcases h5 with h5 |h5
   ·rw [ht] at h5;cases h5
   ·exact h5
  ·rcases h6 with (h6 |h6) |h6
   ·rw [ha] at h6;cases h6
   ·rw [ht] at h6;cases h6
   ·exact h6
theorem lY {ops:List Oper} {x y:Oper} (h:xW ops x y=false):(∀ d,x.dst=some d->d∉lT ops y/\y.dst≠some d)/\(∀ d,y.dst=some d->d∉lT ops x):=by
 unfold xW at h
 simp only [Bool.or_eq_false_iff] at h
 obtain ⟨h1,h2⟩:=h
 refine ⟨fun d hd=>?_,fun d hd=>?_⟩
 ·rw [hd] at h1
  simp only [Bool.or_eq_false_iff] at h1
  refine ⟨by simpa using h1.1,fun e=>?_⟩
  rw [e] at h1;simp at h1
 ·rw [hd] at h2;simpa using h2
end Go.Abs
