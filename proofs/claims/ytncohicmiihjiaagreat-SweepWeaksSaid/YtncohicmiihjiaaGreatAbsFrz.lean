/-
  AbsFrz: what a function gives back is never written again: it is then its own name (a value without blocks).
-/
import Derived.Test.YtncohicmiihjiaaGreatAbsRun
set_option linter.unusedVariables false
set_option linter.unusedSimpArgs false
set_option linter.constructorNameAsVariable false
namespace Go.Abs
open Go
variable {O:Type} {RO:O->Loc->(Nat->Option Obj)->Prop} {P:Program}
def nB (F:AH O->AV->Option (AV × AH O)):List AV->AH O->Option (List AV × AH O)
 |[],J=>some ([],J)
 |v::vs,J=>(F J v).bind fun r=>(nB F vs r.2).bind fun q=>some (r.1::q.1,q.2)
def mg:Nat->AH O->AV->Option (AV × AH O)
 |0,_,_=>none
 |d+1,J,v=>
  match v with
  |.sl (.loc (.n b) o es) n=>
   match J.aa b with
   |some (.cells true _ cs)=>bif Nat.ble (o+n*es) cs.length then (nB (mg d) ((cs.drop o).take (n*es)) (J.kill b)).bind fun r=>some (.sl (.loc (.f r.1) 0 es) n,r.2) else none
   |_=>none
  |.p (some (.n b,o))=>
   match J.aa b with
   |some (.cells true _ cs)=>(nB (mg d) cs (J.kill b)).bind fun r=>some (.p (some (.f r.1,o)),r.2)
   |_=>none
  |.agg cs=>(nB (mg d) cs J).bind fun r=>some (.agg r.1,r.2)
  |.aB cs=>(nB (mg d) cs J).bind fun r=>some (.aB r.1,r.2)
  |v=>some (v,J)
def vk (s:Sm O):Sm O:=fun xs J=>(s xs J).bind fun r=>mg 8 r.2 r.1
def PQ (RO:O->Loc->(Nat->Option Obj)->Prop) (P:Program) (F:AH O->AV->Option (AV × AH O)):Prop:=
 ∀ J v v' J',F J v=some (v',J')->∀ ρ fp w u (S:Nat->Prop),aK ρ v u->Rel RO P ρ fp J w->∃ aQ fp',aK aQ v' u/\(v.aR=true->v'.aR=true)/\aS RO P S ρ fp J w aQ fp' J' w
theorem jc {F:AH O->AV->Option (AV × AH O)} (hF:PQ RO P F):∀ (vs:List AV) (J:AH O) (lA:List AV) (J':AH O),nB F vs J=some (lA,J')->∀ ρ fp w us (S:Nat->Prop),aL ρ vs us->Rel RO P ρ fp J w->
  ∃ aQ fp',aL aQ lA us/\(vs.all AV.aR=true->lA.all AV.aR=true)/\aS RO P S ρ fp J w aQ fp' J' w
 |[],J,lA,J',h,ρ,fp,w,us,S,hv,hr=>by
  cases h
  exact ⟨ρ,fp,hv,fun h=>h,aS.refl hr⟩
 |v::vs,J,lA,J',h,ρ,fp,w,us,S,hv,hr=>by
  simp only [nB] at h
  obtain ⟨⟨v1,J1⟩,h1,h⟩:=Option.bind_eq_some_iff.1 h
  obtain ⟨⟨vs2,J2⟩,h2,h⟩:=Option.bind_eq_some_iff.1 h
  cases h
  cases hv with
  |cons _ u _ us g1 g2=>
   obtain ⟨LR,wJ,a1,a2,a3⟩:=hF _ _ _ _ h1 ρ fp w u S g1 hr
   obtain ⟨By,D6,b1,b2,b3⟩:=jc hF vs _ _ _ h2 LR wJ w us S (g2.mono a3.le) a3.rel
   exact ⟨By,D6,.cons _ _ _ _ (a1.mono b3.le) b1,fun hh=>by simp only [List.all_cons,Bool.and_eq_true] at hh ⊢;exact ⟨a2 hh.1,b2 hh.2⟩,a3.trans b3⟩
theorem jd:∀ d:Nat,PQ RO P (mg (O:=O) d)
 |0=>fun J v v' J' h=>by cases h
 |d+1=>fun J v v' J' h ρ fp w u S hv hr=>by
  have same:some (v,J)=some (v',J')->∃ aQ fp',aK aQ v' u/\(v.aR=true->v'.aR=true)/\aS RO P S ρ fp J w aQ fp' J' w:=fun e=>by
   cases e;exact ⟨ρ,fp,hv,fun h=>h,aS.refl hr⟩
  unfold mg at h
  split at h
  ·rename_i b o es n
   split at h
   ·rename_i el cs hb
    have hle:=(aG h).1
    obtain ⟨⟨iI,J2⟩,h1,h2⟩:=Option.bind_eq_some_iff.1 (aG h).2
    clear h same
    cases h2
    cases hv with
    |Bz _ _ _ A=>
     obtain ⟨wJ,k1⟩:=aS.kill (S:=S) hr b
     rw [Nat.zero_mul,List.take_zero] at h1
     cases h1
     exact ⟨ρ,wJ,.Bz _ _ _ A,fun _=>rfl,k1⟩
    |sl _ _ _ cap L hL q1 q2 q3=>
     obtain ⟨LR,wJ,k1,us,k2,k3,k4⟩:=aS.freeze (S:=S) hr hb hL.Ac
     obtain ⟨By,D6,m1,m2,m3⟩:=jc (jd d) _ _ _ _ h1 LR wJ w ((us.drop o).take (n*L.es)) S ((k2.drop o).take _) k1.rel
     refine ⟨By,D6,?_,fun _=>rfl,k1.trans m3⟩
     have hs:iZ By (.f iI) ⟨L.B,L.O+o,L.size - o,L.es⟩:=.f iI _ _ m1 (m2 (List.all_eq_true.2 fun x hx=>List.all_eq_true.1 k3 x (List.mem_of_mem_drop (List.mem_of_mem_take hx)))) fun i u hu=>m3.le.f _ _ _ (by
      rw [List.getElem?_take] at hu
      split at hu
      ·rw [List.getElem?_drop] at hu
       have:=k4 _ _ hu
       rw [show L.O+o+i=L.O+(o+i) by omega];exact this
      ·cases hu)
     have:=aK.sl (.f iI) 0 n cap _ hs q1 q2 (by simp only;omega)
     simpa using this
   ·cases h
  ·rename_i b o
   split at h
   ·rename_i el cs hb
    obtain ⟨⟨iI,J2⟩,h1,h2⟩:=Option.bind_eq_some_iff.1 h
    clear h same
    cases h2
    cases hv with
    |p _ _ L hL=>
     obtain ⟨LR,wJ,k1,us,k2,k3,k4⟩:=aS.freeze (S:=S) hr hb hL.Ac
     obtain ⟨By,D6,m1,m2,m3⟩:=jc (jd d) _ _ _ _ h1 LR wJ w us S k2 k1.rel
     exact ⟨By,D6,.p _ _ L (.f iI _ _ m1 (m2 k3) fun i u hu=>m3.le.f _ _ _ (k4 i u hu)),fun _=>rfl,k1.trans m3⟩
   ·cases h
  ·rename_i cs
   obtain ⟨⟨iI,J2⟩,h1,h2⟩:=Option.bind_eq_some_iff.1 h
   clear same
   cases h2
   obtain ⟨vs,rfl,g1,g2⟩:=hv.yn
   obtain ⟨By,D6,m1,m2,m3⟩:=jc (jd d) _ _ _ _ h1 ρ fp w vs S g1 hr
   exact ⟨By,D6,.agg _ _ m1 (m2 g2),fun h=>h,m3⟩
  ·rename_i cs
   obtain ⟨⟨iI,J2⟩,h1,h2⟩:=Option.bind_eq_some_iff.1 h
   clear same
   cases h2
   obtain ⟨vs,rfl,g1⟩:=hv.yo
   obtain ⟨By,D6,m1,m2,m3⟩:=jc (jd d) _ _ _ _ h1 ρ fp w vs S g1 hr
   exact ⟨By,D6,.aB _ _ m1,fun h=>h,m3⟩
  ·exact same h
theorem ai.vk {f:FuncId} {s:Sm O} (h:ai RO P f s):ai RO P f (Abs.vk s):=by
 intro xs J v J' hs ρ fp w args hx hr
 obtain ⟨⟨v1,J1⟩,h1,h2⟩:=Option.bind_eq_some_iff.1 hs
 refine (h xs J v1 J1 h1 ρ fp w args hx hr).mono ?_
 rintro x w' ⟨aQ,fp',u,rfl,hu,hp⟩
 obtain ⟨By,D6,m1,_,m3⟩:=jd 8 _ _ _ _ h2 aQ fp' w' u (· < J.next) hu hp.rel
 exact ⟨By,D6,u,rfl,m1,hp.trans m3⟩
def AV.MM:AV->Bool
 |.sl (.loc (.n _) _ _) _=>false
 |.agg cs=>RI cs
 |.aB cs=>RI cs
 |_=>true
where RI:List AV->Bool
 |[]=>true
 |v::vs=>v.MM && RI vs
end Go.Abs
