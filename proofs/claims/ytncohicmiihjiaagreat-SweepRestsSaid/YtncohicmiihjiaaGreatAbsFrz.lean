/-
  AbsFrz: what a function gives back is never written again: it is then its own name (a value without blocks).
-/
import Derived.Test.YtncohicmiihjiaaGreatAbsRun
set_option linter.unusedVariables false
set_option linter.unusedSimpArgs false
set_option linter.constructorNameAsVariable false
namespace Go.Abs
open Go
variable {O:Type} {RO:O->Loc->(Nat->Option Obj)->Prop} {P:Program}
def nA (F:AH O->AV->Option (AV × AH O)):List AV->AH O->Option (List AV × AH O)
 |[],J=>some ([],J)
 |v::vs,J=>(F J v).bind fun r=>(nA F vs r.2).bind fun q=>some (r.1::q.1,q.2)
def mg:Nat->AH O->AV->Option (AV × AH O)
 |0,_,_=>none
 |d+1,J,v=>
  match v with
  |.sl (.loc (.n b) o es) n=>
   match J.aa b with
   |some (.cells true _ cs)=>bif Nat.ble (o+n*es) cs.length then (nA (mg d) ((cs.drop o).take (n*es)) (J.kill b)).bind fun r=>some (.sl (.loc (.f r.1) 0 es) n,r.2) else none
   |_=>none
  |.p (some (.n b,o))=>
   match J.aa b with
   |some (.cells true _ cs)=>(nA (mg d) cs (J.kill b)).bind fun r=>some (.p (some (.f r.1,o)),r.2)
   |_=>none
  |.agg cs=>(nA (mg d) cs J).bind fun r=>some (.agg r.1,r.2)
  |.aG cs=>(nA (mg d) cs J).bind fun r=>some (.aG r.1,r.2)
  |v=>some (v,J)
def vB (s:Sm O):Sm O:=fun xs J=>(s xs J).bind fun r=>mg 8 r.2 r.1
def QD (RO:O->Loc->(Nat->Option Obj)->Prop) (P:Program) (F:AH O->AV->Option (AV × AH O)):Prop:=
 ∀ J v v' J',F J v=some (v',J')->∀ ρ fp w u (S:Nat->Prop),aK ρ v u->Rel RO P ρ fp J w->∃ aQ fp',aK aQ v' u/\(v.aU=true->v'.aU=true)/\aR RO P S ρ fp J w aQ fp' J' w
theorem iX {F:AH O->AV->Option (AV × AH O)} (hF:QD RO P F):∀ (vs:List AV) (J:AH O) (lj:List AV) (J':AH O),nA F vs J=some (lj,J')->∀ ρ fp w us (S:Nat->Prop),aL ρ vs us->Rel RO P ρ fp J w->
  ∃ aQ fp',aL aQ lj us/\(vs.all AV.aU=true->lj.all AV.aU=true)/\aR RO P S ρ fp J w aQ fp' J' w
 |[],J,lj,J',h,ρ,fp,w,us,S,hv,hr=>by
  cases h
  exact ⟨ρ,fp,hv,fun h=>h,aR.refl hr⟩
 |v::vs,J,lj,J',h,ρ,fp,w,us,S,hv,hr=>by
  simp only [nA] at h
  obtain ⟨⟨v1,J1⟩,h1,h⟩:=Option.bind_eq_some_iff.1 h
  obtain ⟨⟨vs2,J2⟩,h2,h⟩:=Option.bind_eq_some_iff.1 h
  cases h
  cases hv with
  |cons _ u _ us g1 g2=>
   obtain ⟨QA,vL,a1,a2,a3⟩:=hF _ _ _ _ h1 ρ fp w u S g1 hr
   obtain ⟨BR,BS,b1,b2,b3⟩:=iX hF vs _ _ _ h2 QA vL w us S (g2.mono a3.le) a3.rel
   exact ⟨BR,BS,.cons _ _ _ _ (a1.mono b3.le) b1,fun hh=>by simp only [List.all_cons,Bool.and_eq_true] at hh ⊢;exact ⟨a2 hh.1,b2 hh.2⟩,a3.trans b3⟩
theorem iY:∀ d:Nat,QD RO P (mg (O:=O) d)
 |0=>fun J v v' J' h=>by cases h
 |d+1=>fun J v v' J' h ρ fp w u S hv hr=>by
  have same:some (v,J)=some (v',J')->∃ aQ fp',aK aQ v' u/\(v.aU=true->v'.aU=true)/\aR RO P S ρ fp J w aQ fp' J' w:=fun e=>by
   cases e;exact ⟨ρ,fp,hv,fun h=>h,aR.refl hr⟩
  unfold mg at h
  split at h
  ·rename_i b o es n
   split at h
   ·rename_i el cs hb
    have hle:=(aF h).1
    obtain ⟨⟨iG,J2⟩,h1,h2⟩:=Option.bind_eq_some_iff.1 (aF h).2
    clear h same
    cases h2
    cases hv with
    |BT _ _ _ A=>
     obtain ⟨vL,k1⟩:=aR.kill (S:=S) hr b
     rw [Nat.zero_mul,List.take_zero] at h1
     cases h1
     exact ⟨ρ,vL,.BT _ _ _ A,fun _=>rfl,k1⟩
    |sl _ _ _ cap L hL q1 q2 q3=>
     obtain ⟨QA,vL,k1,us,k2,k3,k4⟩:=aR.freeze (S:=S) hr hb hL.nN
     obtain ⟨BR,BS,m1,m2,m3⟩:=iX (iY d) _ _ _ _ h1 QA vL w ((us.drop o).take (n*L.es)) S ((k2.drop o).take _) k1.rel
     refine ⟨BR,BS,?_,fun _=>rfl,k1.trans m3⟩
     have hs:iT BR (.f iG) ⟨L.B,L.O+o,L.size - o,L.es⟩:=.f iG _ _ m1 (m2 (List.all_eq_true.2 fun x hx=>List.all_eq_true.1 k3 x (List.mem_of_mem_drop (List.mem_of_mem_take hx)))) fun i u hu=>m3.le.f _ _ _ (by
      rw [List.getElem?_take] at hu
      split at hu
      ·rw [List.getElem?_drop] at hu
       have:=k4 _ _ hu
       rw [show L.O+o+i=L.O+(o+i) by omega];exact this
      ·cases hu)
     have:=aK.sl (.f iG) 0 n cap _ hs q1 q2 (by simp only;omega)
     simpa using this
   ·cases h
  ·rename_i b o
   split at h
   ·rename_i el cs hb
    obtain ⟨⟨iG,J2⟩,h1,h2⟩:=Option.bind_eq_some_iff.1 h
    clear h same
    cases h2
    cases hv with
    |p _ _ L hL=>
     obtain ⟨QA,vL,k1,us,k2,k3,k4⟩:=aR.freeze (S:=S) hr hb hL.nN
     obtain ⟨BR,BS,m1,m2,m3⟩:=iX (iY d) _ _ _ _ h1 QA vL w us S k2 k1.rel
     exact ⟨BR,BS,.p _ _ L (.f iG _ _ m1 (m2 k3) fun i u hu=>m3.le.f _ _ _ (k4 i u hu)),fun _=>rfl,k1.trans m3⟩
   ·cases h
  ·rename_i cs
   obtain ⟨⟨iG,J2⟩,h1,h2⟩:=Option.bind_eq_some_iff.1 h
   clear same
   cases h2
   obtain ⟨vs,rfl,g1,g2⟩:=hv.ym
   obtain ⟨BR,BS,m1,m2,m3⟩:=iX (iY d) _ _ _ _ h1 ρ fp w vs S g1 hr
   exact ⟨BR,BS,.agg _ _ m1 (m2 g2),fun h=>h,m3⟩
  ·rename_i cs
   obtain ⟨⟨iG,J2⟩,h1,h2⟩:=Option.bind_eq_some_iff.1 h
   clear same
   cases h2
   obtain ⟨vs,rfl,g1⟩:=hv.yn
   obtain ⟨BR,BS,m1,m2,m3⟩:=iX (iY d) _ _ _ _ h1 ρ fp w vs S g1 hr
   exact ⟨BR,BS,.aG _ _ m1,fun h=>h,m3⟩
  ·exact same h
theorem ah.vB {f:FuncId} {s:Sm O} (h:ah RO P f s):ah RO P f (Abs.vB s):=by
 intro xs J v J' hs ρ fp w args hx hr
 obtain ⟨⟨v1,J1⟩,h1,h2⟩:=Option.bind_eq_some_iff.1 hs
 refine (h xs J v1 J1 h1 ρ fp w args hx hr).mono ?_
 rintro x w' ⟨aQ,fp',u,rfl,hu,hp⟩
 obtain ⟨BR,BS,m1,_,m3⟩:=iY 8 _ _ _ _ h2 aQ fp' w' u (· < J.next) hu hp.rel
 exact ⟨BR,BS,u,rfl,m1,hp.trans m3⟩
def AV.Ns:AV->Bool
 |.sl (.loc (.n _) _ _) _=>false
 |.agg cs=>Sz cs
 |.aG cs=>Sz cs
 |_=>true
where Sz:List AV->Bool
 |[]=>true
 |v::vs=>v.Ns && Sz vs
end Go.Abs
