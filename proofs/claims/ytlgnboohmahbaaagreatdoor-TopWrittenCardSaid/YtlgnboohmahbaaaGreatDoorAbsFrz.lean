/-
  AbsFrz: what a function gives back is never written again: it is then its own name (a value without blocks).
-/
import Derived.Test.YtlgnboohmahbaaaGreatDoorAbsRun
set_option linter.unusedVariables false
set_option linter.unusedSimpArgs false
set_option linter.constructorNameAsVariable false
namespace Go.Abs
open Go
variable {O:Type} {RO:O → Loc → (Nat → Option Obj) → Prop} {P:Program}
def DG (F:AH O → AV → Option (AV × AH O)):List AV → AH O → Option (List AV × AH O)
 |[],σ=>some ([],σ)
 |v::vs,σ=>(F σ v).bind fun r=>(DG F vs r.2).bind fun q=>some (r.1::q.1,q.2)
def BF:Nat → AH O → AV → Option (AV × AH O)
 |0,_,_=>none
 |d+1,σ,v=>
  match v with
  |.sl (.loc (.n b) o es) n=>
   match σ.ai b with
   |some (.cells true _ cs)=>bif Nat.ble (o+n*es) cs.length then (DG (BF d) ((cs.drop o).take (n*es)) (σ.kill b)).bind fun r=>some (.sl (.loc (.f r.1) 0 es) n,r.2) else none
   |_=>none
  |.p (some (.n b,o))=>
   match σ.ai b with
   |some (.cells true _ cs)=>(DG (BF d) cs (σ.kill b)).bind fun r=>some (.p (some (.f r.1,o)),r.2)
   |_=>none
  |.agg cs=>(DG (BF d) cs σ).bind fun r=>some (.agg r.1,r.2)
  |.aS cs=>(DG (BF d) cs σ).bind fun r=>some (.aS r.1,r.2)
  |v=>some (v,σ)
def yh (s:Sm O):Sm O:=fun xs σ=>(s xs σ).bind fun r=>BF 8 r.2 r.1
def agU (RO:O → Loc → (Nat → Option Obj) → Prop) (P:Program) (F:AH O → AV → Option (AV × AH O)):Prop:=
 ∀ σ v v' aj,F σ v=some (v',aj) → ∀ ρ fp w u (S:Nat → Prop),aI ρ v u → Rel RO P ρ fp σ w → ∃ aR fp',aI aR v' u ∧ (v.aZ=true → v'.aZ=true) ∧ aO RO P S ρ fp σ w aR fp' aj w
theorem rN {F:AH O → AV → Option (AV × AH O)} (hF:agU RO P F):∀ (vs:List AV) (σ:AH O) (Bq:List AV) (aj:AH O),DG F vs σ=some (Bq,aj) → ∀ ρ fp w us (S:Nat → Prop),aL ρ vs us → Rel RO P ρ fp σ w →
  ∃ aR fp',aL aR Bq us ∧ (vs.all AV.aZ=true → Bq.all AV.aZ=true) ∧ aO RO P S ρ fp σ w aR fp' aj w
 |[],σ,Bq,aj,h,ρ,fp,w,us,S,hv,hr=>by
  cases h
  exact ⟨ρ,fp,hv,fun h=>h,aO.refl hr⟩
 |v::vs,σ,Bq,aj,h,ρ,fp,w,us,S,hv,hr=>by
  simp only [DG] at h
  obtain ⟨⟨v1,aJ⟩,h1,h⟩:=Option.bind_eq_some_iff.1 h
  obtain ⟨⟨vs2,aP⟩,h2,h⟩:=Option.bind_eq_some_iff.1 h
  cases h
  cases hv with
  |cons _ u _ us g1 g2=>
   obtain ⟨ρ1,Oa,a1,a2,a3⟩:=hF _ _ _ _ h1 ρ fp w u S g1 hr
   obtain ⟨Vi,SC,b1,b2,b3⟩:=rN hF vs _ _ _ h2 ρ1 Oa w us S (g2.mono a3.le) a3.rel
   exact ⟨Vi,SC,.cons _ _ _ _ (a1.mono b3.le) b1,fun hh=>by simp only [List.all_cons,Bool.and_eq_true] at hh ⊢;exact ⟨a2 hh.1,b2 hh.2⟩,a3.trans b3⟩
theorem rO:∀ d:Nat,agU RO P (BF (O:=O) d)
 |0=>fun σ v v' aj h=>by cases h
 |d+1=>fun σ v v' aj h ρ fp w u S hv hr=>by
  have same:some (v,σ)=some (v',aj) → ∃ aR fp',aI aR v' u ∧ (v.aZ=true → v'.aZ=true) ∧ aO RO P S ρ fp σ w aR fp' aj w:=fun e=>by
   cases e;exact ⟨ρ,fp,hv,fun h=>h,aO.refl hr⟩
  unfold BF at h
  split at h
  ·rename_i b o es n
   split at h
   ·rename_i el cs hb
    have hle:=(aD h).1
    obtain ⟨⟨qm,aP⟩,h1,h2⟩:=Option.bind_eq_some_iff.1 (aD h).2
    clear h same
    cases h2
    cases hv with
    |QK _ _ _ A=>
     obtain ⟨Oa,k1⟩:=aO.kill (S:=S) hr b
     rw [Nat.zero_mul,List.take_zero] at h1
     cases h1
     exact ⟨ρ,Oa,.QK _ _ _ A,fun _=>rfl,k1⟩
    |sl _ _ _ cap L hL q1 q2 q3=>
     obtain ⟨ρ1,Oa,k1,us,k2,k3,k4⟩:=aO.freeze (S:=S) hr hb hL.tQ
     obtain ⟨Vi,SC,m1,m2,m3⟩:=rN (rO d) _ _ _ _ h1 ρ1 Oa w ((us.drop o).take (n*L.es)) S ((k2.drop o).take _) k1.rel
     refine ⟨Vi,SC,?_,fun _=>rfl,k1.trans m3⟩
     have hs:pL Vi (.f qm) ⟨L.B,L.O+o,L.size - o,L.es⟩:=.f qm _ _ m1 (m2 (List.all_eq_true.2 fun x hx=>List.all_eq_true.1 k3 x (List.mem_of_mem_drop (List.mem_of_mem_take hx)))) fun i u hu=>m3.le.f _ _ _ (by
      rw [List.getElem?_take] at hu
      split at hu
      ·rw [List.getElem?_drop] at hu
       have:=k4 _ _ hu
       rw [show L.O+o+i=L.O+(o+i) by omega];exact this
      ·cases hu)
     have:=aI.sl (.f qm) 0 n cap _ hs q1 q2 (by simp only;omega)
     simpa using this
   ·cases h
  ·rename_i b o
   split at h
   ·rename_i el cs hb
    obtain ⟨⟨qm,aP⟩,h1,h2⟩:=Option.bind_eq_some_iff.1 h
    clear h same
    cases h2
    cases hv with
    |p _ _ L hL=>
     obtain ⟨ρ1,Oa,k1,us,k2,k3,k4⟩:=aO.freeze (S:=S) hr hb hL.tQ
     obtain ⟨Vi,SC,m1,m2,m3⟩:=rN (rO d) _ _ _ _ h1 ρ1 Oa w us S k2 k1.rel
     exact ⟨Vi,SC,.p _ _ L (.f qm _ _ m1 (m2 k3) fun i u hu=>m3.le.f _ _ _ (k4 i u hu)),fun _=>rfl,k1.trans m3⟩
   ·cases h
  ·rename_i cs
   obtain ⟨⟨qm,aP⟩,h1,h2⟩:=Option.bind_eq_some_iff.1 h
   clear same
   cases h2
   obtain ⟨vs,rfl,g1,g2⟩:=hv.QL
   obtain ⟨Vi,SC,m1,m2,m3⟩:=rN (rO d) _ _ _ _ h1 ρ fp w vs S g1 hr
   exact ⟨Vi,SC,.agg _ _ m1 (m2 g2),fun h=>h,m3⟩
  ·rename_i cs
   obtain ⟨⟨qm,aP⟩,h1,h2⟩:=Option.bind_eq_some_iff.1 h
   clear same
   cases h2
   obtain ⟨vs,rfl,g1⟩:=hv.QM
   obtain ⟨Vi,SC,m1,m2,m3⟩:=rN (rO d) _ _ _ _ h1 ρ fp w vs S g1 hr
   exact ⟨Vi,SC,.aS _ _ m1,fun h=>h,m3⟩
  ·exact same h
theorem ae.yh {f:FuncId} {s:Sm O} (h:ae RO P f s):ae RO P f (Abs.yh s):=by
 intro xs σ v aj hs ρ fp w args hx hr
 obtain ⟨⟨v1,aJ⟩,h1,h2⟩:=Option.bind_eq_some_iff.1 hs
 refine (h xs σ v1 aJ h1 ρ fp w args hx hr).mono ?_
 rintro x w' ⟨aR,fp',u,rfl,hu,hp⟩
 obtain ⟨Vi,SC,m1,_,m3⟩:=rO 8 _ _ _ _ h2 aR fp' w' u (· < σ.next) hu hp.rel
 exact ⟨Vi,SC,u,rfl,m1,hp.trans m3⟩
def AV.flt:AV → Bool
 |.sl (.loc (.n _) _ _) _=>false
 |.agg cs=>ah0 cs
 |.aS cs=>ah0 cs
 |_=>true
where ah0:List AV → Bool
 |[]=>true
 |v::vs=>v.flt && ah0 vs
end Go.Abs
