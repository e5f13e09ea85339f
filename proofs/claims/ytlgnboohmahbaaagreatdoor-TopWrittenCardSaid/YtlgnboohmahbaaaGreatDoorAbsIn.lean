/-
  AbsIn: what comes in, decoded.
-/
import Derived.Test.YtlgnboohmahbaaaGreatDoorAbsArgs
import Derived.Test.YtlgnboohmahbaaaGreatDoorAbsSl
set_option linter.unusedVariables false
set_option linter.unusedSimpArgs false
set_option linter.constructorNameAsVariable false
namespace Go.Abs
open Go
variable {P:Program}
theorem in1 {t:TypeId} {xs:List AV} (h:ArgsAre P [t] xs):∃ x,xs=[x] ∧ Gq P t x:=by
 match xs,h with
 |[x],h=>exact ⟨x,rfl,h.1⟩
theorem YH {d:Nat} {t:TypeId} {k:IntKind} {cs:List AV} (hu:P.underlying t=some (.int k)) (h:Gp P d t cs):∃ n,cs=[.i k n] ∧ k.min ≤ n ∧ n ≤ k.max:=by
 cases d with
 |zero=>exact h.elim
 |succ d=>unfold Gp at h;rw [hu] at h;exact h
theorem apC {d:Nat} {t:TypeId} {cs:List AV} (hu:P.underlying t=some .bool) (h:Gp P d t cs):∃ x,cs=[.b x]:=by
 cases d with
 |zero=>exact h.elim
 |succ d=>unfold Gp at h;rw [hu] at h;exact h
theorem Pq {es:Nat}:∀ {els:List (List AV)},(∀ el∈els,el.length=es) → els.flatten.length=els.length*es
 |[],_=>by simp
 |e::els,h=>by
  have:=Pq (es:=es) (els:=els) fun x hx=>h x (List.mem_cons_of_mem _ hx)
  have:=h e List.mem_cons_self
  simp only [List.flatten_cons,List.length_append,List.length_cons,Nat.succ_mul];omega
theorem agX {d:Nat} {t e:TypeId} {cs:List AV} (hu:P.underlying t=some (.slice e)) (h:Gp P (d+1) t cs) (hl:∀ el,Gp P d e el → el.length=P.cellsOf e):
  ∃ (sa:SA) (els:List (List AV)),cs=[.sl sa els.length] ∧ els.length ≤ maxLen ∧ nh (P.cellsOf e) sa els.length els.flatten ∧ ∀ el∈els,Gp P d e el:=by
 unfold Gp at h;rw [hu] at h
 obtain ⟨els,sa,h1,h2,h3,h4⟩:=h
 refine ⟨sa,els,h1,h2,?_,h3⟩
 rcases h4 with ⟨rfl,rfl⟩ |⟨rfl,rfl⟩ |rfl
 ·exact nh.nil _
 ·exact nh.z _
 ·exact nh.f (Pq fun el Eo=>hl el (h3 el Eo))
theorem Xn {d:Nat} {t e:TypeId} {k:IntKind} {cs:List AV} (hu:P.underlying t=some (.slice e)) (he:P.underlying e=some (.int k)) (hc:P.cellsOf e=1) (h:Gp P (d+1) t cs):
  ∃ (sa:SA) (zs:List Int),cs=[.sl sa zs.length] ∧ zs.length ≤ maxLen ∧ nh 1 sa zs.length (zs.map (AV.i k)) ∧ ∀ z∈zs,k.min ≤ z ∧ z ≤ k.max:=by
 obtain ⟨sa,els,e1,e2,e3,e4⟩:=agX hu h fun el Eo=>by obtain ⟨n,rfl,_⟩:=YH he Eo;rw [hc];rfl
 have:∃ zs:List Int,els=zs.map (fun z=>[AV.i k z]) ∧ ∀ z∈zs,k.min ≤ z ∧ z ≤ k.max:=by
  clear e1 e2 e3
  induction els with
  |nil=>exact ⟨[],rfl,by simp⟩
  |cons el els ih=>
   obtain ⟨n,rfl,hn⟩:=YH he (e4 el List.mem_cons_self)
   obtain ⟨zs,g1,g2⟩:=ih fun x hx=>e4 x (List.mem_cons_of_mem _ hx)
   exact ⟨n::zs,by rw [g1];rfl,fun x hx=>by
    rcases List.mem_cons.1 hx with rfl |hx
    ·exact hn
    ·exact g2 x hx⟩
 obtain ⟨zs,rfl,hz⟩:=this
 refine ⟨sa,zs,by simpa using e1,by simpa using e2,?_,hz⟩
 rw [hc] at e3
 have hf:(zs.map fun z=>[AV.i k z]).flatten=zs.map (AV.i k):=by
  clear e1 e2 e3 hz e4
  induction zs with
  |nil=>rfl
  |cons z zs ih=>simp only [List.map_cons,List.flatten_cons,ih];rfl
 rw [hf] at e3
 simpa using e3
theorem ak2 {t:TypeId} {fs:Array Field} {x:AV} (hu:P.underlying t=some (.struct fs)) (h:Gq P t x):∃ cs,x=.agg cs ∧ Gp P 12 t cs:=by
 unfold Gq at h;rw [hu] at h;exact h
end Go.Abs
