/-
  AbsExec0: what it is that a function's text does what 'exec' says.
-/
import Derived.Test.YtlgnboohmahbaaaGreatDoorAbsDraw
import Derived.Scope
import Derived.LoopNIn
import Derived.RangeFuncLeaves
set_option linter.unusedVariables false
set_option linter.unusedSimpArgs false
set_option linter.constructorNameAsVariable false
namespace Go.Abs
open Go
variable {O:Type} {RO:O → Loc → (Nat → Option Obj) → Prop} {P:Program} {G:List (Nat × Sm O)} {n:Nat}
def X.out:X → Exit
 |.norm=>.normal
 |.exit id=>.exit id
 |.ret=>.ret
structure Marks (B0:Nat) (fp:Fp) (w:World) (ds:List Deferred):Prop where
 sz:B0 ≤ w.heap.size
 nd:(ds.map (·.target)).Nodup
 it:∀ d∈ds,∃ r,d.target=.collected r ∧ B0 ≤ r ∧ w.heap[r]? = some (.deferred (some [])) ∧ ∀ b,fp b r=none
theorem Marks.post {B0:Nat} {S:Nat → Prop} {ρ aR:cl} {fp fp':Fp} {σ aj:AH O} {w w':World} {ds:List Deferred} (h:Marks B0 fp w ds) (p:aO RO P S ρ fp σ w aR fp' aj w'):Marks B0 fp' w' ds:=
 ⟨Nat.le_trans h.sz p.fr.size,h.nd,fun d hd=>by
  obtain ⟨r,h1,h2,h3,h4⟩:=h.it d hd
  have bS:=(Array.getElem?_eq_some_iff.1 h3).1
  refine ⟨r,h1,h2,(p.fr.Kk r bS h4).trans h3,fun b=>?_⟩
  cases hb:fp' b r with
  |none=>rfl
  |some o=>obtain ⟨c,hc⟩:=p.grow b r bS (by rw [hb];simp);exact absurd (h4 c) hc⟩
def BE (RO:O → Loc → (Nat → Option Obj) → Prop) (P:Program) (n:Nat) (ro:Option Nat) (c:Code) (σ:AH O) (e:Env) (x:X) (e':Env) (aj:AH O):Prop:=
 ∀ (ρ:cl) (fp:Fp) (a:Act) (w:World),aH n ρ e a → Rel RO P ρ fp σ w →
  ∀ Q:Exit → Act → World → Prop,(∀ a' w' aR fp',aH n aR e' a' → (∀ B0,Marks B0 fp w a.defers → Marks B0 fp' w' a'.defers) → (∀ t,t∉aF c → a'.tmps.getD t undef=a.tmps.getD t undef) →
   aO RO P (· < σ.next) ρ fp σ w aR fp' aj w' → Q x.out a' w') → c.wpIn (Fw ro) 0 P Q a w
def rK (n:Nat) (c:Code):Bool:=(aF c).all fun t=>Nat.blt t n
theorem tO {c:Code} (h:rK n c=true):∀ t∈aF c,t<n:=fun t ht=>by
 have:=List.all_eq_true.1 h t ht
 exact Nat.le_of_ble_eq_true this
theorem LC {an:Di} {ws:List Nat} {e:Env} {here:X → Bool} {body:{R:Type} → (X → Env → AH O → Option R) → Option R} {D:X → Env → AH O → Prop}
  (Po:∀ {R:Type} (K:X → Env → AH O → Option R) (r:R),body K=some r → ∃ x e' aj,K x e' aj=some r ∧ D x e' aj) {R:Type} {K:X → Env → AH O → Option R} {r:R} (h:Xa an ws e here body K=some r):
  ∃ x e1 aJ,D x e1 aJ ∧ ((here x=true ∧ ∃ e2,K .norm e2 aJ=some r ∧ ∀ t,e2 t=e1 t ∨ e2 t=.u ∨ (t∉ws ∧ e2 t=e t)) ∨ (here x=false ∧ K x e1 aJ=some r)):=by
 unfold Xa at h
 split at h
 ·rename_i cf _ _
  obtain ⟨r0,h0,h⟩:=Option.bind_eq_some_iff.1 h
  obtain ⟨x,e1,aJ,h1,h2⟩:=Po _ _ h0
  cases hx:here x with
  |false=>rw [hx] at h1;cases h1
  |true=>
   rw [hx] at h1
   simp only [cond_true,Option.some.injEq] at h1
   subst h1
   obtain ⟨e',k1,k2⟩:=wx h
   exact ⟨x,e1,aJ,h2,.inl ⟨hx,e',k1,k2⟩⟩
 ·rename_i cf _ _
  unfold bK at h
  split at h
  ·rename_i r0 h0
   obtain ⟨x,e1,aJ,h1,h2⟩:=Po _ _ h0
   cases hx:here x with
   |false=>
    rw [hx] at h1
    simp only [cond_false,Option.map_eq_some_iff] at h1
    obtain ⟨_,_,h1⟩:=h1;cases h1
   |true=>
    rw [hx] at h1
    simp only [cond_true,Option.some.injEq,Sum.inl.injEq] at h1
    subst h1
    obtain ⟨e',k1,k2⟩:=wx h
    exact ⟨x,e1,aJ,h2,.inl ⟨hx,e',k1,k2⟩⟩
  ·rename_i r0 h0
   obtain ⟨x,e1,aJ,h1,h2⟩:=Po _ _ h0
   simp only [Option.some.injEq] at h
   subst h
   cases hx:here x with
   |true=>rw [hx] at h1;simp at h1
   |false=>
    rw [hx] at h1
    simp only [cond_false,Option.map_eq_some_iff,Sum.inr.injEq] at h1
    obtain ⟨r1,h1,rfl⟩:=h1
    exact ⟨x,e1,aJ,h2,.inr ⟨hx,h1⟩⟩
  ·cases h
 ·obtain ⟨x,e1,aJ,h1,h2⟩:=Po _ _ h
  cases hx:here x with
  |true=>rw [hx] at h1;exact ⟨x,e1,aJ,h2,.inl ⟨hx,e1,h1,fun t=>.inl rfl⟩⟩
  |false=>rw [hx] at h1;exact ⟨x,e1,aJ,h2,.inr ⟨hx,h1⟩⟩
theorem aH.join {ρ aR:cl} {e e1 e2:Env} {ws:List Nat} {a a':Act} (he:aH n ρ e a) (hle:ρ.le aR) (h1:aH n aR e1 a') (hk:∀ t,t∉ws → a'.tmps.getD t undef=a.tmps.getD t undef)
  (h:∀ t,e2 t=e1 t ∨ e2 t=.u ∨ (t∉ws ∧ e2 t=e t)):aH n aR e2 a':=
 ⟨h1.size,fun t=>by
  rcases h t with q |q |⟨q1,q⟩
  ·rw [q];exact h1.get t
  ·rw [q];exact .u _
  ·rw [q,hk t q1];exact (he.get t).mono hle⟩
theorem ye {S T:Type} {f:S → Option (S ⊕ T)} {s:S} {t:T} (h:aQ f s=some t):∃ n,iF f n s=some t:=by
 unfold aQ at h
 split at h
 ·rename_i t' h'
  cases h
  exact ⟨_,h'⟩
 ·split at h
  ·rename_i hh
   cases h
   exact ⟨_,Classical.choose_spec (Classical.choose_spec hh)⟩
  ·cases h
theorem LD {S R:Type} {m:Option (S ⊕ R)} {f:S → Option R} {r:R} (h:bK m f=some r):(∃ s,m=some (.inl s) ∧ f s=some r) ∨ m=some (.inr r):=by
 unfold bK at h
 split at h
 ·exact .inl ⟨_,rfl,h⟩
 ·cases h;exact .inr rfl
 ·cases h
theorem DF {ro:Option Nat} {Q:Exit → Act → World → Prop} {a:Act} {w:World} {c:Code} (h:c.wpIn (Fw ro) 0 P (Exit.noGoto Q) a w):(Code.scope c).wpIn (Fw ro) 0 P Q a w:=by
 intro b k cs hro hb hr
 have h0:(lone (b.atR a (.code (.scope c)::k)) cs w).fenced P (Fw ro):=fenced_calm hb hr rfl
 have s1:step P (lone (b.atR a (.code (.scope c)::k)) cs w)=.next (lone (b.atR a (.code c::.inScope c::k)) cs w):=step_lone_go (by simp [stepG,stepG.exec,Frame.atR])
 have s2:∀ a w,step P (lone (b.atR a (.inScope c::k)) cs w)=.next (lone (b.atR a k) cs w):=fun a w=>step_lone_go (by simp [stepG,stepG.exec,Frame.atR])
 obtain ⟨e,aav,aaw,hq,Yu⟩:=h b (.inScope c::k) cs hro hb hr
 cases e with
 |normal=>exact ⟨.normal,aav,aaw,hq,.head h0 s1 (StepsIn.trans Yu (.one (fenced_calm hb hr rfl) (s2 _ _)))⟩
 |exit id=>
  have hx:exitTo id (.inScope c::k)=exitTo id k:=by simp [exitTo]
  exact ⟨_,aav,aaw,hq,fun k' hk=>.head h0 s1 (Yu.1 k' (by rw [hx];exact hk)),fun hr' hk=>let ⟨k₁,h1,h2⟩:=Yu.2 hr' (by rw [hx];exact hk);⟨k₁,h1,.head h0 s1 h2⟩⟩
 |goto l=>exact hq.elim
 |ret=>exact ⟨_,aav,aaw,hq,.of_steps (.one h0 s1) Yu⟩
 |panic ch=>exact ⟨_,aav,aaw,hq,.of_steps (.one h0 s1) Yu⟩
 |outgrown=>exact ⟨_,aav,aaw,hq,.of_steps (.one h0 s1) Yu⟩
theorem LG {R:Type} {K:X → Option R} {s:Nat} {r:R}:∀ {cs:List Nat},Xb cs s K=some r → 3 ≤ s ∧ K (xOf s)=some r
 |[],h=>by cases h
 |c::cs,h=>by
  unfold Xb at h
  cases hb:Nat.ble 3 c && Nat.beq s c with
  |true=>
   rw [hb] at h
   simp only [Bool.and_eq_true] at hb
   have:=Nat.eq_of_beq_eq_true hb.2
   subst this
   exact ⟨Nat.le_of_ble_eq_true hb.1,h⟩
  |false=>rw [hb] at h;exact LG h
end Go.Abs
