/-
  AbsRegion: a region whose order is the text's.
-/
import Derived.Test.YtlgnboohmahbaaaGreatAbsTrace
set_option linter.unusedVariables false
set_option linter.unusedSimpArgs false
set_option linter.constructorNameAsVariable false
namespace Go.Abs
open Go
variable {O : Type} {RO : O → Loc → (Nat → Option Obj) → Prop} {P : Program} {G : List (Nat × Sm O)} {bef : List Nat} {ops : List Oper} {n : Nat}
theorem opV_sound (hG : GSound RO P G) {ρ : Inj} {fp : Fp} {σ σ' : AH O} {w : World} {e : Env} {a : Act} {op : Op} {ty : TypeId} {nid : Nat} {v : AV} (h : opK P G op ty e σ nid two = some (v, σ')) (he : EnvRel n ρ e a) (hrel : Rel RO P ρ fp σ w)
  (hn : allocs op = true → nid < σ.next ∧ ρ nid = none) : OpOK RO P op ty a nid ρ fp σ w v σ' := by
 obtain ⟨v1, σ1, h1, h2⟩ := op_sound hG h he hrel hn
 simp only [two, Option.some.injEq, Prod.mk.injEq] at h1
 obtain ⟨rfl, rfl⟩ := h1
 exact h2
theorem wanted_of {ρ : Inj} {e : Env} {a : Act} {o : Oper} {b : Bool} (hdst : ∀ (i : Nat) (o : Oper) (d : Nat), ops[i]? = some o → o.dst = some d → d < n) (hsz : a.tmps.size = n)
  (he : ∀ j want, o.guard = some (j, want) → ∀ oj, ops[j]? = some oj → ∀ d, oj.dst = some d → VRel ρ (e d) (a.tmps.getD d undef)) (h : wants ops e o = some b) : Region.wanted o (yielded ops.toArray a.tmps) = b := by
 unfold wants at h
 unfold Region.wanted
 split at h
 ·rename_i hg; rw [hg]; simpa using h
 ·rename_i j want hg
  rw [hg]
  simp only
  split at h
  ·cases h
  ·rename_i oj hoj
   split at h
   ·cases h
   ·rename_i d hd
    split at h
    ·rename_i t ht
     have hr := he j want hg oj hoj d hd
     rw [ht] at hr
     have hv := hr.b_inv
     have hlt : d < a.tmps.size := by rw [hsz]; exact hdst j oj d hoj hd
     have : a.tmps[d]? = some (.bool t) := by
      rw [← hv]; simp [Array.getD, hlt]
     have hy : yielded ops.toArray a.tmps j = some t := by
      simp [yielded, hoj, hd, this]
     rw [hy]
     cases h; cases t <;> cases want <;> rfl
    ·rename_i ht
     have hr := he j want hg oj hoj d hd
     rw [ht] at hr
     obtain ⟨vs, hv, hvs⟩ := hr.tup_inv
     have hlt : d < a.tmps.size := by rw [hsz]; exact hdst j oj d hoj hd
     have : a.tmps[d]? = some (.tuple vs.toArray) := by
      rw [← hv]; simp [Array.getD, hlt]
     have hy : yielded ops.toArray a.tmps j = none := by
      simp [yielded, hoj, hd, this]
     rw [hy]
     cases h; rfl
    ·cases h
def cntA (ops : List Oper) (p : Nat) : Nat := numAllocs (ops.drop p)
theorem cntA_step {p : Nat} {o : Oper} (h : ops[p]? = some o) : cntA ops p = (if allocs o.op = true then 1 else 0) + cntA ops (p + 1) := by
 have hlt := (List.getElem?_eq_some_iff.1 h).1
 have hv := (List.getElem?_eq_some_iff.1 h).2
 unfold cntA numAllocs
 rw [List.drop_eq_getElem_cons hlt, hv, List.filter_cons]
 split <;> simp; omega
theorem dstsOf_mem {i d : Nat} {o : Oper} (h : ops[i]? = some o) (hd : o.dst = some d) : d ∈ dstsOf ops := by
 simp only [dstsOf, List.mem_filterMap]
 exact ⟨o, List.mem_of_getElem? h, hd⟩
theorem put_keep {a : Act} {dst : Option Nat} {t : Nat} (h : ∀ d, dst = some d → t ≠ d) (u : Value) : (a.put dst u).tmps.getD t undef = a.tmps.getD t undef := by
 cases dst with
 | none => rfl
 | some d =>
  have := h d rfl
  simp only [Act.put, Array.getD_eq_getD_getElem?, Array.getElem?_setIfInBounds, Ne.symm this, if_false]
theorem EnvRel.weaken {ρ : Inj} {e e' : Env} {a : Act} (h : EnvRel n ρ e a) (hk : ∀ t, e' t = e t ∨ e' t = .u) : EnvRel n ρ e' a :=
 ⟨h.size, fun t => by
  rcases hk t with q | q
  ·rw [q]; exact h.get t
  ·rw [q]; exact .u _⟩
theorem seq_sound (hG : GSound RO P G) (hdst : ∀ (i : Nat) (o : Oper) (d : Nat), ops[i]? = some o → o.dst = some d → d < n) {S : Nat → RS O} {V : Nat → AV} {base top : Nat}
  (htr : ∀ p, p < ops.length → ∃ o, ops[p]? = some o ∧ StepR P G ops o (S p) (S (p + 1)) (V p)) :
  ∀ (m p : Nat), p + m = ops.length → ∀ (ρ : Inj) (fp : Fp) (a : Act) (w : World), EnvRel n ρ (S p).e a → Rel RO P ρ fp (S p).σ w → base ≤ (S p).nid → (S p).nid + cntA ops p ≤ top → top ≤ (S p).σ.next → (∀ b, (S p).nid ≤ b → b < top → ρ b = none) →
   ∀ (ro : Option Nat) (Q : Exit → Act → World → Prop), (∀ a' w' ρ' fp', EnvRel n ρ' (S ops.length).e a' → a'.defers = a.defers → (∀ t, t ∉ dstsOf ops → a'.tmps.getD t undef = a.tmps.getD t undef) → Post RO P (· < base) ρ fp (S p).σ w ρ' fp' (S ops.length).σ w' → Q .normal a' w') → wpOpsIn (Fw ro) 0 P ops.toArray Q (List.range' p m) a w
 | 0, p, hp, ρ, fp, a, w, he, hrel, h1, h2, h3, h4, ro, Q, hQ => by
  have : p = ops.length := by omega
  subst this
  exact hQ a w ρ fp he rfl (fun _ _ => rfl) (Post.refl hrel)
 | m + 1, p, hp, ρ, fp, a, w, he, hrel, h1, h2, h3, h4, ro, Q, hQ => by
  have hlt : p < ops.length := by omega
  obtain ⟨o, ho, hse, hsn, hst⟩ := htr p hlt
  have hcnt := cntA_step ho
  have hnid : (S (p + 1)).nid + cntA ops (p + 1) = (S p).nid + cntA ops p := by rw [hsn, hcnt]; split <;> omega
  have hge : (S p).nid ≤ (S (p + 1)).nid := by rw [hsn]; split <;> omega
  rw [List.range'_succ, wpOpsIn]
  have hoa : ops.toArray[p]? = some o := by simpa using ho
  rw [hoa]
  simp only
  have hw := fun b (hb : wants ops (S p).e o = some b) => wanted_of hdst he.size (fun j want _ oj _ d _ => he.get d) hb
  rcases hst with ⟨g1, g2⟩ | ⟨g1, g2, g3⟩
  ·rw [hw true g1, if_pos rfl]
   have hOK := opV_sound hG g2 he hrel (fun hal => by
    rw [hal, if_pos rfl] at hcnt
    exact ⟨by omega, h4 _ (Nat.le_refl _) (by omega)⟩)
   refine hOK ro o _ Q rfl rfl fun u w' ρ' fp' hu hp' _ => ?_
   have he' : EnvRel n ρ' (S (p + 1)).e (a.put o.dst u) :=
    EnvRel.weaken ((he.mono hp'.le).put (fun d hd => hdst p o d ho hd) hu) hse
   refine seq_sound (base := base) (top := top) hG hdst htr m (p + 1) (by omega) ρ' fp' _ w' he' hp'.rel (by omega) (by rw [hnid]; exact h2) (Nat.le_trans h3 hp'.next) (fun b hb1 hb2 => ?_) ro Q fun a' w'' ρ'' fp'' k1 k2 kk k3 => ?_
   ·rw [hp'.ext b ⟨by omega, fun hal => by rw [hsn, hal, if_pos rfl] at hb1; omega⟩]
    exact h4 b (by omega) hb2
   ·refine hQ a' w'' ρ'' fp'' k1 (by rw [k2]; cases o.dst <;> rfl) (fun t ht => (kk t ht).trans (put_keep (fun d hd e => ht (by rw [e]; exact dstsOf_mem ho hd)) u)) ?_
    exact (hp'.mono fun b hb => ⟨by omega, fun _ => by omega⟩).trans k3
  ·rw [hw false g1, if_neg (by simp)]
   refine ⟨fun _ _ => trivial, ?_⟩
   have he' : EnvRel n ρ (S (p + 1)).e (a.put o.dst undef) := by
    refine EnvRel.weaken ?_ hse
    rw [g2]
    exact he.put (fun d hd => hdst p o d ho hd) (.tup [] [] .nil)
   have hrel' : Rel RO P ρ fp (S (p + 1)).σ w := by rw [g3]; exact hrel
   refine seq_sound (base := base) (top := top) hG hdst htr m (p + 1) (by omega) ρ fp _ w he' hrel' (by omega) (by rw [hnid]; exact h2) (by rw [g3]; exact h3) (fun b hb1 hb2 => h4 b (by omega) hb2) ro Q fun a' w'' ρ'' fp'' k1 k2 kk k3 => ?_
   refine hQ a' w'' ρ'' fp'' k1 (by rw [k2]; cases o.dst <;> rfl) (fun t ht => (kk t ht).trans (put_keep (fun d hd e => ht (by rw [e]; exact dstsOf_mem ho hd)) undef)) ?_
   rw [g3] at k3
   exact k3
def RegOK (RO : O → Loc → (Nat → Option Obj) → Prop) (P : Program) (n : Nat) (c : Code) (σ : AH O) (e : Env) (e' : Env) (σ' : AH O) : Prop :=
 ∀ (ρ : Inj) (fp : Fp) (a : Act) (w : World), EnvRel n ρ e a → Rel RO P ρ fp σ w →
  ∀ (ro : Option Nat) (Q : Exit → Act → World → Prop), (∀ a' w' ρ' fp', EnvRel n ρ' e' a' → a'.defers = a.defers → (∀ t, t ∉ writesOf c → a'.tmps.getD t undef = a.tmps.getD t undef) → Post RO P (· < σ.next) ρ fp σ w ρ' fp' σ' w' → Q .normal a' w') → c.wpIn (Fw ro) 0 P Q a w
theorem Rel.bump {ρ : Inj} {fp : Fp} {σ : AH O} {w : World} (h : Rel RO P ρ fp σ w) (k : Nat) : Rel RO P ρ fp (σ.bump k) w :=
 ⟨fun b hb => h.next b (by simp only [AH.bump] at hb; omega), h.blk, h.dead, h.has, h.disj, h.fz⟩
theorem Post.of_bump {ρ ρ' : Inj} {fp fp' : Fp} {σ σ' : AH O} {w w' : World} {k : Nat} (h : Post RO P (· < σ.next) ρ fp (σ.bump k) w ρ' fp' σ' w') : Post RO P (· < σ.next) ρ fp σ w ρ' fp' σ' w' :=
 ⟨h.rel, h.fr, h.grow, h.gro, h.le, h.ext, fun b hb hlt h0 => h.blank b hb (by simp only [AH.bump]; omega) h0, by have := h.next; simp only [AH.bump] at this; omega⟩
theorem start_eq' (σ : AH O) (k : Nat) : (bif Nat.beq k 0 then σ else σ.bump k) = σ.bump k := by
 cases h : Nat.beq k 0 with
 | true => have := Nat.eq_of_beq_eq_true h; subst this; rfl
 | false => rfl
theorem numAllocs_drop : cntA ops 0 = numAllocs ops := by simp [cntA]
theorem region_seq_sound (hG : GSound RO P G) {R : Type} {scs : List (Nat × Nat × List (Nat × Ty))} {ord bf : List Nat} {ops : Array Oper} {id : Nat} {e : Env} {σ : AH O} {K : Env → AH O → Option R} {r : R}
  (hdst : ∀ (i : Nat) (o : Oper) (d : Nat), ops.toList[i]? = some o → o.dst = some d → d < n) (h : regionK P G false scs ops.toList ord bf e σ K = some r) :
  ∃ e' σ', K e' σ' = some r ∧ RegOK RO P n (.region id ops false) σ e e' σ' := by
 unfold regionK at h
 simp only [cond_false, start_eq'] at h
 obtain ⟨S, V, s', ht, h3⟩ := trace _ _ _ _ _ h
 have h1 := ht.tr.z
 have h2 := ht.tr.st
 have hf := ht.fin
 rw [List.length_range] at h2 hf
 refine ⟨s'.e, s'.σ, h3, fun ρ fp a w he hrel ro Q hQ => ?_⟩
 ·refine wpIn_region ?_
  have e1 : List.range ops.size = List.range' 0 ops.toList.length := by rw [List.range_eq_range']; simp
  rw [e1]
  have e2 : ops = ops.toList.toArray := by simp
  have hb : (S 0).σ = σ.bump (numAllocs ops.toList) := h1.σ
  have hn : (S 0).nid = σ.next := h1.nid
  have := seq_sound (n := n) (ops := ops.toList) hG hdst (S := S) (V := V) (base := σ.next) (top := σ.next + numAllocs ops.toList) (fun p hp => by
   obtain ⟨i, o, g1, g2, g3⟩ := h2 p hp
   rw [List.getElem?_range hp] at g1; cases g1
   exact ⟨o, g2, g3⟩) ops.toList.length 0 (by omega) ρ fp a w (he.weaken h1.e) (by rw [hb]; exact hrel.bump _) (by rw [hn]; exact Nat.le_refl _) (by rw [hn, numAllocs_drop]; exact Nat.le_refl _) (by rw [hb]; exact Nat.le_refl _)
   (fun b hb1 _ => (hrel.next b (by rw [hn] at hb1; exact hb1)).1) ro Q fun a' w' ρ' fp' k1 k2 kk k3 => by
    rw [hb, ← hf.σ] at k3
    exact hQ a' w' ρ' fp' (k1.weaken hf.e) k2 kk (Post.of_bump k3)
  rw [← e2] at this
  exact this
end Go.Abs
