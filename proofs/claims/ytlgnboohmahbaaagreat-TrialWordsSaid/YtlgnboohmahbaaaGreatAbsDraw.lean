/-
  AbsDraw: a region whose order is drawn.
-/
import Derived.Test.YtlgnboohmahbaaaGreatAbsDraw4
set_option linter.unusedVariables false
set_option linter.unusedSimpArgs false
set_option linter.constructorNameAsVariable false
namespace Go.Abs
open Go
variable {O : Type} {RO : O → Loc → (Nat → Option Obj) → Prop} {P : Program} {G : List (Nat × Sm O)} {n : Nat}
section step
variable {ops : List Oper} {l : List Nat} {S : Nat → RS O} {V : Nat → AV} {a0 : Act} {ρ0 : Inj} {fp0 : Fp} {σ0 : AH O} {w0 : World} {listed : Array Bool}
theorem ldN_wide {σ σ' : AH O} {b : Bid} {o m : Nat} {cs : List AV} (h : σ.ldN b o m = some cs) (hw : ∀ b x, σ.blk b = some x → σ'.blk b = some x) : σ'.ldN b o m = some cs := by
 cases b with
 | f => exact h
 | n b =>
  simp only [AH.ldN] at h ⊢
  split at h
  ·rename_i hb; rw [hw _ _ hb]; exact h
  ·cases h
theorem ld_wide {σ σ' : AH O} {b : Bid} {o : Nat} {v : AV} (h : σ.ld b o = some v) (hw : ∀ b x, σ.blk b = some x → σ'.blk b = some x) : σ'.ld b o = some v := by
 cases b with
 | f => exact h
 | n b =>
  simp only [AH.ld] at h ⊢
  split at h
  ·rename_i hb; rw [hw _ _ hb]; exact h
  ·cases h
theorem rdSl_wide {σ σ' : AH O} {a : SA} {m es : Nat} {cs : List AV} (h : σ.rdSl a m es = some cs) (hw : ∀ b x, σ.blk b = some x → σ'.blk b = some x) : σ'.rdSl a m es = some cs := by
 cases a with
 | loc b o e =>
  simp only [AH.rdSl] at h ⊢
  exact ldN_wide h hw
 | ar b o e =>
  simp only [AH.rdSl] at h ⊢
  exact ldN_wide h hw
 | nil => exact h
 | z => exact h
theorem Kept.wide {o : Oper} {s : RS O} {v : AV} {σ σ' : AH O} (h : Kept o s v σ) (hop : ∀ t t' x a m, o.op = .convert t t' x → ev s.e x = .sl a m → ∃ cs, s.σ.rdSl a m 1 = some cs) (hw : ∀ b x, σ.blk b = some x → σ'.blk b = some x) : Kept o s v σ' := by
 refine ⟨fun t a e => ?_, fun t t' x e a m hx => ?_⟩
 ·obtain ⟨b, f, h1, h2⟩ := h.1 t a e
  refine ⟨b, f, h1, fun k c hk => ?_⟩
  exact ld_wide (h2 k c hk) hw
 ·obtain ⟨cs, hcs⟩ := hop t t' x a m e hx
  have := h.2 t t' x e a m hx
  rw [hcs] at this ⊢
  exact rdSl_wide this hw
theorem conv_slice {t t' ty : TypeId} {x : Operand} {e : Env} {σ σ' : AH O} {nid : Nat} {v : AV} (h : opK P G (.convert t t' x) ty e σ nid two = some (v, σ')) {a : SA} {m : Nat} (hx : ev e x = .sl a m) : ∃ cs, σ.rdSl a m 1 = some cs := by
 simp only [opK, hx] at h
 split at h
 ·split at h
  ·obtain ⟨cs, hcs, _⟩ := Option.bind_eq_some_iff.1 h
   exact ⟨cs, hcs⟩
  ·cases h
 ·cases h
theorem again {o : Oper} {s : RS O} {v : AV} {σ' σ2 : AH O} (h : opK P G o.op o.type s.e s.σ s.nid two = some (v, σ')) (hl : loads o.op = true) (hk : Kept o s v σ2) : opK P G o.op o.type s.e σ2 s.nid two = some (v, σ2) := by
 cases hop : o.op <;> rw [hop] at hl <;> first | (simp [loads] at hl; done) | skip
 case load t x =>
  rw [hop] at h
  obtain ⟨_, b, f, h1, _, h3⟩ := load_again h
  obtain ⟨b', f', h1', h2⟩ := hk.1 t x hop
  rw [h1] at h1'; cases h1'
  exact h3 σ2 s.nid h2
 case convert t t' x =>
  rw [hop] at h
  exact (conv_again h).2 σ2 s.nid fun a m hx => hk.2 t t' x hop a m hx
theorem kept_self {o : Oper} {s : RS O} {v : AV} {σ' : AH O} (h : opK P G o.op o.type s.e s.σ s.nid two = some (v, σ')) (hl : loads o.op = true) : Kept o s v s.σ := by
 refine ⟨fun t a e => ?_, fun _ _ _ _ _ _ _ => rfl⟩
 rw [e] at h
 obtain ⟨_, b, f, h1, h2, _⟩ := load_again h
 exact ⟨b, f, h1, h2⟩
def over (σ σd : AH O) : AH O := ⟨fun b => match σ.blk b with | some x => some x | none => σd.blk b, σd.next⟩
def Inv (RO : O → Loc → (Nat → Option Obj) → Prop) (P : Program) (ops : List Oper) (l : List Nat) (S : Nat → RS O) (n : Nat) (a0 : Act) (ρ0 : Inj) (fp0 : Fp) (σ0 : AH O) (w0 : World) (listed : Array Bool) (a : Act) (w : World) : Prop :=
 ∃ ρ fp σd j, InvE ops l S n a0 listed a ρ ∧ InvH RO P ops l S ρ0 fp0 σ0 w0 listed w ρ fp σd j
theorem Inv.next (hG : GSound RO P G) (hat : ∀ p, p < l.length → ∃ i o, At ops l p i o) (hr : Run P G ops l S V) (hdst : ∀ (i : Nat) (o : Oper) (d : Nat), ops[i]? = some o → o.dst = some d → d < n) {a : Act} {w : World} (h : Inv RO P ops l S n a0 ρ0 fp0 σ0 w0 listed a w)
  {i : Nat} {o : Oper} (ho : ops[i]? = some o) (hnd : ¬ Did listed i) (hrd : ∀ e ∈ o.after, Region.binds .any e = true → Did listed e.on) {Q : Exit → Act → World → Prop} {K : Act → World → Prop}
  (hK : ∀ a w, Inv RO P ops l S n a0 ρ0 fp0 σ0 w0 (listed.setIfInBounds i true) a w → K a w) (ro : Option Nat) : wpOpIn (Fw ro) 0 P ops.toArray Q i K a w := by
 obtain ⟨ρ, fp, σd, j, hE, hH⟩ := h
 obtain ⟨p, hp⟩ := hr.sch.pos i (List.getElem?_eq_some_iff.1 ho).1
 have ha : At ops l p i o := ⟨hp, ho⟩
 have hoa : ops.toArray[i]? = some o := by simpa using ho
 unfold wpOpIn
 rw [hoa]
 simp only
 have hw := fun b (hb : wants ops (S p).e o = some b) => wanted_of (ops := ops) hdst hE.size (fun j' want hg oj hoj d hd => hE.writers hat hr ha hnd hrd (t := d) (by
  simp only [looks, hg, hoj, hd, List.mem_append]
  right; simp)) hb
 let e' : Env := fun t => if t ∈ looks ops o then (S p).e t else .u
 have he' : EnvRel n ρ e' a := ⟨hE.size, fun t => by
  show VRel ρ (if t ∈ looks ops o then (S p).e t else .u) _
  split
  ·rename_i ht; exact hE.writers hat hr ha hnd hrd ht
  ·exact .u _⟩
 have hcg : ∀ {R : Type} (σ : AH O) (K : AV → AH O → Option R), opK P G o.op o.type (S p).e σ (S p).nid K = opK P G o.op o.type e' σ (S p).nid K := fun σ K => opK_congr fun x hx => by
  cases x with
  | tmp t =>
   have : t ∈ looks ops o := by
    simp only [looks, List.mem_append, List.mem_filterMap]
    exact .inl ⟨.tmp t, hx, rfl⟩
   show (S p).e t = if t ∈ looks ops o then (S p).e t else .u
   rw [if_pos this]
  | const v => rfl
  | global g => rfl
  | func f => rfl
 rcases (hr.st p i o ha).2.2 with ⟨g1, g2⟩ | ⟨g1, g2, g3⟩
 ·rw [hw true g1, if_pos rfl]
  cases ht : turns o.op with
  | true =>
   have k1 := (hH.turn (ρ' := ρ) (fp' := fp) (w' := w) hat hr hE.closed hE.lsz ha hnd hrd ht g1).1
   have k2 := (hH.turn (ρ' := ρ) (fp' := fp) (w' := w) hat hr hE.closed hE.lsz ha hnd hrd ht g1).2.1
   rw [hcg] at g2
   refine opV_sound hG g2 he' k1 k2 ro o K Q rfl rfl fun u w' ρ' fp' hu hp' _ => hK _ _ ?_
   obtain ⟨fp3, σd', k3⟩ := (hH.turn (ρ' := ρ') (fp' := fp') (w' := w') hat hr hE.closed hE.lsz ha hnd hrd ht g1).2.2 hp'
   exact ⟨ρ', fp3, σd', p + 1, hE.next hat hr hdst ha hnd hrd hp'.le hu, k3⟩
  | false =>
   have hnt : ¬ (turns o.op = true ∧ wants ops (S p).e o = some true) := fun e => by rw [ht] at e; cases e.1
   cases hal : allocs o.op with
   | true =>
    obtain ⟨el, cs, h1, h2⟩ := opK_alloc g2 ht hal
    have hjp := hH.ge hat hr hE.closed hE.lsz ha hnd (.inr hal)
    have hlt : (S p).nid < σd.next := by
     have := hr.nid_lt hat ha.lt (Nat.le_refl _) ha hal
     have := hH.top
     rw [hH.nx]; omega
    have h3 := h2 σd
    rw [hcg] at h3
    refine opV_sound hG h3 he' hH.post.rel (fun _ => ⟨hlt, hH.nr p i o ha hnd hal⟩) ro o K Q rfl rfl fun u w' ρ' fp' hu hp' _ => hK _ _ ?_
    exact ⟨ρ', fp', _, j, hE.next hat hr hdst ha hnd hrd hp'.le hu, hH.alloc hat hr hE.closed hE.lsz ha hnd ⟨hal, ht, g1, rfl, h1, el, cs, rfl⟩ hp'⟩
   | false =>
    have hna : ∀ b x, ¬ APut ops S p o b x := fun b x hx => by have := hx.al; rw [hal] at this; cases this
    have fin : opK P G o.op o.type (S p).e σd (S p).nid two = some (V p, σd) → o.wpIn (Fw ro) 0 P a w K Q := fun h3 => by
     rw [hcg] at h3
     refine opV_sound hG h3 he' hH.post.rel (fun e => by rw [hal] at e; cases e) ro o K Q rfl rfl fun u w' ρ' fp' hu hp' _ => hK _ _ ?_
     exact ⟨ρ', fp', _, j, hE.next hat hr hdst ha hnd hrd hp'.le hu, hH.same hat hr hE.lsz ha hnt hna hp'⟩
    cases hl : loads o.op with
    | false => exact fin ((opK_pure g2 ht hal hl).2 σd _)
    | true =>
     have hsl : ∀ t t' x a m, o.op = .convert t t' x → ev (S p).e x = .sl a m → ∃ cs, (S p).σ.rdSl a m 1 = some cs := fun t t' x a m hop hx => by
      rw [hop] at g2
      exact conv_slice g2 hx
     rcases Nat.lt_or_ge p j with hpj | hjp
     ·rcases hH.jz with hj | ⟨k, i', o', hj, hb, hd, ht', hwt'⟩
      ·omega
      ·have hpk : p ≠ k := fun e => by
        subst e
        obtain ⟨rfl, rfl⟩ := ha.fn hb
        exact hnd hd
       have hnb : bit ((befs ops).getD i' 0) i = false := by
        cases hbb : bit ((befs ops).getD i' 0) i with
        | false => rfl
        | true => exact absurd (hE.closed.bef (fun i hi => Did.lt hE.lsz hi) i' i hd hbb) hnd
       have hk := hr.kp p k i o i' o' (by omega) ha hb hl g1 hwt' ht' hnb
       rw [← hj] at hk
       refine fin (again g2 hl (hk.wide hsl fun b x hx => ?_))
       rcases hH.od b with g | ⟨q, i2, o2, y, q1, q2, q3, q4⟩
       ·rw [g]; exact hx
       ·rw [hH.bl b (by rw [q4.id]; exact hr.nid_mono hat q1 (Nat.le_of_lt q2.lt)) (by rw [q4.id]; exact hr.nid_lt hat q2.lt (Nat.le_refl _) q2 q4.al)] at hx
        cases hx
     ·
      have hq : ∀ q i' o', j ≤ q → q < p → At ops l q i' o' → ¬ (turns o'.op = true ∧ wants ops (S q).e o' = some true) := by
       intro q i' o' q1 q2 q3 q4
       refine hH.late q i' o' q1 q3 ?_ q4
       have hpp := hr.sch.pair q p i' i o' o q2 q3 ha
       rcases hpp.or with g | ⟨_, g4, _⟩
       ·exact ready_bef hE.closed (fun i hi => Did.lt hE.lsz hi) ha.2 hrd g
       ·have := (g4 q4.1).2; rw [hl] at this; cases this
      have hpl := Nat.le_of_lt ha.lt
      have hsame : ∀ b, ρ b ≠ none → (over (S p).σ σd).blk b = σd.blk b := fun b hb => by
       show (match (S p).σ.blk b with | some x => some x | none => σd.blk b) = _
       cases hx : (S p).σ.blk b with
       | none => rfl
       | some x =>
        refine (hH.sub hat hr hjp hpl hq hx fun q i' o' q1 q2 q3 q4 q5 q6 => ?_).symm
        by_cases hdd : Did listed i'
        ·exact hdd
        ·rw [q4, hH.nr q i' o' q3 hdd q5] at hb
         exact absurd rfl hb
      have hsub : ∀ b x, (S p).σ.blk b = some x → (over (S p).σ σd).blk b = some x := fun b x hx => by
       show (match (S p).σ.blk b with | some x => some x | none => σd.blk b) = _
       rw [hx]
      have hnx : ∀ b, σd.next ≤ b → (over (S p).σ σd).blk b = none := fun b hb => by
       show (match (S p).σ.blk b with | some x => some x | none => σd.blk b) = _
       cases hx : (S p).σ.blk b with
       | none => exact (hH.post.rel.next b hb).2
       | some x =>
        obtain ⟨e1, _, _⟩ := hr.heap hat hjp hpl hq
        rcases e1 b with g | ⟨q, i2, o2, y, q1, q2, q3, q4, q5⟩
        ·rcases hH.od b with g' | ⟨q, i2, o2, y, q1, q2, q3, q4⟩
         ·rw [← g, hx, (hH.post.rel.next b hb).2] at g'; cases g'
         ·have := hr.nid_lt hat q2.lt (Nat.le_refl _) q2 q4.al
          have := hH.top
          rw [hH.nx, q4.id] at hb; omega
        ·have := hr.nid_lt hat q3.lt (Nat.le_refl _) q3 q4.al
         have := hH.top
         rw [hH.nx, q4.id] at hb; omega
      have h3 := again g2 hl ((kept_self g2 hl).wide hsl hsub)
      rw [hcg] at h3
      refine opV_sound hG h3 he' (hH.post.rel.ghosts (σx := over (S p).σ σd) rfl hsame hnx) (fun e => by rw [hal] at e; cases e) ro o K Q rfl rfl fun u w' ρ' fp' hu hp' _ => hK _ _ ?_
      have hgh : ∀ b, ρ' b ≠ none → (over (S p).σ σd).blk b = σd.blk b := fun b hb => by
       rcases Nat.lt_or_ge b σd.next with hh | hh
       ·refine hsame b ?_
        rw [← hp'.ext b ⟨hh, fun e => by rw [hal] at e; cases e⟩]; exact hb
       ·rw [hnx b hh, (hH.post.rel.next b hh).2]
      have hp2 : Post RO P (fun b => b < σd.next ∧ (allocs o.op = true → b ≠ (S p).nid)) ρ fp σd w ρ' fp' σd w' := Post.ghosts (σx := over (S p).σ σd) rfl hsame hgh hp' fun b hb => (hH.post.rel.next b hb).2
      exact ⟨ρ', fp', _, j, hE.next hat hr hdst ha hnd hrd hp'.le hu, hH.same hat hr hE.lsz ha hnt hna hp2⟩
 ·rw [hw false g1, if_neg (by simp)]
  have hnt : ¬ (turns o.op = true ∧ wants ops (S p).e o = some true) := fun e => by rw [g1] at e; cases e.2
  refine ⟨fun _ _ => trivial, ?_⟩
  exact hK _ _ ⟨ρ, fp, σd, j, hE.next hat hr hdst ha hnd hrd (Inj.le_refl _) (by rw [g2]; exact .tup [] [] .nil), hH.same hat hr hE.lsz ha hnt (fun b x hx => by have := hx.wt; rw [g1] at this; cases this) (Post.refl hH.post.rel)⟩
theorem any_sound (ro : Option Nat) (hG : GSound RO P G) (hat : ∀ p, p < l.length → ∃ i o, At ops l p i o) (hr : Run P G ops l S V) (hdst : ∀ (i : Nat) (o : Oper) (d : Nat), ops[i]? = some o → o.dst = some d → d < n) {Q : Exit → Act → World → Prop}
  (hQ : ∀ a w listed, listed.size = ops.length → (∀ i, i < ops.length → Did listed i) → Inv RO P ops l S n a0 ρ0 fp0 σ0 w0 listed a w → Q .normal a w) :
  ∀ (fuel : Nat) (listed : Array Bool) (a : Act) (w : World), ops.length ≤ listed.toList.count true + fuel → Inv RO P ops l S n a0 ρ0 fp0 σ0 w0 listed a w → wpAnyIn (Fw ro) 0 P .any ops.toArray Q fuel listed a w := by
 have done : ∀ (listed : Array Bool) (a : Act) (w : World), Inv RO P ops l S n a0 ρ0 fp0 σ0 w0 listed a w → Region.ready .any ops.toArray listed = [] → Q .normal a w := by
  intro listed a w h hn
  have hsz : listed.size = ops.length := by obtain ⟨_, _, _, _, hE, _⟩ := h; exact hE.lsz
  refine hQ a w listed hsz ?_ h
  have all : ∀ (p i : Nat), l[p]? = some i → Did listed i := by
   intro p
   induction p using Nat.strongRecOn with
   | _ p ih =>
    intro i hp
    have hlt : p < l.length := (List.getElem?_eq_some_iff.1 hp).1
    obtain ⟨i', o, ha⟩ := hat p hlt
    have : i = i' := by have := ha.1; rw [hp] at this; cases this; rfl
    subst this
    rcases Bool.eq_false_or_eq_true (listed.getD i false) with hd | hd
    ·exact hd
    ·exfalso
     have hlt' : i < listed.size := by rw [hsz]; exact (List.getElem?_eq_some_iff.1 ha.2).1
     have : i ∈ Region.ready .any ops.toArray listed := by
      rw [mem_ready]
      refine ⟨by simpa [hlt'] using hd, o, by simpa using ha.2, fun e he hb => ?_⟩
      obtain ⟨q, h1, h2⟩ := hr.sch.edge p i o ha e he hb
      exact ih q h1 e.on h2
     rw [hn] at this; cases this
  intro i hi
  obtain ⟨p, hp⟩ := hr.sch.pos i hi
  exact all p i hp
 intro fuel
 induction fuel with
 | zero =>
  intro listed a w hc h
  have hsz : listed.size = ops.length := by obtain ⟨_, _, _, _, hE, _⟩ := h; exact hE.lsz
  have hall : Region.ready .any ops.toArray listed = [] := by
   have h1 : listed.toList.count true = listed.toList.length := by
    have := List.count_le_length (a := true) (l := listed.toList)
    simp only [Array.length_toList] at this ⊢
    omega
   rw [List.count_eq_length] at h1
   apply List.eq_nil_iff_forall_not_mem.2
   intro i hi
   rw [mem_ready] at hi
   have hlt : i < listed.size := by
    rcases Nat.lt_or_ge i listed.size with hh | hh
    ·exact hh
    ·have := hi.1; simp [Array.getElem?_eq_none hh] at this
   have := h1 listed[i] (by simp)
   have h2 := hi.1
   simp [hlt] at h2
   rw [h2] at this; cases this
  exact ⟨hall, done listed a w h hall⟩
 | succ fuel ih =>
  intro listed a w hc h
  have hsz : listed.size = ops.length := by obtain ⟨_, _, _, _, hE, _⟩ := h; exact hE.lsz
  refine ⟨done listed a w h, fun i hi => ?_⟩
  rw [mem_ready] at hi
  obtain ⟨h1, o, h2, h3⟩ := hi
  have hlt : i < listed.size := by
   rcases Nat.lt_or_ge i listed.size with hh | hh
   ·exact hh
   ·simp [Array.getElem?_eq_none hh] at h1
  have hv : listed[i] = false := by simpa [hlt] using h1
  refine h.next hG hat hr hdst (by simpa using h2) (by simp [Did, hlt, hv]) h3 (fun a' w' h' => ih _ a' w' ?_ h') ro
  have : (listed.setIfInBounds i true).toList.count true = listed.toList.count true + 1 := by
   rw [Array.toList_setIfInBounds, List.count_set (by simpa using hlt)]
   simp [hv]
  omega
end step
theorem region_draw_sound (hG : GSound RO P G) (hm : P.follows .mixedOrders = true) {R : Type} {scs : List (Nat × Nat × List (Nat × Ty))} {l bf : List Nat} {ops : Array Oper} {id : Nat} {e : Env} {σ : AH O} {K : Env → AH O → Option R} {r : R}
  (hdst : ∀ (i : Nat) (o : Oper) (d : Nat), ops.toList[i]? = some o → o.dst = some d → d < n) (h : regionK P G true scs ops.toList l bf e σ K = some r) :
  ∃ e' σ', K e' σ' = some r ∧ RegOK RO P n (.region id ops true) σ e e' σ' := by
 unfold regionK at h
 simp only [cond_true, start_eq'] at h
 obtain ⟨hok, h⟩ := bif_some h
 rw [Bool.and_eq_true] at hok
 obtain rfl := befsChk_spec hok.1
 have hs := okSched_spec hok.2
 obtain ⟨S, V, s', ht, h3⟩ := trace _ _ _ _ _ h
 have h1 := ht.tr.z
 have hf := ht.fin
 have hat : ∀ p, p < l.length → ∃ i o, At ops.toList l p i o := fun p hp => by
  obtain ⟨i, o, g1, g2, _⟩ := ht.tr.st p hp
  exact ⟨i, o, g1, g2⟩
 have hr : Run P G ops.toList l S V := ⟨hs, fun p i o ha => by
  obtain ⟨i', o', g1, g2, g3⟩ := ht.tr.st p ha.lt
  obtain ⟨rfl, rfl⟩ := ha.fn ⟨g1, g2⟩
  exact g3, fun q p i o i' o' g1 g2 g3 g4 g5 g6 g7 g8 => ht.tr.kp rfl q p i o i' o' g1 g2.1 g2.2 g3.1 g3.2 g4 g5 g6 g7 g8⟩
 have hb : (S 0).σ = σ.bump (numAllocs ops.toList) := h1.σ
 have hn0 : (S 0).nid = σ.next := h1.nid
 have htop : (S l.length).nid = σ.next + numAllocs ops.toList := by
  rw [← hf.nid, ht.nid]
  have := nidOf_add (ops := ops.toList) l 0 σ.next
  rw [Nat.zero_add] at this
  show nidOf ops.toList l σ.next = _
  rw [this, hs.cnt, Nat.add_comm]
 refine ⟨s'.e, s'.σ, h3, fun ρ fp a w he hrel ro Q hQ => ?_⟩
 refine wpIn_region_any hm ?_
 have e2 : ops = ops.toList.toArray := by simp
 have main := any_sound ro (n := n) (RO := RO) (a0 := a) (ρ0 := ρ) (fp0 := fp) (σ0 := σ) (w0 := w) hG hat hr hdst (Q := Q) (fun a' w' listed hsz hall hInv => ?_) ops.size (Array.replicate ops.size false) a w.drew (by simp) ?_
 ·rw [← e2] at main
  exact main
 ·obtain ⟨ρ', fp', σd, j, hE, hH⟩ := hInv
  have hq : ∀ q i' o', j ≤ q → q < l.length → At ops.toList l q i' o' → ¬ (turns o'.op = true ∧ wants ops.toList (S q).e o' = some true) := fun q i' o' q1 _ q3 q4 =>
   hH.late q i' o' q1 q3 (hall i' (List.getElem?_eq_some_iff.1 q3.2).1) q4
  obtain ⟨e1, _, e3⟩ := hr.heap hat hH.jle (Nat.le_refl _) hq
  have hσ : σd = s'.σ := by
   rw [hf.σ]
   have hblk : ∀ b, σd.blk b = (S l.length).σ.blk b := fun b => by
    cases hx : (S l.length).σ.blk b with
    | some x => exact hH.sub hat hr hH.jle (Nat.le_refl _) hq hx fun q i' o' _ _ q3 _ _ _ => hall i' (List.getElem?_eq_some_iff.1 q3.2).1
    | none =>
     rcases hH.od b with g | ⟨q, i2, o2, y, q1, q2, q3, q4⟩
     ·rw [g]
      rcases e1 b with g' | ⟨q, i2, o2, y, q1, q2, q3, q4, q5⟩
      ·rw [← g', hx]
      ·rw [hx] at q5; cases q5
     ·obtain ⟨_, e2', _⟩ := hr.heap hat hH.jle (Nat.le_refl _) hq
      rw [e2' q i2 o2 b y q1 q2.lt q2 q4] at hx; cases hx
   have hnx : σd.next = (S l.length).σ.next := by rw [hH.nx, e3]
   cases σd; cases hS : (S l.length).σ
   rw [hS] at hblk hnx
   simp only at hnx
   subst hnx
   congr
   funext b; exact hblk b
  have hp := hH.post
  rw [hn0, hσ] at hp
  refine hQ a' w' ρ' fp' ⟨hE.size, fun t => ?_⟩ hE.defers (fun t ht' => hE.out t ht') hp
  have := hE.slots t l.length (Nat.le_refl _) (fun q i o _ q2 _ => hall i (List.getElem?_eq_some_iff.1 q2.2).1) (fun q i o q1 q2 _ => absurd q2.lt (by omega))
  rcases hf.e t with g | g <;> rw [g]
  ·exact this
  ·exact .u _
 ·have hno : ∀ i, ¬ Did (Array.replicate ops.size false) i := fun i hi => by
   simp only [Did, Array.getD_eq_getD_getElem?, Array.getElem?_replicate] at hi
   split at hi <;> simp at hi
  refine ⟨ρ, fp, (S 0).σ, 0, ⟨by simp, fun i o ho hd => absurd hd (hno i), he.size, fun t m hm hw0 _ => ?_, rfl, fun _ _ => rfl⟩, ⟨Nat.zero_le _, .inl rfl, fun q i o _ _ hd => absurd hd (hno i), ?_, rfl, fun q i o b x _ _ hd => absurd hd (hno i), fun b => .inl rfl, fun b g1 _ => ?_, fun q i o ha _ hal => ?_, ?_⟩⟩
  ·have k1 : VRel ρ ((S 0).e t) (a.tmps.getD t undef) := by
    rcases h1.e t with g | g <;> rw [g]
    ·exact he.get t
    ·exact .u _
   have : ∀ r i o, 0 ≤ r → r < m → At ops.toList l r i o → o.dst ≠ some t := fun r i o _ g1 g2 g3 => hno i (hw0 r i o g1 g2 g3)
   rcases hr.env_keep hat (Nat.zero_le m) hm this with g | g <;> rw [g]
   ·exact k1
   ·exact .u _
  ·rw [hn0, hb]
   exact Post.of_bump ((Post.drew (hrel.bump _)))
  ·rw [hb]
   rw [hn0] at g1
   exact (hrel.next b g1).2
  ·refine (hrel.next _ ?_).1
   rw [← hn0]
   exact hr.nid_mono hat (Nat.zero_le q) (Nat.le_of_lt ha.lt)
  ·rw [htop, hb]; exact Nat.le_refl _
end Go.Abs
