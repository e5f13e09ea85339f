/-
  AbsIter: a loop over a map.
-/
import Derived.Test.YtlgnboohmahbaaaGreatAbsExec0
set_option linter.unusedVariables false
set_option linter.unusedSimpArgs false
set_option linter.constructorNameAsVariable false
namespace Go.Abs
open Go
variable {O : Type} {RO : O → Loc → (Nat → Option Obj) → Prop} {P : Program} {G : List (Nat × Sm O)} {n : Nat}
section
variable {S : Type} {f : Nat → List Nat → S → Option S}
theorem foldO_app : ∀ (p q d : List Nat) (s : S), foldO f (p ++ q) d s = (foldO f p d s).bind (foldO f q (d ++ p))
 | [], q, d, s => by simp [foldO]
 | i :: p, q, d, s => by
  simp only [List.cons_append, foldO]
  cases f i d s with
  | none => rfl
  | some s' => simp only [Option.bind_some]; rw [foldO_app p q (d ++ [i]) s']; simp [List.append_assoc]
theorem perm_small {n : Nat} (h : n ≤ 1) {p : List Nat} (hp : p.Perm (List.range n)) : p = List.range n := by
 match n, h with
 | 0, _ => simpa using hp
 | 1, _ => exact List.perm_singleton.1 hp
theorem foldAny_spec {n : Nat} {s t : S} (h : foldAny f n s = some t) : ∀ p : List Nat, p.Perm (List.range n) → foldO f p [] s = some t := by
 intro p hp
 unfold foldAny at h
 cases hb : Nat.ble n 1 with
 | true =>
  rw [hb] at h
  rw [perm_small (Nat.le_of_ble_eq_true hb) hp]
  exact h
 | false =>
  rw [hb] at h
  simp only [cond_false] at h
  split at h
  ·rename_i hh
   cases h
   exact Classical.choose_spec hh p hp
  ·cases h
def restOf (n : Nat) (d : List Nat) : List Nat := (List.range n).filter fun i => !d.elem i
theorem restOf_perm {n : Nat} {d : List Nat} (hd : d.Nodup) (hn : ∀ i ∈ d, i < n) : (d ++ restOf n d).Perm (List.range n) := by
 refine (List.perm_ext_iff_of_nodup ?_ List.nodup_range).2 fun i => ?_
 ·refine List.nodup_append.2 ⟨hd, List.nodup_range.filter _, fun a ha b hb e => ?_⟩
  subst e
  simp [restOf] at hb
  exact hb.2 ha
 ·simp only [List.mem_append, restOf, List.mem_filter, List.mem_range]
  constructor
  ·rintro (h | h)
   ·exact hn i h
   ·exact h.1
  ·intro h
   by_cases hi : i ∈ d
   ·exact .inl hi
   ·exact .inr ⟨h, by simpa using hi⟩
theorem foldAny_pre {n : Nat} {s t : S} (h : foldAny f n s = some t) {d : List Nat} (hd : d.Nodup) (hn : ∀ i ∈ d, i < n) : ∃ s', foldO f d [] s = some s' := by
 have := foldAny_spec h _ (restOf_perm hd hn)
 rw [foldO_app] at this
 obtain ⟨s', h1, _⟩ := Option.bind_eq_some_iff.1 this
 exact ⟨s', h1⟩
end
theorem next_run {w : World} {r bm c : Nat} {seen : Array Nat} {arr : Array MapEntry} (ty : TypeId) (hr : w.heap[r]? = some (.mapIter (some bm) c seen c)) (hm : w.heap[bm]? = some (.map arr c)) (hold : ∀ x ∈ arr.toList, x.born < c) :
  ((∀ x ∈ arr.toList, x.born ∈ seen.toList) ∧ (Instr.next (.pointer (some ⟨r, 0, none⟩)) false ty).run P w = .ok (.tuple #[.bool false]) w) ∨
  ∃ (i : Nat) (x : MapEntry), arr[i]? = some x ∧ x.born ∉ seen.toList ∧ ∃ w1 : World, (w1 = w ∨ w1 = w.drew) ∧ (Instr.next (.pointer (some ⟨r, 0, none⟩)) false ty).run P w = .ok (.tuple #[.bool true, x.key, x.val]) (w1.putObj r (.mapIter (some bm) c (seen.push x.born) c)) := by
 have hlt : r < w.heap.size := (Array.getElem?_eq_some_iff.1 hr).1
 simp only [Instr.next, getObj, Sem.run_bind, Sem.run, hr, hm, Result.andThen, next_test_false seen arr c c hold (Nat.le_refl _), Bool.false_eq_true, if_false]
 have hmem : ∀ x ∈ (Array.filter (fun e => !seen.contains e.born) arr).toList, x ∈ arr.toList ∧ x.born ∉ seen.toList := fun x hx => by
  simp at hx ⊢; exact hx
 have hall : Array.filter (fun e => !seen.contains e.born) arr = #[] → ∀ x ∈ arr.toList, x.born ∈ seen.toList := fun h x hx => by
  rw [Array.filter_eq_empty_iff] at h
  have := h x (by simpa using hx)
  simpa using this
 generalize Array.filter (fun e => !seen.contains e.born) arr = L at hmem hall ⊢
 have e1 : L.filter (fun x => decide (x.born < c)) = L := Array.filter_eq_self.2 (fun x hx => by simpa using hold x (hmem x (by simpa using hx)).1)
 have e2 : L.filter (fun x => decide (x.born ≥ c)) = #[] := by
  rw [Array.filter_eq_empty_iff]
  intro x hx
  have := hold x (hmem x (by simpa using hx)).1
  simp; omega
 simp only [e1, e2, Array.append_empty]
 by_cases h0 : L.size = 0
 ·left
  have : L = #[] := Array.eq_empty_of_size_eq_zero h0
  subst this
  refine ⟨hall rfl, ?_⟩
  simp [choose, Sem.run, Question.forced]
 ·right
  have hne : L.isEmpty = false := by simp [Array.isEmpty, h0]
  simp only [hne, Bool.false_eq_true, if_false, Array.empty_append, Array.size_map]
  have hch : ∃ (j : Nat) (w1 : World), j < L.size ∧ (w1 = w ∨ w1 = w.drew) ∧ (choose (Question.mapNext L.size)).run P w = .ok j w1 := by
   by_cases hf : L.size ≤ 1
   ·exact ⟨0, w, by omega, .inl rfl, by simp [choose, Sem.run, Question.forced, hf]⟩
   ·exact ⟨_, w.drew, Nat.mod_lt _ (by omega), .inr rfl, by
     simp only [choose, Sem.run, Question.forced, decide_eq_true_eq, hf, if_false, Question.cut]
     rfl⟩
  obtain ⟨j, w1, hj, hal, hrun⟩ := hch
  have hLj : L[j] ∈ L.toList := by simp
  obtain ⟨i, hi⟩ := List.getElem?_of_mem (hmem _ hLj).1
  refine ⟨i, L[j], by simpa using hi, (hmem _ hLj).2, w1, hal, ?_⟩
  have hr1 : w1.heap[r]? = some (.mapIter (some bm) c seen c) := by rcases hal with rfl | rfl <;> exact hr
  have hset : ∀ (o' : Obj), (∃ a b s d, o' = .mapIter a b s d) → (setObj r o').run P w1 = .ok () (w1.putObj r o') := fun o' ho => by
   obtain ⟨_, _, _, _, rfl⟩ := ho
   simp only [setObj, Sem.run, hr1]
   rfl
  simp only [hrun, Array.getElem?_map, Array.getElem?_eq_getElem hj, Option.map_some, Sem.run_bind, hset _ ⟨_, _, _, _, rfl⟩, Result.andThen]
  rfl
theorem AH.put_put {σ : AH O} {b : Nat} {x y : Blk O} : (σ.put b x).put b y = σ.put b y := by
 simp only [AH.put, AH.mk.injEq, and_true]
 funext q
 cases Nat.beq q b <;> rfl
theorem AH.put_self {σ : AH O} {b : Nat} {x : Blk O} (h : σ.blk b = some x) : σ.put b x = σ := by
 have : (fun q => bif Nat.beq q b then some x else σ.blk q) = σ.blk := by
  funext q
  cases hb : Nat.beq q b with
  | true => rw [Nat.eq_of_beq_eq_true hb, h]; rfl
  | false => rfl
 show (⟨_, σ.next⟩ : AH O) = σ
 rw [this]
theorem AH.put_kill {σ : AH O} {b : Nat} {x : Blk O} : (σ.put b x).kill b = σ.kill b := by
 simp only [AH.put, AH.kill, AH.mk.injEq, and_true]
 funext q
 cases Nat.beq q b <;> rfl
theorem nodup_inj {l : List Nat} (h : l.Nodup) {i j : Nat} (hi : i < l.length) (hj : j < l.length) (e : l[i] = l[j]) : i = j := by
 have hp := List.pairwise_iff_getElem.1 h
 rcases Nat.lt_trichotomy i j with k | k | k
 ·exact absurd e (hp i j hi hj k)
 ·exact k
 ·exact absurd e.symm (hp j i hj hi k)
theorem AH.put_ne {σ : AH O} {b q : Nat} {x : Blk O} (h : q ≠ b) : (σ.put b x).blk q = σ.blk q := by
 show (bif Nat.beq q b then some x else σ.blk q) = _
 cases hb : Nat.beq q b with
 | true => exact absurd (Nat.eq_of_beq_eq_true hb) h
 | false => rfl
theorem lmOK_spec {ops : List Oper} {d : Bool} {mo : Operand} {ca cb : Code} {it tn tm out : Nat} (h : lmOK ops d mo ca cb = some (it, tn, tm, out)) :
  d = false ∧ ∃ o1 o2 : Oper, ops = [o1, o2] ∧ mo = .tmp tm ∧ ca = .skip ∧ cb = .exit out ∧ o1.op = .next (.tmp it) false ∧ o1.dst = some tn ∧ o1.guard = none ∧ o2.op = .extract (.tmp tn) 0 ∧ o2.dst = some tm ∧ o2.guard = none ∧ tn ≠ tm := by
 unfold lmOK at h
 split at h
 ·rename_i o1 o2 q out'
  split at h
  ·rename_i h1 h2 h3 h4 h5 h6
   obtain ⟨hc, h⟩ := bif_some h
   simp only [Bool.and_eq_true, Bool.not_eq_true'] at hc
   simp only [Option.some.injEq, Prod.mk.injEq] at h
   obtain ⟨rfl, rfl, rfl, rfl⟩ := h
   have k1 := Nat.eq_of_beq_eq_true hc.1.1
   have k2 := Nat.eq_of_beq_eq_true hc.1.2
   subst k1 k2
   exact ⟨rfl, o1, o2, rfl, rfl, rfl, rfl, h1, h2, h3, h4, h5, h6, fun e => by rw [e] at hc; simp at hc⟩
  ·cases h
 ·cases h
theorem itOK_spec {σ : AH O} {b m c : Nat} {idx st : List Nat} {u : Unit} (h : itOK σ b m idx st c = some u) : σ.blk b = some (.iter m idx st c) ∧ ∃ es, σ.blk m = some (.map es st c) := by
 unfold itOK at h
 split at h
 ·rename_i m' idx' st' c' hb
  split at h
  ·rename_i es st'' c'' hm
   obtain ⟨hc, _⟩ := bif_some h
   simp only [Bool.and_eq_true] at hc
   have h1 := Nat.eq_of_beq_eq_true hc.1.1.1.1.1
   have h2 := eq_of_beq hc.1.1.1.1.2
   have h3 := eq_of_beq hc.1.1.1.2
   have h4 := Nat.eq_of_beq_eq_true hc.1.1.2
   have h5 := eq_of_beq hc.1.2
   have h6 := Nat.eq_of_beq_eq_true hc.2
   subst h1 h2 h3 h4 h5 h6
   exact ⟨hb, es, hm⟩
  ·cases h
 ·cases h
theorem lm_rounds {ro : Option Nat} {rid : Nat} {ops : Array Oper} {mo : Operand} {ca cb body : Code} {it tn tm out : Nat} (hlm : lmOK ops.toList false mo ca cb = some (it, tn, tm, out))
  (hd : dstsOK n (.seq (.region rid ops false) (.seq (.cond mo ca cb) body)) = true) (hit : it ∉ writesOf (.seq (.region rid ops false) (.seq (.cond mo ca cb) body)))
  {e : Env} {σ : AH O} {b m c : Nat} {st : List Nat} (heb : e it = .p (some (.n b, 0))) (hbm : b ≠ m)
  {f : Nat → List Nat → List AV × AH O → Option (List AV × AH O)} {head : List (Nat × Ty)}
  (hbody : ∀ (i : Nat) (dn : List Nat) (σr : AH O) (S' : List AV × AH O) (e1 : Env), f i dn (packE head e1, σr) = some S' → ∃ (e' e2 : Env) (σ2 : AH O), (∀ t, e' t = e1 t ∨ e' t = .u ∨ (t ∉ writesOf (.seq (.region rid ops false) (.seq (.cond mo ca cb) body)) ∧ e' t = e t)) ∧
   CodeOK RO P n ro body (σr.put b (.iter m (dn ++ [i]) st c)) ((e'.set tn .u).set tm (.b true)) .norm e2 σ2 ∧ itOK σ2 b m (dn ++ [i]) st c = some () ∧ S' = (packE head e2, σ2.put b (.iter m [] st c)))
  (hhead : ∀ s ∈ head, s.1 ≠ tn ∧ s.1 ≠ tm) {t : List AV × AH O} (ht : foldAny f st.length (packE head e, σ) = some t)
  {ρ0 : Inj} {fp0 : Fp} {a0 : Act} {w0 : World} (he0 : EnvRel n ρ0 e a0) {L : Loc} (hL : ρ0 b = some L)
  {Q : Exit → Act → World → Prop} (hQ : ∀ a' w' ρ' fp' e1, packE head e1 = t.1 → EnvRel n ρ' e1 a' → (∀ B0, Marks B0 fp0 w0 a0.defers → Marks B0 fp' w' a'.defers) → (∀ t, t ∉ writesOf (.seq (.region rid ops false) (.seq (.cond mo ca cb) body)) → a'.tmps.getD t undef = a0.tmps.getD t undef) →
   Post RO P (· < σ.next) ρ0 fp0 σ w0 ρ' fp' (t.2.kill b) w' → Q (.exit out) a' w') :
  ∀ (rem : Nat) (dn : List Nat), dn.Nodup → (∀ i ∈ dn, i < st.length) → rem + dn.length = st.length →
   ∀ (σr : AH O) (e1 : Env), foldO f dn [] (packE head e, σ) = some (packE head e1, σr) → (∃ es, σr.blk m = some (.map es st c)) →
   ∀ (ρ : Inj) (fp : Fp) (a : Act) (w : World), EnvRel n ρ e1 a → (∀ B0, Marks B0 fp0 w0 a0.defers → Marks B0 fp w a.defers) → (∀ t, t ∉ writesOf (.seq (.region rid ops false) (.seq (.cond mo ca cb) body)) → a.tmps.getD t undef = a0.tmps.getD t undef) →
   Post RO P (· < σ.next) ρ0 fp0 σ w0 ρ fp (σr.put b (.iter m dn st c)) w → Code.roundsIn (Fw ro) 0 P (.seq (.region rid ops false) (.seq (.cond mo ca cb) body)) Q (rem + 1) a w := by
 obtain ⟨-, o1, o2, eo, rfl, rfl, rfl, p1, p2, p3, q1, q2, q3, hne⟩ := lmOK_spec hlm
 have eops : ops = #[o1, o2] := by apply Array.ext'; rw [eo]
 have htn : tn < n := dstsOK_spec hd tn (by simp [writesOf, dstsOf, eo, p2])
 have htm : tm < n := dstsOK_spec hd tm (by simp [writesOf, dstsOf, eo, q2])
 have hwn : ∀ q, q ∉ writesOf (.seq (.region rid ops false) (.seq (.cond (.tmp tm) .skip (.exit out)) body)) → q ≠ tn ∧ q ≠ tm := fun q hq => by
  constructor
  ·intro e; exact hq (by simp [writesOf, dstsOf, eo, p2, e])
  ·intro e; exact hq (by simp [writesOf, dstsOf, eo, q2, e])
 have hwb : ∀ q, q ∉ writesOf (.seq (.region rid ops false) (.seq (.cond (.tmp tm) .skip (.exit out)) body)) → q ∉ writesOf body := fun q hq h => hq (by simp [writesOf, h])
 have hpack : ∀ (e1 : Env) (u v : AV), packE head ((e1.put (some tn) u).put (some tm) v) = packE head e1 := fun e1 u v => List.map_congr_left fun q hq => by
  obtain ⟨h1, h2⟩ := hhead q hq
  simp only [Env.put, Env.set_get, if_neg h1, if_neg h2]
 have hkeep2 : ∀ (a : Act) (u v : Value) (q : Nat), q ∉ writesOf (.seq (.region rid ops false) (.seq (.cond (.tmp tm) .skip (.exit out)) body)) → ((a.put (some tn) u).put (some tm) v).tmps.getD q undef = a.tmps.getD q undef := fun a u v q hq => by
  rw [put_keep (fun d hd' => by cases hd'; exact (hwn q hq).2), put_keep (fun d hd' => by cases hd'; exact (hwn q hq).1)]
 intro rem
 induction rem with
 | zero =>
  intro dn hnd hlt hlen σr e1 hfold hmap ρ fp a w he hmk hkeep hpost
  have hblk : (σr.put b (.iter m dn st c)).blk b = some (.iter m dn st c) := by simp [AH.put]
  have hLb : ρ b = some L := hpost.le.l _ _ hL
  obtain ⟨hO, M, hM, hown⟩ := hpost.rel.blk _ _ _ hblk hLb
  obtain ⟨es, hes⟩ := hmap
  have hblkm : (σr.put b (.iter m dn st c)).blk m = some (.map es st c) := by rw [AH.put_ne (Ne.symm hbm)]; exact hes
  obtain ⟨arr, g1, g2, g3, g4, g5⟩ := hpost.rel.blk _ _ _ hblkm hM
  have hw1 := hpost.rel.has b L.B _ (by rw [hown]; exact one_self _ _)
  have hw2 := hpost.rel.has m M.B _ (by rw [g1]; exact one_self _ _)
  have hev : a.eval (.tmp it) = .pointer (some ⟨L.B, 0, none⟩) := by
   have h1 := he0.get it
   rw [heb] at h1
   have h2 : a.tmps.getD it undef = a0.tmps.getD it undef := hkeep it hit
   show a.tmps.getD it undef = _
   rw [h2]
   generalize a0.tmps.getD it undef = u at h1
   cases h1 with
   | p _ _ L' hL' => have := hL'.n_inv; rw [hL] at this; cases this; rw [hO]
  have hst : ∀ (i : Nat) (x : MapEntry), arr[i]? = some x → st[i]? = some x.born := fun i x hx => by rw [← g3, List.getElem?_map, Array.getElem?_toList, hx]; rfl
  have hsz : arr.size = st.length := by rw [← g3]; simp
  rw [roundsIn_succ]
  refine wpIn_seq (wpIn_region ?_)
  subst eops
  simp only [List.size_toArray, List.length_cons, List.length_nil, Nat.reduceAdd, List.range, List.range.loop, wpOpsIn, List.getElem?_toArray, List.getElem?_cons_zero, List.getElem?_cons_succ, Region.wanted, p3, q3, if_true]
  have hext : ∀ (u : Value) (more : Bool) (us : List Value), u = .tuple (Value.bool more :: us).toArray → ∀ w' : World, (execOp (a.put (some tn) u).eval o2).run P w' = .ok (.value (.bool more)) w' := fun u more us hu w' => by
   have ev2 : (a.put (some tn) u).eval (.tmp tn) = u := by
    show (a.tmps.setIfInBounds tn u).getD tn undef = u
    simp [Array.getD, show tn < a.tmps.size by rw [he.size]; exact htn]
   have hx : (Instr.extract u 0).run P w' = .ok (.bool more) w' := by subst hu; rfl
   simp [execOp, q1, ev2, hx]
  have hcond : ∀ (u : Value) (more : Bool), ((a.put (some tn) u).put (some tm) (.bool more)).eval (.tmp tm) = .bool more := fun u more => by
   show ((a.tmps.setIfInBounds tn u).setIfInBounds tm (.bool more)).getD tm undef = _
   simp [Array.getD, show tm < a.tmps.size by rw [he.size]; exact htm]
  rcases next_run (P := P) o1.type hw1 hw2 (fun x hx => g4 x.born (by rw [← g3]; exact List.mem_map.2 ⟨x, hx, rfl⟩)) with ⟨hall, hrun⟩ | ⟨i, x, hix, hnew, w1, hw1', hrun⟩
  ·
   have hr1 : (execOp a.eval o1).run P w = .ok (.value (.tuple #[.bool false])) w := by simp [execOp, p1, hev, hrun]
   refine wpIn_of (no_defer hr1 (.inl ⟨_, _, rfl⟩)) hr1 ?_
   rw [Oper.uponIn_value, p2]
   have hr2 := hext (.tuple #[.bool false]) false [] rfl w
   refine wpIn_of (no_defer hr2 (.inl ⟨_, _, rfl⟩)) hr2 ?_
   rw [Oper.uponIn_value, q2]
   refine wpIn_seq (wpIn_cond_false (hcond _ false) (wpIn_exit ?_))
   have hperm : dn.Perm (List.range st.length) := by
    refine (List.perm_ext_iff_of_nodup hnd List.nodup_range).2 fun i => ?_
    simp only [List.mem_range]
    refine ⟨hlt i, fun hi => ?_⟩
    have hx : arr[i]? = some arr[i] := by rw [Array.getElem?_eq_getElem (by omega)]
    have h1 := hall _ (show arr[i] ∈ arr.toList by simp)
    simp only [List.mem_map] at h1
    obtain ⟨j, hj, hj2⟩ := h1
    have h2 := hst i _ hx
    have hjl := hlt j hj
    rw [List.getD_eq_getElem?_getD, List.getElem?_eq_getElem hjl] at hj2
    simp only [Option.getD_some] at hj2
    have h3 := (List.getElem?_eq_some_iff.1 h2).2
    have h4 : i = j := nodup_inj g5 hi hjl (h3.trans hj2.symm)
    rw [h4]; exact hj
   have hfin := foldAny_spec ht dn hperm
   rw [hfold] at hfin
   cases hfin
   obtain ⟨fp2, hk⟩ := Post.kill (S := (· < σ.next)) hpost.rel b
   rw [AH.put_kill] at hk
   refine hQ _ _ ρ fp2 ((e1.put (some tn) .u).put (some tm) .u) (hpack e1 _ _) ?_ ?_ (fun q hq => (hkeep2 a _ _ q hq).trans (hkeep q hq)) (hpost.trans hk)
   ·exact (he.put (fun d hd' => by cases hd'; exact htn) (.u _)).put (fun d hd' => by cases hd'; exact htm) (.u _)
   ·exact fun B0 hB => (hmk B0 hB).post hk
  ·
   have hilt : i < st.length := by have := (Array.getElem?_eq_some_iff.1 hix).1; omega
   have hidn : i ∉ dn := fun h => hnew (by
    have h2 := hst i x hix
    simp only [List.mem_map]
    exact ⟨i, h, by rw [List.getD_eq_getElem?_getD, h2]; rfl⟩)
   have hnd2 : (dn ++ [i]).Nodup := List.nodup_append.2 ⟨hnd, by simp, fun a ha b hb e => by simp at hb; subst hb; subst e; exact hidn ha⟩
   have hlt2 : ∀ j ∈ dn ++ [i], j < st.length := fun j hj => by
    rcases List.mem_append.1 hj with h | h
    ·exact hlt j h
    ·simp at h; subst h; exact hilt
   have := (restOf_perm hnd2 hlt2).length_eq
   simp at this
   omega
 | succ rem ih =>
  intro dn hnd hlt hlen σr e1 hfold hmap ρ fp a w he hmk hkeep hpost
  have hblk : (σr.put b (.iter m dn st c)).blk b = some (.iter m dn st c) := by simp [AH.put]
  have hLb : ρ b = some L := hpost.le.l _ _ hL
  obtain ⟨hO, M, hM, hown⟩ := hpost.rel.blk _ _ _ hblk hLb
  obtain ⟨es, hes⟩ := hmap
  have hblkm : (σr.put b (.iter m dn st c)).blk m = some (.map es st c) := by rw [AH.put_ne (Ne.symm hbm)]; exact hes
  obtain ⟨arr, g1, g2, g3, g4, g5⟩ := hpost.rel.blk _ _ _ hblkm hM
  have hw1 := hpost.rel.has b L.B _ (by rw [hown]; exact one_self _ _)
  have hw2 := hpost.rel.has m M.B _ (by rw [g1]; exact one_self _ _)
  have hev : a.eval (.tmp it) = .pointer (some ⟨L.B, 0, none⟩) := by
   have h1 := he0.get it
   rw [heb] at h1
   have h2 : a.tmps.getD it undef = a0.tmps.getD it undef := hkeep it hit
   show a.tmps.getD it undef = _
   rw [h2]
   generalize a0.tmps.getD it undef = u at h1
   cases h1 with
   | p _ _ L' hL' => have := hL'.n_inv; rw [hL] at this; cases this; rw [hO]
  have hst : ∀ (i : Nat) (x : MapEntry), arr[i]? = some x → st[i]? = some x.born := fun i x hx => by rw [← g3, List.getElem?_map, Array.getElem?_toList, hx]; rfl
  have hsz : arr.size = st.length := by rw [← g3]; simp
  rw [roundsIn_succ]
  refine wpIn_seq (wpIn_region ?_)
  subst eops
  simp only [List.size_toArray, List.length_cons, List.length_nil, Nat.reduceAdd, List.range, List.range.loop, wpOpsIn, List.getElem?_toArray, List.getElem?_cons_zero, List.getElem?_cons_succ, Region.wanted, p3, q3, if_true]
  have hext : ∀ (u : Value) (more : Bool) (us : List Value), u = .tuple (Value.bool more :: us).toArray → ∀ w' : World, (execOp (a.put (some tn) u).eval o2).run P w' = .ok (.value (.bool more)) w' := fun u more us hu w' => by
   have ev2 : (a.put (some tn) u).eval (.tmp tn) = u := by
    show (a.tmps.setIfInBounds tn u).getD tn undef = u
    simp [Array.getD, show tn < a.tmps.size by rw [he.size]; exact htn]
   have hx : (Instr.extract u 0).run P w' = .ok (.bool more) w' := by subst hu; rfl
   simp [execOp, q1, ev2, hx]
  have hcond : ∀ (u : Value) (more : Bool), ((a.put (some tn) u).put (some tm) (.bool more)).eval (.tmp tm) = .bool more := fun u more => by
   show ((a.tmps.setIfInBounds tn u).setIfInBounds tm (.bool more)).getD tm undef = _
   simp [Array.getD, show tm < a.tmps.size by rw [he.size]; exact htm]
  rcases next_run (P := P) o1.type hw1 hw2 (fun x hx => g4 x.born (by rw [← g3]; exact List.mem_map.2 ⟨x, hx, rfl⟩)) with ⟨hall, hrun⟩ | ⟨i, x, hix, hnew, w1, hw1', hrun⟩
  ·
   have hr1 : (execOp a.eval o1).run P w = .ok (.value (.tuple #[.bool false])) w := by simp [execOp, p1, hev, hrun]
   refine wpIn_of (no_defer hr1 (.inl ⟨_, _, rfl⟩)) hr1 ?_
   rw [Oper.uponIn_value, p2]
   have hr2 := hext (.tuple #[.bool false]) false [] rfl w
   refine wpIn_of (no_defer hr2 (.inl ⟨_, _, rfl⟩)) hr2 ?_
   rw [Oper.uponIn_value, q2]
   refine wpIn_seq (wpIn_cond_false (hcond _ false) (wpIn_exit ?_))
   have hperm : dn.Perm (List.range st.length) := by
    refine (List.perm_ext_iff_of_nodup hnd List.nodup_range).2 fun i => ?_
    simp only [List.mem_range]
    refine ⟨hlt i, fun hi => ?_⟩
    have hx : arr[i]? = some arr[i] := by rw [Array.getElem?_eq_getElem (by omega)]
    have h1 := hall _ (show arr[i] ∈ arr.toList by simp)
    simp only [List.mem_map] at h1
    obtain ⟨j, hj, hj2⟩ := h1
    have h2 := hst i _ hx
    have hjl := hlt j hj
    rw [List.getD_eq_getElem?_getD, List.getElem?_eq_getElem hjl] at hj2
    simp only [Option.getD_some] at hj2
    have h3 := (List.getElem?_eq_some_iff.1 h2).2
    have h4 : i = j := nodup_inj g5 hi hjl (h3.trans hj2.symm)
    rw [h4]; exact hj
   have hfin := foldAny_spec ht dn hperm
   rw [hfold] at hfin
   cases hfin
   obtain ⟨fp2, hk⟩ := Post.kill (S := (· < σ.next)) hpost.rel b
   rw [AH.put_kill] at hk
   refine hQ _ _ ρ fp2 ((e1.put (some tn) .u).put (some tm) .u) (hpack e1 _ _) ?_ ?_ (fun q hq => (hkeep2 a _ _ q hq).trans (hkeep q hq)) (hpost.trans hk)
   ·exact (he.put (fun d hd' => by cases hd'; exact htn) (.u _)).put (fun d hd' => by cases hd'; exact htm) (.u _)
   ·exact fun B0 hB => (hmk B0 hB).post hk
  ·
   have hilt : i < st.length := by have := (Array.getElem?_eq_some_iff.1 hix).1; omega
   have hidn : i ∉ dn := fun h => hnew (by
    have h2 := hst i x hix
    simp only [List.mem_map]
    exact ⟨i, h, by rw [List.getD_eq_getElem?_getD, h2]; rfl⟩)
   have hnd2 : (dn ++ [i]).Nodup := List.nodup_append.2 ⟨hnd, by simp, fun a ha b hb e => by simp at hb; subst hb; subst e; exact hidn ha⟩
   have hlt2 : ∀ j ∈ dn ++ [i], j < st.length := fun j hj => by
    rcases List.mem_append.1 hj with h | h
    ·exact hlt j h
    ·simp at h; subst h; exact hilt
   obtain ⟨S', hS'⟩ := foldAny_pre ht hnd2 hlt2
   have hS2 := hS'
   rw [foldO_app, hfold] at hS2
   simp only [Option.bind_some, List.nil_append, foldO] at hS2
   obtain ⟨S'', hS2, hS3⟩ := Option.bind_eq_some_iff.1 hS2
   cases hS3
   obtain ⟨e', e2, σ2, k1, k2, k3, rfl⟩ := hbody i dn σr S' e1 hS2
   obtain ⟨j1, es2, j2⟩ := itOK_spec k3
   have hd1 : Post RO P (· < σ.next) ρ fp (σr.put b (.iter m dn st c)) w ρ fp (σr.put b (.iter m dn st c)) w1 := by
    rcases hw1' with rfl | rfl
    ·exact Post.refl hpost.rel
    ·exact Post.drew hpost.rel
   obtain ⟨fp1, hp1⟩ := Post.setG (S := (· < σ.next)) hd1.rel hblk hLb hown (x1 := .iter m (dn ++ [i]) st c) (ob' := .mapIter (some M.B) c ((dn.map (st.getD · 0)).toArray.push x.born) c) (fun w' => ⟨hO, M, hM, by
    have h2 := hst i x hix
    simp [List.getD_eq_getElem?_getD, h2]⟩)
   rw [AH.put_put] at hp1
   have hr1 : (execOp a.eval o1).run P w = .ok (.value (.tuple #[.bool true, x.key, x.val])) (w1.putObj L.B (.mapIter (some M.B) c ((dn.map (st.getD · 0)).toArray.push x.born) c)) := by simp [execOp, p1, hev, hrun]
   refine wpIn_of (no_defer hr1 (.inl ⟨_, _, rfl⟩)) hr1 ?_
   rw [Oper.uponIn_value, p2]
   have hr2 := hext (.tuple #[.bool true, x.key, x.val]) true [x.key, x.val] rfl (w1.putObj L.B (.mapIter (some M.B) c ((dn.map (st.getD · 0)).toArray.push x.born) c))
   refine wpIn_of (no_defer hr2 (.inl ⟨_, _, rfl⟩)) hr2 ?_
   rw [Oper.uponIn_value, q2]
   refine wpIn_seq (wpIn_cond_true (hcond _ true) (wpIn_skip ?_))
   have hT := hpost.trans (hd1.trans hp1)
   have hee : EnvRel n ρ e' a := he0.join hpost.le he hkeep k1
   have hee2 : EnvRel n ρ ((e'.set tn .u).set tm (.b true)) ((a.put (some tn) (.tuple #[.bool true, x.key, x.val])).put (some tm) (.bool true)) :=
    EnvRel.put (d := some tm) (EnvRel.put (d := some tn) hee (fun d hd' => by cases hd'; exact htn) (.u _)) (fun d hd' => by cases hd'; exact htm) (.b _)
   refine k2 ρ fp1 _ _ hee2 hT.rel _ fun a' w' ρ' fp' l1 l2 l3 l4 => ?_
   have hT2 := hT.trans (l4.mono fun q hq => Nat.lt_of_lt_of_le hq hT.next)
   refine ih (dn ++ [i]) hnd2 hlt2 (by simp; omega) (σ2.put b (.iter m [] st c)) e2 hS' ⟨es2, by rw [AH.put_ne (Ne.symm hbm)]; exact j2⟩ ρ' fp' a' w' l1 (fun B0 hB => l2 B0 (((hmk B0 hB).post hd1).post hp1)) (fun q hq => ?_) ?_
   ·rw [l3 q (hwb q hq), hkeep2 a _ _ q hq]; exact hkeep q hq
   ·rw [AH.put_put, AH.put_self j1]; exact hT2
end Go.Abs
