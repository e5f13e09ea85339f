/-
  The statement PoolPlays: one call, at the pool and in its document. No conditions.
-/
import Derived.Test.YtjfblnpolgoojaaR10f
set_option linter.unusedVariables false
set_option linter.unusedSimpArgs false
set_option linter.constructorNameAsVariable false
set_option linter.unusedSimpArgs false
set_option linter.unusedVariables false
set_option linter.unusedSectionVars false
set_option maxHeartbeats 2000000
namespace Go.Abs.Try
open Go Go.Abs
variable {O : Type}

structure POp where
  kind : Int
  id : Int
  word : Int
  w : Int
def POp.cells (o : POp) : List AV := [.i .i64 o.kind, .i .i64 o.id, .i .i64 o.word, .i .u64 o.w]
theorem POp.len (o : POp) : o.cells.length = 4 := rfl
structure POp.rng (o : POp) : Prop where
  kind : -9223372036854775808 ≤ o.kind ∧ o.kind ≤ 9223372036854775807
  id : -9223372036854775808 ≤ o.id ∧ o.id ≤ 9223372036854775807
  word : -9223372036854775808 ≤ o.word ∧ o.word ≤ 9223372036854775807
  w : 0 ≤ o.w ∧ o.w < 18446744073709551616
theorem popsOf {sa : SA} {els : List (List AV)} (hrow : ∀ el ∈ els, ∃ ns : List Int, el = List.zipWith AV.i [.i64, .i64, .i64, .u64] ns ∧ ns.length = 4 ∧ ∀ (i : Nat) (k : IntKind) (n : Int), ([.i64, .i64, .i64, .u64] : List IntKind)[i]? = some k → ns[i]? = some n → k.min ≤ n ∧ n ≤ k.max)
    (himm : Imm 4 sa els.length els.flatten) : ∃ ops : List POp, els.length = ops.length ∧ Imm 4 sa ops.length (ops.flatMap POp.cells) ∧ ∀ o ∈ ops, o.rng := by
  have : ∃ ops : List POp, els = ops.map POp.cells ∧ ∀ o ∈ ops, o.rng := by
    clear himm
    induction els with
    | nil => exact ⟨[], rfl, by simp⟩
    | cons el els ih =>
      obtain ⟨ops, e, hr⟩ := ih fun x hx => hrow x (List.mem_cons_of_mem _ hx)
      obtain ⟨ns, rfl, hl, hn⟩ := hrow el List.mem_cons_self
      match ns, hl with
      | [a, b, c, d], _ =>
        refine ⟨⟨a, b, c, d⟩ :: ops, by rw [e]; rfl, fun o ho => ?_⟩
        rcases List.mem_cons.1 ho with rfl | ho
        · exact ⟨wf_i64 (hn 0 _ _ rfl rfl), wf_i64 (hn 1 _ _ rfl rfl), wf_i64 (hn 2 _ _ rfl rfl), wf_u64 (hn 3 _ _ rfl rfl)⟩
        · exact hr o ho
  obtain ⟨ops, rfl, hr⟩ := this
  exact ⟨ops, by simp, by simpa [List.flatMap_def] using himm, hr⟩
/-- the document's state and the pool's -/
structure Sim (D : DS) (S : PoolS) : Prop where
  words : D.words = S.words
  room : D.room = S.room
  len : D.L.length = S.E.length
  el : ∀ (i : Nat) (d : DE) (e : PE), D.L[i]? = some d → S.E[i]? = some e → d.tk = e.tk ∧ d.gen = e.gen ∧ d.ws.length = S.words ∧ (e.tk = true → d.ws = e.ws)
  free : D.free = (S.free.map fun (i : Nat) => (i : Int)).reverse
/-- not much was done -/
structure Bd (k : Nat) (S : PoolS) : Prop where
  w : 1 ≤ S.words ∧ S.words ≤ 60
  e : S.E.length ≤ k
  f : S.free.length ≤ k
  g : ∀ e ∈ S.E, e.gen ≤ k
  r : S.room ≤ 160
theorem Sim.get {D : DS} {S : PoolS} (h : Sim D S) {i : Nat} {e : PE} (he : S.E[i]? = some e) : ∃ d, D.L[i]? = some d ∧ d.tk = e.tk ∧ d.gen = e.gen ∧ d.ws.length = S.words ∧ (e.tk = true → d.ws = e.ws) := by
  have hi := (List.getElem?_eq_some_iff.1 he).1
  have hd := List.getElem?_eq_getElem (show i < D.L.length by rw [h.len]; exact hi)
  exact ⟨_, hd, h.el i _ _ hd he⟩
theorem Sim.get' {D : DS} {S : PoolS} (h : Sim D S) {i : Nat} {d : DE} (hd : D.L[i]? = some d) : ∃ e, S.E[i]? = some e ∧ d.tk = e.tk ∧ d.gen = e.gen ∧ d.ws.length = S.words ∧ (e.tk = true → d.ws = e.ws) := by
  have hi := (List.getElem?_eq_some_iff.1 hd).1
  have he := List.getElem?_eq_getElem (show i < S.E.length by rw [← h.len]; exact hi)
  exact ⟨_, he, h.el i _ _ hd he⟩
theorem Sim.small {D : DS} {S : PoolS} (h : Sim D S) {k : Nat} (b : Bd k S) (hk : k ≤ 80) : D.small := by
  refine ⟨by rw [h.len]; have := b.e; omega, by rw [h.free]; simp; have := b.f; omega, fun d hd => ?_⟩
  obtain ⟨i, hi⟩ := List.getElem?_of_mem hd
  obtain ⟨e, _, _, _, hw, _⟩ := h.get' hi
  have := b.w; omega
theorem Sim.set {D : DS} {S : PoolS} (h : Sim D S) {i : Nat} {d : DE} {e : PE} (h1 : d.tk = e.tk) (h2 : d.gen = e.gen) (h3 : d.ws.length = S.words) (h4 : e.tk = true → d.ws = e.ws) {f : List Int} {f' : List Nat} (hf : f = (f'.map fun (i : Nat) => (i : Int)).reverse) (t : Nat) :
    Sim { D with L := D.L.set i d, free := f } { S with E := S.E.set i e, free := f', taken := t } := by
  refine ⟨h.words, h.room, by simp [h.len], fun j x y hx hy => ?_, hf⟩
  simp only [List.getElem?_set] at hx hy
  by_cases c : i = j
  · subst c
    simp only [if_true] at hx hy
    split at hx
    · split at hy
      · simp only [Option.some.injEq] at hx hy
        subst hx; subst hy
        exact ⟨h1, h2, h3, h4⟩
      · cases hy
    · cases hx
  · rw [if_neg c] at hx hy
    exact h.el j x y hx hy
theorem Bd.set {k : Nat} {S : PoolS} (h : Bd k S) {i : Nat} {e : PE} (hg : e.gen ≤ k + 1) {f : List Nat} (hf : f.length ≤ k + 1) (t : Nat) : Bd (k + 1) { S with E := S.E.set i e, free := f, taken := t } :=
  ⟨h.w, by simp; have := h.e; omega, hf, fun x hx => by
    rcases List.mem_or_eq_of_mem_set hx with hx | hx
    · have := h.g x hx; omega
    · subst hx; exact hg, h.r⟩
theorem Bd.up {k : Nat} {S : PoolS} (h : Bd k S) : Bd (k + 1) S := ⟨h.w, by have := h.e; omega, by have := h.f; omega, fun x hx => by have := h.g x hx; omega, h.r⟩
theorem more_le {k : Nat} {S : PoolS} (h : Bd k S) (hk : k < 80) : S.more ≤ 160 := by
  unfold PoolS.more
  have h1 := h.e
  have h2 := h.r
  split
  · exact h2
  · rw [Nat.max_def]; split <;> omega
/-- what a call does -/
structure Did (σ : AH O) (pb mb : Nat) (M : MemS) (D : DS) (S : PoolS) (X : List Nat) (k : Nat) (r : AV × AH O) : Prop where
  it : ∃ v D' S' M' w' most dr dw, r.1 = .tup [v, .i .u64 most, .b true] ∧ D'.at_ v ∧ Sim D' S' ∧ Bd (k + 1) S' ∧ PoolAt r.2 pb mb M' S' w' X ∧ Wrt M M' S.id w' dr dw ∧ 0 ≤ dr ∧ 0 ≤ dw ∧ dr + dw ≤ most ∧ most ≤ 100 ∧ S'.id = S.id ∧ S'.words = S.words
  kp : Keep X σ r.2
section
variable {σ : AH O} {pb mb : Nat} {M : MemS} {S : PoolS} {w : List Int} {X : List Nat} {D : DS} {k : Nat} {v : AV} {o : POp}
/-- the three boxes -/
theorem boxes (h : PoolAt σ pb mb M S w X) (x y z : Blk O) : PoolAt ((((σ.bump 3).put σ.next x).put (σ.next + 1) y).put (σ.next + 1 + 1) z) pb mb M S w (σ.next :: (σ.next + 1) :: (σ.next + 1 + 1) :: X) ∧ Keep X σ ((((σ.bump 3).put σ.next x).put (σ.next + 1) y).put (σ.next + 1 + 1) z) := by
  have E : Ext σ ((((σ.bump 3).put σ.next x).put (σ.next + 1) y).put (σ.next + 1 + 1) z) := ((((Ext.refl σ).bump 3).put (Nat.le_refl _) _).put (by omega) _).put (by omega) _
  refine ⟨h.turn (L := []) E.chg (by simp) fun b hb => ?_, h.mi.tail.keepExt E⟩
  simp only [List.mem_cons] at hb
  have hn : ((((σ.bump 3).put σ.next x).put (σ.next + 1) y).put (σ.next + 1 + 1) z).next = σ.next + 3 := rfl
  rcases hb with hb | hb | hb | hb
  · right; omega
  · right; omega
  · right; omega
  · exact .inl hb
theorem PoolAt.gone {σ' : AH O} {a b c : Nat} (h : PoolAt σ' pb mb M S w (a :: b :: c :: X)) {x y : Blk O} {q r : Nat} (hq : q ∈ a :: b :: c :: X) (hr : r ∈ a :: b :: c :: X) : PoolAt ((σ'.put q x).put r y) pb mb M S w X := by
  have hl := fun b hb => h.mi.tail.lt b hb
  refine h.turn (L := [q, r]) ⟨by simp, fun b hb hm => by simp at hm; rw [s_bn (by omega), s_bn (by omega)]⟩ (fun b hb => ?_) fun b hb => .inl (by simp [hb])
  simp at hb
  rcases hb with rfl | rfl
  · exact .inl hq
  · exact .inl hr
theorem Keep.gone {σ0 σ' : AH O} {q r : Nat} (h : Keep X σ0 σ') (hX : ∀ b ∈ X, b < σ0.next) (hq : σ0.next ≤ q) (hr : σ0.next ≤ r) {x y : Blk O} : Keep X σ0 ((σ'.put q x).put r y) :=
  ⟨h.next, fun b hb => by have := hX b hb; rw [s_bn (by omega), s_bn (by omega)]; exact h.blk b hb⟩
theorem do_take (h : PoolAt σ pb mb M S w X) (hc : M.calm) (sim : Sim D S) (bd : Bd k S) (hk : k < 80) (hv : D.at_ v) (hm : M.met.r ≤ 1000000 ∧ M.met.w ≤ 1000000) {a b c : Int} :
    Ok (law10_do [.p (some (.n pb, 0)), v, .agg [.i .i64 0, .i .i64 a, .i .i64 b, .i .u64 c]] σ) (Did σ pb mb M D S X k) := by
  have hsm := sim.small bd (by omega)
  have hww := bd.w
  have hX : ∀ b ∈ X, b < σ.next := h.mi.tail.lt
  have hE := bd.e
  have hw0 := sim.words
  have hmore := more_le bd hk
  have hmul : S.more * (S.words + 1) ≤ 160 * 61 := Nat.mul_le_mul hmore (by omega)
  obtain ⟨va, vb, rfl, ha, hb⟩ := id hv
  obtain ⟨sa, _, rfl, _, _⟩ := Im.rd ha
  obtain ⟨sb, _, rfl, _, _⟩ := Im.rd hb
  simp (config := { maxSteps := 2000000 }) -implicitDefEqProofs (disch := (first | omega | rfl | assumption | (simp only [rsD]; first | omega | assumption))) only [law10_do, law10_do_c, Nat.reduceAdd, Nat.reduceMul, Nat.reduceLT, Int.reduceToNat, Int.reduceAdd, Int.reduceSub, Int.reduceMul, rsU, rsC]
  obtain ⟨h1, k1⟩ := boxes h (.cells true 123 [.i .i64 D.words, .sl sa D.L.length, .sl sb D.free.length, .i .i64 D.room]) (.cells true 116 [.i .i64 0, .i .i64 a, .i .i64 b, .i .u64 c]) (.cells true 123 [.i .i64 0, .sl .nil 0, .sl .nil 0, .i .i64 0])
  generalize hσ : AH.put _ (σ.next + 1 + 1) _ = σ1 at *
  have b0 : σ1.blk σ.next = some (.cells true 123 [.i .i64 D.words, .sl sa D.L.length, .sl sb D.free.length, .i .i64 D.room]) := by rw [← hσ, s_bn (by omega), s_bn (by omega)]; exact s_bs
  have b2 : σ1.blk (σ.next + 1 + 1) = some (.cells true 123 [.i .i64 0, .sl .nil 0, .sl .nil 0, .i .i64 0]) := by rw [← hσ]; exact s_bs
  clear hσ
  have fin : ∀ (σ2 : AH O) (D' : DS) (S' : PoolS) (n : Int), Sim D' S' → Bd (k + 1) S' → S'.id = S.id → S'.words = S.words → D'.words = D.words → (1 ≤ n ∧ n ≤ 100) → ∀ {M' : MemS} {w' : List Int} {dr dw : Int}, PoolAt σ2 pb mb M' S' w' (σ.next :: (σ.next + 1) :: (σ.next + 1 + 1) :: X) → Wrt M M' S.id w' dr dw → 0 ≤ dr → 0 ≤ dw → dr + dw ≤ 3 + S.words → Keep (σ.next :: (σ.next + 1) :: (σ.next + 1 + 1) :: X) σ1 σ2 →
      Ok (haymowref10_Take [.agg [.i .i64 D.words, .sl sa D.L.length, .sl sb D.free.length, .i .i64 D.room]] σ2) (fun r => (∃ v', r.1 = .tup [v', .i .i64 n] ∧ D'.at_ v') ∧ Ext σ2 r.2) →
      Ok (haymowref10_Take [.agg [.i .i64 D.words, .sl sa D.L.length, .sl sb D.free.length, .i .i64 D.room]] σ2) fun r => ∃ w1 w2 : SA, ∃ m1 m2 : Nat, r.1 = .tup [.agg [.i .i64 D'.words, .sl w1 m1, .sl w2 m2, .i .i64 D'.room], .i .i64 n] ∧ r.2.blk σ.next = σ1.blk σ.next ∧ r.2.blk (σ.next + 1 + 1) = σ1.blk (σ.next + 1 + 1) ∧ ∀ x y, Did σ pb mb M D S X k (.tup [.agg [.i .i64 D'.words, .sl w1 m1, .sl w2 m2, .i .i64 D'.room], .i .u64 (3 + D.words), .b true], (r.2.put σ.next x).put (σ.next + 1 + 1) y) := by
    intro σ2 D' S' n sim' bd' hid hwo hdw hn M' w' dr dw hp hwr h0 h1' hle kp ht
    refine ht.mono ?_
    rintro ⟨q, σ3⟩ ⟨⟨v', e, hv'⟩, E3⟩
    simp only at e E3
    subst e
    obtain ⟨wa, wb, rfl, ha', hb'⟩ := id hv'
    obtain ⟨w1, _, rfl, _, _⟩ := Im.rd ha'
    obtain ⟨w2, _, rfl, _, _⟩ := Im.rd hb'
    have l0 := hp.mi.tail.lt
    refine ⟨w1, w2, _, _, rfl, (E3.blk _ (l0 _ (by simp))).trans (kp.blk _ (by simp)), (E3.blk _ (l0 _ (by simp))).trans (kp.blk _ (by simp)), fun x y => ⟨⟨_, D', S', M', w', 3 + D.words, dr, dw, rfl, hv', sim', bd', (hp.ext E3).gone (by simp) (by simp), hwr, h0, h1', by omega, by omega, hid, hwo⟩, ?_⟩⟩
    exact Keep.gone ((k1.trans (kp.tail.tail.tail)).trans (hp.mi.tail.mono (fun b hb => by simp [hb]) |>.keepExt E3)) hX (Nat.le_refl _) (by omega)
  have e0 : ((0 : Int) == 0) = true := rfl
  cases hf : S.free with
  | nil =>
    refine Ok.step (ptake_new h1 hc hf (by omega) (by omega) (by omega)) fun r ⟨p1, M', w', p2, p3, p4⟩ => ?_
    obtain ⟨q, σ2⟩ := r
    simp only at p1 p2 p4
    subst p1
    have c0 : σ2.blk σ.next = _ := (p4.blk _ (by simp)).trans b0
    simp (config := { maxSteps := 2000000 }) -implicitDefEqProofs (disch := (first | omega | rfl | assumption | (simp only [rsD]; first | omega | assumption))) only [c0, Nat.reduceAdd, Nat.reduceMul, Nat.reduceLT, Int.reduceToNat, Int.reduceAdd, Int.reduceSub, Int.reduceMul, rsU, rsC]
    have hfr : D.free = [] := by rw [sim.free, hf]; rfl
    have hroom : D.roomy = S.more := by
      unfold DS.roomy PoolS.more
      have h1 := sim.room
      have h2 := sim.len
      have h3 := h.p.made
      by_cases c : S.E.length < S.room
      · rw [if_neg (by omega), if_pos c]; exact h1
      · rw [if_pos (by omega), if_neg c, Nat.max_def]
        split <;> split <;> omega
    have sim' : Sim D.fresh { S with room := S.more, E := S.E ++ [PE.fresh S.words], taken := S.taken + 1 } := by
      refine ⟨sim.words, hroom, by simp [DS.fresh, sim.len], fun i d e hd he => ?_, sim.free⟩
      simp only [DS.fresh] at hd
      simp only at he
      rcases Nat.lt_or_ge i S.E.length with g | g
      · rw [List.getElem?_append_left (by rw [sim.len]; exact g)] at hd
        rw [List.getElem?_append_left g] at he
        exact sim.el i d e hd he
      · have := (List.getElem?_eq_some_iff.1 he).1
        simp at this
        obtain rfl : i = S.E.length := by omega
        rw [← sim.len] at hd
        simp at hd he
        subst hd; subst he
        refine ⟨rfl, rfl, by simp [hw0], fun _ => by simp [PE.fresh, hw0]⟩
    have bd' : Bd (k + 1) { S with room := S.more, E := S.E ++ [PE.fresh S.words], taken := S.taken + 1 } := ⟨bd.w, by simp; omega, by have := bd.f; simp only; omega, fun e he => by
      rcases List.mem_append.1 he with he | he
      · have := bd.g e he; omega
      · simp [PE.fresh] at he; subst he; exact Nat.zero_le _, hmore⟩
    have hr0 := sim.room
    have hr1 := bd.r
    refine Ok.step (fin σ2 D.fresh _ _ sim' bd' rfl rfl rfl (by have := sim.len; omega) p2 p3 (by omega) (by omega) (by omega) p4 (rtake_new hsm (by omega) (by omega) hv hfr)) fun r ⟨w1, w2, m1, m2, g1, g2, g3, g4⟩ => ?_
    obtain ⟨q, σ3⟩ := r
    simp only at g1 g2 g3 g4
    subst g1
    rw [b0] at g2
    rw [b2] at g3
    have en : (((S.E.length : Int) + 1) == (D.L.length : Int) + 1) = true := s_eqT (by have := sim.len; omega)
    have hdw : D.fresh.words = D.words := rfl
    simp (config := { maxSteps := 2000000 }) -implicitDefEqProofs (disch := (first | omega | rfl | assumption | (simp only [rsD]; first | omega | assumption))) only [g2, g3, en, e0, beq_self_eq_true, hdw, Nat.reduceAdd, Nat.reduceMul, Nat.reduceLT, Int.reduceToNat, Int.reduceAdd, Int.reduceSub, Int.reduceMul, rsU, rsC]
    exact Ok_some.2 (g4 _ _)
  | cons j r =>
    have hch := h.p.ch
    rw [hf] at hch
    obtain ⟨⟨e, hj, _⟩, _⟩ := hch
    obtain ⟨i, rfl⟩ : ∃ i, j = i + 1 := ⟨j - 1, by omega⟩
    obtain ⟨e, he, htk, g⟩ := ptake_old h1 hc hf (by omega)
    have hi := (List.getElem?_eq_some_iff.1 he).1
    refine Ok.step g fun q ⟨p1, M', w', p2, p3, p4⟩ => ?_
    obtain ⟨q, σ2⟩ := q
    simp only at p1 p2 p4
    subst p1
    have c0 : σ2.blk σ.next = _ := (p4.blk _ (by simp)).trans b0
    simp (config := { maxSteps := 2000000 }) -implicitDefEqProofs (disch := (first | omega | rfl | assumption | (simp only [rsD]; first | omega | assumption))) only [c0, Nat.reduceAdd, Nat.reduceMul, Nat.reduceLT, Int.reduceToNat, Int.reduceAdd, Int.reduceSub, Int.reduceMul, rsU, rsC]
    obtain ⟨d, hd, q1, q2, q3, q4⟩ := sim.get he
    have hfr : D.free = (r.map fun (i : Nat) => (i : Int)).reverse ++ [(i : Int) + 1] := by rw [sim.free, hf]; simp
    have sim' : Sim (D.taken i d ((r.map fun (i : Nat) => (i : Int)).reverse)) { S with E := S.E.set i ⟨true, e.gen, List.replicate S.words 0⟩, free := r, taken := S.taken + 1 } :=
      sim.set (i := i) (d := ⟨true, d.gen, List.replicate D.words.toNat 0⟩) (e := ⟨true, e.gen, List.replicate S.words 0⟩) rfl q2 (by simp [hw0]) (fun _ => by simp [hw0]) rfl _
    have bd' : Bd (k + 1) { S with E := S.E.set i ⟨true, e.gen, List.replicate S.words 0⟩, free := r, taken := S.taken + 1 } := bd.set (by have := bd.g e (List.mem_of_getElem? he); simp only; omega) (by have := bd.f; rw [hf] at this; simp at this; omega) _
    refine Ok.step (fin σ2 _ _ _ sim' bd' rfl rfl rfl (by omega) p2 p3 (by omega) (by omega) (by omega) p4 (rtake_old hsm (by omega) hv hfr hd)) fun r ⟨w1, w2, m1, m2, g1, g2, g3, g4⟩ => ?_
    obtain ⟨q, σ3⟩ := r
    simp only at g1 g2 g3 g4
    subst g1
    rw [b0] at g2
    rw [b2] at g3
    have en : (((i : Int) + 1) == (i : Int) + 1) = true := s_eqT rfl
    have hdw : (D.taken i d ((r.map fun (i : Nat) => (i : Int)).reverse)).words = D.words := rfl
    simp (config := { maxSteps := 2000000 }) -implicitDefEqProofs (disch := (first | omega | rfl | assumption | (simp only [rsD]; first | omega | assumption))) only [g2, g3, en, e0, beq_self_eq_true, hdw, Nat.reduceAdd, Nat.reduceMul, Nat.reduceLT, Int.reduceToNat, Int.reduceAdd, Int.reduceSub, Int.reduceMul, rsU, rsC]
    exact Ok_some.2 (g4 _ _)
/-- behind a call at both -/
theorem did_of (h : PoolAt σ pb mb M S w X) {σ1 σ2 σ3 σ4 : AH O} {D' : DS} {S' : PoolS} {M' : MemS} {w' : List Int} {dr dw most : Int} {v' : AV} (k1 : Keep X σ σ1) (kp : Keep (σ.next :: (σ.next + 1) :: (σ.next + 1 + 1) :: X) σ1 σ2) (E3 : Ext σ2 σ3)
    (hp : PoolAt σ2 pb mb M' S' w' (σ.next :: (σ.next + 1) :: (σ.next + 1 + 1) :: X)) (hwr : Wrt M M' S.id w' dr dw) (h0 : 0 ≤ dr) (h1 : 0 ≤ dw) (h2 : dr + dw ≤ most) (h3 : most ≤ 100) (sim' : Sim D' S') (bd' : Bd (k + 1) S') (hid : S'.id = S.id) (hwo : S'.words = S.words) (hv' : D'.at_ v')
    (n4 : σ4.next = σ3.next) (o4 : ∀ b, b ≠ σ.next → b ≠ σ.next + 1 → b ≠ σ.next + 1 + 1 → σ4.blk b = σ3.blk b) : Did σ pb mb M D S X k (.tup [v', .i .u64 most, .b true], σ4) := by
  have hX : ∀ b ∈ X, b < σ.next := h.mi.tail.lt
  refine ⟨⟨_, D', S', M', w', most, dr, dw, rfl, hv', sim', bd', ?_, hwr, h0, h1, h2, h3, hid, hwo⟩, ?_⟩
  · refine (hp.ext E3).turn (L := [σ.next, σ.next + 1, σ.next + 1 + 1]) ⟨by rw [n4]; exact Nat.le_refl _, fun b hb hm => by simp at hm; exact o4 b hm.1 hm.2.1 hm.2.2⟩ (fun b hb => ?_) fun b hb => .inl (by simp [hb])
    simp at hb
    rcases hb with rfl | rfl | rfl <;> exact .inl (by simp)
  · have kk := (k1.trans (kp.tail.tail.tail)).trans (hp.mi.tail.mono (fun b hb => by simp [hb]) |>.keepExt E3)
    exact ⟨by show σ.next ≤ σ4.next; rw [n4]; exact kk.next, fun b hb => by
      have := hX b hb
      rw [o4 b (by omega) (by omega) (by omega)]; exact kk.blk b hb⟩
theorem Sim.ent {D : DS} {S : PoolS} (h : Sim D S) {id : Int} : (D.ent id = none ∧ (id < 1 ∨ id > S.E.length)) ∨ ∃ (i : Nat) (d : DE) (e : PE), id = (i : Int) + 1 ∧ D.ent id = some d ∧ D.L[i]? = some d ∧ S.E[i]? = some e ∧ i < S.E.length ∧ d.tk = e.tk ∧ d.gen = e.gen ∧ d.ws.length = S.words ∧ (e.tk = true → d.ws = e.ws) := by
  cases he : D.ent id with
  | none => exact .inl ⟨rfl, by have := DS.ent_none he; have := h.len; omega⟩
  | some d =>
    obtain ⟨i, rfl, hd, hi⟩ := DS.ent_some he
    obtain ⟨e, h1, h2⟩ := h.get' hd
    exact .inr ⟨i, d, e, rfl, rfl, hd, h1, by have := h.len; omega, h2⟩
theorem gens {D : DS} {S : PoolS} (h : Sim D S) {k : Nat} (b : Bd k S) (hk : k ≤ 80) : ∀ d ∈ D.L, 0 ≤ d.gen ∧ d.gen ≤ 1000 := fun d hd => by
  obtain ⟨i, hi⟩ := List.getElem?_of_mem hd
  obtain ⟨e, he, _, hg, _⟩ := h.get' hi
  have := b.g e (List.mem_of_getElem? he)
  omega
theorem widths {D : DS} {S : PoolS} (h : Sim D S) : ∀ d ∈ D.L, (d.ws.length : Int) = D.words := fun d hd => by
  obtain ⟨i, hi⟩ := List.getElem?_of_mem hd
  obtain ⟨e, he, _, _, hw, _⟩ := h.get' hi
  rw [h.words, hw]
theorem do_give (h : PoolAt σ pb mb M S w X) (hc : M.calm) (sim : Sim D S) (bd : Bd k S) (hk : k < 80) (hv : D.at_ v) (hm : M.met.r ≤ 1000000 ∧ M.met.w ≤ 1000000) {a b c : Int} (hr : -9223372036854775808 ≤ a ∧ a ≤ 9223372036854775807) :
    Ok (law10_do [.p (some (.n pb, 0)), v, .agg [.i .i64 1, .i .i64 a, .i .i64 b, .i .u64 c]] σ) (Did σ pb mb M D S X k) := by
  have hsm := sim.small bd (by omega)
  have hww := bd.w
  obtain ⟨va, vb, rfl, ha, hb⟩ := id hv
  obtain ⟨sa, _, rfl, _, _⟩ := Im.rd ha
  obtain ⟨sb, _, rfl, _, _⟩ := Im.rd hb
  have e1 : ((1 : Int) == 0) = false := rfl
  have e2 : ((1 : Int) == 1) = true := rfl
  simp (config := { maxSteps := 2000000 }) -implicitDefEqProofs (disch := (first | omega | rfl | assumption | (simp only [rsD]; first | omega | assumption))) only [law10_do, law10_do_c, e1, e2, Nat.reduceAdd, Nat.reduceMul, Nat.reduceLT, Int.reduceToNat, Int.reduceAdd, Int.reduceSub, Int.reduceMul, rsU, rsC]
  obtain ⟨h1, k1⟩ := boxes h (.cells true 123 [.i .i64 D.words, .sl sa D.L.length, .sl sb D.free.length, .i .i64 D.room]) (.cells true 116 [.i .i64 1, .i .i64 a, .i .i64 b, .i .u64 c]) (.cells true 123 [.i .i64 0, .sl .nil 0, .sl .nil 0, .i .i64 0])
  generalize hσ : AH.put _ (σ.next + 1 + 1) _ = σ1 at *
  have b0 : σ1.blk σ.next = some (.cells true 123 [.i .i64 D.words, .sl sa D.L.length, .sl sb D.free.length, .i .i64 D.room]) := by rw [← hσ, s_bn (by omega), s_bn (by omega)]; exact s_bs
  have b1 : σ1.blk (σ.next + 1) = some (.cells true 116 [.i .i64 1, .i .i64 a, .i .i64 b, .i .u64 c]) := by rw [← hσ, s_bn (by omega)]; exact s_bs
  have b2 : σ1.blk (σ.next + 1 + 1) = some (.cells true 123 [.i .i64 0, .sl .nil 0, .sl .nil 0, .i .i64 0]) := by rw [← hσ]; exact s_bs
  clear hσ
  have go : ∀ (σ2 : AH O) (D' : DS) (S' : PoolS) (n : Int) {M' : MemS} {w' : List Int} {dr dw : Int}, D.give a = (D', n) → Sim D' S' → Bd (k + 1) S' → S'.id = S.id → S'.words = S.words → PoolAt σ2 pb mb M' S' w' (σ.next :: (σ.next + 1) :: (σ.next + 1 + 1) :: X) → Wrt M M' S.id w' dr dw → 0 ≤ dr → 0 ≤ dw → dr + dw ≤ 3 → Keep (σ.next :: (σ.next + 1) :: (σ.next + 1 + 1) :: X) σ1 σ2 →
      Ok (haymowref10_Give [.agg [.i .i64 D.words, .sl sa D.L.length, .sl sb D.free.length, .i .i64 D.room], .i .i64 a] σ2) fun r => ∃ w1 w2 : SA, ∃ m1 m2 : Nat, r.1 = .tup [.agg [.i .i64 D'.words, .sl w1 m1, .sl w2 m2, .i .i64 D'.room], .i .i64 n] ∧ r.2.blk σ.next = σ1.blk σ.next ∧ r.2.blk (σ.next + 1 + 1) = σ1.blk (σ.next + 1 + 1) ∧ ∀ σ4 : AH O, σ4.next = r.2.next → (∀ b, b ≠ σ.next → b ≠ σ.next + 1 → b ≠ σ.next + 1 + 1 → σ4.blk b = r.2.blk b) → Did σ pb mb M D S X k (.tup [.agg [.i .i64 D'.words, .sl w1 m1, .sl w2 m2, .i .i64 D'.room], .i .u64 3, .b true], σ4) := by
    intro σ2 D' S' n M' w' dr dw eg sim' bd' hid hwo hp hwr h0 h1' hle kp
    refine (rgive_ok hsm (gens sim bd (by omega)) hv hr).mono ?_
    rintro ⟨q, σ3⟩ ⟨⟨v', e, hv'⟩, E3⟩
    simp only at e E3
    rw [eg] at e hv'
    subst e
    obtain ⟨wa, wb, rfl, ha', hb'⟩ := id hv'
    obtain ⟨w1, _, rfl, _, _⟩ := Im.rd ha'
    obtain ⟨w2, _, rfl, _, _⟩ := Im.rd hb'
    have l0 := hp.mi.tail.lt
    exact ⟨w1, w2, _, _, rfl, (E3.blk _ (l0 _ (by simp))).trans (kp.blk _ (by simp)), (E3.blk _ (l0 _ (by simp))).trans (kp.blk _ (by simp)), fun σ4 n4 o4 => did_of h k1 kp E3 hp hwr h0 h1' (by omega) (by omega) sim' bd' hid hwo hv' n4 o4⟩
  rcases sim.ent (id := a) with ⟨hn, hno⟩ | ⟨i, d, e, rfl, hent, hdd, he, hi, q1, q2, q3, q4⟩
  · have pg := pgive_no h1 hc hno
    have eg : D.give a = (D, 4) := by unfold DS.give; rw [hn]
    simp (config := { maxSteps := 2000000 }) -implicitDefEqProofs (disch := (first | omega | rfl | assumption | (simp only [rsD]; first | omega | assumption))) only [pg, b0, b1, Nat.reduceAdd, Nat.reduceMul, Nat.reduceLT, Int.reduceToNat, Int.reduceAdd, Int.reduceSub, Int.reduceMul, rsU, rsC]
    refine Ok.step (go σ1 D S 4 eg sim bd.up rfl rfl h1 (Wrt.refl h.now) (by omega) (by omega) (by omega) (Keep.refl _ _)) fun r ⟨w1, w2, m1, m2, g1, g2, g3, g4⟩ => ?_
    obtain ⟨q, σ3⟩ := r
    simp only at g1 g2 g3 g4
    subst g1
    rw [b0] at g2
    rw [b2] at g3
    simp (config := { maxSteps := 2000000 }) -implicitDefEqProofs (disch := (first | omega | rfl | assumption | (simp only [rsD]; first | omega | assumption))) only [g2, g3, beq_self_eq_true, Nat.reduceAdd, Nat.reduceMul, Nat.reduceLT, Int.reduceToNat, Int.reduceAdd, Int.reduceSub, Int.reduceMul, rsU, rsC]
    exact Ok_some.2 (g4 _ rfl fun b x1 x2 x3 => by simp -implicitDefEqProofs (disch := omega) only [s_bn, s_bs, s_kn, bump_blk])
  · cases ht : e.tk with
    | false =>
      have eg : D.give ((i : Int) + 1) = (D, 4) := by unfold DS.give; rw [hent]; simp only [q1, ht]; rfl
      refine Ok.step (pgive_free h1 hc he ht) fun r ⟨p1, M', p2, p3, p4⟩ => ?_
      obtain ⟨q, σ2⟩ := r
      simp only at p1 p2 p4
      subst p1
      have c0 : σ2.blk σ.next = _ := (p4.blk _ (by simp)).trans b0
      have c1 : σ2.blk (σ.next + 1) = _ := (p4.blk _ (by simp)).trans b1
      simp (config := { maxSteps := 2000000 }) -implicitDefEqProofs (disch := (first | omega | rfl | assumption | (simp only [rsD]; first | omega | assumption))) only [c0, c1, Nat.reduceAdd, Nat.reduceMul, Nat.reduceLT, Int.reduceToNat, Int.reduceAdd, Int.reduceSub, Int.reduceMul, rsU, rsC]
      refine Ok.step (go σ2 D S 4 eg sim bd.up rfl rfl p2 p3 (by omega) (by omega) (by omega) p4) fun r ⟨w1, w2, m1, m2, g1, g2, g3, g4⟩ => ?_
      obtain ⟨q, σ3⟩ := r
      simp only at g1 g2 g3 g4
      subst g1
      rw [b0] at g2
      rw [b2] at g3
      simp (config := { maxSteps := 2000000 }) -implicitDefEqProofs (disch := (first | omega | rfl | assumption | (simp only [rsD]; first | omega | assumption))) only [g2, g3, beq_self_eq_true, Nat.reduceAdd, Nat.reduceMul, Nat.reduceLT, Int.reduceToNat, Int.reduceAdd, Int.reduceSub, Int.reduceMul, rsU, rsC]
      exact Ok_some.2 (g4 _ rfl fun b x1 x2 x3 => by simp -implicitDefEqProofs (disch := omega) only [s_bn, s_bs, s_kn, bump_blk])
    | true =>
      have hge := bd.g e (List.mem_of_getElem? he)
      have eg : D.give ((i : Int) + 1) = ({ D with L := D.L.set i ⟨false, d.gen + 1, d.ws⟩, free := D.free ++ [(i : Int) + 1] }, 0) := by
        unfold DS.give; rw [hent]; simp only [q1, ht, if_true]
        rw [show ((i : Int) + 1 - 1).toNat = i by omega]
      have sim' := sim.set (i := i) (d := ⟨false, d.gen + 1, d.ws⟩) (e := ⟨false, e.gen + 1, e.ws.set 0 (hd S.free)⟩) rfl (by simp [q2]) (by simp [q3]) (fun hh => by cases hh) (f := D.free ++ [(i : Int) + 1]) (f' := (i + 1) :: S.free) (by rw [sim.free]; simp) (S.taken - 1)
      have bd' := bd.set (i := i) (e := ⟨false, e.gen + 1, e.ws.set 0 (hd S.free)⟩) (by simp only; omega) (f := (i + 1) :: S.free) (by have := bd.f; simp; omega) (S.taken - 1)
      refine Ok.step (pgive_ok h1 hc he ht (by omega) (by omega)) fun r ⟨p1, M', w', p2, p3, p4⟩ => ?_
      obtain ⟨q, σ2⟩ := r
      simp only at p1 p2 p4
      subst p1
      have c0 : σ2.blk σ.next = _ := (p4.blk _ (by simp)).trans b0
      have c1 : σ2.blk (σ.next + 1) = _ := (p4.blk _ (by simp)).trans b1
      simp (config := { maxSteps := 2000000 }) -implicitDefEqProofs (disch := (first | omega | rfl | assumption | (simp only [rsD]; first | omega | assumption))) only [c0, c1, Nat.reduceAdd, Nat.reduceMul, Nat.reduceLT, Int.reduceToNat, Int.reduceAdd, Int.reduceSub, Int.reduceMul, rsU, rsC]
      refine Ok.step (go σ2 _ _ 0 eg sim' bd' rfl rfl p2 p3 (by omega) (by omega) (by omega) p4) fun r ⟨w1, w2, m1, m2, g1, g2, g3, g4⟩ => ?_
      obtain ⟨q, σ3⟩ := r
      simp only at g1 g2 g3 g4
      subst g1
      rw [b0] at g2
      rw [b2] at g3
      simp (config := { maxSteps := 2000000 }) -implicitDefEqProofs (disch := (first | omega | rfl | assumption | (simp only [rsD]; first | omega | assumption))) only [g2, g3, beq_self_eq_true, Nat.reduceAdd, Nat.reduceMul, Nat.reduceLT, Int.reduceToNat, Int.reduceAdd, Int.reduceSub, Int.reduceMul, rsU, rsC]
      exact Ok_some.2 (g4 _ rfl fun b x1 x2 x3 => by simp -implicitDefEqProofs (disch := omega) only [s_bn, s_bs, s_kn, bump_blk])
end
end Go.Abs.Try
