/-
  Layer 15: large objects beside their document: one lemma for each call. No conditions.
-/
import Derived.Test.YtgmffmgbaelohaaR15
import Derived.Test.YtgmffmgbaelohaaM7
import Derived.Test.YtgmffmgbaelohaaAbsIn
set_option linter.unusedVariables false
set_option linter.unusedSimpArgs false
set_option linter.constructorNameAsVariable false
set_option linter.unusedSimpArgs false
set_option linter.unusedVariables false
set_option linter.unusedSectionVars false
set_option maxHeartbeats 2000000
namespace Go.Abs.Try
open Go Go.Abs
variable {O : Type}
theorem sum_range (f : Nat -> Nat) : ∀ (n : Nat) (l : List Nat), l.Nodup -> (∀ i ∈ l, i < n) -> ((List.range n).map fun j => if j ∈ l then f j else 0).sum = (l.map f).sum
  | 0, l, _, h => by
    have : l = [] := List.eq_nil_iff_forall_not_mem.2 fun x hx => absurd (h x hx) (by omega)
    subst this; rfl
  | n + 1, l, hn, h => by
    rw [List.range_succ, List.map_append, List.sum_append]
    by_cases hm : n ∈ l
    · have ih := sum_range f n (l.erase n) (hn.erase n) fun i hi => by
        have h1 := h i (List.mem_of_mem_erase hi)
        have h2 : i ≠ n := fun e => by subst e; exact (List.Nodup.not_mem_erase hn) hi
        omega
      have e1 : ((List.range n).map fun j => if j ∈ l then f j else 0) = (List.range n).map fun j => if j ∈ l.erase n then f j else 0 := by
        refine List.map_congr_left fun j hj => ?_
        have hj := List.mem_range.1 hj
        have : j ∈ l ↔ j ∈ l.erase n := ⟨fun h => (List.mem_erase_of_ne (by omega)).2 h, List.mem_of_mem_erase⟩
        simp only [this]
      have e2 : (l.map f).sum = f n + ((l.erase n).map f).sum := by
        have hp := (List.perm_cons_erase hm).map f
        have := hp.sum_nat
        simpa using this
      rw [e1, ih, e2]
      simp [hm]; omega
    · have ih := sum_range f n l hn fun i hi => by
        have h1 := h i hi
        have h2 : i ≠ n := fun e => hm (e ▸ hi)
        omega
      rw [ih]
      simp [hm]
theorem nums_mem {C : List Nat} {i : Nat} : ((i : Int) + 1) ∈ nums C ↔ i ∈ C := by
  unfold nums
  rw [List.mem_map]
  exact ⟨fun ⟨j, h1, h2⟩ => by have : j = i := by omega
                               exact this ▸ h1, fun h => ⟨i, h, rfl⟩⟩
theorem nums_at {C : List Nat} {t i : Nat} (h : C[t]? = some i) : (nums C)[t]? = some ((i : Int) + 1) := by unfold nums; rw [List.getElem?_map, h]; rfl
theorem nums_filter (C : List Nat) (i : Nat) : nums (C.filter fun j => j != i) = (nums C).filter fun x => !(x == (i : Int) + 1) := by
  unfold nums
  rw [List.filter_map]
  congr 1
  refine List.filter_congr fun j _ => ?_
  by_cases h : j = i
  · subst h; simp
  · have : ¬ ((j : Int) + 1 = (i : Int) + 1) := by omega
    rw [Function.comp, beq_eq_false_iff_ne.2 this]
    simp [h]
theorem nums_app (A B : List Nat) : nums (A ++ B) = nums A ++ nums B := by simp [nums]
theorem DSim.gives {D : DS} {P : PoolS} (s : DSim D P) : ∀ (l : List Nat), l.Nodup -> (∀ i ∈ l, ∃ e, P.E[i]? = some e /\ e.tk = true) -> DSim (D.gives (nums l)) (P.gaves l) := by
  intro l
  induction l generalizing D P with
  | nil => intro _ _; exact s
  | cons i l ih =>
    intro hn ht
    obtain ⟨e, he, hte⟩ := ht i List.mem_cons_self
    obtain ⟨_, s'⟩ := s.give he hte
    have hn' := List.nodup_cons.1 hn
    have := ih s' hn'.2 fun j hj => by
      obtain ⟨e', h1, h2⟩ := ht j (List.mem_cons_of_mem _ hj)
      exact ⟨e', by rw [gave_other (fun e : j = i => hn'.1 (e ▸ hj))]; exact h1, h2⟩
    exact this
theorem gaves_free : ∀ (l : List Nat) (P : PoolS), (P.gaves l).free.length <= P.free.length + l.length
  | [], P => Nat.le_refl _
  | i :: l, P => by
    have h1 := gaves_free l (P.gave i)
    have h2 : (P.gave i).free.length <= P.free.length + 1 := by unfold PoolS.gave; split <;> simp
    show ((P.gave i).gaves l).free.length <= _
    simp only [List.length_cons]; omega
theorem DSim.small' {D : DS} {P : PoolS} (s : DSim D P) (he : P.E.length <= 1000) (hf : P.free.length <= 1000) : D.small := by
  refine ⟨by rw [s.len]; exact he, by rw [s.free]; simpa using hf, fun d hd => ?_⟩
  obtain ⟨i, hi⟩ := List.getElem?_of_mem hd
  obtain ⟨_, _, _, _, hw⟩ := s.el i d hi
  omega
structure LX (J : AH O) (lb pb mb : Nat) (M : MemS) (P : PoolS) (w : List Int) (L : LarS) (S : LD) (X : List Nat) (k : Nat) (K : Int) : Prop where
  lar : LarAt J lb pb mb M P w L X []
  d : DSim S.D P
  bd : DBd k P
  wl : S.Wd.length = P.E.length
  ob : ∀ (i : Nat) (ws : List Int), L.ob i = some ws -> S.Wd[i]? = some ws
  wb : ∀ ws ∈ S.Wd, ws.length <= 300
  hr : S.Hr = nums L.H
  wt : S.Wt = nums L.W
  told : ∃ t : Nat, S.told = (t : Int) /\ t <= L.H.length /\ L.last = (pid L.H t : Int)
  held : M.met.held = 6 * P.room + L.words
  few : M.few K (1 + k)
  ep : L.ep <= k
structure LRes (lb pb mb : Nat) (M : MemS) (S' : LD) (X : List Nat) (k : Nat) (K most : Int) (J J' : AH O) : Prop where
  it : ∃ M' P' w' L', LX J' lb pb mb M' P' w' L' S' X k (K + most) /\ M.met.r + M.met.w <= M'.met.r + M'.met.w /\ M'.met.r + M'.met.w <= M.met.r + M.met.w + most
  kp : Keep X J J'
theorem Beh.both {M M' : MemS} {a c n : Int} (h : Beh [] M M' a c n) : M.met.r + M.met.w <= M'.met.r + M'.met.w /\ M'.met.r + M'.met.w <= M.met.r + M.met.w + a := by
  have := h.r; have := h.w; have := h.k; omega
section
variable {J : AH O} {lb pb mb : Nat} {M : MemS} {P : PoolS} {w : List Int} {L : LarS} {S : LD} {X : List Nat} {k : Nat} {K : Int} (H : LX J lb pb mb M P w L S X k K)
include H
theorem LX.turn {J' : AH O} {Z C : List Nat} (hc : Chg C J J') (hl : ∀ b ∈ C, b ∈ X ∨ J.next <= b) (hY : ∀ b ∈ Z, b ∈ X ∨ (J.next <= b /\ b < J'.next)) : LX J' lb pb mb M P w L S Z k K := { H with lar := H.lar.turn hc hl hY }
theorem LX.same {J' : AH O} {M' : MemS} {P' : PoolS} {w' : List Int} {a : Int} (hl : LarAt J' lb pb mb M' P' w' L X []) (ha : Alike P P') (hb : Beh [] M M' a 0 0) : LX J' lb pb mb M' P' w' L S X k (K + a) :=
  { H with lar := hl, d := H.d.alike ha, bd := H.bd.alike ha, wl := by rw [ha.len]; exact H.wl, held := by have := hb.held; have := H.held; have := ha.room; omega, few := (hb.few H.few).le (Int.le_refl _) (by omega) }
theorem LX.small (hk : k <= 80) : S.D.small := H.d.small H.bd H.lar.p.p hk
theorem LX.hw : L.H.length + L.W.length <= k := by
  have h2 := nodup_le P.E.length (L.H ++ L.W) H.lar.nd fun x hx => by
    obtain ⟨e, _, he, _⟩ := H.lar.mem (List.mem_append.1 hx)
    exact (List.getElem?_eq_some_iff.1 he).1
  have := H.bd.e
  simp only [List.length_append] at h2
  omega
theorem LX.far (hK : K <= 1000000) : M.far 30000000 := H.few.far H.lar.p.mi.ok (by omega)
theorem LX.yes {i : Nat} {ws : List Int} (ho : L.ob i = some ws) : S.D.is ((i : Int) + 1) = true /\ S.row ((i : Int) + 1) = ws /\ i < S.Wd.length := by
  obtain ⟨e, sp, mk, he, htk, _⟩ := H.lar.at ho
  have hw := H.ob i ws ho
  refine ⟨by rw [H.d.is he]; exact htk, ?_, (List.getElem?_eq_some_iff.1 hw).1⟩
  unfold LD.row
  rw [show ((i : Int) + 1 - 1).toNat = i by omega, hw]; rfl
theorem LX.no {id : Int} (hn : ∀ i : Nat, id = (i : Int) + 1 -> L.ob i = none) : S.D.is id = false := by
  by_cases hr : id < 1 ∨ (P.E.length : Int) < id
  · exact H.d.not hr
  · obtain ⟨i, rfl⟩ : ∃ i : Nat, id = (i : Int) + 1 := ⟨(id - 1).toNat, by omega⟩
    have he := List.getElem?_eq_getElem (show i < P.E.length by omega)
    rw [H.d.is he]
    cases ht : (P.E[i]).tk with
    | false => rfl
    | true =>
      obtain ⟨ws, ho⟩ := H.lar.tkn he ht
      rw [hn i rfl] at ho; cases ho
omit H in
theorem ob_cases (L : LarS) (id : Int) : (∃ (i : Nat) (ws : List Int), id = (i : Int) + 1 /\ L.ob i = some ws) ∨ ∀ i : Nat, id = (i : Int) + 1 -> L.ob i = none := by
  by_cases h : ∃ (i : Nat) (ws : List Int), id = (i : Int) + 1 /\ L.ob i = some ws
  · exact .inl h
  · refine .inr fun i e => ?_
    cases ho : L.ob i with
    | none => rfl
    | some ws => exact absurd ⟨i, ws, e, ho⟩ h
theorem LX.lens (l : List Nat) (hl : ∀ i ∈ l, ∃ ws, L.ob i = some ws) : S.lens (nums l) = (l.map L.len).sum := by
  unfold LD.lens nums
  rw [List.map_map]
  congr 1
  refine List.map_congr_left fun i hi => ?_
  obtain ⟨ws, ho⟩ := hl i hi
  simp only [Function.comp]
  rw [(H.yes ho).2.1]
  unfold LarS.len; rw [ho]; rfl
theorem LX.sum : S.sumTo S.Wd.length = L.words := by
  have key : ∀ n, n <= S.Wd.length -> S.sumTo n = ((((List.range n).map fun j => if j ∈ L.H ++ L.W then L.len j else 0).sum : Nat) : Int) := fun n => by
    induction n with
    | zero => intro _; rfl
    | succ n ih =>
      intro hn
      rw [LD.sumTo_succ, ih (by omega), List.range_succ, List.map_append, List.sum_append]
      simp only [List.map_cons, List.map_nil, List.sum_cons, List.sum_nil, Nat.add_zero]
      cases ho : L.ob n with
      | some ws =>
        obtain ⟨h1, h2, _⟩ := H.yes ho
        have hm : n ∈ L.H ++ L.W := List.mem_append.2 (H.lar.all n (by rw [ho]; simp))
        rw [if_pos h1, if_pos hm, h2]
        unfold LarS.len; rw [ho]; simp
      | none =>
        have h1 := H.no (id := (n : Int) + 1) fun i e => by
          have : i = n := by omega
          rw [this]; exact ho
        have hm : n ∉ L.H ++ L.W := fun hm => by
          obtain ⟨e, ws, _, _, h⟩ := H.lar.mem (List.mem_append.1 hm)
          rw [ho] at h; cases h
        rw [h1, if_neg (by decide), if_neg hm]; simp
  rw [key _ (Nat.le_refl _), H.lar.sum, sum_range _ _ _ H.lar.nd]
  intro i hi
  obtain ⟨e, ws, he, _⟩ := H.lar.mem (List.mem_append.1 hi)
  rw [H.wl]
  exact (List.getElem?_eq_some_iff.1 he).1
end
section
variable {J : AH O} {lb pb mb : Nat} {M : MemS} {P : PoolS} {w : List Int} {L : LarS} {S : LD} {X : List Nat} {k : Nat} {K : Int} (H : LX J lb pb mb M P w L S X k K) (hk : k < 62) (hK : K <= 1000000)
include H hk hK
theorem xwrite {id at_ x : Int} (ha : q64 at_) : Ok (large_Large__Write [.p (some (.n lb, 0)), .i .i64 id, .i .i64 at_, .i .u64 x] J) fun r => r.1 = .i .i64 (S.wrong id at_) /\ LRes lb pb mb M (S.write id at_ x) X k K 3 J r.2 := by
  have hf := (H.far hK).less (d := 1000) (by decide)
  unfold q64 at ha
  rcases ob_cases L id with ⟨i, ws, rfl, ho⟩ | hn
  · obtain ⟨y1, y2, y3⟩ := H.yes ho
    by_cases hc : 0 <= at_ /\ at_ < ws.length
    · have hw : S.wrong ((i : Int) + 1) at_ = 0 := by unfold LD.wrong; rw [if_pos y1, y2, if_pos hc]
      rw [hw]
      refine (lwrite_ok H.lar hf ho hc).mono fun r ⟨g1, M', g2, g3, g4⟩ => ⟨g1, ⟨M', P, w, { L with ob := fun j => if j = i then some (ws.set at_.toNat x) else L.ob j }, ?_, (g3.both).1, (g3.both).2⟩, g4⟩
      unfold LD.write
      rw [if_pos hw, y2, show ((i : Int) + 1 - 1).toNat = i by omega]
      refine { H with lar := g2, wl := by simp only [List.length_set]; exact H.wl, ob := fun j v hj => ?_, wb := fun v hv => ?_, held := by have := g3.held; have := H.held; simp only; omega, few := (g3.few H.few).le (Int.le_refl _) (by omega) }
      · simp only at hj ⊢
        rw [List.getElem?_set]
        by_cases hji : j = i
        · rw [if_pos hji] at hj; cases hj
          rw [if_pos hji.symm, if_pos y3]
        · rw [if_neg hji] at hj
          rw [if_neg (fun e => hji e.symm)]; exact H.ob j v hj
      · rcases List.mem_or_eq_of_mem_set hv with g | g
        · exact H.wb v g
        · subst g
          rw [List.length_set]
          exact H.wb ws (List.mem_of_getElem? (H.ob i ws ho))
    · have hw : S.wrong ((i : Int) + 1) at_ = 11 := by unfold LD.wrong; rw [if_pos y1, y2, if_neg hc]
      rw [hw]
      refine (lwrite_out H.lar hf ho ha hc).mono fun r ⟨g1, M', g2, g3, g4⟩ => ⟨g1, ⟨M', P, w, L, ?_, (g3.both).1, by have := (g3.both).2; omega⟩, g4⟩
      unfold LD.write
      rw [if_neg (by rw [hw]; decide)]
      exact H.same g2 (Alike.refl P) (g3.as (by decide) rfl rfl)
  · have hw : S.wrong id at_ = 4 := by unfold LD.wrong; rw [H.no hn]; rfl
    rw [hw]
    refine (lwrite_no H.lar hf hn).mono fun r ⟨g1, M', g2, g3, g4⟩ => ⟨g1, ⟨M', P, w, L, ?_, (g3.both).1, by have := (g3.both).2; omega⟩, g4⟩
    unfold LD.write
    rw [if_neg (by rw [hw]; decide)]
    exact H.same g2 (Alike.refl P) (g3.as (by decide) rfl rfl)
theorem xread {id at_ : Int} (ha : q64 at_) : Ok (large_Large__Read [.p (some (.n lb, 0)), .i .i64 id, .i .i64 at_] J) fun r => r.1 = .tup [.i .u64 (if S.wrong id at_ = 0 then (S.row id).getD at_.toNat 0 else 0), .i .i64 (S.wrong id at_)] /\ LRes lb pb mb M S X k K 3 J r.2 := by
  have hf := (H.far hK).less (d := 1000) (by decide)
  unfold q64 at ha
  rcases ob_cases L id with ⟨i, ws, rfl, ho⟩ | hn
  · obtain ⟨y1, y2, y3⟩ := H.yes ho
    refine (lread_ok H.lar hf ho ha).mono fun r ⟨g1, M', g2, g3, g4⟩ => ⟨?_, ⟨M', P, w, _, H.same g2 (Alike.refl P) g3, (g3.both).1, (g3.both).2⟩, g4⟩
    rw [g1]
    unfold LD.wrong
    rw [if_pos y1, y2]
    by_cases hc : 0 <= at_ /\ at_ < ws.length
    · rw [if_pos hc, if_pos hc, if_pos rfl]
    · rw [if_neg hc, if_neg hc, if_neg (by decide)]
  · have hw : S.wrong id at_ = 4 := by unfold LD.wrong; rw [H.no hn]; rfl
    rw [hw, if_neg (by decide)]
    exact (lread_no H.lar hf hn).mono fun r ⟨g1, M', g2, g3, g4⟩ => ⟨g1, ⟨M', P, w, _, H.same g2 (Alike.refl P) (g3.as (by decide) rfl rfl), (g3.both).1, by have := (g3.both).2; omega⟩, g4⟩
theorem xbegin : Ok (large_Large__Begin [.p (some (.n lb, 0))] J) fun r => r.1 = .tup [] /\ LRes lb pb mb M S.begin X (k + 1) K 2 J r.2 := by
  have hf := (H.far hK).less (d := 1000) (by decide)
  have hep := H.ep
  refine (lbegin_ok H.lar hf (by omega)).mono fun r ⟨g1, M', P', w', g2, ga, g3, g4⟩ => ⟨g1, ⟨M', P', w', { L with H := [], W := L.W ++ L.H, ep := L.ep + 1, last := 0 }, ?_, (g3.both).1, (g3.both).2⟩, g4⟩
  refine { lar := g2, d := H.d.alike ga, bd := (H.bd.alike ga).up (by omega), wl := by rw [ga.len]; exact H.wl, ob := H.ob, wb := H.wb, hr := rfl, wt := ?_, told := ⟨0, rfl, Nat.zero_le _, rfl⟩, held := ?_, few := (g3.few H.few).le (Int.le_refl _) (by omega), ep := by simp only; omega }
  · simp only [LD.begin]
    rw [nums_app, H.hr, H.wt]
  · have := g3.held; have := H.held; have := ga.room; simp only; omega
theorem xmark {i : Nat} {ws : List Int} (ho : L.ob i = some ws) : Ok (large_Large__Mark [.p (some (.n lb, 0)), .i .i64 ((i : Int) + 1)] J) fun r => r.1 = .tup [.b (decide (((i : Int) + 1) ∉ S.Hr)), .i .i64 0] /\ LRes lb pb mb M (S.mark ((i : Int) + 1)) X k K 12 J r.2 := by
  have hf := (H.far hK).less (d := 1000) (by decide)
  have hm : ((i : Int) + 1) ∈ S.Hr ↔ i ∈ L.H := by rw [H.hr]; exact nums_mem
  unfold LD.mark
  by_cases hi : i ∈ L.H
  · rw [if_pos (hm.2 hi), decide_eq_false (show ¬ ¬ ((i : Int) + 1) ∈ S.Hr from fun h => h (hm.2 hi))]
    exact (lmark_old H.lar hf hi).mono fun r ⟨g1, M', g2, g3, g4⟩ => ⟨g1, ⟨M', P, w, _, H.same g2 (Alike.refl P) (g3.as (by decide) rfl rfl), (g3.both).1, by have := (g3.both).2; omega⟩, g4⟩
  · rw [if_neg (fun h => hi (hm.1 h)), decide_eq_true (show ¬ ((i : Int) + 1) ∈ S.Hr from fun h => hi (hm.1 h))]
    refine (lmark_ok H.lar hf ho hi).mono fun r ⟨g1, M', P', w', g2, ga, g3, g4⟩ => ⟨g1, ⟨M', P', w', { L with H := L.H ++ [i], W := L.W.filter (fun j => j != i) }, ?_, (g3.both).1, (g3.both).2⟩, g4⟩
    obtain ⟨t, t1, t2, t3⟩ := H.told
    refine { lar := g2, d := H.d.alike ga, bd := H.bd.alike ga, wl := by rw [ga.len]; exact H.wl, ob := H.ob, wb := H.wb, hr := ?_, wt := ?_, told := ⟨t, t1, by simp only [List.length_append]; omega, by simp only; rw [pid_append t2]; exact t3⟩, held := ?_, few := (g3.few H.few).le (Int.le_refl _) (by omega), ep := H.ep }
    · simp only [H.hr, nums_app]; rfl
    · simp only [H.wt, nums_filter]
    · have := g3.held; have := H.held; have := ga.room; simp only; omega
theorem xmark_no {id : Int} (hn : ∀ i : Nat, id = (i : Int) + 1 -> L.ob i = none) : Ok (large_Large__Mark [.p (some (.n lb, 0)), .i .i64 id] J) fun r => r.1 = .tup [.b false, .i .i64 4] /\ LRes lb pb mb M S X k K 12 J r.2 := by
  have hf := (H.far hK).less (d := 1000) (by decide)
  exact (lmark_no H.lar hf hn).mono fun r ⟨g1, M', g2, g3, g4⟩ => ⟨g1, ⟨M', P, w, _, H.same g2 (Alike.refl P) (g3.as (by decide) rfl rfl), (g3.both).1, by have := (g3.both).2; omega⟩, g4⟩
theorem xgrey : (∃ t x, S.told = ((t : Nat) : Int) /\ S.Hr[t]? = some x /\ Ok (large_Large__Grey [.p (some (.n lb, 0))] J) fun r => r.1 = .tup [.i .i64 x, .b true] /\ LRes lb pb mb M { S with told := S.told + 1 } X k K 1 J r.2) ∨
    (¬ S.told < S.Hr.length /\ Ok (large_Large__Grey [.p (some (.n lb, 0))] J) fun r => r.1 = .tup [.i .i64 0, .b false] /\ LRes lb pb mb M S X k K 1 J r.2) := by
  have hf := (H.far hK).less (d := 1000) (by decide)
  obtain ⟨t, t1, t2, t3⟩ := H.told
  by_cases ht : t < L.H.length
  · have hi := List.getElem?_eq_getElem ht
    refine .inl ⟨t, _, t1, by rw [H.hr]; exact nums_at hi, ?_⟩
    refine (lgrey_ok H.lar hf ht t3).mono fun r ⟨g1, M', g2, g3, g4⟩ => ⟨by rw [g1, pid_some hi]; simp, ⟨M', P, w, { L with last := (pid L.H (t + 1) : Int) }, ?_, (g3.both).1, (g3.both).2⟩, g4⟩
    refine { H with lar := g2, told := ⟨t + 1, by simp only; omega, by simp only; omega, rfl⟩, held := ?_, few := (g3.few H.few).le (Int.le_refl _) (by omega) }
    have := g3.held; have := H.held; simp only; omega
  · have e : t = L.H.length := by omega
    subst e
    refine .inr ⟨by rw [H.hr, nums_len, t1]; omega, ?_⟩
    exact (lgrey_no H.lar hf t3).mono fun r ⟨g1, M', g2, g3, g4⟩ => ⟨g1, ⟨M', P, w, _, H.same g2 (Alike.refl P) g3, (g3.both).1, (g3.both).2⟩, g4⟩
theorem xadd {a b c d e : SA} (st : S.st a b c d e) {n : Int} (h1 : 1 <= n) (h2 : n <= 300) :
    ∃ (i : Nat) (S' : LD), (∀ J' : AH O, Ok (haymowref15_Add [.agg (S.vs a b c d e), .i .i64 n] J') fun r => (∃ v', r.1 = .tup [v', .i .i64 ((i : Int) + 1), .i .i64 0] /\ S'.at_ v') /\ Ext J' r.2) /\ (i : Int) <= 1000 /\
      Ok (large_Large__Add [.p (some (.n lb, 0)), .i .i64 n] J) fun r => r.1 = .tup [.i .i64 ((i : Int) + 1), .i .i64 0] /\ LRes lb pb mb M S' X (k + 1) K 24 J r.2 := by
  have hf := (H.far hK).less (d := 1000) (by decide)
  obtain ⟨D', t1, t2, t3, t4, t5, t6⟩ := H.d.take H.bd H.lar.p.p (by omega) st.fd
  have hbe := H.bd.e
  have hbr := H.bd.r
  have hwl := H.wl
  have hhw := H.hw
  have hcn := H.few.2
  have hmore : P.more * 6 <= 4194304 := by
    unfold PoolS.more
    split
    · omega
    · rw [Nat.max_def]; split <;> omega
  have add := ladd_ok H.lar hf h1 (by omega) (by omega) hmore
  refine ⟨P.took.1, S.came D' P.took.1 n, fun J' => dadd_ok st (by omega) (by rw [H.hr, nums_len]; omega) (by omega) h1 (by omega) t1, by omega, ?_⟩
  refine add.mono fun r ⟨g1, g0, M', P', w', g2, ga, g3, g4⟩ => ⟨g1, ⟨M', P', w', { L with H := L.H ++ [P.took.1], words := L.words + n, ob := fun j => if j = P.took.1 then some (List.replicate n.toNat 0) else L.ob j }, ?_, (g3.both).1, (g3.both).2⟩, g4⟩
  obtain ⟨t, u1, u2, u3⟩ := H.told
  have hWl : (S.came D' P.took.1 n).Wd.length = P'.E.length := by
    rw [ga.len, t5]
    unfold LD.came
    simp only [List.length_set]
    split
    · omega
    · simp only [List.length_append, List.length_cons, List.length_nil]; omega
  refine { lar := g2, d := t2.alike ga, bd := t3.alike ga, wl := hWl, ob := fun j v hj => ?_, wb := fun v hv => ?_, hr := ?_, wt := H.wt, told := ⟨t, u1, by simp only [List.length_append]; omega, by simp only; rw [pid_append u2]; exact u3⟩, held := ?_, few := (g3.few H.few).le (Int.le_refl _) (by push_cast; omega), ep := by have := H.ep; simp only; push_cast; omega }
  · simp only at hj
    simp only [LD.came]
    rw [List.getElem?_set]
    by_cases hji : j = P.took.1
    · rw [if_pos hji] at hj; cases hj
      rw [if_pos hji.symm, if_pos]
      split
      · assumption
      · simp; omega
    · rw [if_neg hji] at hj
      rw [if_neg (fun e => hji e.symm)]
      have := H.ob j v hj
      split
      · exact this
      · rw [List.getElem?_append_left (List.getElem?_eq_some_iff.1 this).1]; exact this
  · simp only [LD.came] at hv
    rcases List.mem_or_eq_of_mem_set hv with g | g
    · split at g
      · exact H.wb v g
      · rcases List.mem_append.1 g with g | g
        · exact H.wb v g
        · simp at g; subst g; simp
    · subst g
      rw [List.length_replicate]; omega
  · simp only [LD.came, H.hr, nums_app]; rfl
  · have := g3.held; have := H.held; have := ga.room; simp only; omega
theorem xsweep {a b c d e : SA} (st : S.st a b c d e) :
    (∀ J' : AH O, Ok (haymowref15_Sweep [.agg (S.vs a b c d e)] J') fun r => (∃ v', r.1 = .tup [v', .i .i64 (S.Wt.length : Int), .i .i64 ((S.lens S.Wt : Nat) : Int)] /\ S.sweep.at_ v') /\ Ext J' r.2) /\ S.Wt.length <= 62 /\
      Ok (large_Large__Sweep [.p (some (.n lb, 0))] J) fun r => r.1 = .tup [.i .i64 (S.Wt.length : Int), .i .i64 ((S.lens S.Wt : Nat) : Int)] /\ LRes lb pb mb M S.sweep X (k + 1) K (16 * S.Wt.length) J r.2 := by
  have hf := (H.far hK).less (d := 20000000) (by decide)
  have hhw := H.hw
  have hwl : S.Wt.length = L.W.length := by rw [H.wt, nums_len]
  have hob : ∀ i ∈ L.W, ∃ ws, L.ob i = some ws := fun i hi => by obtain ⟨_, ws, _, _, h⟩ := H.lar.mem (.inr hi); exact ⟨ws, h⟩
  have htk : ∀ i ∈ L.W, ∃ e, P.E[i]? = some e /\ e.tk = true := fun i hi => by obtain ⟨e, ws, h1, h2, _⟩ := H.lar.mem (.inr hi); exact ⟨e, h1, h2⟩
  have hlens : S.lens S.Wt = (L.W.map L.len).sum := by rw [H.wt]; exact H.lens L.W hob
  have hbe := H.bd.e
  have hfl := free_len H.lar.p.p
  have hsim : ∀ j, DSim (S.D.gives (S.Wt.take j)) (P.gaves (L.W.take j)) := fun j => by
    have := H.d.gives (L.W.take j) (H.lar.lW.nd.sublist (List.take_sublist _ _)) fun i hi => htk i (List.mem_of_mem_take hi)
    rw [H.wt]
    rw [show nums (L.W.take j) = (nums L.W).take j by unfold nums; rw [List.map_take]] at this
    exact this
  have hbd : ∀ j, DBd (k + 1) (P.gaves (L.W.take j)) := fun j => H.bd.gaves (H.lar.lW.nd.sublist (List.take_sublist _ _))
  refine ⟨fun J' => dsweep_ok st (by omega) (fun ws hw => by have := H.wb ws hw; omega) (by rw [H.wl]; omega) (fun id hid => ?_) (fun j => ?_) fun j => (hsim j).gens (hbd j) (by omega), by omega, ?_⟩
  · rw [H.wt] at hid
    unfold nums at hid
    obtain ⟨i, hi, rfl⟩ := List.mem_map.1 hid
    obtain ⟨ws, ho⟩ := hob i hi
    have := (H.yes ho).2.2
    omega
  · have h1 := gaves_free (L.W.take j) P
    have h2 : (L.W.take j).length <= L.W.length := by rw [List.length_take]; omega
    exact (hsim j).small' (by have := (hbd j).e; omega) (by omega)
  · rw [hlens, hwl]
    have hg : ∀ e ∈ P.E, e.gen < 4611686018427387903 := fun e he => by have := H.bd.g e he; omega
    refine (lsweep_ok H.lar hf hg).mono fun r ⟨g1, M', w', g2, g3, g4⟩ => ⟨g1, ⟨M', P.gaves L.W, w', { L with W := [], words := L.words - ((L.W.map L.len).sum : Nat), ob := fun j => if j ∈ L.W then none else L.ob j }, ?_, (g3.both).1, by have := (g3.both).2; omega⟩, g4⟩
    have hs := hsim L.W.length
    rw [List.take_length, <- hwl, List.take_length] at hs
    have hb := hbd L.W.length
    rw [List.take_length] at hb
    obtain ⟨_, _, gr, gl⟩ := gaves_id L.W P
    obtain ⟨t, u1, u2, u3⟩ := H.told
    refine { lar := g2, d := hs, bd := hb, wl := by rw [gl]; exact H.wl, ob := fun j v hj => ?_, wb := H.wb, hr := H.hr, wt := rfl, told := ⟨t, u1, u2, u3⟩, held := ?_, few := (g3.few H.few).le (by omega) (by push_cast; omega), ep := by have := H.ep; simp only; push_cast; omega }
    · simp only at hj
      split at hj
      · cases hj
      · exact H.ob j v hj
    · have := g3.held; have := H.held; simp only; rw [gr]; omega
theorem xknown {a b c d e : SA} (st : S.st a b c d e) {id : Int} (hid : q64 id) : Ok (law15_known [.p (some (.n lb, 0)), .agg (S.vs a b c d e), .i .i64 id] J) fun r => r.1 = .b true /\ LRes lb pb mb M S X k K 4 J r.2 := by
  have hhw := H.hw
  have hX : ∀ q ∈ X, q < J.next := H.lar.lX
  simp (maxSteps := 2000000) -implicitDefEqProofs (disch := (first | omega | rfl | assumption | (simp only [rsD]; first | omega | assumption))) only [law15_known, law15_known_c, LD.vs, Nat.reduceAdd, Nat.reduceMul, Nat.reduceLT, Int.reduceToNat, Int.reduceAdd, Int.reduceSub, Int.reduceMul, rsU, rsC]
  generalize hJ : AH.put _ J.next _ = J1
  obtain ⟨E1, b1, n1⟩ := boxed hJ
  clear hJ
  have H1 : LX J1 lb pb mb M P w L S (J.next :: X) k K := H.turn (C := []) E1.chg (by simp) fun q hq => by
    rcases List.mem_cons.1 hq with rfl | hq
    · exact .inr (by omega)
    · exact .inl hq
  have hf0 := (H1.far hK).less (d := 1002) (by decide)
  have hf1 := hf0.less (d := 1000) (by decide)
  have dis : ∀ J' : AH O, Ok (haymowref15_Is [.agg (S.vs a b c d e), .i .i64 id] J') fun r => r.1 = .b (S.D.is id) /\ Ext J' r.2 := fun J' => dis_ok st (H.small (by omega)) hid
  simp only [LD.vs] at dis
  have t1 : (true == true) = true := rfl
  have fin : ∀ {J2 : AH O} {M' : MemS} {s : Int}, LarAt J2 lb pb mb M' P w L (J.next :: X) [] -> Beh [] M M' s 0 0 -> s <= 4 -> Keep (J.next :: X) J1 J2 -> ∀ {J3 : AH O}, Ext J2 J3 -> LRes lb pb mb M S X k K 4 J J3 := fun {J2 M' s} g2 g3 hs g4 {J3} E3 => by
    have hx := H1.same g2 (Alike.refl P) (g3.as hs rfl rfl)
    refine ⟨⟨M', P, w, L, hx.turn (C := []) (Z := X) E3.chg (by simp) fun q hq => .inl (by simp [hq]), (g3.both).1, by have := (g3.both).2; omega⟩, ⟨by have := g4.next; have := E3.next; omega, fun q hq => ?_⟩⟩
    have := hX q hq
    have := g4.next
    rw [E3.blk q (by omega), g4.blk q (by simp [hq]), E1.blk q (by omega)]
  rcases ob_cases L id with ⟨i, ws, rfl, ho⟩ | hn
  · obtain ⟨y1, y2, y3⟩ := H.yes ho
    rw [y1] at dis
    refine Ok.step (lsize_ok H1.lar hf1 ho) fun r ⟨g1, M2, g2, g3, g4⟩ => ?_
    obtain ⟨q, J2⟩ := r
    simp only at g1 g2 g4
    subst g1
    simp (maxSteps := 2000000) -implicitDefEqProofs (disch := (first | omega | rfl | assumption | (simp only [rsD]; first | omega | assumption))) only [Nat.reduceAdd, Nat.reduceMul, Nat.reduceLT, Int.reduceToNat, Int.reduceAdd, Int.reduceSub, Int.reduceMul, rsU, rsC]
    refine Ok.step (lmarked_ok g2 (g3.far (d := 1000) hf0) ho) fun r ⟨k1, M3, k2, k3, k4⟩ => ?_
    obtain ⟨q, J3⟩ := r
    simp only at k1 k2 k4
    subst k1
    have b3 : J3.blk J.next = _ := (k4.blk _ (by simp)).trans ((g4.blk _ (by simp)).trans b1)
    simp (maxSteps := 2000000) -implicitDefEqProofs (disch := (first | omega | rfl | assumption | (simp only [rsD]; first | omega | assumption))) only [b3, Nat.reduceAdd, Nat.reduceMul, Nat.reduceLT, Int.reduceToNat, Int.reduceAdd, Int.reduceSub, Int.reduceMul, rsU, rsC]
    refine Ok.step (dis J3) fun r ⟨m1, E4⟩ => ?_
    obtain ⟨q, J4⟩ := r
    simp only at m1 E4
    subst m1
    have l3 := k2.lX J.next (by simp)
    have b4 : J4.blk J.next = _ := (E4.blk _ l3).trans b3
    have hxw := H.ob i ws ho
    obtain ⟨bw, ow, wv, rfl, hld, _⟩ := wrow st hxw
    have hld := hld O J4
    have v0 : (i : Int) + 1 - 1 = i := by omega
    have hc := has_cells (J := J4) (x := (i : Int) + 1) (st.fh O J4) (by rw [H.hr, nums_len]; omega)
    have hm : decide (((i : Int) + 1) ∈ S.Hr) = decide (i ∈ L.H) := by rw [H.hr]; simp only [nums_mem]
    rw [hm] at hc
    have q0 : ((ws.length : Int) == (ws.length : Int)) = true := beq_self_eq_true _
    have q1 : (decide (i ∈ L.H) == decide (i ∈ L.H)) = true := beq_self_eq_true _
    have z0 : ((0 : Int) == 0) = true := rfl
    unfold q64 at hid
    simp (maxSteps := 2000000) -implicitDefEqProofs (disch := (first | omega | rfl | assumption | (simp only [rsD]; first | omega | assumption))) only [b4, v0, hld, q0, t1, Int.toNat_natCast, Nat.reduceAdd, Nat.reduceMul, Nat.reduceLT, Int.reduceToNat, Int.reduceAdd, Int.reduceSub, Int.reduceMul, rsU, rsC]
    refine Ok.step hc fun r e4 => ?_
    subst e4
    simp (maxSteps := 2000000) -implicitDefEqProofs (disch := (first | omega | rfl | assumption | (simp only [rsD]; first | omega | assumption))) only [q1, t1, z0, eq_self, Nat.reduceAdd, Nat.reduceMul, Nat.reduceLT, Int.reduceToNat, Int.reduceAdd, Int.reduceSub, Int.reduceMul, rsU, rsC]
    exact Ok_some.2 ⟨rfl, fin k2 (g3.trans (g2.beh2 (g3.far (d := 1000) hf0) k3 k2.p.mi.ok)) (by decide) (g4.trans k4.tail) E4⟩
  · have y1 := H.no hn
    rw [y1] at dis
    refine Ok.step (lsize_no H1.lar hf1 hn) fun r ⟨g1, M2, g2, g3, g4⟩ => ?_
    obtain ⟨q, J2⟩ := r
    simp only at g1 g2 g4
    subst g1
    simp (maxSteps := 2000000) -implicitDefEqProofs (disch := (first | omega | rfl | assumption | (simp only [rsD]; first | omega | assumption))) only [Nat.reduceAdd, Nat.reduceMul, Nat.reduceLT, Int.reduceToNat, Int.reduceAdd, Int.reduceSub, Int.reduceMul, rsU, rsC]
    refine Ok.step (lmarked_no g2 ((g3.far (d := 1001) hf0).less (by decide)) hn) fun r ⟨k1, M3, k2, k3, k4⟩ => ?_
    obtain ⟨q, J3⟩ := r
    simp only at k1 k2 k4
    subst k1
    have b3 : J3.blk J.next = _ := (k4.blk _ (by simp)).trans ((g4.blk _ (by simp)).trans b1)
    simp (maxSteps := 2000000) -implicitDefEqProofs (disch := (first | omega | rfl | assumption | (simp only [rsD]; first | omega | assumption))) only [b3, Nat.reduceAdd, Nat.reduceMul, Nat.reduceLT, Int.reduceToNat, Int.reduceAdd, Int.reduceSub, Int.reduceMul, rsU, rsC]
    refine Ok.step (dis J3) fun r ⟨m1, E4⟩ => ?_
    obtain ⟨q, J4⟩ := r
    simp only at m1 E4
    subst m1
    have z0 : ((0 : Int) == 0) = true := rfl
    have z4 : ((4 : Int) == 4) = true := rfl
    simp (maxSteps := 2000000) -implicitDefEqProofs (disch := (first | omega | rfl | assumption | (simp only [rsD]; first | omega | assumption))) only [z0, z4, t1, eq_self, Nat.reduceAdd, Nat.reduceMul, Nat.reduceLT, Int.reduceToNat, Int.reduceAdd, Int.reduceSub, Int.reduceMul, rsU, rsC]
    exact Ok_some.2 ⟨rfl, fin k2 (g3.trans k3) (by decide) (g4.trans k4) E4⟩
end
end Go.Abs.Try
set_option maxHeartbeats 4000000
namespace Go.Abs.Try
open Go Go.Abs
variable {O : Type}
theorem dadd_few {J : AH O} {S : LD} {a b c d e : SA} (h : S.st a b c d e) {n : Int} (hn : n < 1) : Ok (haymowref15_Add [.agg (S.vs a b c d e), .i .i64 n] J) fun r => (∃ v', r.1 = .tup [v', .i .i64 0, .i .i64 1] /\ S.at_ v') /\ Ext J r.2 := by
  refine frz_ok (Q := fun v => ∃ v', v = .tup [v', .i .i64 0, .i .i64 1] /\ S.at_ v') ?_
  simp (maxSteps := 2000000) -implicitDefEqProofs (disch := (first | omega | rfl | assumption | (simp only [rsD]; first | omega | assumption))) only [haymowref15_Add_c, LD.vs, Nat.reduceAdd, Nat.reduceMul, Nat.reduceLT, Int.reduceToNat, Int.reduceAdd, Int.reduceSub, Int.reduceMul, rsU, rsC]
  generalize hJ : AH.put _ (J.next + 1) _ = J1
  have E : Ext J J1 := by rw [<- hJ]; exact (ext_of (by simp only [put_next, bump_next, kill_next]; omega) (fun b hb => by simp -implicitDefEqProofs (disch := (first | omega | rfl | assumption | (simp only [rsD]; first | omega | assumption))) only [s_bn, s_kn, bump_blk, s_ext]))
  clear hJ
  have fz0 := LD.fz0 (J := J1) h
  simp only [LD.vs] at fz0
  exact Ok_some.2 ⟨_, [], fz_tup2 fz0 rfl rfl, by simp, E, _, rfl, h.at⟩
theorem dadd_big {J : AH O} {S : LD} {a b c d e : SA} (h : S.st a b c d e) {n : Int} (hn : 4194304 < n) : Ok (haymowref15_Add [.agg (S.vs a b c d e), .i .i64 n] J) fun r => (∃ v', r.1 = .tup [v', .i .i64 0, .i .i64 7] /\ S.at_ v') /\ Ext J r.2 := by
  refine frz_ok (Q := fun v => ∃ v', v = .tup [v', .i .i64 0, .i .i64 7] /\ S.at_ v') ?_
  simp (maxSteps := 2000000) -implicitDefEqProofs (disch := (first | omega | rfl | assumption | (simp only [rsD]; first | omega | assumption))) only [haymowref15_Add_c, LD.vs, Nat.reduceAdd, Nat.reduceMul, Nat.reduceLT, Int.reduceToNat, Int.reduceAdd, Int.reduceSub, Int.reduceMul, rsU, rsC]
  generalize hJ : AH.put _ (J.next + 1) _ = J1
  have E : Ext J J1 := by rw [<- hJ]; exact (ext_of (by simp only [put_next, bump_next, kill_next]; omega) (fun b hb => by simp -implicitDefEqProofs (disch := (first | omega | rfl | assumption | (simp only [rsD]; first | omega | assumption))) only [s_bn, s_kn, bump_blk, s_ext]))
  clear hJ
  have fz0 := LD.fz0 (J := J1) h
  simp only [LD.vs] at fz0
  exact Ok_some.2 ⟨_, [], fz_tup2 fz0 rfl rfl, by simp, E, _, rfl, h.at⟩
structure LDid (lb pb mb : Nat) (M : MemS) (X : List Nat) (k : Nat) (K : Int) (J : AH O) (r : AV × AH O) : Prop where
  it : ∃ (S' : LD) (a b c d e : SA) (most : Int), r.1 = .tup [.agg (S'.vs a b c d e), .i .u64 most, .b true] /\ S'.st a b c d e /\ 0 <= most /\ most <= 1000 /\ LRes lb pb mb M S' X (k + 1) K most J r.2
section
variable {J : AH O} {lb pb mb : Nat} {M : MemS} {P : PoolS} {w : List Int} {L : LarS} {S : LD} {X : List Nat} {k : Nat} {K : Int} (H : LX J lb pb mb M P w L S X k K)
include H
theorem lboxes {x y z : Blk O} {J1 : AH O} (hJ : ((((J.bump 3).put J.next x).put (J.next + 1) y).put (J.next + 1 + 1) z) = J1) : LX J1 lb pb mb M P w L S (J.next :: (J.next + 1) :: (J.next + 1 + 1) :: X) k K /\ Keep X J J1 /\ J1.blk J.next = some x /\ J1.blk (J.next + 1) = some y /\ J1.blk (J.next + 1 + 1) = some z /\ J1.next = J.next + 3 := by
  subst hJ
  have E : Ext J ((((J.bump 3).put J.next x).put (J.next + 1) y).put (J.next + 1 + 1) z) := ((((Ext.refl J).bump 3).put (Nat.le_refl _) _).put (by omega) _).put (by omega) _
  have hn : ((((J.bump 3).put J.next x).put (J.next + 1) y).put (J.next + 1 + 1) z).next = J.next + 3 := rfl
  refine ⟨H.turn (C := []) E.chg (by simp) fun b hb => ?_, H.lar.p.mi.tail.tail.keepExt E, ?_, ?_, s_bs, rfl⟩
  · simp only [List.mem_cons] at hb
    rcases hb with hb | hb | hb | hb
    · right; omega
    · right; omega
    · right; omega
    · exact .inl hb
  · rw [s_bn (by omega), s_bn (by omega)]; exact s_bs
  · rw [s_bn (by omega)]; exact s_bs
theorem fin15 {J1 J2 J3 J4 : AH O} {S' : LD} {k' : Nat} {most : Int} (k1 : Keep X J J1) (R : LRes lb pb mb M S' (J.next :: (J.next + 1) :: (J.next + 1 + 1) :: X) k' K most J1 J2) (hk : k' <= k + 1) (E3 : Ext J2 J3)
    (n4 : J4.next = J3.next) (o4 : ∀ b, b ≠ J.next -> b ≠ J.next + 1 -> b ≠ J.next + 1 + 1 -> J4.blk b = J3.blk b) : LRes lb pb mb M S' X (k + 1) K most J J4 := by
  have hX : ∀ b ∈ X, b < J.next := H.lar.lX
  obtain ⟨⟨M', P', w', L', h2, m1, m2⟩, kp⟩ := R
  have h3 : LX J3 lb pb mb M' P' w' L' S' (J.next :: (J.next + 1) :: (J.next + 1 + 1) :: X) k' (K + most) := h2.turn (C := []) E3.chg (by simp) fun b hb => .inl hb
  have h4 := h3.turn (J' := J4) (Z := X) (C := [J.next, J.next + 1, J.next + 1 + 1]) ⟨by rw [n4]; exact Nat.le_refl _, fun b hb hm => by simp at hm; exact o4 b hm.1 hm.2.1 hm.2.2⟩ (fun b hb => by
    simp at hb
    rcases hb with rfl | rfl | rfl <;> exact .inl (by simp)) fun b hb => .inl (by simp [hb])
  have hl2 : ∀ b ∈ X, b < J2.next := fun b hb => h2.lar.lX b (by simp [hb])
  refine ⟨⟨M', P', w', L', { h4 with bd := h4.bd.up hk, few := h4.few.le (Int.le_refl _) (by omega), ep := by have := h4.ep; omega }, m1, m2⟩, ⟨by rw [n4]; exact Nat.le_trans k1.next (Nat.le_trans kp.next E3.next), fun b hb => ?_⟩⟩
  have := hX b hb
  rw [o4 b (by omega) (by omega) (by omega), E3.blk b (hl2 b hb), kp.blk b (by simp [hb]), k1.blk b hb]
theorem LX.still : LRes lb pb mb M S X k K 0 J J := ⟨⟨M, P, w, L, H.same H.lar (Alike.refl P) (Beh.refl _ _), Int.le_refl _, by omega⟩, Keep.refl _ _⟩
omit H in
theorem LRes.most {S' : LD} {a b : Int} {J' : AH O} (R : LRes lb pb mb M S' X k K a J J') (h : a <= b) : LRes lb pb mb M S' X k K b J J' := by
  obtain ⟨⟨M', P', w', L', h2, m1, m2⟩, kp⟩ := R
  exact ⟨⟨M', P', w', L', { h2 with few := h2.few.le (by omega) (Int.le_refl _) }, m1, by omega⟩, kp⟩
end
section
variable {J : AH O} {lb pb mb : Nat} {M : MemS} {P : PoolS} {w : List Int} {L : LarS} {S : LD} {X : List Nat} {k : Nat} {K : Int} (H : LX J lb pb mb M P w L S X k K) (hk : k < 62) (hK : K <= 1000000) {a b c d e : SA} (st : S.st a b c d e) {id at_ n x : Int}
include H hk hK st
theorem do15_write (hid : q64 id) (ha : q64 at_) : Ok (law15_do [.p (some (.n lb, 0)), .agg (S.vs a b c d e), .agg [.i .i64 1, .i .i64 id, .i .i64 at_, .i .i64 n, .i .u64 x]] J) (LDid lb pb mb M X k K J) := by
  have e0 : ((1 : Int) == 0) = false := rfl
  have e1 : ((1 : Int) == 1) = true := rfl
  have hbe := H.bd.e
  have hwl := H.wl
  simp (maxSteps := 2000000) -implicitDefEqProofs (disch := (first | omega | rfl | assumption | (simp only [rsD]; first | omega | assumption))) only [law15_do, law15_do_c, LD.vs, e0, e1, Nat.reduceAdd, Nat.reduceMul, Nat.reduceLT, Int.reduceToNat, Int.reduceAdd, Int.reduceSub, Int.reduceMul, rsU, rsC]
  generalize hJ : AH.put _ (J.next + 1 + 1) _ = J1
  obtain ⟨H1, k1, b0, b1, b2, n1⟩ := lboxes H hJ
  clear hJ
  have doc : ∀ J2 : AH O, Ok (haymowref15_Write [.agg (S.vs a b c d e), .i .i64 id, .i .i64 at_, .i .u64 x] J2) fun r => (∃ v', r.1 = .tup [v', .i .i64 (S.wrong id at_)] /\ (S.write id at_ x).at_ v') /\ Ext J2 r.2 := fun J2 => dwrite_ok st (H.small (by omega)) (by rw [H.d.len]; omega) (by omega) (fun ws hw => by have := H.wb ws hw; omega) hid
  simp only [LD.vs] at doc
  refine Ok.step (xwrite H1 hk hK ha) fun r ⟨g1, R⟩ => ?_
  obtain ⟨q, J2⟩ := r
  simp only at g1 R
  subst g1
  have c0 : J2.blk J.next = _ := (R.kp.blk _ (by simp)).trans b0
  have c1 : J2.blk (J.next + 1) = _ := (R.kp.blk _ (by simp)).trans b1
  have c2 : J2.blk (J.next + 1 + 1) = _ := (R.kp.blk _ (by simp)).trans b2
  simp (maxSteps := 2000000) -implicitDefEqProofs (disch := (first | omega | rfl | assumption | (simp only [rsD]; first | omega | assumption))) only [c0, c1, Nat.reduceAdd, Nat.reduceMul, Nat.reduceLT, Int.reduceToNat, Int.reduceAdd, Int.reduceSub, Int.reduceMul, rsU, rsC]
  refine Ok.step (doc J2) fun r ⟨⟨v', g1, a', b', c', d', e', ev, st'⟩, E3⟩ => ?_
  obtain ⟨q, J3⟩ := r
  simp only at g1 E3
  subst g1
  subst ev
  have n2 := R.kp.next
  have d0 : J3.blk J.next = _ := (E3.blk _ (by omega)).trans c0
  have d2 : J3.blk (J.next + 1 + 1) = _ := (E3.blk _ (by omega)).trans c2
  have ec : (S.wrong id at_ == S.wrong id at_) = true := beq_self_eq_true _
  simp (maxSteps := 2000000) -implicitDefEqProofs (disch := (first | omega | rfl | assumption | (simp only [rsD]; first | omega | assumption))) only [LD.vs, d0, d2, ec, Nat.reduceAdd, Nat.reduceMul, Nat.reduceLT, Int.reduceToNat, Int.reduceAdd, Int.reduceSub, Int.reduceMul, rsU, rsC]
  exact Ok_some.2 ⟨⟨S.write id at_ x, a', b', c', d', e', 3, rfl, st', by decide, by decide, fin15 H k1 R (by omega) E3 rfl fun b x1 x2 x3 => by simp -implicitDefEqProofs (disch := omega) only [s_bn, s_bs, s_kn, bump_blk]⟩⟩
theorem do15_begin : Ok (law15_do [.p (some (.n lb, 0)), .agg (S.vs a b c d e), .agg [.i .i64 3, .i .i64 id, .i .i64 at_, .i .i64 n, .i .u64 x]] J) (LDid lb pb mb M X k K J) := by
  have e0 : ((3 : Int) == 0) = false := rfl
  have e1 : ((3 : Int) == 1) = false := rfl
  have e2 : ((3 : Int) == 2) = false := rfl
  have e3 : ((3 : Int) == 3) = true := rfl
  have hhw := H.hw
  have l1 : S.Hr.length = L.H.length := by rw [H.hr, nums_len]
  have l2 : S.Wt.length = L.W.length := by rw [H.wt, nums_len]
  simp (maxSteps := 2000000) -implicitDefEqProofs (disch := (first | omega | rfl | assumption | (simp only [rsD]; first | omega | assumption))) only [law15_do, law15_do_c, LD.vs, e0, e1, e2, e3, Nat.reduceAdd, Nat.reduceMul, Nat.reduceLT, Int.reduceToNat, Int.reduceAdd, Int.reduceSub, Int.reduceMul, rsU, rsC]
  generalize hJ : AH.put _ (J.next + 1 + 1) _ = J1
  obtain ⟨H1, k1, b0, b1, b2, n1⟩ := lboxes H hJ
  clear hJ
  have doc : ∀ J2 : AH O, Ok (haymowref15_Begin [.agg (S.vs a b c d e)] J2) fun r => S.begin.at_ r.1 /\ Ext J2 r.2 := fun J2 => dbegin_ok st (by omega) (by omega)
  simp only [LD.vs] at doc
  refine Ok.step (xbegin H1 hk hK) fun r ⟨g1, R⟩ => ?_
  obtain ⟨q, J2⟩ := r
  simp only at g1 R
  subst g1
  have c0 : J2.blk J.next = _ := (R.kp.blk _ (by simp)).trans b0
  have c2 : J2.blk (J.next + 1 + 1) = _ := (R.kp.blk _ (by simp)).trans b2
  simp (maxSteps := 2000000) -implicitDefEqProofs (disch := (first | omega | rfl | assumption | (simp only [rsD]; first | omega | assumption))) only [c0, Nat.reduceAdd, Nat.reduceMul, Nat.reduceLT, Int.reduceToNat, Int.reduceAdd, Int.reduceSub, Int.reduceMul, rsU, rsC]
  refine Ok.step (doc J2) fun r ⟨⟨a', b', c', d', e', ev, st'⟩, E3⟩ => ?_
  obtain ⟨q, J3⟩ := r
  simp only at ev E3
  subst ev
  have n2 := R.kp.next
  have d2 : J3.blk (J.next + 1 + 1) = _ := (E3.blk _ (by omega)).trans c2
  simp (maxSteps := 2000000) -implicitDefEqProofs (disch := (first | omega | rfl | assumption | (simp only [rsD]; first | omega | assumption))) only [LD.vs, d2, Nat.reduceAdd, Nat.reduceMul, Nat.reduceLT, Int.reduceToNat, Int.reduceAdd, Int.reduceSub, Int.reduceMul, rsU, rsC]
  exact Ok_some.2 ⟨⟨S.begin, a', b', c', d', e', 2, rfl, st', by decide, by decide, fin15 H k1 R (by omega) E3 rfl fun b x1 x2 x3 => by simp -implicitDefEqProofs (disch := omega) only [s_bn, s_bs, s_kn, bump_blk]⟩⟩
theorem do15_add (hn : n <= 300 ∨ 4194304 < n) : Ok (law15_do [.p (some (.n lb, 0)), .agg (S.vs a b c d e), .agg [.i .i64 0, .i .i64 id, .i .i64 at_, .i .i64 n, .i .u64 x]] J) (LDid lb pb mb M X k K J) := by
  have e0 : ((0 : Int) == 0) = true := rfl
  simp (maxSteps := 2000000) -implicitDefEqProofs (disch := (first | omega | rfl | assumption | (simp only [rsD]; first | omega | assumption))) only [law15_do, law15_do_c, LD.vs, e0, Nat.reduceAdd, Nat.reduceMul, Nat.reduceLT, Int.reduceToNat, Int.reduceAdd, Int.reduceSub, Int.reduceMul, rsU, rsC]
  generalize hJ : AH.put _ (J.next + 1 + 1) _ = J1
  obtain ⟨H1, k1, b0, b1, b2, n1⟩ := lboxes H hJ
  clear hJ
  have key : ∃ (i code : Int) (S' : LD), (∀ J' : AH O, Ok (haymowref15_Add [.agg (S.vs a b c d e), .i .i64 n] J') fun r => (∃ v', r.1 = .tup [v', .i .i64 i, .i .i64 code] /\ S'.at_ v') /\ Ext J' r.2) /\
      Ok (large_Large__Add [.p (some (.n lb, 0)), .i .i64 n] J1) fun r => r.1 = .tup [.i .i64 i, .i .i64 code] /\ LRes lb pb mb M S' (J.next :: (J.next + 1) :: (J.next + 1 + 1) :: X) (k + 1) K 24 J1 r.2 := by
    have up : ∀ {J2 : AH O}, LRes lb pb mb M S (J.next :: (J.next + 1) :: (J.next + 1 + 1) :: X) k K 0 J1 J2 -> LRes lb pb mb M S (J.next :: (J.next + 1) :: (J.next + 1 + 1) :: X) (k + 1) K 24 J1 J2 := fun R => by
      obtain ⟨⟨M', P', w', L', h2, m1, m2⟩, kp⟩ := R
      exact ⟨⟨M', P', w', L', { h2 with bd := h2.bd.up (by omega), few := h2.few.le (by omega) (by omega), ep := by have := h2.ep; omega }, m1, by omega⟩, kp⟩
    by_cases c1 : n < 1
    · exact ⟨0, 1, S, fun J' => dadd_few st c1, _, ladd_few H1.lar ((H1.far hK).less (by decide)) c1, rfl, up H1.still⟩
    · by_cases c2 : 4194304 < n
      · exact ⟨0, 7, S, fun J' => dadd_big st c2, (ladd_big H1.lar ((H1.far hK).less (by decide)) c2).mono fun r ⟨g1, g2, g3⟩ => ⟨g1, up ⟨⟨M, P, w, L, H1.same g2 (Alike.refl P) (Beh.refl _ _), Int.le_refl _, by omega⟩, g3⟩⟩⟩
      · obtain ⟨i, S', g1, g2, g3⟩ := xadd H1 hk hK st (n := n) (by omega) (by omega)
        exact ⟨_, 0, S', g1, g3⟩
  obtain ⟨i, code, S', doc, prg⟩ := key
  simp only [LD.vs] at doc
  refine Ok.step prg fun r ⟨g1, R⟩ => ?_
  obtain ⟨q, J2⟩ := r
  simp only at g1 R
  subst g1
  have c0 : J2.blk J.next = _ := (R.kp.blk _ (by simp)).trans b0
  have c1 : J2.blk (J.next + 1) = _ := (R.kp.blk _ (by simp)).trans b1
  have c2 : J2.blk (J.next + 1 + 1) = _ := (R.kp.blk _ (by simp)).trans b2
  simp (maxSteps := 2000000) -implicitDefEqProofs (disch := (first | omega | rfl | assumption | (simp only [rsD]; first | omega | assumption))) only [c0, c1, Nat.reduceAdd, Nat.reduceMul, Nat.reduceLT, Int.reduceToNat, Int.reduceAdd, Int.reduceSub, Int.reduceMul, rsU, rsC]
  refine Ok.step (doc J2) fun r ⟨⟨v', g1, a', b', c', d', e', ev, st'⟩, E3⟩ => ?_
  obtain ⟨q, J3⟩ := r
  simp only at g1 E3
  subst g1
  subst ev
  have n2 := R.kp.next
  have d0 : J3.blk J.next = _ := (E3.blk _ (by omega)).trans c0
  have d2 : J3.blk (J.next + 1 + 1) = _ := (E3.blk _ (by omega)).trans c2
  have ec : (i == i) = true := beq_self_eq_true _
  have ec2 : (code == code) = true := beq_self_eq_true _
  have t1 : (true == true) = true := rfl
  simp (maxSteps := 2000000) -implicitDefEqProofs (disch := (first | omega | rfl | assumption | (simp only [rsD]; first | omega | assumption))) only [LD.vs, d0, d2, ec, ec2, t1, Nat.reduceAdd, Nat.reduceMul, Nat.reduceLT, Int.reduceToNat, Int.reduceAdd, Int.reduceSub, Int.reduceMul, rsU, rsC]
  exact Ok_some.2 ⟨⟨S', a', b', c', d', e', 24, rfl, st', by decide, by decide, fin15 H k1 R (by omega) E3 rfl fun b x1 x2 x3 => by simp -implicitDefEqProofs (disch := omega) only [s_bn, s_bs, s_kn, bump_blk]⟩⟩
theorem do15_grey : Ok (law15_do [.p (some (.n lb, 0)), .agg (S.vs a b c d e), .agg [.i .i64 5, .i .i64 id, .i .i64 at_, .i .i64 n, .i .u64 x]] J) (LDid lb pb mb M X k K J) := by
  have e0 : ((5 : Int) == 0) = false := rfl
  have e1 : ((5 : Int) == 1) = false := rfl
  have e2 : ((5 : Int) == 2) = false := rfl
  have e3 : ((5 : Int) == 3) = false := rfl
  have e4 : ((5 : Int) == 4) = false := rfl
  have e5 : ((5 : Int) == 5) = true := rfl
  have hhw := H.hw
  have l1 : S.Hr.length = L.H.length := by rw [H.hr, nums_len]
  simp (maxSteps := 2000000) -implicitDefEqProofs (disch := (first | omega | rfl | assumption | (simp only [rsD]; first | omega | assumption))) only [law15_do, law15_do_c, LD.vs, e0, e1, e2, e3, e4, e5, Nat.reduceAdd, Nat.reduceMul, Nat.reduceLT, Int.reduceToNat, Int.reduceAdd, Int.reduceSub, Int.reduceMul, rsU, rsC]
  generalize hJ : AH.put _ (J.next + 1 + 1) _ = J1
  obtain ⟨H1, k1, b0, b1, b2, n1⟩ := lboxes H hJ
  clear hJ
  have key : ∃ (i : Int) (m : Bool) (S' : LD), S'.st a b c d e /\ (∀ J' : AH O, Ok (haymowref15_Grey [.agg (S.vs a b c d e)] J') fun r => r.1 = .tup [.agg (S'.vs a b c d e), .i .i64 i, .b m] /\ Ext J' r.2) /\
      Ok (large_Large__Grey [.p (some (.n lb, 0))] J1) fun r => r.1 = .tup [.i .i64 i, .b m] /\ LRes lb pb mb M S' (J.next :: (J.next + 1) :: (J.next + 1 + 1) :: X) k K 1 J1 r.2 := by
    rcases xgrey H1 hk hK with ⟨t, x, h1, h2, h3⟩ | ⟨h1, h2⟩
    · exact ⟨x, true, { S with told := S.told + 1 }, ⟨st.fd, st.fw, st.fh, st.ft⟩, fun J' => dgrey_ok st (by omega) h1 h2, h3⟩
    · exact ⟨0, false, S, st, fun J' => dgrey_no st h1, h2⟩
  obtain ⟨i, m, S', st', doc, prg⟩ := key
  simp only [LD.vs] at doc
  refine Ok.step prg fun r ⟨g1, R⟩ => ?_
  obtain ⟨q, J2⟩ := r
  simp only at g1 R
  subst g1
  have c0 : J2.blk J.next = _ := (R.kp.blk _ (by simp)).trans b0
  have c2 : J2.blk (J.next + 1 + 1) = _ := (R.kp.blk _ (by simp)).trans b2
  simp (maxSteps := 2000000) -implicitDefEqProofs (disch := (first | omega | rfl | assumption | (simp only [rsD]; first | omega | assumption))) only [c0, Nat.reduceAdd, Nat.reduceMul, Nat.reduceLT, Int.reduceToNat, Int.reduceAdd, Int.reduceSub, Int.reduceMul, rsU, rsC]
  refine Ok.step (doc J2) fun r ⟨g1, E3⟩ => ?_
  obtain ⟨q, J3⟩ := r
  simp only at g1 E3
  subst g1
  have n2 := R.kp.next
  have d0 : J3.blk J.next = _ := (E3.blk _ (by omega)).trans c0
  have d2 : J3.blk (J.next + 1 + 1) = _ := (E3.blk _ (by omega)).trans c2
  have ec : (i == i) = true := beq_self_eq_true _
  have ec2 : (m == m) = true := beq_self_eq_true _
  have t1 : (true == true) = true := rfl
  simp (maxSteps := 2000000) -implicitDefEqProofs (disch := (first | omega | rfl | assumption | (simp only [rsD]; first | omega | assumption))) only [LD.vs, d0, d2, ec, ec2, t1, Nat.reduceAdd, Nat.reduceMul, Nat.reduceLT, Int.reduceToNat, Int.reduceAdd, Int.reduceSub, Int.reduceMul, rsU, rsC]
  exact Ok_some.2 ⟨⟨S', a, b, c, d, e, 1, rfl, st', by decide, by decide, fin15 H k1 R (by omega) E3 rfl fun b x1 x2 x3 => by simp -implicitDefEqProofs (disch := omega) only [s_bn, s_bs, s_kn, bump_blk]⟩⟩
theorem do15_sweep : Ok (law15_do [.p (some (.n lb, 0)), .agg (S.vs a b c d e), .agg [.i .i64 6, .i .i64 id, .i .i64 at_, .i .i64 n, .i .u64 x]] J) (LDid lb pb mb M X k K J) := by
  have e0 : ((6 : Int) == 0) = false := rfl
  have e1 : ((6 : Int) == 1) = false := rfl
  have e2 : ((6 : Int) == 2) = false := rfl
  have e3 : ((6 : Int) == 3) = false := rfl
  have e4 : ((6 : Int) == 4) = false := rfl
  have e5 : ((6 : Int) == 5) = false := rfl
  have e6 : ((6 : Int) == 6) = true := rfl
  simp (maxSteps := 2000000) -implicitDefEqProofs (disch := (first | omega | rfl | assumption | (simp only [rsD]; first | omega | assumption))) only [law15_do, law15_do_c, LD.vs, e0, e1, e2, e3, e4, e5, e6, Nat.reduceAdd, Nat.reduceMul, Nat.reduceLT, Int.reduceToNat, Int.reduceAdd, Int.reduceSub, Int.reduceMul, rsU, rsC]
  generalize hJ : AH.put _ (J.next + 1 + 1) _ = J1
  obtain ⟨H1, k1, b0, b1, b2, n1⟩ := lboxes H hJ
  clear hJ
  obtain ⟨doc, hl, prg⟩ := xsweep H1 hk hK st
  simp only [LD.vs] at doc
  refine Ok.step prg fun r ⟨g1, R⟩ => ?_
  obtain ⟨q, J2⟩ := r
  simp only at g1 R
  subst g1
  have c0 : J2.blk J.next = _ := (R.kp.blk _ (by simp)).trans b0
  have c2 : J2.blk (J.next + 1 + 1) = _ := (R.kp.blk _ (by simp)).trans b2
  simp (maxSteps := 2000000) -implicitDefEqProofs (disch := (first | omega | rfl | assumption | (simp only [rsD]; first | omega | assumption))) only [c0, Nat.reduceAdd, Nat.reduceMul, Nat.reduceLT, Int.reduceToNat, Int.reduceAdd, Int.reduceSub, Int.reduceMul, rsU, rsC]
  refine Ok.step (doc J2) fun r ⟨⟨v', g1, a', b', c', d', e', ev, st'⟩, E3⟩ => ?_
  obtain ⟨q, J3⟩ := r
  simp only at g1 E3
  subst g1
  subst ev
  have n2 := R.kp.next
  have d0 : J3.blk J.next = _ := (E3.blk _ (by omega)).trans c0
  have d2 : J3.blk (J.next + 1 + 1) = _ := (E3.blk _ (by omega)).trans c2
  have ec : ((S.Wt.length : Int) == (S.Wt.length : Int)) = true := beq_self_eq_true _
  have ec2 : (((S.lens S.Wt : Nat) : Int) == ((S.lens S.Wt : Nat) : Int)) = true := beq_self_eq_true _
  have t1 : (true == true) = true := rfl
  simp (maxSteps := 2000000) -implicitDefEqProofs (disch := (first | omega | rfl | assumption | (simp only [rsD]; first | omega | assumption))) only [LD.vs, d0, d2, ec, ec2, t1, Nat.reduceAdd, Nat.reduceMul, Nat.reduceLT, Int.reduceToNat, Int.reduceAdd, Int.reduceSub, Int.reduceMul, rsU, rsC]
  exact Ok_some.2 ⟨⟨S.sweep, a', b', c', d', e', 16 * S.Wt.length, rfl, st', by omega, by omega, fin15 H k1 R (by omega) E3 rfl fun b x1 x2 x3 => by simp -implicitDefEqProofs (disch := omega) only [s_bn, s_bs, s_kn, bump_blk]⟩⟩
end
end Go.Abs.Try
namespace Go.Abs.Try
open Go Go.Abs
variable {O : Type}
section
variable {J : AH O} {lb pb mb : Nat} {M : MemS} {P : PoolS} {w : List Int} {L : LarS} {S : LD} {X : List Nat} {k : Nat} {K : Int} (H : LX J lb pb mb M P w L S X k K) (hk : k < 62) (hK : K <= 1000000) {a b c d e : SA} (st : S.st a b c d e) {id at_ n x : Int}
include H hk hK st
theorem do15_read (hid : q64 id) (ha : q64 at_) : Ok (law15_do [.p (some (.n lb, 0)), .agg (S.vs a b c d e), .agg [.i .i64 2, .i .i64 id, .i .i64 at_, .i .i64 n, .i .u64 x]] J) (LDid lb pb mb M X k K J) := by
  have e0 : ((2 : Int) == 0) = false := rfl
  have e1 : ((2 : Int) == 1) = false := rfl
  have e2 : ((2 : Int) == 2) = true := rfl
  have hbe := H.bd.e
  have hwl := H.wl
  simp (maxSteps := 2000000) -implicitDefEqProofs (disch := (first | omega | rfl | assumption | (simp only [rsD]; first | omega | assumption))) only [law15_do, law15_do_c, LD.vs, e0, e1, e2, Nat.reduceAdd, Nat.reduceMul, Nat.reduceLT, Int.reduceToNat, Int.reduceAdd, Int.reduceSub, Int.reduceMul, rsU, rsC]
  generalize hJ : AH.put _ (J.next + 1 + 1) _ = J1
  obtain ⟨H1, k1, b0, b1, b2, n1⟩ := lboxes H hJ
  clear hJ
  have doc : ∀ J2 : AH O, Ok (haymowref15_Wrong [.agg (S.vs a b c d e), .i .i64 id, .i .i64 at_] J2) fun r => r.1 = .i .i64 (S.wrong id at_) /\ Ext J2 r.2 := fun J2 => dwrong_ok st (H.small (by omega)) (by rw [H.d.len]; omega) hid
  simp only [LD.vs] at doc
  have prg := xread H1 hk hK (id := id) (at_ := at_) ha
  have t1 : (true == true) = true := rfl
  by_cases hw : S.wrong id at_ = 0
  · have hi : S.D.is id = true := by
      unfold LD.wrong at hw
      split at hw
      · assumption
      · cases hw
    have hat : 0 <= at_ /\ at_ < (S.row id).length := by
      unfold LD.wrong at hw
      rw [if_pos hi] at hw
      split at hw
      · assumption
      · cases hw
    rw [hw, if_pos rfl] at prg
    rw [hw] at doc
    obtain ⟨i, rfl, hil⟩ := DS.is_at hi
    have hdl := H.d.len
    have hiw : i < S.Wd.length := by omega
    have hx := List.getElem?_eq_getElem hiw
    have hrow : S.row ((i : Int) + 1) = S.Wd[i] := by unfold LD.row; rw [show ((i : Int) + 1 - 1).toNat = i by omega, hx]; rfl
    rw [hrow] at hat prg
    generalize S.Wd[i] = ws at hx hat prg
    obtain ⟨bw, ow, wv, rfl, hld, him⟩ := wrow st hx
    have hld := fun J : AH O => hld O J
    have hy := List.getElem?_eq_getElem (show at_.toNat < ws.length by omega)
    have hgd : ws.getD at_.toNat 0 = ws[at_.toNat]'(by omega) := by rw [List.getD_eq_getElem?_getD, hy]; rfl
    rw [hgd] at prg
    generalize ws[at_.toNat]'(by omega) = y at hy prg
    obtain ⟨by_, oy, ry, hly⟩ := imm_at1 him (i := at_.toNat) (v := .i .u64 y) (by unfold u64s; rw [List.getElem?_map, hy]; rfl)
    have hly := fun J : AH O => hly O J
    refine Ok.step prg fun r ⟨g1, R⟩ => ?_
    obtain ⟨q, J2⟩ := r
    simp only at g1 R
    subst g1
    have c0 : J2.blk J.next = _ := (R.kp.blk _ (by simp)).trans b0
    have c1 : J2.blk (J.next + 1) = _ := (R.kp.blk _ (by simp)).trans b1
    have c2 : J2.blk (J.next + 1 + 1) = _ := (R.kp.blk _ (by simp)).trans b2
    simp (maxSteps := 2000000) -implicitDefEqProofs (disch := (first | omega | rfl | assumption | (simp only [rsD]; first | omega | assumption))) only [c0, c1, Nat.reduceAdd, Nat.reduceMul, Nat.reduceLT, Int.reduceToNat, Int.reduceAdd, Int.reduceSub, Int.reduceMul, rsU, rsC]
    refine Ok.step (doc J2) fun r ⟨g1, E3⟩ => ?_
    obtain ⟨q, J3⟩ := r
    simp only at g1 E3
    subst g1
    have n2 := R.kp.next
    have d0 : J3.blk J.next = _ := (E3.blk _ (by omega)).trans c0
    have d1 : J3.blk (J.next + 1) = _ := (E3.blk _ (by omega)).trans c1
    have d2 : J3.blk (J.next + 1 + 1) = _ := (E3.blk _ (by omega)).trans c2
    have z0 : ((0 : Int) == 0) = true := rfl
    have v0 : (i : Int) + 1 - 1 = i := by omega
    have ey : (y == y) = true := beq_self_eq_true _
    have f1 : (true == false) = false := rfl
    unfold q64 at hid
    simp (maxSteps := 2000000) -implicitDefEqProofs (disch := (first | omega | rfl | assumption | (simp only [rsD]; first | omega | assumption))) only [d0, d1, d2, z0, t1, f1, v0, hld, ry, hly, ey, s_chkT, Int.toNat_natCast, Nat.reduceAdd, Nat.reduceMul, Nat.reduceLT, Int.reduceToNat, Int.reduceAdd, Int.reduceSub, Int.reduceMul, rsU, rsC]
    exact Ok_some.2 ⟨⟨S, a, b, _, d, e, 3, rfl, st, by decide, by decide, fin15 H k1 R (by omega) E3 rfl fun b x1 x2 x3 => by simp -implicitDefEqProofs (disch := omega) only [s_bn, s_bs, s_kn, bump_blk]⟩⟩
  · rw [if_neg hw] at prg
    generalize S.wrong id at_ = code at *
    refine Ok.step prg fun r ⟨g1, R⟩ => ?_
    obtain ⟨q, J2⟩ := r
    simp only at g1 R
    subst g1
    have c0 : J2.blk J.next = _ := (R.kp.blk _ (by simp)).trans b0
    have c1 : J2.blk (J.next + 1) = _ := (R.kp.blk _ (by simp)).trans b1
    have c2 : J2.blk (J.next + 1 + 1) = _ := (R.kp.blk _ (by simp)).trans b2
    simp (maxSteps := 2000000) -implicitDefEqProofs (disch := (first | omega | rfl | assumption | (simp only [rsD]; first | omega | assumption))) only [c0, c1, Nat.reduceAdd, Nat.reduceMul, Nat.reduceLT, Int.reduceToNat, Int.reduceAdd, Int.reduceSub, Int.reduceMul, rsU, rsC]
    refine Ok.step (doc J2) fun r ⟨g1, E3⟩ => ?_
    obtain ⟨q, J3⟩ := r
    simp only at g1 E3
    subst g1
    have n2 := R.kp.next
    have d0 : J3.blk J.next = _ := (E3.blk _ (by omega)).trans c0
    have d2 : J3.blk (J.next + 1 + 1) = _ := (E3.blk _ (by omega)).trans c2
    have z0 : ((0 : Int) == 0) = true := rfl
    have zc : (code == 0) = false := beq_eq_false_iff_ne.2 hw
    have ec : (code == code) = true := beq_self_eq_true _
    have f1 : (false == false) = true := rfl
    have f2 : (true == false) = false := rfl
    simp (maxSteps := 2000000) -implicitDefEqProofs (disch := (first | omega | rfl | assumption | (simp only [rsD]; first | omega | assumption))) only [d0, d2, z0, zc, ec, t1, f1, f2, eq_self, Nat.reduceAdd, Nat.reduceMul, Nat.reduceLT, Int.reduceToNat, Int.reduceAdd, Int.reduceSub, Int.reduceMul, rsU, rsC]
    exact Ok_some.2 ⟨⟨S, a, b, c, d, e, 3, rfl, st, by decide, by decide, fin15 H k1 R (by omega) E3 rfl fun b x1 x2 x3 => by simp -implicitDefEqProofs (disch := omega) only [s_bn, s_bs, s_kn, bump_blk]⟩⟩
theorem do15_mark (hid : q64 id) : Ok (law15_do [.p (some (.n lb, 0)), .agg (S.vs a b c d e), .agg [.i .i64 4, .i .i64 id, .i .i64 at_, .i .i64 n, .i .u64 x]] J) (LDid lb pb mb M X k K J) := by
  have e0 : ((4 : Int) == 0) = false := rfl
  have e1 : ((4 : Int) == 1) = false := rfl
  have e2 : ((4 : Int) == 2) = false := rfl
  have e3 : ((4 : Int) == 3) = false := rfl
  have e4 : ((4 : Int) == 4) = true := rfl
  have t1 : (true == true) = true := rfl
  have hhw := H.hw
  have l1 : S.Hr.length = L.H.length := by rw [H.hr, nums_len]
  have l2 : S.Wt.length = L.W.length := by rw [H.wt, nums_len]
  simp (maxSteps := 2000000) -implicitDefEqProofs (disch := (first | omega | rfl | assumption | (simp only [rsD]; first | omega | assumption))) only [law15_do, law15_do_c, LD.vs, e0, e1, e2, e3, e4, Nat.reduceAdd, Nat.reduceMul, Nat.reduceLT, Int.reduceToNat, Int.reduceAdd, Int.reduceSub, Int.reduceMul, rsU, rsC]
  generalize hJ : AH.put _ (J.next + 1 + 1) _ = J1
  obtain ⟨H1, k1, b0, b1, b2, n1⟩ := lboxes H hJ
  clear hJ
  have dis : ∀ J' : AH O, Ok (haymowref15_Is [.agg (S.vs a b c d e), .i .i64 id] J') fun r => r.1 = .b (S.D.is id) /\ Ext J' r.2 := fun J' => dis_ok st (H.small (by omega)) hid
  have doc : ∀ J' : AH O, Ok (haymowref15_Mark [.agg (S.vs a b c d e), .i .i64 id] J') fun r => (∃ v', r.1 = .tup [v', .b (decide (id ∉ S.Hr))] /\ (S.mark id).at_ v') /\ Ext J' r.2 := fun J' => dmark_ok st (by omega) (by omega)
  simp only [LD.vs] at dis doc
  rcases ob_cases L id with ⟨i, ws, rfl, ho⟩ | hn
  · rw [(H.yes ho).1] at dis
    refine Ok.step (xmark H1 hk hK ho) fun r ⟨g1, R⟩ => ?_
    obtain ⟨q, J2⟩ := r
    simp only at g1 R
    subst g1
    have c0 : J2.blk J.next = _ := (R.kp.blk _ (by simp)).trans b0
    have c1 : J2.blk (J.next + 1) = _ := (R.kp.blk _ (by simp)).trans b1
    have c2 : J2.blk (J.next + 1 + 1) = _ := (R.kp.blk _ (by simp)).trans b2
    generalize decide (((i : Int) + 1) ∉ S.Hr) = m at *
    simp (maxSteps := 2000000) -implicitDefEqProofs (disch := (first | omega | rfl | assumption | (simp only [rsD]; first | omega | assumption))) only [c0, c1, Nat.reduceAdd, Nat.reduceMul, Nat.reduceLT, Int.reduceToNat, Int.reduceAdd, Int.reduceSub, Int.reduceMul, rsU, rsC]
    refine Ok.step (dis J2) fun r ⟨g1, E3⟩ => ?_
    obtain ⟨q, J3⟩ := r
    simp only at g1 E3
    subst g1
    have n2 := R.kp.next
    have n3 := E3.next
    have d0 : J3.blk J.next = _ := (E3.blk _ (by omega)).trans c0
    have d1 : J3.blk (J.next + 1) = _ := (E3.blk _ (by omega)).trans c1
    have d2 : J3.blk (J.next + 1 + 1) = _ := (E3.blk _ (by omega)).trans c2
    simp (maxSteps := 2000000) -implicitDefEqProofs (disch := (first | omega | rfl | assumption | (simp only [rsD]; first | omega | assumption))) only [d0, d1, Nat.reduceAdd, Nat.reduceMul, Nat.reduceLT, Int.reduceToNat, Int.reduceAdd, Int.reduceSub, Int.reduceMul, rsU, rsC]
    refine Ok.step (doc J3) fun r ⟨⟨v', g1, a', b', c', d', e', ev, st'⟩, E4⟩ => ?_
    obtain ⟨q, J4⟩ := r
    simp only at g1 E4
    subst g1
    subst ev
    have f0 : J4.blk J.next = _ := (E4.blk _ (by omega)).trans d0
    have f2 : J4.blk (J.next + 1 + 1) = _ := (E4.blk _ (by omega)).trans d2
    have em : (m == m) = true := beq_self_eq_true _
    have z0 : ((0 : Int) == 0) = true := rfl
    simp (maxSteps := 2000000) -implicitDefEqProofs (disch := (first | omega | rfl | assumption | (simp only [rsD]; first | omega | assumption))) only [LD.vs, f0, f2, em, z0, t1, eq_self, Nat.reduceAdd, Nat.reduceMul, Nat.reduceLT, Int.reduceToNat, Int.reduceAdd, Int.reduceSub, Int.reduceMul, rsU, rsC]
    exact Ok_some.2 ⟨⟨S.mark ((i : Int) + 1), a', b', c', d', e', 12, rfl, st', by decide, by decide, fin15 H k1 R (by omega) (E3.trans E4) rfl fun b x1 x2 x3 => by simp -implicitDefEqProofs (disch := omega) only [s_bn, s_bs, s_kn, bump_blk]⟩⟩
  · rw [H.no hn] at dis
    refine Ok.step (xmark_no H1 hk hK hn) fun r ⟨g1, R⟩ => ?_
    obtain ⟨q, J2⟩ := r
    simp only at g1 R
    subst g1
    have c0 : J2.blk J.next = _ := (R.kp.blk _ (by simp)).trans b0
    have c1 : J2.blk (J.next + 1) = _ := (R.kp.blk _ (by simp)).trans b1
    have c2 : J2.blk (J.next + 1 + 1) = _ := (R.kp.blk _ (by simp)).trans b2
    simp (maxSteps := 2000000) -implicitDefEqProofs (disch := (first | omega | rfl | assumption | (simp only [rsD]; first | omega | assumption))) only [c0, c1, Nat.reduceAdd, Nat.reduceMul, Nat.reduceLT, Int.reduceToNat, Int.reduceAdd, Int.reduceSub, Int.reduceMul, rsU, rsC]
    refine Ok.step (dis J2) fun r ⟨g1, E3⟩ => ?_
    obtain ⟨q, J3⟩ := r
    simp only at g1 E3
    subst g1
    have n2 := R.kp.next
    have d0 : J3.blk J.next = _ := (E3.blk _ (by omega)).trans c0
    have d2 : J3.blk (J.next + 1 + 1) = _ := (E3.blk _ (by omega)).trans c2
    have z4 : ((4 : Int) == 4) = true := rfl
    simp (maxSteps := 2000000) -implicitDefEqProofs (disch := (first | omega | rfl | assumption | (simp only [rsD]; first | omega | assumption))) only [d0, d2, z4, t1, eq_self, Nat.reduceAdd, Nat.reduceMul, Nat.reduceLT, Int.reduceToNat, Int.reduceAdd, Int.reduceSub, Int.reduceMul, rsU, rsC]
    exact Ok_some.2 ⟨⟨S, a, b, c, d, e, 12, rfl, st, by decide, by decide, fin15 H k1 R (by omega) E3 rfl fun b x1 x2 x3 => by simp -implicitDefEqProofs (disch := omega) only [s_bn, s_bs, s_kn, bump_blk]⟩⟩
theorem do15_known {kd : Int} (hid : q64 id) (k0 : kd ≠ 0) (k1 : kd ≠ 1) (k2 : kd ≠ 2) (k3 : kd ≠ 3) (k4 : kd ≠ 4) (k5 : kd ≠ 5) (k6 : kd ≠ 6) : Ok (law15_do [.p (some (.n lb, 0)), .agg (S.vs a b c d e), .agg [.i .i64 kd, .i .i64 id, .i .i64 at_, .i .i64 n, .i .u64 x]] J) (LDid lb pb mb M X k K J) := by
  have e0 : (kd == 0) = false := beq_eq_false_iff_ne.2 k0
  have e1 : (kd == 1) = false := beq_eq_false_iff_ne.2 k1
  have e2 : (kd == 2) = false := beq_eq_false_iff_ne.2 k2
  have e3 : (kd == 3) = false := beq_eq_false_iff_ne.2 k3
  have e4 : (kd == 4) = false := beq_eq_false_iff_ne.2 k4
  have e5 : (kd == 5) = false := beq_eq_false_iff_ne.2 k5
  have e6 : (kd == 6) = false := beq_eq_false_iff_ne.2 k6
  simp (maxSteps := 2000000) -implicitDefEqProofs (disch := (first | omega | rfl | assumption | (simp only [rsD]; first | omega | assumption))) only [law15_do, law15_do_c, LD.vs, e0, e1, e2, e3, e4, e5, e6, Nat.reduceAdd, Nat.reduceMul, Nat.reduceLT, Int.reduceToNat, Int.reduceAdd, Int.reduceSub, Int.reduceMul, rsU, rsC]
  generalize hJ : AH.put _ (J.next + 1 + 1) _ = J1
  obtain ⟨H1, kk1, b0, b1, b2, n1⟩ := lboxes H hJ
  clear hJ
  have prg := xknown H1 hk hK st hid
  simp only [LD.vs] at prg
  refine Ok.step prg fun r ⟨g1, R⟩ => ?_
  obtain ⟨q, J2⟩ := r
  simp only at g1 R
  subst g1
  have c0 : J2.blk J.next = _ := (R.kp.blk _ (by simp)).trans b0
  have c2 : J2.blk (J.next + 1 + 1) = _ := (R.kp.blk _ (by simp)).trans b2
  simp (maxSteps := 2000000) -implicitDefEqProofs (disch := (first | omega | rfl | assumption | (simp only [rsD]; first | omega | assumption))) only [c0, c2, s_chkT, Nat.reduceAdd, Nat.reduceMul, Nat.reduceLT, Int.reduceToNat, Int.reduceAdd, Int.reduceSub, Int.reduceMul, rsU, rsC]
  exact Ok_some.2 ⟨⟨S, a, b, c, d, e, 4, rfl, st, by decide, by decide, fin15 H kk1 R (by omega) (Ext.refl _) rfl fun b x1 x2 x3 => by simp -implicitDefEqProofs (disch := omega) only [s_bn, s_bs, s_kn, bump_blk]⟩⟩
end
end Go.Abs.Try
namespace Go.Abs.Try
open Go Go.Abs
variable {O : Type}
theorem wcs_at {t : Int} (h : 0 <= t /\ t < 18446744073709551616) : wcs t = [.i .u64 0, .i .u64 t] := by
  unfold wcs; rw [show t / 18446744073709551616 = 0 by omega, show t % 18446744073709551616 = t by omega]
theorem steps15 {J : AH O} {b : Nat} {M : MemS} (h : MetAt J b M.met) (hok : M.ok) (ht : M.met.r + M.met.w < 18446744073709551616) : Ok (meter_Meter__Steps [.p (some (.n b, 0))] J) fun r => r.1 = .agg [.i .u64 0, .i .u64 (M.met.r + M.met.w)] /\ Ext J r.2 := by
  have h1 := hok.met.r
  have h2 := hok.met.w
  have := steps_ok h hok.met
  rw [wcs_at (by omega)] at this
  exact this
theorem since15 {J : AH O} {b : Nat} {M : MemS} (h : MetAt J b M.met) (hok : M.ok) {s : Int} (h0 : 0 <= s) (hs : s <= M.met.r + M.met.w) (ht : M.met.r + M.met.w < 18446744073709551616) : Ok (meter_Meter__Since [.p (some (.n b, 0)), .agg [.i .u64 0, .i .u64 s]] J) fun r => r.1 = .agg [.i .u64 0, .i .u64 (M.met.r + M.met.w - s)] /\ Ext J r.2 := by
  have := since_ok h hok.met h0 hs
  rw [wcs_at (by omega), wcs_at (by omega)] at this
  exact this
theorem cmp15 {a b : Int} {J : AH O} (h0 : 0 <= a) (hab : a <= b) (hb : b < 4294967296) : Ok (haymowref01_Cmp [.agg [.i .u64 0, .i .u64 a], .agg [.i .u64 0, .i .u64 b]] J) fun r => (∃ n, r.1 = .i .i64 n /\ n <= 0) /\ Ext J r.2 := by
  have := rcmp_le (J := J) h0 hab hb
  rw [wcs_at (by omega), wcs_at (by omega)] at this
  exact this
structure LOp where
  kind : Int
  id : Int
  at_ : Int
  n : Int
  w : Int
def LOp.cells (o : LOp) : List AV := [.i .i64 o.kind, .i .i64 o.id, .i .i64 o.at_, .i .i64 o.n, .i .u64 o.w]
theorem LOp.len (o : LOp) : o.cells.length = 5 := rfl
structure LOp.rng (o : LOp) : Prop where
  id : q64 o.id
  at_ : q64 o.at_
def LOp.few (o : LOp) : Prop := o.kind = 0 -> o.n <= 300 ∨ 4194304 < o.n
theorem few15_ok {J : AH O} {so : SA} {ops : List LOp} (hj : Imm 5 so ops.length (ops.flatMap LOp.cells)) : Ok (law15_few [.sl so ops.length] J) fun r => r = (.b false, J) ∨ (r = (.b true, J) /\ ops.length <= 60 /\ ∀ o ∈ ops, o.few) := by
  simp (maxSteps := 2000000) -implicitDefEqProofs (disch := (first | omega | rfl | assumption | (simp only [rsD]; first | omega | assumption))) only [law15_few, law15_few_c, Nat.reduceAdd, Nat.reduceMul, Nat.reduceLT, Int.reduceToNat, Int.reduceAdd, Int.reduceSub, Int.reduceMul, rsU, rsC]
  by_cases hbig : (ops.length : Int) > 60
  · simp (maxSteps := 2000000) -implicitDefEqProofs (disch := (first | omega | rfl | assumption | (simp only [rsD]; first | omega | assumption))) only [Nat.reduceAdd, Nat.reduceMul, Nat.reduceLT, Int.reduceToNat, Int.reduceAdd, Int.reduceSub, Int.reduceMul, rsU, rsC]
    exact Ok_some.2 (.inl rfl)
  simp (maxSteps := 2000000) -implicitDefEqProofs (disch := (first | omega | rfl | assumption | (simp only [rsD]; first | omega | assumption))) only [Nat.reduceAdd, Nat.reduceMul, Nat.reduceLT, Int.reduceToNat, Int.reduceAdd, Int.reduceSub, Int.reduceMul, rsU, rsC]
  refine Ok.bindS (Q := fun r => r = .inr (.b false, J) ∨ (r = .inl ([], J) /\ ∀ o ∈ ops, o.few)) ?_ ?_ ?_
  · refine Ok.count ops.length (fun k s => s = ([.i .i64 (k : Int)], J) /\ ∀ o ∈ ops.take k, o.few) ?_ ?_ ⟨rfl, by simp⟩
    · rintro k _ hk ⟨rfl, hp⟩
      have hx := List.getElem?_eq_getElem hk
      have hS : ops.take (k + 1) = ops.take k ++ [ops[k]] := by rw [List.take_succ_eq_append_getElem hk]
      rw [hS]
      generalize ops[k] = o at hx
      obtain ⟨bb, oo, rfl, hld⟩ := Imm.row LOp.len hj hx (by decide)
      have l0 : J.ld bb (oo + k * 5) = some (.i .i64 o.kind) := hld O J 0 (by decide)
      have l3 : J.ld bb (oo + k * 5 + 3) = some (.i .i64 o.n) := hld O J 3 (by decide)
      have t1 : (true == true) = true := rfl
      have t2 : (false == true) = false := rfl
      by_cases c0 : o.kind = 0
      · have q0 := s_eqT c0
        by_cases c1 : o.n > 300
        · by_cases c2 : o.n <= 4194304
          · simp (maxSteps := 2000000) -implicitDefEqProofs (disch := (first | omega | rfl | assumption | (simp only [rsD]; first | omega | assumption))) only [law15_few_L1, l0, l3, q0, t1, Nat.reduceAdd, Nat.reduceMul, Nat.reduceLT, Int.reduceToNat, Int.reduceAdd, Int.reduceSub, Int.reduceMul, rsU, rsC]
            exact Ok_some.2 (.inl rfl)
          · simp (maxSteps := 2000000) -implicitDefEqProofs (disch := (first | omega | rfl | assumption | (simp only [rsD]; first | omega | assumption))) only [law15_few_L1, l0, l3, q0, t1, Nat.reduceAdd, Nat.reduceMul, Nat.reduceLT, Int.reduceToNat, Int.reduceAdd, Int.reduceSub, Int.reduceMul, rsU, rsC]
            refine Ok_some.2 ⟨by simp, fun x hx' => ?_⟩
            rcases List.mem_append.1 hx' with g | g
            · exact hp x g
            · simp at g; subst g; exact fun _ => .inr (by omega)
        · simp (maxSteps := 2000000) -implicitDefEqProofs (disch := (first | omega | rfl | assumption | (simp only [rsD]; first | omega | assumption))) only [law15_few_L1, l0, l3, q0, t1, t2, Nat.reduceAdd, Nat.reduceMul, Nat.reduceLT, Int.reduceToNat, Int.reduceAdd, Int.reduceSub, Int.reduceMul, rsU, rsC]
          refine Ok_some.2 ⟨by simp, fun x hx' => ?_⟩
          rcases List.mem_append.1 hx' with g | g
          · exact hp x g
          · simp at g; subst g; exact fun _ => .inl (by omega)
      · have q0 := s_eqF c0
        simp (maxSteps := 2000000) -implicitDefEqProofs (disch := (first | omega | rfl | assumption | (simp only [rsD]; first | omega | assumption))) only [law15_few_L1, l0, l3, q0, t1, t2, Nat.reduceAdd, Nat.reduceMul, Nat.reduceLT, Int.reduceToNat, Int.reduceAdd, Int.reduceSub, Int.reduceMul, rsU, rsC]
        refine Ok_some.2 ⟨by simp, fun x hx' => ?_⟩
        rcases List.mem_append.1 hx' with g | g
        · exact hp x g
        · simp at g; subst g; exact fun h => absurd h c0
    · rintro _ ⟨rfl, hp⟩
      rw [List.take_length] at hp
      simp (maxSteps := 2000000) -implicitDefEqProofs (disch := (first | omega | rfl | assumption | (simp only [rsD]; first | omega | assumption))) only [law15_few_L1, Nat.reduceAdd, Nat.reduceMul, Nat.reduceLT, Int.reduceToNat, Int.reduceAdd, Int.reduceSub, Int.reduceMul, rsU, rsC]
      exact Ok_some.2 (.inr ⟨rfl, hp⟩)
  · rintro s (h | ⟨h, hp⟩)
    · cases h
    · cases h
      simp (maxSteps := 2000000) -implicitDefEqProofs (disch := (first | omega | rfl | assumption | (simp only [rsD]; first | omega | assumption))) only [Nat.reduceAdd, Nat.reduceMul, Nat.reduceLT, Int.reduceToNat, Int.reduceAdd, Int.reduceSub, Int.reduceMul, rsU, rsC]
      exact Ok_some.2 (.inr ⟨rfl, by omega, hp⟩)
  · rintro r (h | ⟨h, _⟩)
    · cases h; exact .inl rfl
    · cases h
structure LpAt (J : AH O) (lb pb mb wb k : Nat) (M : MemS) (P : PoolS) (w : List Int) (L : LarS) (S : LD) (a b c d e : SA) (Y : List Nat) : Prop where
  x : LX J lb pb mb M P w L S (wb :: Y) k (1000 * k)
  st : S.st a b c d e
  bx : J.blk wb = some (.cells true T_haymowref15_State (S.vs a b c d e))
theorem MemIn.meter15 {J : AH O} {mb : Nat} {M : MemS} {X : List Nat} (h : MemIn J mb M X) : ∃ tb el rest, J.blk mb = some (.cells true el (.p (some (.n tb, 0)) :: rest)) /\ MetAt J tb M.met := by
  obtain ⟨F, h1, _⟩ := h; exact h1.meter
section
variable {J : AH O} {lb pb mb wb k : Nat} {M : MemS} {P : PoolS} {w : List Int} {L : LarS} {S : LD} {a b c d e : SA}
theorem LX.box {Y : List Nat} {K : Int} (H : LX J lb pb mb M P w L S Y k K) {J1 : AH O} (E : Ext (J.bump 1) J1) {x : Blk O} {J2 : AH O} (hJ : J1.put J.next x = J2) : LX J2 lb pb mb M P w L S (J.next :: Y) k K /\ J2.blk J.next = some x /\ Ext J J2 /\ J.next < J2.next := by
  subst hJ
  have n1 := E.next
  simp only [bump_next] at n1
  have E2 : Ext J (J1.put J.next x) := (((Ext.refl J).bump 1).trans E).put (Nat.le_refl _) x
  refine ⟨H.turn (C := []) E2.chg (by simp) fun q hq => ?_, s_bs, E2, by simp; omega⟩
  rcases List.mem_cons.1 hq with rfl | hq
  · exact .inr ⟨Nat.le_refl _, by simp; omega⟩
  · exact .inl hq
theorem do15_any {X : List Nat} {K : Int} (H : LX J lb pb mb M P w L S X k K) (hk : k < 62) (hK : K <= 1000000) (st : S.st a b c d e) {o : LOp} (hr : o.rng) (hf : o.few) : Ok (law15_do [.p (some (.n lb, 0)), .agg (S.vs a b c d e), .agg o.cells] J) (LDid lb pb mb M X k K J) := by
  obtain ⟨kd, id, at_, n, x⟩ := o
  obtain ⟨r1, r2⟩ := hr
  unfold LOp.few at hf
  simp only at r1 r2 hf
  unfold LOp.cells
  simp only
  by_cases c0 : kd = 0
  · subst c0; exact do15_add H hk hK st (hf rfl)
  by_cases c1 : kd = 1
  · subst c1; exact do15_write H hk hK st r1 r2
  by_cases c2 : kd = 2
  · subst c2; exact do15_read H hk hK st r1 r2
  by_cases c3 : kd = 3
  · subst c3; exact do15_begin H hk hK st
  by_cases c4 : kd = 4
  · subst c4; exact do15_mark H hk hK st r1
  by_cases c5 : kd = 5
  · subst c5; exact do15_grey H hk hK st
  by_cases c6 : kd = 6
  · subst c6; exact do15_sweep H hk hK st
  exact do15_known H hk hK st r1 c0 c1 c2 c3 c4 c5 c6
theorem lplays_step (H : LpAt J lb pb mb wb k M P w L S a b c d e []) (hk : k < 60) {so : SA} {N : Nat} (hkN : k < N) (hN : N <= 60) {o : LOp} (hr : o.rng) (hf : o.few) {bb : Bid} {oo : Nat} (e5 : so = .loc bb oo 5) (l0 : ∀ J : AH O, J.ld bb (oo + k * 5) = some (.i .i64 o.kind)) (l1 : ∀ J : AH O, J.ld bb (oo + k * 5 + 1) = some (.i .i64 o.id)) (l2 : ∀ J : AH O, J.ld bb (oo + k * 5 + 1 + 1) = some (.i .i64 o.at_)) (l3 : ∀ J : AH O, J.ld bb (oo + k * 5 + 1 + 1 + 1) = some (.i .i64 o.n)) (l4 : ∀ J : AH O, J.ld bb (oo + k * 5 + 1 + 1 + 1 + 1) = some (.i .u64 o.w)) {r3 : AV × AH O} (hr3 : r3.2.next = wb) :
    Ok (law15_LargePlays_L1 (so, N) (some (.n mb, 0)) meter_Meter__Steps r3 law15_do (some (.n lb, 0)) meter_Meter__Since haymowref01_Cmp meter_Meter__Held haymowref15_Sum large_Large__Words large_Large__Count ([.i .i64 (k : Int)], J)) fun r => ∃ J' M' P' w' L' S' a' b' c' d' e', r = .inl ([.i .i64 ((k : Int) + 1)], J') /\ LpAt J' lb pb mb wb (k + 1) M' P' w' L' S' a' b' c' d' e' [] := by
  subst e5
  have hfw := H.x.few.1
  have hok := H.x.lar.p.mi.ok
  have hr0 := hok.met.r
  have hw0 := hok.met.w
  have hbx := H.bx
  simp only [LD.vs] at hbx
  have hwl : wb < J.next := H.x.lar.lX wb (by simp)
  obtain ⟨tb, el, rest, hmb, hmt⟩ := H.x.lar.p.mi.meter15
  have E0 : Ext J (J.bump 1) := (Ext.refl J).bump 1
  simp (maxSteps := 2000000) -implicitDefEqProofs (disch := (first | omega | rfl | assumption | (simp only [rsD]; first | omega | assumption))) only [law15_LargePlays_L1, hmb, Nat.reduceAdd, Nat.reduceMul, Nat.reduceLT, Int.reduceToNat, Int.reduceAdd, Int.reduceSub, Int.reduceMul, rsU, rsC]
  refine Ok.step (steps15 (hmt.of E0.next (E0.blk _ hmt.lt)) hok (by omega)) fun r ⟨g1, g2⟩ => ?_
  obtain ⟨q, J0⟩ := r
  simp only at g1 g2
  subst g1
  have hb0 : J0.blk wb = _ := (g2.blk wb (by simp only [bump_next]; omega)).trans hbx
  simp (maxSteps := 2000000) -implicitDefEqProofs (disch := (first | omega | rfl | assumption | (simp only [rsD]; first | omega | assumption))) only [l0, l1, l2, l3, l4, hr3, hb0, Nat.reduceAdd, Nat.reduceMul, Nat.reduceLT, Int.reduceToNat, Int.reduceAdd, Int.reduceSub, Int.reduceMul, rsU, rsC]
  generalize hJ : AH.put J0 J.next _ = J1
  obtain ⟨H1, ybox, E1, hy⟩ := H.x.box g2 hJ
  clear hJ
  have prg := do15_any H1 (by omega) (by omega) H.st hr hf
  simp only [LD.vs, LOp.cells] at prg
  refine Ok.step prg fun r D => ?_
  obtain ⟨q, J2⟩ := r
  obtain ⟨S', a', b', c', d', e', most, g1, st', m0, m1, R⟩ := D
  simp only at g1 R
  subst g1
  obtain ⟨⟨M2, P2, w2, L2, X2, s1, s2⟩, kp⟩ := R
  have hb2 : J2.blk wb = _ := (kp.blk wb (by simp)).trans ((E1.blk wb hwl).trans hbx)
  have ybox2 : J2.blk J.next = _ := (kp.blk J.next (by simp)).trans ybox
  simp (maxSteps := 2000000) -implicitDefEqProofs (disch := (first | omega | rfl | assumption | (simp only [rsD]; first | omega | assumption))) only [LD.vs, hr3, hb2, Nat.reduceAdd, Nat.reduceMul, Nat.reduceLT, Int.reduceToNat, Int.reduceAdd, Int.reduceSub, Int.reduceMul, rsU, rsC]
  generalize hJ : J2.put wb _ = J3
  have n3 : J3.next = J2.next := by rw [<- hJ]; rfl
  have hb3 : J3.blk wb = some (.cells true T_haymowref15_State (S'.vs a' b' c' d' e')) := by rw [<- hJ]; exact s_bs
  have o3 : ∀ q, q ≠ wb -> J3.blk q = J2.blk q := fun q h1 => by rw [<- hJ]; exact s_bn h1
  clear hJ
  have X3 : LX J3 lb pb mb M2 P2 w2 L2 S' (J.next :: wb :: []) (k + 1) (1000 * k + most) := X2.turn (C := [wb]) ⟨by omega, fun q hq hm => o3 q (by simpa using hm)⟩ (fun q hq => by simp at hq; subst hq; exact .inl (by simp)) fun q hq => .inl hq
  have ybox3 : J3.blk J.next = _ := (o3 _ (by omega)).trans ybox2
  simp only [LD.vs] at hb3
  have hok3 := X3.lar.p.mi.ok
  have hf3 := X3.few.1
  obtain ⟨tb5, el5, rest5, hmb5, hmt5⟩ := X3.lar.p.mi.meter15
  simp (maxSteps := 2000000) -implicitDefEqProofs (disch := (first | omega | rfl | assumption | (simp only [rsD]; first | omega | assumption))) only [hmb5, ybox2, ybox3, Nat.reduceAdd, Nat.reduceMul, Nat.reduceLT, Int.reduceToNat, Int.reduceAdd, Int.reduceSub, Int.reduceMul, rsU, rsC]
  refine Ok.step (since15 hmt5 hok3 (s := M.met.r + M.met.w) (by omega) (by omega) (by omega)) fun r ⟨z1, E5⟩ => ?_
  obtain ⟨q, J5⟩ := r
  simp only at z1 E5
  subst z1
  simp (maxSteps := 2000000) -implicitDefEqProofs (disch := (first | omega | rfl | assumption | (simp only [rsD]; first | omega | assumption))) only [Nat.reduceAdd, Nat.reduceMul, Nat.reduceLT, Int.reduceToNat, Int.reduceAdd, Int.reduceSub, Int.reduceMul, rsU, rsC]
  refine Ok.step (cmp15 (J := J5) (a := M2.met.r + M2.met.w - (M.met.r + M.met.w)) (b := most) (by omega) (by omega) (by omega)) fun r ⟨⟨m, z2, z3⟩, E6⟩ => ?_
  obtain ⟨q, J6⟩ := r
  simp only at z2 E6
  subst z2
  have E56 := E5.trans E6
  have X6 := X3.turn (J' := J6) (Z := J.next :: wb :: []) (C := []) E56.chg (by simp) fun q hq => .inl hq
  have hwl3 : wb < J3.next := X3.lar.lX wb (by simp)
  have hb6 : J6.blk wb = _ := (E56.blk wb hwl3).trans hb3
  have t4 : decide (m > 0) = false := decide_eq_false (by omega)
  obtain ⟨tb6, el6, rest6, hmb6, hmt6⟩ := X6.lar.p.mi.meter15
  have hhd := held_ok hmt6
  have hsm := X6.small (by omega)
  have hbe := X6.bd.e
  have hxwl := X6.wl
  have hwb6 := X6.lar.wb
  have hsum := X6.sum
  have hroom := X6.d.room
  have hbr := X6.bd.r
  have hheld := X6.held
  have sumo : ∀ J' : AH O, Ok (haymowref15_Sum [.agg (S'.vs a' b' c' d' e')] J') fun r => r.1 = .i .i64 (S'.sumTo S'.Wd.length) /\ Ext J' r.2 := fun J' => dsum_ok st' hsm (by omega) fun ws hw => by have := X6.wb ws hw; omega
  rw [hsum] at sumo
  simp only [LD.vs] at sumo
  have bf : (false == false) = true := rfl
  simp (maxSteps := 2000000) -implicitDefEqProofs (disch := (first | omega | rfl | assumption | (simp only [rsD]; first | omega | assumption))) only [t4, bf, hmb6, hhd, hr3, hb6, s_chkT, Nat.reduceAdd, Nat.reduceMul, Nat.reduceLT, Int.reduceToNat, Int.reduceAdd, Int.reduceSub, Int.reduceMul, rsU, rsC]
  refine Ok.step (sumo J6) fun r ⟨g1, E7⟩ => ?_
  obtain ⟨q, J7⟩ := r
  simp only at g1 E7
  subst g1
  have X7 := X6.turn (J' := J7) (Z := J.next :: wb :: []) (C := []) E7.chg (by simp) fun q hq => .inl hq
  have hwl6 : wb < J6.next := X6.lar.lX wb (by simp)
  have hb7 : J7.blk wb = _ := (E7.blk wb hwl6).trans hb6
  have hprod : 6 * S'.D.room + L2.words = M2.met.held := by omega
  have q2 : (M2.met.held == M2.met.held) = true := beq_self_eq_true _
  have hlw := lwords_ok X7.lar
  simp (maxSteps := 2000000) -implicitDefEqProofs (disch := (first | omega | rfl | assumption | (simp only [rsD]; first | omega | assumption))) only [hb7, s_chkT, hprod, q2, bf, hlw, eq_self, Nat.reduceAdd, Nat.reduceMul, Nat.reduceLT, Int.reduceToNat, Int.reduceAdd, Int.reduceSub, Int.reduceMul, rsU, rsC]
  refine Ok.step (sumo J7) fun r ⟨g1, E8⟩ => ?_
  obtain ⟨q, J8⟩ := r
  simp only at g1 E8
  subst g1
  have X8 := X7.turn (J' := J8) (Z := J.next :: wb :: []) (C := []) E8.chg (by simp) fun q hq => .inl hq
  have hwl7 : wb < J7.next := X7.lar.lX wb (by simp)
  have hb8 : J8.blk wb = _ := (E8.blk wb hwl7).trans hb7
  have q3 : (L2.words == L2.words) = true := beq_self_eq_true _
  have hct := lcount_ok X8.lar
  have hhw := X8.hw
  have e1 : S'.Hr.length = L2.H.length := by rw [X8.hr, nums_len]
  have e2 : S'.Wt.length = L2.W.length := by rw [X8.wt, nums_len]
  rw [e1, e2] at hb8
  have q4 : ((L2.H.length : Int) + L2.W.length == (L2.H.length : Int) + L2.W.length) = true := beq_self_eq_true _
  simp (maxSteps := 2000000) -implicitDefEqProofs (disch := (first | omega | rfl | assumption | (simp only [rsD]; first | omega | assumption))) only [q3, bf, hb8, s_chkT, hct, q4, eq_self, Nat.reduceAdd, Nat.reduceMul, Nat.reduceLT, Int.reduceToNat, Int.reduceAdd, Int.reduceSub, Int.reduceMul, rsU, rsC]
  refine Ok_some.2 ⟨J8, M2, P2, w2, L2, S', a', b', c', d', e', by simp, ⟨?_, st', ?_⟩⟩
  · have X9 := X8.turn (J' := J8) (Z := wb :: []) (C := []) (Chg.refl _ _) (by simp) fun q hq => .inl (by simp at hq; simp [hq])
    exact { X9 with few := X9.few.le (by push_cast; omega) (Int.le_refl _) }
  · rw [hb8]; simp only [LD.vs, e1, e2]
end
end Go.Abs.Try
namespace Go.Abs.Try
open Go Go.Abs
variable {O : Type}
theorem lplays_known {J : AH O} {lb pb mb wb k : Nat} {M : MemS} {P : PoolS} {w : List Int} {L : LarS} {S : LD} {a b c d e : SA} {K : Int} (H : LX J lb pb mb M P w L S (wb :: []) k K) (hk : k < 62) (hK : K <= 500000) (st : S.st a b c d e) (bx : J.blk wb = some (.cells true T_haymowref15_State (S.vs a b c d e))) {r5 : AV × AH O} (hr5 : r5.2.next = wb) :
    Ok (loopF (S := List AV × AH O) (T := (List AV × AH O) ⊕ (AV × AH O)) (law15_LargePlays_L2 r5 law15_known (some (.n lb, 0))) ([.i .i64 0], J)) fun r => ∃ J', r = .inl ([], J') := by
  have hwl := H.wl
  have hbe := H.bd.e
  refine Ok.count (S.Wd.length + 2) (fun j s => ∃ J' M' P' w' L', s = ([.i .i64 (j : Int)], J') /\ LX J' lb pb mb M' P' w' L' S (wb :: []) k (K + 4 * j) /\ J'.blk wb = some (.cells true T_haymowref15_State (S.vs a b c d e))) ?_ ?_ ⟨J, M, P, w, L, rfl, by simpa using H, bx⟩
  · rintro j _ hj ⟨J', M', P', w', L', rfl, H', bx'⟩
    have b1 := bx'
    simp only [LD.vs] at b1
    have prg := xknown H' hk (by omega) st (id := (j : Int)) (by unfold q64; omega)
    simp only [LD.vs] at prg
    simp (maxSteps := 2000000) -implicitDefEqProofs (disch := (first | omega | rfl | assumption | (simp only [rsD]; first | omega | assumption))) only [law15_LargePlays_L2, hr5, b1, Nat.reduceAdd, Nat.reduceMul, Nat.reduceLT, Int.reduceToNat, Int.reduceAdd, Int.reduceSub, Int.reduceMul, rsU, rsC]
    refine Ok.step prg fun r ⟨g1, R⟩ => ?_
    obtain ⟨q, J2⟩ := r
    simp only at g1 R
    subst g1
    obtain ⟨⟨M2, P2, w2, L2, X2, _, _⟩, kp⟩ := R
    simp (maxSteps := 2000000) -implicitDefEqProofs (disch := (first | omega | rfl | assumption | (simp only [rsD]; first | omega | assumption))) only [Nat.reduceAdd, Nat.reduceMul, Nat.reduceLT, Int.reduceToNat, Int.reduceAdd, Int.reduceSub, Int.reduceMul, rsU, rsC]
    refine Ok_some.2 ⟨J2, M2, P2, w2, L2, by simp, ?_, (kp.blk wb (by simp)).trans bx'⟩
    rw [show K + 4 * ((j + 1 : Nat) : Int) = K + 4 * (j : Int) + 4 by push_cast; omega]
    exact X2
  · rintro _ ⟨J', M', P', w', L', rfl, H', bx'⟩
    have b1 := bx'
    simp only [LD.vs] at b1
    simp (maxSteps := 2000000) -implicitDefEqProofs (disch := (first | omega | rfl | assumption | (simp only [rsD]; first | omega | assumption))) only [law15_LargePlays_L2, hr5, b1, Nat.reduceAdd, Nat.reduceMul, Nat.reduceLT, Int.reduceToNat, Int.reduceAdd, Int.reduceSub, Int.reduceMul, rsU, rsC]
    exact Ok_some.2 ⟨J', rfl⟩
theorem largePlays_ok {so : SA} {ops : List LOp} (hj : Imm 5 so ops.length (ops.flatMap LOp.cells)) (hr : ∀ o ∈ ops, o.rng) : Ok (law15_LargePlays (O := O) [.sl so ops.length] startH) fun r => r.1 = .b true := by
  obtain ⟨J0, ea⟩ := awake15 (O := O)
  simp (maxSteps := 2000000) -implicitDefEqProofs (disch := (first | omega | rfl | assumption | (simp only [rsD]; first | omega | assumption))) only [law15_LargePlays, law15_LargePlays_c, ea, Nat.reduceAdd, Nat.reduceMul, Nat.reduceLT, Int.reduceToNat, Int.reduceAdd, Int.reduceSub, Int.reduceMul, rsU, rsC]
  refine Ok.step (few15_ok hj) fun r hf => ?_
  rcases hf with rfl | ⟨rfl, hN, hfew⟩
  · simp (maxSteps := 2000000) -implicitDefEqProofs (disch := (first | omega | rfl | assumption | (simp only [rsD]; first | omega | assumption))) only [Nat.reduceAdd, Nat.reduceMul, Nat.reduceLT, Int.reduceToNat, Int.reduceAdd, Int.reduceSub, Int.reduceMul, rsU, rsC]
    exact Ok_some.2 rfl
  simp (maxSteps := 2000000) -implicitDefEqProofs (disch := (first | omega | rfl | assumption | (simp only [rsD]; first | omega | assumption))) only [Nat.reduceAdd, Nat.reduceMul, Nat.reduceLT, Int.reduceToNat, Int.reduceAdd, Int.reduceSub, Int.reduceMul, rsU, rsC]
  refine Ok.step made15 fun r ⟨mb, lb, pb, M1, g1, g2, g3, g4⟩ => ?_
  obtain ⟨q, J1⟩ := r
  simp only at g1 g2
  subst g1
  simp (maxSteps := 2000000) -implicitDefEqProofs (disch := (first | omega | rfl | assumption | (simp only [rsD]; first | omega | assumption))) only [haymowref15_New, haymowref15_New_c, Nat.reduceAdd, Nat.reduceMul, Nat.reduceLT, Int.reduceToNat, Int.reduceAdd, Int.reduceSub, Int.reduceMul, rsU, rsC]
  generalize hJ : AH.put _ J1.next _ = J2
  have E : Ext J1 J2 := by rw [<- hJ]; exact (ext_of (by simp only [put_next, bump_next, kill_next]; omega) (fun b hb => by simp -implicitDefEqProofs (disch := (first | omega | rfl | assumption | (simp only [rsD]; first | omega | assumption))) only [s_bn, s_kn, bump_blk, s_ext]))
  have n2 : J1.next < J2.next := by rw [<- hJ]; simp; omega
  have b2 : J2.blk J1.next = some (.cells true T_haymowref15_State [.i .i64 5, .sl .nil 0, .sl .nil 0, .i .i64 0, .sl .nil 0, .sl .nil 0, .sl .nil 0, .i .i64 0]) := by rw [<- hJ]; exact s_bs
  clear hJ
  have start : LpAt J2 lb pb mb J1.next 0 M1 ⟨0, 5, 0, [], [], 0⟩ [] ⟨[], [], 0, 0, 0, fun _ => none⟩ ⟨⟨5, [], [], 0⟩, [], [], [], 0⟩ .nil .nil .nil .nil .nil [] := by
    refine ⟨⟨g2.turn (K := []) E.chg (by simp) fun q hq => ?_, ⟨rfl, rfl, rfl, rfl, fun i d hd => by simp at hd, rfl⟩, ⟨Nat.le_refl _, fun e he => by simp at he, Nat.zero_le _⟩, rfl, fun i ws ho => by simp at ho, fun ws hw => by simp at hw, rfl, rfl, ⟨0, rfl, Nat.le_refl _, rfl⟩, by rw [g4]; rfl, g3.le (by decide) (by decide), by decide⟩, ⟨⟨_, _, rfl, .sl (Imm.nil 3) .nil, .sl (Imm.nil 1) .nil⟩, .sl (Imm.nil 1) .nil, Imm.nil 1, Imm.nil 1⟩, b2⟩
    simp at hq; subst hq; right; omega
  refine Ok.bindS (Q := fun r => ∃ J' M P w L S a b c d e, r = .inl ([], J') /\ LpAt J' lb pb mb J1.next ops.length M P w L S a b c d e []) ?_ ?_ (fun r h => by obtain ⟨_, _, _, _, _, _, _, _, _, _, _, e, _⟩ := h; cases e)
  · refine Ok.count ops.length (fun k s => ∃ J' M P w L S a b c d e, s = ([.i .i64 (k : Int)], J') /\ LpAt J' lb pb mb J1.next k M P w L S a b c d e []) ?_ ?_ ⟨J2, M1, _, _, _, _, _, _, _, _, _, rfl, start⟩
    · rintro k _ hk ⟨J', M, P, w, L, S, a, b, c, d, e, rfl, h⟩
      have hx := List.getElem?_eq_getElem hk
      have hxr := hr _ (List.mem_of_getElem? hx)
      have hxf := hfew _ (List.mem_of_getElem? hx)
      generalize ops[k] = o at hx hxr hxf
      obtain ⟨bb, oo, e5, hld⟩ := Imm.row LOp.len hj hx (by decide)
      refine (lplays_step h (by omega) (N := ops.length) hk hN hxr hxf e5 (fun J => hld O J 0 (by decide)) (fun J => hld O J 1 (by decide)) (fun J => hld O J 2 (by decide)) (fun J => hld O J 3 (by decide)) (fun J => hld O J 4 (by decide)) (r3 := _) rfl).mono ?_
      rintro _ ⟨J3, M3, P3, w3, L3, S3, a3, b3, c3, d3, e3, rfl, h3⟩
      exact ⟨J3, M3, P3, w3, L3, S3, a3, b3, c3, d3, e3, by rw [Int.natCast_add]; rfl, h3⟩
    · rintro _ ⟨J', M, P, w, L, S, a, b, c, d, e, rfl, h⟩
      simp (maxSteps := 2000000) -implicitDefEqProofs (disch := (first | omega | rfl | assumption | (simp only [rsD]; first | omega | assumption))) only [law15_LargePlays_L1, Nat.reduceAdd, Nat.reduceMul, Nat.reduceLT, Int.reduceToNat, Int.reduceAdd, Int.reduceSub, Int.reduceMul, rsU, rsC]
      exact Ok_some.2 ⟨J', M, P, w, L, S, a, b, c, d, e, rfl, h⟩
  rintro _ ⟨J3, M3, P3, w3, L3, S3, a, b, c, d, e, e0, h3⟩
  cases e0
  have hX3 := h3.x
  have hok := hX3.lar.p.mi.ok
  have hr0 := hok.met.r
  have hw0 := hok.met.w
  have hfw := hX3.few.1
  have hbx := h3.bx
  have hwl : J1.next < J3.next := hX3.lar.lX _ (by simp)
  obtain ⟨tb, el, rest, hmb, hmt⟩ := hX3.lar.p.mi.meter15
  have E0 : Ext J3 (J3.bump 1) := (Ext.refl J3).bump 1
  simp (maxSteps := 2000000) -implicitDefEqProofs (disch := (first | omega | rfl | assumption | (simp only [rsD]; first | omega | assumption))) only [hmb, Nat.reduceAdd, Nat.reduceMul, Nat.reduceLT, Int.reduceToNat, Int.reduceAdd, Int.reduceSub, Int.reduceMul, rsU, rsC]
  refine Ok.step (steps15 (hmt.of E0.next (E0.blk _ hmt.lt)) hok (by omega)) fun r ⟨g1, g2⟩ => ?_
  obtain ⟨q, J4⟩ := r
  simp only at g1 g2
  subst g1
  simp (maxSteps := 2000000) -implicitDefEqProofs (disch := (first | omega | rfl | assumption | (simp only [rsD]; first | omega | assumption))) only [Nat.reduceAdd, Nat.reduceMul, Nat.reduceLT, Int.reduceToNat, Int.reduceAdd, Int.reduceSub, Int.reduceMul, rsU, rsC]
  generalize hJ : AH.put J4 J3.next _ = J5
  obtain ⟨X5, ybox, E5, hy⟩ := hX3.box g2 hJ
  clear hJ
  have hhw := X5.hw
  have hf5 := X5.far (by omega)
  refine Ok.step (told15_ok X5.lar (hf5.less (by decide)) (by omega)) fun r ⟨at_, M6, g6, p6, own6, c6, k6, n6⟩ => ?_
  obtain ⟨q, J6⟩ := r
  simp only at g6 p6 own6 k6
  subst g6
  have hl1 : S3.Hr.length = L3.H.length := by rw [hX3.hr, nums_len]
  have hl2 : S3.Wt.length = L3.W.length := by rw [hX3.wt, nums_len]
  have rT := fun J : AH O => (h3.st.ft O J).rdSl
  have rH := fun J : AH O => (h3.st.fh O J).rdSl
  have hb6 : J6.blk J1.next = _ := (k6.blk _ (by simp)).trans ((E5.blk _ hwl).trans hbx)
  have ybox6 : J6.blk J3.next = _ := (k6.blk _ (by simp)).trans ybox
  have hwl6 : J1.next < J6.next := p6.lX _ (by simp)
  have hyl6 : J3.next < J6.next := p6.lX _ (by simp)
  have hb6' := hb6
  simp only [LD.vs] at hb6'
  have bf : (false == false) = true := rfl
  simp (maxSteps := 2000000) -implicitDefEqProofs (disch := (first | omega | rfl | assumption | (simp only [rsD]; first | omega | assumption))) only [bf, hb6', rH, Nat.reduceAdd, Nat.reduceMul, Nat.reduceLT, Int.reduceToNat, Int.reduceAdd, Int.reduceSub, Int.reduceMul, rsU, rsC]
  generalize hJ : AH.put _ J6.next _ = J7
  have n7 : J7.next = J6.next + 3 := by rw [<- hJ]; rfl
  have o7 : ∀ q, q < J6.next -> J7.blk q = J6.blk q := fun q hq => by rw [<- hJ]; exact s_bn (by omega)
  have b7 : J7.blk J6.next = some (.cells true 3 []) := by rw [<- hJ]; exact s_bs
  clear hJ
  refine Ok.step (cpy_ok (by simp) b7 (by omega)) fun q ⟨a8, m1, m2, m3, m4, m5⟩ => ?_
  obtain ⟨q, J8⟩ := q
  simp only at m1 m2 m3 m4
  subst m1
  have hb8 : J8.blk J1.next = _ := (m4 _ hwl6).trans ((o7 _ hwl6).trans hb6')
  simp (maxSteps := 2000000) -implicitDefEqProofs (disch := (first | omega | rfl | assumption | (simp only [rsD]; first | omega | assumption))) only [hb8, s_chkT, rT, Nat.reduceAdd, Nat.reduceMul, Nat.reduceLT, Int.reduceToNat, Int.reduceAdd, Int.reduceSub, Int.reduceMul, rsU, rsC]
  refine Ok.step (app_ok (nid := J6.next + 1 + 1) m2 (fun hm => by have := m5 _ hm; omega) (by omega) (show (S3.Wt.map (AV.i .i64)).length = S3.Wt.length * 1 by simp)) fun q ⟨a9, u1, u2, u3, u4, u5⟩ => ?_
  obtain ⟨q, J9⟩ := q
  simp only at u1 u2 u3 u4
  subst u1
  have E9 : Ext J6 J9 := ⟨by omega, fun q hq => by rw [u4 q (by omega) (fun hm => by have := m5 _ hm; omega), m4 q (by omega), o7 q hq]⟩
  have own9 := own6.of (J' := J9) E9.next fun q hq => E9.blk q (own6.lt q hq)
  have eall : S3.Hr.map (AV.i .i64) ++ S3.Wt.map (AV.i .i64) = (nums (L3.H ++ L3.W)).map (AV.i .i64) := by rw [hX3.hr, hX3.wt, nums_app, List.map_append]
  have lall : S3.Hr.length + S3.Wt.length = (nums (L3.H ++ L3.W)).length := by rw [nums_len, List.length_append]; omega
  have lall2 : L3.H.length + L3.W.length = (nums (L3.H ++ L3.W)).length := by rw [nums_len, List.length_append]
  rw [eall, lall] at u2
  have hnl : (nums (L3.H ++ L3.W)).length = L3.H.length + L3.W.length := lall2.symm
  rw [lall2] at own9
  have sm := same_cells (J := J9) own9.rd u2.rd (by omega)
  rw [lall, lall2]
  simp (maxSteps := 2000000) -implicitDefEqProofs (disch := (first | omega | rfl | assumption | (simp only [rsD]; first | omega | assumption))) only [Nat.reduceAdd, Nat.reduceMul, Nat.reduceLT, Int.reduceToNat, Int.reduceAdd, Int.reduceSub, Int.reduceMul, rsU, rsC]
  refine Ok.step sm fun r eq => ?_
  subst eq
  have p9 : LarAt J9 lb pb mb M6 P3 w3 L3 (J3.next :: J1.next :: []) [] := p6.turn (K := []) (Z := J3.next :: J1.next :: []) E9.chg (by simp) fun q hq => .inl (by simp at hq ⊢; rcases hq with rfl | rfl <;> simp)
  have X9 := X5.same p9 (Alike.refl P3) c6
  have ybox9 : J9.blk J3.next = _ := (E9.blk _ hyl6).trans ybox6
  obtain ⟨tb9, el9, rest9, hmb9, hmt9⟩ := p9.p.mi.meter15
  have hok9 := p9.p.mi.ok
  have hf9 := X9.few.1
  have cb := c6.both
  have hb0 : (true == true) = true := rfl
  simp (maxSteps := 2000000) -implicitDefEqProofs (disch := (first | omega | rfl | assumption | (simp only [rsD]; first | omega | assumption))) only [bf, hmb9, ybox9, Nat.reduceAdd, Nat.reduceMul, Nat.reduceLT, Int.reduceToNat, Int.reduceAdd, Int.reduceSub, Int.reduceMul, rsU, rsC]
  refine Ok.step (since15 hmt9 hok9 (s := M3.met.r + M3.met.w) (by omega) (by omega) (by omega)) fun r ⟨z1, E10⟩ => ?_
  obtain ⟨q, J10⟩ := r
  simp only at z1 E10
  subst z1
  simp (maxSteps := 2000000) -implicitDefEqProofs (disch := (first | omega | rfl | assumption | (simp only [rsD]; first | omega | assumption))) only [Nat.reduceAdd, Nat.reduceMul, Nat.reduceLT, Int.reduceToNat, Int.reduceAdd, Int.reduceSub, Int.reduceMul, rsU, rsC]
  refine Ok.step (cmp15 (J := J10) (a := M6.met.r + M6.met.w - (M3.met.r + M3.met.w)) (b := ((nums (L3.H ++ L3.W)).length : Int) + 2) (by omega) (by omega) (by omega)) fun r ⟨⟨m, z2, z3⟩, E11⟩ => ?_
  obtain ⟨q, J11⟩ := r
  simp only at z2 E11
  subst z2
  have t4 : decide (m > 0) = false := decide_eq_false (by omega)
  simp (maxSteps := 2000000) -implicitDefEqProofs (disch := (first | omega | rfl | assumption | (simp only [rsD]; first | omega | assumption))) only [t4, Nat.reduceAdd, Nat.reduceMul, Nat.reduceLT, Int.reduceToNat, Int.reduceAdd, Int.reduceSub, Int.reduceMul, rsU, rsC]
  have EE := E10.trans E11
  have hl9 : J1.next < J9.next := p9.lX _ (by simp)
  have X11 := X9.turn (J' := J11) (Z := J1.next :: []) (C := []) EE.chg (by simp) fun q hq => .inl (by simp at hq; simp [hq])
  refine Ok.bindS (lplays_known X11 (by omega) (by omega) h3.st ((EE.blk _ hl9).trans ((E9.blk _ hwl6).trans hb6)) (r5 := _) rfl) ?_ (fun r hh => by obtain ⟨_, e⟩ := hh; cases e)
  rintro _ ⟨J12, e⟩
  cases e
  simp (maxSteps := 2000000) -implicitDefEqProofs (disch := (first | omega | rfl | assumption | (simp only [rsD]; first | omega | assumption))) only [Nat.reduceAdd, Nat.reduceMul, Nat.reduceLT, Int.reduceToNat, Int.reduceAdd, Int.reduceSub, Int.reduceMul, rsU, rsC]
  exact Ok_some.2 rfl
theorem lopsOf {sa : SA} {els : List (List AV)} (hrow : ∀ el ∈ els, ∃ ns : List Int, el = List.zipWith AV.i [.i64, .i64, .i64, .i64, .u64] ns /\ ns.length = 5 /\ ∀ (i : Nat) (k : IntKind) (n : Int), ([.i64, .i64, .i64, .i64, .u64] : List IntKind)[i]? = some k -> ns[i]? = some n -> k.min <= n /\ n <= k.max)
    (himm : Imm 5 sa els.length els.flatten) : ∃ ops : List LOp, els.length = ops.length /\ Imm 5 sa ops.length (ops.flatMap LOp.cells) /\ ∀ o ∈ ops, o.rng := by
  have : ∃ ops : List LOp, els = ops.map LOp.cells /\ ∀ o ∈ ops, o.rng := by
    clear himm
    induction els with
    | nil => exact ⟨[], rfl, by simp⟩
    | cons el els ih =>
      obtain ⟨ops, e, hr⟩ := ih fun x hx => hrow x (List.mem_cons_of_mem _ hx)
      obtain ⟨ns, rfl, hl, hn⟩ := hrow el List.mem_cons_self
      match ns, hl with
      | [a, b, c, d, f], _ =>
        have h1 := hn 1 _ _ rfl rfl
        have h2 := hn 2 _ _ rfl rfl
        refine ⟨⟨a, b, c, d, f⟩ :: ops, by rw [e]; rfl, fun o ho => ?_⟩
        rcases List.mem_cons.1 ho with rfl | ho
        · exact ⟨h1, h2⟩
        · exact hr o ho
  obtain ⟨ops, rfl, hr⟩ := this
  exact ⟨ops, by simp, by simpa [List.flatMap_def] using himm, hr⟩
end Go.Abs.Try
