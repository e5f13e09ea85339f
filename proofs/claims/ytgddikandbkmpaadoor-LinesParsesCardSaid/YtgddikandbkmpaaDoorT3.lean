/-
  Forms as texts, by definition, and that they are read back. No conditions.
-/
import Derived.Test.YtgddikandbkmpaaDoorT1
import Derived.Test.YtgddikandbkmpaaDoorI4
set_option linter.unusedVariables false
set_option linter.unusedSimpArgs false
set_option linter.constructorNameAsVariable false
set_option linter.unusedSimpArgs false
set_option linter.unusedVariables false
set_option maxHeartbeats 1000000
namespace Go.Abs
def nodeB : Bs := [110, 111, 100, 101]
def largeB : Bs := [108, 97, 114, 103, 101]
def smallB : Bs := [115, 109, 97, 108, 108]
def colonB : Bs := [58]
def rootsB : Bs := [114, 111, 111, 116, 115]
def weakB : Bs := [119, 101, 97, 107]
def markB (l : Bool) : Bs := if l then largeB else smallB
def hexI (w : Int) : Bs := hexT w.toNat
def lnodeW (x : NV) : List Bs := [nodeB, markB x.h.large, numT x.h.site, numT x.h.age] ++ x.P.map numT ++ colonB :: x.R.map hexI
def lnodeT (x : NV) : Bs := joinS 32 (lnodeW x)
def lnumsT (w : Bs) (l : List Int) : Bs := joinS 32 (w :: l.map numT)
def lformL (F : FV) : List Bs := F.nodes.map lnodeT ++ [lnumsT rootsB F.roots, lnumsT weakB F.weak, []]
def lformT (F : FV) : Bs := joinS 10 (lformL F)
def lnumsR : List Bs → Option (List Int)
 | [] => some []
 | w :: ws => if (numR w).2 = 0 then (lnumsR ws).map ((numR w).1 :: ·) else none
def lhexsR : List Bs → Option (List Int)
 | [] => some []
 | w :: ws => match hexR w with | some n => (lhexsR ws).map ((n : Int) :: ·) | none => none
def colonAt (w : List Bs) : Nat := w.findIdx fun s => decide (s = colonB)
def nodeOK (w : List Bs) : Prop := 4 ≤ colonAt w ∧ colonAt w < w.length ∧ w[0]? = some nodeB ∧ (w[1]? = some largeB ∨ w[1]? = some smallB)
instance (w : List Bs) : Decidable (nodeOK w) := by unfold nodeOK; infer_instance
def mkN (lg : Bool) (n r : List Int) : NV := ⟨⟨(n.length - 2 : Nat), r.length, n.getD 0 0, n.getD 1 0, lg⟩, n.drop 2, r⟩
def lnodeR (w : List Bs) : Option NV :=
 if nodeOK w then match lnumsR ((w.take (colonAt w)).drop 2), lhexsR (w.drop (colonAt w + 1)) with
  | some n, some r => some (mkN (decide (w[1]? = some largeB)) n r)
  | _, _ => none
 else none
def begins (l : Bs) : Bool := decide (l.take 4 = nodeB)
def lgoN : Nat → List NV → List Bs → (List NV × Nat × List Bs) ⊕ Nat
 | k, acc, [] => .inl (acc, k, [])
 | k, acc, l :: ls => if begins l = true then (match lnodeR (cutB 32 l) with | none => .inr (k + 1) | some x => lgoN (k + 1) (acc ++ [x]) ls) else .inl (acc, k, l :: ls)
def lnumL (w l : Bs) : Option (List Int) := if (cutB 32 l).head? = some w then lnumsR (cutB 32 l).tail else none
def nilF : FV := ⟨[], [], []⟩
def lendP (N : List NV) (k : Nat) (r w : List Int) (ls : List Bs) : FV × Nat × Nat := if ls = [[]] then (if rightP ⟨N, r, w⟩ = true then (⟨N, r, w⟩, 0, 0) else (nilF, 0, 5)) else (nilF, k + 3, 61)
def ltailP (N : List NV) (k : Nat) : List Bs → FV × Nat × Nat
 | [] => (nilF, k + 1, 61)
 | l :: ls => match lnumL rootsB l with
  | none => (nilF, k + 1, 61)
  | some r => match ls with
   | [] => (nilF, k + 2, 61)
   | m :: ls => match lnumL weakB m with
    | none => (nilF, k + 2, 61)
    | some w => lendP N k r w ls
def lparseT (t : Bs) : FV × Nat × Nat := match lgoN 0 [] (cutB 10 t) with
 | .inr k => (nilF, k, 61)
 | .inl (N, k, ls) => ltailP N k ls
theorem digs_mem (u : Nat) : ∀ c ∈ digs u, 48 ≤ c.toNat ∧ c.toNat ≤ 57 := fun c hc => by
 have := List.all_eq_true.1 (digs_dig u) c hc
 simpa [isD] using this
theorem numT_mem (n : Int) : ∀ c ∈ numT n, c = 45 ∨ (48 ≤ c.toNat ∧ c.toNat ≤ 57) := fun c hc => by
 unfold numT at hc
 split at hc
 ·rcases List.mem_cons.1 hc with h | h
  ·exact .inl h
  ·exact .inr (digs_mem _ c h)
 ·exact .inr (digs_mem _ c hc)
theorem numT_free (n : Int) (c : UInt8) (h : c = 32 ∨ c = 10 ∨ c = 58) : c ∉ numT n := fun hc => by
 rcases numT_mem n c hc with e | e
 ·subst e; rcases h with h | h | h <;> cases h
 ·rcases h with rfl | rfl | rfl
  ·exact absurd e.1 (by decide)
  ·exact absurd e.1 (by decide)
  ·exact absurd e.2 (by decide)
theorem fig_mem {d : Nat} (h : d < 16) : 48 ≤ (fig d).toNat ∧ (fig d).toNat ≠ 58 := by
 rw [fig_nat h]; split <;> omega
theorem hexN_mem : ∀ (k w : Nat), ∀ c ∈ hexN k w, 48 ≤ c.toNat ∧ c.toNat ≠ 58
 | 0, _, c, h => by cases h
 | k + 1, w, c, h => by
  rw [hexN, List.mem_append, List.mem_singleton] at h
  rcases h with h | rfl
  ·exact hexN_mem k _ c h
  ·exact fig_mem (Nat.mod_lt _ (by decide))
theorem hexI_free (w : Int) (c : UInt8) (h : c = 32 ∨ c = 10) : c ∉ hexI w := fun hc => by
 have := hexN_mem 16 w.toNat c hc
 rcases h with rfl | rfl
 ·exact absurd this.1 (by decide)
 ·exact absurd this.1 (by decide)
theorem numT_colon (n : Int) : numT n ≠ colonB := fun e => numT_free n 58 (by simp) (by rw [e]; simp [colonB])
theorem markB_free (l : Bool) : 32 ∉ markB l ∧ 10 ∉ markB l ∧ markB l ≠ colonB ∧ (markB l = largeB ∨ markB l = smallB) := by
 cases l
 ·decide
 ·decide
theorem lnodeW_free (x : NV) (c : UInt8) (h : c = 32 ∨ c = 10) : ∀ w ∈ lnodeW x, c ∉ w := by
 intro w hw
 unfold lnodeW at hw
 simp only [List.mem_append, List.mem_cons, List.mem_map, List.not_mem_nil, or_false] at hw
 have h3 : c = 32 ∨ c = 10 ∨ c = 58 := by rcases h with h | h <;> simp [h]
 rcases hw with (((rfl | rfl | rfl | rfl) | ⟨n, _, rfl⟩) | (rfl | ⟨n, _, rfl⟩))
 ·rcases h with rfl | rfl <;> decide
 ·rcases h with rfl | rfl
  ·exact (markB_free _).1
  ·exact (markB_free _).2.1
 ·exact numT_free _ _ h3
 ·exact numT_free _ _ h3
 ·exact numT_free _ _ h3
 ·rcases h with rfl | rfl <;> decide
 ·exact hexI_free _ _ h
theorem lnodeW_ne (x : NV) : lnodeW x ≠ [] := by unfold lnodeW; simp
theorem ljoinS_free (d c : UInt8) (hd : d ≠ c) : ∀ {ws : List Bs}, (∀ w ∈ ws, c ∉ w) → c ∉ joinS d ws
 | [], _ => by simp [joinS]
 | [w], h => h w (by simp)
 | w :: v :: ws, h => by
  show c ∉ w ++ d :: joinS d (v :: ws)
  simp only [List.mem_append, List.mem_cons, not_or]
  exact ⟨h w (by simp), fun e => hd e.symm, ljoinS_free d c hd fun u hu => h u (List.mem_cons_of_mem _ hu)⟩
theorem lnodeT_free (x : NV) : 10 ∉ lnodeT x := ljoinS_free 32 10 (by decide) (lnodeW_free x 10 (.inr rfl))
theorem lnumsW_free (w : Bs) (l : List Int) (c : UInt8) (h : c = 32 ∨ c = 10) (hw : c ∉ w) : ∀ u ∈ w :: l.map numT, c ∉ u := by
 intro u hu
 rcases List.mem_cons.1 hu with rfl | hu
 ·exact hw
 ·obtain ⟨n, _, rfl⟩ := List.mem_map.1 hu
  exact numT_free _ _ (by rcases h with h | h <;> simp [h])
theorem lnumsT_free (w : Bs) (l : List Int) (hw : 10 ∉ w) : 10 ∉ lnumsT w l := ljoinS_free 32 10 (by decide) (lnumsW_free w l 10 (.inr rfl) hw)
def I64 (n : Int) : Prop := -9223372036854775808 ≤ n ∧ n ≤ 9223372036854775807
def U64 (n : Int) : Prop := 0 ≤ n ∧ n < 18446744073709551616
theorem lnumsR_map : ∀ {l : List Int}, (∀ n ∈ l, I64 n) → lnumsR (l.map numT) = some l
 | [], _ => rfl
 | n :: l, h => by
  have hn := h n (by simp)
  simp only [List.map_cons, lnumsR, numR_numT hn.1 hn.2, if_true, lnumsR_map fun m hm => h m (List.mem_cons_of_mem _ hm), Option.map_some]
theorem lhexsR_map : ∀ {l : List Int}, (∀ n ∈ l, U64 n) → lhexsR (l.map hexI) = some l
 | [], _ => rfl
 | n :: l, h => by
  have hn := h n (by simp)
  unfold U64 at hn
  have e : hexR (hexI n) = some n.toNat := hexR_hexT (by omega)
  simp only [List.map_cons, lhexsR, e, lhexsR_map fun m hm => h m (List.mem_cons_of_mem _ hm), Option.map_some]
  congr 2; omega
theorem findIdx_at {α : Type} {p : α → Bool} : ∀ {a : List α} {x : α} {b : List α}, (∀ y ∈ a, p y = false) → p x = true → (a ++ x :: b).findIdx p = a.length
 | [], x, b, _, h => by simp [List.findIdx_cons, h]
 | y :: a, x, b, h, hx => by
  rw [List.cons_append, List.findIdx_cons, h y (by simp), findIdx_at (fun z hz => h z (List.mem_cons_of_mem _ hz)) hx]; rfl
structure NV.rng (x : NV) : Prop where
 s : I64 x.h.site
 g : I64 x.h.age
 P : ∀ n ∈ x.P, I64 n
 R : ∀ n ∈ x.R, U64 n
theorem lnodeR_nodeW {x : NV} (h : x.rng) (hp : (x.P.length : Int) = x.h.p) (hr : (x.R.length : Int) = x.h.r) : lnodeR (lnodeW x) = some x := by
 have mf := markB_free x.h.large
 have ca : colonAt (lnodeW x) = 4 + x.P.length := by
  unfold colonAt lnodeW
  rw [findIdx_at]
  ·simp; omega
  ·intro y hy
   rw [decide_eq_false_iff_not]
   simp only [List.mem_append, List.mem_cons, List.mem_map, List.not_mem_nil, or_false] at hy
   rcases hy with (rfl | rfl | rfl | rfl) | ⟨n, _, rfl⟩
   ·decide
   ·exact mf.2.2.1
   ·exact numT_colon _
   ·exact numT_colon _
   ·exact numT_colon _
  ·rfl
 have w1 : (lnodeW x)[1]? = some (markB x.h.large) := rfl
 have ok : nodeOK (lnodeW x) := by
  refine ⟨by omega, ?_, rfl, ?_⟩
  ·rw [ca]; unfold lnodeW; simp; omega
  ·rw [w1]; rcases mf.2.2.2 with e | e <;> rw [e] <;> simp
 have e1 : ((lnodeW x).take (colonAt (lnodeW x))).drop 2 = (x.h.site :: x.h.age :: x.P).map numT := by
  rw [ca]
  unfold lnodeW
  rw [List.take_left' (by simp; omega)]
  simp
 have e2 : (lnodeW x).drop (colonAt (lnodeW x) + 1) = x.R.map hexI := by
  rw [ca]
  unfold lnodeW
  rw [List.drop_append, List.drop_of_length_le (by simp; omega)]
  rw [show 4 + x.P.length + 1 - ([nodeB, markB x.h.large, numT x.h.site, numT x.h.age] ++ x.P.map numT).length = 1 by simp; omega]
  rfl
 unfold lnodeR
 rw [if_pos ok, e1, e2, lnumsR_map (l := x.h.site :: x.h.age :: x.P) (fun n hn => by
  rcases List.mem_cons.1 hn with rfl | hn
  ·exact h.s
  ·rcases List.mem_cons.1 hn with rfl | hn
   ·exact h.g
   ·exact h.P n hn), lhexsR_map h.R, w1]
 have ml : decide (some (markB x.h.large) = some largeB) = x.h.large := by cases x.h.large <;> rfl
 rw [ml]
 obtain ⟨⟨a, b, c, d, e⟩, P, R⟩ := x
 simp only [mkN, List.length_cons, List.getD_cons_zero, List.getD_cons_succ, List.drop_succ_cons, List.drop_zero] at *
 rw [← hp, ← hr]
 rfl
theorem begins_node (x : NV) : begins (lnodeT x) = true := by
 unfold begins lnodeT lnodeW
 rw [decide_eq_true_eq]
 rfl
theorem lgoN_map : ∀ {l : List NV} (k : Nat) (acc : List NV) (ls : List Bs), (∀ x ∈ l, x.rng ∧ (x.P.length : Int) = x.h.p ∧ (x.R.length : Int) = x.h.r) → (∀ m ∈ ls.head?, begins m = false) → lgoN k acc (l.map lnodeT ++ ls) = .inl (acc ++ l, k + l.length, ls)
 | [], k, acc, ls, _, h => by
  cases ls with
  | nil => simp [lgoN]
  | cons m ls =>
   have := h m (by simp)
   show lgoN k acc (m :: ls) = _
   rw [lgoN, if_neg (by rw [this]; decide)]; simp
 | x :: l, k, acc, ls, hx, h => by
  obtain ⟨h1, h2, h3⟩ := hx x (by simp)
  show lgoN k acc (lnodeT x :: (l.map lnodeT ++ ls)) = _
  rw [lgoN, if_pos (begins_node x)]
  have : cutB 32 (lnodeT x) = lnodeW x := cut_join 32 (lnodeW_ne x) (lnodeW_free x 32 (.inl rfl))
  rw [this, lnodeR_nodeW h1 h2 h3]
  simp only
  rw [lgoN_map (k + 1) (acc ++ [x]) ls (fun y hy => hx y (List.mem_cons_of_mem _ hy)) h, List.append_assoc, List.singleton_append, List.length_cons]
  congr 2; congr 1; omega
theorem lnumL_numsT {w : Bs} {l : List Int} (hw : 32 ∉ w) (hl : ∀ n ∈ l, I64 n) : lnumL w (lnumsT w l) = some l := by
 have : cutB 32 (lnumsT w l) = w :: l.map numT := cut_join 32 (by simp) (lnumsW_free w l 32 (.inl rfl) hw)
 unfold lnumL
 rw [this]
 simp only [List.head?_cons, if_true, List.tail_cons]
 exact lnumsR_map hl
theorem lformL_free (F : FV) : ∀ w ∈ lformL F, 10 ∉ w := by
 intro w hw
 unfold lformL at hw
 simp only [List.mem_append, List.mem_cons, List.mem_map, List.not_mem_nil, or_false] at hw
 rcases hw with ⟨x, _, rfl⟩ | rfl | rfl | rfl
 ·exact lnodeT_free x
 ·exact lnumsT_free _ _ (by decide)
 ·exact lnumsT_free _ _ (by decide)
 ·simp
theorem lnumsT_begin {w : Bs} {l : List Int} {a b c d : UInt8} {t : Bs} (e : w = a :: b :: c :: d :: t) (h : a ≠ 110) : begins (lnumsT w l) = false := by
 have : ∃ u, lnumsT w l = w ++ u := by
  unfold lnumsT
  cases l with
  | nil => exact ⟨[], by simp [joinS]⟩
  | cons n l => exact ⟨_, rfl⟩
 obtain ⟨u, hu⟩ := this
 unfold begins
 rw [hu, e, decide_eq_false_iff_not]
 intro q
 have := congrArg List.head? q
 simp [nodeB] at this
 exact h this
theorem parse_form {F : FV} (hx : ∀ x ∈ F.nodes, x.rng ∧ (x.P.length : Int) = x.h.p ∧ (x.R.length : Int) = x.h.r) (hr : ∀ n ∈ F.roots, I64 n) (hw : ∀ n ∈ F.weak, I64 n) (h : rightP F = true) : lparseT (lformT F) = (F, 0, 0) := by
 have hc : cutB 10 (lformT F) = lformL F := cut_join 10 (by unfold lformL; simp) (lformL_free F)
 unfold lparseT
 rw [hc]
 unfold lformL
 rw [lgoN_map 0 [] _ hx (by
  intro m hm
  simp only [List.head?_cons, Option.mem_def, Option.some.injEq] at hm
  subst hm
  exact lnumsT_begin (a := 114) rfl (by decide))]
 simp only [List.nil_append, ltailP, lnumL_numsT (w := rootsB) (by decide) hr, lnumL_numsT (w := weakB) (by decide) hw]
 unfold lendP
 rw [if_pos rfl, if_pos h]
theorem lnumsR_back : ∀ {ws : List Bs} {l : List Int}, lnumsR ws = some l → ws = l.map numT ∧ ∀ n ∈ l, I64 n
 | [], l, h => by simp only [lnumsR, Option.some.injEq] at h; subst h; simp
 | w :: ws, l, h => by
  unfold lnumsR at h
  split at h
  ·rename_i c
   obtain ⟨m, h1, rfl⟩ := Option.map_eq_some_iff.1 h
   obtain ⟨q1, q2⟩ := lnumsR_back h1
   obtain ⟨e1, e2⟩ := numT_numR (s := w) (n := (numR w).1) (by rw [← c])
   refine ⟨by rw [List.map_cons, e1, q1], fun n hn => ?_⟩
   rcases List.mem_cons.1 hn with rfl | hn
   ·exact e2
   ·exact q2 n hn
  ·cases h
theorem lhexsR_back : ∀ {ws : List Bs} {l : List Int}, lhexsR ws = some l → ws = l.map hexI ∧ ∀ n ∈ l, U64 n
 | [], l, h => by simp only [lhexsR, Option.some.injEq] at h; subst h; simp
 | w :: ws, l, h => by
  unfold lhexsR at h
  split at h
  ·rename_i n c
   obtain ⟨m, h1, rfl⟩ := Option.map_eq_some_iff.1 h
   obtain ⟨q1, q2⟩ := lhexsR_back h1
   obtain ⟨e1, e2⟩ := hexT_hexR c
   refine ⟨by rw [List.map_cons, q1]; congr 1; unfold hexI; rw [Int.toNat_natCast, e1], fun k hk => ?_⟩
   rcases List.mem_cons.1 hk with rfl | hk
   ·exact ⟨by omega, by omega⟩
   ·exact q2 k hk
  ·cases h
theorem lnodeR_back {w : List Bs} {x : NV} (h : lnodeR w = some x) : lnodeW x = w ∧ x.rng := by
 unfold lnodeR at h
 split at h
 ·rename_i ok
  obtain ⟨o1, o2, o3, o4⟩ := ok
  split at h
  ·rename_i n r hn hr
   simp only [Option.some.injEq] at h
   subst h
   obtain ⟨n1, n2⟩ := lnumsR_back hn
   obtain ⟨r1, r2⟩ := lhexsR_back hr
   have nl : n.length = colonAt w - 2 := by
    have := congrArg List.length n1
    simp at this; omega
   match n, nl, n1, n2 with
   | [], nl, _, _ => simp at nl; omega
   | [_], nl, _, _ => simp at nl; omega
   | a :: b :: P, nl, n1, n2 =>
    have hcol : w[colonAt w]? = some colonB := by
     have := List.findIdx_getElem (p := fun s => decide (s = colonB)) (xs := w) (w := o2)
     rw [List.getElem?_eq_getElem o2]
     have h2 : decide (w[colonAt w] = colonB) = true := this
     exact congrArg some (of_decide_eq_true h2)
    have t1 : w.take (colonAt w) = nodeB :: markB (decide (w[1]? = some largeB)) :: (a :: b :: P).map numT := by
     have e0 : (w.take (colonAt w)) = (w.take (colonAt w)).take 2 ++ (w.take (colonAt w)).drop 2 := (List.take_append_drop 2 _).symm
     rw [e0, n1, List.take_take, Nat.min_eq_left (by omega)]
     have e2 : w.take 2 = [nodeB, markB (decide (w[1]? = some largeB))] := by
      match w, o2, o3, o4 with
      | [], o2, _, _ => simp at o2
      | [_], o2, _, _ => simp at o2; omega
      | u :: v :: w, _, o3, o4 =>
       simp only [List.getElem?_cons_zero, Option.some.injEq] at o3
       subst o3
       simp only [List.getElem?_cons_succ, List.getElem?_cons_zero, Option.some.injEq] at o4 ⊢
       show [nodeB, v] = _
       rcases o4 with rfl | rfl
       ·rfl
       ·rfl
     rw [e2]; rfl
    have hw : w = w.take (colonAt w) ++ colonB :: w.drop (colonAt w + 1) := by
     have := (List.take_append_drop (colonAt w) w).symm
     rw [List.drop_eq_getElem_cons o2] at this
     have e : w[colonAt w] = colonB := by rw [List.getElem?_eq_getElem o2] at hcol; simpa using hcol
     rw [e] at this
     exact this
    refine ⟨?_, ⟨n2 a (by simp), n2 b (by simp), fun m hm => n2 m (by simp [mkN] at hm; simp [hm]), r2⟩⟩
    rw [hw, t1, r1]
    simp [lnodeW, mkN]
    generalize decide (w[1]? = some largeB) = b
    cases b <;> decide
  ·cases h
 ·cases h
theorem lgoN_back : ∀ {ls : List Bs} {k k' : Nat} {acc N : List NV} {rs : List Bs}, lgoN k acc ls = .inl (N, k', rs) → ∃ M, N = acc ++ M ∧ ls = M.map lnodeT ++ rs ∧ ∀ x ∈ M, x.rng
 | [], k, k', acc, N, rs, h => by
  simp only [lgoN, Sum.inl.injEq, Prod.mk.injEq] at h
  obtain ⟨rfl, _, rfl⟩ := h
  exact ⟨[], by simp, rfl, by simp⟩
 | l :: ls, k, k', acc, N, rs, h => by
  rw [lgoN] at h
  split at h
  ·split at h
   ·cases h
   ·rename_i x hx
    obtain ⟨M, rfl, e2, e3⟩ := lgoN_back h
    obtain ⟨w1, w2⟩ := lnodeR_back hx
    refine ⟨x :: M, by simp, ?_, fun y hy => ?_⟩
    ·rw [e2, List.map_cons, List.cons_append]
     congr 1
     show l = joinS 32 (lnodeW x)
     rw [w1, join_cut]
    ·rcases List.mem_cons.1 hy with rfl | hy
     ·exact w2
     ·exact e3 y hy
  ·simp only [Sum.inl.injEq, Prod.mk.injEq] at h
   obtain ⟨rfl, _, rfl⟩ := h
   exact ⟨[], by simp, rfl, by simp⟩
theorem lnumL_back {w l : Bs} {n : List Int} (h : lnumL w l = some n) : lnumsT w n = l ∧ ∀ m ∈ n, I64 m := by
 unfold lnumL at h
 split at h
 ·rename_i c
  obtain ⟨e1, e2⟩ := lnumsR_back h
  refine ⟨?_, e2⟩
  unfold lnumsT
  rw [← e1]
  cases hc : cutB 32 l with
  | nil => exact absurd hc (cutB_ne _ _)
  | cons v vs =>
   rw [hc] at c
   simp only [List.head?_cons, Option.some.injEq] at c
   subst c
   rw [List.tail_cons, ← hc, join_cut]
 ·cases h
theorem form_parse {t : Bs} {F : FV} {m : Nat} (h : lparseT t = (F, m, 0)) : lformT F = t ∧ m = 0 ∧ rightP F = true ∧ (∀ x ∈ F.nodes, x.rng) ∧ (∀ n ∈ F.roots, I64 n) ∧ ∀ n ∈ F.weak, I64 n := by
 unfold lparseT at h
 split at h
 ·simp at h
 rename_i N k ls hg
 obtain ⟨M, rfl, e2, e3⟩ := lgoN_back hg
 unfold ltailP at h
 split at h
 ·simp at h
 rename_i l ls'
 split at h
 ·simp at h
 rename_i r hr
 split at h
 ·simp at h
 rename_i m' ls''
 split at h
 ·simp at h
 rename_i w hw
 unfold lendP at h
 split at h
 ·rename_i el
  split at h
  ·rename_i hright
   simp only [Prod.mk.injEq, and_true] at h
   obtain ⟨rfl, rfl⟩ := h
   obtain ⟨a1, a2⟩ := lnumL_back hr
   obtain ⟨b1, b2⟩ := lnumL_back hw
   refine ⟨?_, rfl, hright, ?_, a2, b2⟩
   ·unfold lformT lformL
    simp only [List.nil_append]
    rw [a1, b1, ← el, ← e2, join_cut]
   ·simpa using e3
  ·simp at h
 ·simp at h
theorem parse_not {t : Bs} {F : FV} {m c : Nat} (h : lparseT t = (F, m, c)) (hc : c ≠ 0) : F = nilF ∧ (c = 5 ∨ c = 61) := by
 unfold lparseT at h
 split at h
 ·simp only [Prod.mk.injEq] at h; exact ⟨h.1.symm, .inr h.2.2.symm⟩
 unfold ltailP at h
 split at h
 ·simp only [Prod.mk.injEq] at h; exact ⟨h.1.symm, .inr h.2.2.symm⟩
 split at h
 ·simp only [Prod.mk.injEq] at h; exact ⟨h.1.symm, .inr h.2.2.symm⟩
 split at h
 ·simp only [Prod.mk.injEq] at h; exact ⟨h.1.symm, .inr h.2.2.symm⟩
 split at h
 ·simp only [Prod.mk.injEq] at h; exact ⟨h.1.symm, .inr h.2.2.symm⟩
 unfold lendP at h
 split at h
 ·split at h
  ·simp only [Prod.mk.injEq] at h; exact absurd h.2.2.symm hc
  ·simp only [Prod.mk.injEq] at h; exact ⟨h.1.symm, .inl h.2.2.symm⟩
 ·simp only [Prod.mk.injEq] at h; exact ⟨h.1.symm, .inr h.2.2.symm⟩
end Go.Abs
