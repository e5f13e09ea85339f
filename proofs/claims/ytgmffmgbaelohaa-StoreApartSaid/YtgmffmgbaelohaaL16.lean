/-
  Layer 16: objects in a store, each apart. No conditions.
-/
import Derived.Test.YtgmffmgbaelohaaM16
set_option linter.unusedVariables false
set_option linter.unusedSimpArgs false
set_option linter.constructorNameAsVariable false
set_option linter.unusedSimpArgs false
set_option linter.unusedVariables false
set_option linter.unusedSectionVars false
set_option maxHeartbeats 2000000
namespace Go.Abs.Try
open Go Go.Abs
variable {O : Type}

/-- an object: is it large, where it stands, how many words it has -/
structure Ob where
  lg : Bool
  at_ : Nat
  n : Nat
  deriving DecidableEq
def Ob.ref (o : Ob) : Int := if o.lg then rlg o.at_ else rsm o.at_
structure GS (T : StoS) (L : LarS) (Os : List Ob) : Prop where
  sm : ∀ o ∈ Os, o.lg = false → o.at_ + o.n ≤ T.top
  lg : ∀ o ∈ Os, o.lg = true → ∃ ws, L.ob o.at_ = some ws ∧ ws.length = o.n
  ap : ∀ (i j : Nat) (a b : Ob), i < j → Os[i]? = some a → Os[j]? = some b → a.lg = b.lg → (if a.lg then a.at_ ≠ b.at_ else a.at_ + a.n ≤ b.at_)
/-- a word of an object -/
def obW (T : StoS) (L : LarS) (o : Ob) (k : Nat) : Int := if o.lg then ((L.ob o.at_).getD []).getD k 0 else T.ws.getD (o.at_ + k) 0
section
variable {σ : AH O} {sb nb lb pb mb : Nat} {M : MemS} {S : PoolS} {w : List Int} {L : LarS} {T : StoS} {X : List Nat} {Y : List Int} (h : StoAt σ sb nb lb pb mb M S w L T X Y) (hf : M.far 1000) {Os : List Ob} (g : GS T L Os)
include h hf g
theorem word_ob {o : Ob} (ho : o ∈ Os) {k : Nat} (hk : k < o.n) : Ok (store_Store__Word [.p (some (.n sb, 0)), .i .u64 o.ref, .i .i64 (k : Int)] σ) fun r => r.1 = .tup [.i .u64 (obW T L o k), .i .i64 0] ∧ ∃ M', StoAt r.2 sb nb lb pb mb M' S w L T X Y ∧ Beh Y M M' 3 0 0 ∧ Keep X σ r.2 := by
  unfold Ob.ref obW
  cases hl : o.lg with
  | false =>
    have := g.sm o ho hl
    have := word_sm h hf (at_ := o.at_) (k := (k : Int)) (by omega) (by omega)
    rw [Int.toNat_natCast] at this
    exact this
  | true =>
    obtain ⟨ws, h1, h2⟩ := g.lg o ho hl
    have := word_lg h hf h1 (k := (k : Int)) (by omega)
    rw [Int.toNat_natCast] at this
    rw [h1]
    exact this
theorem setword_ob {i : Nat} {o : Ob} (ho : Os[i]? = some o) {k : Nat} (hk : k < o.n) (x : Int) : Ok (store_Store__SetWord [.p (some (.n sb, 0)), .i .u64 o.ref, .i .i64 (k : Int), .i .u64 x] σ) fun r => r.1 = .i .i64 0 ∧ ∃ M' T' L', StoAt r.2 sb nb lb pb mb M' S w L' T' X Y ∧ GS T' L' Os ∧ (∀ (j : Nat) (o' : Ob) (m : Nat), Os[j]? = some o' → m < o'.n → obW T' L' o' m = if j = i ∧ m = k then x else obW T L o' m) ∧ Beh Y M M' 3 0 0 ∧ Keep X σ r.2 := by
  have hm := List.mem_of_getElem? ho
  cases hl : o.lg with
  | false =>
    have hs := g.sm o hm hl
    have htp := h.top
    have := setword_sm h hf (at_ := o.at_) (k := (k : Int)) (x := x) (by omega) (by omega)
    rw [Int.toNat_natCast, show rsm o.at_ = o.ref by unfold Ob.ref; rw [hl]; rfl] at this
    refine this.mono fun r ⟨e1, M', e2, e3, e4⟩ => ⟨e1, M', _, L, e2, ⟨g.sm, g.lg, g.ap⟩, fun j o' m hj hm' => ?_, e3, e4⟩
    unfold obW
    cases hl' : o'.lg with
    | true =>
      have : ¬ (j = i ∧ m = k) := fun ⟨e, _⟩ => by subst e; rw [ho] at hj; cases hj; rw [hl] at hl'; cases hl'
      rw [if_neg this]
      simp only [if_true]
    | false =>
      simp only [Bool.false_eq_true, if_false]
      have hs' := g.sm o' (List.mem_of_getElem? hj) hl'
      have : (o.at_ + k = o'.at_ + m) ↔ (j = i ∧ m = k) := by
        constructor
        · intro e
          by_cases hji : j = i
          · subst hji; rw [ho] at hj; cases hj; exact ⟨rfl, by omega⟩
          · exfalso
            by_cases hlt : j < i
            · have := g.ap j i o' o hlt hj ho (by rw [hl, hl'])
              rw [hl'] at this
              simp only [Bool.false_eq_true, if_false] at this
              omega
            · have := g.ap i j o o' (by omega) ho hj (by rw [hl, hl'])
              rw [hl] at this
              simp only [Bool.false_eq_true, if_false] at this
              omega
        · rintro ⟨rfl, rfl⟩
          rw [ho] at hj; cases hj; rfl
      rw [List.getD_eq_getElem?_getD, List.getElem?_set]
      by_cases hc : o.at_ + k = o'.at_ + m
      · rw [if_pos hc, if_pos (this.1 hc), if_pos (by omega)]; rfl
      · rw [if_neg hc, if_neg (fun e => hc (this.2 e)), List.getD_eq_getElem?_getD]
  | true =>
    obtain ⟨ws, h1, h2⟩ := g.lg o hm hl
    have := setword_lg h hf h1 (k := (k : Int)) (x := x) (by omega)
    rw [Int.toNat_natCast, show rlg o.at_ = o.ref by unfold Ob.ref; rw [hl]; rfl] at this
    refine this.mono fun r ⟨e1, M', e2, e3, e4⟩ => ⟨e1, M', T, _, e2, ⟨g.sm, fun o' ho' hl' => ?_, g.ap⟩, fun j o' m hj hm' => ?_, e3, e4⟩
    · obtain ⟨ws', q1, q2⟩ := g.lg o' ho' hl'
      simp only
      by_cases he : o'.at_ = o.at_
      · rw [if_pos he]
        rw [he, h1] at q1
        cases q1
        exact ⟨_, rfl, by simp [q2]⟩
      · rw [if_neg he]; exact ⟨ws', q1, q2⟩
    · unfold obW
      cases hl' : o'.lg with
      | false =>
        have : ¬ (j = i ∧ m = k) := fun ⟨e, _⟩ => by subst e; rw [ho] at hj; cases hj; rw [hl] at hl'; cases hl'
        rw [if_neg this]
        simp only [Bool.false_eq_true, if_false]
      | true =>
        simp only [if_true]
        by_cases hji : j = i
        · subst hji; rw [ho] at hj; cases hj
          rw [if_pos rfl, h1]
          simp only [Option.getD_some, true_and]
          rw [List.getD_eq_getElem?_getD, List.getElem?_set]
          by_cases hmk : m = k
          · rw [if_pos hmk.symm, if_pos hmk, if_pos (by omega)]; rfl
          · rw [if_neg (fun e => hmk e.symm), if_neg hmk, List.getD_eq_getElem?_getD]
        · have hne : o'.at_ ≠ o.at_ := by
            by_cases hlt : j < i
            · have := g.ap j i o' o hlt hj ho (by rw [hl, hl'])
              rw [hl'] at this
              simpa using this
            · have := g.ap i j o o' (by omega) ho hj (by rw [hl, hl'])
              rw [hl] at this
              simp only [if_true] at this
              exact fun e => this e.symm
          rw [if_neg hne, if_neg (fun e => hji e.1)]
end
end Go.Abs.Try
set_option linter.unusedSimpArgs false
set_option linter.unusedVariables false
set_option linter.unusedSectionVars false
set_option maxHeartbeats 2000000
namespace Go.Abs.Try
open Go Go.Abs
variable {O : Type}

set_option maxRecDepth 100000 in
/-- the page's example, beside a box -/
theorem awake16 (a b c : Int) : ∃ σ : AH O, law16_awake (O := O) [] (((startH : AH O).bump 1).put 0 (.cells true 100 [.i .u8 a, .i .u8 b, .i .u8 c])) = some (.b true, σ) ∧ σ.blk 0 = some (.cells true 100 [.i .u8 a, .i .u8 b, .i .u8 c]) ∧ 0 < σ.next := by
  have h : (law16_awake (O := O) [] (((startH : AH O).bump 1).put 0 (.cells true 100 [.i .u8 a, .i .u8 b, .i .u8 c]))).map (fun r => (r.1, r.2.blk 0, Nat.blt 0 r.2.next)) = some (.b true, some (.cells true 100 [.i .u8 a, .i .u8 b, .i .u8 c]), true) := by kernel_rfl
  obtain ⟨⟨q, σ⟩, e, h⟩ := Option.map_eq_some_iff.1 h
  simp only [Prod.mk.injEq] at h
  obtain ⟨rfl, h2, h3⟩ := h
  exact ⟨σ, e, h2, Nat.le_of_ble_eq_true h3⟩
def MemS.few (M : MemS) (k c : Int) : Prop := M.met.r + M.met.w ≤ k ∧ M.count ≤ c
theorem Beh.few {Y : List Int} {M M' : MemS} {d a n k c : Int} (h : Beh Y M M' d a n) (g : M.few k c) : M'.few (k + d) (c + n) := ⟨by have := h.k; have := g.1; omega, by have := h.count; have := g.2; omega⟩
theorem MemS.few.le {M : MemS} {k c k' c' : Int} (h : M.few k c) (h1 : k ≤ k') (h2 : c ≤ c') : M.few k' c' := ⟨by have := h.1; omega, by have := h.2; omega⟩
theorem MemS.few.far {M : MemS} {k c d : Int} (h : M.few k c) (hok : M.ok) (hk : k + d < 85070591730234615865843651857942052864) : M.far d := by
  have := h.1
  obtain ⟨h1, h2⟩ := hok.met
  constructor <;> omega
theorem GS.snoc {T T' : StoS} {L L' : LarS} {Os : List Ob} {o : Ob} (g : GS T L Os) (h1 : T.top ≤ T'.top) (h2 : ∀ a ∈ Os, a.lg = true → L'.ob a.at_ = L.ob a.at_) (ho : o.lg = false → o.at_ + o.n ≤ T'.top) (ho' : o.lg = true → ∃ ws, L'.ob o.at_ = some ws ∧ ws.length = o.n) (hap : ∀ a ∈ Os, a.lg = o.lg → (if a.lg then a.at_ ≠ o.at_ else a.at_ + a.n ≤ o.at_)) : GS T' L' (Os ++ [o]) := by
  refine ⟨fun a ha hl => ?_, fun a ha hl => ?_, fun i j a b hij hi hj hl => ?_⟩
  · rcases List.mem_append.1 ha with ha | ha
    · have := g.sm a ha hl; omega
    · simp at ha; subst ha; exact ho hl
  · rcases List.mem_append.1 ha with ha | ha
    · rw [h2 a ha hl]; exact g.lg a ha hl
    · simp at ha; subst ha; exact ho' hl
  · by_cases hjl : j < Os.length
    · rw [List.getElem?_append_left hjl] at hj
      rw [List.getElem?_append_left (by omega)] at hi
      exact g.ap i j a b hij hi hj hl
    · have hj2 := (List.getElem?_eq_some_iff.1 hj).1
      simp at hj2
      have : j = Os.length := by omega
      subst this
      rw [List.getElem?_append_left hij] at hi
      simp at hj
      subst hj
      exact hap a (List.mem_of_getElem? hi) hl
/-- so many objects were made in a new store -/
structure Mk (σ : AH O) (sb nb lb pb mb : Nat) (M : MemS) (S : PoolS) (w : List Int) (L : LarS) (T : StoS) (X : List Nat) (Os : List Ob) : Prop where
  a : StoAt σ sb nb lb pb mb M S w L T X []
  g : GS T L Os
  free : S.free = []
  len : S.E.length ≤ Os.length
  room : S.room ≤ 80
  few : M.few (30 * (Os.length : Int)) (2 + (Os.length : Int))
  small : T.small = 6
  ws : T.ws.length = 400
  top : T.top ≤ 6 * Os.length
  n : ∀ o ∈ Os, 1 ≤ o.n ∧ o.n ≤ 15
theorem took_more {S S' : PoolS} (hf : S.free = []) (hr : S.room ≤ 80) (hl : S.E.length ≤ 20) (ha : Alike S.took.2 S') : S.more ≤ 80 ∧ S'.free = [] ∧ S'.E.length = S.E.length + 1 ∧ S'.room ≤ 80 := by
  have e0 : S.took = (S.E.length, { S with room := S.more, E := S.E ++ [PE.fresh S.words], taken := S.taken + 1 }) := by unfold PoolS.took; rw [hf]
  have hm : S.more ≤ 80 := by unfold PoolS.more; split <;> omega
  rw [e0] at ha
  refine ⟨hm, ?_, ?_, ?_⟩
  · rw [ha.free]; exact hf
  · rw [ha.len]; simp
  · rw [ha.room]; exact hm
theorem make_ob {σ : AH O} {sb nb lb pb mb : Nat} {M : MemS} {S : PoolS} {w : List Int} {L : LarS} {T : StoS} {X : List Nat} {Os : List Ob} (m : Mk σ sb nb lb pb mb M S w L T X Os) (hk : Os.length < 20) {p r s : Nat} (hp : p < 8) (hr : r < 8) (hs : s < 20) :
    Ok (store_Store__Make [.p (some (.n sb, 0)), .agg [.i .i64 (p : Int), .i .i64 (r : Int)], .i .i64 (s : Int)] σ) fun q => ∃ o, o.n = 1 + p + r ∧ q.1 = .tup [.i .u64 o.ref, .i .i64 0] ∧ ∃ M' S' w' L' T', Mk q.2 sb nb lb pb mb M' S' w' L' T' X (Os ++ [o]) ∧ Keep X σ q.2 := by
  have hf : M.far 2000 := m.few.far m.a.l.p.mi.ok (by omega)
  have hl := m.len
  have htop := m.top
  have hws := m.ws
  by_cases hsm : 1 + p + r ≤ 6
  · refine (smake_near m.a (hf.less (by decide)) (by omega) (by omega) (by omega) (by rw [m.small]; omega) (by omega) (by omega)).mono fun q ⟨g1, M', g2, g3, g4⟩ => ?_
    refine ⟨⟨false, T.top, 1 + p + r⟩, rfl, g1, M', S, w, L, _, ⟨g2, m.g.snoc (by simp) (fun a _ _ => rfl) (fun _ => by simp) (fun e => by cases e) (fun a ha e => ?_), m.free, by simp; omega, m.room, (g3.few m.few).le (by simp; omega) (by simp; omega), m.small, by simpa using m.ws, by simp; omega, fun o ho => ?_⟩, g4⟩
    · simp only at e
      rw [e]
      exact m.g.sm a ha e
    · rcases List.mem_append.1 ho with ho | ho
      · exact m.n o ho
      · simp at ho; subst ho; simp only; omega
  · have hcnt : M.count < 262144 := by have := m.few.2; omega
    have hm80 : S.more ≤ 80 := by have := m.room; unfold PoolS.more; split <;> omega
    refine (smake_far m.a hf (by omega) (by omega) (by omega) (by rw [m.small]; omega) hcnt (by omega)).mono fun q ⟨g1, g0, M', S', w', L', g2, g3, g4, g5, g6⟩ => ?_
    obtain ⟨q1, q2, q3, q4⟩ := took_more m.free m.room (by omega) g4
    refine ⟨⟨true, S.took.1, 1 + p + r⟩, rfl, g1, M', S', w', L', T, ⟨g2, m.g.snoc (Nat.le_refl _) (fun a ha hla => ?_) (fun e => by cases e) (fun _ => ⟨_, by rw [g3]; exact if_pos rfl, by simp⟩) (fun a ha e => ?_), q2, by simp; omega, q4, (g5.few m.few).le (by simp; omega) (by simp; omega), m.small, m.ws, by simp; omega, fun o ho => ?_⟩, g6⟩
    · obtain ⟨ws, e1, e2⟩ := m.g.lg a ha hla
      rw [g3]
      simp only
      rw [if_neg (fun e => by rw [e, g0] at e1; cases e1)]
    · simp only at e
      rw [e]
      simp only [if_true]
      intro e'
      obtain ⟨ws, e1, e2⟩ := m.g.lg a ha e
      rw [e', g0] at e1; cases e1
    · rcases List.mem_append.1 ho with ho | ho
      · exact m.n o ho
      · simp at ho; subst ho; simp only; omega
end Go.Abs.Try
set_option linter.unusedSimpArgs false
set_option linter.unusedVariables false
set_option linter.unusedSectionVars false
set_option maxHeartbeats 2000000
namespace Go.Abs.Try
open Go Go.Abs
variable {O : Type}

theorem StoAt.turn {σ σ' : AH O} {sb nb lb pb mb : Nat} {M : MemS} {S : PoolS} {w : List Int} {L : LarS} {T : StoS} {X Z K : List Nat} {Y : List Int} (h : StoAt σ sb nb lb pb mb M S w L T X Y) (hc : Chg K σ σ') (hl : ∀ b ∈ K, b ∈ X ∨ σ.next ≤ b) (hZ : ∀ b ∈ Z, b ∈ X ∨ (σ.next ≤ b ∧ b < σ'.next)) : StoAt σ' sb nb lb pb mb M S w L T Z Y := by
  have hn := h.nlt
  have hs := h.slt
  have k1 : nb ∉ K := fun hm => by rcases hl _ hm with g | g; exact h.nd.2.1 g; omega
  have k2 : sb ∉ K := fun hm => by rcases hl _ hm with g | g; exact h.nd.2.2 g; omega
  obtain ⟨e1, b1⟩ := h.n
  obtain ⟨e2, b2⟩ := h.s
  refine ⟨h.l.turn (K := K) hc (fun b hb => ?_) (fun b hb => ?_), ⟨e1, (hc.blk _ hn k1).trans b1⟩, ⟨e2, (hc.blk _ hs k2).trans b2⟩, h.now, h.top, ⟨h.nd.1, fun hm => ?_, fun hm => ?_⟩, h.oY⟩
  · rcases hl b hb with g | g
    · exact .inl (by simp [g])
    · exact .inr g
  · simp only [List.mem_cons] at hb ⊢
    rcases hb with rfl | rfl | hb
    · exact .inl (.inl rfl)
    · exact .inl (.inr (.inl rfl))
    · rcases hZ b hb with g | g
      · exact .inl (.inr (.inr g))
      · exact .inr g
  · rcases hZ _ hm with g | g; exact h.nd.2.1 g; omega
  · rcases hZ _ hm with g | g; exact h.nd.2.2 g; omega
theorem Mk.turn {σ σ' : AH O} {sb nb lb pb mb : Nat} {M : MemS} {S : PoolS} {w : List Int} {L : LarS} {T : StoS} {X Z K : List Nat} {Os : List Ob} (m : Mk σ sb nb lb pb mb M S w L T X Os) (hc : Chg K σ σ') (hl : ∀ b ∈ K, b ∈ X ∨ σ.next ≤ b) (hZ : ∀ b ∈ Z, b ∈ X ∨ (σ.next ≤ b ∧ b < σ'.next)) : Mk σ' sb nb lb pb mb M S w L T Z Os := { m with a := m.a.turn hc hl hZ }
/-- of a new store nothing was made yet -/
theorem Mk.new {σ : AH O} {sb nb lb pb mb : Nat} {M : MemS} {X : List Nat} (h : StoAt σ sb nb lb pb mb M ⟨1, 5, 0, [], [], 0⟩ [] ⟨[], [], 0, 0, 0, fun _ => none⟩ ⟨0, List.replicate (400 : Int).toNat 0, 0, [.i .i64 0, .i .i64 0, .b false], 6⟩ X []) (hc : M.count = 2) (hr : M.met.r = 0) (hw : M.met.w = 0) : Mk σ sb nb lb pb mb M ⟨1, 5, 0, [], [], 0⟩ [] ⟨[], [], 0, 0, 0, fun _ => none⟩ ⟨0, List.replicate (400 : Int).toNat 0, 0, [.i .i64 0, .i .i64 0, .b false], 6⟩ X [] :=
  ⟨h, ⟨fun o ho _ => (nomatch ho), fun o ho _ => (nomatch ho), fun i j a b _ hi _ _ => by simp at hi⟩, rfl, Nat.le_refl _, Nat.zero_le _, ⟨by rw [hr, hw]; decide, by rw [hc]; decide⟩, rfl, List.length_replicate, Nat.zero_le _, fun o ho => (nomatch ho)⟩
theorem and7 {t : Int} (h : -9223372036854775808 ≤ t ∧ t ≤ 9223372036854775807) : ibits .and .i64 t 7 = (((t % 8).toNat : Nat) : Int) := by
  show IntKind.i64.wrap (((BitVec.ofInt 64 t &&& BitVec.ofInt 64 7).toNat : Nat) : Int) = _
  rw [BitVec.toNat_and, bv_nat (x := 7) (by decide) (by decide), BitVec.toNat_ofInt, show (7 : Int).toNat = 2 ^ 3 - 1 from rfl, Nat.and_two_pow_sub_one_eq_mod]
  have h1 : 0 ≤ t % ((2 ^ 64 : Nat) : Int) := Int.emod_nonneg _ (by decide)
  have h2 : (((t % ((2 ^ 64 : Nat) : Int)).toNat % 2 ^ 3 : Nat) : Int) = t % 8 := by
    rw [Int.natCast_emod, Int.toNat_of_nonneg h1]
    have : ((2 ^ 64 : Nat) : Int) = 18446744073709551616 := by decide
    have : ((2 ^ 3 : Nat) : Int) = 8 := by decide
    omega
  rw [h2, Int.toNat_of_nonneg (by omega)]
  exact s_i64 (by omega)
end Go.Abs.Try
set_option linter.unusedSimpArgs false
set_option linter.unusedVariables false
set_option linter.unusedSectionVars false
set_option maxHeartbeats 4000000
namespace Go.Abs.Try
open Go Go.Abs
variable {O : Type}

theorem grow1 {σ : AH O} {el : TypeId} {a : SA} {n : Nat} {cs : List AV} {v : AV} (ho : OwnS σ el 1 a n cs) :
    Ok (((σ.bump 2).put σ.next (.cells true el [v])).appSl (σ.next + 1) el 1 a n 1 [v]) fun r => ∃ a', r.1 = .sl a' (n + 1) ∧ OwnS r.2 el 1 a' (n + 1) (cs ++ [v]) ∧ Chg (SA.bk a) σ r.2 ∧ ∀ b ∈ SA.bk a', σ.next ≤ b ∧ b < r.2.next := by
  have hlt := ho.lt
  generalize hσ : (σ.bump 2).put σ.next (.cells true el [v]) = σ1
  have n1 : σ1.next = σ.next + 2 := by rw [← hσ]; rfl
  have b1 : ∀ b, b < σ.next → σ1.blk b = σ.blk b := fun b hb => by rw [← hσ, s_bn (by omega)]; rfl
  clear hσ
  have ho1 : OwnS σ1 el 1 a n cs := ho.of (by omega) fun b hb => b1 b (hlt b hb)
  refine (app_ok (nid := σ.next + 1) ho1 (fun hm => by have := hlt _ hm; omega) (by omega) (show ([v] : List AV).length = 1 * 1 from rfl)).mono fun r ⟨a', g1, g2, g3, g4, g5⟩ => ⟨a', g1, g2, ⟨by omega, fun b hb hm => (g4 b (by omega) hm).trans (b1 b hb)⟩, fun b hb => by have := g5 b hb; omega⟩
def shc (z : Int × Int) : List AV := [.i .i64 z.1, .i .i64 z.2]
theorem shc_len (z : Int × Int) : (shc z).length = 2 := rfl
structure St1 (σ : AH O) (sb nb lb pb mb : Nat) (M : MemS) (S : PoolS) (w : List Int) (L : LarS) (T : StoS) (ar aw : SA) (Os : List Ob) (c0 : List AV) : Prop where
  m : Mk σ sb nb lb pb mb M S w L T (0 :: (SA.bk ar ++ SA.bk aw)) Os
  r : OwnS σ 49 1 ar Os.length (Os.map fun o => .i .u64 o.ref)
  wd : OwnS σ 3 1 aw Os.length (Os.map fun o => .i .i64 (o.n : Int))
  dis : ∀ b ∈ SA.bk ar, b ∉ SA.bk aw ∧ b ≠ 0
  dis0 : ∀ b ∈ SA.bk aw, b ≠ 0
  box : σ.blk 0 = some (.cells true 100 c0)
theorem make_step {σ : AH O} {sb nb lb pb mb : Nat} {M : MemS} {S : PoolS} {w : List Int} {L : LarS} {T : StoS} {ar aw : SA} {Os : List Ob} {c0 : List AV} (s : St1 σ sb nb lb pb mb M S w L T ar aw Os c0) {sa : SA} {zs : List (Int × Int)} (hN : zs.length ≤ 20) (hi : Imm 2 sa zs.length (zs.flatMap shc)) {z : Int × Int} (hz : zs[Os.length]? = some z) (hz1 : -9223372036854775808 ≤ z.1 ∧ z.1 ≤ 9223372036854775807) (hz2 : -9223372036854775808 ≤ z.2 ∧ z.2 ≤ 9223372036854775807) :
    Ok (law16_StoreApart_L1 (sa, zs.length) store_Store__Make (some (.n sb, 0)) ([.sl ar Os.length, .sl aw Os.length, .i .i64 (Os.length : Int)], σ)) fun r => ∃ o σ' M' S' w' L' T' ar' aw', r = .inl ([.sl ar' (Os ++ [o]).length, .sl aw' (Os ++ [o]).length, .i .i64 (((Os ++ [o]).length : Nat) : Int)], σ') ∧ St1 σ' sb nb lb pb mb M' S' w' L' T' ar' aw' (Os ++ [o]) c0 := by
  have hk := (List.getElem?_eq_some_iff.1 hz).1
  obtain ⟨b, o, rfl, hld⟩ := Imm.row shc_len hi hz (by decide)
  have ld0 : ∀ σ : AH O, σ.ld b (o + Os.length * 2) = some (.i .i64 z.1) := fun σ => hld O σ 0 (by omega)
  have ld1 : ∀ σ : AH O, σ.ld b (o + Os.length * 2 + 1) = some (.i .i64 z.2) := fun σ => hld O σ 1 (by omega)
  have t1 : (Os.length : Int).toNat * 2 = Os.length * 2 := by omega
  have hlt := s.m.a.lt
  simp (config := { maxSteps := 2000000 }) -implicitDefEqProofs (disch := (first | omega | rfl | assumption | (simp only [rsD]; first | omega | assumption))) only [law16_StoreApart_L1, SA.ref, t1, ld0, ld1, and7 hz1, and7 hz2, Nat.reduceAdd, Nat.reduceMul, Nat.reduceLT, Int.reduceToNat, Int.reduceAdd, Int.reduceSub, Int.reduceMul, rsU, rsC]
  have hc : Chg [σ.next] σ ((σ.bump 1).put σ.next (.cells true 106 [.i .i64 (((z.1 % 8).toNat : Nat) : Int), .i .i64 (((z.2 % 8).toNat : Nat) : Int)])) := ⟨by simp, fun c hc hm => by simp -implicitDefEqProofs (disch := omega) only [s_bn, s_bs, s_kn, bump_blk]⟩
  have m1 := s.m.turn (Z := σ.next :: (0 :: (SA.bk ar ++ SA.bk aw))) hc (fun c hc => .inr (by simp at hc; omega)) (fun c hc => by
    rcases List.mem_cons.1 hc with rfl | hc
    · exact .inr ⟨Nat.le_refl _, by simp⟩
    · exact .inl hc)
  refine Ok.step (make_ob m1 (by omega) (p := (z.1 % 8).toNat) (r := (z.2 % 8).toNat) (s := Os.length) (by omega) (by omega) (by omega)) fun q ⟨o1, e1, g1, M', S', w', L', T', m2, kp⟩ => ?_
  obtain ⟨q, σ1⟩ := q
  simp only at g1 m2 kp
  subst g1
  have e0 : ((0 : Int) == 0) = true := rfl
  have kn := kp.next
  simp only [rsD] at kn
  have bb : ∀ b ∈ (0 :: (SA.bk ar ++ SA.bk aw)), σ1.blk b = σ.blk b := fun b hb => by
    rw [kp.blk b (by simp only [List.mem_cons] at hb ⊢; exact .inr hb)]
    have := hlt b hb
    simp -implicitDefEqProofs (disch := omega) only [s_bn, s_bs, s_kn, bump_blk]
  have r1 := s.r.of (σ' := σ1) (by omega) fun b hb => bb b (by simp [hb])
  have w1 := s.wd.of (σ' := σ1) (by omega) fun b hb => bb b (by simp [hb])
  have bx : σ1.blk σ.next = some (.cells true 106 [.i .i64 (((z.1 % 8).toNat : Nat) : Int), .i .i64 (((z.2 % 8).toNat : Nat) : Int)]) := (kp.blk _ (by simp)).trans s_bs
  have b9 : Nat.ble ((Os.length + 1) * 9) 35184372088832 = true := Nat.ble_eq_true_of_le (by omega)
  simp (config := { maxSteps := 2000000 }) -implicitDefEqProofs (disch := (first | omega | rfl | assumption | (simp only [rsD]; first | omega | assumption))) only [e0, b9, Nat.reduceAdd, Nat.reduceMul, Nat.reduceLT, Int.reduceToNat, Int.reduceAdd, Int.reduceSub, Int.reduceMul, rsU, rsC]
  have hrl := s.r.lt
  have hwl := s.wd.lt
  refine Ok.step (grow1 (v := .i .u64 o1.ref) r1) fun q ⟨ar', a1, a2, a3, a4⟩ => ?_
  obtain ⟨q, σ2⟩ := q
  simp only at a1 a2 a3 a4
  subst a1
  have a3n := a3.next
  have bx2 : σ2.blk σ.next = _ := (a3.blk _ (by omega) (fun hm => by have := hrl _ hm; omega)).trans bx
  have w2 := w1.of (σ' := σ2) (by omega) fun b hb => a3.blk b (by have := hwl b hb; omega) fun hm => (s.dis b hm).1 hb
  have ew : 1 + (((z.1 % 8).toNat : Nat) : Int) + (((z.2 % 8).toNat : Nat) : Int) = (o1.n : Int) := by rw [e1]; omega
  simp (config := { maxSteps := 2000000 }) -implicitDefEqProofs (disch := (first | omega | rfl | assumption | (simp only [rsD]; first | omega | assumption))) only [bx2, Nat.reduceAdd, Nat.reduceMul, Nat.reduceLT, Int.reduceToNat, Int.reduceAdd, Int.reduceSub, Int.reduceMul, rsU, rsC]
  rw [ew]
  refine Ok.step (grow1 (v := .i .i64 (o1.n : Int)) w2) fun q ⟨aw', c1, c2, c3, c4⟩ => ?_
  obtain ⟨q, σ3⟩ := q
  simp only at c1 c2 c3 c4
  subst c1
  have c3n := c3.next
  simp (config := { maxSteps := 2000000 }) -implicitDefEqProofs (disch := (first | omega | rfl | assumption | (simp only [rsD]; first | omega | assumption))) only [Nat.reduceAdd, Nat.reduceMul, Nat.reduceLT, Int.reduceToNat, Int.reduceAdd, Int.reduceSub, Int.reduceMul, rsU, rsC]
  have a2' := a2.of (σ' := σ3) (by omega) fun b hb => c3.blk b (a4 b hb).2 fun hm => by have := hwl b hm; have := (a4 b hb).1; omega
  have hl : (Os ++ [o1]).length = Os.length + 1 := by simp
  have m3 := m2.turn (σ' := σ3) (K := SA.bk ar ++ SA.bk aw) (Z := 0 :: (SA.bk ar' ++ SA.bk aw')) ⟨by omega, fun c hc hm => by
    rw [c3.blk c (by omega) fun h => hm (by simp [h]), a3.blk c hc fun h => hm (by simp [h])]⟩ (fun c hc => .inl (by simp only [List.mem_append, List.mem_cons] at hc ⊢; exact .inr (.inr hc))) (fun c hc => by
    simp only [List.mem_cons, List.mem_append] at hc ⊢
    rcases hc with rfl | hc | hc
    · exact .inl (.inr (.inl rfl))
    · have := a4 c hc; exact .inr (by omega)
    · have := c4 c hc; exact .inr (by omega))
  have h0 := hlt 0 (by simp)
  refine Ok_some.2 ⟨o1, σ3, M', S', w', L', T', ar', aw', by rw [hl, Int.natCast_add]; rfl, m3, ?_, ?_, fun b hb => ?_, fun b hb => ?_, ?_⟩
  · rw [hl, List.map_append]; exact a2'
  · rw [hl, List.map_append]; exact c2
  · have h1 := a4 b hb
    exact ⟨fun hm => by have := c4 b hm; omega, by omega⟩
  · have := c4 b hb; omega
  · rw [c3.blk 0 (by omega) fun hm => s.dis0 0 hm rfl, a3.blk 0 (by omega) fun hm => (s.dis 0 hm).2 rfl, bb 0 (by simp)]
    exact s.box
end Go.Abs.Try
set_option linter.unusedSimpArgs false
set_option linter.unusedVariables false
set_option linter.unusedSectionVars false
set_option maxHeartbeats 4000000
namespace Go.Abs.Try
open Go Go.Abs
variable {O : Type}

def wds (T : StoS) (L : LarS) (o : Ob) (n : Nat) : List AV := (List.range n).map fun k => .i .u64 (obW T L o k)
theorem wds_succ (T : StoS) (L : LarS) (o : Ob) (n : Nat) : wds T L o (n + 1) = wds T L o n ++ [.i .u64 (obW T L o n)] := by simp [wds, List.range_succ]
theorem l3_ok {σ : AH O} {sb nb lb pb mb : Nat} {M : MemS} {S : PoolS} {w : List Int} {L : LarS} {T : StoS} {X : List Nat} {Os : List Ob} (h : StoAt σ sb nb lb pb mb M S w L T X []) (g : GS T L Os) {c : Int} (few : M.few c 100) (h0 : 0 ≤ c ∧ c ≤ 100000) {ar aw : SA} (r : OwnS σ 49 1 ar Os.length (Os.map fun o => .i .u64 o.ref)) (wd : OwnS σ 3 1 aw Os.length (Os.map fun o => .i .i64 (o.n : Int))) (hr : ∀ b ∈ SA.bk ar, b ∈ X) (hw : ∀ b ∈ SA.bk aw, b ∈ X) {j : Nat} {o : Ob} (ho : Os[j]? = some o) (hn : o.n ≤ 15) :
    Ok (loopF (law16_StoreApart_L3 (j : Int) (aw, Os.length) (ar, Os.length) store_Store__Word (some (.n sb, 0))) ([.sl .nil 0, .i .i64 0], σ)) fun q => ∃ al σ' M', q = .inl ([.sl al o.n], σ') ∧ OwnS σ' 36 1 al o.n (wds T L o o.n) ∧ StoAt σ' sb nb lb pb mb M' S w L T (SA.bk al ++ X) [] ∧ M'.few (c + 3 * (o.n : Int)) 100 ∧ Keep X σ σ' ∧ ∀ b ∈ SA.bk al, σ.next ≤ b ∧ b < σ'.next := by
  have hj := (List.getElem?_eq_some_iff.1 ho).1
  have t1 : (j : Int).toNat * 1 = j * 1 := by omega
  have rd : ∀ σ' : AH O, Keep X σ σ' → (∃ b p, ar = .loc b p 1 ∧ σ'.ld b (p + j) = some (.i .u64 o.ref)) ∧ ∃ b p, aw = .loc b p 1 ∧ σ'.ld b (p + j) = some (.i .i64 (o.n : Int)) := fun σ' kp => by
    have x1 := (r.of kp.next fun b hb => kp.blk b (hr b hb)).rd.at1 (i := j) (v := .i .u64 o.ref) (by rw [List.getElem?_map, ho]; rfl)
    have x2 := (wd.of kp.next fun b hb => kp.blk b (hw b hb)).rd.at1 (i := j) (v := .i .i64 (o.n : Int)) (by rw [List.getElem?_map, ho]; rfl)
    rw [Nat.mul_one] at x1 x2
    exact ⟨x1, x2⟩
  refine Ok.count o.n (fun k s => ∃ al σ' M', s = ([.sl al k, .i .i64 (k : Int)], σ') ∧ OwnS σ' 36 1 al k (wds T L o k) ∧ StoAt σ' sb nb lb pb mb M' S w L T (SA.bk al ++ X) [] ∧ M'.few (c + 3 * (k : Int)) 100 ∧ Keep X σ σ' ∧ ∀ b ∈ SA.bk al, σ.next ≤ b ∧ b < σ'.next) ?_ ?_ ⟨.nil, σ, M, rfl, OwnS.nil _ _ _, h, by simpa using few, Keep.refl _ _, by simp [SA.bk]⟩
  · rintro k _ hk ⟨al, σ1, M1, rfl, ow, h1, f1, kp, nw⟩
    obtain ⟨⟨b1, p1, rfl, l1⟩, b2, p2, rfl, l2⟩ := rd σ1 kp
    have hX := h1.lt
    have kn := kp.next
    simp (config := { maxSteps := 2000000 }) -implicitDefEqProofs (disch := (first | omega | rfl | assumption | (simp only [rsD]; first | omega | assumption))) only [law16_StoreApart_L3, SA.ref, t1, l1, l2, Nat.reduceAdd, Nat.reduceMul, Nat.reduceLT, Int.reduceToNat, Int.reduceAdd, Int.reduceSub, Int.reduceMul, rsU, rsC]
    refine Ok.step (word_ob h1 (f1.far h1.l.p.mi.ok (by omega)) g (List.mem_of_getElem? ho) hk) fun q ⟨g1, M2, g2, g3, g4⟩ => ?_
    obtain ⟨q, σ2⟩ := q
    simp only at g1 g2 g4
    subst g1
    have e0 : ((0 : Int) != 0) = false := rfl
    have b9 : Nat.ble ((k + 1) * 9) 35184372088832 = true := Nat.ble_eq_true_of_le (by omega)
    have g4n := g4.next
    simp (config := { maxSteps := 2000000 }) -implicitDefEqProofs (disch := (first | omega | rfl | assumption | (simp only [rsD]; first | omega | assumption))) only [e0, b9, Nat.reduceAdd, Nat.reduceMul, Nat.reduceLT, Int.reduceToNat, Int.reduceAdd, Int.reduceSub, Int.reduceMul, rsU, rsC]
    have ow2 := ow.of (σ' := σ2) g4n fun b hb => g4.blk b (by simp [hb])
    refine Ok.step (grow1 (v := .i .u64 (obW T L o k)) ow2) fun q ⟨al', a1, a2, a3, a4⟩ => ?_
    obtain ⟨q, σ3⟩ := q
    simp only at a1 a2 a3 a4
    subst a1
    have a3n := a3.next
    simp (config := { maxSteps := 2000000 }) -implicitDefEqProofs (disch := (first | omega | rfl | assumption | (simp only [rsD]; first | omega | assumption))) only [Nat.reduceAdd, Nat.reduceMul, Nat.reduceLT, Int.reduceToNat, Int.reduceAdd, Int.reduceSub, Int.reduceMul, rsU, rsC]
    refine Ok_some.2 ⟨al', σ3, M2, by rw [Int.natCast_add]; rfl, by rw [wds_succ]; exact a2, ?_, (g3.few f1).le (by omega) (by omega), ?_, fun b hb => by have := a4 b hb; omega⟩
    · refine g2.turn a3 (fun b hb => .inl (by simp [hb])) fun b hb => ?_
      rcases List.mem_append.1 hb with hb | hb
      · have := a4 b hb; exact .inr (by omega)
      · exact .inl (by simp [hb])
    · refine kp.trans ⟨by omega, fun b hb => ?_⟩
      have hbX := h.lt b hb
      rw [a3.blk b (by have := hX b (by simp [hb]); omega) fun hm => by have := nw b hm; omega, g4.blk b (by simp [hb])]
  · rintro _ ⟨al, σ1, M1, rfl, ow, h1, f1, kp, nw⟩
    obtain ⟨⟨b1, p1, rfl, l1⟩, b2, p2, rfl, l2⟩ := rd σ1 kp
    simp (config := { maxSteps := 2000000 }) -implicitDefEqProofs (disch := (first | omega | rfl | assumption | (simp only [rsD]; first | omega | assumption))) only [law16_StoreApart_L3, SA.ref, t1, l1, l2, Nat.reduceAdd, Nat.reduceMul, Nat.reduceLT, Int.reduceToNat, Int.reduceAdd, Int.reduceSub, Int.reduceMul, rsU, rsC]
    exact Ok_some.2 ⟨al, σ1, M1, rfl, ow, h1, f1, kp, nw⟩
end Go.Abs.Try
set_option linter.unusedSimpArgs false
set_option linter.unusedVariables false
set_option linter.unusedSectionVars false
set_option maxHeartbeats 4000000
namespace Go.Abs.Try
open Go Go.Abs
variable {O : Type}

def olds (AL : List SA) (Os : List Ob) : List AV := (AL.zip Os).map fun x => .sl x.1 x.2.n
theorem olds_snoc {AL : List SA} {Os : List Ob} {al : SA} {o : Ob} (ho : Os[AL.length]? = some o) : olds (AL ++ [al]) Os = olds AL Os ++ [.sl al o.n] := by
  unfold olds
  apply List.ext_getElem?
  intro i
  have hj := (List.getElem?_eq_some_iff.1 ho).1
  simp only [List.getElem?_map, List.getElem?_append, List.length_map, List.length_zip, List.getElem?_zip_eq_some]
  by_cases hi : i < AL.length
  · rw [if_pos (by omega)]
    simp [List.zip, List.getElem?_zipWith, List.getElem?_append_left hi]
  · rw [if_neg (by omega)]
    by_cases he : i = AL.length
    · subst he
      have : min AL.length Os.length = AL.length := by omega
      simp [List.zip, List.getElem?_zipWith, ho, this]
    · have h1 : (AL ++ [al])[i]? = none := List.getElem?_eq_none (by simp; omega)
      have h2 : [AV.sl al o.n][i - min AL.length Os.length]? = none := List.getElem?_eq_none (by simp; omega)
      rw [h2]
      simp [List.zip, List.getElem?_zipWith, h1]
structure OldAt (σ : AH O) (T : StoS) (L : LarS) (Os : List Ob) (ao : SA) (AL : List SA) : Prop where
  o : OwnS σ 108 1 ao AL.length (olds AL Os)
  e : ∀ (j : Nat) (al : SA) (o : Ob), AL[j]? = some al → Os[j]? = some o → OwnS σ 36 1 al o.n (wds T L o o.n)
  dis : ∀ al ∈ AL, ∀ b ∈ SA.bk al, b ∉ SA.bk ao
theorem l2_ok {σ : AH O} {sb nb lb pb mb : Nat} {M : MemS} {S : PoolS} {w : List Int} {L : LarS} {T : StoS} {X : List Nat} {Os : List Ob} (h : StoAt σ sb nb lb pb mb M S w L T X []) (g : GS T L Os) {c : Int} (few : M.few c 100) (h0 : 0 ≤ c ∧ c ≤ 10000) (hN : Os.length ≤ 20) {ar aw : SA} (r : OwnS σ 49 1 ar Os.length (Os.map fun o => .i .u64 o.ref)) (wd : OwnS σ 3 1 aw Os.length (Os.map fun o => .i .i64 (o.n : Int))) (hr : ∀ b ∈ SA.bk ar, b ∈ X) (hw : ∀ b ∈ SA.bk aw, b ∈ X) (hn : ∀ o ∈ Os, o.n ≤ 15) :
    Ok (loopF (law16_StoreApart_L2 (ar, Os.length) (aw, Os.length) store_Store__Word (some (.n sb, 0))) ([.sl .nil 0, .i .i64 0], σ)) fun q => ∃ ao AL σ' M', q = .inl ([.sl ao Os.length], σ') ∧ AL.length = Os.length ∧ OldAt σ' T L Os ao AL ∧ StoAt σ' sb nb lb pb mb M' S w L T (SA.bk ao ++ (AL.flatMap SA.bk ++ X)) [] ∧ M'.few (c + 45 * (Os.length : Int)) 100 ∧ Keep X σ σ' ∧ ∀ b ∈ SA.bk ao, σ.next ≤ b := by
  refine Ok.count Os.length (fun k s => ∃ ao AL σ' M', s = ([.sl ao k, .i .i64 (k : Int)], σ') ∧ AL.length = k ∧ OldAt σ' T L Os ao AL ∧ StoAt σ' sb nb lb pb mb M' S w L T (SA.bk ao ++ (AL.flatMap SA.bk ++ X)) [] ∧ M'.few (c + 45 * (k : Int)) 100 ∧ Keep X σ σ' ∧ ∀ b ∈ SA.bk ao, σ.next ≤ b) ?_ ?_ ⟨.nil, [], σ, M, rfl, rfl, ⟨OwnS.nil _ _ _, fun j al o hj => by simp at hj, fun al ha => by simp at ha⟩, by simpa [SA.bk] using h, by simpa using few, Keep.refl _ _, by simp [SA.bk]⟩
  · rintro k _ hk ⟨ao, AL, σ1, M1, rfl, rfl, od, h1, f1, kp, nao⟩
    have ho := List.getElem?_eq_getElem hk
    generalize Os[AL.length] = o at ho
    have hno := hn o (List.mem_of_getElem? ho)
    have r1 := r.of kp.next fun b hb => kp.blk b (hr b hb)
    have w1 := wd.of kp.next fun b hb => kp.blk b (hw b hb)
    simp (config := { maxSteps := 2000000 }) -implicitDefEqProofs (disch := (first | omega | rfl | assumption | (simp only [rsD]; first | omega | assumption))) only [law16_StoreApart_L2, Nat.reduceAdd, Nat.reduceMul, Nat.reduceLT, Int.reduceToNat, Int.reduceAdd, Int.reduceSub, Int.reduceMul, rsU, rsC]
    refine Ok.bindS (l3_ok h1 g f1 (by omega) r1 w1 (fun b hb => by simp [hr b hb]) (fun b hb => by simp [hw b hb]) ho hno) ?_ (fun q hq => by obtain ⟨_, _, _, e, _⟩ := hq; cases e)
    rintro _ ⟨al, σ2, M2, e, ow, h2, f2, kp2, nw⟩
    simp only [Sum.inl.injEq] at e
    subst e
    have b9 : Nat.ble ((AL.length + 1) * 25) 35184372088832 = true := Nat.ble_eq_true_of_le (by omega)
    have k2n := kp2.next
    simp (config := { maxSteps := 2000000 }) -implicitDefEqProofs (disch := (first | omega | rfl | assumption | (simp only [rsD]; first | omega | assumption))) only [b9, Nat.reduceAdd, Nat.reduceMul, Nat.reduceLT, Int.reduceToNat, Int.reduceAdd, Int.reduceSub, Int.reduceMul, rsU, rsC]
    have hX1 := h1.lt
    have hX2 := h2.lt
    have o2 := od.o.of (σ' := σ2) k2n fun b hb => kp2.blk b (by simp [hb])
    have aolt := o2.lt
    refine Ok.step (grow1 (v := .sl al o.n) o2) fun q ⟨ao', a1, a2, a3, a4⟩ => ?_
    obtain ⟨q, σ3⟩ := q
    simp only at a1 a2 a3 a4
    subst a1
    have a3n := a3.next
    simp (config := { maxSteps := 2000000 }) -implicitDefEqProofs (disch := (first | omega | rfl | assumption | (simp only [rsD]; first | omega | assumption))) only [Nat.reduceAdd, Nat.reduceMul, Nat.reduceLT, Int.reduceToNat, Int.reduceAdd, Int.reduceSub, Int.reduceMul, rsU, rsC]
    have inX : ∀ al' ∈ AL, ∀ b ∈ SA.bk al', b ∈ SA.bk ao ++ (AL.flatMap SA.bk ++ X) := fun al' ha b hb => by
      simp only [List.mem_append, List.mem_flatMap]
      exact .inr (.inl ⟨al', ha, hb⟩)
    refine Ok_some.2 ⟨ao', AL ++ [al], σ3, M2, by rw [Int.natCast_add]; rfl, by simp, ⟨?_, fun j al' o' hj ho' => ?_, fun al' ha b hb hm => ?_⟩, ?_, f2.le (by omega) (by omega), ?_, fun b hb => by have := a4 b hb; have := kp.next; omega⟩
    · rw [olds_snoc ho, List.length_append]; exact a2
    · by_cases hjl : j < AL.length
      · rw [List.getElem?_append_left hjl] at hj
        have hma := List.mem_of_getElem? hj
        refine (od.e j al' o' hj ho').of (by omega) fun b hb => ?_
        have hbX := inX al' hma b hb
        rw [a3.blk b (by have := hX1 b hbX; omega) (od.dis al' hma b hb), kp2.blk b hbX]
      · have hj2 := (List.getElem?_eq_some_iff.1 hj).1
        simp at hj2
        have : j = AL.length := by omega
        subst this
        simp at hj
        subst hj
        rw [ho] at ho'
        cases ho'
        refine ow.of (by omega) fun b hb => a3.blk b (nw b hb).2 fun hm => ?_
        have := (nw b hb).1
        have := hX1 b (by simp [hm])
        omega
    · have hn1 := a4 b hm
      rcases List.mem_append.1 ha with ha | ha
      · have := hX1 b (inX al' ha b hb); omega
      · simp at ha; subst ha
        have := (nw b hb).2; omega
    · refine h2.turn a3 (fun b hb => .inl (by simp [hb])) fun b hb => ?_
      simp only [List.mem_append, List.mem_flatMap, List.mem_singleton] at hb ⊢
      rcases hb with hb | ⟨x, hx | rfl, hb⟩ | hb
      · have := a4 b hb; exact .inr (by omega)
      · exact .inl (.inr (.inr (.inl ⟨x, hx, hb⟩)))
      · exact .inl (.inl hb)
      · exact .inl (.inr (.inr (.inr hb)))
    · refine kp.trans ⟨by omega, fun b hb => ?_⟩
      have hbX := hX1 b (by simp [hb])
      rw [a3.blk b (by omega) fun hm => by have := nao b hm; have := h.lt b hb; omega, kp2.blk b (by simp [hb])]
  · rintro _ ⟨ao, AL, σ1, M1, rfl, hl, od, h1, f1, kp, nao⟩
    simp (config := { maxSteps := 2000000 }) -implicitDefEqProofs (disch := (first | omega | rfl | assumption | (simp only [rsD]; first | omega | assumption))) only [law16_StoreApart_L2, Nat.reduceAdd, Nat.reduceMul, Nat.reduceLT, Int.reduceToNat, Int.reduceAdd, Int.reduceSub, Int.reduceMul, rsU, rsC]
    exact Ok_some.2 ⟨ao, AL, σ1, M1, rfl, hl, od, h1, f1, kp, nao⟩
end Go.Abs.Try
set_option linter.unusedSimpArgs false
set_option linter.unusedVariables false
set_option linter.unusedSectionVars false
set_option maxHeartbeats 4000000
namespace Go.Abs.Try
open Go Go.Abs
variable {O : Type}

theorem l5_ok {σ : AH O} {sb nb lb pb mb : Nat} {M : MemS} {S : PoolS} {w : List Int} {L L0 : LarS} {T T0 : StoS} {X : List Nat} {Os : List Ob} (h : StoAt σ sb nb lb pb mb M S w L T X []) (g : GS T L Os) {c : Int} (few : M.few c 100) (h0 : 0 ≤ c ∧ c ≤ 100000) {ar aw ao : SA} {AL : List SA} (r : OwnS σ 49 1 ar Os.length (Os.map fun o => .i .u64 o.ref)) (wd : OwnS σ 3 1 aw Os.length (Os.map fun o => .i .i64 (o.n : Int))) (od : OldAt σ T0 L0 Os ao AL) (hl : AL.length = Os.length) (hr : ∀ b ∈ SA.bk ar, b ∈ X) (hw : ∀ b ∈ SA.bk aw, b ∈ X) (ha : ∀ b ∈ SA.bk ao, b ∈ X) (hA : ∀ al ∈ AL, ∀ b ∈ SA.bk al, b ∈ X) {j : Nat} {o : Ob} (ho : Os[j]? = some o) (hn : o.n ≤ 15) {a b ni x : Int} {i kk : Nat} (hi : Int.tmod (IntKind.i64.wrap a) (Os.length : Int) = (i : Int)) (hkk : Int.tmod (IntKind.i64.wrap b) ni = (kk : Int))
    (hq : ∀ m, m < o.n → obW T L o m = if j = i ∧ m = kk then x else obW T0 L0 o m) :
    Ok (loopF (law16_StoreApart_L5 (j : Int) (aw, Os.length) (ar, Os.length) store_Store__Word (some (.n sb, 0)) a b ni x (ao, Os.length)) ([.i .i64 0], σ)) fun q => ∃ σ' M', q = .inl ([], σ') ∧ StoAt σ' sb nb lb pb mb M' S w L T X [] ∧ M'.few (c + 3 * (o.n : Int)) 100 ∧ Keep X σ σ' := by
  have hj := (List.getElem?_eq_some_iff.1 ho).1
  have t1 : (j : Int).toNat * 1 = j * 1 := by omega
  obtain ⟨al, hal⟩ : ∃ al, AL[j]? = some al := ⟨AL[j]'(by omega), List.getElem?_eq_getElem (by omega)⟩
  have rd : ∀ σ' : AH O, Keep X σ σ' → (∃ b p, ar = .loc b p 1 ∧ σ'.ld b (p + j) = some (.i .u64 o.ref)) ∧ (∃ b p, aw = .loc b p 1 ∧ σ'.ld b (p + j) = some (.i .i64 (o.n : Int))) ∧ (∃ b p, ao = .loc b p 1 ∧ σ'.ld b (p + j) = some (.sl al o.n)) ∧ ∀ m, m < o.n → ∃ b p, al = .loc b p 1 ∧ σ'.ld b (p + m) = some (.i .u64 (obW T0 L0 o m)) := fun σ' kp => by
    have x1 := (r.of kp.next fun b hb => kp.blk b (hr b hb)).rd.at1 (i := j) (v := .i .u64 o.ref) (by rw [List.getElem?_map, ho]; rfl)
    have x2 := (wd.of kp.next fun b hb => kp.blk b (hw b hb)).rd.at1 (i := j) (v := .i .i64 (o.n : Int)) (by rw [List.getElem?_map, ho]; rfl)
    have x3 := (od.o.of kp.next fun b hb => kp.blk b (ha b hb)).rd.at1 (i := j) (v := .sl al o.n) (by simp [olds, List.zip, List.getElem?_zipWith, hal, ho])
    rw [Nat.mul_one] at x1 x2 x3
    refine ⟨x1, x2, x3, fun m hm => ?_⟩
    have x4 := ((od.e j al o hal ho).of kp.next fun b hb => kp.blk b (hA al (List.mem_of_getElem? hal) b hb)).rd.at1 (i := m) (v := .i .u64 (obW T0 L0 o m)) (by simp [wds, hm])
    rw [Nat.mul_one] at x4
    exact x4
  refine Ok.count o.n (fun k s => ∃ σ' M', s = ([.i .i64 (k : Int)], σ') ∧ StoAt σ' sb nb lb pb mb M' S w L T X [] ∧ M'.few (c + 3 * (k : Int)) 100 ∧ Keep X σ σ') ?_ ?_ ⟨σ, M, rfl, h, by simpa using few, Keep.refl _ _⟩
  · rintro k _ hk ⟨σ1, M1, rfl, h1, f1, kp⟩
    obtain ⟨⟨b1, p1, rfl, l1⟩, ⟨b2, p2, rfl, l2⟩, _⟩ := rd σ1 kp
    have tk : (k : Int).toNat * 1 = k * 1 := by omega
    simp (config := { maxSteps := 2000000 }) -implicitDefEqProofs (disch := (first | omega | rfl | assumption | (simp only [rsD]; first | omega | assumption))) only [law16_StoreApart_L5, SA.ref, t1, l1, l2, Nat.reduceAdd, Nat.reduceMul, Nat.reduceLT, Int.reduceToNat, Int.reduceAdd, Int.reduceSub, Int.reduceMul, rsU, rsC]
    refine Ok.step (word_ob h1 (f1.far h1.l.p.mi.ok (by omega)) g (List.mem_of_getElem? ho) hk) fun q ⟨g1, M2, g2, g3, g4⟩ => ?_
    obtain ⟨q, σ2⟩ := q
    simp only at g1 g2 g4
    subst g1
    obtain ⟨_, _, ⟨b3, p3, rfl, l3⟩, rd4⟩ := rd σ2 (kp.trans g4)
    obtain ⟨b4, p4, rfl, l4⟩ := rd4 k hk
    have e0 : ((0 : Int) != 0) = false := rfl
    have hv := hq k hk
    by_cases c1 : j = i
    · by_cases c2 : k = kk
      · rw [if_pos ⟨c1, c2⟩] at hv
        have q1 : ((j : Int) == (i : Int)) = true := by simp [c1]
        have q2 : ((k : Int) == (kk : Int)) = true := by simp [c2]
        have q3 : (x == x) = true := by simp
        simp (config := { maxSteps := 2000000 }) -implicitDefEqProofs (disch := (first | omega | rfl | assumption | (simp only [rsD]; first | omega | assumption))) only [e0, hi, hkk, q1, q2, q3, hv, Nat.reduceAdd, Nat.reduceMul, Nat.reduceLT, Int.reduceToNat, Int.reduceAdd, Int.reduceSub, Int.reduceMul, rsU, rsC]
        exact Ok_some.2 ⟨σ2, M2, by rw [Int.natCast_add]; rfl, g2, (g3.few f1).le (by omega) (by omega), kp.trans g4⟩
      · rw [if_neg (fun e => c2 e.2)] at hv
        have q1 : ((j : Int) == (i : Int)) = true := by simp [c1]
        have q2 : ((k : Int) == (kk : Int)) = false := by simp; omega
        have q3 : (obW T0 L0 o k == obW T0 L0 o k) = true := by simp
        simp (config := { maxSteps := 2000000 }) -implicitDefEqProofs (disch := (first | omega | rfl | assumption | (simp only [rsD]; first | omega | assumption))) only [e0, hi, hkk, q1, q2, q3, hv, SA.ref, t1, tk, l3, l4, Nat.reduceAdd, Nat.reduceMul, Nat.reduceLT, Int.reduceToNat, Int.reduceAdd, Int.reduceSub, Int.reduceMul, rsU, rsC]
        exact Ok_some.2 ⟨σ2, M2, by rw [Int.natCast_add]; rfl, g2, (g3.few f1).le (by omega) (by omega), kp.trans g4⟩
    · rw [if_neg (fun e => c1 e.1)] at hv
      have q1 : ((j : Int) == (i : Int)) = false := by simp; omega
      have q3 : (obW T0 L0 o k == obW T0 L0 o k) = true := by simp
      simp (config := { maxSteps := 2000000 }) -implicitDefEqProofs (disch := (first | omega | rfl | assumption | (simp only [rsD]; first | omega | assumption))) only [e0, hi, hkk, q1, q3, hv, SA.ref, t1, tk, l3, l4, Nat.reduceAdd, Nat.reduceMul, Nat.reduceLT, Int.reduceToNat, Int.reduceAdd, Int.reduceSub, Int.reduceMul, rsU, rsC]
      exact Ok_some.2 ⟨σ2, M2, by rw [Int.natCast_add]; rfl, g2, (g3.few f1).le (by omega) (by omega), kp.trans g4⟩
  · rintro _ ⟨σ1, M1, rfl, h1, f1, kp⟩
    obtain ⟨⟨b1, p1, rfl, l1⟩, ⟨b2, p2, rfl, l2⟩, _⟩ := rd σ1 kp
    simp (config := { maxSteps := 2000000 }) -implicitDefEqProofs (disch := (first | omega | rfl | assumption | (simp only [rsD]; first | omega | assumption))) only [law16_StoreApart_L5, SA.ref, t1, l1, l2, Nat.reduceAdd, Nat.reduceMul, Nat.reduceLT, Int.reduceToNat, Int.reduceAdd, Int.reduceSub, Int.reduceMul, rsU, rsC]
    exact Ok_some.2 ⟨σ1, M1, rfl, h1, f1, kp⟩
end Go.Abs.Try
set_option linter.unusedSimpArgs false
set_option linter.unusedVariables false
set_option linter.unusedSectionVars false
set_option maxHeartbeats 4000000
namespace Go.Abs.Try
open Go Go.Abs
variable {O : Type}

theorem l4_ok {σ : AH O} {sb nb lb pb mb : Nat} {M : MemS} {S : PoolS} {w : List Int} {L L0 : LarS} {T T0 : StoS} {X : List Nat} {Os : List Ob} (h : StoAt σ sb nb lb pb mb M S w L T X []) (g : GS T L Os) {c : Int} (few : M.few c 100) (h0 : 0 ≤ c ∧ c ≤ 10000) (hN : Os.length ≤ 20) {ar aw ao : SA} {AL : List SA} (r : OwnS σ 49 1 ar Os.length (Os.map fun o => .i .u64 o.ref)) (wd : OwnS σ 3 1 aw Os.length (Os.map fun o => .i .i64 (o.n : Int))) (od : OldAt σ T0 L0 Os ao AL) (hl : AL.length = Os.length) (hr : ∀ b ∈ SA.bk ar, b ∈ X) (hw : ∀ b ∈ SA.bk aw, b ∈ X) (ha : ∀ b ∈ SA.bk ao, b ∈ X) (hA : ∀ al ∈ AL, ∀ b ∈ SA.bk al, b ∈ X) (hn : ∀ o ∈ Os, o.n ≤ 15) {a b ni x : Int} {i kk : Nat} (hi : Int.tmod (IntKind.i64.wrap a) (Os.length : Int) = (i : Int)) (hkk : Int.tmod (IntKind.i64.wrap b) ni = (kk : Int))
    (hq : ∀ (j : Nat) (o : Ob) (m : Nat), Os[j]? = some o → m < o.n → obW T L o m = if j = i ∧ m = kk then x else obW T0 L0 o m) :
    Ok (loopF (law16_StoreApart_L4 (ar, Os.length) (aw, Os.length) store_Store__Word (some (.n sb, 0)) a b ni x (ao, Os.length)) ([.i .i64 0], σ)) fun q => ∃ σ', q = .inl ([], σ') := by
  refine Ok.count Os.length (fun k s => ∃ σ' M', s = ([.i .i64 (k : Int)], σ') ∧ StoAt σ' sb nb lb pb mb M' S w L T X [] ∧ M'.few (c + 45 * (k : Int)) 100 ∧ Keep X σ σ') ?_ ?_ ⟨σ, M, rfl, h, by simpa using few, Keep.refl _ _⟩
  · rintro k _ hk ⟨σ1, M1, rfl, h1, f1, kp⟩
    have ho := List.getElem?_eq_getElem hk
    generalize Os[k] = o at ho
    have hno := hn o (List.mem_of_getElem? ho)
    have od1 : OldAt σ1 T0 L0 Os ao AL := ⟨od.o.of kp.next fun b hb => kp.blk b (ha b hb), fun j al o hj ho => (od.e j al o hj ho).of kp.next fun b hb => kp.blk b (hA al (List.mem_of_getElem? hj) b hb), od.dis⟩
    simp (config := { maxSteps := 2000000 }) -implicitDefEqProofs (disch := (first | omega | rfl | assumption | (simp only [rsD]; first | omega | assumption))) only [law16_StoreApart_L4, Nat.reduceAdd, Nat.reduceMul, Nat.reduceLT, Int.reduceToNat, Int.reduceAdd, Int.reduceSub, Int.reduceMul, rsU, rsC]
    refine Ok.bindS (l5_ok h1 g f1 (by omega) (r.of kp.next fun b hb => kp.blk b (hr b hb)) (wd.of kp.next fun b hb => kp.blk b (hw b hb)) od1 hl hr hw ha hA ho hno hi hkk (fun m hm => hq k o m ho hm)) ?_ (fun q hq => by obtain ⟨_, _, e, _⟩ := hq; cases e)
    rintro _ ⟨σ2, M2, e, h2, f2, kp2⟩
    simp only [Sum.inl.injEq] at e
    subst e
    simp (config := { maxSteps := 2000000 }) -implicitDefEqProofs (disch := (first | omega | rfl | assumption | (simp only [rsD]; first | omega | assumption))) only [Nat.reduceAdd, Nat.reduceMul, Nat.reduceLT, Int.reduceToNat, Int.reduceAdd, Int.reduceSub, Int.reduceMul, rsU, rsC]
    exact Ok_some.2 ⟨σ2, M2, by rw [Int.natCast_add]; rfl, h2, f2.le (by omega) (by omega), kp.trans kp2⟩
  · rintro _ ⟨σ1, M1, rfl, h1, f1, kp⟩
    simp (config := { maxSteps := 2000000 }) -implicitDefEqProofs (disch := (first | omega | rfl | assumption | (simp only [rsD]; first | omega | assumption))) only [law16_StoreApart_L4, Nat.reduceAdd, Nat.reduceMul, Nat.reduceLT, Int.reduceToNat, Int.reduceAdd, Int.reduceSub, Int.reduceMul, rsU, rsC]
    exact Ok_some.2 ⟨σ1, rfl⟩
theorem mod8 {x : Int} {W : Nat} (hx : 0 ≤ x ∧ x ≤ 255) : Int.tmod (IntKind.i64.wrap x) (W : Int) = ((x.toNat % W : Nat) : Int) := by
  rw [s_i64 (by omega)]
  obtain ⟨n, rfl⟩ := Int.eq_ofNat_of_zero_le hx.1
  rw [Int.toNat_natCast]
  rfl
theorem storeApart_ok {sa : SA} {zs : List (Int × Int)} (hi : Imm 2 sa zs.length (zs.flatMap shc)) (hz : ∀ z ∈ zs, (-9223372036854775808 ≤ z.1 ∧ z.1 ≤ 9223372036854775807) ∧ (-9223372036854775808 ≤ z.2 ∧ z.2 ≤ 9223372036854775807)) {a b c x : Int} (ha : 0 ≤ a ∧ a ≤ 255) (hb : 0 ≤ b ∧ b ≤ 255) : Ok (law16_StoreApart (O := O) [.sl sa zs.length, .agg [.i .u8 a, .i .u8 b, .i .u8 c], .i .u64 x] startH) fun r => r.1 = .b true := by
  obtain ⟨σ1, ea, hb0, hn0⟩ := awake16 (O := O) a b c
  have st : (startH : AH O).next = 0 := rfl
  simp (config := { maxSteps := 2000000 }) -implicitDefEqProofs (disch := (first | omega | rfl | assumption | (simp only [rsD]; first | omega | assumption))) only [law16_StoreApart, law16_StoreApart_c, st, ea, Nat.reduceAdd, Nat.reduceMul, Nat.reduceLT, Int.reduceToNat, Int.reduceAdd, Int.reduceSub, Int.reduceMul, rsU, rsC]
  refine Ok.step (snew_ok (X := [0]) (σ := σ1) (by simpa using hn0) (small := 6) (words := 400) (by decide) (by decide)) fun q ⟨sb, nb, lb, pb, mb, M, S, g1, g2, g3, g4, g5, g6, _, g7⟩ => ?_
  obtain ⟨q, σ2⟩ := q
  simp only at g1 g2 g7
  subst g1
  subst g3
  have e0 : ((0 : Int) != 0) = false := rfl
  by_cases hbig : (zs.length : Int) > 20
  · simp (config := { maxSteps := 2000000 }) -implicitDefEqProofs (disch := (first | omega | rfl | assumption | (simp only [rsD]; first | omega | assumption))) only [e0, decide_eq_true hbig, Nat.reduceAdd, Nat.reduceMul, Nat.reduceLT, Int.reduceToNat, Int.reduceAdd, Int.reduceSub, Int.reduceMul, rsU, rsC]
    exact Ok_some.2 rfl
  · simp (config := { maxSteps := 2000000 }) -implicitDefEqProofs (disch := (first | omega | rfl | assumption | (simp only [rsD]; first | omega | assumption))) only [e0, decide_eq_false hbig, Nat.reduceAdd, Nat.reduceMul, Nat.reduceLT, Int.reduceToNat, Int.reduceAdd, Int.reduceSub, Int.reduceMul, rsU, rsC]
    have m0 := Mk.new g2 g4 g5 g6
    have box0 : σ2.blk 0 = some (.cells true 100 [.i .u8 a, .i .u8 b, .i .u8 c]) := (g7.blk 0 (by simp)).trans hb0
    have mk : Ok (loopF (law16_StoreApart_L1 (sa, zs.length) store_Store__Make (some (.n sb, 0))) ([.sl .nil 0, .sl .nil 0, .i .i64 0], σ2)) fun r => ∃ Os σ' M S w L T ar aw, r = ([.sl ar Os.length, .sl aw Os.length], σ') ∧ Os.length ≤ 20 ∧ St1 σ' sb nb lb pb mb M S w L T ar aw Os [.i .u8 a, .i .u8 b, .i .u8 c] := by
      refine Ok.count zs.length (fun k s => ∃ Os σ' M S w L T ar aw, s = ([.sl ar Os.length, .sl aw Os.length, .i .i64 ((Os.length : Nat) : Int)], σ') ∧ Os.length = k ∧ St1 σ' sb nb lb pb mb M S w L T ar aw Os [.i .u8 a, .i .u8 b, .i .u8 c]) ?_ ?_ ⟨[], σ2, M, _, _, _, _, .nil, .nil, rfl, rfl, ⟨m0, OwnS.nil _ _ _, OwnS.nil _ _ _, by simp [SA.bk], by simp [SA.bk], box0⟩⟩
      · rintro k _ hk ⟨Os, σ3, M3, S3, w3, L3, T3, ar, aw, rfl, rfl, s1⟩
        have hx := List.getElem?_eq_getElem hk
        generalize zs[Os.length] = z at hx
        obtain ⟨z1, z2⟩ := hz z (List.mem_of_getElem? hx)
        refine (make_step s1 (by omega) hi hx z1 z2).mono ?_
        rintro _ ⟨o, σ4, M4, S4, w4, L4, T4, ar', aw', rfl, s2⟩
        exact ⟨Os ++ [o], σ4, M4, S4, w4, L4, T4, ar', aw', rfl, by simp, s2⟩
      · rintro _ ⟨Os, σ3, M3, S3, w3, L3, T3, ar, aw, rfl, hl, s1⟩
        simp (config := { maxSteps := 2000000 }) -implicitDefEqProofs (disch := (first | omega | rfl | assumption | (simp only [rsD]; first | omega | assumption))) only [law16_StoreApart_L1, Nat.reduceAdd, Nat.reduceMul, Nat.reduceLT, Int.reduceToNat, Int.reduceAdd, Int.reduceSub, Int.reduceMul, rsU, rsC]
        exact Ok_some.2 ⟨Os, σ3, M3, S3, w3, L3, T3, ar, aw, rfl, by omega, s1⟩
    refine Ok.step mk ?_
    rintro _ ⟨Os, σ3, M3, S3, w3, L3, T3, ar, aw, rfl, h20, s1⟩
    by_cases hz0 : Os.length = 0
    · have q0 : ((Os.length : Int) == 0) = true := by simp [hz0]
      simp (config := { maxSteps := 2000000 }) -implicitDefEqProofs (disch := (first | omega | rfl | assumption | (simp only [rsD]; first | omega | assumption))) only [q0, Nat.reduceAdd, Nat.reduceMul, Nat.reduceLT, Int.reduceToNat, Int.reduceAdd, Int.reduceSub, Int.reduceMul, rsU, rsC]
      exact Ok_some.2 rfl
    · have q0 : ((Os.length : Int) == 0) = false := by simp [hz0]
      have hbox := s1.box
      have m8 := mod8 (W := Os.length) ha
      have hlt := Nat.mod_lt a.toNat (Nat.pos_of_ne_zero hz0)
      have ho := List.getElem?_eq_getElem hlt
      generalize Os[a.toNat % Os.length] = o at ho
      obtain ⟨n1, n2⟩ := s1.m.n o (List.mem_of_getElem? ho)
      obtain ⟨b2, p2, rfl, l2⟩ := s1.wd.rd.at1 (i := a.toNat % Os.length) (v := .i .i64 (o.n : Int)) (by rw [List.getElem?_map, ho]; rfl)
      rw [Nat.mul_one] at l2
      have m8' : Int.tmod a (Os.length : Int) = ((a.toNat % Os.length : Nat) : Int) := by rw [s_i64 (by omega)] at m8; exact m8
      have q1 : ((o.n : Int) == 0) = false := by simp; omega
      have m9 := mod8 (W := o.n) hb
      have m9' : Int.tmod b (o.n : Int) = ((b.toNat % o.n : Nat) : Int) := by rw [s_i64 (by omega)] at m9; exact m9
      have hkk := Nat.mod_lt b.toNat (show 0 < o.n by omega)
      simp (config := { maxSteps := 2000000 }) -implicitDefEqProofs (disch := (first | omega | rfl | assumption | (simp only [rsD]; first | omega | assumption))) only [q0, hbox, m8, m8', SA.ref, l2, q1, Nat.reduceAdd, Nat.reduceMul, Nat.reduceLT, Int.reduceToNat, Int.reduceAdd, Int.reduceSub, Int.reduceMul, rsU, rsC]
      have hf0 : M3.few 600 100 := s1.m.few.le (by omega) (by omega)
      refine Ok.bindS (l2_ok s1.m.a s1.m.g hf0 (by decide) h20 s1.r s1.wd (fun b hb => by simp [hb]) (fun b hb => by simp [hb]) (fun o ho => (s1.m.n o ho).2)) ?_ (fun q hq => by obtain ⟨_, _, _, _, e, _⟩ := hq; cases e)
      rintro _ ⟨ao, AL, σ4, M4, e, hAL, od, h4, f4, kp4, nao⟩
      simp only [Sum.inl.injEq] at e
      subst e
      have r4 := s1.r.of kp4.next fun b hb => kp4.blk b (by simp [hb])
      have w4' := s1.wd.of kp4.next fun b hb => kp4.blk b (by simp [hb])
      obtain ⟨b3, p3, rfl, l3⟩ := r4.rd.at1 (i := a.toNat % Os.length) (v := .i .u64 o.ref) (by rw [List.getElem?_map, ho]; rfl)
      rw [Nat.mul_one] at l3
      simp (config := { maxSteps := 2000000 }) -implicitDefEqProofs (disch := (first | omega | rfl | assumption | (simp only [rsD]; first | omega | assumption))) only [m8, m8', m9, m9', SA.ref, l3, Nat.reduceAdd, Nat.reduceMul, Nat.reduceLT, Int.reduceToNat, Int.reduceAdd, Int.reduceSub, Int.reduceMul, rsU, rsC]
      refine Ok.step (setword_ob h4 (f4.far h4.l.p.mi.ok (by omega)) s1.m.g ho hkk x) fun q ⟨u1, M5, T5, L5, h5, g5', hq, u3, kp5⟩ => ?_
      obtain ⟨q, σ5⟩ := q
      simp only at u1 h5 kp5
      subst u1
      simp (config := { maxSteps := 2000000 }) -implicitDefEqProofs (disch := (first | omega | rfl | assumption | (simp only [rsD]; first | omega | assumption))) only [e0, Nat.reduceAdd, Nat.reduceMul, Nat.reduceLT, Int.reduceToNat, Int.reduceAdd, Int.reduceSub, Int.reduceMul, rsU, rsC]
      have inA : ∀ al ∈ AL, ∀ b ∈ SA.bk al, b ∈ SA.bk ao ++ (AL.flatMap SA.bk ++ (0 :: (SA.bk (.loc b3 p3 1) ++ SA.bk (.loc b2 p2 1)))) := fun al hal b hb => by
        simp only [List.mem_append, List.mem_flatMap]
        exact .inr (.inl ⟨al, hal, hb⟩)
      have od5 : OldAt σ5 T3 L3 Os ao AL := ⟨od.o.of kp5.next fun b hb => kp5.blk b (by simp [hb]), fun j al o hj ho => (od.e j al o hj ho).of kp5.next fun b hb => kp5.blk b (inA al (List.mem_of_getElem? hj) b hb), od.dis⟩
      refine Ok.bindS (l4_ok h5 g5' (u3.few f4) (by omega) h20 (r4.of kp5.next fun b hb => kp5.blk b (by simp [hb])) (w4'.of kp5.next fun b hb => kp5.blk b (by simp [hb])) od5 hAL (fun b hb => by simp [hb]) (fun b hb => by simp [hb]) (fun b hb => by simp [hb]) inA (fun o ho => (s1.m.n o ho).2) m8 m9 hq) ?_ (fun q hq => by obtain ⟨_, e⟩ := hq; cases e)
      rintro _ ⟨σ6, e⟩
      simp only [Sum.inl.injEq] at e
      subst e
      simp (config := { maxSteps := 2000000 }) -implicitDefEqProofs (disch := (first | omega | rfl | assumption | (simp only [rsD]; first | omega | assumption))) only [Nat.reduceAdd, Nat.reduceMul, Nat.reduceLT, Int.reduceToNat, Int.reduceAdd, Int.reduceSub, Int.reduceMul, rsU, rsC]
      exact Ok_some.2 rfl
end Go.Abs.Try
set_option linter.unusedSimpArgs false
namespace Go.Abs.Try
open Go Go.Abs
theorem shapesOf {sa : SA} {els : List (List AV)} (hrow : ∀ el ∈ els, ∃ ns : List Int, el = List.zipWith AV.i [.i64, .i64] ns ∧ ns.length = 2 ∧ ∀ (i : Nat) (k : IntKind) (n : Int), ([.i64, .i64] : List IntKind)[i]? = some k → ns[i]? = some n → k.min ≤ n ∧ n ≤ k.max)
    (himm : Imm 2 sa els.length els.flatten) : ∃ zs : List (Int × Int), els.length = zs.length ∧ Imm 2 sa zs.length (zs.flatMap shc) ∧ ∀ z ∈ zs, (-9223372036854775808 ≤ z.1 ∧ z.1 ≤ 9223372036854775807) ∧ (-9223372036854775808 ≤ z.2 ∧ z.2 ≤ 9223372036854775807) := by
  have key : ∃ zs : List (Int × Int), els = zs.map shc ∧ ∀ z ∈ zs, (-9223372036854775808 ≤ z.1 ∧ z.1 ≤ 9223372036854775807) ∧ (-9223372036854775808 ≤ z.2 ∧ z.2 ≤ 9223372036854775807) := by
    clear himm
    induction els with
    | nil => exact ⟨[], rfl, fun z hz => by simp at hz⟩
    | cons el els ih =>
      obtain ⟨zs, e, hz⟩ := ih fun el hel => hrow el (List.mem_cons_of_mem _ hel)
      obtain ⟨ns, e1, l1, r1⟩ := hrow el List.mem_cons_self
      match ns, l1, e1, r1 with
      | [p, q], _, e1, r1 =>
        have h1 := r1 0 .i64 p rfl rfl
        have h2 := r1 1 .i64 q rfl rfl
        refine ⟨(p, q) :: zs, by rw [e, e1]; rfl, fun z hz' => ?_⟩
        rcases List.mem_cons.1 hz' with rfl | hz'
        · exact ⟨h1, h2⟩
        · exact hz z hz'
  obtain ⟨zs, rfl, hz⟩ := key
  refine ⟨zs, by simp, ?_, hz⟩
  rw [List.length_map] at himm
  rw [List.flatMap_def]
  exact himm
end Go.Abs.Try
