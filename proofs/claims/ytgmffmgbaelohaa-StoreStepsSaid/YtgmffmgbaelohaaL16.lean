/-
  Layer 16: objects in a store, each apart. No conditions.
-/
import Derived.Test.YtgmffmgbaelohaaM16
import Derived.Test.YtgmffmgbaelohaaM7
set_option linter.unusedVariables false
set_option linter.unusedSimpArgs false
set_option linter.constructorNameAsVariable false
set_option linter.unusedSimpArgs false
set_option linter.unusedVariables false
set_option linter.unusedSectionVars false
set_option maxHeartbeats 2000000
namespace Go.Abs.Try
open Go Go.Abs
variable {O : Type}

/-- an object: is it large, where it stands, how many words it has -/
structure Ob where
  lg : Bool
  at_ : Nat
  n : Nat
  deriving DecidableEq
def Ob.ref (o : Ob) : Int := if o.lg then rlg o.at_ else rsm o.at_
structure GS (T : StoS) (L : LarS) (Os : List Ob) : Prop where
  sm : ∀ o ∈ Os, o.lg = false → o.at_ + o.n ≤ T.top
  lg : ∀ o ∈ Os, o.lg = true → ∃ ws, L.ob o.at_ = some ws ∧ ws.length = o.n
  ap : ∀ (i j : Nat) (a b : Ob), i < j → Os[i]? = some a → Os[j]? = some b → a.lg = b.lg → (if a.lg then a.at_ ≠ b.at_ else a.at_ + a.n ≤ b.at_)
/-- a word of an object -/
def obW (T : StoS) (L : LarS) (o : Ob) (k : Nat) : Int := if o.lg then ((L.ob o.at_).getD []).getD k 0 else T.ws.getD (o.at_ + k) 0
section
variable {σ : AH O} {sb nb lb pb mb : Nat} {M : MemS} {S : PoolS} {w : List Int} {L : LarS} {T : StoS} {X : List Nat} {Y : List Int} (h : StoAt σ sb nb lb pb mb M S w L T X Y) (hf : M.far 1000) {Os : List Ob} (g : GS T L Os)
include h hf g
theorem word_ob {o : Ob} (ho : o ∈ Os) {k : Nat} (hk : k < o.n) : Ok (store_Store__Word [.p (some (.n sb, 0)), .i .u64 o.ref, .i .i64 (k : Int)] σ) fun r => r.1 = .tup [.i .u64 (obW T L o k), .i .i64 0] ∧ ∃ M', StoAt r.2 sb nb lb pb mb M' S w L T X Y ∧ Beh Y M M' 3 0 0 ∧ Keep X σ r.2 := by
  unfold Ob.ref obW
  cases hl : o.lg with
  | false =>
    have := g.sm o ho hl
    have := word_sm h hf (at_ := o.at_) (k := (k : Int)) (by omega) (by omega)
    rw [Int.toNat_natCast] at this
    exact this
  | true =>
    obtain ⟨ws, h1, h2⟩ := g.lg o ho hl
    have := word_lg h hf h1 (k := (k : Int)) (by omega)
    rw [Int.toNat_natCast] at this
    rw [h1]
    exact this
theorem setword_ob {i : Nat} {o : Ob} (ho : Os[i]? = some o) {k : Nat} (hk : k < o.n) (x : Int) : Ok (store_Store__SetWord [.p (some (.n sb, 0)), .i .u64 o.ref, .i .i64 (k : Int), .i .u64 x] σ) fun r => r.1 = .i .i64 0 ∧ ∃ M' T' L', StoAt r.2 sb nb lb pb mb M' S w L' T' X Y ∧ GS T' L' Os ∧ (∀ (j : Nat) (o' : Ob) (m : Nat), Os[j]? = some o' → m < o'.n → obW T' L' o' m = if j = i ∧ m = k then x else obW T L o' m) ∧ Beh Y M M' 3 0 0 ∧ Keep X σ r.2 := by
  have hm := List.mem_of_getElem? ho
  cases hl : o.lg with
  | false =>
    have hs := g.sm o hm hl
    have htp := h.top
    have := setword_sm h hf (at_ := o.at_) (k := (k : Int)) (x := x) (by omega) (by omega)
    rw [Int.toNat_natCast, show rsm o.at_ = o.ref by unfold Ob.ref; rw [hl]; rfl] at this
    refine this.mono fun r ⟨e1, M', e2, e3, e4⟩ => ⟨e1, M', _, L, e2, ⟨g.sm, g.lg, g.ap⟩, fun j o' m hj hm' => ?_, e3, e4⟩
    unfold obW
    cases hl' : o'.lg with
    | true =>
      have : ¬ (j = i ∧ m = k) := fun ⟨e, _⟩ => by subst e; rw [ho] at hj; cases hj; rw [hl] at hl'; cases hl'
      rw [if_neg this]
      simp only [if_true]
    | false =>
      simp only [Bool.false_eq_true, if_false]
      have hs' := g.sm o' (List.mem_of_getElem? hj) hl'
      have : (o.at_ + k = o'.at_ + m) ↔ (j = i ∧ m = k) := by
        constructor
        · intro e
          by_cases hji : j = i
          · subst hji; rw [ho] at hj; cases hj; exact ⟨rfl, by omega⟩
          · exfalso
            by_cases hlt : j < i
            · have := g.ap j i o' o hlt hj ho (by rw [hl, hl'])
              rw [hl'] at this
              simp only [Bool.false_eq_true, if_false] at this
              omega
            · have := g.ap i j o o' (by omega) ho hj (by rw [hl, hl'])
              rw [hl] at this
              simp only [Bool.false_eq_true, if_false] at this
              omega
        · rintro ⟨rfl, rfl⟩
          rw [ho] at hj; cases hj; rfl
      rw [List.getD_eq_getElem?_getD, List.getElem?_set]
      by_cases hc : o.at_ + k = o'.at_ + m
      · rw [if_pos hc, if_pos (this.1 hc), if_pos (by omega)]; rfl
      · rw [if_neg hc, if_neg (fun e => hc (this.2 e)), List.getD_eq_getElem?_getD]
  | true =>
    obtain ⟨ws, h1, h2⟩ := g.lg o hm hl
    have := setword_lg h hf h1 (k := (k : Int)) (x := x) (by omega)
    rw [Int.toNat_natCast, show rlg o.at_ = o.ref by unfold Ob.ref; rw [hl]; rfl] at this
    refine this.mono fun r ⟨e1, M', e2, e3, e4⟩ => ⟨e1, M', T, _, e2, ⟨g.sm, fun o' ho' hl' => ?_, g.ap⟩, fun j o' m hj hm' => ?_, e3, e4⟩
    · obtain ⟨ws', q1, q2⟩ := g.lg o' ho' hl'
      simp only
      by_cases he : o'.at_ = o.at_
      · rw [if_pos he]
        rw [he, h1] at q1
        cases q1
        exact ⟨_, rfl, by simp [q2]⟩
      · rw [if_neg he]; exact ⟨ws', q1, q2⟩
    · unfold obW
      cases hl' : o'.lg with
      | false =>
        have : ¬ (j = i ∧ m = k) := fun ⟨e, _⟩ => by subst e; rw [ho] at hj; cases hj; rw [hl] at hl'; cases hl'
        rw [if_neg this]
        simp only [Bool.false_eq_true, if_false]
      | true =>
        simp only [if_true]
        by_cases hji : j = i
        · subst hji; rw [ho] at hj; cases hj
          rw [if_pos rfl, h1]
          simp only [Option.getD_some, true_and]
          rw [List.getD_eq_getElem?_getD, List.getElem?_set]
          by_cases hmk : m = k
          · rw [if_pos hmk.symm, if_pos hmk, if_pos (by omega)]; rfl
          · rw [if_neg (fun e => hmk e.symm), if_neg hmk, List.getD_eq_getElem?_getD]
        · have hne : o'.at_ ≠ o.at_ := by
            by_cases hlt : j < i
            · have := g.ap j i o' o hlt hj ho (by rw [hl, hl'])
              rw [hl'] at this
              simpa using this
            · have := g.ap i j o o' (by omega) ho hj (by rw [hl, hl'])
              rw [hl] at this
              simp only [if_true] at this
              exact fun e => this e.symm
          rw [if_neg hne, if_neg (fun e => hji e.1)]
end
end Go.Abs.Try
set_option linter.unusedSimpArgs false
set_option linter.unusedVariables false
set_option linter.unusedSectionVars false
set_option maxHeartbeats 2000000
namespace Go.Abs.Try
open Go Go.Abs
variable {O : Type}

set_option maxRecDepth 100000 in
/-- the page's example, beside a box -/
theorem awake16 (a b c : Int) : ∃ σ : AH O, law16_awake (O := O) [] (((startH : AH O).bump 1).put 0 (.cells true 100 [.i .u8 a, .i .u8 b, .i .u8 c])) = some (.b true, σ) ∧ σ.blk 0 = some (.cells true 100 [.i .u8 a, .i .u8 b, .i .u8 c]) ∧ 0 < σ.next := by
  have h : (law16_awake (O := O) [] (((startH : AH O).bump 1).put 0 (.cells true 100 [.i .u8 a, .i .u8 b, .i .u8 c]))).map (fun r => (r.1, r.2.blk 0, Nat.blt 0 r.2.next)) = some (.b true, some (.cells true 100 [.i .u8 a, .i .u8 b, .i .u8 c]), true) := by kernel_rfl
  obtain ⟨⟨q, σ⟩, e, h⟩ := Option.map_eq_some_iff.1 h
  simp only [Prod.mk.injEq] at h
  obtain ⟨rfl, h2, h3⟩ := h
  exact ⟨σ, e, h2, Nat.le_of_ble_eq_true h3⟩
def MemS.few (M : MemS) (k c : Int) : Prop := M.met.r + M.met.w ≤ k ∧ M.count ≤ c
theorem Beh.few {Y : List Int} {M M' : MemS} {d a n k c : Int} (h : Beh Y M M' d a n) (g : M.few k c) : M'.few (k + d) (c + n) := ⟨by have := h.k; have := g.1; omega, by have := h.count; have := g.2; omega⟩
theorem MemS.few.le {M : MemS} {k c k' c' : Int} (h : M.few k c) (h1 : k ≤ k') (h2 : c ≤ c') : M.few k' c' := ⟨by have := h.1; omega, by have := h.2; omega⟩
theorem MemS.few.far {M : MemS} {k c d : Int} (h : M.few k c) (hok : M.ok) (hk : k + d < 85070591730234615865843651857942052864) : M.far d := by
  have := h.1
  obtain ⟨h1, h2⟩ := hok.met
  constructor <;> omega
theorem GS.snoc {T T' : StoS} {L L' : LarS} {Os : List Ob} {o : Ob} (g : GS T L Os) (h1 : T.top ≤ T'.top) (h2 : ∀ a ∈ Os, a.lg = true → L'.ob a.at_ = L.ob a.at_) (ho : o.lg = false → o.at_ + o.n ≤ T'.top) (ho' : o.lg = true → ∃ ws, L'.ob o.at_ = some ws ∧ ws.length = o.n) (hap : ∀ a ∈ Os, a.lg = o.lg → (if a.lg then a.at_ ≠ o.at_ else a.at_ + a.n ≤ o.at_)) : GS T' L' (Os ++ [o]) := by
  refine ⟨fun a ha hl => ?_, fun a ha hl => ?_, fun i j a b hij hi hj hl => ?_⟩
  · rcases List.mem_append.1 ha with ha | ha
    · have := g.sm a ha hl; omega
    · simp at ha; subst ha; exact ho hl
  · rcases List.mem_append.1 ha with ha | ha
    · rw [h2 a ha hl]; exact g.lg a ha hl
    · simp at ha; subst ha; exact ho' hl
  · by_cases hjl : j < Os.length
    · rw [List.getElem?_append_left hjl] at hj
      rw [List.getElem?_append_left (by omega)] at hi
      exact g.ap i j a b hij hi hj hl
    · have hj2 := (List.getElem?_eq_some_iff.1 hj).1
      simp at hj2
      have : j = Os.length := by omega
      subst this
      rw [List.getElem?_append_left hij] at hi
      simp at hj
      subst hj
      exact hap a (List.mem_of_getElem? hi) hl
/-- so many objects were made in a new store -/
structure Mk (σ : AH O) (sb nb lb pb mb : Nat) (M : MemS) (S : PoolS) (w : List Int) (L : LarS) (T : StoS) (X : List Nat) (Os : List Ob) : Prop where
  a : StoAt σ sb nb lb pb mb M S w L T X []
  g : GS T L Os
  free : S.free = []
  len : S.E.length ≤ Os.length
  room : S.room ≤ 80
  few : M.few (30 * (Os.length : Int)) (2 + (Os.length : Int))
  small : T.small = 6
  ws : T.ws.length = 400
  top : T.top ≤ 6 * Os.length
  n : ∀ o ∈ Os, 1 ≤ o.n ∧ o.n ≤ 15
theorem took_more {S S' : PoolS} (hf : S.free = []) (hr : S.room ≤ 80) (hl : S.E.length ≤ 20) (ha : Alike S.took.2 S') : S.more ≤ 80 ∧ S'.free = [] ∧ S'.E.length = S.E.length + 1 ∧ S'.room ≤ 80 := by
  have e0 : S.took = (S.E.length, { S with room := S.more, E := S.E ++ [PE.fresh S.words], taken := S.taken + 1 }) := by unfold PoolS.took; rw [hf]
  have hm : S.more ≤ 80 := by unfold PoolS.more; split <;> omega
  rw [e0] at ha
  refine ⟨hm, ?_, ?_, ?_⟩
  · rw [ha.free]; exact hf
  · rw [ha.len]; simp
  · rw [ha.room]; exact hm
theorem make_ob {σ : AH O} {sb nb lb pb mb : Nat} {M : MemS} {S : PoolS} {w : List Int} {L : LarS} {T : StoS} {X : List Nat} {Os : List Ob} (m : Mk σ sb nb lb pb mb M S w L T X Os) (hk : Os.length < 20) {p r s : Nat} (hp : p < 8) (hr : r < 8) (hs : s < 20) :
    Ok (store_Store__Make [.p (some (.n sb, 0)), .agg [.i .i64 (p : Int), .i .i64 (r : Int)], .i .i64 (s : Int)] σ) fun q => ∃ o, o.n = 1 + p + r ∧ q.1 = .tup [.i .u64 o.ref, .i .i64 0] ∧ ∃ M' S' w' L' T', Mk q.2 sb nb lb pb mb M' S' w' L' T' X (Os ++ [o]) ∧ Keep X σ q.2 := by
  have hf : M.far 2000 := m.few.far m.a.l.p.mi.ok (by omega)
  have hl := m.len
  have htop := m.top
  have hws := m.ws
  by_cases hsm : 1 + p + r ≤ 6
  · refine (smake_near m.a (hf.less (by decide)) (by omega) (by omega) (by omega) (by rw [m.small]; omega) (by omega) (by omega)).mono fun q ⟨g1, M', g2, g3, g4⟩ => ?_
    refine ⟨⟨false, T.top, 1 + p + r⟩, rfl, g1, M', S, w, L, _, ⟨g2, m.g.snoc (by simp) (fun a _ _ => rfl) (fun _ => by simp) (fun e => by cases e) (fun a ha e => ?_), m.free, by simp; omega, m.room, (g3.few m.few).le (by simp; omega) (by simp; omega), m.small, by simpa using m.ws, by simp; omega, fun o ho => ?_⟩, g4⟩
    · simp only at e
      rw [e]
      exact m.g.sm a ha e
    · rcases List.mem_append.1 ho with ho | ho
      · exact m.n o ho
      · simp at ho; subst ho; simp only; omega
  · have hcnt : M.count < 262144 := by have := m.few.2; omega
    have hm80 : S.more ≤ 80 := by have := m.room; unfold PoolS.more; split <;> omega
    refine (smake_far m.a hf (by omega) (by omega) (by omega) (by rw [m.small]; omega) hcnt (by omega)).mono fun q ⟨g1, g0, M', S', w', L', g2, g3, g4, g5, g6⟩ => ?_
    obtain ⟨q1, q2, q3, q4⟩ := took_more m.free m.room (by omega) g4
    refine ⟨⟨true, S.took.1, 1 + p + r⟩, rfl, g1, M', S', w', L', T, ⟨g2, m.g.snoc (Nat.le_refl _) (fun a ha hla => ?_) (fun e => by cases e) (fun _ => ⟨_, by rw [g3]; exact if_pos rfl, by simp⟩) (fun a ha e => ?_), q2, by simp; omega, q4, (g5.few m.few).le (by simp; omega) (by simp; omega), m.small, m.ws, by simp; omega, fun o ho => ?_⟩, g6⟩
    · obtain ⟨ws, e1, e2⟩ := m.g.lg a ha hla
      rw [g3]
      simp only
      rw [if_neg (fun e => by rw [e, g0] at e1; cases e1)]
    · simp only at e
      rw [e]
      simp only [if_true]
      intro e'
      obtain ⟨ws, e1, e2⟩ := m.g.lg a ha e
      rw [e', g0] at e1; cases e1
    · rcases List.mem_append.1 ho with ho | ho
      · exact m.n o ho
      · simp at ho; subst ho; simp only; omega
end Go.Abs.Try
set_option linter.unusedSimpArgs false
set_option linter.unusedVariables false
set_option linter.unusedSectionVars false
set_option maxHeartbeats 2000000
namespace Go.Abs.Try
open Go Go.Abs
variable {O : Type}

theorem StoAt.turn {σ σ' : AH O} {sb nb lb pb mb : Nat} {M : MemS} {S : PoolS} {w : List Int} {L : LarS} {T : StoS} {X Z K : List Nat} {Y : List Int} (h : StoAt σ sb nb lb pb mb M S w L T X Y) (hc : Chg K σ σ') (hl : ∀ b ∈ K, b ∈ X ∨ σ.next ≤ b) (hZ : ∀ b ∈ Z, b ∈ X ∨ (σ.next ≤ b ∧ b < σ'.next)) : StoAt σ' sb nb lb pb mb M S w L T Z Y := by
  have hn := h.nlt
  have hs := h.slt
  have k1 : nb ∉ K := fun hm => by rcases hl _ hm with g | g; exact h.nd.2.1 g; omega
  have k2 : sb ∉ K := fun hm => by rcases hl _ hm with g | g; exact h.nd.2.2 g; omega
  obtain ⟨e1, b1⟩ := h.n
  obtain ⟨e2, b2⟩ := h.s
  refine ⟨h.l.turn (K := K) hc (fun b hb => ?_) (fun b hb => ?_), ⟨e1, (hc.blk _ hn k1).trans b1⟩, ⟨e2, (hc.blk _ hs k2).trans b2⟩, h.now, h.top, ⟨h.nd.1, fun hm => ?_, fun hm => ?_⟩, h.oY⟩
  · rcases hl b hb with g | g
    · exact .inl (by simp [g])
    · exact .inr g
  · simp only [List.mem_cons] at hb ⊢
    rcases hb with rfl | rfl | hb
    · exact .inl (.inl rfl)
    · exact .inl (.inr (.inl rfl))
    · rcases hZ b hb with g | g
      · exact .inl (.inr (.inr g))
      · exact .inr g
  · rcases hZ _ hm with g | g; exact h.nd.2.1 g; omega
  · rcases hZ _ hm with g | g; exact h.nd.2.2 g; omega
theorem Mk.turn {σ σ' : AH O} {sb nb lb pb mb : Nat} {M : MemS} {S : PoolS} {w : List Int} {L : LarS} {T : StoS} {X Z K : List Nat} {Os : List Ob} (m : Mk σ sb nb lb pb mb M S w L T X Os) (hc : Chg K σ σ') (hl : ∀ b ∈ K, b ∈ X ∨ σ.next ≤ b) (hZ : ∀ b ∈ Z, b ∈ X ∨ (σ.next ≤ b ∧ b < σ'.next)) : Mk σ' sb nb lb pb mb M S w L T Z Os := { m with a := m.a.turn hc hl hZ }
/-- of a new store nothing was made yet -/
theorem Mk.new {σ : AH O} {sb nb lb pb mb : Nat} {M : MemS} {X : List Nat} (h : StoAt σ sb nb lb pb mb M ⟨1, 5, 0, [], [], 0⟩ [] ⟨[], [], 0, 0, 0, fun _ => none⟩ ⟨0, List.replicate (400 : Int).toNat 0, 0, [.i .i64 0, .i .i64 0, .b false], 6⟩ X []) (hc : M.count = 2) (hr : M.met.r = 0) (hw : M.met.w = 0) : Mk σ sb nb lb pb mb M ⟨1, 5, 0, [], [], 0⟩ [] ⟨[], [], 0, 0, 0, fun _ => none⟩ ⟨0, List.replicate (400 : Int).toNat 0, 0, [.i .i64 0, .i .i64 0, .b false], 6⟩ X [] :=
  ⟨h, ⟨fun o ho _ => (nomatch ho), fun o ho _ => (nomatch ho), fun i j a b _ hi _ _ => by simp at hi⟩, rfl, Nat.le_refl _, Nat.zero_le _, ⟨by rw [hr, hw]; decide, by rw [hc]; decide⟩, rfl, List.length_replicate, Nat.zero_le _, fun o ho => (nomatch ho)⟩
theorem and7 {t : Int} (h : -9223372036854775808 ≤ t ∧ t ≤ 9223372036854775807) : ibits .and .i64 t 7 = (((t % 8).toNat : Nat) : Int) := by
  show IntKind.i64.wrap (((BitVec.ofInt 64 t &&& BitVec.ofInt 64 7).toNat : Nat) : Int) = _
  rw [BitVec.toNat_and, bv_nat (x := 7) (by decide) (by decide), BitVec.toNat_ofInt, show (7 : Int).toNat = 2 ^ 3 - 1 from rfl, Nat.and_two_pow_sub_one_eq_mod]
  have h1 : 0 ≤ t % ((2 ^ 64 : Nat) : Int) := Int.emod_nonneg _ (by decide)
  have h2 : (((t % ((2 ^ 64 : Nat) : Int)).toNat % 2 ^ 3 : Nat) : Int) = t % 8 := by
    rw [Int.natCast_emod, Int.toNat_of_nonneg h1]
    have : ((2 ^ 64 : Nat) : Int) = 18446744073709551616 := by decide
    have : ((2 ^ 3 : Nat) : Int) = 8 := by decide
    omega
  rw [h2, Int.toNat_of_nonneg (by omega)]
  exact s_i64 (by omega)
end Go.Abs.Try
set_option linter.unusedSimpArgs false
set_option linter.unusedVariables false
set_option linter.unusedSectionVars false
set_option maxHeartbeats 2000000
namespace Go.Abs.Try
open Go Go.Abs
variable {O : Type}

/-- just so many accesses -/
def Tk (M M' : MemS) (n : Int) : Prop := M'.met.r + M'.met.w = M.met.r + M.met.w + n
theorem Tk.trans {M M' M'' : MemS} {a b : Int} (h : Tk M M' a) (g : Tk M' M'' b) : Tk M M'' (a + b) := by unfold Tk at *; omega
theorem Tk.refl (M : MemS) : Tk M M 0 := by unfold Tk; omega
theorem Tk.as {M M' : MemS} {a b : Int} (h : Tk M M' a) (e : a = b) : Tk M M' b := e ▸ h
/-- what an access to an object costs -/
def Ob.cost (o : Ob) : Int := if o.lg then 3 else 1
theorem Ob.cost_le (o : Ob) : 1 ≤ o.cost ∧ o.cost ≤ 3 := by unfold Ob.cost; split <;> omega
theorem hdOf_word {h : Hd} (k : h.ok) : hdOf h.word = h := by
  have h1 := k.p; have h2 := k.r; have h3 := k.s; have h4 := k.g; have h5 := h.lnlt
  have e5 : (h.word / 2 ^ 32 % 2 ^ 1 == 1) = h.l := by
    simp only [Hd.word, Hd.w]
    cases hl : h.l with
    | true => rw [show h.ln = 1 by unfold Hd.ln; rw [hl]; rfl]; simp only [beq_iff_eq]; omega
    | false => rw [show h.ln = 0 by unfold Hd.ln; rw [hl]; rfl]; rw [beq_eq_false_iff_ne]; omega
  have e1 : h.word / 2 ^ 0 % 2 ^ 12 = h.p := by simp only [Hd.word, Hd.w]; omega
  have e2 : h.word / 2 ^ 12 % 2 ^ 12 = h.r := by simp only [Hd.word, Hd.w]; omega
  have e3 : h.word / 2 ^ 24 % 2 ^ 5 = h.s := by simp only [Hd.word, Hd.w]; omega
  have e4 : h.word / 2 ^ 29 % 2 ^ 3 = h.g := by simp only [Hd.word, Hd.w]; omega
  unfold hdOf
  rw [e1, e2, e3, e4, e5]
theorem unpack_hd (σ : AH O) {h : Hd} (k : h.ok) : Ok (header_Unpack [.i .u64 (h.word : Int)] σ) fun r => r.1 = .tup [.agg h.av, .i .i64 0] ∧ Ext σ r.2 := by
  have := unpack_ok σ (w := h.word) (by have := k.w; omega)
  rw [hdOf_word k, if_pos rfl] at this
  exact this
section
variable {σ : AH O} {sb nb lb pb mb : Nat} {M : MemS} {S : PoolS} {w : List Int} {L : LarS} {T : StoS} {X : List Nat} {Y : List Int}
theorem lread_in (h : LarAt σ lb pb mb M S w L X Y) (hf : M.far 1000) {i : Nat} {ws : List Int} (ho : L.ob i = some ws) {at_ : Int} (ha : 0 ≤ at_ ∧ at_ < ws.length) :
    Ok (large_Large__Read [.p (some (.n lb, 0)), .i .i64 ((i : Int) + 1), .i .i64 at_] σ) fun r => r.1 = .tup [.i .u64 (ws.getD at_.toNat 0), .i .i64 0] ∧ ∃ M', LarAt r.2 lb pb mb M' S w L X Y ∧ Beh Y M M' 3 0 0 ∧ Tk M M' 3 ∧ Keep X σ r.2 := by
  obtain ⟨el, hb⟩ := h.b
  simp only [LarS.cells] at hb
  obtain ⟨e, sp, mk, he, htk, a1, a2, a3, a4, a5, a6, a7, a8, a9⟩ := h.at ho
  have hs := spSmall h.p.mi.ok a7
  have hl := h.p.mi.wlen a7
  simp (config := { maxSteps := 2000000 }) -implicitDefEqProofs (disch := (first | omega | rfl | assumption | (simp only [rsD]; first | omega | assumption))) only [large_Large__Read, large_Large__Read_c, hb, Nat.reduceAdd, Nat.reduceMul, Nat.reduceLT, Int.reduceToNat, Int.reduceAdd, Int.reduceSub, Int.reduceMul, rsU, rsC]
  have g := lget_ok h hf ho he (k := 0) (by decide) a1
  rw [show ((0 : Nat) : Int) = 0 from rfl] at g
  refine Ok.step g fun r ⟨g1, M1, g2, g3, g4⟩ => ?_
  obtain ⟨q, σ1⟩ := r
  simp only at g1 g2 g4
  subst g1
  have e0 : ((0 : Int) != 0) = false := rfl
  obtain ⟨el1, hb1⟩ := g2.b
  simp only [LarS.cells] at hb1
  simp (config := { maxSteps := 2000000 }) -implicitDefEqProofs (disch := (first | omega | rfl | assumption | (simp only [rsD]; first | omega | assumption))) only [e0, hb1, Nat.reduceAdd, Nat.reduceMul, Nat.reduceLT, Int.reduceToNat, Int.reduceAdd, Int.reduceSub, Int.reduceMul, rsU, rsC]
  have b1 := h.beh2 hf g3 g2.p.mi.ok
  have hf1 : M1.far 998 := b1.far (hf.less (by decide))
  have rd := readXT g2.p.mi (hf1.calm (by decide)) (id := sp) (at_ := at_) (by omega)
  have a7' : wordsOf M1.sp sp = some ws := g3.oth h.p.now sp ws a8 a7
  rw [readR_of a7', if_pos ha] at rd
  refine Ok.step rd fun r ⟨k1, k2, k3⟩ => ?_
  obtain ⟨q, σ2⟩ := r
  simp only at k1 k2 k3
  subst k1
  simp (config := { maxSteps := 2000000 }) -implicitDefEqProofs (disch := (first | omega | rfl | assumption | (simp only [rsD]; first | omega | assumption))) only [Nat.reduceAdd, Nat.reduceMul, Nat.reduceLT, Int.reduceToNat, Int.reduceAdd, Int.reduceSub, Int.reduceMul, rsU, rsC]
  have g3r := g3.r
  have g3w := g3.w
  exact Ok_some.2 ⟨rfl, M1.rd 1, g2.re { g2.p with mi := k2, b := (k3.head).trans g2.p.b } (k3.tail).head fun y v _ hv => hv, (b1.trans Beh.rd).as (by decide) rfl rfl, by simp only [Tk, MemS.rd]; omega, g4.tail.trans k3.tail.tail⟩
theorem lwrite_in (h : LarAt σ lb pb mb M S w L X Y) (hf : M.far 1000) {i : Nat} {ws : List Int} (ho : L.ob i = some ws) {at_ x : Int} (ha : 0 ≤ at_ ∧ at_ < ws.length) :
    Ok (large_Large__Write [.p (some (.n lb, 0)), .i .i64 ((i : Int) + 1), .i .i64 at_, .i .u64 x] σ) fun r => r.1 = .i .i64 0 ∧ ∃ M', LarAt r.2 lb pb mb M' S w { L with ob := fun j => if j = i then some (ws.set at_.toNat x) else L.ob j } X Y ∧ Beh Y M M' 3 0 0 ∧ Tk M M' 3 ∧ Keep X σ r.2 := by
  obtain ⟨el, hb⟩ := h.b
  simp only [LarS.cells] at hb
  obtain ⟨e, sp, mk, he, htk, a1, a2, a3, a4, a5, a6, a7, a8, a9⟩ := h.at ho
  have hs := spSmall h.p.mi.ok a7
  have hl := h.p.mi.wlen a7
  simp (config := { maxSteps := 2000000 }) -implicitDefEqProofs (disch := (first | omega | rfl | assumption | (simp only [rsD]; first | omega | assumption))) only [large_Large__Write, large_Large__Write_c, hb, Nat.reduceAdd, Nat.reduceMul, Nat.reduceLT, Int.reduceToNat, Int.reduceAdd, Int.reduceSub, Int.reduceMul, rsU, rsC]
  have g := lget_ok h hf ho he (k := 0) (by decide) a1
  rw [show ((0 : Nat) : Int) = 0 from rfl] at g
  refine Ok.step g fun r ⟨g1, M1, g2, g3, g4⟩ => ?_
  obtain ⟨q, σ1⟩ := r
  simp only at g1 g2 g4
  subst g1
  have e0 : ((0 : Int) != 0) = false := rfl
  obtain ⟨el1, hb1⟩ := g2.b
  simp only [LarS.cells] at hb1
  simp (config := { maxSteps := 2000000 }) -implicitDefEqProofs (disch := (first | omega | rfl | assumption | (simp only [rsD]; first | omega | assumption))) only [e0, hb1, Nat.reduceAdd, Nat.reduceMul, Nat.reduceLT, Int.reduceToNat, Int.reduceAdd, Int.reduceSub, Int.reduceMul, rsU, rsC]
  have b1 := h.beh2 hf g3 g2.p.mi.ok
  have hf1 : M1.far 998 := b1.far (hf.less (by decide))
  have wr := writeXT g2.p.mi (hf1.calm (by decide)) (id := sp) (at_ := at_) (x := x) (by omega)
  have a7' : wordsOf M1.sp sp = some ws := g3.oth h.p.now sp ws a8 a7
  rw [writeR_of a7', if_pos ha] at wr
  refine Ok.step wr fun r ⟨k1, k2, k3⟩ => ?_
  obtain ⟨q, σ2⟩ := r
  simp only at k1 k2 k3
  subst k1
  simp (config := { maxSteps := 2000000 }) -implicitDefEqProofs (disch := (first | omega | rfl | assumption | (simp only [rsD]; first | omega | assumption))) only [Nat.reduceAdd, Nat.reduceMul, Nat.reduceLT, Int.reduceToNat, Int.reduceAdd, Int.reduceSub, Int.reduceMul, rsU, rsC]
  have hin : wordsOf ((M1.wr 1).put sp.toNat (ws.set at_.toNat x)).sp sp = some (ws.set at_.toNat x) := by
    obtain ⟨h0, h1⟩ := wordsOf_some a7'
    refine wordsOf_mk h0 ?_
    show (M1.sp.set sp.toNat _)[sp.toNat]? = _
    rw [List.getElem?_set]; simp [(List.getElem?_eq_some_iff.1 h1).1]
  have g3r := g3.r
  have g3w := g3.w
  exact Ok_some.2 ⟨rfl, _, g2.wrote he ho a1 (by simp) hin (fun y hy => wordsOf_other hy hs.1) k2 k3, (b1.trans (Beh.wrp hs.1 a9)).as (by decide) rfl rfl, by simp only [Tk, MemS.wr, MemS.put]; omega, g4.tail.trans k3.tail.tail⟩
variable (h : StoAt σ sb nb lb pb mb M S w L T X Y) (hf : M.far 1000)
include h hf
/-- an object that is there -/
def Ob.is (o : Ob) (T : StoS) (L : LarS) : Prop := if o.lg then ∃ ws, L.ob o.at_ = some ws ∧ ws.length = o.n else o.at_ + o.n ≤ T.top
omit h hf in
theorem GS.is {Os : List Ob} (g : GS T L Os) {o : Ob} (ho : o ∈ Os) : o.is T L := by
  unfold Ob.is
  cases hl : o.lg with
  | false => exact g.sm o ho hl
  | true => exact g.lg o ho hl
theorem word_is {o : Ob} (ho : o.is T L) {k : Nat} (hk : k < o.n) : Ok (store_Store__Word [.p (some (.n sb, 0)), .i .u64 o.ref, .i .i64 (k : Int)] σ) fun r => r.1 = .tup [.i .u64 (obW T L o k), .i .i64 0] ∧ ∃ M', StoAt r.2 sb nb lb pb mb M' S w L T X Y ∧ Beh Y M M' 3 0 0 ∧ Tk M M' o.cost ∧ Keep X σ r.2 := by
  unfold Ob.ref obW Ob.cost
  unfold Ob.is at ho
  obtain ⟨el, hs⟩ := h.s
  have htp := h.toplt
  cases hl : o.lg with
  | false =>
    simp only [hl, Bool.false_eq_true, if_false] at ho ⊢
    have hlt : o.at_ < 4194304 := by omega
    have e1 : ((1 : Int) == 0) = false := rfl
    have e2 : ((1 : Int) == 1) = true := rfl
    simp (config := { maxSteps := 2000000 }) -implicitDefEqProofs (disch := (first | omega | rfl | assumption | (simp only [rsD]; first | omega | assumption))) only [store_Store__Word, store_Store__Word_c, kind_sm σ hlt, at_sm σ hlt, e1, e2, hs, Nat.reduceAdd, Nat.reduceMul, Nat.reduceLT, Int.reduceToNat, Int.reduceAdd, Int.reduceSub, Int.reduceMul, rsU, rsC]
    refine Ok.step (sread_ok h (hf.less (by decide)) (at_ := (o.at_ : Int) + k) (by omega)) fun r ⟨g1, M', g2, g3, g5, g4⟩ => ?_
    obtain ⟨q, σ1⟩ := r
    simp only at g1 g2 g4
    subst g1
    simp (config := { maxSteps := 2000000 }) -implicitDefEqProofs (disch := (first | omega | rfl | assumption | (simp only [rsD]; first | omega | assumption))) only [Nat.reduceAdd, Nat.reduceMul, Nat.reduceLT, Int.reduceToNat, Int.reduceAdd, Int.reduceSub, Int.reduceMul, rsU, rsC]
    exact Ok_some.2 ⟨by rw [show ((o.at_ : Int) + k).toNat = o.at_ + k by omega], M', g2, g3.as (by decide) rfl rfl, g5, g4⟩
  | true =>
    simp only [hl, if_true] at ho ⊢
    obtain ⟨ws, ho, hn⟩ := ho
    have hlt := h.oblt ho
    have hol := h.l.ol ho
    have e1 : ((2 : Int) == 0) = false := rfl
    have e2 : ((2 : Int) == 1) = false := rfl
    have e3 : ((2 : Int) == 2) = true := rfl
    simp (config := { maxSteps := 2000000 }) -implicitDefEqProofs (disch := (first | omega | rfl | assumption | (simp only [rsD]; first | omega | assumption))) only [store_Store__Word, store_Store__Word_c, kind_lg σ hlt, at_lg σ hlt, e1, e2, e3, hs, Nat.reduceAdd, Nat.reduceMul, Nat.reduceLT, Int.reduceToNat, Int.reduceAdd, Int.reduceSub, Int.reduceMul, rsU, rsC]
    refine Ok.step (lread_in h.l hf ho (at_ := (k : Int)) (by omega)) fun r ⟨g1, M', g2, g3, g5, g4⟩ => ?_
    obtain ⟨q, σ1⟩ := r
    simp only at g1 g2 g4
    subst g1
    simp (config := { maxSteps := 2000000 }) -implicitDefEqProofs (disch := (first | omega | rfl | assumption | (simp only [rsD]; first | omega | assumption))) only [Nat.reduceAdd, Nat.reduceMul, Nat.reduceLT, Int.reduceToNat, Int.reduceAdd, Int.reduceSub, Int.reduceMul, rsU, rsC]
    exact Ok_some.2 ⟨by rw [ho]; rfl, M', h.larged g2 g3 g4, g3.mono fun y hy => by simp [hy], g5, g4.tail.tail⟩
/-- what a write to an object leaves -/
def setT (T : StoS) (o : Ob) (k : Nat) (x : Int) : StoS := if o.lg then T else { T with ws := T.ws.set (o.at_ + k) x }
def setL (L : LarS) (o : Ob) (k : Nat) (x : Int) : LarS := if o.lg then { L with ob := fun j => if j = o.at_ then some (((L.ob o.at_).getD []).set k x) else L.ob j } else L
theorem setword_is {o : Ob} (ho : o.is T L) {k : Nat} (hk : k < o.n) (x : Int) : Ok (store_Store__SetWord [.p (some (.n sb, 0)), .i .u64 o.ref, .i .i64 (k : Int), .i .u64 x] σ) fun r => r.1 = .i .i64 0 ∧ ∃ M', StoAt r.2 sb nb lb pb mb M' S w (setL L o k x) (setT T o k x) X Y ∧ Beh Y M M' 3 0 0 ∧ Tk M M' o.cost ∧ Keep X σ r.2 := by
  unfold Ob.ref Ob.cost setL setT
  unfold Ob.is at ho
  obtain ⟨el, hs⟩ := h.s
  have htp := h.toplt
  cases hl : o.lg with
  | false =>
    simp only [hl, Bool.false_eq_true, if_false] at ho ⊢
    have hlt : o.at_ < 4194304 := by omega
    have e1 : ((1 : Int) == 0) = false := rfl
    have e2 : ((1 : Int) == 1) = true := rfl
    simp (config := { maxSteps := 2000000 }) -implicitDefEqProofs (disch := (first | omega | rfl | assumption | (simp only [rsD]; first | omega | assumption))) only [store_Store__SetWord, store_Store__SetWord_c, kind_sm σ hlt, at_sm σ hlt, e1, e2, hs, Nat.reduceAdd, Nat.reduceMul, Nat.reduceLT, Int.reduceToNat, Int.reduceAdd, Int.reduceSub, Int.reduceMul, rsU, rsC]
    refine Ok.step (swrite_ok h (hf.less (by decide)) (at_ := (o.at_ : Int) + k) (x := x) (by omega)) fun r ⟨g1, M', g2, g3, g5, g4⟩ => ?_
    obtain ⟨q, σ1⟩ := r
    simp only at g1 g2 g4
    subst g1
    simp (config := { maxSteps := 2000000 }) -implicitDefEqProofs (disch := (first | omega | rfl | assumption | (simp only [rsD]; first | omega | assumption))) only [Nat.reduceAdd, Nat.reduceMul, Nat.reduceLT, Int.reduceToNat, Int.reduceAdd, Int.reduceSub, Int.reduceMul, rsU, rsC]
    rw [show ((o.at_ : Int) + k).toNat = o.at_ + k by omega] at g2
    exact Ok_some.2 ⟨rfl, M', g2, g3.as (by decide) rfl rfl, g5, g4⟩
  | true =>
    simp only [hl, if_true] at ho ⊢
    obtain ⟨ws, ho, hn⟩ := ho
    have hlt := h.oblt ho
    have hol := h.l.ol ho
    have e1 : ((2 : Int) == 0) = false := rfl
    have e2 : ((2 : Int) == 1) = false := rfl
    have e3 : ((2 : Int) == 2) = true := rfl
    simp (config := { maxSteps := 2000000 }) -implicitDefEqProofs (disch := (first | omega | rfl | assumption | (simp only [rsD]; first | omega | assumption))) only [store_Store__SetWord, store_Store__SetWord_c, kind_lg σ hlt, at_lg σ hlt, e1, e2, e3, hs, Nat.reduceAdd, Nat.reduceMul, Nat.reduceLT, Int.reduceToNat, Int.reduceAdd, Int.reduceSub, Int.reduceMul, rsU, rsC]
    refine Ok.step (lwrite_in h.l hf ho (at_ := (k : Int)) (x := x) (by omega)) fun r ⟨g1, M', g2, g3, g5, g4⟩ => ?_
    obtain ⟨q, σ1⟩ := r
    simp only at g1 g2 g4
    subst g1
    simp (config := { maxSteps := 2000000 }) -implicitDefEqProofs (disch := (first | omega | rfl | assumption | (simp only [rsD]; first | omega | assumption))) only [Nat.reduceAdd, Nat.reduceMul, Nat.reduceLT, Int.reduceToNat, Int.reduceAdd, Int.reduceSub, Int.reduceMul, rsU, rsC]
    rw [Int.toNat_natCast] at g2
    exact Ok_some.2 ⟨rfl, M', by rw [ho]; exact h.larged g2 g3 g4, g3.mono fun y hy => by simp [hy], g5, g4.tail.tail⟩
/-- an object with its header -/
structure Ob.has (o : Ob) (T : StoS) (L : LarS) (hd : Hd) : Prop where
  is : o.is T L
  n : o.n = 1 + hd.p + hd.r
  w : obW T L o 0 = (hd.word : Int)
  ok : hd.ok
omit h hf in
/-- a box beside it is filled -/
theorem StoAt.fill {σ' : AH O} {a : Nat} (h : StoAt σ sb nb lb pb mb M S w L T (a :: X) Y) (hn : σ.next ≤ σ'.next) (hb : ∀ b, b < σ.next → b ≠ a → σ'.blk b = σ.blk b) : StoAt σ' sb nb lb pb mb M S w L T (a :: X) Y := h.turn (K := [a]) ⟨hn, fun b h1 h2 => hb b h1 (by simpa using h2)⟩ (fun b hb => .inl (by simp at hb; simp [hb])) (fun b hb => .inl hb)
omit h hf in
theorem StoAt.drop {a : Nat} (h : StoAt σ sb nb lb pb mb M S w L T (a :: X) Y) : StoAt σ sb nb lb pb mb M S w L T X Y := h.turn (K := []) ⟨Nat.le_refl _, fun _ _ _ => rfl⟩ (fun b hb => by simp at hb) (fun b hb => .inl (by simp [hb]))
omit hf in
theorem StoAt.box : StoAt (σ.bump 1) sb nb lb pb mb M S w L T (σ.next :: X) Y := h.turn (K := []) ⟨by simp, fun b hb _ => rfl⟩ (by simp) (fun b hb => by
  rcases List.mem_cons.1 hb with rfl | hb
  · exact .inr ⟨Nat.le_refl _, by simp⟩
  · exact .inl hb)
theorem sheader_ok {o : Ob} {hd : Hd} (ho : o.has T L hd) : Ok (store_Store__Header [.p (some (.n sb, 0)), .i .u64 o.ref] σ) fun r => r.1 = .tup [.agg hd.av, .i .i64 0] ∧ ∃ M', StoAt r.2 sb nb lb pb mb M' S w L T X Y ∧ Beh Y M M' 3 0 0 ∧ Tk M M' o.cost ∧ Keep X σ r.2 := by
  have hn := ho.n
  have hlt := h.lt
  have e0 : ((0 : Int) != 0) = false := rfl
  simp (config := { maxSteps := 2000000 }) -implicitDefEqProofs (disch := (first | omega | rfl | assumption | (simp only [rsD]; first | omega | assumption))) only [store_Store__Header, store_Store__Header_c, Nat.reduceAdd, Nat.reduceMul, Nat.reduceLT, Int.reduceToNat, Int.reduceAdd, Int.reduceSub, Int.reduceMul, rsU, rsC]
  have hb : StoAt ((σ.bump 1).put σ.next (.cells true 115 [.i .i64 0, .i .i64 0, .i .i64 0, .i .i64 0, .b false])) sb nb lb pb mb M S w L T (σ.next :: X) Y := h.box.fill (by simp) (fun b h1 h2 => by simp -implicitDefEqProofs (disch := omega) only [s_bn, s_bs, s_kn, bump_blk])
  refine Ok.step (word_is hb hf ho.is (k := 0) (by omega)) fun r ⟨g1, M', g2, g3, g5, g4⟩ => ?_
  obtain ⟨q, σ1⟩ := r
  rw [ho.w] at g1
  simp only at g1 g2 g4
  subst g1
  have n1 := g4.next
  simp only [rsD] at n1
  have b1 : σ1.blk σ.next = some (.cells true 115 [.i .i64 0, .i .i64 0, .i .i64 0, .i .i64 0, .b false]) := (g4.blk _ (by simp)).trans s_bs
  simp (config := { maxSteps := 2000000 }) -implicitDefEqProofs (disch := (first | omega | rfl | assumption | (simp only [rsD]; first | omega | assumption))) only [e0, Nat.reduceAdd, Nat.reduceMul, Nat.reduceLT, Int.reduceToNat, Int.reduceAdd, Int.reduceSub, Int.reduceMul, rsU, rsC]
  refine Ok.step (unpack_hd σ1 ho.ok) fun r ⟨k1, k2⟩ => ?_
  obtain ⟨q, σ2⟩ := r
  simp only at k1 k2
  subst k1
  have b2 := (k2.blk _ (by omega)).trans b1
  simp (config := { maxSteps := 2000000 }) -implicitDefEqProofs (disch := (first | omega | rfl | assumption | (simp only [rsD]; first | omega | assumption))) only [Hd.av, b2, Nat.reduceAdd, Nat.reduceMul, Nat.reduceLT, Int.reduceToNat, Int.reduceAdd, Int.reduceSub, Int.reduceMul, rsU, rsC]
  have n2 := k2.next
  exact Ok_some.2 ⟨rfl, M', ((g2.ext k2).fill (by simp) (fun b h1 h2 => by simp -implicitDefEqProofs (disch := omega) only [s_bn, s_bs, s_kn, bump_blk])).drop, g3, g5, ⟨by simp; omega, fun b hb => by
    have := hlt b hb
    have k3 := k2.blk b (by omega)
    have k4 := g4.blk b (by simp [hb])
    ((try simp only [rsD] at *); simp -implicitDefEqProofs (disch := (first | omega | rfl | assumption | (simp only [rsD]; first | omega | assumption))) only [s_bs, s_bn, s_kn, bump_blk])
    rw [k3, k4]
    simp -implicitDefEqProofs (disch := omega) only [s_bn, s_bs, s_kn, bump_blk]⟩⟩
omit h hf in
theorem sright_ok (σ : AH O) {p r : Nat} (hp : p < 4096) (hr : r < 4096) : Ok (shape_Right [.agg [.i .i64 (p : Int), .i .i64 (r : Int)]] σ) fun q => q.1 = .b true ∧ Ext σ q.2 := by
  have hc : chkOf p r 0 0 = 0 := by unfold chkOf; rw [if_neg (by omega), if_neg (by omega), if_neg (by omega)]
  simp (config := { maxSteps := 2000000 }) -implicitDefEqProofs (disch := (first | omega | rfl | assumption | (simp only [rsD]; first | omega | assumption))) only [shape_Right, shape_Right_c, Nat.reduceAdd, Nat.reduceMul, Nat.reduceLT, Int.reduceToNat, Int.reduceAdd, Int.reduceSub, Int.reduceMul, rsU, rsC]
  refine Ok.step (check_ok _ (p : Int) (r : Int) 0 0 false) fun q ⟨g1, g2⟩ => ?_
  obtain ⟨q, σ1⟩ := q
  simp only at g1 g2
  rw [hc] at g1
  subst g1
  simp (config := { maxSteps := 2000000 }) -implicitDefEqProofs (disch := (first | omega | rfl | assumption | (simp only [rsD]; first | omega | assumption))) only [Nat.reduceAdd, Nat.reduceMul, Nat.reduceLT, Int.reduceToNat, Int.reduceAdd, Int.reduceSub, Int.reduceMul, rsU, rsC]
  exact Ok_some.2 ⟨rfl, (ext_of (by (have x0 := (g2).next); (try simp only [rsD] at *); omega) (fun b hb => by (have x0 := (g2).next); (try simp only [rsD] at *); simp -implicitDefEqProofs (disch := (first | omega | rfl | assumption | (simp only [rsD]; first | omega | assumption))) only [s_bn, s_kn, bump_blk, s_ext (g2)]))⟩
omit h hf in
theorem sslot_ok (σ : AH O) {p r : Nat} (hp : p < 4096) (hr : r < 4096) (k : Int) : Ok (shape_Slot [.agg [.i .i64 (p : Int), .i .i64 (r : Int)], .i .i64 k] σ) fun q => q.1 = (if 0 ≤ k ∧ k < p then .tup [.i .i64 (1 + k), .i .i64 0] else .tup [.i .i64 0, .i .i64 32]) ∧ Ext σ q.2 := by
  simp (config := { maxSteps := 2000000 }) -implicitDefEqProofs (disch := (first | omega | rfl | assumption | (simp only [rsD]; first | omega | assumption))) only [shape_Slot, shape_Slot_c, Nat.reduceAdd, Nat.reduceMul, Nat.reduceLT, Int.reduceToNat, Int.reduceAdd, Int.reduceSub, Int.reduceMul, rsU, rsC]
  refine Ok.step (sright_ok _ hp hr) fun q ⟨g1, g2⟩ => ?_
  obtain ⟨q, σ1⟩ := q
  simp only at g1 g2
  subst g1
  have hb1 : σ1.blk σ.next = some (.cells true T_api_Shape [.i .i64 (p : Int), .i .i64 (r : Int)]) := (g2.blk _ (by simp)).trans (by simp -implicitDefEqProofs (disch := omega) only [s_bn, s_bs, s_kn, bump_blk])
  by_cases h1 : k < 0
  · rw [if_neg (by omega)]
    simp (config := { maxSteps := 2000000 }) -implicitDefEqProofs (disch := (first | omega | rfl | assumption | (simp only [rsD]; first | omega | assumption))) only [hb1, Nat.reduceAdd, Nat.reduceMul, Nat.reduceLT, Int.reduceToNat, Int.reduceAdd, Int.reduceSub, Int.reduceMul, rsU, rsC]
    exact Ok_some.2 ⟨rfl, (ext_of (by (have x0 := (g2).next); (try simp only [rsD] at *); omega) (fun b hb => by (have x0 := (g2).next); (try simp only [rsD] at *); simp -implicitDefEqProofs (disch := (first | omega | rfl | assumption | (simp only [rsD]; first | omega | assumption))) only [s_bn, s_kn, bump_blk, s_ext (g2)]))⟩
  · by_cases h2 : k < p
    · rw [if_pos (by omega)]
      simp (config := { maxSteps := 2000000 }) -implicitDefEqProofs (disch := (first | omega | rfl | assumption | (simp only [rsD]; first | omega | assumption))) only [hb1, ge_iff_le, Nat.reduceAdd, Nat.reduceMul, Nat.reduceLT, Int.reduceToNat, Int.reduceAdd, Int.reduceSub, Int.reduceMul, rsU, rsC]
      exact Ok_some.2 ⟨rfl, (ext_of (by (have x0 := (g2).next); (try simp only [rsD] at *); omega) (fun b hb => by (have x0 := (g2).next); (try simp only [rsD] at *); simp -implicitDefEqProofs (disch := (first | omega | rfl | assumption | (simp only [rsD]; first | omega | assumption))) only [s_bn, s_kn, bump_blk, s_ext (g2)]))⟩
    · rw [if_neg (by omega)]
      simp (config := { maxSteps := 2000000 }) -implicitDefEqProofs (disch := (first | omega | rfl | assumption | (simp only [rsD]; first | omega | assumption))) only [hb1, ge_iff_le, Nat.reduceAdd, Nat.reduceMul, Nat.reduceLT, Int.reduceToNat, Int.reduceAdd, Int.reduceSub, Int.reduceMul, rsU, rsC]
      exact Ok_some.2 ⟨rfl, (ext_of (by (have x0 := (g2).next); (try simp only [rsD] at *); omega) (fun b hb => by (have x0 := (g2).next); (try simp only [rsD] at *); simp -implicitDefEqProofs (disch := (first | omega | rfl | assumption | (simp only [rsD]; first | omega | assumption))) only [s_bn, s_kn, bump_blk, s_ext (g2)]))⟩
omit h hf in
theorem scell_ok (σ : AH O) {p r : Nat} (hp : p < 4096) (hr : r < 4096) (k : Int) : Ok (shape_Cell [.agg [.i .i64 (p : Int), .i .i64 (r : Int)], .i .i64 k] σ) fun q => q.1 = (if 0 ≤ k ∧ k < r then .tup [.i .i64 (1 + p + k), .i .i64 0] else .tup [.i .i64 0, .i .i64 32]) ∧ Ext σ q.2 := by
  simp (config := { maxSteps := 2000000 }) -implicitDefEqProofs (disch := (first | omega | rfl | assumption | (simp only [rsD]; first | omega | assumption))) only [shape_Cell, shape_Cell_c, Nat.reduceAdd, Nat.reduceMul, Nat.reduceLT, Int.reduceToNat, Int.reduceAdd, Int.reduceSub, Int.reduceMul, rsU, rsC]
  refine Ok.step (sright_ok _ hp hr) fun q ⟨g1, g2⟩ => ?_
  obtain ⟨q, σ1⟩ := q
  simp only at g1 g2
  subst g1
  have hb1 : σ1.blk σ.next = some (.cells true T_api_Shape [.i .i64 (p : Int), .i .i64 (r : Int)]) := (g2.blk _ (by simp)).trans (by simp -implicitDefEqProofs (disch := omega) only [s_bn, s_bs, s_kn, bump_blk])
  by_cases h1 : k < 0
  · rw [if_neg (by omega)]
    simp (config := { maxSteps := 2000000 }) -implicitDefEqProofs (disch := (first | omega | rfl | assumption | (simp only [rsD]; first | omega | assumption))) only [hb1, Nat.reduceAdd, Nat.reduceMul, Nat.reduceLT, Int.reduceToNat, Int.reduceAdd, Int.reduceSub, Int.reduceMul, rsU, rsC]
    exact Ok_some.2 ⟨rfl, (ext_of (by (have x0 := (g2).next); (try simp only [rsD] at *); omega) (fun b hb => by (have x0 := (g2).next); (try simp only [rsD] at *); simp -implicitDefEqProofs (disch := (first | omega | rfl | assumption | (simp only [rsD]; first | omega | assumption))) only [s_bn, s_kn, bump_blk, s_ext (g2)]))⟩
  · by_cases h2 : k < r
    · rw [if_pos (by omega)]
      simp (config := { maxSteps := 2000000 }) -implicitDefEqProofs (disch := (first | omega | rfl | assumption | (simp only [rsD]; first | omega | assumption))) only [hb1, ge_iff_le, Nat.reduceAdd, Nat.reduceMul, Nat.reduceLT, Int.reduceToNat, Int.reduceAdd, Int.reduceSub, Int.reduceMul, rsU, rsC]
      exact Ok_some.2 ⟨rfl, (ext_of (by (have x0 := (g2).next); (try simp only [rsD] at *); omega) (fun b hb => by (have x0 := (g2).next); (try simp only [rsD] at *); simp -implicitDefEqProofs (disch := (first | omega | rfl | assumption | (simp only [rsD]; first | omega | assumption))) only [s_bn, s_kn, bump_blk, s_ext (g2)]))⟩
    · rw [if_neg (by omega)]
      simp (config := { maxSteps := 2000000 }) -implicitDefEqProofs (disch := (first | omega | rfl | assumption | (simp only [rsD]; first | omega | assumption))) only [hb1, ge_iff_le, Nat.reduceAdd, Nat.reduceMul, Nat.reduceLT, Int.reduceToNat, Int.reduceAdd, Int.reduceSub, Int.reduceMul, rsU, rsC]
      exact Ok_some.2 ⟨rfl, (ext_of (by (have x0 := (g2).next); (try simp only [rsD] at *); omega) (fun b hb => by (have x0 := (g2).next); (try simp only [rsD] at *); simp -implicitDefEqProofs (disch := (first | omega | rfl | assumption | (simp only [rsD]; first | omega | assumption))) only [s_bn, s_kn, bump_blk, s_ext (g2)]))⟩
omit hf in
theorem spointer_ok (hf : M.far 2000) {o : Ob} {hd : Hd} (ho : o.has T L hd) (k : Int) : Ok (store_Store__Pointer [.p (some (.n sb, 0)), .i .u64 o.ref, .i .i64 k] σ) fun r => r.1 = (if 0 ≤ k ∧ k < hd.p then .tup [.i .u64 (obW T L o (1 + k.toNat)), .i .i64 0] else .tup [.i .u64 0, .i .i64 32]) ∧ ∃ M', StoAt r.2 sb nb lb pb mb M' S w L T X Y ∧ Beh Y M M' 6 0 0 ∧ Tk M M' (if 0 ≤ k ∧ k < hd.p then o.cost + o.cost else o.cost) ∧ Keep X σ r.2 := by
  have hlt := h.lt
  have hn := ho.n
  simp (config := { maxSteps := 2000000 }) -implicitDefEqProofs (disch := (first | omega | rfl | assumption | (simp only [rsD]; first | omega | assumption))) only [store_Store__Pointer, store_Store__Pointer_c, Nat.reduceAdd, Nat.reduceMul, Nat.reduceLT, Int.reduceToNat, Int.reduceAdd, Int.reduceSub, Int.reduceMul, rsU, rsC]
  refine Ok.step (sheader_ok h.box (hf.less (by decide)) ho) fun r ⟨g1, M1, g2, g3, g5, g4⟩ => ?_
  obtain ⟨q, σ1⟩ := r
  simp only at g1 g2 g4
  subst g1
  have e0 : ((0 : Int) != 0) = false := rfl
  have e1 : ((32 : Int) != 0) = true := rfl
  have n1 := g4.next
  simp only [rsD] at n1
  simp (config := { maxSteps := 2000000 }) -implicitDefEqProofs (disch := (first | omega | rfl | assumption | (simp only [rsD]; first | omega | assumption))) only [Hd.av, e0, Nat.reduceAdd, Nat.reduceMul, Nat.reduceLT, Int.reduceToNat, Int.reduceAdd, Int.reduceSub, Int.reduceMul, rsU, rsC]
  refine Ok.step (sslot_ok _ ho.ok.p ho.ok.r k) fun r ⟨k1, k2⟩ => ?_
  obtain ⟨q, σ2⟩ := r
  simp only at k1 k2
  have n2 := k2.next
  simp only [rsD] at n2
  have e2 : ∀ b, b < σ1.next → b ≠ σ.next → σ2.blk b = σ1.blk b := fun b hb hm => (k2.blk b (by simp only [rsD]; omega)).trans (by simp -implicitDefEqProofs (disch := omega) only [s_bn, s_bs, s_kn, bump_blk])
  have h2 := g2.fill n2 e2
  have kp : Keep X σ σ2 := ⟨by omega, fun b hb => by have := hlt b hb; rw [e2 b (by omega) (by omega), g4.blk b (by simp [hb])]; rfl⟩
  by_cases hk : 0 ≤ k ∧ k < hd.p
  · simp only [if_pos hk] at k1 ⊢
    subst k1
    obtain ⟨m, rfl⟩ := Int.eq_ofNat_of_zero_le hk.1
    simp (config := { maxSteps := 2000000 }) -implicitDefEqProofs (disch := (first | omega | rfl | assumption | (simp only [rsD]; first | omega | assumption))) only [e0, Nat.reduceAdd, Nat.reduceMul, Nat.reduceLT, Int.reduceToNat, Int.reduceAdd, Int.reduceSub, Int.reduceMul, rsU, rsC]
    have hw := word_is h2 (g3.far (hf.less (by decide)) : M1.far 1000) ho.is (k := 1 + m) (by omega)
    rw [Int.natCast_add] at hw
    refine Ok.step hw fun r ⟨j1, M2, j2, j3, j5, j4⟩ => ?_
    obtain ⟨q, σ3⟩ := r
    simp only at j1 j2 j4
    subst j1
    simp (config := { maxSteps := 2000000 }) -implicitDefEqProofs (disch := (first | omega | rfl | assumption | (simp only [rsD]; first | omega | assumption))) only [Nat.reduceAdd, Nat.reduceMul, Nat.reduceLT, Int.reduceToNat, Int.reduceAdd, Int.reduceSub, Int.reduceMul, rsU, rsC]
    exact Ok_some.2 ⟨rfl, M2, j2.drop, (g3.trans j3).as (by decide) rfl rfl, g5.trans j5, kp.trans j4.tail⟩
  · simp only [if_neg hk] at k1 ⊢
    subst k1
    simp (config := { maxSteps := 2000000 }) -implicitDefEqProofs (disch := (first | omega | rfl | assumption | (simp only [rsD]; first | omega | assumption))) only [e1, Nat.reduceAdd, Nat.reduceMul, Nat.reduceLT, Int.reduceToNat, Int.reduceAdd, Int.reduceSub, Int.reduceMul, rsU, rsC]
    exact Ok_some.2 ⟨rfl, M1, h2.drop, g3.as (by decide) rfl rfl, g5, kp⟩
omit hf in
theorem sraw_ok (hf : M.far 2000) {o : Ob} {hd : Hd} (ho : o.has T L hd) (k : Int) : Ok (store_Store__Raw [.p (some (.n sb, 0)), .i .u64 o.ref, .i .i64 k] σ) fun r => r.1 = (if 0 ≤ k ∧ k < hd.r then .tup [.i .u64 (obW T L o (1 + hd.p + k.toNat)), .i .i64 0] else .tup [.i .u64 0, .i .i64 32]) ∧ ∃ M', StoAt r.2 sb nb lb pb mb M' S w L T X Y ∧ Beh Y M M' 6 0 0 ∧ Tk M M' (if 0 ≤ k ∧ k < hd.r then o.cost + o.cost else o.cost) ∧ Keep X σ r.2 := by
  have hlt := h.lt
  have hn := ho.n
  simp (config := { maxSteps := 2000000 }) -implicitDefEqProofs (disch := (first | omega | rfl | assumption | (simp only [rsD]; first | omega | assumption))) only [store_Store__Raw, store_Store__Raw_c, Nat.reduceAdd, Nat.reduceMul, Nat.reduceLT, Int.reduceToNat, Int.reduceAdd, Int.reduceSub, Int.reduceMul, rsU, rsC]
  refine Ok.step (sheader_ok h.box (hf.less (by decide)) ho) fun r ⟨g1, M1, g2, g3, g5, g4⟩ => ?_
  obtain ⟨q, σ1⟩ := r
  simp only at g1 g2 g4
  subst g1
  have e0 : ((0 : Int) != 0) = false := rfl
  have e1 : ((32 : Int) != 0) = true := rfl
  have n1 := g4.next
  simp only [rsD] at n1
  simp (config := { maxSteps := 2000000 }) -implicitDefEqProofs (disch := (first | omega | rfl | assumption | (simp only [rsD]; first | omega | assumption))) only [Hd.av, e0, Nat.reduceAdd, Nat.reduceMul, Nat.reduceLT, Int.reduceToNat, Int.reduceAdd, Int.reduceSub, Int.reduceMul, rsU, rsC]
  refine Ok.step (scell_ok _ ho.ok.p ho.ok.r k) fun r ⟨k1, k2⟩ => ?_
  obtain ⟨q, σ2⟩ := r
  simp only at k1 k2
  have n2 := k2.next
  simp only [rsD] at n2
  have e2 : ∀ b, b < σ1.next → b ≠ σ.next → σ2.blk b = σ1.blk b := fun b hb hm => (k2.blk b (by simp only [rsD]; omega)).trans (by simp -implicitDefEqProofs (disch := omega) only [s_bn, s_bs, s_kn, bump_blk])
  have h2 := g2.fill n2 e2
  have kp : Keep X σ σ2 := ⟨by omega, fun b hb => by have := hlt b hb; rw [e2 b (by omega) (by omega), g4.blk b (by simp [hb])]; rfl⟩
  by_cases hk : 0 ≤ k ∧ k < hd.r
  · simp only [if_pos hk] at k1 ⊢
    subst k1
    obtain ⟨m, rfl⟩ := Int.eq_ofNat_of_zero_le hk.1
    simp (config := { maxSteps := 2000000 }) -implicitDefEqProofs (disch := (first | omega | rfl | assumption | (simp only [rsD]; first | omega | assumption))) only [e0, Nat.reduceAdd, Nat.reduceMul, Nat.reduceLT, Int.reduceToNat, Int.reduceAdd, Int.reduceSub, Int.reduceMul, rsU, rsC]
    have hw := word_is h2 (g3.far (hf.less (by decide)) : M1.far 1000) ho.is (k := 1 + hd.p + m) (by omega)
    rw [Int.natCast_add, Int.natCast_add] at hw
    refine Ok.step hw fun r ⟨j1, M2, j2, j3, j5, j4⟩ => ?_
    obtain ⟨q, σ3⟩ := r
    simp only at j1 j2 j4
    subst j1
    simp (config := { maxSteps := 2000000 }) -implicitDefEqProofs (disch := (first | omega | rfl | assumption | (simp only [rsD]; first | omega | assumption))) only [Nat.reduceAdd, Nat.reduceMul, Nat.reduceLT, Int.reduceToNat, Int.reduceAdd, Int.reduceSub, Int.reduceMul, rsU, rsC]
    exact Ok_some.2 ⟨rfl, M2, j2.drop, (g3.trans j3).as (by decide) rfl rfl, g5.trans j5, kp.trans j4.tail⟩
  · simp only [if_neg hk] at k1 ⊢
    subst k1
    simp (config := { maxSteps := 2000000 }) -implicitDefEqProofs (disch := (first | omega | rfl | assumption | (simp only [rsD]; first | omega | assumption))) only [e1, Nat.reduceAdd, Nat.reduceMul, Nat.reduceLT, Int.reduceToNat, Int.reduceAdd, Int.reduceSub, Int.reduceMul, rsU, rsC]
    exact Ok_some.2 ⟨rfl, M1, h2.drop, g3.as (by decide) rfl rfl, g5, kp⟩
omit hf in
theorem ssetraw_ok (hf : M.far 2000) {o : Ob} {hd : Hd} (ho : o.has T L hd) (k x : Int) : Ok (store_Store__SetRaw [.p (some (.n sb, 0)), .i .u64 o.ref, .i .i64 k, .i .u64 x] σ) fun r => r.1 = .i .i64 (if 0 ≤ k ∧ k < hd.r then 0 else 32) ∧ ∃ M', StoAt r.2 sb nb lb pb mb M' S w (if 0 ≤ k ∧ k < hd.r then setL L o (1 + hd.p + k.toNat) x else L) (if 0 ≤ k ∧ k < hd.r then setT T o (1 + hd.p + k.toNat) x else T) X Y ∧ Beh Y M M' 6 0 0 ∧ Tk M M' (if 0 ≤ k ∧ k < hd.r then o.cost + o.cost else o.cost) ∧ Keep X σ r.2 := by
  have hlt := h.lt
  have hn := ho.n
  simp (config := { maxSteps := 2000000 }) -implicitDefEqProofs (disch := (first | omega | rfl | assumption | (simp only [rsD]; first | omega | assumption))) only [store_Store__SetRaw, store_Store__SetRaw_c, Nat.reduceAdd, Nat.reduceMul, Nat.reduceLT, Int.reduceToNat, Int.reduceAdd, Int.reduceSub, Int.reduceMul, rsU, rsC]
  refine Ok.step (sheader_ok h.box (hf.less (by decide)) ho) fun r ⟨g1, M1, g2, g3, g5, g4⟩ => ?_
  obtain ⟨q, σ1⟩ := r
  simp only at g1 g2 g4
  subst g1
  have e0 : ((0 : Int) != 0) = false := rfl
  have e1 : ((32 : Int) != 0) = true := rfl
  have n1 := g4.next
  simp only [rsD] at n1
  simp (config := { maxSteps := 2000000 }) -implicitDefEqProofs (disch := (first | omega | rfl | assumption | (simp only [rsD]; first | omega | assumption))) only [Hd.av, e0, Nat.reduceAdd, Nat.reduceMul, Nat.reduceLT, Int.reduceToNat, Int.reduceAdd, Int.reduceSub, Int.reduceMul, rsU, rsC]
  refine Ok.step (scell_ok _ ho.ok.p ho.ok.r k) fun r ⟨k1, k2⟩ => ?_
  obtain ⟨q, σ2⟩ := r
  simp only at k1 k2
  have n2 := k2.next
  simp only [rsD] at n2
  have e2 : ∀ b, b < σ1.next → b ≠ σ.next → σ2.blk b = σ1.blk b := fun b hb hm => (k2.blk b (by simp only [rsD]; omega)).trans (by simp -implicitDefEqProofs (disch := omega) only [s_bn, s_bs, s_kn, bump_blk])
  have h2 := g2.fill n2 e2
  have kp : Keep X σ σ2 := ⟨by omega, fun b hb => by have := hlt b hb; rw [e2 b (by omega) (by omega), g4.blk b (by simp [hb])]; rfl⟩
  by_cases hk : 0 ≤ k ∧ k < hd.r
  · simp only [if_pos hk] at k1 ⊢
    subst k1
    obtain ⟨m, rfl⟩ := Int.eq_ofNat_of_zero_le hk.1
    simp (config := { maxSteps := 2000000 }) -implicitDefEqProofs (disch := (first | omega | rfl | assumption | (simp only [rsD]; first | omega | assumption))) only [e0, Nat.reduceAdd, Nat.reduceMul, Nat.reduceLT, Int.reduceToNat, Int.reduceAdd, Int.reduceSub, Int.reduceMul, rsU, rsC]
    have hw := setword_is h2 (g3.far (hf.less (by decide)) : M1.far 1000) ho.is (k := 1 + hd.p + m) (by omega) x
    rw [Int.natCast_add, Int.natCast_add] at hw
    refine Ok.step hw fun r ⟨j1, M2, j2, j3, j5, j4⟩ => ?_
    obtain ⟨q, σ3⟩ := r
    simp only at j1 j2 j4
    subst j1
    simp (config := { maxSteps := 2000000 }) -implicitDefEqProofs (disch := (first | omega | rfl | assumption | (simp only [rsD]; first | omega | assumption))) only [Nat.reduceAdd, Nat.reduceMul, Nat.reduceLT, Int.reduceToNat, Int.reduceAdd, Int.reduceSub, Int.reduceMul, rsU, rsC]
    exact Ok_some.2 ⟨rfl, M2, j2.drop, (g3.trans j3).as (by decide) rfl rfl, g5.trans j5, kp.trans j4.tail⟩
  · simp only [if_neg hk] at k1 ⊢
    subst k1
    simp (config := { maxSteps := 2000000 }) -implicitDefEqProofs (disch := (first | omega | rfl | assumption | (simp only [rsD]; first | omega | assumption))) only [e1, Nat.reduceAdd, Nat.reduceMul, Nat.reduceLT, Int.reduceToNat, Int.reduceAdd, Int.reduceSub, Int.reduceMul, rsU, rsC]
    exact Ok_some.2 ⟨rfl, M1, h2.drop, g3.as (by decide) rfl rfl, g5, kp⟩
omit hf in
theorem ssetpointer_ok (hf : M.far 2000) {o : Ob} {hd : Hd} (ho : o.has T L hd) (k x : Int) {kd : Int} (hkd : ∀ σ : AH O, ref_Ref__Kind [.i .u64 x] σ = some (.i .i64 kd, σ)) (hkd3 : kd ≠ 3) : Ok (store_Store__SetPointer [.p (some (.n sb, 0)), .i .u64 o.ref, .i .i64 k, .i .u64 x] σ) fun r => r.1 = .i .i64 (if 0 ≤ k ∧ k < hd.p then 0 else 32) ∧ ∃ M', StoAt r.2 sb nb lb pb mb M' S w (if 0 ≤ k ∧ k < hd.p then setL L o (1 + k.toNat) x else L) (if 0 ≤ k ∧ k < hd.p then setT T o (1 + k.toNat) x else T) X Y ∧ Beh Y M M' 6 0 0 ∧ Tk M M' (if 0 ≤ k ∧ k < hd.p then o.cost + o.cost else o.cost) ∧ Keep X σ r.2 := by
  have hlt := h.lt
  have hn := ho.n
  have e3 : (kd == 3) = false := by simp; exact hkd3
  simp (config := { maxSteps := 2000000 }) -implicitDefEqProofs (disch := (first | omega | rfl | assumption | (simp only [rsD]; first | omega | assumption))) only [store_Store__SetPointer, store_Store__SetPointer_c, Nat.reduceAdd, Nat.reduceMul, Nat.reduceLT, Int.reduceToNat, Int.reduceAdd, Int.reduceSub, Int.reduceMul, rsU, rsC]
  refine Ok.step (sheader_ok h.box (hf.less (by decide)) ho) fun r ⟨g1, M1, g2, g3, g5, g4⟩ => ?_
  obtain ⟨q, σ1⟩ := r
  simp only at g1 g2 g4
  subst g1
  have e0 : ((0 : Int) != 0) = false := rfl
  have e1 : ((32 : Int) != 0) = true := rfl
  have n1 := g4.next
  simp only [rsD] at n1
  simp (config := { maxSteps := 2000000 }) -implicitDefEqProofs (disch := (first | omega | rfl | assumption | (simp only [rsD]; first | omega | assumption))) only [Hd.av, e0, Nat.reduceAdd, Nat.reduceMul, Nat.reduceLT, Int.reduceToNat, Int.reduceAdd, Int.reduceSub, Int.reduceMul, rsU, rsC]
  refine Ok.step (sslot_ok _ ho.ok.p ho.ok.r k) fun r ⟨k1, k2⟩ => ?_
  obtain ⟨q, σ2⟩ := r
  simp only at k1 k2
  have n2 := k2.next
  simp only [rsD] at n2
  have e2 : ∀ b, b < σ1.next → b ≠ σ.next → σ2.blk b = σ1.blk b := fun b hb hm => (k2.blk b (by simp only [rsD]; omega)).trans (by simp -implicitDefEqProofs (disch := omega) only [s_bn, s_bs, s_kn, bump_blk])
  have h2 := g2.fill n2 e2
  have kp : Keep X σ σ2 := ⟨by omega, fun b hb => by have := hlt b hb; rw [e2 b (by omega) (by omega), g4.blk b (by simp [hb])]; rfl⟩
  by_cases hk : 0 ≤ k ∧ k < hd.p
  · simp only [if_pos hk] at k1 ⊢
    subst k1
    obtain ⟨m, rfl⟩ := Int.eq_ofNat_of_zero_le hk.1
    simp (config := { maxSteps := 2000000 }) -implicitDefEqProofs (disch := (first | omega | rfl | assumption | (simp only [rsD]; first | omega | assumption))) only [e0, hkd, e3, Nat.reduceAdd, Nat.reduceMul, Nat.reduceLT, Int.reduceToNat, Int.reduceAdd, Int.reduceSub, Int.reduceMul, rsU, rsC]
    have hw := setword_is h2 (g3.far (hf.less (by decide)) : M1.far 1000) ho.is (k := 1 + m) (by omega) x
    rw [Int.natCast_add] at hw
    refine Ok.step hw fun r ⟨j1, M2, j2, j3, j5, j4⟩ => ?_
    obtain ⟨q, σ3⟩ := r
    simp only at j1 j2 j4
    subst j1
    simp (config := { maxSteps := 2000000 }) -implicitDefEqProofs (disch := (first | omega | rfl | assumption | (simp only [rsD]; first | omega | assumption))) only [Nat.reduceAdd, Nat.reduceMul, Nat.reduceLT, Int.reduceToNat, Int.reduceAdd, Int.reduceSub, Int.reduceMul, rsU, rsC]
    exact Ok_some.2 ⟨rfl, M2, j2.drop, (g3.trans j3).as (by decide) rfl rfl, g5.trans j5, kp.trans j4.tail⟩
  · simp only [if_neg hk] at k1 ⊢
    subst k1
    simp (config := { maxSteps := 2000000 }) -implicitDefEqProofs (disch := (first | omega | rfl | assumption | (simp only [rsD]; first | omega | assumption))) only [e1, Nat.reduceAdd, Nat.reduceMul, Nat.reduceLT, Int.reduceToNat, Int.reduceAdd, Int.reduceSub, Int.reduceMul, rsU, rsC]
    exact Ok_some.2 ⟨rfl, M1, h2.drop, g3.as (by decide) rfl rfl, g5, kp⟩
end
end Go.Abs.Try
set_option linter.unusedSimpArgs false
set_option linter.unusedVariables false
set_option linter.unusedSectionVars false
set_option maxHeartbeats 4000000
namespace Go.Abs.Try
open Go Go.Abs
variable {O : Type}

theorem MemIn.meter {σ : AH O} {mb : Nat} {M : MemS} {X : List Nat} (h : MemIn σ mb M X) : ∃ tb el rest, σ.blk mb = some (.cells true el (.p (some (.n tb, 0)) :: rest)) ∧ MetAt σ tb M.met := by
  obtain ⟨F, h1, _⟩ := h; exact h1.meter
set_option maxRecDepth 100000 in
/-- the page's example, beside a box -/
theorem awake16s (a b : Int) : ∃ σ : AH O, law16_awake (O := O) [] (((startH : AH O).bump 1).put 0 (.cells true 106 [.i .i64 a, .i .i64 b])) = some (.b true, σ) ∧ σ.blk 0 = some (.cells true 106 [.i .i64 a, .i .i64 b]) ∧ 0 < σ.next := by
  have h : (law16_awake (O := O) [] (((startH : AH O).bump 1).put 0 (.cells true 106 [.i .i64 a, .i .i64 b]))).map (fun r => (r.1, r.2.blk 0, Nat.blt 0 r.2.next)) = some (.b true, some (.cells true 106 [.i .i64 a, .i .i64 b]), true) := by kernel_rfl
  obtain ⟨⟨q, σ⟩, e, h⟩ := Option.map_eq_some_iff.1 h
  simp only [Prod.mk.injEq] at h
  obtain ⟨rfl, h2, h3⟩ := h
  exact ⟨σ, e, h2, Nat.le_of_ble_eq_true h3⟩
theorem Tk.rng {M M' : MemS} {o : Ob} {c : Prop} [Decidable c] (h : Tk M M' (if c then o.cost + o.cost else o.cost)) : M.met.r + M.met.w + 1 ≤ M'.met.r + M'.met.w ∧ M'.met.r + M'.met.w ≤ M.met.r + M.met.w + 6 := by
  have := o.cost_le
  unfold Tk at h
  split at h <;> omega
theorem kind_ob (σ : AH O) {sb nb lb pb mb : Nat} {M : MemS} {S : PoolS} {w : List Int} {L : LarS} {T : StoS} {X : List Nat} {Y : List Int} {σ0 : AH O} (h : StoAt σ0 sb nb lb pb mb M S w L T X Y) {o : Ob} (ho : o.is T L) (h1 : 1 ≤ o.n) : ref_Ref__Kind [.i .u64 o.ref] σ = some (.i .i64 (if o.lg then 2 else 1), σ) := by
  unfold Ob.is at ho
  unfold Ob.ref
  have htp := h.toplt
  cases hl : o.lg with
  | false =>
    simp only [hl, Bool.false_eq_true, if_false] at ho ⊢
    exact kind_sm σ (by omega)
  | true =>
    simp only [hl, if_true] at ho ⊢
    obtain ⟨ws, ho, hn⟩ := ho
    exact kind_lg σ (h.oblt ho)
theorem obW_setL {T : StoS} {L : LarS} {o : Ob} (ho : o.is T L) {k m : Nat} (hm : m < o.n) (x : Int) (hk : k ≠ m) : obW (setT T o k x) (setL L o k x) o m = obW T L o m := by
  unfold obW setT setL
  unfold Ob.is at ho
  cases hl : o.lg with
  | false =>
    simp only [hl, Bool.false_eq_true, if_false] at ho ⊢
    rw [List.getD_eq_getElem?_getD, List.getElem?_set_ne (by omega), List.getD_eq_getElem?_getD]
  | true =>
    simp only [hl, if_true] at ho ⊢
    obtain ⟨ws, ho, hn⟩ := ho
    rw [ho]
    simp only [Option.getD_some]
    rw [List.getD_eq_getElem?_getD, List.getElem?_set_ne hk, List.getD_eq_getElem?_getD]
theorem is_set {T : StoS} {L : LarS} {o : Ob} (ho : o.is T L) (k : Nat) (x : Int) : o.is (setT T o k x) (setL L o k x) := by
  unfold setT setL
  unfold Ob.is at ho ⊢
  cases hl : o.lg with
  | false =>
    simp only [hl, Bool.false_eq_true, if_false] at ho ⊢
    exact ho
  | true =>
    simp only [hl, if_true] at ho ⊢
    obtain ⟨ws, ho, hn⟩ := ho
    rw [ho]
    exact ⟨_, rfl, by simp [hn]⟩
theorem Ob.has.set {T : StoS} {L : LarS} {o : Ob} {hd : Hd} (h : o.has T L hd) {k : Nat} (h1 : 1 ≤ k) (x : Int) : o.has (setT T o k x) (setL L o k x) hd :=
  ⟨is_set h.is k x, h.n, by rw [obW_setL h.is (by have := h.n; omega) x (by omega)]; exact h.w, h.ok⟩
theorem Ob.has.setIf {T : StoS} {L : LarS} {o : Ob} {hd : Hd} (h : o.has T L hd) {c : Prop} [Decidable c] {k : Nat} (h1 : 1 ≤ k) (x : Int) : o.has (if c then setT T o k x else T) (if c then setL L o k x else L) hd := by
  by_cases hc : c
  · simp only [if_pos hc]; exact h.set h1 x
  · simp only [if_neg hc]; exact h
/-- what a new store of this law makes -/
theorem make_one {σ : AH O} {sb nb lb pb mb : Nat} {M : MemS} {X : List Nat} (h : StoAt σ sb nb lb pb mb M ⟨1, 5, 0, [], [], 0⟩ [] ⟨[], [], 0, 0, 0, fun _ => none⟩ ⟨0, List.replicate (20 : Int).toNat 0, 0, [.i .i64 0, .i .i64 0, .b false], 8⟩ X []) (hf : M.far 3000) (hc : M.count = 2) {p r s : Nat} (hp : p ≤ 300) (hr : r ≤ 300) (hs : s < 32) :
    Ok (store_Store__Make [.p (some (.n sb, 0)), .agg [.i .i64 (p : Int), .i .i64 (r : Int)], .i .i64 (s : Int)] σ) fun q => ∃ (o : Ob) (hd : Hd), q.1 = .tup [.i .u64 o.ref, .i .i64 0] ∧ ∃ M' S' w' L' T' a b, StoAt q.2 sb nb lb pb mb M' S' w' L' T' X [] ∧ o.has T' L' hd ∧ Beh [] M M' 27 a b ∧ Keep X σ q.2 := by
  by_cases hsm : 1 + p + r ≤ 8
  · refine (smake_near h (hf.less (by decide)) (p := p) (r := r) (s := s) (by omega) (by omega) hs (by simp only; omega) (by simp; omega) (by decide)).mono fun q ⟨g1, M', g2, g3, g4⟩ => ⟨⟨false, 0, 1 + p + r⟩, newHd p r s 8, g1, M', _, _, _, _, 0, 0, g2, ⟨?_, ?_, ?_, newHd_ok (by omega) (by omega) hs⟩, g3.as (by decide) rfl rfl, g4⟩
    · show 0 + (1 + p + r) ≤ 0 + (1 + p + r); omega
    · rfl
    · show (List.set (List.replicate (20 : Int).toNat (0 : Int)) 0 _).getD (0 + 0) 0 = _
      rfl
  · refine (smake_far h (hf.less (by decide)) (p := p) (r := r) (s := s) (by omega) (by omega) hs (by simp only; omega) (by omega) (by decide)).mono fun q ⟨g1, g0, M', S', w', L', g2, g3, g4, g5, g6⟩ => ⟨⟨true, _, 1 + p + r⟩, newHd p r s 8, g1, M', _, _, _, _, _, _, g2, ⟨?_, ?_, ?_, newHd_ok (by omega) (by omega) hs⟩, g5, g6⟩
    · show ∃ ws, L'.ob _ = some ws ∧ ws.length = 1 + p + r
      rw [g3]
      exact ⟨_, if_pos rfl, by simp⟩
    · rfl
    · show ((L'.ob _).getD []).getD 0 0 = _
      rw [g3]
      simp only [if_true, Option.getD_some]
      rw [show 1 + p + r = (p + r) + 1 by omega, List.replicate_succ]
      rfl
theorem ok_toFar {M : MemS} (hok : M.ok) {k : Int} (h : M.met.r + M.met.w ≤ k) (hk : k ≤ 1000000) : M.far 3000 := by
  obtain ⟨h1, h2⟩ := hok.met
  constructor <;> omega
theorem wcs_tiny {t : Int} (h : 0 ≤ t ∧ t < 18446744073709551616) : wcs t = [.i .u64 0, .i .u64 t] := by
  unfold wcs; rw [show t / 18446744073709551616 = 0 by omega, show t % 18446744073709551616 = t by omega]
theorem tick {σ : AH O} {b : Nat} {M : MemS} (h : MetAt σ b M.met) (hok : M.ok) (ht : M.met.r + M.met.w < 18446744073709551616) : Ok (meter_Meter__Steps [.p (some (.n b, 0))] σ) fun r => r.1 = .agg [.i .u64 0, .i .u64 (M.met.r + M.met.w)] ∧ Ext σ r.2 := by
  have h1 := hok.met.r
  have h2 := hok.met.w
  have := steps_ok h hok.met
  rw [wcs_tiny (by omega)] at this
  exact this
theorem ok_toFar' {M : MemS} (hok : M.ok) (h : M.met.r + M.met.w ≤ 1000000) : M.far 2900 := by
  obtain ⟨h1, h2⟩ := hok.met
  constructor <;> omega
theorem storeSteps_ok {p r s k : Int} (hs : -9223372036854775808 ≤ s ∧ s ≤ 9223372036854775807) : Ok (law16_StoreSteps (O := O) [.agg [.i .i64 p, .i .i64 r], .i .i64 s, .i .i64 k] startH) fun r => r.1 = .b true := by
  obtain ⟨σ1, ea, hb0, hn0⟩ := awake16s (O := O) p r
  have st : (startH : AH O).next = 0 := rfl
  have e0 : ((0 : Int) != 0) = false := rfl
  by_cases hbig : (p > 300 ∧ p < 4096) ∨ (r > 300 ∧ r < 4096)
  · have hc : (bif !(bif decide (p > 300) then decide (p < 4096) else false) then (bif decide (r > 300) then decide (r < 4096) else false) else true) = true := by
      by_cases a : p > 300 <;> by_cases b : p < 4096 <;> by_cases c : r > 300 <;> by_cases d : r < 4096 <;> simp_all <;> omega
    simp (config := { maxSteps := 2000000 }) -implicitDefEqProofs (disch := (first | omega | rfl | assumption | (simp only [rsD]; first | omega | assumption))) only [law16_StoreSteps, law16_StoreSteps_c, st, ea, hb0, hc, Nat.reduceAdd, Nat.reduceMul, Nat.reduceLT, Int.reduceToNat, Int.reduceAdd, Int.reduceSub, Int.reduceMul, rsU, rsC]
    exact Ok_some.2 rfl
  · have hc : (bif !(bif decide (p > 300) then decide (p < 4096) else false) then (bif decide (r > 300) then decide (r < 4096) else false) else true) = false := by
      by_cases a : p > 300 <;> by_cases b : p < 4096 <;> by_cases c : r > 300 <;> by_cases d : r < 4096 <;> simp_all <;> omega
    simp (config := { maxSteps := 2000000 }) -implicitDefEqProofs (disch := (first | omega | rfl | assumption | (simp only [rsD]; first | omega | assumption))) only [law16_StoreSteps, law16_StoreSteps_c, st, ea, hb0, hc, Nat.reduceAdd, Nat.reduceMul, Nat.reduceLT, Int.reduceToNat, Int.reduceAdd, Int.reduceSub, Int.reduceMul, rsU, rsC]
    refine Ok.step (snew_ok (X := [0]) (σ := σ1) (by simpa using hn0) (small := 8) (words := 20) (by decide) (by decide)) fun q ⟨sb, nb, lb, pb, mb, M, S, g1, g2, g3, g4, g5, g6, _, g7⟩ => ?_
    obtain ⟨q, σ2⟩ := q
    simp only at g1 g2 g7
    subst g1
    subst g3
    have hb2 := (g7.blk 0 (by simp)).trans hb0
    obtain ⟨el, hsb⟩ := g2.s
    simp (config := { maxSteps := 2000000 }) -implicitDefEqProofs (disch := (first | omega | rfl | assumption | (simp only [rsD]; first | omega | assumption))) only [e0, store_Store__Mem, store_Store__Mem_c, hsb, hb2, Nat.reduceAdd, Nat.reduceMul, Nat.reduceLT, Int.reduceToNat, Int.reduceAdd, Int.reduceSub, Int.reduceMul, rsU, rsC]
    have hf : M.far 3000 := ok_toFar g2.l.p.mi.ok (k := 0) (by omega) (by decide)
    have c30 : wcs 30 = [.i .u64 0, .i .u64 30] := rfl
    have hf0 : 0 ≤ M.met.r + M.met.w := by omega
    by_cases hcc : chkOf p r s 0 = 0
    · obtain ⟨c1, c2⟩ : (0 ≤ p ∧ p ≤ 4095) ∧ (0 ≤ r ∧ r ≤ 4095) := by
        unfold chkOf at hcc; split at hcc
        · cases hcc
        · omega
      have c3 : 0 ≤ s ∧ s ≤ 31 := by
        unfold chkOf at hcc; rw [if_neg (by omega)] at hcc; split at hcc
        · cases hcc
        · omega
      obtain ⟨p, rfl⟩ := Int.eq_ofNat_of_zero_le c1.1
      obtain ⟨r, rfl⟩ := Int.eq_ofNat_of_zero_le c2.1
      obtain ⟨s, rfl⟩ := Int.eq_ofNat_of_zero_le c3.1
      refine Ok.step (make_one g2 hf g4 (p := p) (r := r) (s := s) (by omega) (by omega) (by omega)) fun q ⟨o, hd, k1, M1, S1, w1, L1, T1, d1, d2, k2, ho, k3, k4⟩ => ?_
      obtain ⟨q, σ3⟩ := q
      simp only at k1 k2 k4
      subst k1
      obtain ⟨tb, el1, rest, hmb, hmt⟩ := k2.l.p.mi.meter
      have r1 : 0 ≤ M1.met.r + M1.met.w ∧ M1.met.r + M1.met.w ≤ 27 := by have := k3.k; have := k3.r; have := k3.w; omega
      generalize hm1 : M1.met.r + M1.met.w = t0 at r1
      simp (config := { maxSteps := 2000000 }) -implicitDefEqProofs (disch := (first | omega | rfl | assumption | (simp only [rsD]; first | omega | assumption))) only [hmb, Nat.reduceAdd, Nat.reduceMul, Nat.reduceLT, Int.reduceToNat, Int.reduceAdd, Int.reduceSub, Int.reduceMul, rsU, rsC]
      refine Ok.step (steps_ok hmt k2.l.p.mi.ok.met) fun q ⟨j1, j2⟩ => ?_
      obtain ⟨q, σ4⟩ := q
      simp only at j1 j2
      rw [hm1] at j1
      subst j1
      simp (config := { maxSteps := 2000000 }) -implicitDefEqProofs (disch := (first | omega | rfl | assumption | (simp only [rsD]; first | omega | assumption))) only [wcs, Nat.reduceAdd, Nat.reduceMul, Nat.reduceLT, Int.reduceToNat, Int.reduceAdd, Int.reduceSub, Int.reduceMul, rsU, rsC]
      have hcmp := rcmp_le (σ := σ4) (a := t0) (b := 30) r1.1 (by omega) (by decide)
      rw [c30] at hcmp
      simp only [wcs] at hcmp
      refine Ok.step hcmp fun q ⟨⟨n, j3, j4⟩, j5⟩ => ?_
      obtain ⟨q, σ5⟩ := q
      simp only at j3 j5
      subst j3
      have h5 := (k2.ext j2).ext j5
      obtain ⟨tb5, el5, rest5, hmb5, hmt5⟩ := h5.l.p.mi.meter
      have hmlt := hmt5.lt
      simp (config := { maxSteps := 2000000 }) -implicitDefEqProofs (disch := (first | omega | rfl | assumption | (simp only [rsD]; first | omega | assumption))) only [decide_eq_false (show ¬ (n > 0) by omega), e0, hmb5, Nat.reduceAdd, Nat.reduceMul, Nat.reduceLT, Int.reduceToNat, Int.reduceAdd, Int.reduceSub, Int.reduceMul, rsU, rsC]
      have ho1 := ho
      have f1 : M1.far 2900 := ok_toFar' h5.l.p.mi.ok (by omega)
      generalize hσ : (σ5.bump 1).put σ5.next _ = σ6
      have h6 : StoAt σ6 sb nb lb pb mb M1 S1 w1 L1 T1 (σ5.next :: [0]) [] := by
        rw [← hσ]; exact h5.box.fill (by simp) (fun b h1 h2 => by simp -implicitDefEqProofs (disch := omega) only [s_bn, s_bs, s_kn, bump_blk])
      have b6 : ∃ el, σ6.blk σ5.next = some (.cells true el [.i .u64 0, .i .u64 0, .i .u64 0, .i .u64 0, .i .u64 0, .i .u64 0, .i .u64 0, .i .u64 0, .i .u64 0, .i .u64 0, .i .u64 0, .i .u64 0]) := by rw [← hσ]; exact ⟨_, s_bs⟩
      clear hσ
      obtain ⟨el6, b6⟩ := b6
      obtain ⟨tb6, elm6, rest6, hmb6, hmt6⟩ := h6.l.p.mi.meter
      simp (config := { maxSteps := 2000000 }) -implicitDefEqProofs (disch := (first | omega | rfl | assumption | (simp only [rsD]; first | omega | assumption))) only [hmb6, Nat.reduceAdd, Nat.reduceMul, Nat.reduceLT, Int.reduceToNat, Int.reduceAdd, Int.reduceSub, Int.reduceMul, rsU, rsC]
      refine Ok.step (tick hmt6 h6.l.p.mi.ok (by omega)) fun q ⟨j1, j2⟩ => ?_
      obtain ⟨q, σ7⟩ := q
      simp only at j1 j2
      rw [hm1] at j1
      subst j1
      have b7 := (j2.blk _ (h6.lt _ (by simp))).trans b6
      simp (config := { maxSteps := 2000000 }) -implicitDefEqProofs (disch := (first | omega | rfl | assumption | (simp only [rsD]; first | omega | assumption))) only [b7, Nat.reduceAdd, Nat.reduceMul, Nat.reduceLT, Int.reduceToNat, Int.reduceAdd, Int.reduceSub, Int.reduceMul, rsU, rsC]
      generalize hσ : σ7.put σ5.next _ = σ8
      have h8 : StoAt σ8 sb nb lb pb mb M1 S1 w1 L1 T1 (σ5.next :: [0]) [] := by
        rw [← hσ]; exact (h6.ext j2).fill (by simp) (fun b h1 h2 => s_bn h2)
      have b8 : σ8.blk σ5.next = some (.cells true el6 [.i .u64 0, .i .u64 t0, .i .u64 0, .i .u64 0, .i .u64 0, .i .u64 0, .i .u64 0, .i .u64 0, .i .u64 0, .i .u64 0, .i .u64 0, .i .u64 0]) := by rw [← hσ]; exact s_bs
      clear hσ
      refine Ok.step (sheader_ok h8 (f1.less (by decide)) ho1) fun q ⟨g1, M2, g2, g3, g5, g4⟩ => ?_
      obtain ⟨q, σ9⟩ := q
      simp only at g1 g2 g4
      subst g1
      obtain ⟨L2, hL⟩ : ∃ L', L' = L1 := ⟨_, rfl⟩
      obtain ⟨T2, hT⟩ : ∃ T', T' = T1 := ⟨_, rfl⟩
      rw [← hL, ← hT] at g2
      have ho2 : o.has T2 L2 hd := by rw [hL, hT]; exact ho1
      have tk : M1.met.r + M1.met.w + 1 ≤ M2.met.r + M2.met.w ∧ M2.met.r + M2.met.w ≤ M1.met.r + M1.met.w + 6 := by have := o.cost_le; unfold Tk at g5; omega
      have v9 := Hd.av
      have h9 := g2
      have f2 := g3.far (d := 2890) (f1.less (by decide))
      have b9 := (g4.blk _ (by simp)).trans b8
      generalize hgen : M2.met.r + M2.met.w = t1 at tk
      rw [hm1] at tk
      have hm2 := hgen
      clear hgen hL hT
      obtain ⟨tb9, elm9, rest9, hmb9, hmt9⟩ := h9.l.p.mi.meter
      simp (config := { maxSteps := 2000000 }) -implicitDefEqProofs (disch := (first | omega | rfl | assumption | (simp only [rsD]; first | omega | assumption))) only [hmb9, Hd.av, Nat.reduceAdd, Nat.reduceMul, Nat.reduceLT, Int.reduceToNat, Int.reduceAdd, Int.reduceSub, Int.reduceMul, rsU, rsC]
      refine Ok.step (tick hmt9 h9.l.p.mi.ok (by omega)) fun q ⟨j1, j2⟩ => ?_
      obtain ⟨q, σ10⟩ := q
      simp only at j1 j2
      rw [hm2] at j1
      subst j1
      have b10 := (j2.blk _ (h9.lt _ (by simp))).trans b9
      simp (config := { maxSteps := 2000000 }) -implicitDefEqProofs (disch := (first | omega | rfl | assumption | (simp only [rsD]; first | omega | assumption))) only [b10, Nat.reduceAdd, Nat.reduceMul, Nat.reduceLT, Int.reduceToNat, Int.reduceAdd, Int.reduceSub, Int.reduceMul, rsU, rsC]
      have tk1 := tk
      clear tk
      generalize hσ : σ10.put σ5.next _ = σ11
      have h11 : StoAt σ11 sb nb lb pb mb M2 S1 w1 L2 T2 (σ5.next :: [0]) [] := by
        rw [← hσ]; exact (h9.ext j2).fill (by simp) (fun b h1 h2 => s_bn h2)
      have b11 : σ11.blk σ5.next = some (.cells true el6 [.i .u64 0, .i .u64 t0, .i .u64 0, .i .u64 t1, .i .u64 0, .i .u64 0, .i .u64 0, .i .u64 0, .i .u64 0, .i .u64 0, .i .u64 0, .i .u64 0]) := by rw [← hσ]; exact s_bs
      clear hσ
      refine Ok.step (spointer_ok h11 (f2.less (by decide)) ho2 k) fun q ⟨g1, M3, g2, g3, g5, g4⟩ => ?_
      obtain ⟨q, σ12⟩ := q
      simp only at g1 g2 g4
      obtain ⟨y2, z2, hy⟩ : ∃ y z : Int, q = .tup [.i .u64 y, .i .i64 z] := by
        rw [g1]; split
        · exact ⟨_, _, rfl⟩
        · exact ⟨_, _, rfl⟩
      clear g1
      subst hy
      obtain ⟨L3, hL⟩ : ∃ L', L' = L2 := ⟨_, rfl⟩
      obtain ⟨T3, hT⟩ : ∃ T', T' = T2 := ⟨_, rfl⟩
      rw [← hL, ← hT] at g2
      have ho3 : o.has T3 L3 hd := by rw [hL, hT]; exact ho2
      have tk := g5.rng
      have h12 := g2
      have f3 := g3.far (d := 2880) (f2.less (by decide))
      have b12 := (g4.blk _ (by simp)).trans b11
      generalize hgen : M3.met.r + M3.met.w = t2 at tk
      rw [hm2] at tk
      have hm3 := hgen
      clear hgen hL hT
      obtain ⟨tb12, elm12, rest12, hmb12, hmt12⟩ := h12.l.p.mi.meter
      simp (config := { maxSteps := 2000000 }) -implicitDefEqProofs (disch := (first | omega | rfl | assumption | (simp only [rsD]; first | omega | assumption))) only [hmb12, Nat.reduceAdd, Nat.reduceMul, Nat.reduceLT, Int.reduceToNat, Int.reduceAdd, Int.reduceSub, Int.reduceMul, rsU, rsC]
      refine Ok.step (tick hmt12 h12.l.p.mi.ok (by omega)) fun q ⟨j1, j2⟩ => ?_
      obtain ⟨q, σ13⟩ := q
      simp only at j1 j2
      rw [hm3] at j1
      subst j1
      have b13 := (j2.blk _ (h12.lt _ (by simp))).trans b12
      simp (config := { maxSteps := 2000000 }) -implicitDefEqProofs (disch := (first | omega | rfl | assumption | (simp only [rsD]; first | omega | assumption))) only [b13, Nat.reduceAdd, Nat.reduceMul, Nat.reduceLT, Int.reduceToNat, Int.reduceAdd, Int.reduceSub, Int.reduceMul, rsU, rsC]
      have tk2 := tk
      clear tk
      generalize hσ : σ13.put σ5.next _ = σ14
      have h14 : StoAt σ14 sb nb lb pb mb M3 S1 w1 L3 T3 (σ5.next :: [0]) [] := by
        rw [← hσ]; exact (h12.ext j2).fill (by simp) (fun b h1 h2 => s_bn h2)
      have b14 : σ14.blk σ5.next = some (.cells true el6 [.i .u64 0, .i .u64 t0, .i .u64 0, .i .u64 t1, .i .u64 0, .i .u64 t2, .i .u64 0, .i .u64 0, .i .u64 0, .i .u64 0, .i .u64 0, .i .u64 0]) := by rw [← hσ]; exact s_bs
      clear hσ
      refine Ok.step (ssetpointer_ok h14 (f3.less (by decide)) ho3 k (o.ref : Int) (kd := if o.lg then 2 else 1) (fun σ' => kind_ob σ' k2 ho.is (by have := ho.n; omega)) (by split <;> decide)) fun q ⟨g1, M4, g2, g3, g5, g4⟩ => ?_
      obtain ⟨q, σ15⟩ := q
      simp only at g1 g2 g4
      subst g1
      obtain ⟨L4, hL⟩ : ∃ L', L' = (if 0 ≤ k ∧ k < hd.p then setL L3 o (1 + k.toNat) o.ref else L3) := ⟨_, rfl⟩
      obtain ⟨T4, hT⟩ : ∃ T', T' = (if 0 ≤ k ∧ k < hd.p then setT T3 o (1 + k.toNat) o.ref else T3) := ⟨_, rfl⟩
      rw [← hL, ← hT] at g2
      have ho4 : o.has T4 L4 hd := by rw [hL, hT]; exact ho3.setIf (by omega) _
      have tk := g5.rng
      have h15 := g2
      have f4 := g3.far (d := 2870) (f3.less (by decide))
      have b15 := (g4.blk _ (by simp)).trans b14
      generalize hgen : M4.met.r + M4.met.w = t3 at tk
      rw [hm3] at tk
      have hm4 := hgen
      clear hgen hL hT
      obtain ⟨tb15, elm15, rest15, hmb15, hmt15⟩ := h15.l.p.mi.meter
      simp (config := { maxSteps := 2000000 }) -implicitDefEqProofs (disch := (first | omega | rfl | assumption | (simp only [rsD]; first | omega | assumption))) only [hmb15, Nat.reduceAdd, Nat.reduceMul, Nat.reduceLT, Int.reduceToNat, Int.reduceAdd, Int.reduceSub, Int.reduceMul, rsU, rsC]
      refine Ok.step (tick hmt15 h15.l.p.mi.ok (by omega)) fun q ⟨j1, j2⟩ => ?_
      obtain ⟨q, σ16⟩ := q
      simp only at j1 j2
      rw [hm4] at j1
      subst j1
      have b16 := (j2.blk _ (h15.lt _ (by simp))).trans b15
      simp (config := { maxSteps := 2000000 }) -implicitDefEqProofs (disch := (first | omega | rfl | assumption | (simp only [rsD]; first | omega | assumption))) only [b16, Nat.reduceAdd, Nat.reduceMul, Nat.reduceLT, Int.reduceToNat, Int.reduceAdd, Int.reduceSub, Int.reduceMul, rsU, rsC]
      have tk3 := tk
      clear tk
      generalize hσ : σ16.put σ5.next _ = σ17
      have h17 : StoAt σ17 sb nb lb pb mb M4 S1 w1 L4 T4 (σ5.next :: [0]) [] := by
        rw [← hσ]; exact (h15.ext j2).fill (by simp) (fun b h1 h2 => s_bn h2)
      have b17 : σ17.blk σ5.next = some (.cells true el6 [.i .u64 0, .i .u64 t0, .i .u64 0, .i .u64 t1, .i .u64 0, .i .u64 t2, .i .u64 0, .i .u64 t3, .i .u64 0, .i .u64 0, .i .u64 0, .i .u64 0]) := by rw [← hσ]; exact s_bs
      clear hσ
      refine Ok.step (sraw_ok h17 (f4.less (by decide)) ho4 k) fun q ⟨g1, M5, g2, g3, g5, g4⟩ => ?_
      obtain ⟨q, σ18⟩ := q
      simp only at g1 g2 g4
      obtain ⟨y4, z4, hy⟩ : ∃ y z : Int, q = .tup [.i .u64 y, .i .i64 z] := by
        rw [g1]; split
        · exact ⟨_, _, rfl⟩
        · exact ⟨_, _, rfl⟩
      clear g1
      subst hy
      obtain ⟨L5, hL⟩ : ∃ L', L' = L4 := ⟨_, rfl⟩
      obtain ⟨T5, hT⟩ : ∃ T', T' = T4 := ⟨_, rfl⟩
      rw [← hL, ← hT] at g2
      have ho5 : o.has T5 L5 hd := by rw [hL, hT]; exact ho4
      have tk := g5.rng
      have h18 := g2
      have f5 := g3.far (d := 2860) (f4.less (by decide))
      have b18 := (g4.blk _ (by simp)).trans b17
      generalize hgen : M5.met.r + M5.met.w = t4 at tk
      rw [hm4] at tk
      have hm5 := hgen
      clear hgen hL hT
      obtain ⟨tb18, elm18, rest18, hmb18, hmt18⟩ := h18.l.p.mi.meter
      simp (config := { maxSteps := 2000000 }) -implicitDefEqProofs (disch := (first | omega | rfl | assumption | (simp only [rsD]; first | omega | assumption))) only [hmb18, Nat.reduceAdd, Nat.reduceMul, Nat.reduceLT, Int.reduceToNat, Int.reduceAdd, Int.reduceSub, Int.reduceMul, rsU, rsC]
      refine Ok.step (tick hmt18 h18.l.p.mi.ok (by omega)) fun q ⟨j1, j2⟩ => ?_
      obtain ⟨q, σ19⟩ := q
      simp only at j1 j2
      rw [hm5] at j1
      subst j1
      have b19 := (j2.blk _ (h18.lt _ (by simp))).trans b18
      simp (config := { maxSteps := 2000000 }) -implicitDefEqProofs (disch := (first | omega | rfl | assumption | (simp only [rsD]; first | omega | assumption))) only [b19, Nat.reduceAdd, Nat.reduceMul, Nat.reduceLT, Int.reduceToNat, Int.reduceAdd, Int.reduceSub, Int.reduceMul, rsU, rsC]
      have tk4 := tk
      clear tk
      generalize hσ : σ19.put σ5.next _ = σ20
      have h20 : StoAt σ20 sb nb lb pb mb M5 S1 w1 L5 T5 (σ5.next :: [0]) [] := by
        rw [← hσ]; exact (h18.ext j2).fill (by simp) (fun b h1 h2 => s_bn h2)
      have b20 : σ20.blk σ5.next = some (.cells true el6 [.i .u64 0, .i .u64 t0, .i .u64 0, .i .u64 t1, .i .u64 0, .i .u64 t2, .i .u64 0, .i .u64 t3, .i .u64 0, .i .u64 t4, .i .u64 0, .i .u64 0]) := by rw [← hσ]; exact s_bs
      clear hσ
      refine Ok.step (ssetraw_ok h20 (f5.less (by decide)) ho5 k 5) fun q ⟨g1, M6, g2, g3, g5, g4⟩ => ?_
      obtain ⟨q, σ21⟩ := q
      simp only at g1 g2 g4
      subst g1
      obtain ⟨L6, hL⟩ : ∃ L', L' = (if 0 ≤ k ∧ k < hd.r then setL L5 o (1 + hd.p + k.toNat) 5 else L5) := ⟨_, rfl⟩
      obtain ⟨T6, hT⟩ : ∃ T', T' = (if 0 ≤ k ∧ k < hd.r then setT T5 o (1 + hd.p + k.toNat) 5 else T5) := ⟨_, rfl⟩
      rw [← hL, ← hT] at g2
      have ho6 : o.has T6 L6 hd := by rw [hL, hT]; exact ho5.setIf (by omega) _
      have tk := g5.rng
      have h21 := g2
      have f6 := g3.far (d := 2850) (f5.less (by decide))
      have b21 := (g4.blk _ (by simp)).trans b20
      generalize hgen : M6.met.r + M6.met.w = t5 at tk
      rw [hm5] at tk
      have hm6 := hgen
      clear hgen hL hT
      obtain ⟨tb21, elm21, rest21, hmb21, hmt21⟩ := h21.l.p.mi.meter
      simp (config := { maxSteps := 2000000 }) -implicitDefEqProofs (disch := (first | omega | rfl | assumption | (simp only [rsD]; first | omega | assumption))) only [hmb21, Nat.reduceAdd, Nat.reduceMul, Nat.reduceLT, Int.reduceToNat, Int.reduceAdd, Int.reduceSub, Int.reduceMul, rsU, rsC]
      refine Ok.step (tick hmt21 h21.l.p.mi.ok (by omega)) fun q ⟨j1, j2⟩ => ?_
      obtain ⟨q, σ22⟩ := q
      simp only at j1 j2
      rw [hm6] at j1
      subst j1
      have b22 := (j2.blk _ (h21.lt _ (by simp))).trans b21
      simp (config := { maxSteps := 2000000 }) -implicitDefEqProofs (disch := (first | omega | rfl | assumption | (simp only [rsD]; first | omega | assumption))) only [b22, Nat.reduceAdd, Nat.reduceMul, Nat.reduceLT, Int.reduceToNat, Int.reduceAdd, Int.reduceSub, Int.reduceMul, rsU, rsC]
      have tk5 := tk
      clear tk
      generalize hσ : σ22.put σ5.next _ = σe
      have be : σe.blk σ5.next = some (.cells true el6 [.i .u64 0, .i .u64 t0, .i .u64 0, .i .u64 t1, .i .u64 0, .i .u64 t2, .i .u64 0, .i .u64 t3, .i .u64 0, .i .u64 t4, .i .u64 0, .i .u64 t5]) := by rw [← hσ]; exact s_bs
      clear hσ
      have u0 : IntKind.u64.wrap (t1 - t0) = t1 - t0 := s_u64 (by omega)
      have d0 := decide_eq_false (show ¬ (t1 - t0 > 8) by omega)
      have q0 := s_eqF (show t1 ≠ t0 by omega)
      have u1 : IntKind.u64.wrap (t2 - t1) = t2 - t1 := s_u64 (by omega)
      have d1 := decide_eq_false (show ¬ (t2 - t1 > 8) by omega)
      have q1 := s_eqF (show t2 ≠ t1 by omega)
      have u2 : IntKind.u64.wrap (t3 - t2) = t3 - t2 := s_u64 (by omega)
      have d2 := decide_eq_false (show ¬ (t3 - t2 > 8) by omega)
      have q2 := s_eqF (show t3 ≠ t2 by omega)
      have u3 : IntKind.u64.wrap (t4 - t3) = t4 - t3 := s_u64 (by omega)
      have d3 := decide_eq_false (show ¬ (t4 - t3 > 8) by omega)
      have q3 := s_eqF (show t4 ≠ t3 by omega)
      have u4 : IntKind.u64.wrap (t5 - t4) = t5 - t4 := s_u64 (by omega)
      have d4 := decide_eq_false (show ¬ (t5 - t4 > 8) by omega)
      have q4 := s_eqF (show t5 ≠ t4 by omega)
      rw [loopF_eq]
      simp (config := { maxSteps := 2000000 }) -implicitDefEqProofs (disch := (first | omega | rfl | assumption | (simp only [rsD]; first | omega | assumption))) only [law16_StoreSteps_L1, be, u0, d0, q0, eq_self, Nat.reduceAdd, Nat.reduceMul, Nat.reduceLT, Int.reduceToNat, Int.reduceAdd, Int.reduceSub, Int.reduceMul, rsU, rsC]
      rw [loopF_eq]
      simp (config := { maxSteps := 2000000 }) -implicitDefEqProofs (disch := (first | omega | rfl | assumption | (simp only [rsD]; first | omega | assumption))) only [law16_StoreSteps_L1, be, u1, d1, q1, eq_self, Nat.reduceAdd, Nat.reduceMul, Nat.reduceLT, Int.reduceToNat, Int.reduceAdd, Int.reduceSub, Int.reduceMul, rsU, rsC]
      rw [loopF_eq]
      simp (config := { maxSteps := 2000000 }) -implicitDefEqProofs (disch := (first | omega | rfl | assumption | (simp only [rsD]; first | omega | assumption))) only [law16_StoreSteps_L1, be, u2, d2, q2, eq_self, Nat.reduceAdd, Nat.reduceMul, Nat.reduceLT, Int.reduceToNat, Int.reduceAdd, Int.reduceSub, Int.reduceMul, rsU, rsC]
      rw [loopF_eq]
      simp (config := { maxSteps := 2000000 }) -implicitDefEqProofs (disch := (first | omega | rfl | assumption | (simp only [rsD]; first | omega | assumption))) only [law16_StoreSteps_L1, be, u3, d3, q3, eq_self, Nat.reduceAdd, Nat.reduceMul, Nat.reduceLT, Int.reduceToNat, Int.reduceAdd, Int.reduceSub, Int.reduceMul, rsU, rsC]
      rw [loopF_eq]
      simp (config := { maxSteps := 2000000 }) -implicitDefEqProofs (disch := (first | omega | rfl | assumption | (simp only [rsD]; first | omega | assumption))) only [law16_StoreSteps_L1, be, u4, d4, q4, eq_self, Nat.reduceAdd, Nat.reduceMul, Nat.reduceLT, Int.reduceToNat, Int.reduceAdd, Int.reduceSub, Int.reduceMul, rsU, rsC]
      rw [loopF_eq]
      simp (config := { maxSteps := 2000000 }) -implicitDefEqProofs (disch := (first | omega | rfl | assumption | (simp only [rsD]; first | omega | assumption))) only [law16_StoreSteps_L1, be, Nat.reduceAdd, Nat.reduceMul, Nat.reduceLT, Int.reduceToNat, Int.reduceAdd, Int.reduceSub, Int.reduceMul, rsU, rsC]
      exact Ok_some.2 rfl
    · refine Ok.step (smake_bad g2 (p := p) (r := r) (s := s) hcc) fun q ⟨k1, k2⟩ => ?_
      obtain ⟨q, σ3⟩ := q
      simp only at k1 k2
      subst k1
      have h3 := g2.ext k2
      obtain ⟨tb, el1, rest, hmb, hmt⟩ := h3.l.p.mi.meter
      simp (config := { maxSteps := 2000000 }) -implicitDefEqProofs (disch := (first | omega | rfl | assumption | (simp only [rsD]; first | omega | assumption))) only [hmb, Nat.reduceAdd, Nat.reduceMul, Nat.reduceLT, Int.reduceToNat, Int.reduceAdd, Int.reduceSub, Int.reduceMul, rsU, rsC]
      refine Ok.step (tick hmt h3.l.p.mi.ok (by omega)) fun q ⟨j1, j2⟩ => ?_
      obtain ⟨q, σ4⟩ := q
      simp only at j1 j2
      subst j1
      simp (config := { maxSteps := 2000000 }) -implicitDefEqProofs (disch := (first | omega | rfl | assumption | (simp only [rsD]; first | omega | assumption))) only [Nat.reduceAdd, Nat.reduceMul, Nat.reduceLT, Int.reduceToNat, Int.reduceAdd, Int.reduceSub, Int.reduceMul, rsU, rsC]
      have hcmp := rcmp_le (σ := σ4) (a := M.met.r + M.met.w) (b := 30) (by omega) (by omega) (by decide)
      rw [c30, wcs_tiny (by omega)] at hcmp
      refine Ok.step hcmp fun q ⟨⟨n, j3, j4⟩, j5⟩ => ?_
      obtain ⟨q, σ5⟩ := q
      simp only at j3 j5
      subst j3
      have hz : (chkOf p r s 0 != 0) = true := by simp [hcc]
      have hz2 : (chkOf p r s 0 == 0) = false := by simp [hcc]
      simp (config := { maxSteps := 2000000 }) -implicitDefEqProofs (disch := (first | omega | rfl | assumption | (simp only [rsD]; first | omega | assumption))) only [decide_eq_false (show ¬ (n > 0) by omega), hz, hz2, beq_self_eq_true, Nat.reduceAdd, Nat.reduceMul, Nat.reduceLT, Int.reduceToNat, Int.reduceAdd, Int.reduceSub, Int.reduceMul, rsU, rsC]
      exact Ok_some.2 rfl
end Go.Abs.Try
