/-
  Trees of plain data: what stands for them in a heap, frozen or owned. No conditions.
-/
import Derived.Test.YtgmffmgbaelohaaAbsSl
import Derived.Test.YtgmffmgbaelohaaM10
set_option linter.unusedVariables false
set_option linter.unusedSimpArgs false
set_option linter.constructorNameAsVariable false
namespace Go.Abs
open Go
variable {O : Type}
inductive TV where
 | lf (v : AV)
 | sl (el es n : Nat) (cs : List TV)
mutual
inductive Im : TV -> AV -> Prop
 | lf {v : AV} (h : v.flat = true) : Im (.lf v) v
 | sl {el es n : Nat} {cs : List TV} {a : SA} {vs : List AV} (h : Imm es a n vs) (hc : ImL cs vs) : Im (.sl el es n cs) (.sl a n)
inductive ImL : List TV -> List AV -> Prop
 | nil : ImL [] []
 | cons {t : TV} {v : AV} {ts : List TV} {vs : List AV} (h : Im t v) (hc : ImL ts vs) : ImL (t :: ts) (v :: vs)
end
mutual
inductive Ow (J : AH O) : TV -> AV -> List Nat -> Prop
 | im {t : TV} {v : AV} (h : Im t v) : Ow J t v []
 | sl {el es n : Nat} {cs : List TV} {a : SA} {vs : List AV} {L : List Nat} (h : OwnS J el es a n vs) (hc : OwL J cs vs L) (hd : ∀ b ∈ SA.bk a, b ∉ L) : Ow J (.sl el es n cs) (.sl a n) (SA.bk a ++ L)
inductive OwL (J : AH O) : List TV -> List AV -> List Nat -> Prop
 | nil : OwL J [] [] []
 | cons {t : TV} {v : AV} {ts : List TV} {vs : List AV} {L1 L2 : List Nat} (h : Ow J t v L1) (hc : OwL J ts vs L2) (hd : ∀ b ∈ L1, b ∉ L2) : OwL J (t :: ts) (v :: vs) (L1 ++ L2)
end
theorem Imm.flat {es n : Nat} {a : SA} {vs : List AV} (h : Imm es a n vs) : (AV.sl a n).flat = true := by
 have hb := h.bk
 match a, hb with
 | .nil, _ => rfl
 | .z, _ => rfl
 | .loc (.f _) _ _, _ => rfl
 | .loc (.n b) _ _, hb => simp [SA.bk] at hb
theorem Im.flat {t : TV} {v : AV} (h : Im t v) : v.flat = true := by
 cases h with
 | lf h => exact h
 | sl h hc => exact h.flat
theorem ImL.flat : ∀ {ts : List TV} {vs : List AV}, ImL ts vs -> vs.all AV.flat = true
 | _, _, .nil => rfl
 | _, _, .cons h hc => by simp [h.flat, hc.flat]
theorem ImL.len : ∀ {ts : List TV} {vs : List AV}, ImL ts vs -> vs.length = ts.length
 | _, _, .nil => rfl
 | _, _, .cons h hc => by simp [hc.len]
theorem ImL.get : ∀ {ts : List TV} {vs : List AV}, ImL ts vs -> ∀ {i : Nat} {t : TV}, ts[i]? = some t -> ∃ v, vs[i]? = some v /\ Im t v
 | _, _, .nil, i, t, h => by simp at h
 | _, _, .cons h hc, 0, t, e => by simp at e; subst e; exact ⟨_, rfl, h⟩
 | _, _, .cons h hc, i + 1, t, e => hc.get (i := i) (by simpa using e)
theorem ImL.app : ∀ {ts us : List TV} {vs ws : List AV}, ImL ts vs -> ImL us ws -> ImL (ts ++ us) (vs ++ ws)
 | _, _, _, _, .nil, k => k
 | _, _, _, _, .cons h hc, k => .cons h (hc.app k)
theorem ImL.drop : ∀ {ts : List TV} {vs : List AV} (n : Nat), ImL ts vs -> ImL (ts.drop n) (vs.drop n)
 | _, _, 0, h => by simpa using h
 | _, _, n + 1, .nil => .nil
 | _, _, n + 1, .cons h hc => by simpa using hc.drop n
theorem ImL.take : ∀ {ts : List TV} {vs : List AV} (n : Nat), ImL ts vs -> ImL (ts.take n) (vs.take n)
 | _, _, 0, h => by simpa using ImL.nil
 | _, _, n + 1, .nil => .nil
 | _, _, n + 1, .cons h hc => by simpa using ImL.cons h (hc.take n)
theorem ImL.lfs : ∀ {vs : List AV}, vs.all AV.flat = true -> ImL (vs.map TV.lf) vs
 | [], _ => .nil
 | v :: vs, h => by
  simp only [List.all_cons, Bool.and_eq_true] at h
  exact .cons (.lf h.1) (ImL.lfs h.2)
theorem OwL.im {J : AH O} : ∀ {ts : List TV} {vs : List AV}, ImL ts vs -> OwL J ts vs []
 | _, _, .nil => .nil
 | _, _, .cons h hc => by simpa using OwL.cons (.im h) (OwL.im hc) (by simp)
theorem OwL.len {J : AH O} : ∀ {ts : List TV} {vs : List AV} {L : List Nat}, OwL J ts vs L -> vs.length = ts.length
 | _, _, _, .nil => rfl
 | _, _, _, .cons h hc hd => by simp [hc.len]
mutual
theorem Ow.of {J J' : AH O} (hn : J.next <= J'.next) : ∀ {t : TV} {v : AV} {L : List Nat}, Ow J t v L -> (∀ b ∈ L, J'.blk b = J.blk b) -> Ow J' t v L
 | _, _, _, .im h, _ => .im h
 | _, _, _, .sl h hc hd, hb => .sl (h.of hn fun b hm => hb b (List.mem_append_left _ hm)) (hc.of hn fun b hm => hb b (List.mem_append_right _ hm)) hd
theorem OwL.of {J J' : AH O} (hn : J.next <= J'.next) : ∀ {ts : List TV} {vs : List AV} {L : List Nat}, OwL J ts vs L -> (∀ b ∈ L, J'.blk b = J.blk b) -> OwL J' ts vs L
 | _, _, _, .nil, _ => .nil
 | _, _, _, .cons h hc hd, hb => .cons (h.of hn fun b hm => hb b (List.mem_append_left _ hm)) (hc.of hn fun b hm => hb b (List.mem_append_right _ hm)) hd
end
mutual
theorem Ow.lt {J : AH O} : ∀ {t : TV} {v : AV} {L : List Nat}, Ow J t v L -> ∀ b ∈ L, b < J.next
 | _, _, _, .im h, b, hb => by simp at hb
 | _, _, _, .sl h hc hd, b, hb => (List.mem_append.1 hb).elim (h.lt b) (hc.lt b)
theorem OwL.lt {J : AH O} : ∀ {ts : List TV} {vs : List AV} {L : List Nat}, OwL J ts vs L -> ∀ b ∈ L, b < J.next
 | _, _, _, .nil, b, hb => by simp at hb
 | _, _, _, .cons h hc hd, b, hb => (List.mem_append.1 hb).elim (h.lt b) (hc.lt b)
end
def TV.deep : TV -> Nat -> Prop
 | .lf _, _ => True
 | .sl _ _ _ _, 0 => False
 | .sl _ _ _ cs, d + 1 => ∀ t ∈ cs, t.deep d
mutual
theorem Ow.fz {J : AH O} : ∀ {t : TV} {v : AV} {L : List Nat} {d : Nat}, Ow J t v L -> t.deep d -> ∃ v', FZ (d + 1) J.blk L v v' /\ Im t v'
 | _, v, _, d, .im h, _ => ⟨v, FZ.flat h.flat, h⟩
 | _, _, _, 0, .sl h hc hd, hdp => by unfold TV.deep at hdp; exact hdp.elim
 | _, _, _, d + 1, .sl h hc hd, hdp => by
  unfold TV.deep at hdp
  obtain ⟨vs', g1, g2⟩ := hc.fz hdp
  obtain ⟨a', k1, k2⟩ := FZ.sl h (fun _ _ => rfl) g1 (by rw [g2.len, hc.len]) hd
  exact ⟨_, k1, .sl k2 g2⟩
theorem OwL.fz {J : AH O} : ∀ {ts : List TV} {vs : List AV} {L : List Nat} {d : Nat}, OwL J ts vs L -> (∀ t ∈ ts, t.deep d) -> ∃ vs', FZL (d + 1) J.blk L vs vs' /\ ImL ts vs'
 | _, _, _, d, .nil, _ => ⟨[], FZL.nil, .nil⟩
 | _, _, _, d, .cons h hc hd, hdp => by
  obtain ⟨v', g1, g2⟩ := h.fz (hdp _ List.mem_cons_self)
  obtain ⟨vs', k1, k2⟩ := hc.fz fun t ht => hdp t (List.mem_cons_of_mem _ ht)
  exact ⟨v' :: vs', FZL.cons g1 k1 hd, .cons g2 k2⟩
end
theorem OwL.app {J : AH O} : ∀ {ts us : List TV} {vs ws : List AV} {L K : List Nat}, OwL J ts vs L -> OwL J us ws K -> (∀ b ∈ L, b ∉ K) -> OwL J (ts ++ us) (vs ++ ws) (L ++ K)
 | _, _, _, _, _, _, .nil, k, _ => k
 | _, _, _, _, _, _, .cons h hc hd, k, hk => by
  rw [List.append_assoc]
  exact .cons h (hc.app k fun b hb => hk b (List.mem_append_right _ hb)) fun b hb hm => (List.mem_append.1 hm).elim (hd b hb) (hk b (List.mem_append_left _ hb))
theorem OwL.split {J : AH O} : ∀ {ts : List TV} {vs : List AV} {L : List Nat} {i : Nat} {t : TV}, OwL J ts vs L -> ts[i]? = some t ->
  ∃ v L1 L2 L3, vs[i]? = some v /\ Ow J t v L2 /\ L = L1 ++ (L2 ++ L3) /\ (∀ b ∈ L2, b ∉ L1 /\ b ∉ L3) /\
   ∀ (J' : AH O) (t' : TV) (v' : AV) (L' : List Nat), J.next <= J'.next -> (∀ b, b ∈ L1 ∨ b ∈ L3 -> J'.blk b = J.blk b) -> Ow J' t' v' L' -> (∀ b ∈ L', b ∉ L1 /\ b ∉ L3) -> OwL J' (ts.set i t') (vs.set i v') (L1 ++ (L' ++ L3))
 | _, _, _, i, t, .nil, e => by simp at e
 | _, _, _, 0, t, .cons (L1 := A) (L2 := B) h hc hd, e => by
  simp at e
  subst e
  refine ⟨_, [], A, B, rfl, h, rfl, fun b hb => ⟨by simp, hd b hb⟩, fun J' t' v' L' hn hb ho hl => ?_⟩
  show OwL J' _ _ (L' ++ B)
  exact .cons ho (hc.of hn fun b hm => hb b (.inr hm)) fun b hm => (hl b hm).2
 | _, _, _, i + 1, t, .cons (L1 := A) h hc hd, e => by
  obtain ⟨v, L1, L2, L3, g1, g2, rfl, g4, g5⟩ := hc.split (i := i) (by simpa using e)
  refine ⟨v, A ++ L1, L2, L3, by simpa using g1, g2, by simp, fun b hb => ⟨fun hm => ?_, (g4 b hb).2⟩, fun J' t' v' L' hn hb ho hl => ?_⟩
  ·rcases List.mem_append.1 hm with hm | hm
   ·exact hd b hm (by simp [hb])
   ·exact (g4 b hb).1 hm
  ·rw [List.append_assoc]
   refine .cons (h.of hn fun b hm => hb b (.inl (List.mem_append_left _ hm))) (g5 J' t' v' L' hn (fun b hm => hb b (hm.imp (List.mem_append_right _) id)) ho fun b hm => ⟨fun h1 => (hl b hm).1 (List.mem_append_right _ h1), (hl b hm).2⟩) fun b hm hm2 => ?_
   rcases List.mem_append.1 hm2 with h1 | h1
   ·exact hd b hm (by simp [h1])
   ·rcases List.mem_append.1 h1 with h1 | h1
    ·exact (hl b h1).1 (List.mem_append_left _ hm)
    ·exact hd b hm (by simp [h1])
theorem OwL.get {J : AH O} {ts : List TV} {vs : List AV} {L : List Nat} (h : OwL J ts vs L) {i : Nat} {t : TV} (e : ts[i]? = some t) : ∃ v L', vs[i]? = some v /\ Ow J t v L' /\ ∀ b ∈ L', b ∈ L := by
 obtain ⟨v, L1, L2, L3, g1, g2, rfl, _, _⟩ := h.split e
 exact ⟨v, L2, g1, g2, fun b hb => by simp [hb]⟩
theorem Ow.leaf {J : AH O} {x v : AV} {L : List Nat} (h : Ow J (.lf x) v L) : v = x /\ L = [] := by
 cases h with
 | im h => cases h with | lf h => exact ⟨rfl, rfl⟩
theorem Ow.rd {J : AH O} {el es n : Nat} {cs : List TV} {v : AV} {L : List Nat} (h : Ow J (.sl el es n cs) v L) : ∃ a vs L', v = .sl a n /\ Rd J es a n vs /\ OwL J cs vs L' /\ (∀ b ∈ L', b ∈ L) /\ ∀ b ∈ SA.bk a, b ∈ L := by
 cases h with
 | im h => cases h with | sl h hc => exact ⟨_, _, [], rfl, h O J, .im hc, by simp, by rw [h.bk]; simp⟩
 | sl h hc hd => exact ⟨_, _, _, rfl, h.rd, hc, fun b hb => List.mem_append_right _ hb, fun b hb => List.mem_append_left _ hb⟩
theorem Im.rd {el es n : Nat} {cs : List TV} {v : AV} (h : Im (.sl el es n cs) v) : ∃ a vs, v = .sl a n /\ Imm es a n vs /\ ImL cs vs := by
 cases h with | sl h hc => exact ⟨_, _, rfl, h, hc⟩
theorem Im.leaf {x v : AV} (h : Im (.lf x) v) : v = x := by cases h; rfl
theorem ImL.ofLeaves : ∀ {xs vs : List AV}, ImL (xs.map TV.lf) vs -> vs = xs
 | [], _, h => by cases h; rfl
 | x :: xs, _, h => by
  cases h with
  | cons h hc => rw [h.leaf, hc.ofLeaves]
theorem OwL.ofLeaves {J : AH O} : ∀ {xs vs : List AV} {L : List Nat}, OwL J (xs.map TV.lf) vs L -> vs = xs /\ L = []
 | [], _, _, h => by cases h; exact ⟨rfl, rfl⟩
 | x :: xs, _, _, h => by
  cases h with
  | cons h hc hd =>
   obtain ⟨rfl, rfl⟩ := h.leaf
   obtain ⟨rfl, rfl⟩ := hc.ofLeaves
   exact ⟨rfl, rfl⟩
theorem fmt_len {α β : Type} {enc : α -> List β} {k : Nat} (hk : ∀ x, (enc x).length = k) : ∀ l : List α, (l.flatMap enc).length = l.length * k
 | [] => by simp
 | x :: l => by rw [List.flatMap_cons, List.length_append, hk, fmt_len hk l, List.length_cons, Nat.succ_mul]; omega
theorem fmt_get {α β : Type} {enc : α -> List β} {k : Nat} (hk : ∀ x, (enc x).length = k) : ∀ (l : List α) (i j : Nat), j < k -> (l.flatMap enc)[i * k + j]? = (l[i]?).bind fun x => (enc x)[j]?
 | [], i, j, h => by simp
 | x :: l, 0, j, h => by rw [List.flatMap_cons, Nat.zero_mul, Nat.zero_add, List.getElem?_append_left (by rw [hk]; exact h)]; rfl
 | x :: l, i + 1, j, h => by
  rw [List.flatMap_cons, List.getElem?_append_right (by rw [hk, Nat.succ_mul]; omega), hk, show (i + 1) * k + j - k = i * k + j by rw [Nat.succ_mul]; omega, fmt_get hk l i j h]
  simp
theorem OwnS.set {J J' : AH O} {el es n : Nat} {a : SA} {cs : List AV} {o : Nat} {v : AV} (h : OwnS J el es a n cs) {b : Nat} (ha : a = .loc (.n b) 0 es) (hs : J' = J.put b (.cells true el (cs.set o v))) : OwnS J' el es a n (cs.set o v) := by
 subst ha; subst hs
 obtain ⟨k, e1, _, _, h3, h4⟩ := h.wh
 cases e1
 exact OwnS.new (by rw [List.length_set]; exact h.len) (by simp [AH.put]) (by simpa using h4)
theorem set_same {α : Type} {l : List α} {i : Nat} {x : α} (h : l[i]? = some x) : l.set i x = l := by
 apply List.ext_getElem?
 intro j
 rw [List.getElem?_set]
 by_cases c : i = j
 ·subst c
  rw [if_pos rfl, if_pos (List.getElem?_eq_some_iff.1 h).1, h]
 ·rw [if_neg c]
theorem flat_ints {k : IntKind} (l : List Int) : (l.map (AV.i k)).all AV.flat = true := by simp [AV.flat]
theorem Ow.leaves {J : AH O} {el es n : Nat} {a : SA} {xs : List AV} (h : OwnS J el es a n xs) (hx : xs.all AV.flat = true) : Ow J (.sl el es n (xs.map TV.lf)) (.sl a n) (SA.bk a) := by
 have := Ow.sl h (OwL.im (ImL.lfs hx)) (by simp)
 simpa using this
theorem OwL.leafSet {J : AH O} {ts : List TV} {vs : List AV} {L : List Nat} (h : OwL J ts vs L) {i : Nat} {x y : AV} (e : ts[i]? = some (.lf x)) (hy : y.flat = true) : OwL J (ts.set i (.lf y)) (vs.set i y) L := by
 obtain ⟨v, L1, L2, L3, g1, g2, rfl, g4, g5⟩ := h.split e
 obtain ⟨rfl, rfl⟩ := g2.leaf
 exact g5 J (.lf y) y [] (Nat.le_refl _) (fun _ _ => rfl) (.im (.lf hy)) (by simp)
theorem OwL.leafGet {J : AH O} {ts : List TV} {vs : List AV} {L : List Nat} (h : OwL J ts vs L) {i : Nat} {x : AV} (e : ts[i]? = some (.lf x)) : vs[i]? = some x := by
 obtain ⟨v, L', g1, g2, _⟩ := h.get e
 rw [g2.leaf.1] at g1; exact g1
theorem FZ.pre {d : Nat} {J : AH O} {H : Nat -> Option (Blk O)} {L : List Nat} {el es n k : Nat} {cs cs' : List AV} (hb : J.blk k = some (.cells true el cs)) (hH : H k = J.blk k) (hn : n * es <= cs.length) (hc : FZL (d + 1) H L (cs.take (n * es)) cs') (hl : cs'.length = n * es) (hd : k ∉ L) :
  FZ (d + 2) H (k :: L) (.sl (.loc (.n k) 0 es) n) (.sl (.loc (.f cs') 0 es) n) /\ Imm es (.loc (.f cs') 0 es) n cs' := by
 refine ⟨fun J1 hJ => ?_, Imm.f hl⟩
 have hk : J1.blk k = some (.cells true el cs) := by rw [hJ k (by simp), hH]; exact hb
 obtain ⟨J', e1, n1, b1⟩ := hc (J1.kill k) fun b hb => by
  have : b ≠ k := fun e => hd (e ▸ hb)
  rw [kill_blk, if_neg this]; exact hJ b (by simp [hb])
 refine ⟨J', ?_, by simpa using n1, fun b => ?_⟩
 ·rw [frzV_sl, hk]
  simp only
  rw [Nat.ble_eq_true_of_le (by omega), cond_true, List.drop_zero, e1]; rfl
 ·rw [b1, kill_blk]
  by_cases g1 : b = k <;> by_cases g2 : b ∈ L <;> simp [g1, g2]
end Go.Abs
set_option linter.unusedSimpArgs false
set_option linter.unusedSectionVars false
set_option maxHeartbeats 1000000
namespace Go.Abs.Try
open Go Go.Abs
variable {O : Type}
structure DE where
 tk : Bool
 gen : Int
 ws : List Int
def DE.row (e : DE) : List TV := [.lf (.b e.tk), .lf (.i .i64 e.gen), .sl T_uint64 1 e.ws.length ((e.ws.map (AV.i .u64)).map TV.lf)]
theorem DE.len (e : DE) : e.row.length = 3 := rfl
structure DS where
 words : Int
 L : List DE
 free : List Int
 room : Int
def DS.tl (S : DS) : TV := .sl T_haymowref10_Entry 3 S.L.length (S.L.flatMap DE.row)
def DS.tf (S : DS) : TV := .sl 3 1 S.free.length ((S.free.map (AV.i .i64)).map TV.lf)
structure DS.small (S : DS) : Prop where
 l : S.L.length <= 1000
 f : S.free.length <= 1000
 w : ∀ e ∈ S.L, e.ws.length <= 1000
def DS.at_ (S : DS) (v : AV) : Prop := ∃ a b, v = .agg [.i .i64 S.words, a, b, .i .i64 S.room] /\ Im S.tl a /\ Im S.tf b
def OwnAt (vs : List AV) (j : Nat) : Prop := ∃ a n, vs[j * 3 + 2]? = some (.sl a n) /\ (n ≠ 0 -> ∃ b, a = .loc (.n b) 0 1)
theorem copied_loop {J : AH O} {S : DS} (hs : S.small) {a : SA} {vs : List AV} {L : List Nat} {base : Nat} (o : OwnS J T_haymowref10_Entry 3 a S.L.length vs) (c : OwL J (S.L.flatMap DE.row) vs L) (hd : ∀ b ∈ SA.bk a, b ∉ L) (hb : ∀ b ∈ SA.bk a ++ L, base <= b) (hn : base <= J.next) :
  Ok (loopF (S := List AV × AH O) (T := List AV × AH O) (haymowref10_copied_L1 (a, S.L.length)) ([(.i .i64 0)], J)) fun r => ∃ J' vs' L', r = ([], J') /\ OwnS J' T_haymowref10_Entry 3 a S.L.length vs' /\ OwL J' (S.L.flatMap DE.row) vs' L' /\ (∀ b ∈ SA.bk a, b ∉ L') /\ (∀ b ∈ SA.bk a ++ L', base <= b) /\ J.next <= J'.next /\ (∀ b, b < base -> J'.blk b = J.blk b) /\ ∀ j, j < S.L.length -> OwnAt vs' j := by
 have hsl := hs.l
 refine Ok.count S.L.length (fun k s => ∃ J' vs' L', s = ([.i .i64 (k : Int)], J') /\ OwnS J' T_haymowref10_Entry 3 a S.L.length vs' /\ OwL J' (S.L.flatMap DE.row) vs' L' /\ (∀ b ∈ SA.bk a, b ∉ L') /\ (∀ b ∈ SA.bk a ++ L', base <= b) /\ J.next <= J'.next /\ (∀ b, b < base -> J'.blk b = J.blk b) /\ ∀ j, j < k -> OwnAt vs' j) ?_ ?_ ⟨J, vs, L, rfl, o, c, hd, hb, Nat.le_refl _, fun _ _ => rfl, fun j hj => by omega⟩
 ·rintro k s hk ⟨J1, vs1, L1, rfl, o1, c1, hd1, hb1, n1, f1, w1⟩
  have hx := List.getElem?_eq_getElem hk
  have hwl := hs.w _ (List.getElem_mem hk)
  generalize S.L[k] = e at hx hwl
  obtain ⟨kb, rfl, hkb, hkl⟩ := o1.loc (by omega)
  have ht : (S.L.flatMap DE.row)[k * 3 + 2]? = some (.sl T_uint64 1 e.ws.length ((e.ws.map (AV.i .u64)).map TV.lf)) := by
   rw [fmt_get DE.len _ _ _ (by decide), hx]; rfl
  obtain ⟨v, A, D, B, g1, g2, rfl, g4, g5⟩ := c1.split ht
  obtain ⟨w, ws, Lw, rfl, rd, cw, _, hbw⟩ := g2.rd
  obtain ⟨rfl, _⟩ := cw.ofLeaves
  have hlt := c1.lt
  have hbase := hb1 kb (by simp [SA.bk])
  simp (maxSteps := 2000000) -implicitDefEqProofs (disch := (first | omega | rfl | assumption | (simp only [rsD]; first | omega | assumption))) only [haymowref10_copied_L1, hkb, g1, Nat.reduceAdd, Nat.reduceMul, Nat.reduceLT, Int.reduceToNat, Int.reduceAdd, Int.reduceSub, Int.reduceMul, rsU, rsC]
  generalize hJ : (J1.bump 2).put J1.next (.cells true T_uint64 []) = J2
  have n2 : J2.next = J1.next + 2 := by rw [<- hJ]; rfl
  have b2 : J2.blk J1.next = some (.cells true T_uint64 []) := by rw [<- hJ]; exact s_bs
  have o2 : ∀ b, b ≠ J1.next -> J2.blk b = J1.blk b := fun b hb => by rw [<- hJ]; exact s_bn hb
  clear hJ
  have rd2 : Rd J2 1 w e.ws.length (e.ws.map (AV.i .u64)) := rd.of fun b hb => o2 b (by have := hlt b (by simp [hbw b hb]); omega)
  have rs := rd2.rdSl
  have own2 : OwnS J2 T_uint64 1 (.loc (.n J1.next) 0 1) 0 [] := OwnS.new rfl b2 (by omega)
  simp (maxSteps := 2000000) -implicitDefEqProofs (disch := (first | omega | rfl | assumption | (simp only [rsD]; first | omega | assumption))) only [rs, Nat.reduceAdd, Nat.reduceMul, Nat.reduceLT, Int.reduceToNat, Int.reduceAdd, Int.reduceSub, Int.reduceMul, rsU, rsC]
  refine Ok.step (app_ok (nid := J1.next + 1) own2 (by simp [SA.bk]) (by omega) (show (e.ws.map (AV.i .u64)).length = e.ws.length * 1 by simp)) fun q ⟨a', m1, m2, m3, m4, m5⟩ => ?_
  obtain ⟨q, J3⟩ := q
  simp only at m1 m2 m3 m4
  subst m1
  rw [Nat.zero_add, List.nil_append] at m2
  have hkb3 : J3.blk kb = _ := (m4 kb (by omega) (by simp [SA.bk]; omega)).trans ((o2 kb (by omega)).trans hkb)
  have hvl := o1.len
  simp (maxSteps := 2000000) -implicitDefEqProofs (disch := (first | omega | rfl | assumption | (simp only [rsD]; first | omega | assumption))) only [hkb3, Nat.zero_add, Nat.reduceAdd, Nat.reduceMul, Nat.reduceLT, Int.reduceToNat, Int.reduceAdd, Int.reduceSub, Int.reduceMul, rsU, rsC]
  have hi : k * 3 + 2 < vs1.length := by omega
  rw [splice_set hi]
  generalize hJ : J3.put kb _ = J4
  have n4 : J4.next = J3.next := by rw [<- hJ]; rfl
  have o4 : ∀ b, b ≠ kb -> J4.blk b = J3.blk b := fun b hb => by rw [<- hJ]; exact s_bn hb
  have o3 : OwnS J3 T_haymowref10_Entry 3 (.loc (.n kb) 0 3) S.L.length vs1 := OwnS.new hvl hkb3 (by omega)
  have own4 := o3.set rfl hJ.symm
  clear hJ
  have hkd := hd1 kb (by simp [SA.bk])
  have old : ∀ b ∈ A ++ (D ++ B), J4.blk b = J1.blk b := fun b hb => by
   have h1 := hlt b hb
   have h2 : b ≠ kb := fun e => hkd (e ▸ hb)
   exact (o4 b h2).trans ((m4 b (by omega) (by simp [SA.bk]; omega)).trans (o2 b (by omega)))
  have ow := Ow.leaves (m2.of (J' := J4) (by omega) fun b hb => o4 b (by have := m5 b hb; omega)) (flat_ints e.ws)
  have up := g5 J4 _ _ _ (by omega) (fun b hb => old b (by rcases hb with hb | hb <;> simp [hb])) ow fun b hb => by
   have h1 := m5 b hb
   exact ⟨fun hm => by have := hlt b (by simp [hm]); omega, fun hm => by have := hlt b (by simp [hm]); omega⟩
  rw [set_same ht] at up
  refine Ok_some.2 ⟨J4, _, _, by simp, own4, up, fun b hb hm => ?_, fun b hb => ?_, by omega, fun b hb => ?_, fun j hj => ?_⟩
  ·simp [SA.bk] at hb
   subst hb
   simp only [List.mem_append] at hm
   rcases hm with hm | hm | hm
   ·exact hkd (by simp [hm])
   ·have := m5 b hm; omega
   ·exact hkd (by simp [hm])
  ·simp only [List.mem_append] at hb
   rcases hb with hb | hb | hb | hb
   ·exact hb1 b (by simp [hb])
   ·exact hb1 b (by simp [hb])
   ·have := m5 b hb; omega
   ·exact hb1 b (by simp [hb])
  ·rw [o4 b (by omega), m4 b (by omega) (by simp [SA.bk]; omega), o2 b (by omega)]
   exact f1 b hb
  ·by_cases cj : j = k
   ·subst cj
    exact ⟨a', e.ws.length, by rw [List.getElem?_set, if_pos rfl, if_pos hi], fun hne => by obtain ⟨b, e, _⟩ := m2.loc hne; exact ⟨b, e⟩⟩
   ·obtain ⟨a0, n0, y1, y2⟩ := w1 j (by omega)
    exact ⟨a0, n0, by rw [List.getElem?_set, if_neg (by omega)]; exact y1, y2⟩
 ·rintro s ⟨J1, vs1, L1, rfl, o1, c1, hd1, hb1, n1, f1, w1⟩
  simp (maxSteps := 2000000) -implicitDefEqProofs (disch := (first | omega | rfl | assumption | (simp only [rsD]; first | omega | assumption))) only [haymowref10_copied_L1, Nat.reduceAdd, Nat.reduceMul, Nat.reduceLT, Int.reduceToNat, Int.reduceAdd, Int.reduceSub, Int.reduceMul, rsU, rsC]
  exact Ok_some.2 ⟨J1, vs1, L1, rfl, o1, c1, hd1, hb1, n1, f1, w1⟩
theorem rcopied_ok {J : AH O} {S : DS} (hs : S.small) {v : AV} (h : S.at_ v) : Ok (haymowref10_copied [v] J) fun r => ∃ a vs L b, r.1 = .agg [.i .i64 S.words, .sl a S.L.length, .sl b S.free.length, .i .i64 S.room] /\ OwnS r.2 T_haymowref10_Entry 3 a S.L.length vs /\ OwL r.2 (S.L.flatMap DE.row) vs L /\ OwnS r.2 3 1 b S.free.length (S.free.map (AV.i .i64)) /\ (∀ x ∈ SA.bk a, x ∉ L) /\ (∀ x ∈ SA.bk b, x ∉ SA.bk a ++ L) /\ (∀ x ∈ SA.bk a ++ L, J.next <= x) /\ (∀ x ∈ SA.bk b, J.next <= x) /\ Ext J r.2 /\ ∀ j, j < S.L.length -> OwnAt vs j := by
 obtain ⟨a, b, rfl, ha, hb⟩ := h
 obtain ⟨sa, va, rfl, ia, ca⟩ := Im.rd ha
 obtain ⟨sb, vb, rfl, ib, cb⟩ := Im.rd hb
 have eb := cb.ofLeaves
 subst eb
 have hsl := hs.l
 have hsf := hs.f
 simp (maxSteps := 2000000) -implicitDefEqProofs (disch := (first | omega | rfl | assumption | (simp only [rsD]; first | omega | assumption))) only [haymowref10_copied, haymowref10_copied_c, Nat.reduceAdd, Nat.reduceMul, Nat.reduceLT, Int.reduceToNat, Int.reduceAdd, Int.reduceSub, Int.reduceMul, rsU, rsC]
 generalize hJ : AH.put _ (J.next + 2) (.cells true T_haymowref10_Entry []) = J1
 have n1 : J1.next = J.next + 4 := by rw [<- hJ]; rfl
 have b0 : ∃ el, J1.blk J.next = some (.cells true el [.i .i64 S.words, .sl sa S.L.length, .sl sb S.free.length, .i .i64 S.room]) := by rw [<- hJ]; exact ⟨_, (s_bn (by omega)).trans ((s_bn (by omega)).trans s_bs)⟩
 have b1 : ∃ el, J1.blk (J.next + 1) = some (.cells true el [.i .i64 0, .sl .nil 0, .sl .nil 0, .i .i64 0]) := by rw [<- hJ]; exact ⟨_, (s_bn (by omega)).trans s_bs⟩
 have b2 : J1.blk (J.next + 2) = some (.cells true T_haymowref10_Entry []) := by rw [<- hJ]; exact s_bs
 have o1 : ∀ b, b < J.next -> J1.blk b = J.blk b := fun b hb => by rw [<- hJ]; exact (s_bn (by omega)).trans ((s_bn (by omega)).trans (s_bn (by omega)))
 clear hJ
 obtain ⟨el0, b0⟩ := b0
 obtain ⟨el1, b1⟩ := b1
 have rs := (ia O J1).rdSl
 have own1 : OwnS J1 T_haymowref10_Entry 3 (.loc (.n (J.next + 2)) 0 3) 0 [] := OwnS.new rfl b2 (by omega)
 simp (maxSteps := 2000000) -implicitDefEqProofs (disch := (first | omega | rfl | assumption | (simp only [rsD]; first | omega | assumption))) only [b0, rs, Nat.reduceAdd, Nat.reduceMul, Nat.reduceLT, Int.reduceToNat, Int.reduceAdd, Int.reduceSub, Int.reduceMul, rsU, rsC]
 refine Ok.step (app_ok (nid := J.next + 2 + 1) own1 (by simp [SA.bk]) (by omega) ia.len) fun q ⟨a', m1, m2, m3, m4, m5⟩ => ?_
 obtain ⟨q, J2⟩ := q
 simp only at m1 m2 m3 m4
 subst m1
 rw [Nat.zero_add, List.nil_append] at m2
 have c0 : J2.blk J.next = _ := (m4 _ (by omega) (by simp [SA.bk])).trans b0
 have c1 : J2.blk (J.next + 1) = _ := (m4 _ (by omega) (by simp [SA.bk])).trans b1
 have oo2 : ∀ b, b < J.next -> J2.blk b = J.blk b := fun b hb => (m4 b (by omega) (by simp [SA.bk]; omega)).trans (o1 b hb)
 simp (maxSteps := 2000000) -implicitDefEqProofs (disch := (first | omega | rfl | assumption | (simp only [rsD]; first | omega | assumption))) only [Nat.zero_add, Nat.reduceAdd, Nat.reduceMul, Nat.reduceLT, Int.reduceToNat, Int.reduceAdd, Int.reduceSub, Int.reduceMul, rsU, rsC]
 have lp := copied_loop hs (base := J.next + 2) m2 (.im ca) (by simp) (fun b hb => by simp at hb; have := m5 b hb; omega) (by omega)
 refine Ok.step lp fun q ⟨J3, vs, L, p1, p2, p3, p4, p5, p6, p7, p8⟩ => ?_
 subst p1
 have d0 : J3.blk J.next = _ := (p7 _ (by omega)).trans c0
 have d1 : J3.blk (J.next + 1) = _ := (p7 _ (by omega)).trans c1
 simp (maxSteps := 2000000) -implicitDefEqProofs (disch := (first | omega | rfl | assumption | (simp only [rsD]; first | omega | assumption))) only [d0, Nat.reduceAdd, Nat.reduceMul, Nat.reduceLT, Int.reduceToNat, Int.reduceAdd, Int.reduceSub, Int.reduceMul, rsU, rsC]
 generalize hJ : AH.put _ J3.next (.cells true 3 []) = J4
 have n4 : J4.next = J3.next + 2 := by rw [<- hJ]; rfl
 have e0 : J4.blk J.next = some (.cells true el0 [.i .i64 S.words, .sl a' S.L.length, .sl sb S.free.length, .i .i64 S.room]) := by rw [<- hJ]; exact (s_bn (by omega)).trans s_bs
 have e2 : J4.blk J3.next = some (.cells true 3 []) := by rw [<- hJ]; exact s_bs
 have o4 : ∀ b, b ≠ J.next -> b ≠ J3.next -> J4.blk b = J3.blk b := fun b hb hc => by rw [<- hJ]; exact (s_bn hc).trans (s_bn hb)
 clear hJ
 have rs2 := (ib O J4).rdSl
 have own4 : OwnS J4 3 1 (.loc (.n J3.next) 0 1) 0 [] := OwnS.new rfl e2 (by omega)
 simp (maxSteps := 2000000) -implicitDefEqProofs (disch := (first | omega | rfl | assumption | (simp only [rsD]; first | omega | assumption))) only [rs2, Nat.reduceAdd, Nat.reduceMul, Nat.reduceLT, Int.reduceToNat, Int.reduceAdd, Int.reduceSub, Int.reduceMul, rsU, rsC]
 refine Ok.step (app_ok (nid := J3.next + 1) own4 (by simp [SA.bk]) (by omega) ib.len) fun q ⟨b', q1, q2, q3, q4, q5⟩ => ?_
 obtain ⟨q, J5⟩ := q
 simp only at q1 q2 q3 q4
 subst q1
 rw [Nat.zero_add, List.nil_append] at q2
 have f0 : J5.blk J.next = _ := (q4 _ (by omega) (by simp [SA.bk]; omega)).trans e0
 have f1 : J5.blk (J.next + 1) = _ := (q4 _ (by omega) (by simp [SA.bk]; omega)).trans ((o4 _ (by omega) (by omega)).trans d1)
 simp (maxSteps := 2000000) -implicitDefEqProofs (disch := (first | omega | rfl | assumption | (simp only [rsD]; first | omega | assumption))) only [f0, f1, Nat.zero_add, Nat.reduceAdd, Nat.reduceMul, Nat.reduceLT, Int.reduceToNat, Int.reduceAdd, Int.reduceSub, Int.reduceMul, rsU, rsC]
 generalize hJ : AH.put _ (J.next + 1) _ = J6
 have n6 : J6.next = J5.next := by rw [<- hJ]; rfl
 have o6 : ∀ b, b ≠ J.next -> b ≠ J.next + 1 -> J6.blk b = J5.blk b := fun b hb hc => by rw [<- hJ]; exact (s_bn hc).trans (s_bn hb)
 clear hJ
 have keep : ∀ b, J.next + 2 <= b -> b < J3.next -> J6.blk b = J3.blk b := fun b h1 h2 => (o6 b (by omega) (by omega)).trans ((q4 b (by omega) (by simp [SA.bk]; omega)).trans (o4 b (by omega) (by omega)))
 have h36 : J3.next <= J6.next := by omega
 have h56 : J5.next <= J6.next := by omega
 have h06 : J.next <= J6.next := by omega
 refine Ok_some.2 ⟨a', vs, L, b', rfl, p2.of h36 fun b hb => keep b (p5 b (by simp [hb])) (p2.lt b hb), p3.of h36 fun b hb => keep b (p5 b (by simp [hb])) (p3.lt b hb), q2.of h56 fun b hb => o6 b (by have := q5 b hb; omega) (by have := q5 b hb; omega), p4, fun b hb hm => ?_, fun b hb => by have := p5 b hb; omega, fun b hb => by have := q5 b hb; omega, ⟨h06, fun b hb => ?_⟩, p8⟩
 ·have h1 := q5 b hb
  rcases List.mem_append.1 hm with hm | hm
  ·have := p2.lt b hm; omega
  ·have := p3.lt b hm; omega
 ·show J6.blk b = _
  rw [o6 b (by omega) (by omega), q4 b (by omega) (by simp [SA.bk]; omega), o4 b (by omega) (by omega), p7 b (by omega), oo2 b hb]
def DS.ent (S : DS) (id : Int) : Option DE := if 1 <= id then S.L[(id - 1).toNat]? else none
def DS.is (S : DS) (id : Int) : Bool := match S.ent id with | some e => e.tk | none => false
theorem DS.ent_some {S : DS} {id : Int} {e : DE} (h : S.ent id = some e) : ∃ i : Nat, id = (i : Int) + 1 /\ S.L[i]? = some e /\ i < S.L.length := by
 unfold DS.ent at h
 split at h
 ·exact ⟨(id - 1).toNat, by omega, h, (List.getElem?_eq_some_iff.1 h).1⟩
 ·cases h
theorem DS.ent_none {S : DS} {id : Int} (h : S.ent id = none) : id < 1 ∨ (S.L.length : Int) < id := by
 unfold DS.ent at h
 split at h
 ·have := List.getElem?_eq_none_iff.1 h; omega
 ·omega
theorem DS.cells_ {S : DS} {va : List AV} (c : ImL (S.L.flatMap DE.row) va) {i : Nat} {e : DE} (he : S.L[i]? = some e) : va[i * 3]? = some (.b e.tk) /\ va[i * 3 + 1]? = some (.i .i64 e.gen) /\ ∃ w, va[i * 3 + 2]? = some (.sl w e.ws.length) /\ Imm 1 w e.ws.length (e.ws.map (AV.i .u64)) := by
 have g0 : (S.L.flatMap DE.row)[i * 3 + 0]? = some (.lf (.b e.tk)) := by rw [fmt_get DE.len _ _ _ (by decide), he]; rfl
 have g1 : (S.L.flatMap DE.row)[i * 3 + 1]? = some (.lf (.i .i64 e.gen)) := by rw [fmt_get DE.len _ _ _ (by decide), he]; rfl
 have g2 : (S.L.flatMap DE.row)[i * 3 + 2]? = some (.sl T_uint64 1 e.ws.length ((e.ws.map (AV.i .u64)).map TV.lf)) := by rw [fmt_get DE.len _ _ _ (by decide), he]; rfl
 obtain ⟨v0, h0, k0⟩ := c.get g0
 obtain ⟨v1, h1, k1⟩ := c.get g1
 obtain ⟨v2, h2, k2⟩ := c.get g2
 obtain ⟨w, ws, rfl, m1, m2⟩ := k2.rd
 rw [m2.ofLeaves] at m1
 exact ⟨by rw [k0.leaf] at h0; exact h0, by rw [k1.leaf] at h1; exact h1, w, h2, m1⟩
theorem ris_ok {J : AH O} {S : DS} (hs : S.small) {v : AV} (h : S.at_ v) {id : Int} (hr : -9223372036854775808 <= id /\ id <= 9223372036854775807) : Ok (haymowref10_Is [v, .i .i64 id] J) fun r => r.1 = .b (S.is id) /\ Ext J r.2 := by
 obtain ⟨a, b, rfl, ha, hb⟩ := h
 obtain ⟨sa, va, rfl, ia, ca⟩ := Im.rd ha
 obtain ⟨sb, vb, rfl, ib, cb⟩ := Im.rd hb
 have hsl := hs.l
 have ext : ∀ x : Blk O, Ext J ((J.bump 1).put J.next x) := fun x => ((Ext.refl J).bump 1).put (Nat.le_refl _) x
 unfold DS.is
 cases he : S.ent id with
 | none =>
  have hn := DS.ent_none he
  by_cases c : id < 1
  ·have d0 := decide_eq_false (show ¬ id >= 1 by omega)
   simp (maxSteps := 2000000) -implicitDefEqProofs (disch := (first | omega | rfl | assumption | (simp only [rsD]; first | omega | assumption))) only [haymowref10_Is, haymowref10_Is_c, d0, Nat.reduceAdd, Nat.reduceMul, Nat.reduceLT, Int.reduceToNat, Int.reduceAdd, Int.reduceSub, Int.reduceMul, rsU, rsC]
   exact Ok_some.2 ⟨rfl, ext _⟩
  ·have d0 := decide_eq_true (show id >= 1 by omega)
   have d1 := decide_eq_false (show ¬ id <= (S.L.length : Int) by omega)
   simp (maxSteps := 2000000) -implicitDefEqProofs (disch := (first | omega | rfl | assumption | (simp only [rsD]; first | omega | assumption))) only [haymowref10_Is, haymowref10_Is_c, d0, d1, Nat.reduceAdd, Nat.reduceMul, Nat.reduceLT, Int.reduceToNat, Int.reduceAdd, Int.reduceSub, Int.reduceMul, rsU, rsC]
   exact Ok_some.2 ⟨rfl, ext _⟩
 | some e =>
  obtain ⟨i, rfl, hi, hl⟩ := DS.ent_some he
  obtain ⟨c0, _, _⟩ := DS.cells_ ca hi
  have d0 := decide_eq_true (show (i : Int) + 1 >= 1 by omega)
  have d1 := decide_eq_true (show (i : Int) + 1 <= (S.L.length : Int) by omega)
  have v0 : (i : Int) + 1 - 1 = i := by omega
  obtain ⟨bb, oo, rfl, _⟩ := (ia O J).ref hl
  have hld : ∀ J' : AH O, J'.ld bb (oo + i * 3) = some (.b e.tk) := fun J' => by
   obtain ⟨b2, o2, e2, hld⟩ := (ia O J').ref hl
   cases e2
   have := hld 0 (by decide)
   rw [Nat.add_zero, Nat.add_zero, c0] at this; exact this
  simp (maxSteps := 2000000) -implicitDefEqProofs (disch := (first | omega | rfl | assumption | (simp only [rsD]; first | omega | assumption))) only [haymowref10_Is, haymowref10_Is_c, d0, d1, v0, hld, Nat.reduceAdd, Nat.reduceMul, Nat.reduceLT, Int.reduceToNat, Int.reduceAdd, Int.reduceSub, Int.reduceMul, rsU, rsC]
  exact Ok_some.2 ⟨rfl, ext _⟩
def DS.wrong (S : DS) (id word : Int) : Int := if S.is id = true then (if word < 0 ∨ word >= S.words then 32 else 0) else 4
end Go.Abs.Try
namespace Go.Abs.Try
open Go Go.Abs
variable {O : Type}
theorem DS.deep_l (S : DS) : S.tl.deep 5 := by
 unfold DS.tl TV.deep
 intro t ht
 obtain ⟨e, _, he⟩ := List.mem_flatMap.1 ht
 simp only [DE.row, List.mem_cons, List.not_mem_nil, or_false] at he
 rcases he with rfl | rfl | rfl
 ·unfold TV.deep; trivial
 ·unfold TV.deep; trivial
 ·unfold TV.deep
  intro t ht
  obtain ⟨x, _, rfl⟩ := List.mem_map.1 ht
  unfold TV.deep; trivial
theorem DS.deep_f (S : DS) : S.tf.deep 5 := by
 unfold DS.tf TV.deep
 intro t ht
 obtain ⟨x, _, rfl⟩ := List.mem_map.1 ht
 unfold TV.deep; trivial
theorem DS.fz {J : AH O} {S : DS} {a b : SA} {vs : List AV} {L : List Nat} (o : OwnS J T_haymowref10_Entry 3 a S.L.length vs) (c : OwL J (S.L.flatMap DE.row) vs L) (p : OwnS J 3 1 b S.free.length (S.free.map (AV.i .i64))) (d1 : ∀ x ∈ SA.bk a, x ∉ L) (d2 : ∀ x ∈ SA.bk b, x ∉ SA.bk a ++ L) :
  ∃ v', FZ 7 J.blk (SA.bk a ++ L ++ SA.bk b) (.agg [.i .i64 S.words, .sl a S.L.length, .sl b S.free.length, .i .i64 S.room]) v' /\ S.at_ v' := by
 obtain ⟨va, f1, m1⟩ := Ow.fz (t := S.tl) (d := 5) (.sl o c d1) S.deep_l
 obtain ⟨vb, f2, m2⟩ := Ow.fz (t := S.tf) (d := 5) (Ow.leaves p (flat_ints _)) S.deep_f
 have h := FZL.cons0 (v := .i .i64 S.words) (FZ.flat rfl) (FZL.cons f1 (FZL.cons f2 (FZL.flat (vs := [.i .i64 S.room]) rfl) (by simp)) fun x hx hm => by
  simp only [List.append_nil] at hm
  exact d2 x hm hx)
 simp only [List.append_nil] at h
 exact ⟨_, FZ.agg h, va, vb, rfl, m1, m2⟩
theorem DS.fzt {J : AH O} {L : List Nat} {v v' : AV} {n : Int} (h : FZ 7 J.blk L v v') : FZ 8 J.blk L (.tup [v, .i .i64 n]) (.tup [v', .i .i64 n]) := by
 have := FZL.cons h (FZL.flat (vs := [.i .i64 n]) rfl) (by simp)
 simp only [List.append_nil] at this
 exact FZ.tup this
theorem DS.fz0 {J : AH O} {S : DS} {v : AV} (h : S.at_ v) : FZ 7 J.blk [] v v := by
 obtain ⟨a, b, rfl, ha, hb⟩ := h
 exact FZ.agg (FZL.flat (by simp only [List.all_cons, List.all_nil, ha.flat, hb.flat, Bool.and_true, Bool.true_and]; rfl))
def DS.put (S : DS) (i : Nat) (e : DE) : DS := { S with L := S.L.set i e }
theorem rows_set {S : DS} {i : Nat} {e : DE} (f : DE) (he : S.L[i]? = some e) (j : Nat) (t : TV) (hj : j < 3) (hf : f.row = e.row.set j t) : (S.L.set i f).flatMap DE.row = (S.L.flatMap DE.row).set (i * 3 + j) t := by
 have hi := (List.getElem?_eq_some_iff.1 he).1
 apply List.ext_getElem?
 intro k
 have hk : k = k / 3 * 3 + k % 3 := by omega
 have hm : k % 3 < 3 := by omega
 rw [List.getElem?_set]
 by_cases c : i * 3 + j = k
 ·subst c
  rw [if_pos rfl, if_pos (by rw [fmt_len DE.len]; omega), fmt_get DE.len _ _ _ hj, List.getElem?_set, if_pos rfl, if_pos hi]
  simp only [Option.bind_some, hf]
  rw [List.getElem?_set, if_pos rfl, if_pos (by rw [DE.len]; exact hj)]
 ·rw [if_neg c, hk, fmt_get DE.len _ _ _ hm, fmt_get DE.len _ _ _ hm, List.getElem?_set]
  by_cases ci : i = k / 3
  ·rw [if_pos ci, if_pos hi, <- ci, he]
   simp only [Option.bind_some, hf]
   rw [List.getElem?_set, if_neg (by omega)]
  ·rw [if_neg ci]
end Go.Abs.Try
namespace Go.Abs.Try
open Go Go.Abs
variable {O : Type}
def DS.give (S : DS) (id : Int) : DS × Int :=
 match S.ent id with
 | some e => if e.tk = true then ({ S with L := S.L.set (id - 1).toNat ⟨false, e.gen + 1, e.ws⟩, free := S.free ++ [id] }, 0) else (S, 4)
 | none => (S, 4)
theorem rgive_ok {J : AH O} {S : DS} (hs : S.small) (hg : ∀ e ∈ S.L, 0 <= e.gen /\ e.gen <= 1000) {v : AV} (h : S.at_ v) {id : Int} (hr : -9223372036854775808 <= id /\ id <= 9223372036854775807) : Ok (haymowref10_Give [v, .i .i64 id] J) fun r => (∃ v', r.1 = .tup [v', .i .i64 (S.give id).2] /\ (S.give id).1.at_ v') /\ Ext J r.2 := by
 refine frz_ok (Q := fun v => ∃ v', v = .tup [v', .i .i64 (S.give id).2] /\ (S.give id).1.at_ v') ?_
 have hv := h
 obtain ⟨a, b, rfl, ha, hb⟩ := h
 obtain ⟨sa, va, rfl, ia, ca⟩ := Im.rd ha
 obtain ⟨sb, vb, rfl, ib, cb⟩ := Im.rd hb
 have hsl := hs.l
 have hsf := hs.f
 simp (maxSteps := 2000000) -implicitDefEqProofs (disch := (first | omega | rfl | assumption | (simp only [rsD]; first | omega | assumption))) only [haymowref10_Give_c, Nat.reduceAdd, Nat.reduceMul, Nat.reduceLT, Int.reduceToNat, Int.reduceAdd, Int.reduceSub, Int.reduceMul, rsU, rsC]
 generalize hJ : AH.put _ (J.next + 1) _ = J1
 have b0 : ∃ el, J1.blk J.next = some (.cells true el [.i .i64 S.words, .sl sa S.L.length, .sl sb S.free.length, .i .i64 S.room]) := by rw [<- hJ]; exact ⟨_, (s_bn (by omega)).trans s_bs⟩
 have b1 : ∃ el, J1.blk (J.next + 1) = some (.cells true el [.i .i64 0, .sl .nil 0, .sl .nil 0, .i .i64 0]) := by rw [<- hJ]; exact ⟨_, s_bs⟩
 have E1 : Ext J J1 := by rw [<- hJ]; exact ((((Ext.refl J).bump 2).put (Nat.le_refl _) _).put (by omega) _)
 have n1 : J1.next = J.next + 2 := by rw [<- hJ]; rfl
 clear hJ
 obtain ⟨el0, b0⟩ := b0
 obtain ⟨el1, b1⟩ := b1
 refine Ok.step (ris_ok hs hv hr) fun r ⟨g1, g2⟩ => ?_
 obtain ⟨q, J2⟩ := r
 simp only at g1 g2
 subst g1
 have c0 : J2.blk J.next = _ := (g2.blk _ (by omega)).trans b0
 have c1 : J2.blk (J.next + 1) = _ := (g2.blk _ (by omega)).trans b1
 have bad : S.is id = false -> S.give id = (S, 4) := fun hf => by
  unfold DS.give
  unfold DS.is at hf
  cases he : S.ent id with
  | none => rfl
  | some e => rw [he] at hf; simp only at hf; simp [hf]
 cases hi : S.is id with
 | false =>
  simp (maxSteps := 2000000) -implicitDefEqProofs (disch := (first | omega | rfl | assumption | (simp only [rsD]; first | omega | assumption))) only [c0, c1, Nat.reduceAdd, Nat.reduceMul, Nat.reduceLT, Int.reduceToNat, Int.reduceAdd, Int.reduceSub, Int.reduceMul, rsU, rsC]
  rw [bad hi]
  refine Ok_some.2 ⟨_, [], DS.fzt (DS.fz0 hv), by simp, ?_, _, rfl, hv⟩
  exact ((E1.trans g2).put (by omega) _)
 | true =>
  obtain ⟨e, he⟩ : ∃ e, S.ent id = some e := by
   unfold DS.is at hi
   cases he : S.ent id with
   | none => rw [he] at hi; cases hi
   | some e => exact ⟨e, rfl⟩
  have htk : e.tk = true := by unfold DS.is at hi; rw [he] at hi; exact hi
  obtain ⟨i, rfl, hie, hl⟩ := DS.ent_some he
  have hgv : S.give ((i : Int) + 1) = ({ S with L := S.L.set i ⟨false, e.gen + 1, e.ws⟩, free := S.free ++ [(i : Int) + 1] }, 0) := by
   unfold DS.give
   rw [he]
   simp only [htk, if_true]
   rw [show ((i : Int) + 1 - 1).toNat = i by omega]
  have v0 : (i : Int) + 1 - 1 = i := by omega
  simp (maxSteps := 2000000) -implicitDefEqProofs (disch := (first | omega | rfl | assumption | (simp only [rsD]; first | omega | assumption))) only [c0, Nat.reduceAdd, Nat.reduceMul, Nat.reduceLT, Int.reduceToNat, Int.reduceAdd, Int.reduceSub, Int.reduceMul, rsU, rsC]
  refine Ok.step (rcopied_ok hs hv) fun r ⟨a', vs, L, b', p1, p2, p3, p4, p5, p6, p7, p8, p9, _⟩ => ?_
  obtain ⟨q, J3⟩ := r
  simp only at p1 p2 p3 p4 p9
  subst p1
  have d0 : J3.blk J.next = _ := (p9.blk _ (by have := g2.next; omega)).trans c0
  have d1 : J3.blk (J.next + 1) = _ := (p9.blk _ (by have := g2.next; omega)).trans c1
  obtain ⟨kb, rfl, hkb, hkl⟩ := p2.loc (by omega)
  have hkn := p7 kb (by simp [SA.bk])
  have nx2 := g2.next
  have hvl := p2.len
  have t0 : (S.L.flatMap DE.row)[i * 3 + 0]? = some (.lf (.b e.tk)) := by rw [fmt_get DE.len _ _ _ (by decide), hie]; rfl
  have t1 : (S.L.flatMap DE.row)[i * 3 + 1]? = some (.lf (.i .i64 e.gen)) := by rw [fmt_get DE.len _ _ _ (by decide), hie]; rfl
  rw [Nat.add_zero] at t0
  have w1 := p3.leafGet t1
  have ge := hg e (List.mem_of_getElem? hie)
  have s1 : splice vs (i * 3) [.b false] = vs.set (i * 3) (.b false) := splice_set (by omega)
  have w2 : (vs.set (i * 3) (.b false))[i * 3 + 1]? = some (.i .i64 e.gen) := by rw [List.getElem?_set, if_neg (by omega)]; exact w1
  have s2 : splice (vs.set (i * 3) (.b false)) (i * 3 + 1) [.i .i64 (e.gen + 1)] = (vs.set (i * 3) (.b false)).set (i * 3 + 1) (.i .i64 (e.gen + 1)) := splice_set (by rw [List.length_set]; omega)
  have k1 : Nat.ble (i * 3 + 1) vs.length = true := Nat.ble_eq_true_of_le (by omega)
  have k2 : Nat.ble (i * 3 + 1 + 1) (vs.set (i * 3) (.b false)).length = true := Nat.ble_eq_true_of_le (by rw [List.length_set]; omega)
  simp (maxSteps := 2000000) -implicitDefEqProofs (disch := (first | omega | rfl | assumption | (simp only [rsD]; first | omega | assumption))) only [d0, v0, hkb, k1, s1, w2, k2, s2, Nat.reduceAdd, Nat.reduceMul, Nat.reduceLT, Int.reduceToNat, Int.reduceAdd, Int.reduceSub, Int.reduceMul, rsU, rsC]
  have t1' : ((S.L.flatMap DE.row).set (i * 3) (.lf (.b false)))[i * 3 + 1]? = some (.lf (.i .i64 e.gen)) := by rw [List.getElem?_set, if_neg (by omega)]; exact t1
  have hrows : ((S.L.flatMap DE.row).set (i * 3) (.lf (.b false))).set (i * 3 + 1) (.lf (.i .i64 (e.gen + 1))) = (S.L.set i ⟨false, e.gen + 1, e.ws⟩).flatMap DE.row := by
   have r1 := rows_set (S := S) (i := i) (e := e) ⟨false, e.gen, e.ws⟩ hie 0 (.lf (.b false)) (by decide) rfl
   have r2 := rows_set (S := { S with L := S.L.set i ⟨false, e.gen, e.ws⟩ }) (i := i) (e := ⟨false, e.gen, e.ws⟩) ⟨false, e.gen + 1, e.ws⟩ (by show (S.L.set i _)[i]? = _; rw [List.getElem?_set]; simp [hl]) 1 (.lf (.i .i64 (e.gen + 1))) (by decide) rfl
   simp only [List.set_set, Nat.add_zero] at r1 r2
   rw [r2, r1]
  have q3 := (p3.leafSet t0 (y := .b false) rfl).leafSet t1' (y := .i .i64 (e.gen + 1)) rfl
  rw [hrows] at q3
  have hv2 : ((vs.set (i * 3) (.b false)).set (i * 3 + 1) (.i .i64 (e.gen + 1))).length = S.L.length * 3 := by rw [List.length_set, List.length_set]; exact hvl
  generalize ((vs.set (i * 3) (AV.b false)).set (i * 3 + 1) (AV.i .i64 (e.gen + 1))) = vs2 at *
  have hkL := p5 kb (by simp [SA.bk])
  generalize hJ : AH.put _ J3.next (.cells true 3 _) = J4
  have n4 : J4.next = J3.next + 2 := by rw [<- hJ]; rfl
  have e0 : J4.blk J.next = some (.cells true el0 [.i .i64 S.words, .sl (.loc (.n kb) 0 3) S.L.length, .sl b' S.free.length, .i .i64 S.room]) := by rw [<- hJ]; exact (s_bn (by have := p9.next; omega)).trans ((s_bn (by omega)).trans s_bs)
  have ek : J4.blk kb = some (.cells true T_haymowref10_Entry vs2) := by rw [<- hJ]; exact (s_bn (by omega)).trans s_bs
  have o4 : ∀ b, b ≠ J.next -> b ≠ kb -> b ≠ J3.next -> J4.blk b = J3.blk b := fun b h1 h2 h3 => by rw [<- hJ]; exact (s_bn h3).trans ((s_bn h2).trans (s_bn h1))
  clear hJ
  have nx3 := p9.next
  have own4 : OwnS J4 3 1 b' S.free.length (S.free.map (AV.i .i64)) := p4.of (by omega) fun b hb => o4 b (by have := p8 b hb; omega) (fun e => p6 b hb (by rw [e]; simp [SA.bk])) (by have := p4.lt b hb; omega)
  refine Ok.step (app_ok (nid := J3.next + 1) own4 (fun hm => by have := p4.lt _ hm; omega) (by omega) (show [AV.i .i64 ((i : Int) + 1)].length = 1 * 1 from rfl)) fun q ⟨b2, q4, q5, q6, q7, q8⟩ => ?_
  obtain ⟨q, J5⟩ := q
  simp only at q4 q5 q6 q7
  subst q4
  have nb : ∀ b, b < J2.next -> b ∉ SA.bk b' := fun b hb hm => by have := p8 b hm; omega
  have f0 : J5.blk J.next = _ := (q7 _ (by omega) (nb _ (by omega))).trans e0
  have f1 : J5.blk (J.next + 1) = _ := (q7 _ (by omega) (nb _ (by omega))).trans ((o4 _ (by omega) (by omega) (by omega)).trans d1)
  simp (maxSteps := 2000000) -implicitDefEqProofs (disch := (first | omega | rfl | assumption | (simp only [rsD]; first | omega | assumption))) only [f0, f1, Nat.reduceAdd, Nat.reduceMul, Nat.reduceLT, Int.reduceToNat, Int.reduceAdd, Int.reduceSub, Int.reduceMul, rsU, rsC]
  generalize hJ : AH.put _ (J.next + 1) _ = J6
  have n6 : J6.next = J5.next := by rw [<- hJ]; rfl
  have o6 : ∀ b, b ≠ J.next -> b ≠ J.next + 1 -> J6.blk b = J5.blk b := fun b hb hc => by rw [<- hJ]; exact (s_bn hc).trans (s_bn hb)
  clear hJ
  obtain ⟨S', hS⟩ : ∃ S' : DS, S' = { S with L := S.L.set i ⟨false, e.gen + 1, e.ws⟩, free := S.free ++ [(i : Int) + 1] } := ⟨_, rfl⟩
  rw [hgv, <- hS]
  have eL : S'.L.length = S.L.length := by rw [hS]; exact List.length_set ..
  have eF : S'.free.length = S.free.length + 1 := by rw [hS]; simp
  have eR : S'.L.flatMap DE.row = (S.L.set i ⟨false, e.gen + 1, e.ws⟩).flatMap DE.row := by rw [hS]
  have eG : S'.free.map (AV.i .i64) = S.free.map (AV.i .i64) ++ [.i .i64 ((i : Int) + 1)] := by rw [hS]; simp
  have eW : S'.words = S.words /\ S'.room = S.room := by rw [hS]; exact ⟨rfl, rfl⟩
  clear hS
  have ok6 : OwnS J6 T_haymowref10_Entry 3 (.loc (.n kb) 0 3) S'.L.length vs2 := by
   rw [eL]
   exact OwnS.new hv2 ((o6 kb (by omega) (by omega)).trans ((q7 kb (by omega) (fun hm => p6 kb hm (by simp [SA.bk]))).trans ek)) (by omega)
  have ol6 : OwL J6 (S'.L.flatMap DE.row) vs2 L := by
   rw [eR]
   exact q3.of (by omega) fun b hb => by
    have h1 := p7 b (by simp [hb])
    have h2 := p3.lt b hb
    have h3 : b ≠ kb := fun e => hkL (e ▸ hb)
    exact (o6 b (by omega) (by omega)).trans ((q7 b (by omega) (fun hm => p6 b hm (by simp [hb]))).trans (o4 b (by omega) h3 (by omega)))
  have of6 : OwnS J6 3 1 b2 S'.free.length (S'.free.map (AV.i .i64)) := by
   rw [eF, eG]
   exact q5.of (by omega) fun b hb => o6 b (by have := q8 b hb; omega) (by have := q8 b hb; omega)
  obtain ⟨v', z1, z2⟩ := DS.fz ok6 ol6 of6 p5 fun b hb hm => by
   have h1 := q8 b hb
   rcases List.mem_append.1 hm with hm | hm
   ·simp [SA.bk] at hm; omega
   ·have := p3.lt b hm; omega
  rw [eL, eF, eW.1, eW.2] at z1
  have h06 : J.next <= J6.next := by omega
  refine Ok_some.2 ⟨_, _, DS.fzt z1, fun b hb => ?_, ⟨h06, fun b hb => ?_⟩, v', rfl, z2⟩
  ·simp only [List.mem_append] at hb
   rcases hb with (hb | hb) | hb
   ·have := p7 b (by simp [hb]); omega
   ·have := p7 b (by simp [hb]); omega
   ·have := q8 b hb; omega
  ·show J6.blk b = _
   rw [o6 b (by omega) (by omega), q7 b (by omega) (nb b (by omega)), o4 b (by omega) (by omega) (by omega), p9.blk b (by omega), g2.blk b (by omega), E1.blk b hb]
end Go.Abs.Try
namespace Go.Abs.Try
open Go Go.Abs
variable {O : Type}
end Go.Abs.Try
namespace Go.Abs.Try
open Go Go.Abs
variable {O : Type}
theorem DS.fz2 {J : AH O} {S : DS} {a : SA} {vb vb' : AV} {vs : List AV} {L Lb : List Nat} (o : OwnS J T_haymowref10_Entry 3 a S.L.length vs) (c : OwL J (S.L.flatMap DE.row) vs L) (f2 : FZ 6 J.blk Lb vb vb') (m2 : Im S.tf vb') (d1 : ∀ x ∈ SA.bk a, x ∉ L) (d2 : ∀ x ∈ Lb, x ∉ SA.bk a ++ L) :
  ∃ v', FZ 7 J.blk (SA.bk a ++ L ++ Lb) (.agg [.i .i64 S.words, .sl a S.L.length, vb, .i .i64 S.room]) v' /\ S.at_ v' := by
 obtain ⟨va, f1, m1⟩ := Ow.fz (t := S.tl) (d := 5) (.sl o c d1) S.deep_l
 have h := FZL.cons0 (v := .i .i64 S.words) (FZ.flat rfl) (FZL.cons f1 (FZL.cons f2 (FZL.flat (vs := [.i .i64 S.room]) rfl) (by simp)) fun x hx hm => by
  simp only [List.append_nil] at hm
  exact d2 x hm hx)
 simp only [List.append_nil] at h
 exact ⟨_, FZ.agg h, va, vb', rfl, m1, m2⟩
def DS.taken (S : DS) (i : Nat) (e : DE) (F : List Int) : DS := { S with L := S.L.set i ⟨true, e.gen, List.replicate S.words.toNat 0⟩, free := F }
theorem rtake_old {J : AH O} {S : DS} (hs : S.small) (hW : 0 <= S.words /\ S.words <= 1000) {v : AV} (h : S.at_ v) {F : List Int} {i : Nat} {e : DE} (hF : S.free = F ++ [(i : Int) + 1]) (hie : S.L[i]? = some e) :
  Ok (haymowref10_Take [v] J) fun r => (∃ v', r.1 = .tup [v', .i .i64 ((i : Int) + 1)] /\ (S.taken i e F).at_ v') /\ Ext J r.2 := by
 refine frz_ok (Q := fun v => ∃ v', v = .tup [v', .i .i64 ((i : Int) + 1)] /\ (S.taken i e F).at_ v') ?_
 have hv := h
 obtain ⟨a, b, rfl, ha, hb⟩ := h
 obtain ⟨sa, va, rfl, ia, ca⟩ := Im.rd ha
 obtain ⟨sb, vb, rfl, ib, cb⟩ := Im.rd hb
 have hsl := hs.l
 have hsf := hs.f
 have hl : i < S.L.length := (List.getElem?_eq_some_iff.1 hie).1
 have hfl : S.free.length = F.length + 1 := by rw [hF]; simp
 simp (maxSteps := 2000000) -implicitDefEqProofs (disch := (first | omega | rfl | assumption | (simp only [rsD]; first | omega | assumption))) only [haymowref10_Take_c, Nat.reduceAdd, Nat.reduceMul, Nat.reduceLT, Int.reduceToNat, Int.reduceAdd, Int.reduceSub, Int.reduceMul, rsU, rsC]
 generalize hJ : AH.put _ (J.next + 1) _ = J1
 have b0 : ∃ el, J1.blk J.next = some (.cells true el [.i .i64 S.words, .sl sa S.L.length, .sl sb S.free.length, .i .i64 S.room]) := by rw [<- hJ]; exact ⟨_, (s_bn (by omega)).trans s_bs⟩
 have b1 : ∃ el, J1.blk (J.next + 1) = some (.cells true el [.i .i64 0, .sl .nil 0, .sl .nil 0, .i .i64 0]) := by rw [<- hJ]; exact ⟨_, s_bs⟩
 have E1 : Ext J J1 := by rw [<- hJ]; exact ((((Ext.refl J).bump 2).put (Nat.le_refl _) _).put (by omega) _)
 have n1 : J1.next = J.next + 2 := by rw [<- hJ]; rfl
 clear hJ
 obtain ⟨el0, b0⟩ := b0
 obtain ⟨el1, b1⟩ := b1
 refine Ok.step (rcopied_ok hs hv) fun r ⟨a', vs, L, b', p1, p2, p3, p4, p5, p6, p7, p8, p9, _⟩ => ?_
 obtain ⟨q, J3⟩ := r
 simp only at p1 p2 p3 p4 p9
 subst p1
 have nx3 := p9.next
 have d0 : J3.blk J.next = _ := (p9.blk _ (by omega)).trans b0
 have d1 : J3.blk (J.next + 1) = _ := (p9.blk _ (by omega)).trans b1
 obtain ⟨kb, rfl, hkb, hkl⟩ := p2.loc (by omega)
 obtain ⟨fb, rfl, hfb, hfbl⟩ := p4.loc (by omega)
 have hkn := p7 kb (by simp [SA.bk])
 have hfn := p8 fb (by simp [SA.bk])
 have hfk : fb ≠ kb := fun e => p6 fb (by simp [SA.bk]) (by simp [SA.bk, e])
 have hvl := p2.len
 have t0 : (S.L.flatMap DE.row)[i * 3 + 0]? = some (.lf (.b e.tk)) := by rw [fmt_get DE.len _ _ _ (by decide), hie]; rfl
 have t2 : (S.L.flatMap DE.row)[i * 3 + 2]? = some (.sl T_uint64 1 e.ws.length ((e.ws.map (AV.i .u64)).map TV.lf)) := by rw [fmt_get DE.len _ _ _ (by decide), hie]; rfl
 rw [Nat.add_zero] at t0
 have v0 : (i : Int) + 1 - 1 = i := by omega
 have v1 : ((S.free.length : Int) - 1).toNat = F.length := by omega
 have f1 : (S.free.map (AV.i .i64))[F.length]? = some (.i .i64 ((i : Int) + 1)) := by rw [hF]; simp
 have s1 : splice vs (i * 3) [.b true] = vs.set (i * 3) (.b true) := splice_set (by omega)
 have k1 : Nat.ble (i * 3 + 1) vs.length = true := Nat.ble_eq_true_of_le (by omega)
 have k2 : Nat.ble (i * 3 + 2 + 1) (vs.set (i * 3) (.b true)).length = true := Nat.ble_eq_true_of_le (by rw [List.length_set]; omega)
 have i64r : ((i : Int) + 1) <= 1000 := by omega
 simp (maxSteps := 2000000) -implicitDefEqProofs (disch := (first | omega | rfl | assumption | (simp only [rsD]; first | omega | assumption))) only [d0, d1, v0, v1, hkb, hfb, f1, k1, s1, Nat.sub_zero, k2, u64s_rep, Nat.reduceAdd, Nat.reduceMul, Nat.reduceLT, Int.reduceToNat, Int.reduceAdd, Int.reduceSub, Int.reduceMul, rsU, rsC]
 have s2 : ∀ x, splice (vs.set (i * 3) (.b true)) (i * 3 + 2) [x] = (vs.set (i * 3) (.b true)).set (i * 3 + 2) x := fun x => splice_set (by rw [List.length_set]; omega)
 simp only [s2]
 generalize hJ : AH.put _ (J.next + 1) _ = J6
 have n6 : J6.next = J3.next + 1 := by rw [<- hJ]; rfl
 have o6 : ∀ b, b ≠ J.next -> b ≠ kb -> b ≠ J3.next -> b ≠ J.next + 1 -> J6.blk b = J3.blk b := fun b h1 h2 h3 h4 => by
  rw [<- hJ]; simp -implicitDefEqProofs (disch := omega) only [s_bn, s_bs, s_kn, bump_blk]
 have ew : J6.blk J3.next = some (.cells true T_uint64 (u64s (List.replicate S.words.toNat 0))) := by rw [<- hJ]; simp -implicitDefEqProofs (disch := omega) only [s_bn, s_bs, s_kn, bump_blk]
 have ek : J6.blk kb = some (.cells true T_haymowref10_Entry ((vs.set (i * 3) (.b true)).set (i * 3 + 2) (.sl (.loc (.n J3.next) 0 1) S.words.toNat))) := by rw [<- hJ]; simp -implicitDefEqProofs (disch := omega) only [s_bn, s_bs, s_kn, bump_blk]
 clear hJ
 have q3 := p3.leafSet t0 (y := .b true) rfl
 have t2' : ((S.L.flatMap DE.row).set (i * 3) (.lf (.b true)))[i * 3 + 2]? = some (.sl T_uint64 1 e.ws.length ((e.ws.map (AV.i .u64)).map TV.lf)) := by rw [List.getElem?_set, if_neg (by omega)]; exact t2
 obtain ⟨vw, A, D, B, y1, y2, rfl, y4, y5⟩ := q3.split t2'
 have own6 : OwnS J6 T_uint64 1 (.loc (.n J3.next) 0 1) S.words.toNat (u64s (List.replicate S.words.toNat 0)) := OwnS.new (by rw [u64s_len]; simp) ew (by omega)
 have hkL := p5 kb (by simp [SA.bk])
 have old : ∀ b, b ∈ A ∨ b ∈ B -> J6.blk b = J3.blk b := fun b hb => by
  have hm : b ∈ A ++ (D ++ B) := by rcases hb with hb | hb <;> simp [hb]
  have h1 := p7 b (List.mem_append_right _ hm)
  have h2 := p3.lt b hm
  exact o6 b (by omega) (fun e => hkL (e ▸ hm)) (by omega) (by omega)
 have up := y5 J6 _ _ _ (by omega) old (Ow.leaves own6 (u64s_flat _)) fun b hb => by
  simp [SA.bk] at hb
  subst hb
  exact ⟨fun hm => by have := p3.lt J3.next (by simp [hm]); omega, fun hm => by have := p3.lt J3.next (by simp [hm]); omega⟩
 have hrows : ((S.L.flatMap DE.row).set (i * 3) (.lf (.b true))).set (i * 3 + 2) (.sl T_uint64 1 S.words.toNat ((u64s (List.replicate S.words.toNat 0)).map TV.lf)) = (S.L.set i ⟨true, e.gen, List.replicate S.words.toNat 0⟩).flatMap DE.row := by
  have r1 := rows_set (S := S) (i := i) (e := e) ⟨true, e.gen, e.ws⟩ hie 0 (.lf (.b true)) (by decide) rfl
  have r2 := rows_set (S := { S with L := S.L.set i ⟨true, e.gen, e.ws⟩ }) (i := i) (e := ⟨true, e.gen, e.ws⟩) ⟨true, e.gen, List.replicate S.words.toNat 0⟩ (by show (S.L.set i _)[i]? = _; rw [List.getElem?_set]; simp [hl]) 2 (.sl T_uint64 1 S.words.toNat ((u64s (List.replicate S.words.toNat 0)).map TV.lf)) (by decide) (by simp [DE.row, u64s])
  simp only [List.set_set, Nat.add_zero] at r1 r2
  rw [r2, r1]
 rw [hrows] at up
 obtain ⟨S', hS⟩ : ∃ S' : DS, S' = S.taken i e F := ⟨_, rfl⟩
 rw [<- hS]
 have eL : S'.L.length = S.L.length := by rw [hS]; exact List.length_set ..
 have eF : S'.free = F := by rw [hS]; rfl
 have eR : S'.L.flatMap DE.row = (S.L.set i ⟨true, e.gen, List.replicate S.words.toNat 0⟩).flatMap DE.row := by rw [hS]; rfl
 have eW : S'.words = S.words /\ S'.room = S.room := by rw [hS]; exact ⟨rfl, rfl⟩
 clear hS
 rw [<- eR] at up
 have hv2 : ((vs.set (i * 3) (.b true)).set (i * 3 + 2) (AV.sl (.loc (.n J3.next) 0 1) S.words.toNat)).length = S'.L.length * 3 := by rw [List.length_set, List.length_set, eL]; exact hvl
 have ok6 : OwnS J6 T_haymowref10_Entry 3 (.loc (.n kb) 0 3) S'.L.length _ := OwnS.new hv2 ek (by omega)
 have hf6 : J6.blk fb = _ := (o6 fb (by omega) hfk (by omega) (by omega)).trans hfb
 have htk : (S.free.map (AV.i .i64)).take (F.length * 1) = F.map (AV.i .i64) := by rw [hF]; simp
 obtain ⟨z3, z4⟩ := FZ.pre (d := 4) (H := J6.blk) (L := []) (es := 1) (n := F.length) (cs' := F.map (AV.i .i64)) hf6 rfl (by simp; omega) (by rw [htk]; exact FZL.flat (flat_ints F)) (by simp) (by simp)
 have z5 : Im S'.tf (.sl (.loc (.f (F.map (AV.i .i64))) 0 1) F.length) := by
  unfold DS.tf; rw [eF]
  exact .sl z4 (ImL.lfs (flat_ints F))
 obtain ⟨v', z1, z2⟩ := DS.fz2 ok6 up z3 z5 (fun b hb hm => by
  simp [SA.bk] at hb
  subst hb
  simp [SA.bk] at hm
  rcases hm with hm | hm | hm
  ·exact hkL (by simp [hm])
  ·omega
  ·exact hkL (by simp [hm])) fun b hb hm => by
  simp at hb
  subst hb
  simp [SA.bk] at hm
  rcases hm with hm | hm | hm | hm
  ·exact hfk hm
  ·exact p6 b (by simp [SA.bk]) (by simp [hm])
  ·omega
  ·exact p6 b (by simp [SA.bk]) (by simp [hm])
 rw [eL, eW.1, eW.2] at z1
 have h06 : J.next <= J6.next := by omega
 refine Ok_some.2 ⟨_, _, DS.fzt z1, fun b hb => ?_, ⟨h06, fun b hb => ?_⟩, v', rfl, z2⟩
 ·simp [SA.bk] at hb
  rcases hb with hb | hb | hb | hb | hb
  ·omega
  ·have := p7 b (by simp [hb]); omega
  ·omega
  ·have := p7 b (by simp [hb]); omega
  ·omega
 ·show J6.blk b = _
  rw [o6 b (by omega) (by omega) (by omega) (by omega), p9.blk b (by omega), E1.blk b hb]
end Go.Abs.Try
namespace Go.Abs.Try
open Go Go.Abs
variable {O : Type}
def DS.roomy (S : DS) : Int := if (S.L.length : Int) = S.room then (if 2 * S.room > 8 then 2 * S.room else 8) else S.room
def DS.fresh (S : DS) : DS := { S with L := S.L ++ [⟨true, 0, List.replicate S.words.toNat 0⟩], room := S.roomy }
theorem rtake_new {J : AH O} {S : DS} (hs : S.small) (hW : 0 <= S.words /\ S.words <= 1000) (hR : 0 <= S.room /\ S.room <= 1000000) {v : AV} (h : S.at_ v) (hF : S.free = []) :
  Ok (haymowref10_Take [v] J) fun r => (∃ v', r.1 = .tup [v', .i .i64 ((S.L.length : Int) + 1)] /\ S.fresh.at_ v') /\ Ext J r.2 := by
 refine frz_ok (Q := fun v => ∃ v', v = .tup [v', .i .i64 ((S.L.length : Int) + 1)] /\ S.fresh.at_ v') ?_
 have hv := h
 obtain ⟨a, b, rfl, ha, hb⟩ := h
 obtain ⟨sa, va, rfl, ia, ca⟩ := Im.rd ha
 obtain ⟨sb, vb, rfl, ib, cb⟩ := Im.rd hb
 have hsl := hs.l
 have hf0 : S.free.length = 0 := by rw [hF]; rfl
 simp (maxSteps := 2000000) -implicitDefEqProofs (disch := (first | omega | rfl | assumption | (simp only [rsD]; first | omega | assumption))) only [haymowref10_Take_c, Nat.reduceAdd, Nat.reduceMul, Nat.reduceLT, Int.reduceToNat, Int.reduceAdd, Int.reduceSub, Int.reduceMul, rsU, rsC]
 generalize hJ : AH.put _ (J.next + 1) _ = J1
 have b0 : ∃ el, J1.blk J.next = some (.cells true el [.i .i64 S.words, .sl sa S.L.length, .sl sb S.free.length, .i .i64 S.room]) := by rw [<- hJ]; exact ⟨_, (s_bn (by omega)).trans s_bs⟩
 have b1 : ∃ el, J1.blk (J.next + 1) = some (.cells true el [.i .i64 0, .sl .nil 0, .sl .nil 0, .i .i64 0]) := by rw [<- hJ]; exact ⟨_, s_bs⟩
 have E1 : Ext J J1 := by rw [<- hJ]; exact ((((Ext.refl J).bump 2).put (Nat.le_refl _) _).put (by omega) _)
 have n1 : J1.next = J.next + 2 := by rw [<- hJ]; rfl
 clear hJ
 obtain ⟨el0, b0⟩ := b0
 obtain ⟨el1, b1⟩ := b1
 refine Ok.step (rcopied_ok hs hv) fun r ⟨a', vs, L, b', p1, p2, p3, p4, p5, p6, p7, p8, p9, _⟩ => ?_
 obtain ⟨q, J3⟩ := r
 simp only at p1 p2 p3 p4 p9
 subst p1
 have nx3 := p9.next
 have d0 : J3.blk J.next = _ := (p9.blk _ (by omega)).trans b0
 have d1 : J3.blk (J.next + 1) = _ := (p9.blk _ (by omega)).trans b1
 have hvl := p2.len
 have mid : ∀ {R : Type} (K : List AV × AH O -> Option R) (Q : R -> Prop), (∀ J4 : AH O, J4.next = J3.next -> (∀ b, b ≠ J.next -> J4.blk b = J3.blk b) -> J4.blk J.next = some (.cells true el0 [.i .i64 S.words, .sl a' S.L.length, .sl b' S.free.length, .i .i64 S.roomy]) -> Ok (K ([], J4)) Q) ->
   Ok (K ([], J3.put J.next (.cells true el0 [.i .i64 S.words, .sl a' S.L.length, .sl b' S.free.length, .i .i64 S.roomy]))) Q := fun K Q hK => hK _ rfl (fun b hb => s_bn hb) s_bs
 have go : ∀ J4 : AH O, J4.next = J3.next -> (∀ b, b ≠ J.next -> J4.blk b = J3.blk b) -> J4.blk J.next = some (.cells true el0 [.i .i64 S.words, .sl a' S.L.length, .sl b' S.free.length, .i .i64 S.roomy]) -> True := fun _ _ _ _ => trivial
 have key : ∀ (J0 : AH O), J0.next = J3.next -> (∀ b, b ≠ J.next -> J0.blk b = J3.blk b) -> J0.blk J.next = some (.cells true el0 [.i .i64 S.words, .sl a' S.L.length, .sl b' S.free.length, .i .i64 S.roomy]) ->
   ∀ J4 : AH O, J4 = ((J0.bump 3).put J3.next (.cells true T_uint64 (u64s (List.replicate S.words.toNat 0)))).put (J3.next + 1) (.cells true T_haymowref10_Entry [.b true, .i .i64 0, .sl (.loc (.n J3.next) 0 1) S.words.toNat]) ->
   Ok (AH.appSl J4 (J3.next + 1 + 1) T_haymowref10_Entry 3 a' S.L.length 1 [.b true, .i .i64 0, .sl (.loc (.n J3.next) 0 1) S.words.toNat]) fun r => ∃ a2 vs2 L2, r.1 = .sl a2 (S.L.length + 1) /\ OwnS r.2 T_haymowref10_Entry 3 a2 (S.L.length + 1) vs2 /\ OwL r.2 (S.fresh.L.flatMap DE.row) vs2 L2 /\ (∀ b ∈ SA.bk a2, b ∉ L2) /\ (∀ b ∈ SA.bk a2 ++ L2, J.next + 2 <= b) /\ (∀ b ∈ SA.bk b', b ∉ SA.bk a2 ++ L2) /\ r.2.next = J3.next + 3 /\ r.2.blk J.next = some (.cells true el0 [.i .i64 S.words, .sl a' S.L.length, .sl b' S.free.length, .i .i64 S.roomy]) /\ r.2.blk (J.next + 1) = J3.blk (J.next + 1) /\ (∀ b, b < J.next -> r.2.blk b = J3.blk b) /\ (∀ b ∈ SA.bk b', r.2.blk b = J3.blk b) := by
  intro J0 m0 m1 m2 J4 hJ
  have n4 : J4.next = J3.next + 3 := by rw [hJ]; simp [m0]
  have o4 : ∀ b, b ≠ J3.next -> b ≠ J3.next + 1 -> J4.blk b = J0.blk b := fun b h1 h2 => by rw [hJ]; simp -implicitDefEqProofs (disch := omega) only [s_bn, s_bs, s_kn, bump_blk]
  have ew : J4.blk J3.next = some (.cells true T_uint64 (u64s (List.replicate S.words.toNat 0))) := by rw [hJ]; simp -implicitDefEqProofs (disch := omega) only [s_bn, s_bs, s_kn, bump_blk]
  clear hJ
  have old : ∀ b, b < J3.next -> b ≠ J.next -> J4.blk b = J3.blk b := fun b h1 h2 => (o4 b (by omega) (by omega)).trans (m1 b h2)
  have own4 : OwnS J4 T_haymowref10_Entry 3 a' S.L.length vs := p2.of (by omega) fun b hb => old b (p2.lt b hb) (by have := p7 b (by simp [hb]); omega)
  have ol4 : OwL J4 (S.L.flatMap DE.row) vs L := p3.of (by omega) fun b hb => old b (p3.lt b hb) (by have := p7 b (by simp [hb]); omega)
  have onew : OwnS J4 T_uint64 1 (.loc (.n J3.next) 0 1) S.words.toNat (u64s (List.replicate S.words.toNat 0)) := OwnS.new (by rw [u64s_len]; simp) ew (by omega)
  refine (app_ok (nid := J3.next + 1 + 1) own4 (fun hm => by have := p2.lt _ hm; omega) (by omega) (show [AV.b true, .i .i64 0, .sl (.loc (.n J3.next) 0 1) S.words.toNat].length = 1 * 3 from rfl)).mono ?_
  rintro ⟨q, J5⟩ ⟨a2, q4, q5, q6, q7, q8⟩
  simp only at q4 q5 q6 q7
  subst q4
  have na : ∀ b ∈ SA.bk a', b < J3.next /\ J.next + 2 <= b := fun b hb => ⟨p2.lt b hb, by have := p7 b (by simp [hb]); omega⟩
  have nl : ∀ b ∈ L, b < J3.next /\ J.next + 2 <= b := fun b hb => ⟨p3.lt b hb, by have := p7 b (by simp [hb]); omega⟩
  have ol5 : OwL J5 (S.L.flatMap DE.row) vs L := ol4.of (by omega) fun b hb => q7 b (by have := nl b hb; omega) fun hm => p5 b hm hb
  have on5 : OwnS J5 T_uint64 1 (.loc (.n J3.next) 0 1) S.words.toNat (u64s (List.replicate S.words.toNat 0)) := onew.of (by omega) fun b hb => by
   simp [SA.bk] at hb; subst hb
   exact q7 _ (by omega) fun hm => by have := na _ hm; omega
  have row5 : OwL J5 (DE.row ⟨true, 0, List.replicate S.words.toNat 0⟩) [.b true, .i .i64 0, .sl (.loc (.n J3.next) 0 1) S.words.toNat] ([] ++ ([] ++ ([J3.next] ++ []))) := by
   unfold DE.row
   have := Ow.leaves on5 (u64s_flat _)
   simp only [SA.bk] at this
   refine .cons (.im (.lf rfl)) (.cons (.im (.lf rfl)) (.cons ?_ .nil (by simp)) (by simp)) (by simp)
   simpa [u64s] using this
  have all := ol5.app row5 (fun b hb hm => by simp at hm; have := nl b hb; omega)
  have e1 : S.fresh.L.flatMap DE.row = S.L.flatMap DE.row ++ DE.row ⟨true, 0, List.replicate S.words.toNat 0⟩ := by simp [DS.fresh]
  rw [<- e1] at all
  refine ⟨a2, _, _, rfl, q5, all, fun b hb hm => ?_, fun b hb => ?_, fun b hb hm => ?_, (show J5.next = _ by omega), ?_, ?_, fun b hb => ?_, fun b hb => ?_⟩
  ·have h1 := q8 b hb
   simp at hm
   rcases hm with hm | hm
   ·have := nl b hm; omega
   ·omega
  ·simp at hb
   rcases hb with hb | hb | hb
   ·have := q8 b hb; omega
   ·exact (nl b hb).2
   ·omega
  ·have hbl := p4.lt b hb
   simp at hm
   rcases hm with hm | hm | hm
   ·have := q8 b hm; omega
   ·exact p6 b hb (by simp [hm])
   ·omega
  ·rw [q7 _ (by omega) (fun hm => by have := na _ hm; omega), o4 _ (by omega) (by omega)]; exact m2
  ·rw [q7 _ (by omega) (fun hm => by have := na _ hm; omega)]; exact old _ (by omega) (by omega)
  ·rw [q7 _ (by omega) (fun hm => by have := na _ hm; omega)]; exact old _ (by omega) (by omega)
  ·have hbl := p4.lt b hb
   have := p8 b hb
   rw [q7 _ (by omega) (fun hm => p6 b hb (by simp [hm]))]; exact old _ (by omega) (by omega)
 have fin : ∀ (J5 : AH O) (a2 : SA) (vs2 : List AV) (L2 : List Nat), OwnS J5 T_haymowref10_Entry 3 a2 (S.L.length + 1) vs2 -> OwL J5 (S.fresh.L.flatMap DE.row) vs2 L2 -> (∀ b ∈ SA.bk a2, b ∉ L2) -> (∀ b ∈ SA.bk a2 ++ L2, J.next + 2 <= b) -> (∀ b ∈ SA.bk b', b ∉ SA.bk a2 ++ L2) -> J5.next = J3.next + 3 -> (∀ b, b < J.next -> J5.blk b = J3.blk b) -> (∀ b ∈ SA.bk b', J5.blk b = J3.blk b) ->
   ∀ J6 : AH O, J6.next = J5.next -> (∀ b, b ≠ J.next -> b ≠ J.next + 1 -> J6.blk b = J5.blk b) ->
   Ok (some (AV.tup [.agg [.i .i64 S.words, .sl a2 (S.L.length + 1), .sl b' S.free.length, .i .i64 S.roomy], .i .i64 ((S.L.length : Int) + 1)], J6)) fun r => ∃ v' L, FZ 8 r.2.blk L r.1 v' /\ (∀ b ∈ L, J.next <= b) /\ Ext J r.2 /\ ∃ w, v' = .tup [w, .i .i64 ((S.L.length : Int) + 1)] /\ S.fresh.at_ w := by
  intro J5 a2 vs2 L2 w1 w2 w3 w4 w5 w6 w7 w8 J6 n6 o6
  have eL : S.fresh.L.length = S.L.length + 1 := by simp [DS.fresh]
  have eF : S.fresh.free = S.free := rfl
  have g1 : OwnS J6 T_haymowref10_Entry 3 a2 S.fresh.L.length vs2 := by
   rw [eL]; exact w1.of (by omega) fun b hb => o6 b (by have := w4 b (by simp [hb]); omega) (by have := w4 b (by simp [hb]); omega)
  have g2 : OwL J6 (S.fresh.L.flatMap DE.row) vs2 L2 := w2.of (by omega) fun b hb => o6 b (by have := w4 b (by simp [hb]); omega) (by have := w4 b (by simp [hb]); omega)
  have g3 : OwnS J6 3 1 b' S.fresh.free.length (S.fresh.free.map (AV.i .i64)) := p4.of (by omega) fun b hb => (o6 b (by have := p8 b hb; omega) (by have := p8 b hb; omega)).trans (w8 b hb)
  obtain ⟨v', z1, z2⟩ := DS.fz g1 g2 g3 w3 w5
  rw [eL, eF] at z1
  have h06 : J.next <= J6.next := by omega
  refine Ok_some.2 ⟨_, _, DS.fzt z1, fun b hb => ?_, ⟨h06, fun b hb => ?_⟩, v', rfl, z2⟩
  ·rcases List.mem_append.1 hb with hb | hb
   ·have := w4 b hb; omega
   ·have := p8 b hb; omega
  ·show J6.blk b = _
   rw [o6 b (by omega) (by omega), w7 b hb, p9.blk b (by omega), E1.blk b hb]
 by_cases hr : (S.L.length : Int) = S.room
 ·have q0 := s_eqT hr
  have hro : S.roomy = if 2 * S.room > 8 then 2 * S.room else 8 := if_pos hr
  simp (maxSteps := 2000000) -implicitDefEqProofs (disch := (first | omega | rfl | assumption | (simp only [rsD]; first | omega | assumption))) only [d0, q0, <- hro, u64s_rep, Nat.reduceAdd, Nat.reduceMul, Nat.reduceLT, Int.reduceToNat, Int.reduceAdd, Int.reduceSub, Int.reduceMul, rsU, rsC]
  refine Ok.step (key (J3.put J.next (.cells true el0 [.i .i64 S.words, .sl a' S.L.length, .sl b' S.free.length, .i .i64 S.roomy])) rfl (fun b hb => s_bn hb) s_bs _ rfl) fun r ⟨a2, vs2, L2, k1, k2, k3, k4, k5, k6, k7, k8, k9, k10, k11⟩ => ?_
  obtain ⟨q, J5⟩ := r
  simp only at k1 k2 k3 k7 k8 k9 k10 k11
  subst k1
  rw [d1] at k9
  simp (maxSteps := 2000000) -implicitDefEqProofs (disch := (first | omega | rfl | assumption | (simp only [rsD]; first | omega | assumption))) only [k8, k9, Nat.reduceAdd, Nat.reduceMul, Nat.reduceLT, Int.reduceToNat, Int.reduceAdd, Int.reduceSub, Int.reduceMul, rsU, rsC]
  exact fin J5 a2 vs2 L2 k2 k3 k4 k5 k6 k7 k10 k11 _ rfl fun b h1 h2 => by simp -implicitDefEqProofs (disch := omega) only [s_bn, s_bs, s_kn, bump_blk]
 ·have q0 := s_eqF hr
  have hro : S.roomy = S.room := if_neg hr
  simp (maxSteps := 2000000) -implicitDefEqProofs (disch := (first | omega | rfl | assumption | (simp only [rsD]; first | omega | assumption))) only [d0, q0, u64s_rep, Nat.reduceAdd, Nat.reduceMul, Nat.reduceLT, Int.reduceToNat, Int.reduceAdd, Int.reduceSub, Int.reduceMul, rsU, rsC]
  refine Ok.step (key (J3.put J.next (.cells true el0 [.i .i64 S.words, .sl a' S.L.length, .sl b' S.free.length, .i .i64 S.room])) rfl (fun b hb => s_bn hb) (by rw [hro]; exact s_bs) _ rfl) fun r ⟨a2, vs2, L2, k1, k2, k3, k4, k5, k6, k7, k8, k9, k10, k11⟩ => ?_
  obtain ⟨q, J5⟩ := r
  simp only at k1 k2 k3 k7 k8 k9 k10 k11
  subst k1
  rw [d1] at k9
  simp (maxSteps := 2000000) -implicitDefEqProofs (disch := (first | omega | rfl | assumption | (simp only [rsD]; first | omega | assumption))) only [k8, k9, Nat.reduceAdd, Nat.reduceMul, Nat.reduceLT, Int.reduceToNat, Int.reduceAdd, Int.reduceSub, Int.reduceMul, rsU, rsC]
  exact fin J5 a2 vs2 L2 k2 k3 k4 k5 k6 k7 k10 k11 _ rfl fun b h1 h2 => by simp -implicitDefEqProofs (disch := omega) only [s_bn, s_bs, s_kn, bump_blk]
def DS.count (S : DS) (k : Nat) : Nat := (S.L.take k).countP (·.tk)
end Go.Abs.Try
