/-
  Layer 15: the document's pool beside the program's. No conditions.
-/
import Derived.Test.YtgmffmgbaelohaaR10
import Derived.Test.YtgmffmgbaelohaaM15
set_option linter.unusedVariables false
set_option linter.unusedSimpArgs false
set_option linter.constructorNameAsVariable false
set_option linter.unusedSimpArgs false
set_option linter.unusedVariables false
set_option linter.unusedSectionVars false
set_option maxHeartbeats 1000000
namespace Go.Abs.Try
open Go Go.Abs
variable {O : Type}
structure DSim (D : DS) (P : PoolS) : Prop where
 words : D.words = 5
 pw : P.words = 5
 room : D.room = (P.room : Int)
 len : D.L.length = P.E.length
 el : ∀ (i : Nat) (d : DE), D.L[i]? = some d -> ∃ e, P.E[i]? = some e /\ e.tk = d.tk /\ d.gen = (e.gen : Int) /\ d.ws.length = 5
 free : D.free = (P.free.map fun (i : Nat) => (i : Int)).reverse
structure DBd (k : Nat) (P : PoolS) : Prop where
 e : P.E.length <= k
 g : ∀ e ∈ P.E, e.gen <= k
 r : P.room <= 160
theorem DBd.up {k j : Nat} {P : PoolS} (h : DBd k P) (hj : k <= j) : DBd j P := ⟨by have := h.e; omega, fun e he => by have := h.g e he; omega, h.r⟩
theorem DBd.alike {k : Nat} {P P' : PoolS} (h : DBd k P) (a : Alike P P') : DBd k P' := ⟨by rw [a.len]; exact h.e, fun e he => by
 obtain ⟨i, hi⟩ := List.getElem?_of_mem he
 obtain ⟨e0, h0, _, hg⟩ := a.back hi
 rw [hg]; exact h.g e0 (List.mem_of_getElem? h0), by rw [a.room]; exact h.r⟩
theorem free_len {P : PoolS} {w : List Int} (h : PoolP P w) : P.free.length <= P.E.length + 1 := nodup_le (P.E.length + 1) P.free h.nd fun x hx => by
 obtain ⟨e, h1, h2, _⟩ := fchain_tk h.ch x hx
 have := (List.getElem?_eq_some_iff.1 h2).1; omega
theorem DSim.small {D : DS} {P : PoolS} {w : List Int} {k : Nat} (s : DSim D P) (bd : DBd k P) (hp : PoolP P w) (hk : k <= 80) : D.small := by
 refine ⟨by rw [s.len]; have := bd.e; omega, by rw [s.free]; simp; have := free_len hp; have := bd.e; omega, fun d hd => ?_⟩
 obtain ⟨i, hi⟩ := List.getElem?_of_mem hd
 obtain ⟨_, _, _, _, hw⟩ := s.el i d hi
 omega
theorem DSim.gens {D : DS} {P : PoolS} {k : Nat} (s : DSim D P) (bd : DBd k P) (hk : k <= 80) : ∀ e ∈ D.L, 0 <= e.gen /\ e.gen <= 1000 := fun d hd => by
 obtain ⟨i, hi⟩ := List.getElem?_of_mem hd
 obtain ⟨e, h1, _, h2, _⟩ := s.el i d hi
 have := bd.g e (List.mem_of_getElem? h1)
 omega
theorem DSim.get {D : DS} {P : PoolS} (s : DSim D P) {i : Nat} {e : PE} (he : P.E[i]? = some e) : ∃ d, D.L[i]? = some d /\ d.tk = e.tk /\ d.gen = (e.gen : Int) /\ d.ws.length = 5 := by
 have hi : i < D.L.length := by rw [s.len]; exact (List.getElem?_eq_some_iff.1 he).1
 have hd := List.getElem?_eq_getElem hi
 obtain ⟨e', h1, h2, h3, h4⟩ := s.el i _ hd
 rw [he] at h1; cases h1
 exact ⟨_, hd, h2.symm, h3, h4⟩
theorem DSim.is {D : DS} {P : PoolS} (s : DSim D P) {i : Nat} {e : PE} (he : P.E[i]? = some e) : D.is ((i : Int) + 1) = e.tk := by
 obtain ⟨d, h1, h2, _⟩ := s.get he
 unfold DS.is DS.ent
 rw [if_pos (by omega), show ((i : Int) + 1 - 1).toNat = i by omega, h1]
 exact h2
theorem DSim.not {D : DS} {P : PoolS} (s : DSim D P) {id : Int} (h : id < 1 ∨ (P.E.length : Int) < id) : D.is id = false := by
 unfold DS.is DS.ent
 split
 ·rename_i e he
  split at he
  ·have := (List.getElem?_eq_some_iff.1 he).1
   have := s.len
   omega
  ·cases he
 ·rfl
theorem DSim.alike {D : DS} {P P' : PoolS} (s : DSim D P) (a : Alike P P') : DSim D P' :=
 ⟨s.words, by rw [a.words]; exact s.pw, by rw [a.room]; exact s.room, by rw [a.len]; exact s.len, fun i d hd => by
  obtain ⟨e, h1, h2, h3, h4⟩ := s.el i d hd
  obtain ⟨e', k1, k2, k3⟩ := a.at_ i e h1
  exact ⟨e', k1, by rw [k2]; exact h2, by rw [k3]; exact h3, h4⟩, by rw [a.free]; exact s.free⟩
theorem DSim.take {D : DS} {P : PoolS} {w : List Int} {k : Nat} (s : DSim D P) (bd : DBd k P) (hp : PoolP P w) (hk : k < 80) {v : AV} (hv : D.at_ v) :
  ∃ D', (∀ J' : AH O, Ok (haymowref10_Take [v] J') fun r => (∃ v', r.1 = .tup [v', .i .i64 ((P.took.1 : Int) + 1)] /\ D'.at_ v') /\ Ext J' r.2) /\ DSim D' P.took.2 /\ DBd (k + 1) P.took.2 /\ P.took.1 <= P.E.length /\ P.took.2.E.length = max P.E.length (P.took.1 + 1) /\ P.took.2.room <= 160 := by
 have hsm := s.small bd hp (by omega)
 have hw := s.words
 have hpw := s.pw
 have hmd := hp.made
 have hlen := s.len
 have hbe := bd.e
 have hbr := bd.r
 have hroom := s.room
 have hmore : P.more <= 160 := by
  unfold PoolS.more
  split
  ·exact hbr
  ·rw [Nat.max_def]; split <;> omega
 cases hf : P.free with
 | nil =>
  have hfr : D.free = [] := by rw [s.free, hf]; rfl
  have e0 : P.took = (P.E.length, { P with room := P.more, E := P.E ++ [PE.fresh P.words], taken := P.taken + 1 }) := by unfold PoolS.took; rw [hf]
  rw [e0]
  have hroomy : D.roomy = P.more := by
   unfold DS.roomy PoolS.more
   by_cases cc : P.E.length < P.room
   ·rw [if_neg (by omega), if_pos cc]; exact hroom
   ·rw [if_pos (by omega), if_neg cc, Nat.max_def]
    split <;> split <;> omega
  refine ⟨D.fresh, fun J' => ?_, ⟨hw, hpw, hroomy, ?_, fun j d hd => ?_, ?_⟩, ⟨by simp only [List.length_append, List.length_cons, List.length_nil]; omega, fun e he => ?_, hmore⟩, Nat.le_refl _, by simp only [List.length_append, List.length_cons, List.length_nil]; omega, hmore⟩
  ·have := rtake_new (J := J') hsm (by omega) (by omega) hv hfr
   rw [hlen] at this
   exact this
  ·show (D.L ++ [_]).length = (P.E ++ [_]).length
   simp; omega
  ·simp only [DS.fresh] at hd
   show ∃ e, (P.E ++ [PE.fresh P.words])[j]? = some e /\ _
   rcases Nat.lt_or_ge j D.L.length with hl | hl
   ·rw [List.getElem?_append_left hl] at hd
    rw [List.getElem?_append_left (by omega)]
    exact s.el j d hd
   ·have := (List.getElem?_eq_some_iff.1 hd).1
    simp at this
    obtain rfl : j = D.L.length := by omega
    simp at hd
    subst hd
    exact ⟨PE.fresh P.words, by rw [hlen]; simp, rfl, rfl, by simp [hw]⟩
  ·show D.free = _
   rw [hfr]; simp [hf]
  ·rcases List.mem_append.1 he with h | h
   ·have := bd.g e h; omega
   ·simp at h; subst h; simp [PE.fresh]
 | cons f r =>
  have hch := hp.ch
  rw [hf] at hch
  obtain ⟨⟨e, h1, he, htk, _⟩, _⟩ := hch
  obtain ⟨i, rfl⟩ : ∃ i, f = i + 1 := ⟨f - 1, by omega⟩
  rw [Nat.add_sub_cancel] at he
  have hi := (List.getElem?_eq_some_iff.1 he).1
  have e0 : P.took = (i, { P with E := P.E.set i ⟨true, e.gen, List.replicate P.words 0⟩, free := r, taken := P.taken + 1 }) := by unfold PoolS.took; rw [hf]; simp [he]
  rw [e0]
  obtain ⟨d, hd, d1, d2, d3⟩ := s.get he
  have hfr : D.free = (r.map fun (i : Nat) => (i : Int)).reverse ++ [(i : Int) + 1] := by rw [s.free, hf]; simp
  refine ⟨D.taken i d ((r.map fun (i : Nat) => (i : Int)).reverse), fun J' => rtake_old hsm (by omega) hv hfr hd, ⟨hw, hpw, hroom, ?_, fun j d' hd' => ?_, rfl⟩, ⟨by simp only [List.length_set]; omega, fun e' he' => ?_, hbr⟩, by simp only; omega, by simp only [List.length_set]; omega, hbr⟩
  ·show (D.L.set i _).length = (P.E.set i _).length
   rw [List.length_set, List.length_set]; exact hlen
  ·simp only [DS.taken, List.getElem?_set] at hd'
   show ∃ e, (P.E.set i _)[j]? = some e /\ _
   rw [List.getElem?_set]
   by_cases cj : i = j
   ·subst cj
    rw [if_pos rfl, if_pos (by omega)] at hd'
    simp only [Option.some.injEq] at hd'
    subst hd'
    rw [if_pos rfl, if_pos hi]
    exact ⟨_, rfl, rfl, d2, by simp [hw]⟩
   ·rw [if_neg cj] at hd' ⊢
    exact s.el j d' hd'
  ·rcases List.mem_or_eq_of_mem_set he' with h | h
   ·have := bd.g e' h; omega
   ·subst h
    have := bd.g e (List.mem_of_getElem? he)
    simp only; omega
theorem DSim.give {D : DS} {P : PoolS} (s : DSim D P) {i : Nat} {e : PE} (he : P.E[i]? = some e) (ht : e.tk = true) : D.give ((i : Int) + 1) = ((D.give ((i : Int) + 1)).1, 0) /\ DSim (D.give ((i : Int) + 1)).1 (P.gave i) := by
 obtain ⟨d, hd, d1, d2, d3⟩ := s.get he
 have hi := (List.getElem?_eq_some_iff.1 hd).1
 have hl := s.len
 have ent : D.ent ((i : Int) + 1) = some d := by
  unfold DS.ent
  rw [if_pos (by omega), show ((i : Int) + 1 - 1).toNat = i by omega]; exact hd
 have hg : D.give ((i : Int) + 1) = ({ D with L := D.L.set i ⟨false, d.gen + 1, d.ws⟩, free := D.free ++ [(i : Int) + 1] }, 0) := by
  unfold DS.give
  rw [ent]
  simp only
  rw [if_pos (by rw [d1]; exact ht), show ((i : Int) + 1 - 1).toNat = i by omega]
 rw [hg, gave_of he]
 refine ⟨rfl, s.words, s.pw, s.room, by simp only [List.length_set]; exact hl, fun j d' hd' => ?_, by simp [s.free]⟩
 simp only [List.getElem?_set] at hd' ⊢
 by_cases cj : i = j
 ·subst cj
  rw [if_pos rfl, if_pos hi] at hd'
  simp only [Option.some.injEq] at hd'
  subst hd'
  rw [if_pos rfl, if_pos (by omega)]
  exact ⟨_, rfl, rfl, by simp only; omega, d3⟩
 ·rw [if_neg cj] at hd' ⊢
  exact s.el j d' hd'
theorem gave_bd {P : PoolS} {i k : Nat} (h : ∀ e ∈ P.E, e.gen <= k + 1) (hi : ∀ e, P.E[i]? = some e -> e.gen <= k) : ∀ e ∈ (P.gave i).E, e.gen <= k + 1 := fun e he => by
 unfold PoolS.gave at he
 split at he
 ·rename_i e0 h0
  rcases List.mem_or_eq_of_mem_set he with g | g
  ·exact h e g
  ·subst g
   have := hi e0 h0
   simp only; omega
 ·exact h e he
theorem gaves_bd {k : Nat} : ∀ (l : List Nat) (P : PoolS), l.Nodup -> (∀ e ∈ P.E, e.gen <= k + 1) -> (∀ i ∈ l, ∀ e, P.E[i]? = some e -> e.gen <= k) -> ∀ e ∈ (P.gaves l).E, e.gen <= k + 1
 | [], P, _, h, _ => h
 | i :: l, P, hn, h, hi => by
  show ∀ e ∈ ((P.gave i).gaves l).E, _
  have hn' := List.nodup_cons.1 hn
  refine gaves_bd l (P.gave i) hn'.2 (gave_bd h (hi i List.mem_cons_self)) fun j hj e he => ?_
  rw [gave_other (fun e : j = i => hn'.1 (e ▸ hj))] at he
  exact hi j (List.mem_cons_of_mem _ hj) e he
theorem DBd.gaves {k : Nat} {P : PoolS} (h : DBd k P) {l : List Nat} (hn : l.Nodup) : DBd (k + 1) (P.gaves l) := by
 obtain ⟨_, _, gr, gl⟩ := gaves_id l P
 exact ⟨by rw [gl]; have := h.e; omega, gaves_bd l P hn (fun e he => by have := h.g e he; omega) fun i _ e he => h.g e (List.mem_of_getElem? he), by rw [gr]; exact h.r⟩
end Go.Abs.Try
set_option maxHeartbeats 2000000
namespace Go.Abs.Try
open Go Go.Abs
variable {O : Type}
theorem box2 {J J1 : AH O} {x y : Blk O} (hJ : ((J.bump 2).put J.next x).put (J.next + 1) y = J1) : Ext J J1 /\ J1.next = J.next + 2 /\ J1.blk J.next = some x /\ J1.blk (J.next + 1) = some y := by
 subst hJ
 exact ⟨((((Ext.refl J).bump 2).put (Nat.le_refl _) _).put (by omega) _), rfl, (s_bn (by omega)).trans s_bs, s_bs⟩
def DS.vs (S : DS) (a b : SA) : List AV := [.i .i64 S.words, .sl a S.L.length, .sl b S.free.length, .i .i64 S.room]
theorem DS.sl {S : DS} {v : AV} (h : S.at_ v) : ∃ a b, v = .agg (S.vs a b) := by
 obtain ⟨a, b, rfl, ha, hb⟩ := h
 obtain ⟨sa, va, rfl, _, _⟩ := Im.rd ha
 obtain ⟨sb, vb, rfl, _, _⟩ := Im.rd hb
 exact ⟨sa, sb, rfl⟩
theorem DS.flat {S : DS} {a b : SA} (h : S.at_ (.agg (S.vs a b))) : (AV.sl a S.L.length).flat = true /\ (AV.sl b S.free.length).flat = true := by
 obtain ⟨x, y, e, hx, hy⟩ := h
 simp only [DS.vs, AV.agg.injEq, List.cons.injEq, true_and, and_true] at e
 obtain ⟨rfl, rfl⟩ := e
 exact ⟨hx.flat, hy.flat⟩
structure LD where
 D : DS
 Wd : List (List Int)
 Hr : List Int
 Wt : List Int
 told : Int
def wtree (ws : List Int) : TV := .sl T_uint64 1 ws.length ((ws.map (AV.i .u64)).map TV.lf)
def LD.wtr (S : LD) : TV := .sl 108 1 S.Wd.length (S.Wd.map wtree)
def LD.vs (S : LD) (a b c d e : SA) : List AV := [.i .i64 S.D.words, .sl a S.D.L.length, .sl b S.D.free.length, .i .i64 S.D.room, .sl c S.Wd.length, .sl d S.Hr.length, .sl e S.Wt.length, .i .i64 S.told]
structure LD.st (S : LD) (a b c d e : SA) : Prop where
 fd : S.D.at_ (.agg (S.D.vs a b))
 fw : Im S.wtr (.sl c S.Wd.length)
 fh : Imm 1 d S.Hr.length (S.Hr.map (AV.i .i64))
 ft : Imm 1 e S.Wt.length (S.Wt.map (AV.i .i64))
def LD.at_ (S : LD) (v : AV) : Prop := ∃ a b c d e, v = .agg (S.vs a b c d e) /\ S.st a b c d e
theorem LD.st.at {S : LD} {a b c d e : SA} (h : S.st a b c d e) : S.at_ (.agg (S.vs a b c d e)) := ⟨a, b, c, d, e, rfl, h⟩
theorem LD.fz {J : AH O} {S : LD} {a b c d e c' d' e' : SA} {K1 K2 K3 : List Nat} {k : Nat} (hd : S.D.at_ (.agg (S.D.vs a b)))
  (f1 : FZ (k + 1) J.blk K1 (.sl c S.Wd.length) (.sl c' S.Wd.length)) (m1 : Im S.wtr (.sl c' S.Wd.length))
  (f2 : FZ (k + 1) J.blk K2 (.sl d S.Hr.length) (.sl d' S.Hr.length)) (m2 : Imm 1 d' S.Hr.length (S.Hr.map (AV.i .i64)))
  (f3 : FZ (k + 1) J.blk K3 (.sl e S.Wt.length) (.sl e' S.Wt.length)) (m3 : Imm 1 e' S.Wt.length (S.Wt.map (AV.i .i64)))
  (h1 : ∀ b ∈ K1, b ∉ K2 /\ b ∉ K3) (h2 : ∀ b ∈ K2, b ∉ K3) : FZ (k + 2) J.blk (K1 ++ (K2 ++ K3)) (.agg (S.vs a b c d e)) (.agg (S.vs a b c' d' e')) /\ S.at_ (.agg (S.vs a b c' d' e')) := by
 obtain ⟨fa, fb⟩ := DS.flat hd
 have h := FZL.cons0 (v := .i .i64 S.D.words) (FZ.flat rfl) (FZL.cons0 (FZ.flat fa) (FZL.cons0 (FZ.flat fb) (FZL.cons0 (v := .i .i64 S.D.room) (FZ.flat rfl) (FZL.cons f1 (FZL.cons f2 (FZL.cons f3 (FZL.cons0 (v := .i .i64 S.told) (FZ.flat rfl) FZL.nil) (by simp)) (by simpa using h2)) (fun b hb hm => by
  simp only [List.append_nil, List.mem_append] at hm
  exact hm.elim (h1 b hb).1 (h1 b hb).2)))))
 simp only [List.append_nil] at h
 exact ⟨FZ.agg h, a, b, c', d', e', rfl, hd, m1, m2, m3⟩
theorem LD.fz0 {J : AH O} {S : LD} {a b c d e : SA} (h : S.st a b c d e) : FZ 7 J.blk [] (.agg (S.vs a b c d e)) (.agg (S.vs a b c d e)) :=
 (LD.fz (k := 5) h.fd (FZ.flat h.fw.flat) h.fw (FZ.flat h.fh.flat) h.fh (FZ.flat h.ft.flat) h.ft (by simp) (by simp)).1
theorem fz_tup1 {J : AH O} {L : List Nat} {v v' x : AV} (h : FZ 7 J.blk L v v') (hx : x.flat = true) : FZ 8 J.blk L (.tup [v, x]) (.tup [v', x]) := by
 have := FZ.tup (FZL.cons h (FZL.cons (FZ.flat hx) FZL.nil (by simp)) (by simp))
 simpa using this
theorem fz_tup2 {J : AH O} {L : List Nat} {v v' x y : AV} (h : FZ 7 J.blk L v v') (hx : x.flat = true) (hy : y.flat = true) : FZ 8 J.blk L (.tup [v, x, y]) (.tup [v', x, y]) := by
 have := FZ.tup (FZL.cons h (FZL.cons (FZ.flat hx) (FZL.cons (FZ.flat hy) FZL.nil (by simp)) (by simp)) (by simp))
 simpa using this
theorem cpy_ok {J : AH O} {nb el n : Nat} {vs : List AV} (hv : vs.length = n) (hb : J.blk nb = some (.cells true el [])) (hn : nb + 1 < J.next) :
  Ok (J.appSl (nb + 1) el 1 (.loc (.n nb) 0 1) 0 n vs) fun r => ∃ a', r.1 = .sl a' n /\ OwnS r.2 el 1 a' n vs /\ r.2.next = J.next /\ (∀ b, b < nb -> r.2.blk b = J.blk b) /\ ∀ b ∈ SA.bk a', b = nb + 1 := by
 have own : OwnS J el 1 (.loc (.n nb) 0 1) 0 [] := OwnS.new rfl hb (by omega)
 refine (app_ok (nid := nb + 1) own (by simp [SA.bk]) hn (show vs.length = n * 1 by omega)).mono fun r ⟨a', m1, m2, m3, m4, m5⟩ => ⟨a', by rw [m1, Nat.zero_add], ?_, m3, fun b hb => m4 b (by omega) (by simp [SA.bk]; omega), m5⟩
 rw [Nat.zero_add, List.nil_append] at m2; exact m2
theorem cpy1_ok {J : AH O} {nb el n : Nat} {vs : List AV} {x : AV} (hv : vs.length = n) (hb : J.blk nb = some (.cells true el [])) (hn : nb + 3 < J.next) :
  Ok (J.appSl (nb + 1) el 1 (.loc (.n nb) 0 1) 0 n vs) fun r => ∃ a', r.1 = .sl a' n /\ Ok ((r.2.put (nb + 1 + 1) (.cells true el [x])).appSl (nb + 1 + 1 + 1) el 1 a' n 1 [x]) fun q => ∃ a2, q.1 = .sl a2 (n + 1) /\ OwnS q.2 el 1 a2 (n + 1) (vs ++ [x]) /\ q.2.next = J.next /\ (∀ b, b < nb -> q.2.blk b = J.blk b) /\ ∀ b ∈ SA.bk a2, nb < b /\ b < J.next := by
 refine (cpy_ok hv hb (by omega)).mono fun r ⟨a', m1, m2, m3, m4, m5⟩ => ⟨a', m1, ?_⟩
 generalize hJ : r.2.put (nb + 1 + 1) (.cells true el [x]) = J1
 have n1 : J1.next = J.next := by rw [<- hJ]; exact m3
 have o1 : ∀ b, b ≠ nb + 1 + 1 -> J1.blk b = r.2.blk b := fun b h => by rw [<- hJ]; exact s_bn h
 clear hJ
 have own1 := m2.of (J' := J1) (by omega) fun b hb => o1 b (by have := m5 b hb; omega)
 refine (app_ok (nid := nb + 1 + 1 + 1) own1 (fun hm => by have := m5 _ hm; omega) (by omega) (show ([x] : List AV).length = 1 * 1 from rfl)).mono fun q ⟨a2, k1, k2, k3, k4, k5⟩ => ⟨a2, k1, k2, by omega, fun b hb => ?_, fun b hb => by have := k5 b hb; omega⟩
 rw [k4 b (by omega) (fun hm => by have := m5 _ hm; omega), o1 b (by omega), m4 b hb]
theorem ImL.put {J : AH O} {ts : List TV} {vs : List AV} (h : ImL ts vs) {i : Nat} {t t' : TV} {v' : AV} {K : List Nat} (e : ts[i]? = some t) (ho : Ow J t' v' K) : OwL J (ts.set i t') (vs.set i v') K := by
 obtain ⟨v, L1, L2, L3, g1, g2, g3, g4, g5⟩ := (OwL.im (J := J) h).split e
 have h1 : L1 = [] := (List.append_eq_nil_iff.1 g3.symm).1
 have h3 : L3 = [] := (List.append_eq_nil_iff.1 (List.append_eq_nil_iff.1 g3.symm).2).2
 subst h1; subst h3
 have := g5 J t' v' K (Nat.le_refl _) (fun _ _ => rfl) ho (by simp)
 simpa using this
theorem wfz {J : AH O} {c : SA} {vs : List AV} {K : List Nat} {Wd : List (List Int)} {n : Nat} (hn : Wd.length = n) (o : OwnS J 108 1 c n vs) (ol : OwL J (Wd.map wtree) vs K) (hd : ∀ b ∈ SA.bk c, b ∉ K) : ∃ c', FZ 6 J.blk (SA.bk c ++ K) (.sl c n) (.sl c' n) /\ Im (.sl 108 1 n (Wd.map wtree)) (.sl c' n) := by
 obtain ⟨v', f, m⟩ := (Ow.sl o ol hd).fz (d := 5) (by
  unfold TV.deep
  intro t ht
  obtain ⟨ws, _, rfl⟩ := List.mem_map.1 ht
  unfold wtree TV.deep
  intro t ht
  obtain ⟨v, _, rfl⟩ := List.mem_map.1 ht
  unfold TV.deep; trivial)
 obtain ⟨c', vs', rfl, _⟩ := Im.rd m
 exact ⟨c', f, m⟩
def LD.came (S : LD) (D' : DS) (i : Nat) (n : Int) : LD := { S with D := D', Wd := (if i < S.Wd.length then S.Wd else S.Wd ++ [[]]).set i (List.replicate n.toNat 0), Hr := S.Hr ++ [(i : Int) + 1] }
theorem dadd_ok {J : AH O} {S : LD} {a b c d e : SA} (h : S.st a b c d e) (hl : S.Wd.length <= 1000) (hl2 : S.Hr.length <= 1000) {D' : DS} {i : Nat} (hi : i <= S.Wd.length) {n : Int} (h1 : 1 <= n) (h2 : n <= 4194304)
  (ht : ∀ J' : AH O, Ok (haymowref10_Take [.agg (S.D.vs a b)] J') fun r => (∃ v', r.1 = .tup [v', .i .i64 ((i : Int) + 1)] /\ D'.at_ v') /\ Ext J' r.2) :
  Ok (haymowref15_Add [.agg (S.vs a b c d e), .i .i64 n] J) fun r => (∃ v', r.1 = .tup [v', .i .i64 ((i : Int) + 1), .i .i64 0] /\ (S.came D' i n).at_ v') /\ Ext J r.2 := by
 refine frz_ok (Q := fun v => ∃ v', v = .tup [v', .i .i64 ((i : Int) + 1), .i .i64 0] /\ (S.came D' i n).at_ v') ?_
 simp (maxSteps := 2000000) -implicitDefEqProofs (disch := (first | omega | rfl | assumption | (simp only [rsD]; first | omega | assumption))) only [haymowref15_Add_c, LD.vs, Nat.reduceAdd, Nat.reduceMul, Nat.reduceLT, Int.reduceToNat, Int.reduceAdd, Int.reduceSub, Int.reduceMul, rsU, rsC]
 generalize hJ : AH.put _ (J.next + 1) _ = J1
 obtain ⟨E1, n1, b0, b1⟩ := box2 hJ
 clear hJ
 have ht := ht J1
 simp only [DS.vs] at ht
 refine Ok.step ht fun r ⟨⟨v', g1, g2⟩, E2⟩ => ?_
 obtain ⟨q, J2⟩ := r
 simp only at g1 E2
 subst g1
 obtain ⟨a2, b2, rfl⟩ := DS.sl g2
 have c0 : J2.blk J.next = _ := (E2.blk _ (by omega)).trans b0
 have c1 : J2.blk (J.next + 1) = _ := (E2.blk _ (by omega)).trans b1
 have n2 := E2.next
 obtain ⟨x, vs, e3, iw, cw⟩ := Im.rd h.fw
 cases e3
 have hvl : vs.length = S.Wd.length := by have := cw.len; simpa using this
 have rs := fun J : AH O => (iw O J).rdSl
 simp (maxSteps := 2000000) -implicitDefEqProofs (disch := (first | omega | rfl | assumption | (simp only [rsD]; first | omega | assumption))) only [DS.vs, c0, rs, Nat.reduceAdd, Nat.reduceMul, Nat.reduceLT, Int.reduceToNat, Int.reduceAdd, Int.reduceSub, Int.reduceMul, rsU, rsC]
 generalize hJ : ((J2.put J.next _).bump 2).put J2.next _ = J3
 have n3 : J3.next = J2.next + 2 := by rw [<- hJ]; rfl
 have d0 : J3.blk J.next = some (.cells true T_haymowref15_State (LD.vs ⟨D', S.Wd, S.Hr, S.Wt, S.told⟩ a2 b2 c d e)) := by rw [<- hJ]; exact (s_bn (by omega)).trans s_bs
 have b3 : J3.blk J2.next = some (.cells true 108 []) := by rw [<- hJ]; exact s_bs
 have o3 : ∀ q, q ≠ J.next -> q ≠ J2.next -> J3.blk q = J2.blk q := fun q h1 h2 => by rw [<- hJ]; exact (s_bn h2).trans (s_bn h1)
 clear hJ
 simp only [LD.vs] at d0
 refine Ok.step (cpy_ok hvl b3 (by omega)) fun q ⟨a3, m1, m2, m3, m4, m5⟩ => ?_
 obtain ⟨q, J4⟩ := q
 simp only at m1 m2 m3 m4
 subst m1
 simp (maxSteps := 2000000) -implicitDefEqProofs (disch := (first | omega | rfl | assumption | (simp only [rsD]; first | omega | assumption))) only [Nat.reduceAdd, Nat.reduceMul, Nat.reduceLT, Int.reduceToNat, Int.reduceAdd, Int.reduceSub, Int.reduceMul, rsU, rsC]
 have hv0 : (i : Int) + 1 - 1 = i := by omega
 refine Ok.step (Q := fun r => ∃ a4 vs4 m, m = (if i < S.Wd.length then S.Wd else S.Wd ++ [[]]).length /\ i < m /\ r.1 = [.sl a4 m] /\ OwnS r.2 108 1 a4 m vs4 /\ ImL ((if i < S.Wd.length then S.Wd else S.Wd ++ [[]]).map wtree) vs4 /\ Chg (SA.bk a3) J4 r.2 /\ ∀ b ∈ SA.bk a4, J2.next < b /\ b < r.2.next) ?_ ?_
 ·by_cases hc : i < S.Wd.length
  ·simp (maxSteps := 2000000) -implicitDefEqProofs (disch := (first | omega | rfl | assumption | (simp only [rsD]; first | omega | assumption))) only [Nat.reduceAdd, Nat.reduceMul, Nat.reduceLT, Int.reduceToNat, Int.reduceAdd, Int.reduceSub, Int.reduceMul, rsU, rsC]
   exact Ok_some.2 ⟨a3, vs, S.Wd.length, by rw [if_pos hc], hc, rfl, m2, by rw [if_pos hc]; exact cw, Chg.refl _ _, fun b hb => by have := m5 b hb; simp only; omega⟩
  ·have hie : i = S.Wd.length := by omega
   simp (maxSteps := 2000000) -implicitDefEqProofs (disch := (first | omega | rfl | assumption | (simp only [rsD]; first | omega | assumption))) only [Nat.reduceAdd, Nat.reduceMul, Nat.reduceLT, Int.reduceToNat, Int.reduceAdd, Int.reduceSub, Int.reduceMul, rsU, rsC]
   refine Ok.step (grow1 m2) fun r ⟨a4, k1, k2, k3, k4⟩ => ?_
   obtain ⟨q, J5⟩ := r
   simp only at k1 k2 k3 k4
   subst k1
   simp (maxSteps := 2000000) -implicitDefEqProofs (disch := (first | omega | rfl | assumption | (simp only [rsD]; first | omega | assumption))) only [Nat.reduceAdd, Nat.reduceMul, Nat.reduceLT, Int.reduceToNat, Int.reduceAdd, Int.reduceSub, Int.reduceMul, rsU, rsC]
   have cn : Im (wtree []) (.sl .nil 0) := .sl (Imm.nil 1) .nil
   refine Ok_some.2 ⟨a4, _, S.Wd.length + 1, by rw [if_neg hc]; simp, by omega, rfl, k2, ?_, k3, fun b hb => by have := k4 b hb; simp only; omega⟩
   rw [if_neg hc, List.map_append]
   exact cw.app (.cons cn .nil)
 rintro ⟨rv, J5⟩ ⟨a4, vs4, m, hm, him, e, o5, i5, c5, k5⟩
 simp only at e o5 c5 k5
 subst e
 obtain ⟨kb, rfl, hkb, hkl⟩ := o5.loc (by omega)
 have hk5 := k5 kb (by simp [SA.bk])
 have n5 := c5.next
 have e0 : J5.blk J.next = _ := (c5.blk _ (by omega) (fun hm => by have := m5 _ hm; omega)).trans ((m4 _ (by omega)).trans d0)
 have e1 : J5.blk (J.next + 1) = _ := (c5.blk _ (by omega) (fun hm => by have := m5 _ hm; omega)).trans ((m4 _ (by omega)).trans ((o3 _ (by omega) (by omega)).trans c1))
 have rsH := fun J : AH O => (h.fh O J).rdSl
 have hv4 : vs4.length = m := by have := o5.len; omega
 simp (maxSteps := 2000000) -implicitDefEqProofs (disch := (first | omega | rfl | assumption | (simp only [rsD]; first | omega | assumption))) only [hv0, u64s_rep, hkb, e0, rsH, Int.toNat_natCast, Nat.zero_add, Nat.reduceAdd, Nat.reduceMul, Nat.reduceLT, Int.reduceToNat, Int.reduceAdd, Int.reduceSub, Int.reduceMul, rsU, rsC]
 generalize hJ : ((((((J5.bump 1).put J5.next _).put kb _).put J.next _).bump 4).put (J5.next + 1) _) = J6
 have n6 : J6.next = J5.next + 5 := by rw [<- hJ]; rfl
 have f0 : J6.blk J.next = some (.cells true T_haymowref15_State (LD.vs ⟨D', S.Wd, S.Hr, S.Wt, S.told⟩ a2 b2 (.loc (.n kb) 0 1) d e |>.set 4 (.sl (.loc (.n kb) 0 1) m))) := by rw [<- hJ]; exact (s_bn (by omega)).trans s_bs
 have fk : J6.blk kb = some (.cells true 108 (vs4.set i (.sl (.loc (.n J5.next) 0 1) n.toNat))) := by
  rw [<- hJ, <- splice_set (by omega)]
  exact (s_bn (by omega)).trans ((s_bn (by omega)).trans s_bs)
 have fw : J6.blk J5.next = some (.cells true T_uint64 (u64s (List.replicate n.toNat 0))) := by rw [<- hJ]; exact (s_bn (by omega)).trans ((s_bn (by omega)).trans ((s_bn (by omega)).trans s_bs))
 have fb : J6.blk (J5.next + 1) = some (.cells true 3 []) := by rw [<- hJ]; exact s_bs
 have o6 : ∀ q, q < J5.next -> q ≠ kb -> q ≠ J.next -> J6.blk q = J5.blk q := fun q h1 h2 h3 => by rw [<- hJ]; exact (s_bn (by omega)).trans ((s_bn h3).trans ((s_bn h2).trans (s_bn (by omega))))
 clear hJ
 refine Ok.step (cpy1_ok (x := .i .i64 ((i : Int) + 1)) (by simp) fb (by omega)) fun q ⟨a6, m1, M⟩ => ?_
 obtain ⟨q, J7⟩ := q
 simp only at m1 M
 subst m1
 simp (maxSteps := 2000000) -implicitDefEqProofs (disch := (first | omega | rfl | assumption | (simp only [rsD]; first | omega | assumption))) only [Nat.reduceAdd, Nat.reduceMul, Nat.reduceLT, Int.reduceToNat, Int.reduceAdd, Int.reduceSub, Int.reduceMul, rsU, rsC]
 refine Ok.step M fun q ⟨a8, k1, k2, k3, k4, k5⟩ => ?_
 obtain ⟨q, J8⟩ := q
 simp only at k1 k2 k3 k4
 subst k1
 have g0 : J8.blk J.next = _ := (k4 _ (by omega)).trans f0
 have g1 : J8.blk (J.next + 1) = _ := (k4 _ (by omega)).trans ((o6 _ (by omega) (by omega) (by omega)).trans e1)
 simp only [LD.vs, List.set_cons_succ, List.set_cons_zero] at g0
 simp (maxSteps := 2000000) -implicitDefEqProofs (disch := (first | omega | rfl | assumption | (simp only [rsD]; first | omega | assumption))) only [g0, g1, Nat.reduceAdd, Nat.reduceMul, Nat.reduceLT, Int.reduceToNat, Int.reduceAdd, Int.reduceSub, Int.reduceMul, rsU, rsC]
 generalize hJ : (J8.put J.next _).put (J.next + 1) _ = J9
 have n9 : J9.next = J8.next := by rw [<- hJ]; rfl
 have o9 : ∀ q, q ≠ J.next -> q ≠ J.next + 1 -> J9.blk q = J8.blk q := fun q h1 h2 => by rw [<- hJ]; exact (s_bn h2).trans (s_bn h1)
 clear hJ
 have hW : (S.came D' i n).Wd.length = m := by unfold LD.came; simp only [List.length_set]; exact hm.symm
 have ok9 : OwnS J9 108 1 (.loc (.n kb) 0 1) m (vs4.set i (.sl (.loc (.n J5.next) 0 1) n.toNat)) := OwnS.new (by simp; omega) ((o9 _ (by omega) (by omega)).trans ((k4 _ (by omega)).trans fk)) (by omega)
 have ow9 : OwnS J9 T_uint64 1 (.loc (.n J5.next) 0 1) n.toNat (u64s (List.replicate n.toNat 0)) := OwnS.new (by rw [u64s_len]; simp) ((o9 _ (by omega) (by omega)).trans ((k4 _ (by omega)).trans fw)) (by omega)
 have tr9 : Ow J9 (wtree (List.replicate n.toNat 0)) (.sl (.loc (.n J5.next) 0 1) n.toNat) [J5.next] := by
  have := Ow.leaves ow9 (u64s_flat _)
  simp only [SA.bk] at this
  unfold wtree
  rw [List.length_replicate]; exact this
 have hget : ((if i < S.Wd.length then S.Wd else S.Wd ++ [[]]).map wtree)[i]? = some (wtree ((if i < S.Wd.length then S.Wd else S.Wd ++ [[]])[i]'(by omega))) := by rw [List.getElem?_map, List.getElem?_eq_getElem (by omega)]; rfl
 have ol9 := ImL.put i5 hget tr9
 rw [<- List.map_set] at ol9
 have own8 := k2.of (J' := J9) (by omega) fun q hq => o9 q (by have := k5 q hq; omega) (by have := k5 q hq; omega)
 have eH : S.Hr.map (AV.i .i64) ++ [.i .i64 ((i : Int) + 1)] = (S.came D' i n).Hr.map (AV.i .i64) := by simp [LD.came]
 have lH : S.Hr.length + 1 = (S.came D' i n).Hr.length := by simp [LD.came]
 obtain ⟨c', z1, z2⟩ := wfz (Wd := (S.came D' i n).Wd) hW ok9 ol9 (by simp [SA.bk]; omega)
 rw [eH, lH] at own8
 obtain ⟨d', y1, y2⟩ := FZ.sl (d := 4) own8 (fun _ _ => rfl) (FZL.flat (flat_ints _)) rfl (by simp)
 rw [<- hW] at z1 z2
 obtain ⟨w1, w2⟩ := LD.fz (S := S.came D' i n) (J := J9) g2 z1 z2 y1 y2 (FZ.flat h.ft.flat) h.ft (fun b hb => ⟨fun hm => by
  simp only [SA.bk, List.append_nil, List.mem_append, List.mem_cons, List.not_mem_nil, or_false] at hb hm
  have := k5 b hm
  rcases hb with rfl | rfl <;> omega, by simp⟩) (by simp)
 ·rw [lH, <- hW]
  refine Ok_some.2 ⟨_, _, fz_tup2 w1 rfl rfl, fun q hq => ?_, ⟨by show J.next <= J9.next; omega, fun q hq => ?_⟩, _, rfl, w2⟩
  ·simp only [SA.bk, List.append_nil, List.mem_append, List.mem_cons, List.not_mem_nil, or_false] at hq
   rcases hq with (rfl | rfl) | hq
   ·omega
   ·omega
   ·have := k5 q hq; omega
  ·show J9.blk q = _
   rw [o9 q (by omega) (by omega), k4 q (by omega), o6 q (by omega) (by omega) (by omega), c5.blk q (by omega) (fun hm => by have := m5 _ hm; omega), m4 q (by omega), o3 q (by omega) (by omega), E2.blk q (by omega), E1.blk q hq]
end Go.Abs.Try
namespace Go.Abs.Try
open Go Go.Abs
variable {O : Type}
def q64 (x : Int) : Prop := -9223372036854775808 <= x /\ x <= 9223372036854775807
theorem wrow {S : LD} {a b c d e : SA} (h : S.st a b c d e) {i : Nat} {ws : List Int} (hx : S.Wd[i]? = some ws) : ∃ bb oo w, c = .loc bb oo 1 /\ (∀ (O : Type) (J : AH O), J.ld bb (oo + i) = some (.sl w ws.length)) /\ Imm 1 w ws.length (u64s ws) := by
 obtain ⟨x, vs, e0, iw, cw⟩ := Im.rd h.fw
 cases e0
 obtain ⟨v, hv, im⟩ := cw.get (i := i) (t := wtree ws) (by rw [List.getElem?_map, hx]; rfl)
 unfold wtree at im
 obtain ⟨w, us, rfl, m1, m2⟩ := im.rd
 rw [m2.ofLeaves] at m1
 obtain ⟨bb, oo, e1, _⟩ := (iw Unit ⟨fun _ => none, 0⟩).at1 hv
 refine ⟨bb, oo, w, e1, fun O J => ?_, m1⟩
 obtain ⟨b2, o2, e2, l2⟩ := (iw O J).at1 hv
 rw [e1] at e2; cases e2
 rw [Nat.mul_one] at l2; exact l2
theorem dis_ok {J : AH O} {S : LD} {a b c d e : SA} (h : S.st a b c d e) (hs : S.D.small) {id : Int} (hr : q64 id) : Ok (haymowref15_Is [.agg (S.vs a b c d e), .i .i64 id] J) fun r => r.1 = .b (S.D.is id) /\ Ext J r.2 := by
 have key : ∀ J1 : AH O, Ok (haymowref10_Is [.agg (S.D.vs a b), .i .i64 id] J1) fun r => r.1 = .b (S.D.is id) /\ Ext J1 r.2 := fun J1 => ris_ok hs h.fd hr
 simp only [DS.vs] at key
 simp (maxSteps := 2000000) -implicitDefEqProofs (disch := (first | omega | rfl | assumption | (simp only [rsD]; first | omega | assumption))) only [haymowref15_Is, haymowref15_Is_c, LD.vs, Nat.reduceAdd, Nat.reduceMul, Nat.reduceLT, Int.reduceToNat, Int.reduceAdd, Int.reduceSub, Int.reduceMul, rsU, rsC]
 refine Ok.step (key _) fun r ⟨g1, g2⟩ => ?_
 obtain ⟨q, J2⟩ := r
 simp only at g1 g2
 subst g1
 simp (maxSteps := 2000000) -implicitDefEqProofs (disch := (first | omega | rfl | assumption | (simp only [rsD]; first | omega | assumption))) only [Nat.reduceAdd, Nat.reduceMul, Nat.reduceLT, Int.reduceToNat, Int.reduceAdd, Int.reduceSub, Int.reduceMul, rsU, rsC]
 exact Ok_some.2 ⟨rfl, (((Ext.refl J).bump 1).put (Nat.le_refl _) _).trans g2⟩
def LD.row (S : LD) (id : Int) : List Int := (S.Wd[(id - 1).toNat]?).getD []
def LD.wrong (S : LD) (id at_ : Int) : Int := if S.D.is id = true then (if 0 <= at_ /\ at_ < (S.row id).length then 0 else 11) else 4
theorem DS.is_at {D : DS} {id : Int} (h : D.is id = true) : ∃ i : Nat, id = (i : Int) + 1 /\ i < D.L.length := by
 unfold DS.is at h
 cases he : D.ent id with
 | none => rw [he] at h; cases h
 | some e => obtain ⟨i, h1, _, h2⟩ := DS.ent_some he; exact ⟨i, h1, h2⟩
theorem dwrong_ok {J : AH O} {S : LD} {a b c d e : SA} (h : S.st a b c d e) (hs : S.D.small) (hW : S.D.L.length <= S.Wd.length) {id at_ : Int} (hr : q64 id) : Ok (haymowref15_Wrong [.agg (S.vs a b c d e), .i .i64 id, .i .i64 at_] J) fun r => r.1 = .i .i64 (S.wrong id at_) /\ Ext J r.2 := by
 simp (maxSteps := 2000000) -implicitDefEqProofs (disch := (first | omega | rfl | assumption | (simp only [rsD]; first | omega | assumption))) only [haymowref15_Wrong, haymowref15_Wrong_c, LD.vs, Nat.reduceAdd, Nat.reduceMul, Nat.reduceLT, Int.reduceToNat, Int.reduceAdd, Int.reduceSub, Int.reduceMul, rsU, rsC]
 generalize hJ : AH.put _ J.next _ = J1
 obtain ⟨E1, b1, n1⟩ := boxed hJ
 clear hJ
 have key := dis_ok (J := J1) h hs hr
 simp only [LD.vs] at key
 refine Ok.step key fun r ⟨g1, g2⟩ => ?_
 obtain ⟨q, J2⟩ := r
 simp only at g1 g2
 subst g1
 have b2 : J2.blk J.next = _ := (g2.blk _ (by omega)).trans b1
 unfold LD.wrong
 cases hi : S.D.is id with
 | false =>
  simp (maxSteps := 2000000) -implicitDefEqProofs (disch := (first | omega | rfl | assumption | (simp only [rsD]; first | omega | assumption))) only [Nat.reduceAdd, Nat.reduceMul, Nat.reduceLT, Int.reduceToNat, Int.reduceAdd, Int.reduceSub, Int.reduceMul, rsU, rsC]
  exact Ok_some.2 ⟨rfl, E1.trans g2⟩
 | true =>
  obtain ⟨i, rfl, hil⟩ := DS.is_at hi
  have hiw : i < S.Wd.length := by omega
  have hx := List.getElem?_eq_getElem hiw
  have hrow : S.row ((i : Int) + 1) = S.Wd[i] := by unfold LD.row; rw [show ((i : Int) + 1 - 1).toNat = i by omega, hx]; rfl
  rw [hrow, if_pos rfl]
  generalize S.Wd[i] = ws at hx
  obtain ⟨bb, oo, w, rfl, hld, him⟩ := wrow h hx
  have hld := hld O J2
  have v0 : (i : Int) + 1 - 1 = i := by omega
  unfold q64 at hr
  by_cases c1 : at_ < 0
  ·rw [if_neg (by omega)]
   simp (maxSteps := 2000000) -implicitDefEqProofs (disch := (first | omega | rfl | assumption | (simp only [rsD]; first | omega | assumption))) only [Nat.reduceAdd, Nat.reduceMul, Nat.reduceLT, Int.reduceToNat, Int.reduceAdd, Int.reduceSub, Int.reduceMul, rsU, rsC]
   exact Ok_some.2 ⟨rfl, E1.trans g2⟩
  ·by_cases c2 : at_ < ws.length
   ·rw [if_pos (by omega)]
    simp (maxSteps := 2000000) -implicitDefEqProofs (disch := (first | omega | rfl | assumption | (simp only [rsD]; first | omega | assumption))) only [b2, v0, hld, Nat.reduceAdd, Nat.reduceMul, Nat.reduceLT, Int.reduceToNat, Int.reduceAdd, Int.reduceSub, Int.reduceMul, rsU, rsC]
    exact Ok_some.2 ⟨rfl, E1.trans g2⟩
   ·rw [if_neg (by omega)]
    simp (maxSteps := 2000000) -implicitDefEqProofs (disch := (first | omega | rfl | assumption | (simp only [rsD]; first | omega | assumption))) only [b2, v0, hld, Nat.reduceAdd, Nat.reduceMul, Nat.reduceLT, Int.reduceToNat, Int.reduceAdd, Int.reduceSub, Int.reduceMul, rsU, rsC]
    exact Ok_some.2 ⟨rfl, E1.trans g2⟩
def LD.write (S : LD) (id at_ x : Int) : LD := if S.wrong id at_ = 0 then { S with Wd := S.Wd.set (id - 1).toNat ((S.row id).set at_.toNat x) } else S
theorem dwrite_ok {J : AH O} {S : LD} {a b c d e : SA} (h : S.st a b c d e) (hs : S.D.small) (hW : S.D.L.length <= S.Wd.length) (hl : S.Wd.length <= 1000) (hb : ∀ ws ∈ S.Wd, ws.length <= 4194304) {id at_ x : Int} (hr : q64 id) :
  Ok (haymowref15_Write [.agg (S.vs a b c d e), .i .i64 id, .i .i64 at_, .i .u64 x] J) fun r => (∃ v', r.1 = .tup [v', .i .i64 (S.wrong id at_)] /\ (S.write id at_ x).at_ v') /\ Ext J r.2 := by
 refine frz_ok (Q := fun v => ∃ v', v = .tup [v', .i .i64 (S.wrong id at_)] /\ (S.write id at_ x).at_ v') ?_
 simp (maxSteps := 2000000) -implicitDefEqProofs (disch := (first | omega | rfl | assumption | (simp only [rsD]; first | omega | assumption))) only [haymowref15_Write_c, LD.vs, Nat.reduceAdd, Nat.reduceMul, Nat.reduceLT, Int.reduceToNat, Int.reduceAdd, Int.reduceSub, Int.reduceMul, rsU, rsC]
 generalize hJ : AH.put _ (J.next + 1) _ = J1
 obtain ⟨E1, n1, b0, b1⟩ := box2 hJ
 clear hJ
 have key := dwrong_ok (J := J1) h hs hW hr (at_ := at_)
 simp only [LD.vs] at key
 refine Ok.step key fun r ⟨g1, E2⟩ => ?_
 obtain ⟨q, J2⟩ := r
 simp only at g1 E2
 subst g1
 have c0 : J2.blk J.next = _ := (E2.blk _ (by omega)).trans b0
 have c1 : J2.blk (J.next + 1) = _ := (E2.blk _ (by omega)).trans b1
 have n2 := E2.next
 unfold LD.write
 by_cases hw : S.wrong id at_ = 0
 ·rw [if_pos hw]
  have hi : S.D.is id = true := by
   unfold LD.wrong at hw
   split at hw
   ·assumption
   ·cases hw
  have hat : 0 <= at_ /\ at_ < (S.row id).length := by
   unfold LD.wrong at hw
   rw [if_pos hi] at hw
   split at hw
   ·assumption
   ·cases hw
  rw [hw]
  obtain ⟨i, rfl, hil⟩ := DS.is_at hi
  have hiw : i < S.Wd.length := by omega
  have hx := List.getElem?_eq_getElem hiw
  have hrow : S.row ((i : Int) + 1) = S.Wd[i] := by unfold LD.row; rw [show ((i : Int) + 1 - 1).toNat = i by omega, hx]; rfl
  rw [hrow, show ((i : Int) + 1 - 1).toNat = i by omega]
  rw [hrow] at hat
  generalize S.Wd[i] = ws at hx hat
  have hwb := hb ws (List.mem_of_getElem? hx)
  have v0 : (i : Int) + 1 - 1 = i := by omega
  have z0 : ((0 : Int) != 0) = false := rfl
  unfold q64 at hr
  obtain ⟨xc, vs, e3, iw, cw⟩ := Im.rd h.fw
  cases e3
  have hvl : vs.length = S.Wd.length := by have := cw.len; simpa using this
  obtain ⟨v, hv, im⟩ := cw.get (i := i) (t := wtree ws) (by rw [List.getElem?_map, hx]; rfl)
  unfold wtree at im
  obtain ⟨w, us, rfl, wi, m2⟩ := im.rd
  rw [m2.ofLeaves] at wi
  have rs := fun J : AH O => (iw O J).rdSl
  have rw2 := fun J : AH O => (wi O J).rdSl
  simp (maxSteps := 2000000) -implicitDefEqProofs (disch := (first | omega | rfl | assumption | (simp only [rsD]; first | omega | assumption))) only [c0, rs, z0, Nat.reduceAdd, Nat.reduceMul, Nat.reduceLT, Int.reduceToNat, Int.reduceAdd, Int.reduceSub, Int.reduceMul, rsU, rsC]
  generalize hJ : (J2.bump 2).put J2.next _ = J3
  have n3 : J3.next = J2.next + 2 := by rw [<- hJ]; rfl
  have b3 : J3.blk J2.next = some (.cells true 108 []) := by rw [<- hJ]; exact s_bs
  have o3 : ∀ q, q ≠ J2.next -> J3.blk q = J2.blk q := fun q h2 => by rw [<- hJ]; exact s_bn h2
  clear hJ
  refine Ok.step (cpy_ok hvl b3 (by omega)) fun q ⟨a3, m1, o4, m3, m4, m5⟩ => ?_
  obtain ⟨q, J4⟩ := q
  simp only at m1 o4 m3 m4
  subst m1
  obtain ⟨kb, rfl, hkb, hkl⟩ := o4.loc (by omega)
  have hkn := m5 kb (by simp [SA.bk])
  have hldv : J4.ld (.n kb) (0 + i) = some (.sl w ws.length) := by
   obtain ⟨_, _, e2, l2⟩ := o4.rd.at1 hv
   cases e2; rw [Nat.mul_one] at l2; exact l2
  have hkv : vs[i]? = some (.sl w ws.length) := hv
  simp (maxSteps := 2000000) -implicitDefEqProofs (disch := (first | omega | rfl | assumption | (simp only [rsD]; first | omega | assumption))) only [v0, hkb, hkv, rw2, Int.toNat_natCast, Nat.zero_add, Nat.reduceAdd, Nat.reduceMul, Nat.reduceLT, Int.reduceToNat, Int.reduceAdd, Int.reduceSub, Int.reduceMul, rsU, rsC]
  generalize hJ : (J4.bump 2).put J4.next _ = J5
  have n5 : J5.next = J4.next + 2 := by rw [<- hJ]; rfl
  have b5 : J5.blk J4.next = some (.cells true T_uint64 []) := by rw [<- hJ]; exact s_bs
  have o5 : ∀ q, q ≠ J4.next -> J5.blk q = J4.blk q := fun q h2 => by rw [<- hJ]; exact s_bn h2
  clear hJ
  refine Ok.step (cpy_ok (by rw [List.length_map]) b5 (by omega)) fun q ⟨a6, m1, o6, k3, k4, k5⟩ => ?_
  obtain ⟨q, J6⟩ := q
  simp only at m1 o6 k3 k4
  subst m1
  obtain ⟨jb, rfl, hjb, hjl⟩ := o6.loc (by omega)
  have hjn := k5 jb (by simp [SA.bk])
  have d0 : J6.blk kb = _ := (k4 _ (by omega)).trans ((o5 _ (by omega)).trans hkb)
  have e0 : J6.blk J.next = _ := (k4 _ (by omega)).trans ((o5 _ (by omega)).trans ((m4 _ (by omega)).trans ((o3 _ (by omega)).trans c0)))
  have e1 : J6.blk (J.next + 1) = _ := (k4 _ (by omega)).trans ((o5 _ (by omega)).trans ((m4 _ (by omega)).trans ((o3 _ (by omega)).trans c1)))
  have sp : splice vs i [AV.sl (.loc (.n jb) 0 1) ws.length] = vs.set i (.sl (.loc (.n jb) 0 1) ws.length) := splice_set (by omega)
  have sg : (vs.set i (AV.sl (.loc (.n jb) 0 1) ws.length))[i]? = some (.sl (.loc (.n jb) 0 1) ws.length) := by rw [List.getElem?_set]; simp; omega
  simp (maxSteps := 2000000) -implicitDefEqProofs (disch := (first | omega | rfl | assumption | (simp only [rsD]; first | omega | assumption))) only [v0, d0, e0, e1, hjb, sp, sg, Int.toNat_natCast, Nat.zero_add, List.length_map, Nat.reduceAdd, Nat.reduceMul, Nat.reduceLT, Int.reduceToNat, Int.reduceAdd, Int.reduceSub, Int.reduceMul, rsU, rsC]
  have sw : splice (ws.map (AV.i .u64)) at_.toNat [AV.i .u64 x] = u64s (ws.set at_.toNat x) := by rw [splice_set (by rw [List.length_map]; omega), u64s, List.map_set]
  rw [sw]
  generalize hJ : ((((J6.put kb _).put jb _).put J.next _).put (J.next + 1) _) = J9
  have n9 : J9.next = J6.next := by rw [<- hJ]; rfl
  have o9 : ∀ q, q < J2.next -> q ≠ J.next -> q ≠ J.next + 1 -> J9.blk q = J6.blk q := fun q h0 h1 h2 => by rw [<- hJ]; exact (s_bn h2).trans ((s_bn h1).trans ((s_bn (by omega)).trans (s_bn (by omega))))
  have fk : J9.blk kb = some (.cells true 108 (vs.set i (.sl (.loc (.n jb) 0 1) ws.length))) := by rw [<- hJ]; exact (s_bn (by omega)).trans ((s_bn (by omega)).trans ((s_bn (by omega)).trans s_bs))
  have fj : J9.blk jb = some (.cells true T_uint64 (u64s (ws.set at_.toNat x))) := by rw [<- hJ]; exact (s_bn (by omega)).trans ((s_bn (by omega)).trans s_bs)
  clear hJ
  have ok9 : OwnS J9 108 1 (.loc (.n kb) 0 1) S.Wd.length (vs.set i (.sl (.loc (.n jb) 0 1) ws.length)) := OwnS.new (by simp; omega) fk (by omega)
  have ow9 : OwnS J9 T_uint64 1 (.loc (.n jb) 0 1) ws.length (u64s (ws.set at_.toNat x)) := OwnS.new (by rw [u64s_len]; simp) fj (by omega)
  have tr9 : Ow J9 (wtree (ws.set at_.toNat x)) (.sl (.loc (.n jb) 0 1) ws.length) [jb] := by
   have := Ow.leaves ow9 (u64s_flat _)
   simp only [SA.bk] at this
   unfold wtree
   rw [List.length_set]; exact this
  have hget : (S.Wd.map wtree)[i]? = some (wtree ws) := by rw [List.getElem?_map, hx]; rfl
  have ol9 := ImL.put cw hget tr9
  rw [<- List.map_set] at ol9
  obtain ⟨c', z1, z2⟩ := wfz (Wd := S.Wd.set i (ws.set at_.toNat x)) (by simp) ok9 ol9 (by simp [SA.bk]; omega)
  obtain ⟨w1, w2⟩ := LD.fz (S := { S with Wd := S.Wd.set i (ws.set at_.toNat x) }) (J := J9) (a := a) (b := b) h.fd (by simpa using z1) (by simpa [LD.wtr] using z2) (FZ.flat h.fh.flat) h.fh (FZ.flat h.ft.flat) h.ft (by simp) (by simp)
  simp only [LD.vs, List.length_set] at w1 w2
  refine Ok_some.2 ⟨_, _, fz_tup1 w1 rfl, fun q hq => ?_, ⟨by show J.next <= J9.next; omega, fun q hq => ?_⟩, _, rfl, w2⟩
  ·simp only [SA.bk, List.append_nil, List.mem_append, List.mem_cons, List.not_mem_nil, or_false] at hq
   rcases hq with rfl | rfl <;> omega
  ·show J9.blk q = _
   rw [o9 q (by omega) (by omega) (by omega), k4 q (by omega), o5 q (by omega), m4 q (by omega), o3 q (by omega), E2.blk q (by omega), E1.blk q hq]
 ·rw [if_neg hw]
  have z0 : (S.wrong id at_ != 0) = true := by simp [hw]
  simp (maxSteps := 2000000) -implicitDefEqProofs (disch := (first | omega | rfl | assumption | (simp only [rsD]; first | omega | assumption))) only [c0, c1, z0, Nat.reduceAdd, Nat.reduceMul, Nat.reduceLT, Int.reduceToNat, Int.reduceAdd, Int.reduceSub, Int.reduceMul, rsU, rsC]
  have fz0 := LD.fz0 (J := J2.put (J.next + 1) (.cells true T_haymowref15_State (S.vs a b c d e))) h
  simp only [LD.vs] at fz0
  exact Ok_some.2 ⟨_, [], fz_tup1 fz0 rfl, by simp, (E1.trans E2).put (by omega) _, _, rfl, h.at⟩
end Go.Abs.Try
namespace Go.Abs.Try
open Go Go.Abs
variable {O : Type}
theorem imm_at1 {a : SA} {n : Nat} {cs : List AV} (h : Imm 1 a n cs) {i : Nat} {v : AV} (hv : cs[i]? = some v) : ∃ bb oo, SA.ref a = some (bb, oo) /\ ∀ (O : Type) (J : AH O), J.ld bb (oo + i) = some v := by
 obtain ⟨bb, oo, e1, _⟩ := (h Unit ⟨fun _ => none, 0⟩).at1 hv
 refine ⟨bb, oo, by rw [e1]; rfl, fun O J => ?_⟩
 obtain ⟨b2, o2, e2, l2⟩ := (h O J).at1 hv
 rw [e1] at e2; cases e2
 rw [Nat.mul_one] at l2; exact l2
def LD.begin (S : LD) : LD := { S with Wt := S.Wt ++ S.Hr, Hr := [], told := 0 }
theorem dbegin_ok {J : AH O} {S : LD} {a b c d e : SA} (h : S.st a b c d e) (hl : S.Wt.length <= 1000) (hl2 : S.Hr.length <= 1000) : Ok (haymowref15_Begin [.agg (S.vs a b c d e)] J) fun r => S.begin.at_ r.1 /\ Ext J r.2 := by
 refine frz_ok (Q := fun v => S.begin.at_ v) ?_
 have rT := fun J : AH O => (h.ft O J).rdSl
 have rH := fun J : AH O => (h.fh O J).rdSl
 simp (maxSteps := 2000000) -implicitDefEqProofs (disch := (first | omega | rfl | assumption | (simp only [rsD]; first | omega | assumption))) only [haymowref15_Begin_c, LD.vs, rT, Nat.reduceAdd, Nat.reduceMul, Nat.reduceLT, Int.reduceToNat, Int.reduceAdd, Int.reduceSub, Int.reduceMul, rsU, rsC]
 generalize hJ : AH.put _ (J.next + 2) _ = J1
 have n1 : J1.next = J.next + 5 := by rw [<- hJ]; rfl
 have b0 : J1.blk J.next = some (.cells true T_haymowref15_State (S.vs a b c d e)) := by rw [<- hJ]; simp -implicitDefEqProofs (disch := omega) only [s_bn, s_bs, s_kn, bump_blk]; rfl
 have b1 : ∃ x, J1.blk (J.next + 1) = some (.cells true T_haymowref15_State [.i .i64 0, .sl .nil 0, .sl .nil 0, .i .i64 0, .sl .nil 0, .sl .nil 0, .sl .nil 0, x]) := by rw [<- hJ]; exact ⟨.i .i64 0, (s_bn (by omega)).trans s_bs⟩
 have b2 : J1.blk (J.next + 2) = some (.cells true 3 []) := by rw [<- hJ]; exact s_bs
 have o1 : ∀ q, q < J.next -> J1.blk q = J.blk q := fun q hq => by rw [<- hJ]; exact (s_bn (by omega)).trans ((s_bn (by omega)).trans (s_bn (by omega)))
 clear hJ
 obtain ⟨x1, b1⟩ := b1
 simp only [LD.vs] at b0
 refine Ok.step (cpy_ok (by simp) b2 (by omega)) fun q ⟨a3, m1, m2, m3, m4, m5⟩ => ?_
 obtain ⟨q, J2⟩ := q
 simp only at m1 m2 m3 m4
 subst m1
 have c0 : J2.blk J.next = _ := (m4 _ (by omega)).trans b0
 simp (maxSteps := 2000000) -implicitDefEqProofs (disch := (first | omega | rfl | assumption | (simp only [rsD]; first | omega | assumption))) only [c0, rH, s_chkT, Nat.reduceAdd, Nat.reduceMul, Nat.reduceLT, Int.reduceToNat, Int.reduceAdd, Int.reduceSub, Int.reduceMul, rsU, rsC]
 refine Ok.step (app_ok (nid := J.next + 2 + 1 + 1) m2 (fun hm => by have := m5 _ hm; omega) (by omega) (show (S.Hr.map (AV.i .i64)).length = S.Hr.length * 1 by simp)) fun q ⟨a4, k1, k2, k3, k4, k5⟩ => ?_
 obtain ⟨q, J3⟩ := q
 simp only at k1 k2 k3 k4
 subst k1
 have d0 : J3.blk J.next = _ := (k4 _ (by omega) (fun hm => by have := m5 _ hm; omega)).trans c0
 have d1 : J3.blk (J.next + 1) = _ := (k4 _ (by omega) (fun hm => by have := m5 _ hm; omega)).trans ((m4 _ (by omega)).trans b1)
 simp (maxSteps := 2000000) -implicitDefEqProofs (disch := (first | omega | rfl | assumption | (simp only [rsD]; first | omega | assumption))) only [d0, d1, Nat.reduceAdd, Nat.reduceMul, Nat.reduceLT, Int.reduceToNat, Int.reduceAdd, Int.reduceSub, Int.reduceMul, rsU, rsC]
 generalize hJ : AH.put _ (J.next + 1) _ = J4
 have n4 : J4.next = J3.next := by rw [<- hJ]; rfl
 have o4 : ∀ q, q ≠ J.next -> q ≠ J.next + 1 -> J4.blk q = J3.blk q := fun q h1 h2 => by rw [<- hJ]; simp -implicitDefEqProofs (disch := omega) only [s_bn, s_bs, s_kn, bump_blk]
 clear hJ
 have own4 := k2.of (J' := J4) (by omega) fun q hq => o4 q (by have := k5 q hq; omega) (by have := k5 q hq; omega)
 have e1 : S.Wt.map (AV.i .i64) ++ S.Hr.map (AV.i .i64) = S.begin.Wt.map (AV.i .i64) := by simp [LD.begin]
 have e2 : S.Wt.length + S.Hr.length = S.begin.Wt.length := by simp [LD.begin]
 rw [e1, e2] at own4
 obtain ⟨e', y1, y2⟩ := FZ.sl (d := 5) own4 (fun _ _ => rfl) (FZL.flat (flat_ints _)) rfl (by simp)
 obtain ⟨w1, w2⟩ := LD.fz (S := S.begin) (J := J4) h.fd (FZ.flat h.fw.flat) h.fw (d := .nil) (d' := .nil) (FZ.flat rfl) (Imm.nil 1) y1 y2 (by simp) (by simp)
 rw [e2]
 refine Ok_some.2 ⟨_, _, w1, fun q hq => ?_, ⟨by show J.next <= J4.next; omega, fun q hq => ?_⟩, w2⟩
 ·simp only [List.nil_append, List.append_nil] at hq
  have := k5 q hq; omega
 ·show J4.blk q = _
  rw [o4 q (by omega) (by omega), k4 q (by omega) (fun hm => by have := m5 _ hm; omega), m4 q (by omega), o1 q hq]
def LD.mark (S : LD) (id : Int) : LD := if id ∈ S.Hr then S else { S with Wt := S.Wt.filter (fun x => !(x == id)), Hr := S.Hr ++ [id] }
theorem dmark_ok {J : AH O} {S : LD} {a b c d e : SA} (h : S.st a b c d e) (hl : S.Wt.length <= 1000) (hl2 : S.Hr.length <= 1000) {id : Int} :
  Ok (haymowref15_Mark [.agg (S.vs a b c d e), .i .i64 id] J) fun r => (∃ v', r.1 = .tup [v', .b (decide (id ∉ S.Hr))] /\ (S.mark id).at_ v') /\ Ext J r.2 := by
 refine frz_ok (Q := fun v => ∃ v', v = .tup [v', .b (decide (id ∉ S.Hr))] /\ (S.mark id).at_ v') ?_
 simp (maxSteps := 2000000) -implicitDefEqProofs (disch := (first | omega | rfl | assumption | (simp only [rsD]; first | omega | assumption))) only [haymowref15_Mark_c, LD.vs, Nat.reduceAdd, Nat.reduceMul, Nat.reduceLT, Int.reduceToNat, Int.reduceAdd, Int.reduceSub, Int.reduceMul, rsU, rsC]
 generalize hJ : AH.put _ (J.next + 1) _ = J1
 obtain ⟨E1, n1, b0, b1⟩ := box2 hJ
 clear hJ
 refine Ok.step (has_cells (h.fh O J1) (by omega)) fun r g => ?_
 subst g
 unfold LD.mark
 by_cases hm : id ∈ S.Hr
 ·rw [if_pos hm, decide_eq_true hm, decide_eq_false (show ¬ id ∉ S.Hr from fun h => h hm)]
  simp (maxSteps := 2000000) -implicitDefEqProofs (disch := (first | omega | rfl | assumption | (simp only [rsD]; first | omega | assumption))) only [b0, b1, Nat.reduceAdd, Nat.reduceMul, Nat.reduceLT, Int.reduceToNat, Int.reduceAdd, Int.reduceSub, Int.reduceMul, rsU, rsC]
  have fz0 := LD.fz0 (J := J1.put (J.next + 1) (.cells true T_haymowref15_State (S.vs a b c d e))) h
  simp only [LD.vs] at fz0
  exact Ok_some.2 ⟨_, [], fz_tup1 fz0 rfl, by simp, E1.put (by omega) _, _, rfl, h.at⟩
 ·rw [if_neg hm, decide_eq_false hm, decide_eq_true hm]
  simp (maxSteps := 2000000) -implicitDefEqProofs (disch := (first | omega | rfl | assumption | (simp only [rsD]; first | omega | assumption))) only [Nat.reduceAdd, Nat.reduceMul, Nat.reduceLT, Int.reduceToNat, Int.reduceAdd, Int.reduceSub, Int.reduceMul, rsU, rsC]
  refine Ok.step (Q := fun r => ∃ a', r.1 = [.sl a' (S.Wt.filter (fun x => !(x == id))).length] /\ OwnS r.2 3 1 a' (S.Wt.filter (fun x => !(x == id))).length ((S.Wt.filter (fun x => !(x == id))).map (AV.i .i64)) /\ Ext J1 r.2 /\ ∀ q ∈ SA.bk a', J1.next <= q) ?_ ?_
  ·refine Ok.count S.Wt.length (fun k s => ∃ a' J', s = ([.sl a' ((S.Wt.take k).filter (fun x => !(x == id))).length, .i .i64 (k : Int)], J') /\ OwnS J' 3 1 a' ((S.Wt.take k).filter (fun x => !(x == id))).length (((S.Wt.take k).filter (fun x => !(x == id))).map (AV.i .i64)) /\ Ext J1 J' /\ ∀ q ∈ SA.bk a', J1.next <= q) ?_ ?_ ⟨.nil, J1, rfl, OwnS.nil _ _ _, Ext.refl _, by simp [SA.bk]⟩
   ·rintro k _ hk ⟨a', J', rfl, own, E, fr⟩
    have hx := List.getElem?_eq_getElem hk
    have hS : S.Wt.take (k + 1) = S.Wt.take k ++ [S.Wt[k]] := by rw [List.take_succ_eq_append_getElem hk]
    rw [hS]
    generalize S.Wt[k] = x at hx
    have hv : (S.Wt.map (AV.i .i64))[k]? = some (.i .i64 x) := by rw [List.getElem?_map, hx]; rfl
    obtain ⟨bb, oo, r1, ld⟩ := imm_at1 h.ft hv
    have ld1 := ld O J'
    have ld2 := ld O (J'.bump 2)
    have n' := E.next
    have c0 : J'.blk J.next = _ := (E.blk _ (by omega)).trans b0
    have hll : ((S.Wt.take k).filter (fun x => !(x == id))).length <= k := Nat.le_trans (List.length_filter_le _ _) (by rw [List.length_take]; omega)
    by_cases hxi : x = id
    ·have q0 : (x == id) = true := by simp [hxi]
     have ef : List.filter (fun x => !(x == id)) (S.Wt.take k ++ [x]) = (S.Wt.take k).filter (fun x => !(x == id)) := by simp [hxi]
     rw [ef]
     simp (maxSteps := 2000000) -implicitDefEqProofs (disch := (first | omega | rfl | assumption | (simp only [rsD]; first | omega | assumption))) only [haymowref15_Mark_L1, c0, r1, ld1, q0, Nat.reduceAdd, Nat.reduceMul, Nat.reduceLT, Int.reduceToNat, Int.reduceAdd, Int.reduceSub, Int.reduceMul, rsU, rsC]
     exact Ok_some.2 ⟨a', J', by simp, own, E, fr⟩
    ·have q0 : (x == id) = false := by simp [hxi]
     have ef : List.filter (fun x => !(x == id)) (S.Wt.take k ++ [x]) = (S.Wt.take k).filter (fun x => !(x == id)) ++ [x] := by simp [hxi]
     rw [ef]
     simp (maxSteps := 2000000) -implicitDefEqProofs (disch := (first | omega | rfl | assumption | (simp only [rsD]; first | omega | assumption))) only [haymowref15_Mark_L1, c0, r1, ld1, ld2, q0, Nat.reduceAdd, Nat.reduceMul, Nat.reduceLT, Int.reduceToNat, Int.reduceAdd, Int.reduceSub, Int.reduceMul, rsU, rsC]
     refine Ok.step (grow1 own) fun q ⟨a2, m1, m2, m3, m4⟩ => ?_
     obtain ⟨q, J2⟩ := q
     simp only at m1 m2 m3 m4
     subst m1
     simp (maxSteps := 2000000) -implicitDefEqProofs (disch := (first | omega | rfl | assumption | (simp only [rsD]; first | omega | assumption))) only [Nat.reduceAdd, Nat.reduceMul, Nat.reduceLT, Int.reduceToNat, Int.reduceAdd, Int.reduceSub, Int.reduceMul, rsU, rsC]
     refine Ok_some.2 ⟨a2, J2, by simp, ?_, ⟨by have := m3.next; omega, fun q hq => (m3.blk q (by omega) (fun hm => by have := fr q hm; omega)).trans (E.blk q hq)⟩, fun q hq => by have := m4 q hq; omega⟩
     rw [List.length_append, List.map_append]; exact m2
   ·rintro _ ⟨a', J', rfl, own, E, fr⟩
    have n' := E.next
    have c0 : J'.blk J.next = _ := (E.blk _ (by omega)).trans b0
    simp (maxSteps := 2000000) -implicitDefEqProofs (disch := (first | omega | rfl | assumption | (simp only [rsD]; first | omega | assumption))) only [haymowref15_Mark_L1, c0, Nat.reduceAdd, Nat.reduceMul, Nat.reduceLT, Int.reduceToNat, Int.reduceAdd, Int.reduceSub, Int.reduceMul, rsU, rsC]
    rw [List.take_length] at own
    exact Ok_some.2 ⟨a', by simp, own, E, fr⟩
  ·rintro ⟨rv, J2⟩ ⟨a', e0, own, E, fr⟩
   simp only at e0 own E
   subst e0
   have n2 := E.next
   have c0 : J2.blk J.next = _ := (E.blk _ (by omega)).trans b0
   have c1 : J2.blk (J.next + 1) = _ := (E.blk _ (by omega)).trans b1
   have hll : (S.Wt.filter (fun x => !(x == id))).length <= 1000 := Nat.le_trans (List.length_filter_le _ _) hl
   have rH := fun J : AH O => (h.fh O J).rdSl
   simp (maxSteps := 2000000) -implicitDefEqProofs (disch := (first | omega | rfl | assumption | (simp only [rsD]; first | omega | assumption))) only [c0, rH, Nat.reduceAdd, Nat.reduceMul, Nat.reduceLT, Int.reduceToNat, Int.reduceAdd, Int.reduceSub, Int.reduceMul, rsU, rsC]
   generalize hJ : AH.put _ J2.next _ = J3
   have n3 : J3.next = J2.next + 4 := by rw [<- hJ]; rfl
   have d0 : J3.blk J.next = some (.cells true T_haymowref15_State (LD.vs { S with Wt := S.Wt.filter (fun x => !(x == id)) } a b c d a')) := by rw [<- hJ]; exact (s_bn (by omega)).trans s_bs
   have d2 : J3.blk J2.next = some (.cells true 3 []) := by rw [<- hJ]; exact s_bs
   have o3 : ∀ q, q < J2.next -> q ≠ J.next -> J3.blk q = J2.blk q := fun q hq h1 => by rw [<- hJ]; exact (s_bn (by omega)).trans (s_bn h1)
   clear hJ
   simp only [LD.vs] at d0
   refine Ok.step (cpy1_ok (x := .i .i64 id) (by simp) d2 (by omega)) fun q ⟨a6, m1, M⟩ => ?_
   obtain ⟨q, J4⟩ := q
   simp only at m1 M
   subst m1
   simp (maxSteps := 2000000) -implicitDefEqProofs (disch := (first | omega | rfl | assumption | (simp only [rsD]; first | omega | assumption))) only [Nat.reduceAdd, Nat.reduceMul, Nat.reduceLT, Int.reduceToNat, Int.reduceAdd, Int.reduceSub, Int.reduceMul, rsU, rsC]
   refine Ok.step M fun q ⟨a8, k1, k2, k3, k4, k5⟩ => ?_
   obtain ⟨q, J5⟩ := q
   simp only at k1 k2 k3 k4
   subst k1
   have g0 : J5.blk J.next = _ := (k4 _ (by omega)).trans d0
   have g1 : J5.blk (J.next + 1) = _ := (k4 _ (by omega)).trans ((o3 _ (by omega) (by omega)).trans c1)
   simp (maxSteps := 2000000) -implicitDefEqProofs (disch := (first | omega | rfl | assumption | (simp only [rsD]; first | omega | assumption))) only [g0, g1, Nat.reduceAdd, Nat.reduceMul, Nat.reduceLT, Int.reduceToNat, Int.reduceAdd, Int.reduceSub, Int.reduceMul, rsU, rsC]
   generalize hJ : AH.put _ (J.next + 1) _ = J6
   have n6 : J6.next = J5.next := by rw [<- hJ]; rfl
   have o6 : ∀ q, q ≠ J.next -> q ≠ J.next + 1 -> J6.blk q = J5.blk q := fun q h1 h2 => by rw [<- hJ]; simp -implicitDefEqProofs (disch := omega) only [s_bn, s_bs, s_kn, bump_blk]
   clear hJ
   have ownW := own.of (J' := J6) (by omega) fun q hq => (o6 q (by have := fr q hq; omega) (by have := fr q hq; omega)).trans ((k4 q (own.lt q hq)).trans (o3 q (own.lt q hq) (by have := fr q hq; omega)))
   have ownH := k2.of (J' := J6) (by omega) fun q hq => o6 q (by have := k5 q hq; omega) (by have := k5 q hq; omega)
   have eH : S.Hr.map (AV.i .i64) ++ [.i .i64 id] = (S.Hr ++ [id]).map (AV.i .i64) := by simp
   have lH : S.Hr.length + 1 = (S.Hr ++ [id]).length := by simp
   rw [eH, lH] at ownH
   obtain ⟨d', y1, y2⟩ := FZ.sl (d := 4) ownH (fun _ _ => rfl) (FZL.flat (flat_ints _)) rfl (by simp)
   obtain ⟨e', x1, x2⟩ := FZ.sl (d := 4) ownW (fun _ _ => rfl) (FZL.flat (flat_ints _)) rfl (by simp)
   obtain ⟨w1, w2⟩ := LD.fz (S := { S with Wt := S.Wt.filter (fun x => !(x == id)), Hr := S.Hr ++ [id] }) (J := J6) h.fd (FZ.flat h.fw.flat) h.fw y1 y2 x1 x2 (by simp) (fun q hq hm => by
    simp only [List.append_nil] at hq hm
    have := k5 q hq; have := own.lt q hm; omega)
   rw [lH]
   refine Ok_some.2 ⟨_, _, fz_tup1 w1 rfl, fun q hq => ?_, ⟨by show J.next <= J6.next; have := E1.next; omega, fun q hq => ?_⟩, _, rfl, w2⟩
   ·simp only [List.nil_append, List.append_nil, List.mem_append] at hq
    rcases hq with hq | hq
    ·have := k5 q hq; omega
    ·have := fr q hq; omega
   ·show J6.blk q = _
    rw [o6 q (by omega) (by omega), k4 q (by omega), o3 q (by omega) (by omega), E.blk q (by omega), E1.blk q hq]
end Go.Abs.Try
namespace Go.Abs.Try
open Go Go.Abs
variable {O : Type}
theorem dgrey_no {J : AH O} {S : LD} {a b c d e : SA} (h : S.st a b c d e) (ht : ¬ S.told < S.Hr.length) :
  Ok (haymowref15_Grey [.agg (S.vs a b c d e)] J) fun r => r.1 = .tup [.agg (S.vs a b c d e), .i .i64 0, .b false] /\ Ext J r.2 := by
 simp (maxSteps := 2000000) -implicitDefEqProofs (disch := (first | omega | rfl | assumption | (simp only [rsD]; first | omega | assumption))) only [haymowref15_Grey, haymowref15_Grey_c, LD.vs, Nat.reduceAdd, Nat.reduceMul, Nat.reduceLT, Int.reduceToNat, Int.reduceAdd, Int.reduceSub, Int.reduceMul, rsU, rsC]
 exact Ok_some.2 ⟨rfl, (ext_of (by simp only [put_next, bump_next, kill_next]; omega) (fun b hb => by simp -implicitDefEqProofs (disch := (first | omega | rfl | assumption | (simp only [rsD]; first | omega | assumption))) only [s_bn, s_kn, bump_blk, s_ext]))⟩
theorem dgrey_ok {J : AH O} {S : LD} {a b c d e : SA} (h : S.st a b c d e) (hl : S.Hr.length <= 1000) {t : Nat} (h0 : S.told = (t : Int)) {x : Int} (hx : S.Hr[t]? = some x) :
  Ok (haymowref15_Grey [.agg (S.vs a b c d e)] J) fun r => r.1 = .tup [.agg ({ S with told := S.told + 1 }.vs a b c d e), .i .i64 x, .b true] /\ Ext J r.2 := by
 have ht := (List.getElem?_eq_some_iff.1 hx).1
 have hv : (S.Hr.map (AV.i .i64))[t]? = some (.i .i64 x) := by rw [List.getElem?_map, hx]; rfl
 obtain ⟨bb, oo, r1, ld⟩ := imm_at1 h.fh hv
 have ld := fun J : AH O => ld O J
 have v0 : (t : Int) + 1 - 1 = t := by omega
 simp (maxSteps := 2000000) -implicitDefEqProofs (disch := (first | omega | rfl | assumption | (simp only [rsD]; first | omega | assumption))) only [haymowref15_Grey, haymowref15_Grey_c, LD.vs, h0, r1, ld, v0, Nat.reduceAdd, Nat.reduceMul, Nat.reduceLT, Int.reduceToNat, Int.reduceAdd, Int.reduceSub, Int.reduceMul, rsU, rsC]
 exact Ok_some.2 ⟨rfl, (ext_of (by simp only [put_next, bump_next, kill_next]; omega) (fun b hb => by simp -implicitDefEqProofs (disch := (first | omega | rfl | assumption | (simp only [rsD]; first | omega | assumption))) only [s_bn, s_kn, bump_blk, s_ext]))⟩
def DS.gives (D : DS) (l : List Int) : DS := l.foldl (fun D id => (D.give id).1) D
theorem DS.gives_snoc (D : DS) (l : List Int) (x : Int) : D.gives (l ++ [x]) = ((D.gives l).give x).1 := by unfold DS.gives; rw [List.foldl_append]; rfl
def LD.lens (S : LD) (l : List Int) : Nat := (l.map fun id => (S.row id).length).sum
theorem LD.lens_snoc (S : LD) (l : List Int) (x : Int) : S.lens (l ++ [x]) = S.lens l + (S.row x).length := by simp [LD.lens]
def LD.sweep (S : LD) : LD := { S with D := S.D.gives S.Wt, Wt := [] }
theorem dsweep_ok {J : AH O} {S : LD} {a b c d e : SA} (h : S.st a b c d e) (hl : S.Wt.length <= 1000) (hb : ∀ ws ∈ S.Wd, ws.length <= 4194304) (hW : S.Wd.length <= 1000) (hi : ∀ id ∈ S.Wt, 1 <= id /\ id <= S.Wd.length)
  (hs : ∀ k, (S.D.gives (S.Wt.take k)).small) (hg : ∀ k, ∀ x ∈ (S.D.gives (S.Wt.take k)).L, 0 <= x.gen /\ x.gen <= 1000) :
  Ok (haymowref15_Sweep [.agg (S.vs a b c d e)] J) fun r => (∃ v', r.1 = .tup [v', .i .i64 (S.Wt.length : Int), .i .i64 ((S.lens S.Wt : Nat) : Int)] /\ S.sweep.at_ v') /\ Ext J r.2 := by
 refine frz_ok (Q := fun v => ∃ v', v = .tup [v', .i .i64 (S.Wt.length : Int), .i .i64 ((S.lens S.Wt : Nat) : Int)] /\ S.sweep.at_ v') ?_
 have lb : ∀ k, S.lens (S.Wt.take k) <= k * 4194304 := fun k => by
  have : ∀ l : List Int, S.lens l <= l.length * 4194304 := fun l => by
   induction l with
   | nil => simp [LD.lens]
   | cons x l ih =>
    have hr : (S.row x).length <= 4194304 := by
     unfold LD.row
     cases hx : S.Wd[(x - 1).toNat]? with
     | none => simp
     | some ws => exact hb ws (List.mem_of_getElem? hx)
    simp only [LD.lens, List.map_cons, List.sum_cons, List.length_cons, Nat.succ_mul] at ih ⊢
    omega
  exact Nat.le_trans (this _) (Nat.mul_le_mul_right _ (by rw [List.length_take]; omega))
 simp (maxSteps := 2000000) -implicitDefEqProofs (disch := (first | omega | rfl | assumption | (simp only [rsD]; first | omega | assumption))) only [haymowref15_Sweep_c, LD.vs, Nat.reduceAdd, Nat.reduceMul, Nat.reduceLT, Int.reduceToNat, Int.reduceAdd, Int.reduceSub, Int.reduceMul, rsU, rsC]
 generalize hJ : AH.put _ (J.next + 1) _ = J1
 obtain ⟨E1, n1, b0, b1⟩ := box2 hJ
 clear hJ
 refine Ok.step (Q := fun r => ∃ a' b', r.1 = [.i .i64 ((S.lens S.Wt : Nat) : Int)] /\ (S.D.gives S.Wt).at_ (.agg ((S.D.gives S.Wt).vs a' b')) /\ r.2.blk J.next = some (.cells true T_haymowref15_State ({ S with D := S.D.gives S.Wt }.vs a' b' c d e)) /\ Chg [J.next] J1 r.2) ?_ ?_
 ·refine Ok.count S.Wt.length (fun k s => ∃ a' b' J', s = ([.i .i64 ((S.lens (S.Wt.take k) : Nat) : Int), .i .i64 (k : Int)], J') /\ (S.D.gives (S.Wt.take k)).at_ (.agg ((S.D.gives (S.Wt.take k)).vs a' b')) /\ J'.blk J.next = some (.cells true T_haymowref15_State ({ S with D := S.D.gives (S.Wt.take k) }.vs a' b' c d e)) /\ Chg [J.next] J1 J') ?_ ?_ ⟨a, b, J1, rfl, h.fd, b0, Chg.refl _ _⟩
  ·rintro k _ hk ⟨a', b', J', rfl, st, c0, C⟩
   have hx := List.getElem?_eq_getElem hk
   have hS : S.Wt.take (k + 1) = S.Wt.take k ++ [S.Wt[k]] := by rw [List.take_succ_eq_append_getElem hk]
   have hi := hi _ (List.mem_of_getElem? hx)
   have l1 := lb (k + 1)
   rw [hS] at l1 ⊢
   rw [LD.lens_snoc] at l1 ⊢
   rw [DS.gives_snoc]
   have hsk := hs k
   have hgk := hg k
   generalize S.D.gives (S.Wt.take k) = D at *
   generalize S.Wt[k] = x at *
   have hv : (S.Wt.map (AV.i .i64))[k]? = some (.i .i64 x) := by rw [List.getElem?_map, hx]; rfl
   obtain ⟨bb, oo, r1, ld⟩ := imm_at1 h.ft hv
   have ld := ld O J'
   obtain ⟨i, rfl⟩ : ∃ i : Nat, x = (i : Int) + 1 := ⟨(x - 1).toNat, by omega⟩
   have hiw : i < S.Wd.length := by omega
   have hxw := List.getElem?_eq_getElem hiw
   have hrow : S.row ((i : Int) + 1) = S.Wd[i] := by unfold LD.row; rw [show ((i : Int) + 1 - 1).toNat = i by omega, hxw]; rfl
   rw [hrow] at l1 ⊢
   generalize S.Wd[i] = ws at *
   obtain ⟨bw, ow, w, rfl, hld, _⟩ := wrow h hxw
   have hld := hld O J'
   have v0 : (i : Int) + 1 - 1 = i := by omega
   have key := rgive_ok (J := J') (id := (i : Int) + 1) hsk hgk st (by omega)
   simp only [LD.vs] at c0
   simp only [DS.vs] at key
   simp (maxSteps := 2000000) -implicitDefEqProofs (disch := (first | omega | rfl | assumption | (simp only [rsD]; first | omega | assumption))) only [haymowref15_Sweep_L1, c0, r1, ld, v0, hld, Nat.reduceAdd, Nat.reduceMul, Nat.reduceLT, Int.reduceToNat, Int.reduceAdd, Int.reduceSub, Int.reduceMul, rsU, rsC]
   refine Ok.step key fun r ⟨⟨v', g1, g2⟩, E2⟩ => ?_
   obtain ⟨q, J2⟩ := r
   simp only at g1 E2
   subst g1
   obtain ⟨a2, b2, rfl⟩ := DS.sl g2
   have n' := C.next
   have d0 : J2.blk J.next = _ := (E2.blk _ (by omega)).trans c0
   simp (maxSteps := 2000000) -implicitDefEqProofs (disch := (first | omega | rfl | assumption | (simp only [rsD]; first | omega | assumption))) only [DS.vs, d0, Nat.reduceAdd, Nat.reduceMul, Nat.reduceLT, Int.reduceToNat, Int.reduceAdd, Int.reduceSub, Int.reduceMul, rsU, rsC]
   refine Ok_some.2 ⟨a2, b2, J2.put J.next (.cells true T_haymowref15_State (LD.vs { S with D := (D.give ((i : Int) + 1)).1 } a2 b2 (.loc bw ow 1) d e)), by simp [LD.vs], g2, s_bs, ?_⟩
   exact ⟨by have := E2.next; simp; omega, fun q hq hm => by
    simp only [List.mem_cons, List.not_mem_nil, or_false] at hm
    rw [s_bn hm, E2.blk q (by omega), C.blk q hq (by simpa using hm)]⟩
  ·rintro _ ⟨a', b', J', rfl, st, c0, C⟩
   rw [List.take_length] at st c0 ⊢
   have c0' := c0
   simp only [LD.vs] at c0'
   simp (maxSteps := 2000000) -implicitDefEqProofs (disch := (first | omega | rfl | assumption | (simp only [rsD]; first | omega | assumption))) only [haymowref15_Sweep_L1, c0', Nat.reduceAdd, Nat.reduceMul, Nat.reduceLT, Int.reduceToNat, Int.reduceAdd, Int.reduceSub, Int.reduceMul, rsU, rsC]
   exact Ok_some.2 ⟨a', b', rfl, st, c0, C⟩
 ·rintro ⟨rv, J2⟩ ⟨a', b', e0, st, c0, C⟩
  simp only at e0 c0 C
  subst e0
  simp only [LD.vs] at c0
  have n2 := C.next
  have c1 : J2.blk (J.next + 1) = _ := (C.blk _ (by omega) (by simp)).trans b1
  simp (maxSteps := 2000000) -implicitDefEqProofs (disch := (first | omega | rfl | assumption | (simp only [rsD]; first | omega | assumption))) only [c0, c1, Nat.reduceAdd, Nat.reduceMul, Nat.reduceLT, Int.reduceToNat, Int.reduceAdd, Int.reduceSub, Int.reduceMul, rsU, rsC]
  generalize hJ : AH.put _ (J.next + 1) _ = J3
  have n3 : J3.next = J2.next := by rw [<- hJ]; rfl
  have o3 : ∀ q, q ≠ J.next -> q ≠ J.next + 1 -> J3.blk q = J2.blk q := fun q h1 h2 => by rw [<- hJ]; simp -implicitDefEqProofs (disch := omega) only [s_bn, s_bs, s_kn, bump_blk]
  clear hJ
  obtain ⟨w1, w2⟩ := LD.fz (k := 5) (S := S.sweep) (J := J3) st (FZ.flat h.fw.flat) h.fw (FZ.flat h.fh.flat) h.fh (e := .nil) (e' := .nil) (FZ.flat rfl) (Imm.nil 1) (by simp) (by simp)
  refine Ok_some.2 ⟨_, _, fz_tup2 w1 rfl rfl, by simp, ⟨by show J.next <= J3.next; omega, fun q hq => ?_⟩, _, rfl, w2⟩
  show J3.blk q = _
  rw [o3 q (by omega) (by omega), C.blk q (by omega) (by simp; omega), E1.blk q hq]
def LD.sumTo (S : LD) : Nat -> Int
 | 0 => 0
 | k + 1 => S.sumTo k + (if S.D.is ((k : Int) + 1) = true then ((S.row ((k : Int) + 1)).length : Int) else 0)
theorem LD.sumTo_succ (S : LD) (k : Nat) : S.sumTo (k + 1) = S.sumTo k + (if S.D.is ((k : Int) + 1) = true then ((S.row ((k : Int) + 1)).length : Int) else 0) := rfl
theorem dsum_ok {J : AH O} {S : LD} {a b c d e : SA} (h : S.st a b c d e) (hs : S.D.small) (hl : S.Wd.length <= 1000) (hb : ∀ ws ∈ S.Wd, ws.length <= 4194304) :
  Ok (haymowref15_Sum [.agg (S.vs a b c d e)] J) fun r => r.1 = .i .i64 (S.sumTo S.Wd.length) /\ Ext J r.2 := by
 have sb : ∀ k, 0 <= S.sumTo k /\ S.sumTo k <= k * 4194304 := fun k => by
  induction k with
  | zero => exact ⟨Int.le_refl _, Int.le_refl _⟩
  | succ k ih =>
   have hr : (S.row ((k : Int) + 1)).length <= 4194304 := by
    unfold LD.row
    cases hx : S.Wd[((k : Int) + 1 - 1).toNat]? with
    | none => simp
    | some ws => exact hb ws (List.mem_of_getElem? hx)
   unfold LD.sumTo
   split <;> omega
 simp (maxSteps := 2000000) -implicitDefEqProofs (disch := (first | omega | rfl | assumption | (simp only [rsD]; first | omega | assumption))) only [haymowref15_Sum, haymowref15_Sum_c, LD.vs, Nat.reduceAdd, Nat.reduceMul, Nat.reduceLT, Int.reduceToNat, Int.reduceAdd, Int.reduceSub, Int.reduceMul, rsU, rsC]
 generalize hJ : AH.put _ J.next _ = J1
 obtain ⟨E1, b1, n1⟩ := boxed hJ
 clear hJ
 refine Ok.step (Q := fun r => r.1 = [.i .i64 (S.sumTo S.Wd.length)] /\ Ext J1 r.2) ?_ ?_
 ·refine Ok.count S.Wd.length (fun k s => ∃ J', s = ([.i .i64 (S.sumTo k), .i .i64 ((k : Int) + 1)], J') /\ Ext J1 J') ?_ ?_ ⟨J1, rfl, Ext.refl _⟩
  ·rintro k _ hk ⟨J', rfl, E⟩
   have hx := List.getElem?_eq_getElem hk
   have s0 := sb k
   have s1 := sb (k + 1)
   have hrow : S.row ((k : Int) + 1) = S.Wd[k] := by unfold LD.row; rw [show ((k : Int) + 1 - 1).toNat = k by omega, hx]; rfl
   rw [LD.sumTo_succ] at s1 ⊢
   rw [hrow] at s1 ⊢
   generalize S.Wd[k] = ws at *
   obtain ⟨b2, o2, w, rfl, hld, _⟩ := wrow h hx
   have n' := E.next
   have c0 : J'.blk J.next = _ := (E.blk _ (by omega)).trans b1
   have v0 : (k : Int) + 1 - 1 = k := by omega
   have key := dis_ok (J := J') h hs (id := (k : Int) + 1) (by unfold q64; omega)
   simp only [LD.vs] at key
   simp (maxSteps := 2000000) -implicitDefEqProofs (disch := (first | omega | rfl | assumption | (simp only [rsD]; first | omega | assumption))) only [haymowref15_Sum_L1, c0, Nat.reduceAdd, Nat.reduceMul, Nat.reduceLT, Int.reduceToNat, Int.reduceAdd, Int.reduceSub, Int.reduceMul, rsU, rsC]
   refine Ok.step key fun r ⟨g1, E2⟩ => ?_
   obtain ⟨q, J2⟩ := r
   simp only at g1 E2
   subst g1
   have d0 : J2.blk J.next = _ := (E2.blk _ (by omega)).trans c0
   have hld := hld O J2
   cases hi : S.D.is ((k : Int) + 1) with
   | true =>
    rw [if_pos hi] at s1
    rw [if_pos rfl]
    simp (maxSteps := 2000000) -implicitDefEqProofs (disch := (first | omega | rfl | assumption | (simp only [rsD]; first | omega | assumption))) only [d0, v0, hld, Nat.reduceAdd, Nat.reduceMul, Nat.reduceLT, Int.reduceToNat, Int.reduceAdd, Int.reduceSub, Int.reduceMul, rsU, rsC]
    exact Ok_some.2 ⟨J2, by simp, E.trans E2⟩
   | false =>
    rw [if_neg (by decide)]
    simp (maxSteps := 2000000) -implicitDefEqProofs (disch := (first | omega | rfl | assumption | (simp only [rsD]; first | omega | assumption))) only [d0, Nat.reduceAdd, Nat.reduceMul, Nat.reduceLT, Int.reduceToNat, Int.reduceAdd, Int.reduceSub, Int.reduceMul, rsU, rsC]
    exact Ok_some.2 ⟨J2, by simp, E.trans E2⟩
  ·rintro _ ⟨J', rfl, E⟩
   have n' := E.next
   have c0 : J'.blk J.next = _ := (E.blk _ (by omega)).trans b1
   simp (maxSteps := 2000000) -implicitDefEqProofs (disch := (first | omega | rfl | assumption | (simp only [rsD]; first | omega | assumption))) only [haymowref15_Sum_L1, c0, Nat.reduceAdd, Nat.reduceMul, Nat.reduceLT, Int.reduceToNat, Int.reduceAdd, Int.reduceSub, Int.reduceMul, rsU, rsC]
   exact Ok_some.2 ⟨rfl, E⟩
 ·rintro ⟨rv, J2⟩ ⟨e0, E⟩
  simp only at e0 E
  subst e0
  simp (maxSteps := 2000000) -implicitDefEqProofs (disch := (first | omega | rfl | assumption | (simp only [rsD]; first | omega | assumption))) only [Nat.reduceAdd, Nat.reduceMul, Nat.reduceLT, Int.reduceToNat, Int.reduceAdd, Int.reduceSub, Int.reduceMul, rsU, rsC]
  exact Ok_some.2 ⟨rfl, E1.trans E⟩
end Go.Abs.Try
