/-
  The functions of layer 6: checksums: the laws.
-/
import Derived.Test.YtdbnoocdpbkkpaaV6d
set_option linter.unusedVariables false
set_option linter.unusedSimpArgs false
set_option linter.unusedSimpArgs false
namespace Go.Abs.Try
open Go Go.Abs Go.Abs.Crc
variable {O : Type}

theorem refSum_ok {a : SA} {n : Nat} {bs : List Int} {σ : AH O} (hr : Rd σ 1 a n (bs.map (AV.i .u8))) (hb : Bytes bs) (hn : n ≤ 1000000) :
    Ok (haymowref06_Sum [.sl a n] σ) fun r => Ext σ r.2 ∧ r.1 = .i .u64 (wI (crc 0#64 (bitsB bs))) := by
  simp only [haymowref06_Sum, len0, len1, len2, len3, len4, len5, get0, get1, get2, get3, get4, get5, Option.bind_some, asI_i, asB_b, asS_s, asP_p, asPS_p, asSl_sl, asTup2, asTup3, asTup4, joinB, joinI, beq_true, beq_false, Bool.not_true, Bool.not_false, Bool.not_not, cond_true, cond_false, neI, Int.toNat_natCast, Option.map_some, bindS_inl, bindS_inr, decNN, Bool.and_true, Bool.true_and, decide_true, decide_false]
  refine Ok.step (Q := fun r : AV × AH O => Ext σ r.2 ∧ r.1 = .i .u64 (wI (crc 0#64 (bitsB bs)))) ?_ ?_
  · have := refMore_ok (s := 0#64) hr hb hn
    rw [wI_zero] at this
    exact this
  · rintro ⟨r1, r2⟩ ⟨h1, h2⟩
    simp only at h2
    subst h2
    simp only [len0, len1, len2, len3, len4, len5, get0, get1, get2, get3, get4, get5, Option.bind_some, asI_i, asB_b, asS_s, asP_p, asPS_p, asSl_sl, asTup2, asTup3, asTup4, joinB, joinI, beq_true, beq_false, Bool.not_true, Bool.not_false, Bool.not_not, cond_true, cond_false, neI, Int.toNat_natCast, Option.map_some, bindS_inl, bindS_inr, decNN, Bool.and_true, Bool.true_and, decide_true, decide_false]
    exact Ok_some.2 ⟨h1, rfl⟩

theorem refSeal_ok {a : SA} {n : Nat} {bs : List Int} {σ : AH O} (hr : Rd σ 1 a n (bs.map (AV.i .u8))) (hb : Bytes bs) (hn : n ≤ 100000) :
    Ok (haymowref06_Seal [.sl a n] σ) fun r => Ext σ r.2 ∧ ∃ a', r.1 = .sl a' (n + 8) ∧ Rd r.2 1 a' (n + 8) ((sealed bs).map (AV.i .u8)) := by
  have hl : bs.length = n := by have := hr.len; simpa using this
  simp only [haymowref06_Seal, len0, len1, len2, len3, len4, len5, get0, get1, get2, get3, get4, get5, Ok_bind, Ok_some, Ok_none, Ok_bif, asI_i, asB_b, asS_s, asP_p, asPS_p, asSl_sl, decide_eq_true_eq, asTup2, asTup3, asTup4, joinB, joinI, beq_true, beq_false, Bool.not_true, Bool.not_false, Bool.not_not, cond_true, cond_false, Int.toNat_natCast, Option.map_some, decNN, Bool.and_true, Bool.true_and]
  have e0 : Ext σ ((σ.bump 2).put σ.next (.cells true 5 [])) := ((Ext.refl σ).bump 2).put (Nat.le_refl _) _
  have r0 : Rd ((σ.bump 2).put σ.next (.cells true 5 [])) 1 (.loc σ.next 0 1) 0 [] := Rd.new (el := 5) (by simp) (by simp) rfl
  refine appS_ok (base := σ.next) r0 ⟨Nat.le_refl _, [], by simp⟩ (hr.ext e0) (by omega) (by simp) (by intro o e he; injection he; omega) (by omega) fun a1 σ1 q1 q2 q3 q4 _ => ?_
  simp only [len0, len1, len2, len3, len4, len5, get0, get1, get2, get3, get4, get5, Ok_bind, Ok_some, Ok_none, Ok_bif, asI_i, asB_b, asS_s, asP_p, asPS_p, asSl_sl, decide_eq_true_eq, asTup2, asTup3, asTup4, joinB, joinI, beq_true, beq_false, Bool.not_true, Bool.not_false, Bool.not_not, cond_true, cond_false, Int.toNat_natCast, Option.map_some, decNN, Bool.and_true, Bool.true_and, Nat.zero_add]
  have e1 : Ext σ σ1 := ⟨by rw [q3]; exact e0.next, fun b hb => by
    rw [q4 b (by omega) (by intro o e he; injection he; omega)]
    exact e0.blk b hb⟩
  rw [Nat.zero_add, List.nil_append] at q1
  refine (refSum_ok (hr.ext e1) hb (by omega)).mono fun r ⟨e2, h2⟩ => ?_
  obtain ⟨r1, σ2⟩ := r
  simp only at e2 h2
  subst h2
  simp only [len0, len1, len2, len3, len4, len5, get0, get1, get2, get3, get4, get5, Ok_bind, Ok_some, Ok_none, Ok_bif, asI_i, asB_b, asS_s, asP_p, asPS_p, asSl_sl, decide_eq_true_eq, asTup2, asTup3, asTup4, joinB, joinI, beq_true, beq_false, Bool.not_true, Bool.not_false, Bool.not_not, cond_true, cond_false, Int.toNat_natCast, Option.map_some, decNN, Bool.and_true, Bool.true_and]
  have ho2 : Own σ.next σ2 5 a1 := Own.ext q2 q1 e2
  generalize hs : crc 0#64 (bitsB bs) = s at *
  refine Ok.mono (Q := fun r : List AV × AH O => Ext σ r.2 ∧ ∃ a', r.1 = [.sl a' (n + 8)] ∧ Rd r.2 1 a' (n + 8) ((sealed bs).map (AV.i .u8)))
    (Ok.count 8 (fun k (st : List AV × AH O) => ∃ (a' : SA) (σ3 : AH O), st = ([.sl a' (n + k), .i .i64 (7 - (k : Int))], σ3) ∧ Ext σ σ3 ∧ Rd σ3 1 a' (n + k) ((bs ++ (bytesW s).take k).map (AV.i .u8)) ∧ Own σ.next σ3 5 a') ?_ ?_ ⟨a1, σ2, rfl, e1.trans e2, by simpa using q1.ext e2, ho2⟩) ?_
  · rintro k st hk ⟨a', σ3, rfl, he, h3, h4⟩
    have hge : ((7 - (k : Int)) ≥ 0) := by omega
    have e5 : IntKind.u64.wrap (IntKind.i64.wrap (8 * (7 - (k : Int)))) = ((56 - 8 * k : Nat) : Int) := by rw [i64_id (by omega) (by omega), u64_id (by omega) (by omega)]; omega
    have hmin : min (56 - 8 * k) 64 = 56 - 8 * k := by omega
    have hneg : ¬ (((56 - 8 * k : Nat) : Int) < 0) := by omega
    have e6 : IntKind.u8.wrap (Int.fdiv (wI s) (2 ^ (56 - 8 * k))) = wI s / 2 ^ (56 - 8 * k) % 256 := by
      rw [Int.fdiv_eq_ediv_of_nonneg _ (Int.le_of_lt (Int.pow_pos (by omega))), wrap_u8]
    simp only [len0, len1, len2, len3, len4, len5, get0, get1, get2, get3, get4, get5, Option.bind_some, asI_i, asB_b, asS_s, asP_p, asPS_p, asSl_sl, asTup2, asTup3, asTup4, joinB, joinI, beq_true, beq_false, Bool.not_true, Bool.not_false, Bool.not_not, cond_true, cond_false, neI, Int.toNat_natCast, Option.map_some, bindS_inl, bindS_inr, decNN, Bool.and_true, Bool.true_and, decide_true, decide_false, hge, e5, hneg, hmin, e6]
    simp only [len0, len1, len2, len3, len4, len5, get0, get1, get2, get3, get4, get5, Ok_bind, Ok_some, Ok_none, Ok_bif, asI_i, asB_b, asS_s, asP_p, asPS_p, asSl_sl, decide_eq_true_eq, asTup2, asTup3, asTup4, joinB, joinI, beq_true, beq_false, Bool.not_true, Bool.not_false, Bool.not_not, cond_true, cond_false, Int.toNat_natCast, Option.map_some, decNN, Bool.and_true, Bool.true_and]
    refine app1_ok (j := 0) h3 h4 he.next (by omega) rfl (by omega) fun a3 σ4 g1 g2 g3 g4 => ?_
    simp only [len0, len1, len2, len3, len4, len5, get0, get1, get2, get3, get4, get5, Ok_bind, Ok_some, Ok_none, Ok_bif, asI_i, asB_b, asS_s, asP_p, asPS_p, asSl_sl, decide_eq_true_eq, asTup2, asTup3, asTup4, joinB, joinI, beq_true, beq_false, Bool.not_true, Bool.not_false, Bool.not_not, cond_true, cond_false, Int.toNat_natCast, Option.map_some, decNN, Bool.and_true, Bool.true_and]
    rw [i64_id (by omega) (by omega)]
    refine ⟨a3, σ4, ?_, own_ext he h4 (by omega) g4, ?_, g2⟩
    · have : 7 - (k : Int) - 1 = 7 - ((k + 1 : Nat) : Int) := by omega
      rw [this]; rfl
    · rw [bytesW_take hk, ← Nat.add_assoc]
      simpa using g1
  · rintro st ⟨a', σ3, rfl, he, h3, h4⟩
    have hge : ¬ ((7 - ((8 : Nat) : Int)) ≥ 0) := by omega
    simp only [len0, len1, len2, len3, len4, len5, get0, get1, get2, get3, get4, get5, Option.bind_some, asI_i, asB_b, asS_s, asP_p, asPS_p, asSl_sl, asTup2, asTup3, asTup4, joinB, joinI, beq_true, beq_false, Bool.not_true, Bool.not_false, Bool.not_not, cond_true, cond_false, neI, Int.toNat_natCast, Option.map_some, bindS_inl, bindS_inr, decNN, Bool.and_true, Bool.true_and, decide_true, decide_false, hge]
    have ht : (bytesW s).take 8 = bytesW s := List.take_of_length_le (by rw [bytesW_len]; omega)
    rw [ht] at h3
    refine Ok_some.2 ⟨he, a', rfl, ?_⟩
    unfold sealed
    rw [hs]; exact h3
  · rintro ⟨r1, r2⟩ ⟨h1, a', h2, h3⟩
    simp only at h2
    subst h2
    simp only [len0, len1, len2, len3, len4, len5, get0, get1, get2, get3, get4, get5, Ok_bind, Ok_some, Ok_none, Ok_bif, asI_i, asB_b, asS_s, asP_p, asPS_p, asSl_sl, decide_eq_true_eq, asTup2, asTup3, asTup4, joinB, joinI, beq_true, beq_false, Bool.not_true, Bool.not_false, Bool.not_not, cond_true, cond_false, Int.toNat_natCast, Option.map_some, decNN, Bool.and_true, Bool.true_and]
    exact ⟨h1, a', rfl, h3⟩

theorem wI_self (s : W) : (wI s == wI s) = true := beq_self_eq_true _

theorem crcSums_ok {a b : SA} {n m : Nat} {bs cs : List Int} {x : Int} {σ : AH O} (hr : Rd σ 1 a n (bs.map (AV.i .u8))) (hb : ∀ x ∈ bs, 0 ≤ x ∧ x < 256) (hr' : Rd σ 1 b m (cs.map (AV.i .u8))) (hc : ∀ x ∈ cs, 0 ≤ x ∧ x < 256) (hx : 0 ≤ x) (hx' : x < 18446744073709551616) :
    Ok (law06_CrcSums [.sl a n, .sl b m, .i .u64 x] σ) fun r => r.1 = .b true := by
  obtain ⟨sx, rfl⟩ : ∃ s : W, x = wI s := ⟨BitVec.ofNat 64 x.toNat, by unfold wI; rw [BitVec.toNat_ofNat]; omega⟩
  simp only [law06_CrcSums, len0, len1, len2, len3, len4, len5, get0, get1, get2, get3, get4, get5, Option.bind_some, asI_i, asB_b, asS_s, asP_p, asPS_p, asSl_sl, asTup2, asTup3, asTup4, joinB, joinI, beq_true, beq_false, Bool.not_true, Bool.not_false, Bool.not_not, cond_true, cond_false, neI, Int.toNat_natCast, Option.map_some, bindS_inl, bindS_inr, decNN, Bool.and_true, Bool.true_and, decide_true, decide_false]
  refine Ok.step awake6_ok fun r ⟨h1, he1⟩ => ?_
  obtain ⟨r1, σ1⟩ := r
  simp only at h1 he1
  subst h1
  simp only [len0, len1, len2, len3, len4, len5, get0, get1, get2, get3, get4, get5, Option.bind_some, asI_i, asB_b, asS_s, asP_p, asPS_p, asSl_sl, asTup2, asTup3, asTup4, joinB, joinI, beq_true, beq_false, Bool.not_true, Bool.not_false, Bool.not_not, cond_true, cond_false, neI, Int.toNat_natCast, Option.map_some, bindS_inl, bindS_inr, decNN, Bool.and_true, Bool.true_and, decide_true, decide_false]
  refine Ok.step (few_ok (hr.ext he1)) fun r ⟨a1, h2, h3⟩ => ?_
  subst h2
  simp only [len0, len1, len2, len3, len4, len5, get0, get1, get2, get3, get4, get5, Option.bind_some, asI_i, asB_b, asS_s, asP_p, asPS_p, asSl_sl, asTup2, asTup3, asTup4, joinB, joinI, beq_true, beq_false, Bool.not_true, Bool.not_false, Bool.not_not, cond_true, cond_false, neI, Int.toNat_natCast, Option.map_some, bindS_inl, bindS_inr, decNN, Bool.and_true, Bool.true_and, decide_true, decide_false]
  refine Ok.step (few_ok (hr'.ext he1)) fun r ⟨b1, h2, h4⟩ => ?_
  subst h2
  have hb1 : Bytes (bs.take 300) := fun x hx => hb x (List.mem_of_mem_take hx)
  have hc1 : Bytes (cs.take 300) := fun x hx => hc x (List.mem_of_mem_take hx)
  have hl1 : (bs.take 300).length ≤ 300 := by simp; omega
  have hl2 : (cs.take 300).length ≤ 300 := by simp; omega
  generalize bs.take 300 = p at *
  generalize cs.take 300 = q at *
  simp only [len0, len1, len2, len3, len4, len5, get0, get1, get2, get3, get4, get5, Ok_bind, Ok_some, Ok_none, Ok_bif, asI_i, asB_b, asS_s, asP_p, asPS_p, asSl_sl, decide_eq_true_eq, asTup2, asTup3, asTup4, joinB, joinI, beq_true, beq_false, Bool.not_true, Bool.not_false, Bool.not_not, cond_true, cond_false, Int.toNat_natCast, Option.map_some, decNN, Bool.and_true, Bool.true_and, Bool.false_eq_true, if_false]
  have e0 : Ext σ1 ((σ1.bump 3).put σ1.next (.cells true 5 [])) := ((Ext.refl σ1).bump 3).put (Nat.le_refl _) _
  have r0 : Rd ((σ1.bump 3).put σ1.next (.cells true 5 [])) 1 (.loc σ1.next 0 1) 0 [] := Rd.new (el := 5) (by simp) (by simp) rfl
  refine appS_ok (base := σ1.next) r0 ⟨Nat.le_refl _, [], by simp⟩ (h3.ext e0) (by omega) (by simp) (by intro o e he; injection he; omega) (by omega) fun a2 σ2 q1 q2 q3 q4 q5 => ?_
  simp only [len0, len1, len2, len3, len4, len5, get0, get1, get2, get3, get4, get5, Ok_bind, Ok_some, Ok_none, Ok_bif, asI_i, asB_b, asS_s, asP_p, asPS_p, asSl_sl, decide_eq_true_eq, asTup2, asTup3, asTup4, joinB, joinI, beq_true, beq_false, Bool.not_true, Bool.not_false, Bool.not_not, cond_true, cond_false, Int.toNat_natCast, Option.map_some, decNN, Bool.and_true, Bool.true_and, Nat.zero_add]
  have e1 : Ext σ1 σ2 := ⟨by rw [q3]; exact e0.next, fun b hb => by
    rw [q4 b (by omega) (by intro o e he; injection he; omega)]
    exact e0.blk b hb⟩
  rw [Nat.zero_add, List.nil_append] at q1
  refine appS_ok (base := σ1.next) q1 q2 (h4.ext e1) (by omega) (by rw [q3]; simp) (fun o e he => by have := q5 _ _ _ he; omega) (by omega) fun a3 σ3 k1 k2 k3 k4 k5 => ?_
  have e2 : Ext σ1 σ3 := ⟨by rw [k3]; exact e1.next, fun b hb => by
    rw [k4 b (by omega) (fun o e he => by have := q5 _ _ _ he; omega)]
    exact e1.blk b hb⟩
  rw [← List.map_append] at k1
  have hpq : Bytes (p ++ q) := hb1.app hc1
  simp only [len0, len1, len2, len3, len4, len5, get0, get1, get2, get3, get4, get5, Ok_bind, Ok_some, Ok_none, Ok_bif, asI_i, asB_b, asS_s, asP_p, asPS_p, asSl_sl, decide_eq_true_eq, asTup2, asTup3, asTup4, joinB, joinI, beq_true, beq_false, Bool.not_true, Bool.not_false, Bool.not_not, cond_true, cond_false, Int.toNat_natCast, Option.map_some, decNN, Bool.and_true, Bool.true_and]
  refine (refSum_ok k1 hpq (by omega)).mono fun r ⟨e3, g1⟩ => ?_
  obtain ⟨r1, σ4⟩ := r
  simp only at e3 g1
  subst g1
  have E := e2.trans e3
  simp only [len0, len1, len2, len3, len4, len5, get0, get1, get2, get3, get4, get5, Ok_bind, Ok_some, Ok_none, Ok_bif, asI_i, asB_b, asS_s, asP_p, asPS_p, asSl_sl, decide_eq_true_eq, asTup2, asTup3, asTup4, joinB, joinI, beq_true, beq_false, Bool.not_true, Bool.not_false, Bool.not_not, cond_true, cond_false, Int.toNat_natCast, Option.map_some, decNN, Bool.and_true, Bool.true_and]
  have f1 : Ext σ4 ((σ4.bump 3).put σ4.next (.cells true 32 [.sl a3 (p.length + q.length)])) := ((Ext.refl σ4).bump 3).put (Nat.le_refl _) _
  refine (sum1_ok (b := σ4.next) (p := ⟨a3, p.length + q.length, p ++ q⟩) (by simp) (by simp [Part.v]) ⟨(k1.ext e3).ext f1, hpq, by show p.length + q.length ≤ _; omega⟩).mono fun r hr1 => ?_
  subst hr1
  simp only [len0, len1, len2, len3, len4, len5, get0, get1, get2, get3, get4, get5, Ok_bind, Ok_some, Ok_none, Ok_bif, asI_i, asB_b, asS_s, asP_p, asPS_p, asSl_sl, decide_eq_true_eq, asTup2, asTup3, asTup4, joinB, joinI, beq_true, beq_false, Bool.not_true, Bool.not_false, Bool.not_not, cond_true, cond_false, Int.toNat_natCast, Option.map_some, decNN, Bool.and_true, Bool.true_and, wI_self, if_true]
  have f2 := f1.put (b := σ4.next + 1) (by omega) (.cells true 32 [.sl a1 p.length, .sl b1 q.length])
  refine (sum2_ok (b := σ4.next + 1) (p := ⟨a1, p.length, p⟩) (q := ⟨b1, q.length, q⟩) (by simp) (by simp [Part.v]) ⟨(h3.ext E).ext f2, hb1, by show p.length ≤ _; omega⟩ ⟨(h4.ext E).ext f2, hc1, by show q.length ≤ _; omega⟩).mono fun r hr1 => ?_
  subst hr1
  simp only [len0, len1, len2, len3, len4, len5, get0, get1, get2, get3, get4, get5, Ok_bind, Ok_some, Ok_none, Ok_bif, asI_i, asB_b, asS_s, asP_p, asPS_p, asSl_sl, decide_eq_true_eq, asTup2, asTup3, asTup4, joinB, joinI, beq_true, beq_false, Bool.not_true, Bool.not_false, Bool.not_not, cond_true, cond_false, Int.toNat_natCast, Option.map_some, decNN, Bool.and_true, Bool.true_and, wI_self, if_true]
  have f3 := f2.put (b := σ4.next + 1 + 1) (by omega) (.cells true 32 [.sl a1 p.length])
  refine (sum1_ok (b := σ4.next + 1 + 1) (p := ⟨a1, p.length, p⟩) (by simp) (by simp [Part.v]) ⟨(h3.ext E).ext f3, hb1, by show p.length ≤ _; omega⟩).mono fun r hr1 => ?_
  subst hr1
  simp only [len0, len1, len2, len3, len4, len5, get0, get1, get2, get3, get4, get5, Ok_bind, Ok_some, Ok_none, Ok_bif, asI_i, asB_b, asS_s, asP_p, asPS_p, asSl_sl, decide_eq_true_eq, asTup2, asTup3, asTup4, joinB, joinI, beq_true, beq_false, Bool.not_true, Bool.not_false, Bool.not_not, cond_true, cond_false, Int.toNat_natCast, Option.map_some, decNN, Bool.and_true, Bool.true_and]
  refine (more_ok ((h4.ext E).ext f3) hc1 (by omega)).mono fun r hr1 => ?_
  subst hr1
  have happ : crc (crc 0#64 (bitsB p)) (bitsB q) = crc 0#64 (bitsB (p ++ q)) := by rw [bitsB_app, crc_app]
  rw [happ]
  simp only [len0, len1, len2, len3, len4, len5, get0, get1, get2, get3, get4, get5, Ok_bind, Ok_some, Ok_none, Ok_bif, asI_i, asB_b, asS_s, asP_p, asPS_p, asSl_sl, decide_eq_true_eq, asTup2, asTup3, asTup4, joinB, joinI, beq_true, beq_false, Bool.not_true, Bool.not_false, Bool.not_not, cond_true, cond_false, Int.toNat_natCast, Option.map_some, decNN, Bool.and_true, Bool.true_and, wI_self, if_true]
  refine (more_ok ((h3.ext E).ext f3) hb1 (by omega)).mono fun r hr1 => ?_
  subst hr1
  simp only [len0, len1, len2, len3, len4, len5, get0, get1, get2, get3, get4, get5, Ok_bind, Ok_some, Ok_none, Ok_bif, asI_i, asB_b, asS_s, asP_p, asPS_p, asSl_sl, decide_eq_true_eq, asTup2, asTup3, asTup4, joinB, joinI, beq_true, beq_false, Bool.not_true, Bool.not_false, Bool.not_not, cond_true, cond_false, Int.toNat_natCast, Option.map_some, decNN, Bool.and_true, Bool.true_and]
  refine (refMore_ok ((h3.ext E).ext f3) hb1 (by omega)).mono fun r ⟨g1, g2⟩ => ?_
  obtain ⟨r1, σ5⟩ := r
  simp only at g2
  subst g2
  simp only [len0, len1, len2, len3, len4, len5, get0, get1, get2, get3, get4, get5, Ok_bind, Ok_some, Ok_none, Ok_bif, asI_i, asB_b, asS_s, asP_p, asPS_p, asSl_sl, decide_eq_true_eq, asTup2, asTup3, asTup4, joinB, joinI, beq_true, beq_false, Bool.not_true, Bool.not_false, Bool.not_not, cond_true, cond_false, Int.toNat_natCast, Option.map_some, decNN, Bool.and_true, Bool.true_and, wI_self]

theorem sealed_take (p : List Int) : (sealed p).take p.length = p := by unfold sealed; rw [List.take_left]
theorem sealed_len (p : List Int) : (sealed p).length = p.length + 8 := by unfold sealed; rw [List.length_append, bytesW_len]
theorem str_ne {a b : List Int} (ha : Bytes a) (hb : Bytes b) (h : a ≠ b) : ((a.map fun x => UInt8.ofNat x.toNat) == (b.map fun x => UInt8.ofNat x.toNat)) = false := by
  rw [beq_eq_false_iff_ne]
  exact fun e => h (bytes_inj ha hb e)

theorem crcSeals_ok {a b : SA} {n m : Nat} {bs cs : List Int} {σ : AH O} (hr : Rd σ 1 a n (bs.map (AV.i .u8))) (hb : ∀ x ∈ bs, 0 ≤ x ∧ x < 256) (hr' : Rd σ 1 b m (cs.map (AV.i .u8))) (hc : ∀ x ∈ cs, 0 ≤ x ∧ x < 256) :
    Ok (law06_CrcSeals [.sl a n, .sl b m] σ) fun r => r.1 = .b true := by
  simp only [law06_CrcSeals, len0, len1, len2, len3, len4, len5, get0, get1, get2, get3, get4, get5, Option.bind_some, asI_i, asB_b, asS_s, asP_p, asPS_p, asSl_sl, asTup2, asTup3, asTup4, joinB, joinI, beq_true, beq_false, Bool.not_true, Bool.not_false, Bool.not_not, cond_true, cond_false, neI, Int.toNat_natCast, Option.map_some, bindS_inl, bindS_inr, decNN, Bool.and_true, Bool.true_and, decide_true, decide_false]
  refine Ok.step awake6_ok fun r ⟨h1, he1⟩ => ?_
  obtain ⟨r1, σ1⟩ := r
  simp only at h1 he1
  subst h1
  simp only [len0, len1, len2, len3, len4, len5, get0, get1, get2, get3, get4, get5, Option.bind_some, asI_i, asB_b, asS_s, asP_p, asPS_p, asSl_sl, asTup2, asTup3, asTup4, joinB, joinI, beq_true, beq_false, Bool.not_true, Bool.not_false, Bool.not_not, cond_true, cond_false, neI, Int.toNat_natCast, Option.map_some, bindS_inl, bindS_inr, decNN, Bool.and_true, Bool.true_and, decide_true, decide_false]
  refine Ok.step (few_ok (hr.ext he1)) fun r ⟨a1, h2, h3⟩ => ?_
  subst h2
  simp only [len0, len1, len2, len3, len4, len5, get0, get1, get2, get3, get4, get5, Option.bind_some, asI_i, asB_b, asS_s, asP_p, asPS_p, asSl_sl, asTup2, asTup3, asTup4, joinB, joinI, beq_true, beq_false, Bool.not_true, Bool.not_false, Bool.not_not, cond_true, cond_false, neI, Int.toNat_natCast, Option.map_some, bindS_inl, bindS_inr, decNN, Bool.and_true, Bool.true_and, decide_true, decide_false]
  refine Ok.step (few_ok (hr'.ext he1)) fun r ⟨b1, h2, h4⟩ => ?_
  subst h2
  have hb1 : Bytes (bs.take 300) := fun x hx => hb x (List.mem_of_mem_take hx)
  have hc1 : Bytes (cs.take 300) := fun x hx => hc x (List.mem_of_mem_take hx)
  have hl1 : (bs.take 300).length ≤ 300 := by simp; omega
  have hl2 : (cs.take 300).length ≤ 300 := by simp; omega
  generalize bs.take 300 = p at *
  generalize cs.take 300 = q at *
  simp only [len0, len1, len2, len3, len4, len5, get0, get1, get2, get3, get4, get5, Option.bind_some, asI_i, asB_b, asS_s, asP_p, asPS_p, asSl_sl, asTup2, asTup3, asTup4, joinB, joinI, beq_true, beq_false, Bool.not_true, Bool.not_false, Bool.not_not, cond_true, cond_false, neI, Int.toNat_natCast, Option.map_some, bindS_inl, bindS_inr, decNN, Bool.and_true, Bool.true_and, decide_true, decide_false]
  refine Ok.step (seal_ok h3 hb1 (by omega)) fun r ⟨he2, a2, g1, g2⟩ => ?_
  obtain ⟨r1, σ2⟩ := r
  simp only at he2 g1 g2
  subst g1
  simp only [len0, len1, len2, len3, len4, len5, get0, get1, get2, get3, get4, get5, Option.bind_some, asI_i, asB_b, asS_s, asP_p, asPS_p, asSl_sl, asTup2, asTup3, asTup4, joinB, joinI, beq_true, beq_false, Bool.not_true, Bool.not_false, Bool.not_not, cond_true, cond_false, neI, Int.toNat_natCast, Option.map_some, bindS_inl, bindS_inr, decNN, Bool.and_true, Bool.true_and, decide_true, decide_false]
  refine Ok.step (open_ok g2 (sealed_bytes hb1) (by omega)) fun r ⟨he3, g3⟩ => ?_
  obtain ⟨r1, σ3⟩ := r
  simp only at he3 g3
  have e8 : p.length + 8 - 8 = p.length := by omega
  rw [e8, sealed_take] at g3
  obtain ⟨a3, g4, g5⟩ : ∃ a', r1 = .tup [.sl a' p.length, .i .i64 0] ∧ Rd σ3 1 a' p.length (p.map (AV.i .u8)) := by
    rcases g3 with ⟨h, _⟩ | ⟨_, h, _⟩ | ⟨_, _, h⟩
    · omega
    · exact absurd rfl h
    · exact h
  subst g4
  simp only [len0, len1, len2, len3, len4, len5, get0, get1, get2, get3, get4, get5, Option.bind_some, asI_i, asB_b, asS_s, asP_p, asPS_p, asSl_sl, asTup2, asTup3, asTup4, joinB, joinI, beq_true, beq_false, Bool.not_true, Bool.not_false, Bool.not_not, cond_true, cond_false, neI, Int.toNat_natCast, Option.map_some, bindS_inl, bindS_inr, decNN, Bool.and_true, Bool.true_and, decide_true, decide_false]
  refine Ok.step (open_ok ((h4.ext he2).ext he3) hc1 (by omega)) fun r ⟨he4, g6⟩ => ?_
  obtain ⟨r1, σ4⟩ := r
  simp only at he4 g6
  -- what was opened
  obtain ⟨a4, m4, n4, g7⟩ : ∃ a4 m4 n4, r1 = .tup [.sl a4 m4, .i .i64 n4] := by
    rcases g6 with ⟨_, h⟩ | ⟨_, _, h⟩ | ⟨_, _, a', h, _⟩ <;> exact ⟨_, _, _, h⟩
  subst g7
  have s1 := ((g2.ext he3).ext he4).rdSl
  simp only [len0, len1, len2, len3, len4, len5, get0, get1, get2, get3, get4, get5, Option.bind_some, asI_i, asB_b, asS_s, asP_p, asPS_p, asSl_sl, asTup2, asTup3, asTup4, joinB, joinI, beq_true, beq_false, Bool.not_true, Bool.not_false, Bool.not_not, cond_true, cond_false, neI, Int.toNat_natCast, Option.map_some, bindS_inl, bindS_inr, decNN, Bool.and_true, Bool.true_and, decide_true, decide_false, s1, bytes_ok]
  have E := (he2.trans he3).trans he4
  refine Ok.step (refSeal_ok (h3.ext E) hb1 (by omega)) fun r ⟨he5, a5, g8, g9⟩ => ?_
  obtain ⟨r1, σ5⟩ := r
  simp only at he5 g8 g9
  subst g8
  have E5 := E.trans he5
  have hck : chk True = some () := chk_true trivial
  have s2 := (((g2.ext he3).ext he4).ext he5).rdSl
  have s3 := g9.rdSl
  have s4 := ((g5.ext he4).ext he5).rdSl
  have s5 := (h3.ext E5).rdSl
  simp only [len0, len1, len2, len3, len4, len5, get0, get1, get2, get3, get4, get5, Option.bind_some, asI_i, asB_b, asS_s, asP_p, asPS_p, asSl_sl, asTup2, asTup3, asTup4, joinB, joinI, beq_true, beq_false, Bool.not_true, Bool.not_false, Bool.not_not, cond_true, cond_false, neI, Int.toNat_natCast, Option.map_some, bindS_inl, bindS_inr, decNN, Bool.and_true, Bool.true_and, decide_true, decide_false, s1, s2, s3, s4, s5, hck, bytes_ok, beq_self_eq_true]
  have h4' := h4.ext E5
  by_cases hq8 : q.length < 8
  · have d1 : decide ((q.length : Int) < 8) = true := decide_eq_true (by omega)
    obtain ⟨h, hh⟩ : q.length < 8 ∧ AV.tup [.sl a4 m4, .i .i64 n4] = .tup [.sl .nil 0, .i .i64 6] := by
      rcases g6 with h | ⟨h, _⟩ | ⟨h, _⟩
      · exact h
      · omega
      · omega
    injection hh with hh
    injection hh with hh1 hh2
    injection hh2 with hh2
    injection hh1 with _ hh1
    injection hh2 with _ hh2
    subst hh1 hh2
    simp only [len0, len1, len2, len3, len4, len5, get0, get1, get2, get3, get4, get5, Option.bind_some, asI_i, asB_b, asS_s, asP_p, asPS_p, asSl_sl, asTup2, asTup3, asTup4, joinB, joinI, beq_true, beq_false, Bool.not_true, Bool.not_false, Bool.not_not, cond_true, cond_false, neI, Int.toNat_natCast, Option.map_some, bindS_inl, bindS_inr, decNN, Bool.and_true, Bool.true_and, decide_true, decide_false, d1]
    exact Ok_some.2 rfl
  · have d1 : decide ((q.length : Int) < 8) = false := decide_eq_false (by omega)
    have e1 : IntKind.i64.wrap ((q.length : Int) - 8) = ((q.length - 8 : Nat) : Int) := by rw [i64_id (by omega) (by omega)]; omega
    have d2 : decide (((q.length - 8 : Nat) : Int) ≤ (q.length : Int)) = true := decide_eq_true (by omega)
    obtain ⟨a6, k1, k2, _⟩ := h4'.adv (lo := 0) (m := q.length - 8) (by omega)
    simp only [Nat.mul_one, List.drop_zero] at k2
    rw [← List.map_take] at k2
    have hqt : Bytes (q.take (q.length - 8)) := fun x hx => hc1 x (List.mem_of_mem_take hx)
    simp only [len0, len1, len2, len3, len4, len5, get0, get1, get2, get3, get4, get5, Option.bind_some, asI_i, asB_b, asS_s, asP_p, asPS_p, asSl_sl, asTup2, asTup3, asTup4, joinB, joinI, beq_true, beq_false, Bool.not_true, Bool.not_false, Bool.not_not, cond_true, cond_false, neI, Int.toNat_natCast, Option.map_some, bindS_inl, bindS_inr, decNN, Bool.and_true, Bool.true_and, decide_true, decide_false, d1, e1, d2, k1, h4'.rdSl, bytes_ok, Nat.sub_zero]
    refine Ok.step (refSeal_ok k2 hqt (by omega)) fun r ⟨he6, a7, k3, k4⟩ => ?_
    obtain ⟨r1, σ6⟩ := r
    simp only at he6 k3 k4
    subst k3
    simp only [len0, len1, len2, len3, len4, len5, get0, get1, get2, get3, get4, get5, Option.bind_some, asI_i, asB_b, asS_s, asP_p, asPS_p, asSl_sl, asTup2, asTup3, asTup4, joinB, joinI, beq_true, beq_false, Bool.not_true, Bool.not_false, Bool.not_not, cond_true, cond_false, neI, Int.toNat_natCast, Option.map_some, bindS_inl, bindS_inr, decNN, Bool.and_true, Bool.true_and, decide_true, decide_false, (h4'.ext he6).rdSl, h4'.rdSl, hck, k4.rdSl, bytes_ok]
    by_cases hsq : q = sealed (q.take (q.length - 8))
    · obtain ⟨a', hh, hrd⟩ : ∃ a', AV.tup [.sl a4 m4, .i .i64 n4] = .tup [.sl a' (q.length - 8), .i .i64 0] ∧ Rd σ4 1 a' (q.length - 8) ((q.take (q.length - 8)).map (AV.i .u8)) := by
        rcases g6 with ⟨h, _⟩ | ⟨_, h, _⟩ | ⟨_, _, h⟩
        · omega
        · exact absurd hsq h
        · exact h
      injection hh with hh
      injection hh with hh1 hh2
      injection hh2 with hh2
      injection hh1 with hh0 hh1
      injection hh2 with _ hh2
      subst hh0 hh1 hh2
      rw [← hsq]
      simp only [len0, len1, len2, len3, len4, len5, get0, get1, get2, get3, get4, get5, Option.bind_some, asI_i, asB_b, asS_s, asP_p, asPS_p, asSl_sl, asTup2, asTup3, asTup4, joinB, joinI, beq_true, beq_false, Bool.not_true, Bool.not_false, Bool.not_not, cond_true, cond_false, neI, Int.toNat_natCast, Option.map_some, bindS_inl, bindS_inr, decNN, Bool.and_true, Bool.true_and, decide_true, decide_false, beq_self_eq_true, ((hrd.ext he5).ext he6).rdSl, bytes_ok, (k2.ext he6).rdSl]
      exact Ok_some.2 rfl
    · obtain ⟨_, _, hh⟩ : 8 ≤ q.length ∧ q ≠ sealed (q.take (q.length - 8)) ∧ AV.tup [.sl a4 m4, .i .i64 n4] = .tup [.sl .nil 0, .i .i64 60] := by
        rcases g6 with ⟨h, _⟩ | h | ⟨_, h, _⟩
        · omega
        · exact h
        · exact absurd h hsq
      injection hh with hh
      injection hh with hh1 hh2
      injection hh2 with hh2
      injection hh1 with _ hh1
      injection hh2 with _ hh2
      subst hh1 hh2
      simp only [len0, len1, len2, len3, len4, len5, get0, get1, get2, get3, get4, get5, Option.bind_some, asI_i, asB_b, asS_s, asP_p, asPS_p, asSl_sl, asTup2, asTup3, asTup4, joinB, joinI, beq_true, beq_false, Bool.not_true, Bool.not_false, Bool.not_not, cond_true, cond_false, neI, Int.toNat_natCast, Option.map_some, bindS_inl, bindS_inr, decNN, Bool.and_true, Bool.true_and, decide_true, decide_false, str_ne (sealed_bytes hqt) hc1 (Ne.symm hsq)]
      exact Ok_some.2 rfl
end Go.Abs.Try
