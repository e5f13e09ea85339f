/-
  The functions of layer 6: checksums: the program's.
-/
import Derived.Test.YtdbnoocdpbkkpaaS1
import Derived.Test.YtdbnoocdpbkkpaaV6
import Derived.Test.YtdbnoocdpbkkpaaV5b
set_option linter.unusedVariables false
set_option linter.unusedSimpArgs false
set_option linter.unusedSimpArgs false
namespace Go.Abs.Try
open Go Go.Abs Go.Abs.Crc
variable {O : Type}

def wI (s : W) : Int := (s.toNat : Int)
theorem wI_range (s : W) : 0 ≤ wI s ∧ wI s < 18446744073709551616 := by
  have := s.isLt
  unfold wI; omega
theorem wI_inj {s t : W} (h : wI s = wI t) : s = t := BitVec.eq_of_toNat_eq (by unfold wI at h; omega)
theorem wI_zero : wI 0#64 = 0 := rfl

theorem feed0_int (s : W) : ibits .xor .u64 (IntKind.u64.wrap (wI s * 2 ^ 1)) (ibits .and .u64 4823603603198064275 (IntKind.u64.wrap (0 - Int.fdiv (wI s) (2 ^ 63)))) = wI (feed0 s) := by
  have hr := wI_range s
  have hs : ((s <<< 1).toNat : Int) = IntKind.u64.wrap (wI s * 2 ^ 1) := by
    rw [BitVec.toNat_shiftLeft, wrap_u64, Nat.shiftLeft_eq]
    unfold wI; omega
  rw [← hs]
  have hmsb : s.msb = decide (2 ^ 63 ≤ s.toNat) := by rw [BitVec.msb_eq_decide]
  have hl := (s <<< 1).isLt
  rw [Int.fdiv_eq_ediv_of_nonneg _ (by decide)]
  unfold feed0
  cases hm : s.msb with
  | true =>
    have hge : 9223372036854775808 ≤ s.toNat := by rw [hmsb] at hm; simpa using hm
    have e1 : IntKind.u64.wrap (0 - wI s / 2 ^ 63) = 18446744073709551615 := by
      have := s.isLt
      rw [wrap_u64]; unfold wI; omega
    have e2 : ibits .and .u64 4823603603198064275 18446744073709551615 = 4823603603198064275 := by decide +kernel
    rw [e1, e2, xor_u64 (by omega) (by omega) (by omega) (by omega), if_pos rfl]
    unfold wI
    rw [BitVec.toNat_xor]
    rfl
  | false =>
    have hlt : s.toNat < 9223372036854775808 := by rw [hmsb] at hm; simpa using hm
    have e1 : IntKind.u64.wrap (0 - wI s / 2 ^ 63) = 0 := by rw [wrap_u64]; unfold wI; omega
    have e2 : ibits .and .u64 4823603603198064275 0 = 0 := by decide +kernel
    rw [e1, e2, xor_zero_u64 (by omega) (by omega)]
    simp [wI]

theorem feed0N_succ : ∀ (n : Nat) (s : W), feed0N (n + 1) s = feed0 (feed0N n s)
  | 0, _ => rfl
  | n + 1, s => by
    show feed0N (n + 1) (feed0 s) = _
    rw [feed0N_succ n]; rfl

theorem step_ok {s : W} {c : Int} {σ : AH O} (hc : 0 ≤ c ∧ c < 256) : Ok (crc_step [.i .u64 (wI s), .i .u8 c] σ) fun r => r = (.i .u64 (wI (crc s (bits8 c.toNat))), σ) := by
  have hr := wI_range s
  have e0 : IntKind.u64.wrap (IntKind.u64.wrap c * 2 ^ 56) = c * 72057594037927936 := by rw [wrap_u64, wrap_u64]; omega
  have htop := top_bits8 ⟨c.toNat, by omega⟩
  have e1 : ibits .xor .u64 (wI s) (c * 72057594037927936) = wI (s ^^^ top (bits8 c.toNat)) := by
    rw [xor_u64 hr.1 hr.2 (by omega) (by omega), htop]
    unfold wI
    rw [BitVec.toNat_xor, BitVec.toNat_ofNat]
    congr 2
    simp only
    omega
  simp only [crc_step, len0, len1, len2, len3, len4, len5, get0, get1, get2, get3, get4, get5, Option.bind_some, asI_i, asB_b, asS_s, asP_p, asPS_p, asSl_sl, asTup2, asTup3, asTup4, joinB, joinI, beq_true, beq_false, Bool.not_true, Bool.not_false, Bool.not_not, cond_true, cond_false, neI, Int.toNat_natCast, Option.map_some, bindS_inl, bindS_inr, decNN, Bool.and_true, Bool.true_and, decide_true, decide_false, e0, e1]
  refine Ok.step (Q := fun r : List AV × AH O => r = ([.i .u64 (wI (crc s (bits8 c.toNat)))], σ)) (Ok.count 8 (fun k (st : List AV × AH O) => st = ([.i .u64 (wI (feed0N k (s ^^^ top (bits8 c.toNat)))), .i .i64 k], σ)) ?_ ?_ rfl) ?_
  · rintro k st hk rfl
    have hin : ((k : Int) < 8) := by omega
    simp only [len0, len1, len2, len3, len4, len5, get0, get1, get2, get3, get4, get5, Option.bind_some, asI_i, asB_b, asS_s, asP_p, asPS_p, asSl_sl, asTup2, asTup3, asTup4, joinB, joinI, beq_true, beq_false, Bool.not_true, Bool.not_false, Bool.not_not, cond_true, cond_false, neI, Int.toNat_natCast, Option.map_some, bindS_inl, bindS_inr, decNN, Bool.and_true, Bool.true_and, decide_true, decide_false, hin, feed0_int]
    rw [i64_id (by omega) (by omega)]
    refine Ok_some.2 ?_
    rw [feed0N_succ]; rfl
  · rintro st rfl
    have hin : ¬ (((8 : Nat) : Int) < 8) := by omega
    simp only [len0, len1, len2, len3, len4, len5, get0, get1, get2, get3, get4, get5, Option.bind_some, asI_i, asB_b, asS_s, asP_p, asPS_p, asSl_sl, asTup2, asTup3, asTup4, joinB, joinI, beq_true, beq_false, Bool.not_true, Bool.not_false, Bool.not_not, cond_true, cond_false, neI, Int.toNat_natCast, Option.map_some, bindS_inl, bindS_inr, decNN, Bool.and_true, Bool.true_and, decide_true, decide_false, hin]
    refine Ok_some.2 ?_
    rw [crc_top _ _ (by simp [bits8])]; rfl
  · rintro r rfl
    simp only [len0, len1, len2, len3, len4, len5, get0, get1, get2, get3, get4, get5, Option.bind_some, asI_i, asB_b, asS_s, asP_p, asPS_p, asSl_sl, asTup2, asTup3, asTup4, joinB, joinI, beq_true, beq_false, Bool.not_true, Bool.not_false, Bool.not_not, cond_true, cond_false, neI, Int.toNat_natCast, Option.map_some, bindS_inl, bindS_inr, decNN, Bool.and_true, Bool.true_and, decide_true, decide_false]
    exact Ok_some.2 rfl

theorem bitsB_take {bs : List Int} {k : Nat} (hk : k < bs.length) : bitsB (bs.take (k + 1)) = bitsB (bs.take k) ++ bits8 bs[k].toNat := by
  rw [List.take_succ_eq_append_getElem hk, bitsB_app]
  simp [bitsB]

theorem more_ok {s : W} {a : SA} {n : Nat} {bs : List Int} {σ : AH O} (hr : Rd σ 1 a n (bs.map (AV.i .u8))) (hb : Bytes bs) (hn : n ≤ 1000000000) : Ok (crc_More [.i .u64 (wI s), .sl a n] σ) fun r => r = (.i .u64 (wI (crc s (bitsB bs))), σ) := by
  have hl : bs.length = n := by have := hr.len; simpa using this
  subst hl
  simp only [crc_More, len0, len1, len2, len3, len4, len5, get0, get1, get2, get3, get4, get5, Option.bind_some, asI_i, asB_b, asS_s, asP_p, asPS_p, asSl_sl, asTup2, asTup3, asTup4, joinB, joinI, beq_true, beq_false, Bool.not_true, Bool.not_false, Bool.not_not, cond_true, cond_false, neI, Int.toNat_natCast, Option.map_some, bindS_inl, bindS_inr, decNN, Bool.and_true, Bool.true_and, decide_true, decide_false]
  refine Ok.step (Q := fun r : List AV × AH O => r = ([.i .u64 (wI (crc s (bitsB bs)))], σ)) (Ok.count bs.length (fun k (st : List AV × AH O) => st = ([.i .u64 (wI (crc s (bitsB (bs.take k)))), .i .i64 k], σ)) ?_ ?_ rfl) ?_
  · rintro k st hk rfl
    have hin : ((k : Int) < (bs.length : Int)) := by omega
    have h1 := fun {B : Type} (f : AV → Option B) => hr.ld1 (map_get (k := .u8) hk) f
    simp only [len0, len1, len2, len3, len4, len5, get0, get1, get2, get3, get4, get5, Option.bind_some, asI_i, asB_b, asS_s, asP_p, asPS_p, asSl_sl, asTup2, asTup3, asTup4, joinB, joinI, beq_true, beq_false, Bool.not_true, Bool.not_false, Bool.not_not, cond_true, cond_false, neI, Int.toNat_natCast, Option.map_some, bindS_inl, bindS_inr, decNN, Bool.and_true, Bool.true_and, decide_true, decide_false, hin, h1]
    refine Ok.step (step_ok (bytes_get hb hk)) fun r hr1 => ?_
    subst hr1
    simp only [len0, len1, len2, len3, len4, len5, get0, get1, get2, get3, get4, get5, Option.bind_some, asI_i, asB_b, asS_s, asP_p, asPS_p, asSl_sl, asTup2, asTup3, asTup4, joinB, joinI, beq_true, beq_false, Bool.not_true, Bool.not_false, Bool.not_not, cond_true, cond_false, neI, Int.toNat_natCast, Option.map_some, bindS_inl, bindS_inr, decNN, Bool.and_true, Bool.true_and, decide_true, decide_false]
    rw [i64_id (by omega) (by omega)]
    refine Ok_some.2 ?_
    rw [bitsB_take hk, crc_app]; rfl
  · rintro st rfl
    have hin : ¬ ((bs.length : Int) < (bs.length : Int)) := by omega
    simp only [len0, len1, len2, len3, len4, len5, get0, get1, get2, get3, get4, get5, Option.bind_some, asI_i, asB_b, asS_s, asP_p, asPS_p, asSl_sl, asTup2, asTup3, asTup4, joinB, joinI, beq_true, beq_false, Bool.not_true, Bool.not_false, Bool.not_not, cond_true, cond_false, neI, Int.toNat_natCast, Option.map_some, bindS_inl, bindS_inr, decNN, Bool.and_true, Bool.true_and, decide_true, decide_false, hin, List.take_length]
    exact Ok_some.2 rfl
  · rintro r rfl
    simp only [len0, len1, len2, len3, len4, len5, get0, get1, get2, get3, get4, get5, Option.bind_some, asI_i, asB_b, asS_s, asP_p, asPS_p, asSl_sl, asTup2, asTup3, asTup4, joinB, joinI, beq_true, beq_false, Bool.not_true, Bool.not_false, Bool.not_not, cond_true, cond_false, neI, Int.toNat_natCast, Option.map_some, bindS_inl, bindS_inr, decNN, Bool.and_true, Bool.true_and, decide_true, decide_false]
    exact Ok_some.2 rfl

structure Part where
  a : SA
  n : Nat
  bs : List Int
def Part.ok (σ : AH O) (p : Part) : Prop := Rd σ 1 p.a p.n (p.bs.map (AV.i .u8)) ∧ Bytes p.bs ∧ p.n ≤ 1000000000
def Part.v (p : Part) : AV := .sl p.a p.n

theorem sum_ok {a : SA} {ps : List Part} {σ : AH O} (hr : Rd σ 1 a ps.length (ps.map Part.v)) (hp : ∀ p ∈ ps, p.ok σ) (hn : ps.length ≤ 1000000000) : Ok (crc_Sum [.sl a ps.length] σ) fun r => r = (.i .u64 (wI (crc 0#64 (bitsB (ps.flatMap (·.bs))))), σ) := by
  simp only [crc_Sum, len0, len1, len2, len3, len4, len5, get0, get1, get2, get3, get4, get5, Option.bind_some, asI_i, asB_b, asS_s, asP_p, asPS_p, asSl_sl, asTup2, asTup3, asTup4, joinB, joinI, beq_true, beq_false, Bool.not_true, Bool.not_false, Bool.not_not, cond_true, cond_false, neI, Int.toNat_natCast, Option.map_some, bindS_inl, bindS_inr, decNN, Bool.and_true, Bool.true_and, decide_true, decide_false]
  refine Ok.step (Q := fun r : List AV × AH O => r = ([.i .u64 (wI (crc 0#64 (bitsB (ps.flatMap (·.bs)))))], σ)) (Ok.count ps.length (fun k (st : List AV × AH O) => st = ([.i .u64 (wI (crc 0#64 (bitsB ((ps.take k).flatMap (·.bs))))), .i .i64 k], σ)) ?_ ?_ rfl) ?_
  · rintro k st hk rfl
    have hin : ((k : Int) < (ps.length : Int)) := by omega
    have hv : (ps.map Part.v)[k]? = some ps[k].v := by simp [hk]
    have h1 := fun {B : Type} (f : AV → Option B) => hr.ld1 hv f
    simp only [len0, len1, len2, len3, len4, len5, get0, get1, get2, get3, get4, get5, Option.bind_some, asI_i, asB_b, asS_s, asP_p, asPS_p, asSl_sl, asTup2, asTup3, asTup4, joinB, joinI, beq_true, beq_false, Bool.not_true, Bool.not_false, Bool.not_not, cond_true, cond_false, neI, Int.toNat_natCast, Option.map_some, bindS_inl, bindS_inr, decNN, Bool.and_true, Bool.true_and, decide_true, decide_false, hin, h1, Part.v]
    obtain ⟨g1, g2, g3⟩ := hp _ (List.getElem_mem hk)
    refine Ok.step (more_ok g1 g2 g3) fun r hr1 => ?_
    subst hr1
    simp only [len0, len1, len2, len3, len4, len5, get0, get1, get2, get3, get4, get5, Option.bind_some, asI_i, asB_b, asS_s, asP_p, asPS_p, asSl_sl, asTup2, asTup3, asTup4, joinB, joinI, beq_true, beq_false, Bool.not_true, Bool.not_false, Bool.not_not, cond_true, cond_false, neI, Int.toNat_natCast, Option.map_some, bindS_inl, bindS_inr, decNN, Bool.and_true, Bool.true_and, decide_true, decide_false]
    rw [i64_id (by omega) (by omega)]
    refine Ok_some.2 ?_
    rw [List.take_succ_eq_append_getElem hk, List.flatMap_append, bitsB_app, crc_app]
    simp only [List.flatMap_cons, List.flatMap_nil, List.append_nil]; rfl
  · rintro st rfl
    have hin : ¬ ((ps.length : Int) < (ps.length : Int)) := by omega
    simp only [len0, len1, len2, len3, len4, len5, get0, get1, get2, get3, get4, get5, Option.bind_some, asI_i, asB_b, asS_s, asP_p, asPS_p, asSl_sl, asTup2, asTup3, asTup4, joinB, joinI, beq_true, beq_false, Bool.not_true, Bool.not_false, Bool.not_not, cond_true, cond_false, neI, Int.toNat_natCast, Option.map_some, bindS_inl, bindS_inr, decNN, Bool.and_true, Bool.true_and, decide_true, decide_false, hin, List.take_length]
    exact Ok_some.2 rfl
  · rintro r rfl
    simp only [len0, len1, len2, len3, len4, len5, get0, get1, get2, get3, get4, get5, Option.bind_some, asI_i, asB_b, asS_s, asP_p, asPS_p, asSl_sl, asTup2, asTup3, asTup4, joinB, joinI, beq_true, beq_false, Bool.not_true, Bool.not_false, Bool.not_not, cond_true, cond_false, neI, Int.toNat_natCast, Option.map_some, bindS_inl, bindS_inr, decNN, Bool.and_true, Bool.true_and, decide_true, decide_false]
    exact Ok_some.2 rfl

/-- a sum over slices named one by one: they stand in a new block -/
theorem sum1_ok {σ : AH O} {b : Nat} {p : Part} (hb : b < σ.next) (hx : σ.blk b = some (.cells true 32 [p.v])) (hp : p.ok σ) : Ok (crc_Sum [.sl (.loc b 0 1) 1] σ) fun r => r = (.i .u64 (wI (crc 0#64 (bitsB p.bs))), σ) := by
  have := sum_ok (ps := [p]) (σ := σ) (Rd.new (el := 32) hb hx rfl) (fun q hq => by simp at hq; subst hq; exact hp) (by simp)
  simpa using this
theorem sum2_ok {σ : AH O} {b : Nat} {p q : Part} (hb : b < σ.next) (hx : σ.blk b = some (.cells true 32 [p.v, q.v])) (hp : p.ok σ) (hq : q.ok σ) : Ok (crc_Sum [.sl (.loc b 0 1) 2] σ) fun r => r = (.i .u64 (wI (crc 0#64 (bitsB (p.bs ++ q.bs)))), σ) := by
  have := sum_ok (ps := [p, q]) (σ := σ) (Rd.new (el := 32) hb hx rfl) (fun x hx => by
    simp at hx
    rcases hx with rfl | rfl
    · exact hp
    · exact hq) (by simp)
  simpa using this
theorem Part.ok.ext {σ σ' : AH O} {p : Part} (h : p.ok σ) (he : Ext σ σ') : p.ok σ' := ⟨h.1.ext he, h.2⟩

/-- a sum's bytes -/
def bytesW (s : W) : List Int := (List.range 8).map fun i => wI s / 2 ^ (56 - 8 * i) % 256
theorem bytesW_bytes (s : W) : Bytes (bytesW s) := fun x hx => by
  obtain ⟨i, _, rfl⟩ := List.mem_map.1 hx
  omega
theorem bits8_get (c : Nat) (k : Nat) (hk : k < 8) : (bits8 c).getD k false = c.testBit (7 - k) := by
  match k, hk with
  | 0, _ => rfl
  | 1, _ => rfl
  | 2, _ => rfl
  | 3, _ => rfl
  | 4, _ => rfl
  | 5, _ => rfl
  | 6, _ => rfl
  | 7, _ => rfl
theorem byteW_nat (s : W) (i : Nat) (hi : i < 8) : (wI s / 2 ^ (56 - 8 * i) % 256).toNat = s.toNat / 2 ^ (56 - 8 * i) % 256 := by
  generalize 56 - 8 * i = k
  have : wI s / 2 ^ k % 256 = ((s.toNat / 2 ^ k % 256 : Nat) : Int) := by unfold wI; rw [Int.natCast_emod, Int.natCast_ediv, Int.natCast_pow]; rfl
  rw [this]; rfl
set_option maxRecDepth 10000 in
theorem bits_bytesW (s : W) : bitsB (bytesW s) = bitsW s := by
  have h1 : ∀ i, i < 8 → bits8 (wI s / 2 ^ (56 - 8 * i) % 256).toNat = (List.range 8).map fun k => s.getLsbD (63 - (8 * i + k)) := fun i hi => by
    rw [byteW_nat s i hi]
    have hb : ∀ k, k < 8 → (s.toNat / 2 ^ (56 - 8 * i) % 256).testBit (7 - k) = s.getLsbD (63 - (8 * i + k)) := fun k hk => by
      have : (256 : Nat) = 2 ^ 8 := rfl
      rw [this, Nat.testBit_mod_two_pow, Nat.testBit_div_two_pow, BitVec.getLsbD]
      have e : 7 - k + (56 - 8 * i) = 63 - (8 * i + k) := by omega
      rw [e]
      simp; omega
    show [_, _, _, _, _, _, _, _] = [_, _, _, _, _, _, _, _]
    have b0 := hb 0 (by omega)
    have b1 := hb 1 (by omega)
    have b2 := hb 2 (by omega)
    have b3 := hb 3 (by omega)
    have b4 := hb 4 (by omega)
    have b5 := hb 5 (by omega)
    have b6 := hb 6 (by omega)
    have b7 := hb 7 (by omega)
    simp only [Nat.sub_zero, show 7 - 1 = 6 from rfl, show 7 - 2 = 5 from rfl, show 7 - 3 = 4 from rfl, show 7 - 4 = 3 from rfl, show 7 - 5 = 2 from rfl, show 7 - 6 = 1 from rfl, show 7 - 7 = 0 from rfl] at b0 b1 b2 b3 b4 b5 b6 b7
    rw [b0, b1, b2, b3, b4, b5, b6, b7]
  have r : List.range 8 = [0, 1, 2, 3, 4, 5, 6, 7] := rfl
  unfold bitsB bytesW
  rw [r]
  show bits8 _ ++ (bits8 _ ++ (bits8 _ ++ (bits8 _ ++ (bits8 _ ++ (bits8 _ ++ (bits8 _ ++ (bits8 _ ++ []))))))) = _
  rw [h1 0 (by omega), h1 1 (by omega), h1 2 (by omega), h1 3 (by omega), h1 4 (by omega), h1 5 (by omega), h1 6 (by omega), h1 7 (by omega)]
  rfl
theorem bits8_inj {c d : Nat} (hc : c < 256) (hd : d < 256) (h : bits8 c = bits8 d) : c = d := by
  apply Nat.eq_of_testBit_eq
  intro i
  by_cases hi : i < 8
  · have e := congrArg (fun l : List Bool => l.getD (7 - i) false) h
    simp only [bits8_get _ _ (show 7 - i < 8 by omega)] at e
    rw [show 7 - (7 - i) = i by omega] at e
    exact e
  · have h1 : 256 ≤ 2 ^ i := by
      have : (256 : Nat) = 2 ^ 8 := rfl
      rw [this]; exact Nat.pow_le_pow_right (by omega) (by omega)
    rw [Nat.testBit_lt_two_pow (by omega), Nat.testBit_lt_two_pow (by omega)]
theorem bitsB_inj : ∀ {b c : List Int}, Bytes b → Bytes c → bitsB b = bitsB c → b = c
  | [], [], _, _, _ => rfl
  | [], d :: c, _, _, h => by simp [bitsB, bits8] at h
  | a :: b, [], _, _, h => by simp [bitsB, bits8] at h
  | a :: b, d :: c, hb, hc, h => by
    have h1 : bits8 a.toNat ++ bitsB b = bits8 d.toNat ++ bitsB c := h
    obtain ⟨g1, g2⟩ := List.append_inj h1 (by simp [bits8])
    have ha := hb.head
    have hd := hc.head
    have := bits8_inj (by omega) (by omega) g1
    rw [bitsB_inj hb.tail hc.tail g2]
    congr 1; omega

theorem bytesW_take {s : W} {k : Nat} (hk : k < 8) : (bytesW s).take (k + 1) = (bytesW s).take k ++ [wI s / 2 ^ (56 - 8 * k) % 256] := by
  have hl : k < (bytesW s).length := by simp [bytesW]; exact hk
  rw [List.take_succ_eq_append_getElem hl]
  simp [bytesW]
theorem bytesW_len (s : W) : (bytesW s).length = 8 := by simp [bytesW]
def sealed (bs : List Int) : List Int := bs ++ bytesW (crc 0#64 (bitsB bs))
theorem sealed_bytes {bs : List Int} (hb : Bytes bs) : Bytes (sealed bs) := hb.app (bytesW_bytes _)

theorem seal_ok {a : SA} {n : Nat} {bs : List Int} {σ : AH O} (hr : Rd σ 1 a n (bs.map (AV.i .u8))) (hb : Bytes bs) (hn : n ≤ 1000000) :
    Ok (crc_Seal [.sl a n] σ) fun r => Ext σ r.2 ∧ ∃ a', r.1 = .sl a' (n + 8) ∧ Rd r.2 1 a' (n + 8) ((sealed bs).map (AV.i .u8)) := by
  have hl : bs.length = n := by have := hr.len; simpa using this
  simp only [crc_Seal, len0, len1, len2, len3, len4, len5, get0, get1, get2, get3, get4, get5, Ok_bind, Ok_some, Ok_none, Ok_bif, asI_i, asB_b, asS_s, asP_p, asPS_p, asSl_sl, decide_eq_true_eq, asTup2, asTup3, asTup4, joinB, joinI, beq_true, beq_false, Bool.not_true, Bool.not_false, Bool.not_not, cond_true, cond_false, Int.toNat_natCast, Option.map_some, decNN, Bool.and_true, Bool.true_and]
  have e0 : Ext σ ((σ.bump 2).put σ.next (.cells true 5 [])) := ((Ext.refl σ).bump 2).put (Nat.le_refl _) _
  have r0 : Rd ((σ.bump 2).put σ.next (.cells true 5 [])) 1 (.loc σ.next 0 1) 0 [] := Rd.new (el := 5) (by simp) (by simp) rfl
  refine appS_ok (base := σ.next) r0 ⟨Nat.le_refl _, [], by simp⟩ (hr.ext e0) (by omega) (by simp) (by intro o e he; injection he; omega) (by omega) fun a1 σ1 q1 q2 q3 q4 _ => ?_
  simp only [len0, len1, len2, len3, len4, len5, get0, get1, get2, get3, get4, get5, Ok_bind, Ok_some, Ok_none, Ok_bif, asI_i, asB_b, asS_s, asP_p, asPS_p, asSl_sl, decide_eq_true_eq, asTup2, asTup3, asTup4, joinB, joinI, beq_true, beq_false, Bool.not_true, Bool.not_false, Bool.not_not, cond_true, cond_false, Int.toNat_natCast, Option.map_some, decNN, Bool.and_true, Bool.true_and, Nat.zero_add]
  have e1 : Ext σ σ1 := ⟨by rw [q3]; exact e0.next, fun b hb => by
    rw [q4 b (by omega) (by intro o e he; injection he; omega)]
    exact e0.blk b hb⟩
  rw [Nat.zero_add, List.nil_append] at q1
  have e2 : Ext σ1 ((σ1.bump 1).put σ1.next (.cells true 32 [.sl a n])) := ((Ext.refl σ1).bump 1).put (Nat.le_refl _) _
  refine (sum1_ok (p := ⟨a, n, bs⟩) (σ := (σ1.bump 1).put σ1.next (.cells true 32 [.sl a n])) (by simp) (by simp [Part.v]) ⟨(hr.ext e1).ext e2, hb, by show n ≤ _; omega⟩).mono fun r hr1 => ?_
  subst hr1
  simp only [len0, len1, len2, len3, len4, len5, get0, get1, get2, get3, get4, get5, Ok_bind, Ok_some, Ok_none, Ok_bif, asI_i, asB_b, asS_s, asP_p, asPS_p, asSl_sl, decide_eq_true_eq, asTup2, asTup3, asTup4, joinB, joinI, beq_true, beq_false, Bool.not_true, Bool.not_false, Bool.not_not, cond_true, cond_false, Int.toNat_natCast, Option.map_some, decNN, Bool.and_true, Bool.true_and]
  have ho2 : Own σ.next ((σ1.bump 1).put σ1.next (.cells true 32 [.sl a n])) 5 a1 := by
    cases a1 with
    | loc b o e =>
      obtain ⟨g1, all, g2⟩ := q2
      exact ⟨g1, all, by rw [e2.blk b q1.lt]; exact g2⟩
    | nil => trivial
    | z => trivial
  generalize hs : crc 0#64 (bitsB bs) = s at *
  generalize (σ1.bump 1).put σ1.next (.cells true 32 [.sl a n]) = σ2 at *
  refine Ok.mono (Q := fun r : List AV × AH O => Ext σ r.2 ∧ ∃ a', r.1 = [.sl a' (n + 8)] ∧ Rd r.2 1 a' (n + 8) ((sealed bs).map (AV.i .u8)))
    (Ok.count 8 (fun k (st : List AV × AH O) => ∃ (a' : SA) (σ3 : AH O), st = ([.sl a' (n + k), .i .i64 k], σ3) ∧ Ext σ σ3 ∧ Rd σ3 1 a' (n + k) ((bs ++ (bytesW s).take k).map (AV.i .u8)) ∧ Own σ.next σ3 5 a') ?_ ?_ ⟨a1, σ2, rfl, e1.trans e2, by simpa using q1.ext e2, ho2⟩) ?_
  · rintro k st hk ⟨a', σ3, rfl, he, h3, h4⟩
    have hin : ((k : Int) < 8) := by omega
    have e5 : IntKind.i64.wrap (56 - IntKind.i64.wrap (8 * (k : Int))) = ((56 - 8 * k : Nat) : Int) := by rw [i64_id (n := 8 * (k : Int)) (by omega) (by omega), i64_id (by omega) (by omega)]; omega
    have hmin : min (56 - 8 * k) 64 = 56 - 8 * k := by omega
    have hneg : ¬ (((56 - 8 * k : Nat) : Int) < 0) := by omega
    have e6 : IntKind.u8.wrap (Int.fdiv (wI s) (2 ^ (56 - 8 * k))) = wI s / 2 ^ (56 - 8 * k) % 256 := by
      rw [Int.fdiv_eq_ediv_of_nonneg _ (Int.le_of_lt (Int.pow_pos (by omega))), wrap_u8]
    simp only [len0, len1, len2, len3, len4, len5, get0, get1, get2, get3, get4, get5, Option.bind_some, asI_i, asB_b, asS_s, asP_p, asPS_p, asSl_sl, asTup2, asTup3, asTup4, joinB, joinI, beq_true, beq_false, Bool.not_true, Bool.not_false, Bool.not_not, cond_true, cond_false, neI, Int.toNat_natCast, Option.map_some, bindS_inl, bindS_inr, decNN, Bool.and_true, Bool.true_and, decide_true, decide_false, hin, e5, hneg, hmin, e6]
    simp only [len0, len1, len2, len3, len4, len5, get0, get1, get2, get3, get4, get5, Ok_bind, Ok_some, Ok_none, Ok_bif, asI_i, asB_b, asS_s, asP_p, asPS_p, asSl_sl, decide_eq_true_eq, asTup2, asTup3, asTup4, joinB, joinI, beq_true, beq_false, Bool.not_true, Bool.not_false, Bool.not_not, cond_true, cond_false, Int.toNat_natCast, Option.map_some, decNN, Bool.and_true, Bool.true_and]
    refine app1_ok (j := 0) h3 h4 he.next (by omega) rfl (by omega) fun a3 σ4 g1 g2 g3 g4 => ?_
    simp only [len0, len1, len2, len3, len4, len5, get0, get1, get2, get3, get4, get5, Ok_bind, Ok_some, Ok_none, Ok_bif, asI_i, asB_b, asS_s, asP_p, asPS_p, asSl_sl, decide_eq_true_eq, asTup2, asTup3, asTup4, joinB, joinI, beq_true, beq_false, Bool.not_true, Bool.not_false, Bool.not_not, cond_true, cond_false, Int.toNat_natCast, Option.map_some, decNN, Bool.and_true, Bool.true_and]
    rw [i64_id (by omega) (by omega)]
    refine ⟨a3, σ4, rfl, ⟨by have := he.next; omega, fun b hb => ?_⟩, ?_, g2⟩
    · rw [g4 b (by have := he.next; omega) fun o e h => ?_, he.blk b hb]
      subst h
      have := h4.1; omega
    · rw [bytesW_take hk, ← Nat.add_assoc]
      simpa using g1
  · rintro st ⟨a', σ3, rfl, he, h3, h4⟩
    have hin : ¬ (((8 : Nat) : Int) < 8) := by omega
    simp only [len0, len1, len2, len3, len4, len5, get0, get1, get2, get3, get4, get5, Option.bind_some, asI_i, asB_b, asS_s, asP_p, asPS_p, asSl_sl, asTup2, asTup3, asTup4, joinB, joinI, beq_true, beq_false, Bool.not_true, Bool.not_false, Bool.not_not, cond_true, cond_false, neI, Int.toNat_natCast, Option.map_some, bindS_inl, bindS_inr, decNN, Bool.and_true, Bool.true_and, decide_true, decide_false, hin]
    have ht : (bytesW s).take 8 = bytesW s := List.take_of_length_le (by rw [bytesW_len]; omega)
    rw [ht] at h3
    refine Ok_some.2 ⟨he, a', rfl, ?_⟩
    unfold sealed
    rw [hs]; exact h3
  · rintro ⟨r1, r2⟩ ⟨h1, a', h2, h3⟩
    simp only at h2
    subst h2
    simp only [len0, len1, len2, len3, len4, len5, get0, get1, get2, get3, get4, get5, Ok_bind, Ok_some, Ok_none, Ok_bif, asI_i, asB_b, asS_s, asP_p, asPS_p, asSl_sl, decide_eq_true_eq, asTup2, asTup3, asTup4, joinB, joinI, beq_true, beq_false, Bool.not_true, Bool.not_false, Bool.not_not, cond_true, cond_false, Int.toNat_natCast, Option.map_some, decNN, Bool.and_true, Bool.true_and]
    exact ⟨h1, a', rfl, h3⟩

/-- when the last eight bytes are the sum of those ahead -/
theorem own_sum {p q : List Int} (hp : Bytes p) (hq : Bytes q) (hl : q.length = 8) : crc (crc 0#64 (bitsB p)) (bitsB q) = 0#64 ↔ p ++ q = sealed p := by
  rw [crc_own _ _ (by rw [bitsB_len, hl]), ← bits_bytesW]
  unfold sealed
  constructor
  · intro h; rw [bitsB_inj hq (bytesW_bytes _) h]
  · intro h; rw [List.append_cancel_left h]

theorem open_ok {a : SA} {n : Nat} {bs : List Int} {σ : AH O} (hr : Rd σ 1 a n (bs.map (AV.i .u8))) (hb : Bytes bs) (hn : n ≤ 1000000) :
    Ok (crc_Open [.sl a n] σ) fun r => Ext σ r.2 ∧ ((n < 8 ∧ r.1 = .tup [.sl .nil 0, .i .i64 6]) ∨ (8 ≤ n ∧ bs ≠ sealed (bs.take (n - 8)) ∧ r.1 = .tup [.sl .nil 0, .i .i64 60]) ∨
      (8 ≤ n ∧ bs = sealed (bs.take (n - 8)) ∧ ∃ a', r.1 = .tup [.sl a' (n - 8), .i .i64 0] ∧ Rd r.2 1 a' (n - 8) ((bs.take (n - 8)).map (AV.i .u8)))) := by
  have hl : bs.length = n := by have := hr.len; simpa using this
  have e1 : IntKind.i64.wrap ((n : Int) - 8) = (n : Int) - 8 := i64_id (by omega) (by omega)
  by_cases h8 : n < 8
  · have : decide ((n : Int) - 8 < 0) = true := by simp; omega
    simp only [crc_Open, len0, len1, len2, len3, len4, len5, get0, get1, get2, get3, get4, get5, Option.bind_some, asI_i, asB_b, asS_s, asP_p, asPS_p, asSl_sl, asTup2, asTup3, asTup4, joinB, joinI, beq_true, beq_false, Bool.not_true, Bool.not_false, Bool.not_not, cond_true, cond_false, neI, Int.toNat_natCast, Option.map_some, bindS_inl, bindS_inr, decNN, Bool.and_true, Bool.true_and, decide_true, decide_false, e1, this]
    exact Ok_some.2 ⟨Ext.refl σ, .inl ⟨h8, rfl⟩⟩
  · have e2 : (n : Int) - 8 = ((n - 8 : Nat) : Int) := by omega
    have d1 : decide (((n - 8 : Nat) : Int) < 0) = false := decide_eq_false (by omega)
    have d2 : decide (((n - 8 : Nat) : Int) ≤ (n : Int)) = true := decide_eq_true (by omega)
    have d3 : decide ((n : Int) ≤ (n : Int)) = true := by simp
    have e3 : n - (n - 8) = 8 := by omega
    have e1 : IntKind.i64.wrap ((n : Int) - 8) = ((n - 8 : Nat) : Int) := by rw [i64_id (by omega) (by omega)]; exact e2
    obtain ⟨a1, g1, g2, _⟩ := hr.adv (lo := 0) (m := n - 8) (by omega)
    obtain ⟨a2, g3, g4, _⟩ := hr.adv (lo := n - 8) (m := 8) (by omega)
    simp only [Nat.mul_one, List.drop_zero] at g2
    rw [← List.map_take] at g2
    simp only [Nat.mul_one] at g4
    rw [← List.map_drop, ← List.map_take, List.take_of_length_le (l := bs.drop (n - 8)) (by simp; omega)] at g4
    simp only [crc_Open, len0, len1, len2, len3, len4, len5, get0, get1, get2, get3, get4, get5, Option.bind_some, asI_i, asB_b, asS_s, asP_p, asPS_p, asSl_sl, asTup2, asTup3, asTup4, joinB, joinI, beq_true, beq_false, Bool.not_true, Bool.not_false, Bool.not_not, cond_true, cond_false, neI, Int.toNat_natCast, Option.map_some, bindS_inl, bindS_inr, decNN, Bool.and_true, Bool.true_and, decide_true, decide_false, e1, d1, d2, d3, g1, g3, Nat.sub_zero, e3]
    have e4 : Ext σ ((σ.bump 1).put σ.next (.cells true 32 [.sl a1 (n - 8)])) := ((Ext.refl σ).bump 1).put (Nat.le_refl _) _
    refine Ok.step (sum1_ok (b := σ.next) (p := ⟨a1, n - 8, bs.take (n - 8)⟩) (σ := (σ.bump 1).put σ.next (.cells true 32 [.sl a1 (n - 8)])) (by simp) (by simp [Part.v]) ⟨g2.ext e4, fun x hx => hb x (List.mem_of_mem_take hx), by show n - 8 ≤ _; omega⟩) fun r hr1 => ?_
    subst hr1
    simp only [len0, len1, len2, len3, len4, len5, get0, get1, get2, get3, get4, get5, Option.bind_some, asI_i, asB_b, asS_s, asP_p, asPS_p, asSl_sl, asTup2, asTup3, asTup4, joinB, joinI, beq_true, beq_false, Bool.not_true, Bool.not_false, Bool.not_not, cond_true, cond_false, neI, Int.toNat_natCast, Option.map_some, bindS_inl, bindS_inr, decNN, Bool.and_true, Bool.true_and, decide_true, decide_false]
    refine Ok.step (more_ok (g4.ext e4) (Bytes.drop hb _) (by omega)) fun r hr1 => ?_
    subst hr1
    have hown := own_sum (p := bs.take (n - 8)) (q := bs.drop (n - 8)) (fun x hx => hb x (List.mem_of_mem_take hx)) (Bytes.drop hb _) (by simp; omega)
    rw [List.take_append_drop] at hown
    simp only [len0, len1, len2, len3, len4, len5, get0, get1, get2, get3, get4, get5, Option.bind_some, asI_i, asB_b, asS_s, asP_p, asPS_p, asSl_sl, asTup2, asTup3, asTup4, joinB, joinI, beq_true, beq_false, Bool.not_true, Bool.not_false, Bool.not_not, cond_true, cond_false, neI, Int.toNat_natCast, Option.map_some, bindS_inl, bindS_inr, decNN, Bool.and_true, Bool.true_and, decide_true, decide_false]
    by_cases h0 : crc (crc 0#64 (bitsB (bs.take (n - 8)))) (bitsB (bs.drop (n - 8))) = 0#64
    · have hz : (wI (crc (crc 0#64 (bitsB (bs.take (n - 8)))) (bitsB (bs.drop (n - 8)))) == 0) = true := by rw [h0]; rfl
      simp only [hz, len0, len1, len2, len3, len4, len5, get0, get1, get2, get3, get4, get5, Ok_bind, Ok_some, Ok_none, Ok_bif, asI_i, asB_b, asS_s, asP_p, asPS_p, asSl_sl, decide_eq_true_eq, asTup2, asTup3, asTup4, joinB, joinI, beq_true, beq_false, Bool.not_true, Bool.not_false, Bool.not_not, cond_true, cond_false, Int.toNat_natCast, Option.map_some, decNN, Bool.and_true, Bool.true_and, Bool.false_eq_true, if_false]
      generalize (σ.bump 1).put σ.next (.cells true 32 [.sl a1 (n - 8)]) = σ2 at *
      have e0 : Ext σ2 ((σ2.bump 2).put σ2.next (.cells true 5 [])) := ((Ext.refl σ2).bump 2).put (Nat.le_refl _) _
      have r0 : Rd ((σ2.bump 2).put σ2.next (.cells true 5 [])) 1 (.loc σ2.next 0 1) 0 [] := Rd.new (el := 5) (by simp) (by simp) rfl
      refine appS_ok (base := σ2.next) r0 ⟨Nat.le_refl _, [], by simp⟩ ((g2.ext e4).ext e0) (by omega) (by simp) (by intro o e he; injection he; omega) (by omega) fun a3 σ3 q1 q2 q3 q4 _ => ?_
      simp only [len0, len1, len2, len3, len4, len5, get0, get1, get2, get3, get4, get5, Ok_bind, Ok_some, Ok_none, Ok_bif, asI_i, asB_b, asS_s, asP_p, asPS_p, asSl_sl, decide_eq_true_eq, asTup2, asTup3, asTup4, joinB, joinI, beq_true, beq_false, Bool.not_true, Bool.not_false, Bool.not_not, cond_true, cond_false, Int.toNat_natCast, Option.map_some, decNN, Bool.and_true, Bool.true_and]
      rw [Nat.zero_add, List.nil_append] at q1
      rw [Nat.zero_add]
      refine ⟨e4.trans ⟨by rw [q3]; exact e0.next, fun b hb' => ?_⟩, .inr (.inr ⟨by omega, hown.1 h0, a3, rfl, q1⟩)⟩
      rw [q4 b (by omega) (by intro o e he; injection he; omega)]
      exact e0.blk b hb'
    · have hz : (wI (crc (crc 0#64 (bitsB (bs.take (n - 8)))) (bitsB (bs.drop (n - 8)))) == 0) = false := by
        rw [beq_eq_false_iff_ne]
        exact fun e => h0 (wI_inj (by rw [e]; rfl))
      simp only [hz, len0, len1, len2, len3, len4, len5, get0, get1, get2, get3, get4, get5, Ok_bind, Ok_some, Ok_none, Ok_bif, asI_i, asB_b, asS_s, asP_p, asPS_p, asSl_sl, decide_eq_true_eq, asTup2, asTup3, asTup4, joinB, joinI, beq_true, beq_false, Bool.not_true, Bool.not_false, Bool.not_not, cond_true, cond_false, Int.toNat_natCast, Option.map_some, decNN, Bool.and_true, Bool.true_and, if_true]
      exact ⟨e4, .inr (.inl ⟨by omega, fun e => h0 (hown.2 e), trivial⟩)⟩

theorem few_ok {a : SA} {n : Nat} {bs : List Int} {σ : AH O} (hr : Rd σ 1 a n (bs.map (AV.i .u8))) : Ok (law06_few [.sl a n] σ) fun r => ∃ a', r = (.sl a' (bs.take 300).length, σ) ∧ Rd σ 1 a' (bs.take 300).length ((bs.take 300).map (AV.i .u8)) := by
  have hl : bs.length = n := by have := hr.len; simpa using this
  have e : (if 300 < (n : Int) then 300 else (n : Int)) = ((bs.take 300).length : Int) := by
    simp only [List.length_take, hl]
    split <;> omega
  have hle : (bs.take 300).length ≤ n := by simp; omega
  obtain ⟨a1, g1, g2, _⟩ := hr.adv (lo := 0) (m := (bs.take 300).length) (by omega)
  simp only [Nat.mul_one, List.drop_zero] at g2
  have et : (bs.map (AV.i .u8)).take (bs.take 300).length = (bs.take 300).map (AV.i .u8) := by
    rw [← List.map_take]
    congr 1
    simp only [List.length_take]
    rcases Nat.le_total 300 bs.length with h | h
    · rw [Nat.min_eq_left h]
    · rw [Nat.min_eq_right h, List.take_of_length_le (Nat.le_refl _), List.take_of_length_le h]
  rw [et] at g2
  have d1 : decide (((bs.take 300).length : Int) ≤ (n : Int)) = true := by simp; omega
  simp only [law06_few, len0, len1, len2, len3, len4, len5, get0, get1, get2, get3, get4, get5, Option.bind_some, asI_i, asB_b, asS_s, asP_p, asPS_p, asSl_sl, asTup2, asTup3, asTup4, joinB, joinI, beq_true, beq_false, Bool.not_true, Bool.not_false, Bool.not_not, cond_true, cond_false, neI, Int.toNat_natCast, Option.map_some, bindS_inl, bindS_inr, decNN, Bool.and_true, Bool.true_and, decide_true, decide_false, e, d1, g1, Nat.sub_zero]
  exact Ok_some.2 ⟨a1, rfl, g2⟩

theorem crc_one : crc 0#64 (bitsB [1]) = 0x42f0e1eba9ea3693#64 := by decide +kernel
theorem bytes_zero : bytesW 0#64 = [0, 0, 0, 0, 0, 0, 0, 0] := by decide +kernel
theorem awake6_ok {σ : AH O} : Ok (law06_awake [] σ) fun r => r.1 = .b true ∧ Ext σ r.2 := by
  simp only [law06_awake, len0, len1, len2, len3, len4, len5, get0, get1, get2, get3, get4, get5, Option.bind_some, asI_i, asB_b, asS_s, asP_p, asPS_p, asSl_sl, asTup2, asTup3, asTup4, joinB, joinI, beq_true, beq_false, Bool.not_true, Bool.not_false, Bool.not_not, cond_true, cond_false, neI, Int.toNat_natCast, Option.map_some, bindS_inl, bindS_inr, decNN, Bool.and_true, Bool.true_and, decide_true, decide_false]
  have e1 : Ext σ (((σ.bump 2).put σ.next (.cells true 5 [.i .u8 1])).put (σ.next + 1) (.cells true 32 [.sl (.loc σ.next 0 1) 1])) := (((Ext.refl σ).bump 2).put (Nat.le_refl _) _).put (by omega) _
  refine Ok.step (sum1_ok (p := ⟨.loc σ.next 0 1, 1, [1]⟩) (σ := ((σ.bump 2).put σ.next (.cells true 5 [.i .u8 1])).put (σ.next + 1) (.cells true 32 [.sl (.loc σ.next 0 1) 1])) (by simp) (by simp [Part.v]) ⟨Rd.new (el := 5) (by simp) (by simp) rfl, fun x hx => by simp at hx; omega, by simp⟩) fun r hr1 => ?_
  subst hr1
  have hone : (wI (crc 0#64 (bitsB [1])) == 4823603603198064275) = true := by rw [crc_one]; rfl
  simp only [len0, len1, len2, len3, len4, len5, get0, get1, get2, get3, get4, get5, Option.bind_some, asI_i, asB_b, asS_s, asP_p, asPS_p, asSl_sl, asTup2, asTup3, asTup4, joinB, joinI, beq_true, beq_false, Bool.not_true, Bool.not_false, Bool.not_not, cond_true, cond_false, neI, Int.toNat_natCast, Option.map_some, bindS_inl, bindS_inr, decNN, Bool.and_true, Bool.true_and, decide_true, decide_false, hone]
  refine Ok.step (Q := fun r : List AV × AH O => r.1 = [.b true] ∧ Ext σ r.2) ?_ ?_
  · refine Ok.step (seal_ok (bs := []) (Rd.nil _ 1) (fun x hx => by cases hx) (by omega)) fun r ⟨g1, a', g2, g3⟩ => ?_
    obtain ⟨r1, r2⟩ := r
    simp only at g1 g2 g3
    subst g2
    have hs : sealed [] = [0, 0, 0, 0, 0, 0, 0, 0] := by
      unfold sealed
      have : crc 0#64 (bitsB []) = 0#64 := rfl
      rw [this, bytes_zero]; rfl
    rw [hs] at g3
    simp only [len0, len1, len2, len3, len4, len5, get0, get1, get2, get3, get4, get5, Option.bind_some, asI_i, asB_b, asS_s, asP_p, asPS_p, asSl_sl, asTup2, asTup3, asTup4, joinB, joinI, beq_true, beq_false, Bool.not_true, Bool.not_false, Bool.not_not, cond_true, cond_false, neI, Int.toNat_natCast, Option.map_some, bindS_inl, bindS_inr, decNN, Bool.and_true, Bool.true_and, decide_true, decide_false, g3.rdSl, bytes_ok]
    exact Ok_some.2 ⟨rfl, e1.trans g1⟩
  · rintro ⟨r1, r2⟩ ⟨h1, h2⟩
    simp only at h1
    subst h1
    simp only [len0, len1, len2, len3, len4, len5, get0, get1, get2, get3, get4, get5, Option.bind_some, asI_i, asB_b, asS_s, asP_p, asPS_p, asSl_sl, asTup2, asTup3, asTup4, joinB, joinI, beq_true, beq_false, Bool.not_true, Bool.not_false, Bool.not_not, cond_true, cond_false, neI, Int.toNat_natCast, Option.map_some, bindS_inl, bindS_inr, decNN, Bool.and_true, Bool.true_and, decide_true, decide_false]
    exact Ok_some.2 ⟨rfl, h2⟩

theorem xor_wI (s t : W) : ibits .xor .u64 (wI s) (wI t) = wI (s ^^^ t) := by
  have h1 := wI_range s
  have h2 := wI_range t
  rw [xor_u64 h1.1 h1.2 h2.1 h2.2]
  unfold wI
  rw [BitVec.toNat_xor]; rfl
theorem bits8_xor (c d : Nat) : bits8 (c ^^^ d) = List.zipWith xor (bits8 c) (bits8 d) := by
  simp only [bits8, List.zipWith_cons_cons, List.zipWith_nil_left, Nat.testBit_xor]
/-- bytes, one with another -/
def xorB : List Int → List Int → List Int := List.zipWith fun c d => ((c.toNat ^^^ d.toNat : Nat) : Int)
theorem bitsB_xor : ∀ (a b : List Int), a.length = b.length → bitsB (xorB a b) = List.zipWith xor (bitsB a) (bitsB b)
  | [], [], _ => rfl
  | c :: a, d :: b, h => by
    have ih := bitsB_xor a b (by simpa using h)
    show bits8 _ ++ bitsB (xorB a b) = List.zipWith xor (bits8 c.toNat ++ bitsB a) (bits8 d.toNat ++ bitsB b)
    rw [ih, List.zipWith_append (by simp [bits8]), ← bits8_xor]
    rfl
  | [], _ :: _, h => by simp at h
  | _ :: _, [], h => by simp at h
theorem crc_bytes_xor {a b : List Int} (h : a.length = b.length) : crc 0#64 (bitsB (xorB a b)) = crc 0#64 (bitsB a) ^^^ crc 0#64 (bitsB b) := by
  rw [bitsB_xor a b h, ← crc_xor _ _ _ _ (by rw [bitsB_len, bitsB_len, h]), BitVec.xor_self]
theorem xorB_bytes {a b : List Int} (ha : Bytes a) (hb : Bytes b) : Bytes (xorB a b) := fun x hx => by
  unfold xorB at hx
  obtain ⟨i, hi, rfl⟩ := List.getElem_of_mem hx
  rw [List.getElem_zipWith]
  simp only [List.length_zipWith] at hi
  have h1 := bytes_get ha (i := i) (by omega)
  have h2 := bytes_get hb (i := i) (by omega)
  have := Nat.xor_lt_two_pow (n := 8) (x := a[i].toNat) (y := b[i].toNat) (by omega) (by omega)
  omega

theorem xorB_take {a b : List Int} {k : Nat} (ha : k < a.length) (hb : k < b.length) : xorB (a.take (k + 1)) (b.take (k + 1)) = xorB (a.take k) (b.take k) ++ [((a[k].toNat ^^^ b[k].toNat : Nat) : Int)] := by
  rw [List.take_succ_eq_append_getElem ha, List.take_succ_eq_append_getElem hb]
  unfold xorB
  rw [List.zipWith_append (by simp; omega)]
  rfl
theorem xorB_len {a b : List Int} : (xorB a b).length = min a.length b.length := by unfold xorB; simp

theorem lays_ok {a b : SA} {n m : Nat} {bs cs : List Int} {σ : AH O} (hr : Rd σ 1 a n (bs.map (AV.i .u8))) (hb : ∀ x ∈ bs, 0 ≤ x ∧ x < 256) (hr' : Rd σ 1 b m (cs.map (AV.i .u8))) (hc : ∀ x ∈ cs, 0 ≤ x ∧ x < 256) :
    Ok (law06_CrcLays [.sl a n, .sl b m] σ) fun r => r.1 = .b true := by
  have hl : bs.length = n := by have := hr.len; simpa using this
  have hl' : cs.length = m := by have := hr'.len; simpa using this
  simp only [law06_CrcLays, len0, len1, len2, len3, len4, len5, get0, get1, get2, get3, get4, get5, Option.bind_some, asI_i, asB_b, asS_s, asP_p, asPS_p, asSl_sl, asTup2, asTup3, asTup4, joinB, joinI, beq_true, beq_false, Bool.not_true, Bool.not_false, Bool.not_not, cond_true, cond_false, neI, Int.toNat_natCast, Option.map_some, bindS_inl, bindS_inr, decNN, Bool.and_true, Bool.true_and, decide_true, decide_false]
  refine Ok.step awake6_ok fun r ⟨h1, he1⟩ => ?_
  obtain ⟨r1, σ1⟩ := r
  simp only at h1 he1
  subst h1
  obtain ⟨N, hN⟩ : ∃ N : Nat, N = min (min n m) 300 := ⟨_, rfl⟩
  have e4 : (if 300 < (if (m : Int) < (n : Int) then (m : Int) else (n : Int)) then 300 else (if (m : Int) < (n : Int) then (m : Int) else (n : Int))) = (N : Int) := by
    split <;> split <;> omega
  simp only [len0, len1, len2, len3, len4, len5, get0, get1, get2, get3, get4, get5, Option.bind_some, asI_i, asB_b, asS_s, asP_p, asPS_p, asSl_sl, asTup2, asTup3, asTup4, joinB, joinI, beq_true, beq_false, Bool.not_true, Bool.not_false, Bool.not_not, cond_true, cond_false, neI, Int.toNat_natCast, Option.map_some, bindS_inl, bindS_inr, decNN, Bool.and_true, Bool.true_and, decide_true, decide_false, e4]
  refine Ok.step (Q := fun s : List AV × AH O => ∃ (a' : SA) (σ2 : AH O), s = ([.sl a' N], σ2) ∧ Ext σ1 σ2 ∧ Rd σ2 1 a' N ((xorB (bs.take N) (cs.take N)).map (AV.i .u8)))
    (Ok.count N (fun k (s : List AV × AH O) => ∃ (a' : SA) (σ2 : AH O), s = ([.sl a' k, .i .i64 k], σ2) ∧ Ext σ1 σ2 ∧ Rd σ2 1 a' k ((xorB (bs.take k) (cs.take k)).map (AV.i .u8)) ∧ Own σ1.next σ2 5 a') ?_ ?_ ⟨.nil, σ1, rfl, Ext.refl σ1, Rd.nil σ1 1, trivial⟩) ?_
  · rintro k s hk ⟨a', σ2, rfl, he, h3, h4⟩
    have hin : ((k : Int) < (N : Int)) := by omega
    have hin1 : decide ((k : Int) < (n : Int)) = true := by simp; omega
    have hin2 : decide ((k : Int) < (m : Int)) = true := by simp; omega
    have eb : Ext σ2 (σ2.bump 2) := (Ext.refl σ2).bump 2
    have hk1 : k < bs.length := by omega
    have hk2 : k < cs.length := by omega
    have g1 := fun {B : Type} (f : AV → Option B) => (((hr.ext he1).ext he).ext eb).ld1 (map_get (k := .u8) hk1) f
    have g2 := fun {B : Type} (f : AV → Option B) => (((hr'.ext he1).ext he).ext eb).ld1 (map_get (k := .u8) hk2) f
    have c1 := bytes_get hb hk1
    have c2 := bytes_get hc hk2
    simp only [len0, len1, len2, len3, len4, len5, get0, get1, get2, get3, get4, get5, Option.bind_some, asI_i, asB_b, asS_s, asP_p, asPS_p, asSl_sl, asTup2, asTup3, asTup4, joinB, joinI, beq_true, beq_false, Bool.not_true, Bool.not_false, Bool.not_not, cond_true, cond_false, neI, Int.toNat_natCast, Option.map_some, bindS_inl, bindS_inr, decNN, Bool.and_true, Bool.true_and, decide_true, decide_false, hin, hin1, hin2, g1, g2, xor_u8 c1.1 c1.2 c2.1 c2.2]
    simp only [len0, len1, len2, len3, len4, len5, get0, get1, get2, get3, get4, get5, Ok_bind, Ok_some, Ok_none, Ok_bif, asI_i, asB_b, asS_s, asP_p, asPS_p, asSl_sl, decide_eq_true_eq, asTup2, asTup3, asTup4, joinB, joinI, beq_true, beq_false, Bool.not_true, Bool.not_false, Bool.not_not, cond_true, cond_false, Int.toNat_natCast, Option.map_some, decNN, Bool.and_true, Bool.true_and]
    refine app1_ok (j := 0) h3 h4 he.next (by omega) rfl (by omega) fun a3 σ4 k1 k2 k3 k4 => ?_
    simp only [len0, len1, len2, len3, len4, len5, get0, get1, get2, get3, get4, get5, Ok_bind, Ok_some, Ok_none, Ok_bif, asI_i, asB_b, asS_s, asP_p, asPS_p, asSl_sl, decide_eq_true_eq, asTup2, asTup3, asTup4, joinB, joinI, beq_true, beq_false, Bool.not_true, Bool.not_false, Bool.not_not, cond_true, cond_false, Int.toNat_natCast, Option.map_some, decNN, Bool.and_true, Bool.true_and]
    rw [i64_id (by omega) (by omega)]
    refine ⟨a3, σ4, rfl, own_ext he h4 (by omega) k4, ?_, k2⟩
    rw [xorB_take hk1 hk2]
    simpa using k1
  · rintro s ⟨a', σ2, rfl, he, h3, h4⟩
    have hin : ¬ ((N : Int) < (N : Int)) := by omega
    simp only [len0, len1, len2, len3, len4, len5, get0, get1, get2, get3, get4, get5, Option.bind_some, asI_i, asB_b, asS_s, asP_p, asPS_p, asSl_sl, asTup2, asTup3, asTup4, joinB, joinI, beq_true, beq_false, Bool.not_true, Bool.not_false, Bool.not_not, cond_true, cond_false, neI, Int.toNat_natCast, Option.map_some, bindS_inl, bindS_inr, decNN, Bool.and_true, Bool.true_and, decide_true, decide_false, hin]
    exact Ok_some.2 ⟨a', σ2, rfl, he, h3⟩
  · rintro r ⟨a2, σ2, rfl, he2, h3⟩
    have hxl : (xorB (bs.take N) (cs.take N)).length = N := by have := h3.len; simpa using this
    have d1 : decide ((N : Int) ≤ (n : Int)) = true := by simp; omega
    have d2 : decide ((N : Int) ≤ (m : Int)) = true := by simp; omega
    obtain ⟨a3, g1, g2, _⟩ := ((hr.ext he1).ext he2).adv (lo := 0) (m := N) (by omega)
    obtain ⟨a4, g3, g4, _⟩ := ((hr'.ext he1).ext he2).adv (lo := 0) (m := N) (by omega)
    simp only [Nat.mul_one, List.drop_zero] at g2 g4
    rw [← List.map_take] at g2 g4
    simp only [len0, len1, len2, len3, len4, len5, get0, get1, get2, get3, get4, get5, Option.bind_some, asI_i, asB_b, asS_s, asP_p, asPS_p, asSl_sl, asTup2, asTup3, asTup4, joinB, joinI, beq_true, beq_false, Bool.not_true, Bool.not_false, Bool.not_not, cond_true, cond_false, neI, Int.toNat_natCast, Option.map_some, bindS_inl, bindS_inr, decNN, Bool.and_true, Bool.true_and, decide_true, decide_false, d1, d2, g1, g3, Nat.sub_zero]
    have ex : Ext σ2 ((σ2.bump 3).put σ2.next (.cells true 32 [.sl a2 N])) := ((Ext.refl σ2).bump 3).put (Nat.le_refl _) _
    refine Ok.step (sum1_ok (p := ⟨a2, N, xorB (bs.take N) (cs.take N)⟩) (σ := (σ2.bump 3).put σ2.next (.cells true 32 [.sl a2 N])) (by simp) (by simp [Part.v]) ⟨h3.ext ex, xorB_bytes (fun x hx => hb x (List.mem_of_mem_take hx)) (fun x hx => hc x (List.mem_of_mem_take hx)), by show N ≤ _; omega⟩) fun r hr1 => ?_
    subst hr1
    simp only [len0, len1, len2, len3, len4, len5, get0, get1, get2, get3, get4, get5, Option.bind_some, asI_i, asB_b, asS_s, asP_p, asPS_p, asSl_sl, asTup2, asTup3, asTup4, joinB, joinI, beq_true, beq_false, Bool.not_true, Bool.not_false, Bool.not_not, cond_true, cond_false, neI, Int.toNat_natCast, Option.map_some, bindS_inl, bindS_inr, decNN, Bool.and_true, Bool.true_and, decide_true, decide_false]
    have ex2 := ex.put (b := σ2.next + 1) (by omega) (.cells true 32 [.sl a3 N])
    refine Ok.step (sum1_ok (p := ⟨a3, N, bs.take N⟩) (σ := ((σ2.bump 3).put σ2.next (.cells true 32 [.sl a2 N])).put (σ2.next + 1) (.cells true 32 [.sl a3 N])) (by simp) (by simp [Part.v]) ⟨g2.ext ex2, fun x hx => hb x (List.mem_of_mem_take hx), by show N ≤ _; omega⟩) fun r hr1 => ?_
    subst hr1
    simp only [len0, len1, len2, len3, len4, len5, get0, get1, get2, get3, get4, get5, Option.bind_some, asI_i, asB_b, asS_s, asP_p, asPS_p, asSl_sl, asTup2, asTup3, asTup4, joinB, joinI, beq_true, beq_false, Bool.not_true, Bool.not_false, Bool.not_not, cond_true, cond_false, neI, Int.toNat_natCast, Option.map_some, bindS_inl, bindS_inr, decNN, Bool.and_true, Bool.true_and, decide_true, decide_false]
    have ex3 := ex2.put (b := σ2.next + 1 + 1) (by omega) (.cells true 32 [.sl a4 N])
    refine Ok.step (sum1_ok (p := ⟨a4, N, cs.take N⟩) (σ := (((σ2.bump 3).put σ2.next (.cells true 32 [.sl a2 N])).put (σ2.next + 1) (.cells true 32 [.sl a3 N])).put (σ2.next + 1 + 1) (.cells true 32 [.sl a4 N])) (by simp) (by simp [Part.v]) ⟨g4.ext ex3, fun x hx => hc x (List.mem_of_mem_take hx), by show N ≤ _; omega⟩) fun r hr1 => ?_
    subst hr1
    simp only [len0, len1, len2, len3, len4, len5, get0, get1, get2, get3, get4, get5, Option.bind_some, asI_i, asB_b, asS_s, asP_p, asPS_p, asSl_sl, asTup2, asTup3, asTup4, joinB, joinI, beq_true, beq_false, Bool.not_true, Bool.not_false, Bool.not_not, cond_true, cond_false, neI, Int.toNat_natCast, Option.map_some, bindS_inl, bindS_inr, decNN, Bool.and_true, Bool.true_and, decide_true, decide_false, xor_wI, crc_bytes_xor (a := bs.take N) (b := cs.take N) (by simp; omega), beq_self_eq_true]
    exact Ok_some.2 rfl
end Go.Abs.Try
