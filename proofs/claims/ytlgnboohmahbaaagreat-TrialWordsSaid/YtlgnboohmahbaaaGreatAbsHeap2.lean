/-
  AbsHeap2: copy, clear, bytes as a string, calls; and all operations together.
-/
import Derived.Test.YtlgnboohmahbaaaGreatAbsMap
import Derived.Laws.BytesString
import Derived.Laws.BytesArg
import Derived.Lib.ConvBytes
set_option linter.unusedVariables false
set_option linter.unusedSimpArgs false
set_option linter.constructorNameAsVariable false
namespace Go.Abs
open Go
variable {O : Type} {RO : O → Loc → (Nat → Option Obj) → Prop} {P : Program} {ρ : Inj} {fp : Fp} {σ : AH O} {w : World} {n : Nat} {e : Env} {a : Act} {R : Type}
variable {G : List (Nat × Sm O)} {ty : TypeId} {nid : Nat} {K : AV → AH O → Option R} {r : R}
theorem copy_sound {c : Call} (hcal : c.callee = .builtin .copy) (h : opK P G (.call c) ty e σ nid K = some r) (he : EnvRel n ρ e a) (hrel : Rel RO P ρ fp σ w) : Goal RO P (.call c) ty a nid ρ fp σ w K r := by
 simp only [opK, hcal] at h
 split at h
 ·rename_i sa k sa' m t t' hv ht
  obtain ⟨u1, u2, ha, r1, r2⟩ := two_args (args_rel he c.args) hv
  have hts : c.argTypes = #[t, t'] := by apply Array.ext'; rw [ht]
  split at h
  ·rename_i el hu
   obtain ⟨inf, hinf, hA⟩ := withES_spec h
   clear h hv
   have toRun : ∀ {u : Value} {w' : World}, (Builtin.copy_ #[t, t'] ty #[u1, u2]).run P w = .ok u w' → ∀ o : Oper, o.op = .call c → o.type = ty → (execOp a.eval o).run P w = .ok (.value u) w' := by
    intro u w' hr o ho hty
    subst hty
    simp only [execOp, ho, resolve, hcal, Sem.run_bind, Sem.run_pure, Result.andThen_ok, invoke, builtin, hts, ha, hr]
   obtain ⟨A1, cap1, e1, hn1, _⟩ := r1.sl_inv
   obtain ⟨A2, cap2, e2, hn2, _⟩ := r2.sl_inv
   cases hk : Nat.beq (min m k) 0 with
   | true =>
    rw [hk] at hA
    have hk := Nat.eq_of_beq_eq_true hk
    refine ⟨_, _, hA, OpOK.value (toRun (u := .int .i64 0) (w' := w) ?_) (.i _ _) (Post.refl hrel)⟩
    have hk' : Nat.min m k = 0 := hk
    rw [e1, e2]
    cases A1 <;> cases A2 <;> simp [Builtin.copy_, run_underlying hu, Builtin.lenOf, hk', sizeOf, typeInfo, hinf, Builtin.firstCells, loadCells, loadCellsFrom, storeCells, goInt]
   | false =>
    simp only [hk, cond_false] at hA
    obtain ⟨cs, hcs, hA⟩ := Option.bind_eq_some_iff.1 hA
    obtain ⟨σ', hst, h⟩ := Option.bind_eq_some_iff.1 hA
    have hmk : min m k ≠ 0 := fun e => by rw [e] at hk; cases hk
    unfold AH.rdSl at hcs
    unfold AH.wrSl at hst
    clear e1 e2
    generalize hu1 : u1 = uu1 at r1
    generalize hu2 : u2 = uu2 at r2
    cases r1 with
    | sln => cases hst
    | slz => cases hst
    | sl0 => simp at hmk
    | sla _ _ _ _ c1 L1 hL1 p1 p2 p3 =>
     cases r2 with
     | sln => simp at hmk
     | slz => simp at hmk
     | sl0 => simp at hmk
     | sla _ _ _ _ c2 L2 hL2 q1 q2 q3 =>
      obtain ⟨us, k1, k2, k3, k4⟩ := ldN_sound hrel hL2 hcs
      obtain ⟨fp', w', hrun, hp⟩ := st_sound (S := fun b => b < σ.next ∧ (allocs (.call c) = true → b ≠ nid)) hrel hL1 hst k1 k2
      have hld := run_loadCells_list (P := P) w _ us (fun j u hj => by rw [addr_add]; exact k4 j u hj)
      refine ⟨_, _, h, OpOK.value (toRun (u := .int .i64 (min m k : Nat)) (w' := w') ?_) (.i _ _) hp⟩
      rw [hu1, hu2]
      have hmin : Nat.min m k = min m k := rfl
      rw [k3] at hld
      simp [Builtin.copy_, run_underlying hu, Builtin.lenOf, sizeOf, typeInfo, hinf, Builtin.firstCells, hmin, hld, hrun, goInt]
     | sl _ _ _ c2 L2 hL2 q1 q2 q3 =>
      obtain ⟨us, k1, k2, k3, k4⟩ := ldN_sound hrel hL2 hcs
      obtain ⟨fp', w', hrun, hp⟩ := st_sound (S := fun b => b < σ.next ∧ (allocs (.call c) = true → b ≠ nid)) hrel hL1 hst k1 k2
      have hld := run_loadCells_list (P := P) w _ us (fun j u hj => by rw [addr_add]; exact k4 j u hj)
      refine ⟨_, _, h, OpOK.value (toRun (u := .int .i64 (min m k : Nat)) (w' := w') ?_) (.i _ _) hp⟩
      rw [hu1, hu2]
      have hmin : Nat.min m k = min m k := rfl
      rw [k3] at hld
      simp [Builtin.copy_, run_underlying hu, Builtin.lenOf, sizeOf, typeInfo, hinf, Builtin.firstCells, hmin, hld, hrun, goInt]
    | sl _ _ _ c1 L1 hL1 p1 p2 p3 =>
     cases r2 with
     | sln => simp at hmk
     | slz => simp at hmk
     | sl0 => simp at hmk
     | sla _ _ _ _ c2 L2 hL2 q1 q2 q3 =>
      obtain ⟨us, k1, k2, k3, k4⟩ := ldN_sound hrel hL2 hcs
      obtain ⟨fp', w', hrun, hp⟩ := st_sound (S := fun b => b < σ.next ∧ (allocs (.call c) = true → b ≠ nid)) hrel hL1 hst k1 k2
      have hld := run_loadCells_list (P := P) w _ us (fun j u hj => by rw [addr_add]; exact k4 j u hj)
      refine ⟨_, _, h, OpOK.value (toRun (u := .int .i64 (min m k : Nat)) (w' := w') ?_) (.i _ _) hp⟩
      rw [hu1, hu2]
      have hmin : Nat.min m k = min m k := rfl
      rw [k3] at hld
      simp [Builtin.copy_, run_underlying hu, Builtin.lenOf, sizeOf, typeInfo, hinf, Builtin.firstCells, hmin, hld, hrun, goInt]
     | sl _ _ _ c2 L2 hL2 q1 q2 q3 =>
      obtain ⟨us, k1, k2, k3, k4⟩ := ldN_sound hrel hL2 hcs
      obtain ⟨fp', w', hrun, hp⟩ := st_sound (S := fun b => b < σ.next ∧ (allocs (.call c) = true → b ≠ nid)) hrel hL1 hst k1 k2
      have hld := run_loadCells_list (P := P) w _ us (fun j u hj => by rw [addr_add]; exact k4 j u hj)
      refine ⟨_, _, h, OpOK.value (toRun (u := .int .i64 (min m k : Nat)) (w' := w') ?_) (.i _ _) hp⟩
      rw [hu1, hu2]
      have hmin : Nat.min m k = min m k := rfl
      rw [k3] at hld
      simp [Builtin.copy_, run_underlying hu, Builtin.lenOf, sizeOf, typeInfo, hinf, Builtin.firstCells, hmin, hld, hrun, goInt]
  ·cases h
 ·cases h
theorem zeroCells_rel {z : List AV} {v : Value} (hz : VRels ρ z v.cells.toList) (ho : z.all AV.isOne = true) (m : Nat) : VRels ρ ((List.replicate m z).flatten) (Builtin.zeroCells v.cells m).toList ∧ ((List.replicate m z).flatten).all AV.isOne = true := by
 have hl := hz.length
 simp only [Array.length_toList] at hl
 have := zeros_rels hz ho m
 rw [hl] at this
 exact ⟨this, (zeros_rel hz ho m _ (Nat.le_refl _)).1⟩
theorem clear_sound {c : Call} (hcal : c.callee = .builtin .clear) (h : opK P G (.call c) ty e σ nid K = some r) (he : EnvRel n ρ e a) (hrel : Rel RO P ρ fp σ w) : Goal RO P (.call c) ty a nid ρ fp σ w K r := by
 simp only [opK, hcal] at h
 split at h
 ·rename_i sa k t hv ht
  obtain ⟨u1, ha, r1⟩ := one_arg (args_rel he c.args) hv
  have hts : c.argTypes = #[t] := by apply Array.ext'; rw [ht]
  split at h
  ·rename_i el hu
   have toRun : ∀ {u : Value} {w' : World}, (Builtin.clear_ #[t] ty #[u1]).run P w = .ok u w' → ∀ o : Oper, o.op = .call c → o.type = ty → (execOp a.eval o).run P w = .ok (.value u) w' := by
    intro u w' hr o ho hty
    subst hty
    simp only [execOp, ho, resolve, hcal, Sem.run_bind, Sem.run_pure, Result.andThen_ok, invoke, builtin, hts, ha, hr]
   obtain ⟨A1, cap1, e1, hn1, _⟩ := r1.sl_inv
   cases hk : Nat.beq k 0 with
   | true =>
    rw [hk] at h
    have hk := Nat.eq_of_beq_eq_true hk
    subst hk
    refine ⟨_, _, h, OpOK.value (toRun (u := .tuple #[]) (w' := w) ?_) (.tup [] [] .nil) (Post.refl hrel)⟩
    rw [e1]
    cases A1 <;> simp [Builtin.clear_, run_underlying hu]
   | false =>
    have hk0 : k ≠ 0 := fun e => by rw [e] at hk; cases hk
    simp only [hk, cond_false] at h
    split at h
    ·rename_i z hz
     obtain ⟨i, v, hi, hvz, -, g1, g2, g3, g4, g5⟩ := zeroOf_spec (ρ := ρ) hz
     obtain ⟨σ', hst, hQ⟩ := Option.bind_eq_some_iff.1 h
     unfold AH.wrSl at hst
     clear e1 h
     generalize hu1 : u1 = uu1 at r1
     cases r1 with
     | sln => exact absurd rfl hk0
     | slz => exact absurd rfl hk0
     | sl0 => exact absurd rfl hk0
     | sla _ _ _ _ c1 L1 hL1 p1 p2 p3 =>
      obtain ⟨z1, z2⟩ := zeroCells_rel g4 g1 k
      obtain ⟨fp', w', hrun, hp⟩ := st_sound (S := fun b => b < σ.next ∧ (allocs (.call c) = true → b ≠ nid)) hrel hL1 hst z1 z2
      refine ⟨_, _, hQ, OpOK.value (toRun (u := .tuple #[]) (w' := w') ?_) (.tup [] [] .nil) hp⟩
      rw [hu1]
      cases k with
      | zero => exact absurd rfl hk0
      | succ k => simp [Builtin.clear_, run_underlying hu, zeroValue, typeInfo, hi, hvz, hrun]
     | sl _ _ _ c1 L1 hL1 p1 p2 p3 =>
      obtain ⟨z1, z2⟩ := zeroCells_rel g4 g1 k
      obtain ⟨fp', w', hrun, hp⟩ := st_sound (S := fun b => b < σ.next ∧ (allocs (.call c) = true → b ≠ nid)) hrel hL1 hst z1 z2
      refine ⟨_, _, hQ, OpOK.value (toRun (u := .tuple #[]) (w' := w') ?_) (.tup [] [] .nil) hp⟩
      rw [hu1]
      cases k with
      | zero => exact absurd rfl hk0
      | succ k => simp [Builtin.clear_, run_underlying hu, zeroValue, typeInfo, hi, hvz, hrun]
    ·cases h
  ·cases h
 ·cases h
theorem asBytes_spec : ∀ (cs : List AV) (us : List Value) (l : List UInt8), asBytes cs = some l → VRels ρ cs us → ∃ ns : List Int, us = ns.map (Value.int .u8) ∧ l = ns.map fun n => UInt8.ofNat n.toNat
 | [], us, l, h, hr => by cases hr; simp [asBytes] at h; exact ⟨[], rfl, by simp [h]⟩
 | c :: cs, us, l, h, hr => by
  cases hr with
  | cons _ u _ us h1 h2 =>
   unfold asBytes at h
   split at h
   ·rename_i h'; cases h'
   ·rename_i m r' h'
    cases h'
    simp only [Option.map_eq_some_iff] at h
    obtain ⟨l', hl', rfl⟩ := h
    obtain ⟨ns, e1, e2⟩ := asBytes_spec cs us l' hl' h2
    exact ⟨m :: ns, by rw [h1.i_inv, e1]; rfl, by rw [e2]; rfl⟩
   ·cases h
theorem Post.newFz {S : Nat → Prop} {w' : World} (h : Rel RO P ρ fp σ w) (hk : ∀ B : Nat, B < w.heap.size → w'.heap[B]? = w.heap[B]?) (hs : w.heap.size ≤ w'.heap.size) (k1 : w'.os = w.os) (k2 : w'.tape = w.tape) (k3 : w'.output = w.output) (us : List Value) (hc : ∀ i u, us[i]? = some u → w'.cell? ⟨w.heap.size, i, none⟩ = some u) :
  ∃ ρ' : Inj, (∀ i u, us[i]? = some u → ρ'.fz w.heap.size i = some u) ∧ Post RO P S ρ fp σ w ρ' fp σ w' := by
 have hw := h.world hk hs
 let ρ' : Inj := ⟨ρ.loc, fun B O => if B = w.heap.size then us[O]? else ρ.fz B O⟩
 have old : ∀ B O u, ρ.fz B O = some u → B < w.heap.size := fun B O u hu => cell_size (h.fz B O u hu).1
 have hle : ρ.le ρ' := ⟨fun _ _ hb => hb, fun B O u hu => by
  have := old B O u hu
  show (if B = w.heap.size then us[O]? else ρ.fz B O) = some u
  rw [if_neg (by omega)]; exact hu⟩
 refine ⟨ρ', fun i u hu => by show (if w.heap.size = w.heap.size then us[i]? else _) = some u; rw [if_pos rfl]; exact hu, ⟨⟨hw.next, fun b x L hx hL => (hw.blk b x L hx hL).mono hle, hw.dead, hw.has, hw.disj, fun B O u hu => ?_⟩, ⟨k1, k2, k3, hs, fun B hB _ => hk B hB⟩, fun b B _ hb => ⟨b, hb⟩, fun B O u hu hB => ?_, hle, fun _ _ => rfl, fun _ _ _ hb => hb, Nat.le_refl _⟩⟩
 ·have hu : (if B = w.heap.size then us[O]? else ρ.fz B O) = some u := hu
  by_cases e : B = w.heap.size
  ·subst e
   rw [if_pos rfl] at hu
   refine ⟨hc O u hu, fun c => ?_⟩
   cases hx : fp c w.heap.size with
   | none => rfl
   | some o => exact absurd (h.size (b := c) (B := w.heap.size) (by simp [hx])) (Nat.lt_irrefl _)
  ·rw [if_neg e] at hu
   exact hw.fz B O u hu
 ·have hu : (if B = w.heap.size then us[O]? else ρ.fz B O) = some u := hu
  rw [if_neg (by omega)] at hu
  exact .inr ⟨O, u, hu⟩
theorem conv_sound {src dst : TypeId} {x : Operand} (h : opK P G (.convert src dst x) ty e σ nid K = some r) (he : EnvRel n ρ e a) (hrel : Rel RO P ρ fp σ w) : Goal RO P (.convert src dst x) ty a nid ρ fp σ w K r := by
 simp only [opK] at h
 have hx := he.ev x
 split at h
 ·rename_i sa m hvx
  rw [hvx] at hx
  split at h
  ·rename_i el hu hd
   split at h
   ·rename_i hel
    have toRun : ∀ {u : Value} {uu : Value}, a.eval x = uu → (convert src dst uu).run P w = .ok u w → ∀ o : Oper, o.op = .convert src dst x → o.type = ty → (execOp a.eval o).run P w = .ok (.value u) w := by
     intro u uu e1 hr o ho hty
     simp only [execOp, ho, e1, Sem.run_bind, hr, Result.andThen_ok, Sem.run_pure]
    obtain ⟨cs, hcs, hQ⟩ := Option.bind_eq_some_iff.1 h
    clear h
    obtain ⟨l, hl, h⟩ := Option.bind_eq_some_iff.1 hQ
    clear hQ
    unfold AH.rdSl at hcs
    clear hvx
    generalize hux : a.eval x = ux at hx
    cases hx with
    | sl0 _ _ _ A =>
     have : cs = [] := by
      simp only [Nat.zero_mul] at hcs
      exact ldN_zero hcs
     subst this
     simp [asBytes] at hl; subst hl
     refine ⟨_, _, by assumption, OpOK.value (toRun hux (u := .string ⟨#[]⟩) ?_) (.s ⟨#[]⟩) (Post.refl hrel)⟩
     rw [run_convert_bytes_string w src dst el _ 0 0 hu hel hd]
     exact run_bytesToString w A 0 0 [] (by simp [loadCells, loadCellsFrom])
    | sl _ _ _ cap L hL h1 h2 h3 =>
     obtain ⟨us, k1, k2, k3, k4⟩ := ldN_sound hrel hL hcs
     obtain ⟨ns, e1, e2⟩ := asBytes_spec cs us l hl k1
     have hld := run_loadCells_list (P := P) w _ us (fun j u hj => by rw [addr_add]; exact k4 j u hj)
     rw [k3, e1, Nat.mul_one] at hld
     refine ⟨_, _, by assumption, OpOK.value (toRun hux (u := .string (ns.foldl (fun r n => r.push (UInt8.ofNat n.toNat)) ByteArray.empty)) ?_) ?_ (Post.refl hrel)⟩
     ·rw [run_convert_bytes_string w src dst el _ m cap hu hel hd]
      exact run_bytesToString w _ m cap ns hld
     ·rw [foldl_push_bytes, e2]
      have := VRel.s (ρ := ρ) ⟨ByteArray.empty.data ++ (ns.map fun n => UInt8.ofNat n.toNat).toArray⟩
      simpa using this
    | sla _ _ _ _ cap L hL h0 h1 h2 =>
     obtain ⟨us, k1, k2, k3, k4⟩ := ldN_sound hrel hL hcs
     obtain ⟨ns, e1, e2⟩ := asBytes_spec cs us l hl k1
     have hld := run_loadCells_list (P := P) w _ us (fun j u hj => by rw [addr_add]; exact k4 j u hj)
     rw [k3, e1, Nat.mul_one] at hld
     refine ⟨_, _, by assumption, OpOK.value (toRun hux (u := .string (ns.foldl (fun r n => r.push (UInt8.ofNat n.toNat)) ByteArray.empty)) ?_) ?_ (Post.refl hrel)⟩
     ·rw [run_convert_bytes_string w src dst el _ m cap hu hel hd]
      exact run_bytesToString w _ m cap ns hld
     ·rw [foldl_push_bytes, e2]
      have := VRel.s (ρ := ρ) ⟨ByteArray.empty.data ++ (ns.map fun n => UInt8.ofNat n.toNat).toArray⟩
      simpa using this
    | sln =>
     cases hcs
     simp [asBytes] at hl; subst hl
     refine ⟨_, _, by assumption, OpOK.value (toRun hux (u := .string ⟨#[]⟩) ?_) (.s ⟨#[]⟩) (Post.refl hrel)⟩
     rw [run_convert_bytes_string w src dst el _ 0 0 hu hel hd]
     simp [Conv.bytesToString]; rfl
    | slz A =>
     cases hcs
     simp [asBytes] at hl; subst hl
     refine ⟨_, _, by assumption, OpOK.value (toRun hux (u := .string ⟨#[]⟩) ?_) (.s ⟨#[]⟩) (Post.refl hrel)⟩
     rw [run_convert_bytes_string w src dst el _ 0 0 hu hel hd]
     exact run_bytesToString w A 0 0 [] (by simp [loadCells, loadCellsFrom])
   ·cases h
  ·cases h
 ·rename_i l hvx
  rw [hvx] at hx
  split at h
  ·rename_i d0 el hs hd
   split at h
   ·rename_i hel
    obtain ⟨hc, h⟩ := bif_some h
    have hc := Nat.le_of_ble_eq_true hc
    obtain ⟨s, ux, rfl⟩ := hx.s_inv
    have hsz : s.data.toList.length = s.size := by simp
    rw [hsz] at hc
    have hge := grownCap_ge w s.size 0 el
    have hcm := grownCap_le_maxLen w s.size 0 el (by unfold maxLen; omega)
    let us : List Value := s.data.toList.map fun c => Value.int .u8 c.toNat
    obtain ⟨ρ', q1, q2⟩ := Post.newFz (S := fun b => b < σ.next ∧ (allocs (.convert src dst x) = true → b ≠ nid)) hrel (w' := Lib.bytesWorld w el s) (fun B hB => Lib.bytesWorld_at_old w el s B hB) (by rw [Lib.bytesWorld_size]; omega) rfl rfl rfl us (fun i u hu => by
     have hi := (List.getElem?_eq_some_iff.1 hu).1
     simp only [us, List.length_map, hsz] at hi
     rw [Lib.bytesWorld_cell w el s i hi, ← hu]
     simp only [us, List.getElem?_map]
     rw [List.getElem?_eq_getElem (by rw [hsz]; exact hi)]
     simp [List.getD, hi])
    refine ⟨_, _, h, OpOK.value (u := .slice (some ⟨w.heap.size, 0, none⟩) s.size (grownCap w s.size 0 el)) (w' := Lib.bytesWorld w el s) (fun o ho hty => ?_) ?_ q2⟩
    ·simp only [execOp, ho, ux, Sem.run_bind, Lib.run_convert_string_bytes w src dst el s hs hd hel, Result.andThen_ok, Sem.run_pure]
    ·have rel : ∀ l : List UInt8, VRels ρ' (l.map fun c => AV.i .u8 c.toNat) (l.map fun c => Value.int .u8 c.toNat) := fun l => by
      induction l with
      | nil => exact .nil
      | cons c l ih => exact .cons _ _ _ _ (.i _ _) ih
     have := VRel.sl (.f (s.data.toList.map fun c => AV.i .u8 c.toNat)) 0 s.data.toList.length (grownCap w s.size 0 el) ⟨w.heap.size, 0, grownCap w s.size 0 el, 1⟩ (.f _ us _ (rel _) (List.all_eq_true.2 fun v hv => by obtain ⟨c, _, rfl⟩ := List.mem_map.1 hv; rfl) (fun i u hu => by rw [Nat.zero_add]; exact q1 i u hu)) (by rw [hsz]; exact hge) hcm (by simp)
     rw [hsz] at this ⊢
     exact this
   ·cases h
  ·exact OpOK.ofPure hrel he h
 ·exact OpOK.ofPure hrel he h
theorem getG_sound (hG : GSound RO P G) {f : Nat} {xs : List AV} {σ : AH O} {v : AV × AH O} (h : getG G f xs σ = some v) : (f < yKey ∧ Entered P f ∧ FSound RO P f (getG G f)) ∨ (f < yKey ∧ ExternOK P f (getG G f)) ∨ (f = yKey ∧ YSound RO P (getG G f)) ∨ ∃ c, f = c + rKey ∧ Entered P c ∧ FSound RO P c (getG G f) := by
 induction G with
 | nil => cases h
 | cons g G ih =>
  obtain ⟨g, s⟩ := g
  unfold getG at h ⊢
  cases hgf : Nat.beq g f with
  | true =>
   have := Nat.eq_of_beq_eq_true hgf
   subst this
   simp only [hgf, cond_true] at h ⊢
   exact hG g s (by simp)
  | false =>
   simp only [hgf, cond_false] at h ⊢
   exact ih (fun f s hm => hG f s (by simp [hm])) h
theorem fcall_sound (hG : GSound RO P G) {c : Call} {f : Operand} (hcal : c.callee = .value f) (h : opK P G (.call c) ty e σ nid K = some r) (he : EnvRel n ρ e a) (hrel : Rel RO P ρ fp σ w) : Goal RO P (.call c) ty a nid ρ fp σ w K r := by
 simp only [opK, hcal] at h
 have hx := he.ev f
 split at h
 ·rename_i x hvx
  rw [hvx] at hx
  simp only [Option.bind_eq_some_iff] at h
  obtain ⟨⟨v, σ'⟩, hc, h⟩ := h
  have h := asTy_spec h
  unfold callV at hc
  split at hc
  ·rename_i g fi ca
   obtain ⟨hyk, hc⟩ : Nat.ble yKey g = false ∧ getG G g (fi ++ c.args.toList.map (Abs.ev e) ++ ca) σ = some (v, σ') := by
    cases hb : Nat.ble yKey g with
    | true => rw [hb] at hc; cases hc
    | false => rw [hb] at hc; exact ⟨rfl, hc⟩
   obtain ⟨fi', ca', uf, h1, h2⟩ := hx.fn_inv
   have hargs : VRels ρ (fi ++ c.args.toList.map (Abs.ev e) ++ ca) (fi'.toArray ++ c.args.map a.eval ++ ca'.toArray).toList := by
    simp only [Array.toList_append]
    exact (h1.append (args_rel he c.args)).append h2
   rcases getG_sound hG hc with ⟨_, hent, hs⟩ | ⟨_, hext⟩ | ⟨e, _⟩ | ⟨c', e, _⟩
   ·refine ⟨v, σ', h, fun ro o next Q ho hty hk => ?_⟩
    have hrun : (execOp a.eval o).run P w = .ok (.enter g (fi'.toArray ++ c.args.map a.eval ++ ca'.toArray)) w := by
     simp only [execOp, ho, resolve, hcal, uf, Deferred.ofValue, Sem.run_bind, Sem.run_pure, Result.andThen_ok, invoke]
     exact hent _ w
    refine wpIn_of (fun c hc => by rw [ho] at hc; cases hc) hrun ?_
    refine ⟨fun h => (Bool.false_ne_true h).elim, callsIn_fw.2 ?_⟩
    refine (hs _ σ v σ' hc ρ fp w _ hargs hrel).mono ?_
    rintro x w' ⟨ρ', fp', u, rfl, hu, hp⟩
    exact hk u w' ρ' fp' hu (hp.mono fun b hb => hb.1) (fun _ h2 => by simp [turns, hcal] at h2)
   ·obtain ⟨rfl, hu⟩ := hext _ _ _ _ hc
    obtain ⟨u, hu1, hu2⟩ := hu ρ _ hargs
    refine ⟨v, _, h, OpOK.value (fun o ho hty => ?_) hu1 (Post.refl hrel) (fun _ h2 => by simp [turns, hcal] at h2)⟩
    simp only [execOp, ho, resolve, hcal, uf, Deferred.ofValue, Sem.run_bind, Sem.run_pure, Result.andThen_ok, invoke]
    exact hu2 w
   ·subst e; simp at hyk
   ·subst e; have := Nat.ble_eq_true_of_le (show yKey ≤ c' + rKey by show 1000000 ≤ c' + 2000000; omega); rw [hyk] at this; cases this
  ·rename_i b q1 q2
   obtain ⟨L, hL, uf⟩ := hx.yl_inv
   rcases getG_sound hG hc with ⟨h0, _⟩ | ⟨h0, _⟩ | ⟨_, hy⟩ | ⟨c', h0, _⟩
   ·exact absurd h0 (Nat.lt_irrefl _)
   ·exact absurd h0 (Nat.lt_irrefl _)
   rotate_left
   ·exact absurd h0 (by show ¬ 1000000 = c' + 2000000; omega)
   ·refine ⟨v, σ', h, fun ro o next Q ho hty hk => ?_⟩
    have hargs : VRels ρ (c.args.toList.map (Abs.ev e)) (c.args.map a.eval).toList := args_rel he c.args
    obtain ⟨r, hr, hsz, hround⟩ := hy b 0 _ σ v σ' hc ρ fp w (c.args.map a.eval) L hL hargs hrel
    have hrun : (execOp a.eval o).run P w = .ok (.round L.B r.fn ((r.params.zip (c.args.map a.eval)).foldl (fun tmps (t, a) => tmps.setIfInBounds t a) r.tmps) r.assign r.body) w := by
     simp only [execOp, ho, resolve, hcal, uf, Deferred.ofValue, Sem.run_bind, Sem.run_pure, Result.andThen_ok, invoke]
     simpa using run_yield hr hsz
    refine wpIn_of (fun c hc => by rw [ho] at hc; cases hc) hrun ?_
    refine ⟨fun h => (Bool.false_ne_true h).elim, RoundIn.mono (show RoundIn (Fw ro) 0 P L.B r.fn _ r.assign r.body w _ from hround) ?_⟩
    rintro x w' ⟨ρ', fp', u, rfl, hu, hp⟩
    exact hk u w' ρ' fp' hu (hp.mono fun b hb => hb.1) (fun _ h2 => by simp [turns, hcal] at h2)
  ·cases hc
 ·cases h
theorem op_sound (hG : GSound RO P G) {op : Op} (h : opK P G op ty e σ nid K = some r) (he : EnvRel n ρ e a) (hrel : Rel RO P ρ fp σ w) (hn : allocs op = true → nid < σ.next ∧ ρ nid = none) :
  Goal RO P op ty a nid ρ fp σ w K r := by
 cases op
 case alloc => obtain ⟨a1, a3⟩ := hn rfl; exact alloc_sound h hrel a1 a3
 case box => obtain ⟨a1, a3⟩ := hn rfl; exact box_sound h he hrel a1 a3
 case buildSlice => obtain ⟨a1, a3⟩ := hn rfl; exact buildSlice_sound h he hrel a1 a3
 case makeSlice => obtain ⟨a1, a3⟩ := hn rfl; exact makeSlice_sound h he hrel a1 a3
 case makeMap => obtain ⟨a1, a3⟩ := hn rfl; exact makeMap_sound h he hrel a1 a3
 case range => obtain ⟨a1, a3⟩ := hn rfl; exact range_sound h he hrel a1 a3
 case entry => exact entry_sound h he hrel
 case lookup => exact lookup_sound h he hrel
 case mapUpdate => exact mapUpdate_sound h he hrel
 case load => exact load_sound h he hrel
 case store => exact store_sound h he hrel
 case convert => exact conv_sound h he hrel
 case call c =>
  cases hcal : c.callee with
  | value f => exact fcall_sound hG hcal h he hrel
  | invoke x m =>
   have h' := h
   simp only [opK, hcal] at h'
   exact OpOK.ofPure hrel he h'
  | builtin b =>
   cases b
   case append =>
    obtain ⟨a1, a3⟩ := hn (by cases c; simp only at hcal; subst hcal; rfl)
    exact append_sound hcal h he hrel a1 a3
   case copy => exact copy_sound hcal h he hrel
   case clear => exact clear_sound hcal h he hrel
   case delete => exact delete_sound hcal h he hrel
   all_goals
    have h' := h
    simp only [opK, hcal] at h'
    exact OpOK.ofPure hrel he h'
 all_goals exact OpOK.ofPure hrel he h
end Go.Abs
