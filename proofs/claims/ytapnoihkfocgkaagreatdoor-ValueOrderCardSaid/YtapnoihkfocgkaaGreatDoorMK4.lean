/- The tied card of the law ValueOrder is proved here: for every input that can be read as data the law answers true. Conditions: those of the given card. -/
import Derived.Test.YtapnoihkfocgkaaGreatDoorMV
import Derived.Test.YtapnoihkfocgkaaGreatDoorMH
import Derived.Test.YtapnoihkfocgkaaGreatDoorRows
import Derived.Test.YtapnoihkfocgkaaGreatDoorMR
import Derived.LaidMore
import Derived.Stop.Joined
import Derived.Test.YtapnoihkfocgkaaGreatDoorCards
import Derived.Test.YtapnoihkfocgkaaGreatDoorTie
import Derived.SevenTiedAt
set_option linter.unusedVariables false
set_option linter.unusedSimpArgs false

section
/- Vi: the law ValueOrder (f4): true. No conditions. -/
namespace Go.Vi
open Go Go.Lib Go.Proofs
set_option maxRecDepth 100000
attribute [local simp] E_skip E_ret E_exit E_text E_draw E_seq E_cond E_block E_scope E_loop runOps runOp runDraw runVF runV finV gate FlOK wantD exec fin opd look putF norm constD constC fieldAddrD loadD storeD opCall lenD binD isShift intP strP numD indexAddrD indexD D.pd? D.pds? cells_enc sub capsOf callD argsD argD D.nf enc_agg unP box_enc cellD mkF H00 st1 cD_agg cD_pagg cD_int cD_bool cD_str cD_sl cD_lit

theorem compared_W (a b : Val) (ha : a.valid = true) (hb : b.valid = true) (H : Hp) : W 25 [.p (enc a), .p (enc b)] H = some (.ret (.tup [.p (.int .i64 (a.cmp b)), .p (.bool true)]), H) := by
  refine W25_of rfl (by simp) ?_
  have h30 := fun H => compare30_W a b H
  simp only [both, ha, hb, Bool.and_self, if_true] at h30
  obtain ⟨b1, b2⟩ := cmp_bd a b (valid_shaped ha) (valid_shaped hb)
  have key : ∃ B, E false ⟨0, 0⟩ 25 code25 (mkF 0 [.p (enc a), .p (enc b)]) H00 = some (.ret, [(4, .p (.int .i64 (a.cmp b))), (5, .p (.bool true))], ⟨B, []⟩) :=
    ⟨_, by simp [code25, Tryz.f25, h30, b1, b2]; rfl⟩
  obtain ⟨B, key⟩ := key
  rw [key]
  simp [fnOut, retOut, resD, retsD, retD, oneD, D.noRefs, D.noRef, alone, Hp.cut]

set_option maxHeartbeats 4000000 in
theorem law4_W (a b c : Val) (H : Hp) : W 4 [.p (enc a), .p (enc b), .p (enc c)] H = some (.ret (.p (.bool true)), H) := by
  refine W4_of rfl (by simp) ?_
  have hk := fun H => known_W H
  have a15 := fun H => small_W a H
  have b15 := fun H => small_W b H
  have c15 := fun H => small_W c H
  suffices key : ∃ B, E false ⟨0, 0⟩ 4 code4 (mkF 0 [.p (enc a), .p (enc b), .p (enc c)]) H00 = some (.ret, [(6, .p (.bool true))], ⟨B, []⟩) by
    obtain ⟨B, key⟩ := key
    rw [key]
    simp [fnOut, retOut, resD, retsD, retD, oneD, D.noRefs, D.noRef, alone, Hp.cut]
  cases sa : a.small with
  | false => rw [sa] at a15; exact ⟨_, by simp [code4, Tryz.f4, a15, hk]; rfl⟩
  | true =>
  rw [sa] at a15
  cases sb : b.small with
  | false => rw [sb] at b15; exact ⟨_, by simp [code4, Tryz.f4, a15, b15, hk]; rfl⟩
  | true =>
  rw [sb] at b15
  cases sc : c.small with
  | false => rw [sc] at c15; exact ⟨_, by simp [code4, Tryz.f4, a15, b15, c15, hk]; rfl⟩
  | true =>
  rw [sc] at c15
  obtain ⟨fa, ba⟩ := small_fine sa
  obtain ⟨fb, bb⟩ := small_fine sb
  obtain ⟨fc, bc⟩ := small_fine sc
  have a19 := fun H => valid_W a fa ba H
  have b19 := fun H => valid_W b fb bb H
  have c19 := fun H => valid_W c fc bc H
  cases va : a.valid with
  | false => rw [va] at a19; exact ⟨_, by simp [code4, Tryz.f4, a15, b15, c15, a19, hk]; rfl⟩
  | true =>
  rw [va] at a19
  cases vb : b.valid with
  | false => rw [vb] at b19; exact ⟨_, by simp [code4, Tryz.f4, a15, b15, c15, a19, b19, hk]; rfl⟩
  | true =>
  rw [vb] at b19
  cases vc : c.valid with
  | false => rw [vc] at c19; exact ⟨_, by simp [code4, Tryz.f4, a15, b15, c15, a19, b19, c19, hk]; rfl⟩
  | true =>
  rw [vc] at c19
  have s1 := valid_shaped va
  have s2 := valid_shaped vb
  have s3 := valid_shaped vc
  have hab := fun H => compared_W a b va vb H
  have hba := fun H => compared_W b a vb va H
  have hbc := fun H => compared_W b c vb vc H
  have hac := fun H => compared_W a c va vc H
  have h22 := fun H => equal_W a fa b H
  rw [← cmp_eqb s1 s2] at h22
  rw [cmp_anti b a s2 s1] at hba
  have t1 := cmp_trans a b c s1 s2 s3
  have z1 := cmp_zero a b s1 s2
  have z2 := cmp_zero b c s2 s3
  have x3 : a.cmp b = -1 ∨ a.cmp b = 0 ∨ a.cmp b = 1 := by have := cmp_bd a b s1 s2; omega
  have y3 : b.cmp c = -1 ∨ b.cmp c = 0 ∨ b.cmp c = 1 := by have := cmp_bd b c s2 s3; omega
  have z3 : a.cmp c = -1 ∨ a.cmp c = 0 ∨ a.cmp c = 1 := by have := cmp_bd a c s1 s3; omega
  have e1 : a.cmp b = 0 → a.cmp c = b.cmp c := fun h => by rw [z1.1 h]
  have e2 : b.cmp c = 0 → a.cmp c = a.cmp b := fun h => by rw [z2.1 h]
  clear z1 z2
  generalize a.cmp b = x at *
  generalize b.cmp c = y at *
  generalize a.cmp c = z at *
  have fin : ∀ x y z : Int, (∀ H, W 25 [.p (enc a), .p (enc b)] H = some (.ret (.tup [.p (.int .i64 x), .p (.bool true)]), H)) →
      (∀ H, W 25 [.p (enc b), .p (enc a)] H = some (.ret (.tup [.p (.int .i64 (-x)), .p (.bool true)]), H)) →
      (∀ H, W 25 [.p (enc b), .p (enc c)] H = some (.ret (.tup [.p (.int .i64 y), .p (.bool true)]), H)) →
      (∀ H, W 25 [.p (enc a), .p (enc c)] H = some (.ret (.tup [.p (.int .i64 z), .p (.bool true)]), H)) →
      (∀ H, W 22 [.p (enc a), .p (enc b)] H = some (.ret (.p (.bool (decide (x = 0)))), H)) → 
      (x = -1 ∨ x = 0 ∨ x = 1) → (y = -1 ∨ y = 0 ∨ y = 1) → (z = -1 ∨ z = 0 ∨ z = 1) → (x < 0 → y < 0 → z < 0) → (x = 0 → z = y) → (y = 0 → z = x) →
      ∃ B, E false ⟨0, 0⟩ 4 code4 (mkF 0 [.p (enc a), .p (enc b), .p (enc c)]) H00 = some (.ret, [(6, .p (.bool true))], ⟨B, []⟩) := by
    intro x y z h1 h2 h3 h4 h5 x3 y3 z3 t1 e1 e2
    have w0 : IntKind.i64.wrap 0 = 0 := wrap64 (by omega) (by omega)
    have w1 : IntKind.i64.wrap 1 = 1 := wrap64 (by omega) (by omega)
    have w2 : IntKind.i64.wrap (-1) = -1 := wrap64 (by omega) (by omega)
    rcases x3 with rfl | rfl | rfl
    · rcases y3 with rfl | rfl | rfl
      · have : z = -1 := by have := t1 (by omega) (by omega); omega
        subst this
        exact ⟨_, by simp [code4, Tryz.f4, a15, b15, c15, a19, b19, c19, hk, h1, h2, h3, h4, h5, w0, w1, w2]; rfl⟩
      · have : z = -1 := e2 rfl
        subst this
        exact ⟨_, by simp [code4, Tryz.f4, a15, b15, c15, a19, b19, c19, hk, h1, h2, h3, h4, h5, w0, w1, w2]; rfl⟩
      · rcases z3 with rfl | rfl | rfl <;> exact ⟨_, by simp [code4, Tryz.f4, a15, b15, c15, a19, b19, c19, hk, h1, h2, h3, h4, h5, w0, w1, w2]; rfl⟩
    · have : z = y := e1 rfl
      subst this
      rcases y3 with rfl | rfl | rfl <;> exact ⟨_, by simp [code4, Tryz.f4, a15, b15, c15, a19, b19, c19, hk, h1, h2, h3, h4, h5, w0, w1, w2]; rfl⟩
    · rcases y3 with rfl | rfl | rfl <;> rcases z3 with rfl | rfl | rfl <;> exact ⟨_, by simp [code4, Tryz.f4, a15, b15, c15, a19, b19, c19, hk, h1, h2, h3, h4, h5, w0, w1, w2]; rfl⟩
  exact fin x y z hab hba hbc hac h22 x3 y3 z3 t1 e1 e2
end Go.Vi
end

section
/- The law ValueOrder: for every input that can be read as data it answers true, and leaves its input as it was. Conditions: those of the given row. -/
namespace Go.Proofs.YtapnoihkfocgkaaGreatDoor.valueOrder
open Go Go.Vi Go.ChangeShapes Go.WideShapes Go.ChangeAt Go.RowKit
open Go.ChangeMaps (open_string shut_string)
set_option linter.unusedVariables false
set_option maxRecDepth 100000
theorem own : ownKnob Tryz.prog.godebug = none := by kernel_rfl
theorem laidOut : laidOutB Tryz.prog = true := by kernel_rfl
def laid3 {H : Type} : List (String × DataW H) := [("math/bits.deBruijn32tab", Rows.laid_math_bits_deBruijn32tab), ("math/bits.deBruijn64tab", Rows.laid_math_bits_deBruijn64tab), ("internal/strconv.uint64pow10", Rows.laid_internal_strconv_uint64pow10)]
theorem door_met (os : Os) (args : Array Value) : laidMetH Tryz.prog laid3 ((World.doorLaid Tryz.prog 400 os).forCall (fun _ _ => 0) ⟨#[], args, []⟩).memory :=
  laidMetH_of_parts3 (fuel := 8) (laidMet_of_run' 8 (by kernel_rfl) (by kernel_rfl)) (by kernel_rfl) (by kernel_rfl)
theorem lifted (os : Os) (started : os.Started) (H : Type) (en : TypeId × Value → H) :
    ReturnsInHanded {} Tryz.checked os 4 .any (fun w args => (Rows.valueOrderSpec.pre en Tryz.prog Tryz.f4 [] false w args ∧ laidMetH Tryz.prog laid3 w) ∧ sizedMet en Tryz.prog Tryz.f4 (OpenSpec.ofChange Rows.valueOrderSpec) false w args)
      (Rows.valueOrderSpec.post en Tryz.prog Tryz.f4 false true false false) := by
  refine returnsInHanded_of_change_and (C := Tryz.checked) (X := fun w _ => laidMetH Tryz.prog laid3 w) (fun _ _ _ hh h => h.of_heap hh) own started (by kernel_rfl) Tryz.func4
    (ChangeSpec.witness_shaped (enc := en) (C := Tryz.checked) (os := os) (X := fun w _ => laidMetH Tryz.prog laid3 w) false (World.doorLaid Tryz.prog 400 os) #[.agg #[.int .i64 0, .int .i64 0, .string ByteArray.empty, .slice none 0 0], .agg #[.int .i64 0, .int .i64 0, .string ByteArray.empty, .slice none 0 0], .agg #[.int .i64 0, .int .i64 0, .string ByteArray.empty, .slice none 0 0]] 8 rfl (World.shaped_of_RefB (by kernel_rfl) (by kernel_rfl)) (by kernel_rfl) (by kernel_rfl) (by kernel_rfl) (door_met os _)) ?_
  intro W base args ds gs before hval0 hW hcnd hsz0 hLaid _
  have hsz : (DataW.weightsEach Tryz.prog (Tryz.f4.params.toList ++ Rows.valueOrderSpec.plain.varTypes Tryz.prog) (ds ++ gs)).all (· ≤ reachBytes) = true := hsz0
  have hval : ∀ (j : Nat) t v, Tryz.f4.params[j]? = some t → args[j]? = some v → Value.okWide Tryz.prog W .any base t v := hval0
  have hW' := hW
  obtain ⟨p, q, hA0, hV, rfl, hfz, hnd⟩ := hW
  have hA : DataW.TrodAll en Tryz.prog W 0 (fun _ => true) true Tryz.f4.params.toList args.toList ds p := hA0
  rw [Tryz.params4] at hA hval hsz
  obtain ⟨v0, vs0, d0, ds0, p0, q0, hargs, rfl, rfl, h0, r0⟩ := trodAll_cons hA
  obtain ⟨v1, vs1, d1, ds1, p1, q1, rfl, rfl, rfl, h1, r1⟩ := trodAll_cons r0
  obtain ⟨v2, vs2, d2, ds2, p2, q2, rfl, rfl, rfl, h2, r2⟩ := trodAll_cons r1
  obtain ⟨rfl, rfl, rfl⟩ := trodAll_nil r2
  obtain rfl : args = #[v0, v1, v2] := by cases args; simp_all
  obtain ⟨rfl, rfl⟩ := trodVars_none hV
  have k0 := h0
  have lt0 : ∀ x ∈ p0, x.block < W.heap.size := by obtain ⟨m, hm⟩ := k0; exact DataW.trod_lt m _ _ _ hm
  obtain ⟨a0, e0⟩ := arg_val (hval 0 25 v0 rfl rfl) h0
  have k1 := h1
  have lt1 : ∀ x ∈ p1, x.block < W.heap.size := by obtain ⟨m, hm⟩ := k1; exact DataW.trod_lt m _ _ _ hm
  obtain ⟨a1, e1⟩ := arg_val (hval 1 25 v1 rfl rfl) h1
  have k2 := h2
  have lt2 : ∀ x ∈ p2, x.block < W.heap.size := by obtain ⟨m, hm⟩ := k2; exact DataW.trod_lt m _ _ _ hm
  obtain ⟨a2, e2⟩ := arg_val (hval 2 25 v2 rfl rfl) h2
  clear hA0 hval0 hsz0 hsz
  have hcall := law_calls (f := 4) (by decide) (args := [.p (Vi.enc a0), .p (Vi.enc a1), .p (Vi.enc a2)]) (vs := [v0, v1, v2]) (W0 := W) (fun H => law4_W a0 a1 a2 H) rfl (fun j d v hd hv => by
    match j, hd, hv with
    | 0, hd, hv => simp at hd hv; subst hd; subst hv; exact e0
    | 1, hd, hv => simp at hd hv; subst hd; subst hv; exact e1
    | 2, hd, hv => simp at hd hv; subst hd; subst hv; exact e2
    | j + 3, hd, hv => simp at hd)
  refine hcall.mono fun e W' ⟨he, bel⟩ => ?_
  subst he
  exact ⟨_, rfl, _, _, _, [], _, [], hW', trodAll_mk1 (shut_bool Tryz.underlying4 _), (trodAll_cons_mk (Below.trod laidOut (by kernel_rfl) (of_decide_eq_true (by kernel_rfl)) k0 bel lt0) (trodAll_cons_mk (Below.trod laidOut (by kernel_rfl) (of_decide_eq_true (by kernel_rfl)) k1 bel lt1) (trodAll_cons_mk (Below.trod laidOut (by kernel_rfl) (of_decide_eq_true (by kernel_rfl)) k2 bel lt2) trodAll_mk0))), rfl, bel.frame _, fun h => by cases h⟩
theorem over : Rows.valueOrderRow.holds Tryz.pinned (OpenSpec.ofChange Rows.valueOrderSpec) :=
  OpenClaim.holds_of_wide 4 Tryz.f4 rfl rfl rfl rfl rfl rfl rfl ⟨rfl, rfl, rfl, rfl, rfl⟩ rfl rfl rfl rfl rfl (by kernel_rfl) Tryz.func4 (by kernel_rfl)
    (of_decide_eq_true (by kernel_rfl)) (by unfold Func.isWrapper; first | (rw [if_pos (by decide +kernel)]; kernel_rfl) | (rw [if_neg (by decide +kernel)]; exact ⟨rfl, rfl⟩))
    (fun os started H enc _ => lifted os started H enc)
end Go.Proofs.YtapnoihkfocgkaaGreatDoor.valueOrder
namespace Go.Proofs.YtapnoihkfocgkaaGreatDoor
/-- The row, under a short name. -/
theorem valueOrder_holds : Rows.ValueOrderSaid := valueOrder.over
end Go.Proofs.YtapnoihkfocgkaaGreatDoor
end

section
/- The tied card of the law ValueOrder: for every input that can be read as data the law answers true; the tables that it may read are tied to the program's text. Conditions: those of the given card. -/
namespace Go.Proofs.YtapnoihkfocgkaaGreatDoor
open Go
/-- The statement ValueOrderCardSaid. -/
theorem valueOrder_card : Rows.ValueOrderCardSaid :=
  Claim7.holds_tied_plain_at .later [] [.data, .data, .data] true (true, "40e3612fb510151cbad10d424c39044593b08eb4cc5b801a7b153c3d77e88363") true
    valueOrder_holds (fun _ h => by cases h) (by kernel_rfl) (fun _ h => by cases h) valueOrder_row_tie rfl ⟨rfl, rfl⟩ (by kernel_rfl) rfl
    (fun f fn hf hfn => by
      obtain rfl : f = 4 := Option.some.inj ((show Tryz.prog.funcNamed "sward/swardlaw01.ValueOrder" = some 4 by kernel_rfl).symm.trans hf) |>.symm
      obtain rfl : fn = Tryz.f4 := (Option.some.inj (Tryz.func4.symm.trans hfn)).symm
      exact ⟨by kernel_rfl, fun j t ht => by
        rw [Tryz.params4] at ht
        match j, ht with
        | 0, ht => obtain rfl : t = 25 := by simpa using ht.symm
                   exact (show Tryz.prog.wantsStandIn 25 = false by kernel_rfl)
        | 1, ht => obtain rfl : t = 25 := by simpa using ht.symm
                   exact (show Tryz.prog.wantsStandIn 25 = false by kernel_rfl)
        | 2, ht => obtain rfl : t = 25 := by simpa using ht.symm
                   exact (show Tryz.prog.wantsStandIn 25 = false by kernel_rfl)
        | j + 3, ht => simp at ht⟩)
    (by kernel_rfl)
end Go.Proofs.YtapnoihkfocgkaaGreatDoor
end
