/- The tied card of the law KindIs is proved here: for every input that can be read as data the law answers true. Conditions: those of the given card. -/
import Derived.Test.YtjkpdlloccnilaaGreatDoorMNA
import Derived.Test.YtjkpdlloccnilaaGreatDoorMFB
import Derived.Test.YtjkpdlloccnilaaGreatDoorMRW
import Derived.Test.YtjkpdlloccnilaaGreatDoorCards
import Derived.Test.YtjkpdlloccnilaaGreatDoorTie
import Derived.SevenTiedAt
set_option linter.unusedVariables false
set_option linter.unusedSimpArgs false

section
/- the law KindIs (f3): true. No conditions but those that stand with each. -/
namespace Go.Vi
open Go Go.Lib Go.Proofs
set_option maxRecDepth 100000
attribute [local simp] E_skip E_ret E_exit E_text E_draw E_seq E_cond E_block E_scope E_loop runOps runOp drawR slotsOf Hp.kept_zero runDraw runVF runX runV finV gate FlOK FlOK0 wantD exec fin opd look putF norm constD constC fieldAddrD loadD storeD opCall lenD binD isShift intP strP numD indexAddrD indexD D.pd? D.pds? sub capsOf callD argsD argD D.nf unP cellD mkF H00 cD_agg cD_pagg cD_int cD_bool cD_str cD_sl cD_lit cells_int
attribute [local simp] fnOut retOut resD retsD retD oneD D.noRefs D.noRef alone Hp.cut
attribute [local simp] cells_encK encK_agg box_encK cells_enc enc_agg box_enc one_int one_str one_sl one_agg cD_own cD_ptr
attribute [local simp] newRow Hp.live one_encK one_enc splice
theorem eqb_selfC (k : Kd) : k.eqb k = true := (eqbK_iff k k).2 rfl
set_option maxHeartbeats 8000000 in
theorem law3_W (k : Kd) (v : Val) (H : Hp) : W 3 [.p (encK k), .p (enc v)] H = some (.ret (.p (.bool true)), H) := by
  refine W3_of rfl (by simp) ?_
  have hk := fun H => known_W H
  have k12 := fun H => small12_W k H
  have v13 := fun H => small_W v H
  cases sk : k.small with
  | false => rw [sk] at k12; simp [code3, Tryz.f3, k12, hk]
  | true =>
  rw [sk] at k12
  cases sv : v.small with
  | false => rw [sv] at v13; simp [code3, Tryz.f3, k12, v13, hk]
  | true =>
  rw [sv] at v13
  have hkn : k.nodes ≤ 30 := fit_nodes (n := 30) (d := 9) sk
  obtain ⟨fv, bv⟩ := small_fine sv
  have h15 := fun H => is15_W k v H (by omega)
  have h16 := fun H => least16_W v H
  have v17 := fun H => valid_W v fv bv H
  have z18 := fun H => none18_W kz H (by decide)
  rw [eqb_selfC] at z18
  unfold isR at h15
  unfold leastE at h16
  cases vv : v.valid with
  | false =>
    simp only [vv, Bool.false_eq_true, and_false, if_false] at h15 h16 v17
    simp [code3, Tryz.f3, k12, v13, hk, h15, h16, v17, z18]
  | true =>
  simp only [vv, and_true, if_true] at h15 h16 v17
  have h19 := fun H => least19_W v vv H
  have k21 := fun H => valid21_W k H
  obtain ⟨vs, vn⟩ := valid_okv vv
  cases hl : leastK v with
  | none =>
    have hV : leastV v = none := by unfold leastV; rw [hl]; rfl
    rw [hV] at h19
    simp only [hl] at h16
    simp only [joinR] at h19
    cases vk : k.valid with
    | false =>
      simp only [vk, Bool.false_eq_true, if_false] at h15 k21
      simp [code3, Tryz.f3, k12, v13, hk, h15, h16, v17, z18, h19, k21]
    | true =>
      simp only [vk, if_true] at h15 k21
      have h22 := fun H => is22_W k v H (by omega) (valid_nodes vk).2 (by omega)
      simp [code3, Tryz.f3, k12, v13, hk, h15, h16, v17, z18, h19, k21, h22]
  | some q =>
    obtain ⟨_, hok⟩ := least_ok v vs vn
    obtain ⟨q1, q2⟩ := hok q hl
    have h20 := fun H => equal20_W q q H (by omega)
    rw [eqb_selfC] at h20
    cases vq : q.valid with
    | false =>
      have hV : leastV v = none := by unfold leastV; rw [hl]; simp [vq]
      rw [hV] at h19
      simp only [hl, vq, Bool.false_eq_true, if_false] at h16
      simp only [joinR] at h19
      cases vk : k.valid with
      | false =>
        simp only [vk, Bool.false_eq_true, if_false] at h15 k21
        simp [code3, Tryz.f3, k12, v13, hk, h15, h16, v17, z18, h19, k21]
      | true =>
        simp only [vk, if_true] at h15 k21
        have h22 := fun H => is22_W k v H (by omega) (valid_nodes vk).2 (by omega)
        simp [code3, Tryz.f3, k12, v13, hk, h15, h16, v17, z18, h19, k21, h22]
    | true =>
      have hV : leastV v = some q := by unfold leastV; rw [hl]; simp [vq]
      rw [hV] at h19
      simp only [hl, vq, if_true] at h16
      simp only [joinR] at h19
      cases vk : k.valid with
      | false =>
        simp only [vk, Bool.false_eq_true, if_false] at h15 k21
        simp [code3, Tryz.f3, k12, v13, hk, h15, h16, v17, h20, h19, k21]
      | true =>
        simp only [vk, if_true] at h15 k21
        have h22 := fun H => is22_W k v H (by omega) (valid_nodes vk).2 (by omega)
        simp [code3, Tryz.f3, k12, v13, hk, h15, h16, v17, h20, h19, k21, h22]
end Go.Vi
end

section
/- The law KindIs: for every input that can be read as data it answers true, and leaves its input as it was. Conditions: those of the given row. -/
namespace Go.Proofs.YtjkpdlloccnilaaGreatDoor.kindIs
open Go Go.Vi Go.ChangeShapes Go.WideShapes Go.ChangeAt Go.RowKit
open Go.ChangeMaps (open_string shut_string)
set_option linter.unusedVariables false
set_option maxRecDepth 100000
theorem lifted (os : Os) (started : os.Started) (H : Type) (en : TypeId × Value → H) :
    ReturnsInHanded {} Tryz.checked os 3 .any (fun w args => (Rows.kindIsSpec.pre en Tryz.prog Tryz.f3 [] false w args ∧ laidMetH Tryz.prog laid5 w) ∧ sizedMet en Tryz.prog Tryz.f3 (OpenSpec.ofChange Rows.kindIsSpec) false w args)
      (Rows.kindIsSpec.post en Tryz.prog Tryz.f3 false true false false) := by
  refine returnsInHanded_of_change_and (C := Tryz.checked) (X := fun w _ => laidMetH Tryz.prog laid5 w) (fun _ _ _ hh h => h.of_heap hh) ownK started (by kernel_rfl) Tryz.func3
    (ChangeSpec.witness_shaped (enc := en) (C := Tryz.checked) (os := os) (X := fun w _ => laidMetH Tryz.prog laid5 w) false (World.doorLaid Tryz.prog 400 os) #[.agg #[.int .i64 0, .int .i64 0, .int .i64 0, .int .i64 0, .slice none 0 0], .agg #[.int .i64 0, .int .i64 0, .string ByteArray.empty, .slice none 0 0]] 8 rfl (World.shaped_of_RefB (by kernel_rfl) (by kernel_rfl)) (by kernel_rfl) (by kernel_rfl) (by kernel_rfl) (door_met os _)) ?_
  intro W base args ds gs before hval0 hW hcnd hsz0 hLaid _
  have hsz : (DataW.weightsEach Tryz.prog (Tryz.f3.params.toList ++ Rows.kindIsSpec.plain.varTypes Tryz.prog) (ds ++ gs)).all (· ≤ reachBytes) = true := hsz0
  have hval : ∀ (j : Nat) t v, Tryz.f3.params[j]? = some t → args[j]? = some v → Value.okWide Tryz.prog W .any base t v := hval0
  have hW' := hW
  obtain ⟨p, q, hA0, hV, rfl, hfz, hnd⟩ := hW
  have hA : DataW.TrodAll en Tryz.prog W 0 (fun _ => true) true Tryz.f3.params.toList args.toList ds p := hA0
  rw [Tryz.params3] at hA hval hsz
  obtain ⟨v0, vs0, d0, ds0, p0, q0, hargs, rfl, rfl, h0, r0⟩ := trodAll_cons hA
  obtain ⟨v1, vs1, d1, ds1, p1, q1, rfl, rfl, rfl, h1, r1⟩ := trodAll_cons r0
  obtain ⟨rfl, rfl, rfl⟩ := trodAll_nil r1
  obtain rfl : args = #[v0, v1] := by cases args; simp_all
  obtain ⟨rfl, rfl⟩ := trodVars_none hV
  have k0 := h0
  have lt0 : ∀ x ∈ p0, x.block < W.heap.size := by obtain ⟨m, hm⟩ := k0; exact DataW.trod_lt m _ _ _ hm
  obtain ⟨a0, e0⟩ := arg_kind (hval 0 25 v0 rfl rfl) h0
  have k1 := h1
  have lt1 : ∀ x ∈ p1, x.block < W.heap.size := by obtain ⟨m, hm⟩ := k1; exact DataW.trod_lt m _ _ _ hm
  obtain ⟨a1, e1⟩ := arg_value (hval 1 29 v1 rfl rfl) h1
  clear hA0 hval0 hsz0 hsz
  have hcall := law_calls (f := 3) (by decide) (ht := tab0 hLaid) (args := [.p (Vi.encK a0), .p (Vi.enc a1)]) (vs := [v0, v1]) (W0 := W) (fun H => law3_W a0 a1 H) rfl (fun j d v hd hv => by
    match j, hd, hv with
    | 0, hd, hv => simp at hd hv; subst hd; subst hv; exact e0
    | 1, hd, hv => simp at hd hv; subst hd; subst hv; exact e1
    | j + 2, hd, hv => simp at hd)
  refine hcall.mono fun e W' ⟨he, bel⟩ => ?_
  subst he
  exact ⟨_, rfl, _, _, _, [], _, [], hW', trodAll_mk1 (shut_bool Tryz.underlying4 _), (trodAll_cons_mk (Below.trod laidO (by kernel_rfl) (of_decide_eq_true (by kernel_rfl)) k0 bel lt0) (trodAll_cons_mk (Below.trod laidO (by kernel_rfl) (of_decide_eq_true (by kernel_rfl)) k1 bel lt1) trodAll_mk0)), rfl, bel.frame _, fun h => by cases h⟩
theorem over : Rows.kindIsRow.holds Tryz.pinned (OpenSpec.ofChange Rows.kindIsSpec) :=
  OpenClaim.holds_of_wide 3 Tryz.f3 rfl rfl rfl rfl rfl rfl rfl ⟨rfl, rfl, rfl, rfl, rfl⟩ rfl rfl rfl rfl rfl (by kernel_rfl) Tryz.func3 (by kernel_rfl)
    (of_decide_eq_true (by kernel_rfl)) (by unfold Func.isWrapper; first | (rw [if_pos (by decide +kernel)]; kernel_rfl) | (rw [if_neg (by decide +kernel)]; exact ⟨rfl, rfl⟩))
    (fun os started H enc _ => lifted os started H enc)
end Go.Proofs.YtjkpdlloccnilaaGreatDoor.kindIs
namespace Go.Proofs.YtjkpdlloccnilaaGreatDoor
/-- The row, under a short name. -/
theorem kindIs_holds : Rows.KindIsSaid := kindIs.over
end Go.Proofs.YtjkpdlloccnilaaGreatDoor
end

section
/- The tied card of the law KindIs: for every input that can be read as data the law answers true; the tables that it may read are tied to the program's text. Conditions: those of the given card. -/
namespace Go.Proofs.YtjkpdlloccnilaaGreatDoor
open Go
/-- The statement KindIsCardSaid. -/
theorem kindIs_card : Rows.KindIsCardSaid :=
  Claim7.holds_tied_plain_at .later [] [.data, .data, .data, .listed, .data] true (true, "2b2dd42976df36376e3edc59743bc25e3b279e2145e2c684f4402163bc343186") true
    kindIs_holds (fun _ h => by cases h) (by kernel_rfl) (fun _ h => by cases h) kindIs_row_tie rfl ⟨rfl, rfl⟩ (by kernel_rfl) rfl
    (fun f fn hf hfn => by
      obtain rfl : f = 3 := Option.some.inj ((show Tryz.prog.funcNamed "sward/swardlaw05.KindIs" = some 3 by kernel_rfl).symm.trans hf) |>.symm
      obtain rfl : fn = Tryz.f3 := (Option.some.inj (Tryz.func3.symm.trans hfn)).symm
      exact ⟨by kernel_rfl, fun j t ht => by
        rw [Tryz.params3] at ht
        match j, ht with
        | 0, ht => obtain rfl : t = 25 := by simpa using ht.symm
                   exact (show Tryz.prog.wantsStandIn 25 = false by kernel_rfl)
        | 1, ht => obtain rfl : t = 29 := by simpa using ht.symm
                   exact (show Tryz.prog.wantsStandIn 29 = false by kernel_rfl)
        | j + 2, ht => simp at ht⟩)
    (by kernel_rfl)
end Go.Proofs.YtjkpdlloccnilaaGreatDoor
end
