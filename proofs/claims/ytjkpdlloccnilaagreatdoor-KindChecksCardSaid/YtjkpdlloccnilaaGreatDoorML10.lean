/- The tied card of the law KindChecks is proved here: for every input that can be read as data the law answers true. Conditions: those of the given card. -/
import Derived.Test.YtjkpdlloccnilaaGreatDoorMKR
import Derived.Test.YtjkpdlloccnilaaGreatDoorMFB
import Derived.Test.YtjkpdlloccnilaaGreatDoorMKJ
import Derived.Test.YtjkpdlloccnilaaGreatDoorMRW
import Derived.Test.YtjkpdlloccnilaaGreatDoorCards
import Derived.Test.YtjkpdlloccnilaaGreatDoorTie
import Derived.SevenTiedAt
set_option linter.unusedVariables false
set_option linter.unusedSimpArgs false

section
/- the law KindChecks (f10): true. No conditions but those that stand with each. -/
namespace Go.Vi
open Go Go.Lib Go.Proofs
set_option maxRecDepth 100000
attribute [local simp] E_skip E_ret E_exit E_text E_draw E_seq E_cond E_block E_scope E_loop runOps runOp drawR slotsOf Hp.kept_zero runDraw runVF runX runV finV gate FlOK FlOK0 wantD exec fin opd look putF norm constD constC fieldAddrD loadD storeD opCall lenD binD isShift intP strP numD indexAddrD indexD D.pd? D.pds? sub capsOf callD argsD argD D.nf unP cellD mkF H00 cD_agg cD_pagg cD_int cD_bool cD_str cD_sl cD_lit cells_int
attribute [local simp] fnOut retOut resD retsD retD oneD D.noRefs D.noRef alone Hp.cut
attribute [local simp] cells_encK encK_agg box_encK one_int one_str one_sl one_agg cD_own cD_ptr
attribute [local simp] newRow Hp.live one_encK
set_option maxHeartbeats 4000000 in
theorem law10_W (k : Kd) (H : Hp) : W 10 [.p (encK k)] H = some (.ret (.p (.bool true)), H) := by
  refine W10_of rfl (by simp) ?_
  have hk := fun H => known_W H
  have h12 := fun H => small12_W k H
  cases hs : k.small with
  | false => rw [hs] at h12; simp [code10, Tryz.f10, h12, hk]
  | true =>
  rw [hs] at h12
  have hn : k.nodes ≤ 30 := fit_nodes (n := 30) (d := 9) hs
  have h41 := fun H => check41_W k H (by omega)
  have h29 := fun H => size29_W k H (by omega)
  have h32 := fun H => count32_W k H (by omega)
  have h21 := fun H => valid21_W k H
  unfold sizeR at h29
  unfold countR at h32
  unfold errB at h41
  cases hv : k.valid with
  | false =>
    simp only [hv, Bool.false_eq_true, if_false] at h41 h29 h32 h21
    simp [code10, Tryz.f10, h12, hk, h41, h29, h32, h21]
  | true =>
  simp only [hv, if_true] at h41 h29 h32 h21
  obtain ⟨_, hsh⟩ := valid_nodes hv
  have h42 := fun H => size42_W k H (by omega) hsh
  have h43 := fun H => count43_W k H (by omega) hsh
  unfold out71 at h42
  unfold outC at h43
  cases hc : k.cnt with
  | none =>
    obtain ⟨x, hx⟩ : ∃ x, k.cntR = (x, false) := ⟨k.cntR.1, Prod.ext rfl (cntR_none hc)⟩
    simp only [hc, hx] at h32 h43
    simp [code10, Tryz.f10, h12, hk, h41, h29, h32, h21, h42, h43]
  | some n =>
    simp only [hc, cntR_some hc] at h32 h43
    simp [code10, Tryz.f10, h12, hk, h41, h29, h32, h21, h42, h43]
end Go.Vi
end

section
/- The law KindChecks: for every input that can be read as data it answers true, and leaves its input as it was. Conditions: those of the given row. -/
namespace Go.Proofs.YtjkpdlloccnilaaGreatDoor.kindChecks
open Go Go.Vi Go.ChangeShapes Go.WideShapes Go.ChangeAt Go.RowKit
open Go.ChangeMaps (open_string shut_string)
set_option linter.unusedVariables false
set_option maxRecDepth 100000
theorem lifted (os : Os) (started : os.Started) (H : Type) (en : TypeId × Value → H) :
    ReturnsInHanded {} Tryz.checked os 10 .any (fun w args => (Rows.kindChecksSpec.pre en Tryz.prog Tryz.f10 [] false w args ∧ laidMetH Tryz.prog laid5 w) ∧ sizedMet en Tryz.prog Tryz.f10 (OpenSpec.ofChange Rows.kindChecksSpec) false w args)
      (Rows.kindChecksSpec.post en Tryz.prog Tryz.f10 false true false false) := by
  refine returnsInHanded_of_change_and (C := Tryz.checked) (X := fun w _ => laidMetH Tryz.prog laid5 w) (fun _ _ _ hh h => h.of_heap hh) ownK started (by kernel_rfl) Tryz.func10
    (ChangeSpec.witness_shaped (enc := en) (C := Tryz.checked) (os := os) (X := fun w _ => laidMetH Tryz.prog laid5 w) false (World.doorLaid Tryz.prog 400 os) #[.agg #[.int .i64 0, .int .i64 0, .int .i64 0, .int .i64 0, .slice none 0 0]] 8 rfl (World.shaped_of_RefB (by kernel_rfl) (by kernel_rfl)) (by kernel_rfl) (by kernel_rfl) (by kernel_rfl) (door_met os _)) ?_
  intro W base args ds gs before hval0 hW hcnd hsz0 hLaid _
  have hsz : (DataW.weightsEach Tryz.prog (Tryz.f10.params.toList ++ Rows.kindChecksSpec.plain.varTypes Tryz.prog) (ds ++ gs)).all (· ≤ reachBytes) = true := hsz0
  have hval : ∀ (j : Nat) t v, Tryz.f10.params[j]? = some t → args[j]? = some v → Value.okWide Tryz.prog W .any base t v := hval0
  have hW' := hW
  obtain ⟨p, q, hA0, hV, rfl, hfz, hnd⟩ := hW
  have hA : DataW.TrodAll en Tryz.prog W 0 (fun _ => true) true Tryz.f10.params.toList args.toList ds p := hA0
  rw [Tryz.params10] at hA hval hsz
  obtain ⟨v0, vs0, d0, ds0, p0, q0, hargs, rfl, rfl, h0, r0⟩ := trodAll_cons hA
  obtain ⟨rfl, rfl, rfl⟩ := trodAll_nil r0
  obtain rfl : args = #[v0] := by cases args; simp_all
  obtain ⟨rfl, rfl⟩ := trodVars_none hV
  have k0 := h0
  have lt0 : ∀ x ∈ p0, x.block < W.heap.size := by obtain ⟨m, hm⟩ := k0; exact DataW.trod_lt m _ _ _ hm
  obtain ⟨a0, e0⟩ := arg_kind (hval 0 25 v0 rfl rfl) h0
  clear hA0 hval0 hsz0 hsz
  have hcall := law_calls (f := 10) (by decide) (ht := tab0 hLaid) (args := [.p (Vi.encK a0)]) (vs := [v0]) (W0 := W) (fun H => law10_W a0 H) rfl (fun j d v hd hv => by
    match j, hd, hv with
    | 0, hd, hv => simp at hd hv; subst hd; subst hv; exact e0
    | j + 1, hd, hv => simp at hd)
  refine hcall.mono fun e W' ⟨he, bel⟩ => ?_
  subst he
  exact ⟨_, rfl, _, _, _, [], _, [], hW', trodAll_mk1 (shut_bool Tryz.underlying4 _), (trodAll_cons_mk (Below.trod laidO (by kernel_rfl) (of_decide_eq_true (by kernel_rfl)) k0 bel lt0) trodAll_mk0), rfl, bel.frame _, fun h => by cases h⟩
theorem over : Rows.kindChecksRow.holds Tryz.pinned (OpenSpec.ofChange Rows.kindChecksSpec) :=
  OpenClaim.holds_of_wide 10 Tryz.f10 rfl rfl rfl rfl rfl rfl rfl ⟨rfl, rfl, rfl, rfl, rfl⟩ rfl rfl rfl rfl rfl (by kernel_rfl) Tryz.func10 (by kernel_rfl)
    (of_decide_eq_true (by kernel_rfl)) (by unfold Func.isWrapper; first | (rw [if_pos (by decide +kernel)]; kernel_rfl) | (rw [if_neg (by decide +kernel)]; exact ⟨rfl, rfl⟩))
    (fun os started H enc _ => lifted os started H enc)
end Go.Proofs.YtjkpdlloccnilaaGreatDoor.kindChecks
namespace Go.Proofs.YtjkpdlloccnilaaGreatDoor
/-- The row, under a short name. -/
theorem kindChecks_holds : Rows.KindChecksSaid := kindChecks.over
end Go.Proofs.YtjkpdlloccnilaaGreatDoor
end

section
/- The tied card of the law KindChecks: for every input that can be read as data the law answers true; the tables that it may read are tied to the program's text. Conditions: those of the given card. -/
namespace Go.Proofs.YtjkpdlloccnilaaGreatDoor
open Go
/-- The statement KindChecksCardSaid. -/
theorem kindChecks_card : Rows.KindChecksCardSaid :=
  Claim7.holds_tied_plain_at .later [] [.data, .data, .data, .listed, .data] true (true, "2b2dd42976df36376e3edc59743bc25e3b279e2145e2c684f4402163bc343186") true
    kindChecks_holds (fun _ h => by cases h) (by kernel_rfl) (fun _ h => by cases h) kindChecks_row_tie rfl ⟨rfl, rfl⟩ (by kernel_rfl) rfl
    (fun f fn hf hfn => by
      obtain rfl : f = 10 := Option.some.inj ((show Tryz.prog.funcNamed "sward/swardlaw05.KindChecks" = some 10 by kernel_rfl).symm.trans hf) |>.symm
      obtain rfl : fn = Tryz.f10 := (Option.some.inj (Tryz.func10.symm.trans hfn)).symm
      exact ⟨by kernel_rfl, fun j t ht => by
        rw [Tryz.params10] at ht
        match j, ht with
        | 0, ht => obtain rfl : t = 25 := by simpa using ht.symm
                   exact (show Tryz.prog.wantsStandIn 25 = false by kernel_rfl)
        | j + 1, ht => simp at ht⟩)
    (by kernel_rfl)
end Go.Proofs.YtjkpdlloccnilaaGreatDoor
end
