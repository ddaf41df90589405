/- It is proved here that the law ValueWrites answers true in the evaluator; no condition. -/
import Derived.Test.YtapnoihkfocgkaaGreatDoorMAD
import Derived.Test.YtapnoihkfocgkaaGreatDoorMH
set_option linter.unusedVariables false
set_option linter.unusedSimpArgs false

section
/- Vi: the law ValueWrites (f10): true. No conditions. -/
namespace Go.Vi
open Go Go.Lib Go.Proofs
set_option maxRecDepth 100000
attribute [local simp] E_skip E_ret E_exit E_text E_draw E_seq E_cond E_block E_scope E_loop runOps runOp runDraw runVF runV finV gate FlOK wantD exec fin opd look putF norm constD constC fieldAddrD loadD storeD opCall lenD binD isShift intP strP numD indexAddrD indexD D.pd? D.pds? cells_enc sub capsOf callD argsD argD D.nf enc_agg unP box_enc cellD mkF H00 st1 cD_agg cD_pagg cD_int cD_bool cD_str cD_sl cD_lit cD_own

theorem law10_W (v : Val) (H : Hp) : W 10 [.p (enc v)] H = some (.ret (.p (.bool true)), H) := by
  refine W10_of rfl (by simp) ?_
  have hk := fun H => known_W H
  have h15 := fun H => small_W v H
  suffices key : ∃ B A, E false ⟨0, 0⟩ 10 code10 (mkF 0 [.p (enc v)]) H00 = some (.ret, [(2, .p (.bool true))], ⟨B, A⟩) by
    obtain ⟨B, A, key⟩ := key
    rw [key]
    simp [fnOut, retOut, resD, retsD, retD, oneD, D.noRefs, D.noRef, alone, Hp.cut]
  cases hsm : v.small with
  | false =>
    rw [hsm] at h15
    exact ⟨_, _, by simp [code10, Tryz.f10, h15, hk]; exact ⟨rfl, rfl⟩⟩
  | true =>
    rw [hsm] at h15
    obtain ⟨hf, hb⟩ := small_fine hsm
    have h28 := fun H => print28_W v H
    have h46 := fun H => bytes46_W v H
    have h19 := fun H => valid_W v hf hb H
    cases hv : v.valid with
    | false =>
      rw [hv] at h28 h46 h19
      simp only [Bool.false_eq_true, if_false] at h28 h46
      have hS : (S [] = (⟨#[]⟩ : ByteArray)) := rfl
      exact ⟨_, _, by simp [code10, Tryz.f10, h15, h28, h46, h19, hS, hk]; exact ⟨rfl, rfl⟩⟩
    | true =>
      rw [hv] at h28 h46 h19
      simp only [if_true] at h28 h46
      obtain ⟨hn, _⟩ := (valid_iff v).1 hv
      have hs := valid_shaped hv
      have hl := txt_len v hs
      have h26 := fun H => read26_W (txt v) (by omega) H
      rw [pRead_txt hv] at h26
      obtain ⟨b, e1, e2, e3⟩ := pLoad_pk hv
      have h47 := fun H => pload_W b (by omega) H
      rw [e3] at h47
      have h48 := fun H => rprint_W v hs (by omega) H
      have h49 := fun H => rbytes_W v hs (by omega) H
      rw [← e1, ← encB_U] at h46 h49
      have h22 := fun H => equal_W v (valid_fine hv).1 v H
      rw [eqb_self] at h22
      have bp := bytesP_enc b
      simp only at h26 h47
      exact ⟨_, _, by simp [code10, Tryz.f10, h15, h28, h46, h19, h26, h47, h48, h49, h22, bp, convD, z25', splice, hk]; exact ⟨rfl, rfl⟩⟩
end Go.Vi
end
