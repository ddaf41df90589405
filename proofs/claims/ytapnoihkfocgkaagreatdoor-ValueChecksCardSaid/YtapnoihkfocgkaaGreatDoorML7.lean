/- It is proved here that the laws ValueChecks and ValueCompares answer true in the evaluator; no condition. -/
import Derived.Test.YtapnoihkfocgkaaGreatDoorMV
import Derived.Test.YtapnoihkfocgkaaGreatDoorMH
set_option linter.unusedVariables false
set_option linter.unusedSimpArgs false

section
/- Vi: the laws ValueChecks (f6) and ValueCompares (f7): true. No conditions. -/
namespace Go.Vi
open Go Go.Lib Go.Proofs
set_option maxRecDepth 100000
attribute [local simp] E_skip E_ret E_exit E_text E_draw E_seq E_cond E_block E_scope E_loop runOps runOp runDraw runVF runV finV gate FlOK wantD exec fin opd look putF norm constD constC fieldAddrD loadD storeD opCall lenD binD isShift intP strP numD indexAddrD indexD D.pd? D.pds? cells_enc sub capsOf callD argsD argD D.nf enc_agg unP box_enc cellD mkF H00 st1 cD_agg cD_pagg cD_int cD_bool cD_str cD_sl cD_lit

theorem law6_W (v : Val) (H : Hp) : W 6 [.p (enc v)] H = some (.ret (.p (.bool true)), H) := by
  refine W6_of rfl (by simp) ?_
  have hk := fun H => known_W H
  have h15 := fun H => small_W v H
  suffices key : ∃ B, E false ⟨0, 0⟩ 6 code6 (mkF 0 [.p (enc v)]) H00 = some (.ret, [(2, .p (.bool true))], ⟨B, []⟩) by
    obtain ⟨B, key⟩ := key
    rw [key]
    simp [fnOut, retOut, resD, retsD, retD, oneD, D.noRefs, D.noRef, alone, Hp.cut]
  cases hs : v.small with
  | false =>
    rw [hs] at h15
    exact ⟨_, by simp [code6, Tryz.f6, h15, hk]; rfl⟩
  | true =>
    rw [hs] at h15
    obtain ⟨hf, hb⟩ := small_fine hs
    have h29 := fun H => check29_W v H
    have h21 := fun H => size21_W v H
    have h19 := fun H => valid_W v hf hb H
    cases hv : v.valid with
    | false =>
      rw [hv] at h19
      simp only [hv, Size21, Bool.false_eq_true, if_false] at h29 h21
      exact ⟨_, by simp [code6, Tryz.f6, h15, hk, h19, h21, h29]; rfl⟩
    | true =>
      rw [hv] at h19
      simp only [hv, Size21, if_true] at h29 h21
      have hvn := (valid_fine hv).2
      have h23 := fun H => nodes_W v (by omega) H
      have h24 := fun H => depth_W v (by omega) H
      exact ⟨_, by simp [code6, Tryz.f6, h15, hk, h19, h21, h29, h23, h24]; rfl⟩

theorem law7_W (a b : Val) (H : Hp) : W 7 [.p (enc a), .p (enc b)] H = some (.ret (.p (.bool true)), H) := by
  refine W7_of rfl (by simp) ?_
  have hk := fun H => known_W H
  have ha15 := fun H => small_W a H
  have hb15 := fun H => small_W b H
  suffices key : ∃ B, E false ⟨0, 0⟩ 7 code7 (mkF 0 [.p (enc a), .p (enc b)]) H00 = some (.ret, [(4, .p (.bool true))], ⟨B, []⟩) by
    obtain ⟨B, key⟩ := key
    rw [key]
    simp [fnOut, retOut, resD, retsD, retD, oneD, D.noRefs, D.noRef, alone, Hp.cut]
  cases hs : a.small with
  | false =>
    rw [hs] at ha15
    exact ⟨_, by simp [code7, Tryz.f7, ha15, hk]; rfl⟩
  | true =>
  rw [hs] at ha15
  cases hs' : b.small with
  | false =>
    rw [hs'] at hb15
    exact ⟨_, by simp [code7, Tryz.f7, ha15, hb15, hk]; rfl⟩
  | true =>
  rw [hs'] at hb15
  obtain ⟨hfa, hba⟩ := small_fine hs
  obtain ⟨hfb, hbb⟩ := small_fine hs'
  have ha19 := fun H => valid_W a hfa hba H
  have hb19 := fun H => valid_W b hfb hbb H
  have h30 := fun H => compare30_W a b H
  have h31 := fun H => same31_W a b H
  cases hva : a.valid with
  | false =>
    rw [hva] at ha19
    simp only [both, hva, Bool.false_and, Bool.false_eq_true, if_false] at h30 h31
    exact ⟨_, by simp [code7, Tryz.f7, ha15, hb15, hk, ha19, h30, h31]; rfl⟩
  | true =>
  rw [hva] at ha19
  cases hvb : b.valid with
  | false =>
    rw [hvb] at hb19
    simp only [both, hvb, Bool.and_false, Bool.false_eq_true, if_false] at h30 h31
    exact ⟨_, by simp [code7, Tryz.f7, ha15, hb15, hk, ha19, hb19, h30, h31]; rfl⟩
  | true =>
  rw [hvb] at hb19
  simp only [both, hva, hvb, Bool.and_self, if_true] at h30 h31
  rw [cmp_eqb (valid_shaped hva) (valid_shaped hvb)] at h31
  have h32 := fun H => cmp_W a hfa b H
  have h22 := fun H => equal_W a hfa b H
  exact ⟨_, by simp [code7, Tryz.f7, ha15, hb15, hk, ha19, hb19, h30, h31, h32, h22]; rfl⟩
end Go.Vi
end
