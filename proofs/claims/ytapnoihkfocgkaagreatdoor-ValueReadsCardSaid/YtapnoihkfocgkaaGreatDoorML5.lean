/- It is proved here that the law ValueReads answers true in the evaluator; no condition but a length. -/
import Derived.Test.YtapnoihkfocgkaaGreatDoorMAC
import Derived.Test.YtapnoihkfocgkaaGreatDoorMH
set_option linter.unusedVariables false
set_option linter.unusedSimpArgs false

section
/- Vi: the law ValueReads (f5): true. No conditions. -/
namespace Go.Vi
open Go Go.Lib Go.Proofs
set_option maxRecDepth 100000
attribute [local simp] E_skip E_ret E_exit E_text E_draw E_seq E_cond E_block E_scope E_loop runOps runOp runDraw runVF runV finV gate FlOK wantD exec fin opd look putF norm constD constC fieldAddrD loadD storeD opCall lenD binD isShift intP strP numD indexAddrD indexD D.pd? D.pds? cells_enc sub capsOf callD argsD argD D.nf enc_agg unP box_enc cellD mkF H00 st1 cD_agg cD_pagg cD_int cD_bool cD_str cD_sl cD_lit cD_own

theorem pRead_is {b : List UInt8} {v : Val} (h : pRead b = some v) : v.valid = true ∧ txt v = b := by
  rw [read_same] at h
  obtain ⟨h1, h2, _⟩ := rRead_is h
  exact ⟨h1, h2⟩

theorem law5_at (b : List UInt8) (H : Hp) : W 5 [.p (.str (S b))] H = some (.ret (.p (.bool true)), H) := by
  refine W5_of rfl (by simp) ?_
  have hk := fun H => known_W H
  suffices key : ∃ B, E false ⟨0, 0⟩ 5 code5 (mkF 0 [.p (.str (S b))]) H00 = some (.ret, [(2, .p (.bool true))], ⟨B, []⟩) by
    obtain ⟨B, key⟩ := key
    rw [key]
    simp [fnOut, retOut, resD, retsD, retD, oneD, D.noRefs, D.noRef, alone, Hp.cut]
  by_cases h1 : 8100 < b.length
  · have c1 : (1000 : Int) < b.length := by omega
    have c2 : ¬ (b.length : Int) ≤ 8000 := by omega
    have c3 : (8100 : Int) < b.length := by omega
    have d1 : 1000 < b.length := by omega
    have d2 : ¬ b.length ≤ 8000 := by omega
    exact ⟨_, by simp [code5, Tryz.f5, S_size, c1, c2, c3, d1, d2, h1, hk]; rfl⟩
  have c3 : ¬ (8100 : Int) < b.length := by omega
  by_cases h2 : 8000 < b.length
  · have c1 : (1000 : Int) < b.length := by omega
    have c2 : ¬ (b.length : Int) ≤ 8000 := by omega
    have c4 : (8000 : Int) < b.length := by omega
    have d1 : 1000 < b.length := by omega
    have d2 : ¬ b.length ≤ 8000 := by omega
    have h26 := fun H => read26_long b h2 H
    have h20 := fun H => none_W Val.zero zero_fine H
    rw [none_zero] at h20
    exact ⟨_, by simp [code5, Tryz.f5, S_size, c1, c2, c3, c4, d1, d2, h1, h2, h26, h20, hk, z25', splice]; rfl⟩
  have c2 : (b.length : Int) ≤ 8000 := by omega
  have c4 : ¬ (8000 : Int) < b.length := by omega
  have d2 : b.length ≤ 8000 := by omega
  by_cases h3 : 1000 < b.length
  · have c1 : (1000 : Int) < b.length := by omega
    exact ⟨_, by simp [code5, Tryz.f5, S_size, c1, c2, d2, h3, hk]; rfl⟩
  have c1 : ¬ (1000 : Int) < b.length := by omega
  have h26 := fun H => read26_W b (by omega) H
  have h27 := fun H => read27_W b (by omega) H
  rw [← read_same] at h27
  have h20 := fun H => none_W Val.zero zero_fine H
  rw [none_zero] at h20
  cases hp : pRead b with
  | none =>
    rw [hp] at h26 h27
    simp only at h26 h27
    exact ⟨_, by simp [code5, Tryz.f5, S_size, c1, c3, c4, h1, h2, h3, h26, h27, h20, hk, z25', splice]; rfl⟩
  | some v =>
    rw [hp] at h26 h27
    simp only at h26 h27
    obtain ⟨hv, htx⟩ := pRead_is hp
    have h28 := fun H => print28_W v H
    simp only [hv, if_true, htx] at h28
    have h22 := fun H => equal_W v (valid_fine hv).1 v H
    rw [eqb_self] at h22
    exact ⟨_, by simp [code5, Tryz.f5, S_size, c1, c3, c4, h1, h2, h3, h26, h27, h28, h22, hk, z25', splice]; rfl⟩

theorem law5_W (t : ByteArray) (ht : t.size ≤ 140737488351232) (H : Hp) : W 5 [.p (.str t)] H = some (.ret (.p (.bool true)), H) := by
  rw [← S_of t]
  exact law5_at _ H
end Go.Vi
end
