/- It is proved here that the law ValueLoads answers true in the evaluator; no condition but a length. -/
import Derived.Test.YtapnoihkfocgkaaGreatDoorMZ
import Derived.Test.YtapnoihkfocgkaaGreatDoorMH
set_option linter.unusedVariables false
set_option linter.unusedSimpArgs false

section
/- Vi: the law ValueLoads (f11): true. No conditions. -/
namespace Go.Vi
open Go Go.Lib Go.Proofs
set_option maxRecDepth 100000
attribute [local simp] E_skip E_ret E_exit E_text E_draw E_seq E_cond E_block E_scope E_loop runOps runOp runDraw runVF runV finV gate FlOK wantD exec fin opd look putF norm constD constC fieldAddrD loadD storeD opCall lenD binD isShift intP strP numD indexAddrD indexD D.pd? D.pds? cells_enc sub capsOf callD argsD argD D.nf enc_agg unP box_enc cellD mkF H00 st1 cD_agg cD_pagg cD_int cD_bool cD_str cD_sl cD_lit cD_own

theorem pLoad_some {b : List UInt8} {v : Val} (h : pLoad b = some v) : v.valid = true ∧ pk v = bI b := by
  unfold pLoad at h
  split at h
  · split at h
    · rename_i hc; cases h; exact hc
    · cases h
  · cases h

theorem law11_W (b : List UInt8) (hb0 : b.length < 9223372036854775807) (H : Hp) : W 11 [.p (.sl (encB b))] H = some (.ret (.p (.bool true)), H) := by
  refine W11_of rfl (by simp) ?_
  have hk := fun H => known_W H
  suffices key : ∃ B A, E false ⟨0, 0⟩ 11 code11 (mkF 0 [.p (.sl (encB b))]) H00 = some (.ret, [(2, .p (.bool true))], ⟨B, A⟩) by
    obtain ⟨B, A, key⟩ := key
    rw [key]
    simp [fnOut, retOut, resD, retsD, retD, oneD, D.noRefs, D.noRef, alone, Hp.cut]
  by_cases hl : 1000 < b.length
  · have hl' : (1000 : Int) < b.length := by omega
    exact ⟨_, _, by simp [code11, Tryz.f11, encB_len, hl', hk]; exact ⟨rfl, rfl⟩⟩
  have hl' : ¬ (1000 : Int) < b.length := by omega
  have h47 := fun H => pload_W b (by omega) H
  have h50 := fun H => load50_W b (by omega) H
  rw [← load_same] at h50
  have h20 := fun H => none_W Val.zero zero_fine H
  rw [none_zero] at h20
  cases hp : pLoad b with
  | none =>
    rw [hp] at h47 h50
    simp only at h47 h50
    exact ⟨_, _, by simp [code11, Tryz.f11, encB_len, hl', hk, h47, h50, h20, z25', splice]; exact ⟨rfl, rfl⟩⟩
  | some v =>
    rw [hp] at h47 h50
    simp only at h47 h50
    obtain ⟨hv, hpk⟩ := pLoad_some hp
    have h46 := fun H => bytes46_W v H
    simp only [hv, if_true, hpk] at h46
    rw [← encB_U] at h46
    have h22 := fun H => equal_W v (valid_fine hv).1 v H
    rw [eqb_self] at h22
    have bp := bytesP_enc b
    exact ⟨_, _, by simp [code11, Tryz.f11, encB_len, hl', hk, h47, h50, h46, h22, bp, convD, z25', splice]; exact ⟨rfl, rfl⟩⟩
end Go.Vi
end
