/- It is proved here that the program's check of known values answers true in the evaluator; no condition. -/
import Derived.Test.YtapnoihkfocgkaaGreatDoorMF
set_option linter.unusedVariables false
set_option linter.unusedSimpArgs false

section
/- Vi: swardlaw01.known (f16): the chapter's examples, run. No conditions. -/
namespace Go.Vi
open Go Go.Lib Go.Proofs
set_option maxRecDepth 1000000

def okX (f : FuncId) : Bool := decide (3 ≤ f) && decide (f < 201) && !(f == 172) && !(decide (180 ≤ f) && decide (f < 195))
theorem okX_all : (List.range 201).all (fun f => !okX f || okFn Tryz.prog ch f) = true := by kernel_rfl
theorem okX_ok (f : FuncId) (h : okX f = true) : okFn Tryz.prog ch f = true := by
  have h2 := h
  simp only [okX, Bool.and_eq_true, decide_eq_true_eq] at h2
  have := List.all_eq_true.1 okX_all f (List.mem_range.2 h2.1.1.2)
  simpa [h] using this

theorem known_run (H : Hp) : calN Tryz.prog hn ch others okX 40 16 [] H = some (.ret (.p (.bool true)), H) := by kernel_rfl
theorem known_W (H : Hp) : W 16 [] H = some (.ret (.p (.bool true)), H) := calN_le okX_ok 40 _ _ _ _ (known_run H)
end Go.Vi
end
