/- It is proved here what the variables that the program's text lays are to the evaluator; conditions stand with each. -/
import Derived.Test.YtjkpdlloccnilaaGreatDoorRows
import Derived.Test.YtjkpdlloccnilaaGreatDoorMRD
import Derived.LaidMore
import Derived.Lib.LaidTab
import Derived.Stop.Joined
set_option linter.unusedVariables false
set_option linter.unusedSimpArgs false

section
/- Vi: layer 5: what the rows share: the variables that the program's text lays. No conditions but those that stand with each. -/
namespace Go.Vi
open Go Go.Lib Go.Proofs Go.Proofs.YtjkpdlloccnilaaGreatDoor
set_option maxRecDepth 100000
theorem ownK : ownKnob Tryz.prog.godebug = none := by kernel_rfl
theorem laidO : laidOutB Tryz.prog = true := by kernel_rfl
def laid5 {H : Type} : List (String × DataW H) := [("math/bits.deBruijn32tab", Rows.laid_math_bits_deBruijn32tab), ("math/bits.deBruijn64tab", Rows.laid_math_bits_deBruijn64tab), ("internal/strconv.uint64pow10", Rows.laid_internal_strconv_uint64pow10), ("unicode.White_Space", Rows.laid_unicode_White_Space), ("strings.asciiSpace", Rows.laid_strings_asciiSpace)]
theorem door_met (os : Os) (args : Array Value) : laidMetH Tryz.prog laid5 ((World.doorLaid Tryz.prog 400 os).forCall (fun _ _ => 0) ⟨#[], args, []⟩).memory :=
  laidMetH_of_parts3 (fuel := 8) (laidMet_of_run' 8 (by kernel_rfl) (by kernel_rfl)) (by kernel_rfl) (by kernel_rfl)
def spTab : List Int := (List.range 256).map fun i => if i = 9 ∨ i = 10 ∨ i = 11 ∨ i = 12 ∨ i = 13 ∨ i = 32 then 1 else 0
theorem gspace : Tryz.prog.globalNamed "strings.asciiSpace" = some 0 := by kernel_rfl
theorem space_data {H : Type} : (Rows.laid_strings_asciiSpace : DataW H) = Lib.tabData .u8 spTab := by kernel_rfl
theorem gtab0 : gTab = [(0, spTab.map fun z => PD.int .u8 z)] := by kernel_rfl
theorem ty_space : (Tryz.prog.globals[0]?).map (·.type) = some 211 := by kernel_rfl
theorem u211 : Tryz.prog.underlying 211 = some (.array 256 5) := by kernel_rfl
theorem u5 : Tryz.prog.underlying 5 = some (.int .u8) := by kernel_rfl
theorem tab0 {W : World} (h : laidMetH Tryz.prog laid5 W) : Tab W (G0 W) := by
  refine ⟨fun e => absurd e (by decide), fun b l hb => ?_⟩
  have hb' : b = 0 ∧ l = spTab.map fun z => PD.int .u8 z := by
    unfold gtabOf at hb
    rw [gtab0] at hb
    simp only [List.find?_cons, List.find?_nil] at hb
    split at hb
    · rename_i h0
      simp only [Option.map_some, Option.some.injEq] at hb
      exact ⟨(by simpa using h0 : 0 = b).symm, hb.symm⟩
    · cases hb
  obtain ⟨rfl, rfl⟩ := hb'
  rw [MakeChecks.laidMetH_plain _ _ _ (by kernel_rfl)] at h
  obtain ⟨ps, ⟨_, _, _, _, _, _, _, _, _, _, ⟨_, _, _, _, _, _, _, _, _, _, ⟨_, _, _, _, _, _, _, _, _, _, ⟨_, _, _, _, _, _, _, _, _, _, ⟨g2, t2, cs2, f2, p2, q2, hg2, ht2, hv2, hd2, _, _⟩, _⟩, _⟩, _⟩, _⟩, _, _⟩ := h
  obtain rfl : 0 = g2 := Option.some.inj (gspace.symm.trans hg2)
  obtain rfl : 211 = t2 := Option.some.inj (ty_space.symm.trans ht2)
  rw [space_data] at hd2
  have hcs := Lib.cells_of_tab (zs := spTab) u211 u5 (by kernel_rfl) (by kernel_rfl) hd2
  unfold World.var? at hv2
  rw [gspace] at hv2
  simp only [Option.bind_some] at hv2
  split at hv2
  · rename_i cs ty fr hc
    simp only [Option.some.injEq] at hv2
    have hlt : 0 < W.heap.size := by
      rcases Nat.lt_or_ge 0 W.heap.size with h | h
      · exact h
      · rw [Array.getElem?_eq_none h] at hc; cases hc
    intro c x hx
    refine ⟨hlt, ?_⟩
    rw [List.getElem?_map, Option.map_eq_some_iff] at hx
    obtain ⟨z, hz, rfl⟩ := hx
    refine ⟨.int .u8 z, ?_, .int _ _⟩
    unfold World.cell?
    simp only [hc, Option.isSome_none, Bool.false_eq_true, if_false, Nat.zero_add]
    rw [hv2]
    rw [← Array.getElem?_toList, hcs, List.getElem?_map, hz]
    rfl
  · cases hv2
end Go.Vi
end
