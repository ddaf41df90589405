/- The tied card of the law ValueSets is proved here: for every input that can be read as data the law answers true. Conditions: those of the given card. -/
import Derived.Test.YtapnoihkfocgkaaGreatDoorRows
import Derived.Test.YtapnoihkfocgkaaGreatDoorML14
import Derived.Test.YtapnoihkfocgkaaGreatDoorMR
import Derived.LaidMore
import Derived.Stop.Joined
import Derived.Test.YtapnoihkfocgkaaGreatDoorCards
import Derived.Test.YtapnoihkfocgkaaGreatDoorTie
import Derived.SevenTiedAt
set_option linter.unusedVariables false
set_option linter.unusedSimpArgs false

section
/- The law ValueSets: for every input that can be read as data it answers true, and leaves its input as it was. Conditions: those of the given row. -/
namespace Go.Proofs.YtapnoihkfocgkaaGreatDoor.valueSets
open Go Go.Vi Go.ChangeShapes Go.WideShapes Go.ChangeAt Go.RowKit
open Go.ChangeMaps (open_string shut_string)
set_option linter.unusedVariables false
set_option maxRecDepth 100000
theorem own : ownKnob Tryz.prog.godebug = none := by kernel_rfl
theorem laidOut : laidOutB Tryz.prog = true := by kernel_rfl
def laid3 {H : Type} : List (String × DataW H) := [("math/bits.deBruijn32tab", Rows.laid_math_bits_deBruijn32tab), ("math/bits.deBruijn64tab", Rows.laid_math_bits_deBruijn64tab), ("internal/strconv.uint64pow10", Rows.laid_internal_strconv_uint64pow10)]
theorem door_met (os : Os) (args : Array Value) : laidMetH Tryz.prog laid3 ((World.doorLaid Tryz.prog 400 os).forCall (fun _ _ => 0) ⟨#[], args, []⟩).memory :=
  laidMetH_of_parts3 (fuel := 8) (laidMet_of_run' 8 (by kernel_rfl) (by kernel_rfl)) (by kernel_rfl) (by kernel_rfl)
theorem tab0 {W : World} (h : laidMetH Tryz.prog laid3 W) : Tab W (G0 W) := fun _ => by
  rw [MakeChecks.laidMetH_plain _ _ _ (by kernel_rfl)] at h
  obtain ⟨ps, ⟨_, _, _, _, _, _, _, _, _, _, ⟨_, _, _, _, _, _, _, _, _, _, ⟨g2, t2, cs2, f2, p2, q2, hg2, ht2, hv2, hd2, _, _⟩, _⟩, _⟩, _, _⟩ := h
  obtain rfl : tabB = g2 := Option.some.inj (gtab.symm.trans hg2)
  obtain rfl : 180 = t2 := Option.some.inj ((show (Tryz.prog.globals[tabB]?).map (·.type) = some 180 by kernel_rfl).symm.trans ht2)
  have hcs := Lib.cells_of_tab (zs := Lib.pow10Tab) Tryz.underlying180 Tryz.underlying161 (by kernel_rfl) (by kernel_rfl) hd2
  unfold World.var? at hv2
  rw [gtab] at hv2
  simp only [Option.bind_some] at hv2
  refine ⟨by simp [G0, Gh.owned], ?_⟩
  split at hv2
  · rename_i cs ty fr hc
    simp only [Option.some.injEq] at hv2
    have hcs2 : cs = tabV := by rw [hv2, tabV_eq, ← hcs]
    exact ⟨ty, fr, hcs2 ▸ hc⟩
  · cases hv2
theorem lifted (os : Os) (started : os.Started) (H : Type) (en : TypeId × Value → H) :
    ReturnsInHanded {} Tryz.checked os 14 .any (fun w args => (Rows.valueSetsSpec.pre en Tryz.prog Tryz.f14 [] false w args ∧ laidMetH Tryz.prog laid3 w) ∧ sizedMet en Tryz.prog Tryz.f14 (OpenSpec.ofChange Rows.valueSetsSpec) false w args)
      (Rows.valueSetsSpec.post en Tryz.prog Tryz.f14 false true false false) := by
  refine returnsInHanded_of_change_and (C := Tryz.checked) (X := fun w _ => laidMetH Tryz.prog laid3 w) (fun _ _ _ hh h => h.of_heap hh) own started (by kernel_rfl) Tryz.func14
    (ChangeSpec.witness_shaped (enc := en) (C := Tryz.checked) (os := os) (X := fun w _ => laidMetH Tryz.prog laid3 w) false (World.doorLaid Tryz.prog 400 os) #[.slice none 0 0, .int .i64 0] 8 rfl (World.shaped_of_RefB (by kernel_rfl) (by kernel_rfl)) (by kernel_rfl) (by kernel_rfl) (by kernel_rfl) (door_met os _)) ?_
  intro W base args ds gs before hval0 hW hcnd hsz0 hLaid _
  have hsz : (DataW.weightsEach Tryz.prog (Tryz.f14.params.toList ++ Rows.valueSetsSpec.plain.varTypes Tryz.prog) (ds ++ gs)).all (· ≤ reachBytes) = true := hsz0
  have hval : ∀ (j : Nat) t v, Tryz.f14.params[j]? = some t → args[j]? = some v → Value.okWide Tryz.prog W .any base t v := hval0
  have hW' := hW
  obtain ⟨p, q, hA0, hV, rfl, hfz, hnd⟩ := hW
  have hA : DataW.TrodAll en Tryz.prog W 0 (fun _ => true) true Tryz.f14.params.toList args.toList ds p := hA0
  rw [Tryz.params14] at hA hval hsz
  obtain ⟨v0, vs0, d0, ds0, p0, q0, hargs, rfl, rfl, h0, r0⟩ := trodAll_cons hA
  obtain ⟨v1, vs1, d1, ds1, p1, q1, rfl, rfl, rfl, h1, r1⟩ := trodAll_cons r0
  obtain ⟨rfl, rfl, rfl⟩ := trodAll_nil r1
  obtain rfl : args = #[v0, v1] := by cases args; simp_all
  obtain ⟨rfl, rfl⟩ := trodVars_none hV
  have k0 := h0
  have lt0 : ∀ x ∈ p0, x.block < W.heap.size := by obtain ⟨m, hm⟩ := k0; exact DataW.trod_lt m _ _ _ hm
  obtain ⟨a0, n0, e0⟩ := arg_vals (hval 0 23 v0 rfl rfl) h0 (j := 0) rfl rfl hsz
  obtain ⟨a1, rfl, rfl, rfl, w1⟩ := open_int Tryz.underlying3 (hval 1 3 v1 rfl rfl) h1
  have e1 : RepD W (G0 W) [] (.p (.int .i64 a1)) (.int .i64 a1) := .p _ _ (.int _ _)
  clear hA0 hval0 hsz0 hsz
  have hcall := law_calls (f := 14) (by decide) (ht := tab0 hLaid) (args := [.p (.sl (a0.map Vi.enc)), .p (.int .i64 a1)]) (vs := [v0, .int .i64 a1]) (W0 := W) (fun H => law14_W a0 n0 a1 H) rfl (fun j d v hd hv => by
    match j, hd, hv with
    | 0, hd, hv => simp at hd hv; subst hd; subst hv; exact e0
    | 1, hd, hv => simp at hd hv; subst hd; subst hv; exact e1
    | j + 2, hd, hv => simp at hd)
  refine hcall.mono fun e W' ⟨he, bel⟩ => ?_
  subst he
  exact ⟨_, rfl, _, _, _, [], _, [], hW', trodAll_mk1 (shut_bool Tryz.underlying4 _), (trodAll_cons_mk (Below.trod laidOut (by kernel_rfl) (of_decide_eq_true (by kernel_rfl)) k0 bel lt0) (trodAll_cons_mk (shut_int Tryz.underlying3 w1) trodAll_mk0)), rfl, bel.frame _, fun h => by cases h⟩
theorem over : Rows.valueSetsRow.holds Tryz.pinned (OpenSpec.ofChange Rows.valueSetsSpec) :=
  OpenClaim.holds_of_wide 14 Tryz.f14 rfl rfl rfl rfl rfl rfl rfl ⟨rfl, rfl, rfl, rfl, rfl⟩ rfl rfl rfl rfl rfl (by kernel_rfl) Tryz.func14 (by kernel_rfl)
    (of_decide_eq_true (by kernel_rfl)) (by unfold Func.isWrapper; first | (rw [if_pos (by decide +kernel)]; kernel_rfl) | (rw [if_neg (by decide +kernel)]; exact ⟨rfl, rfl⟩))
    (fun os started H enc _ => lifted os started H enc)
end Go.Proofs.YtapnoihkfocgkaaGreatDoor.valueSets
namespace Go.Proofs.YtapnoihkfocgkaaGreatDoor
/-- The row, under a short name. -/
theorem valueSets_holds : Rows.ValueSetsSaid := valueSets.over
end Go.Proofs.YtapnoihkfocgkaaGreatDoor
end

section
/- The tied card of the law ValueSets: for every input that can be read as data the law answers true; the tables that it may read are tied to the program's text. Conditions: those of the given card. -/
namespace Go.Proofs.YtapnoihkfocgkaaGreatDoor
open Go
/-- The statement ValueSetsCardSaid. -/
theorem valueSets_card : Rows.ValueSetsCardSaid :=
  Claim7.holds_tied_plain_at .later [] [.data, .data, .data] true (true, "40e3612fb510151cbad10d424c39044593b08eb4cc5b801a7b153c3d77e88363") true
    valueSets_holds (fun _ h => by cases h) (by kernel_rfl) (fun _ h => by cases h) valueSets_row_tie rfl ⟨rfl, rfl⟩ (by kernel_rfl) rfl
    (fun f fn hf hfn => by
      obtain rfl : f = 14 := Option.some.inj ((show Tryz.prog.funcNamed "sward/swardlaw01.ValueSets" = some 14 by kernel_rfl).symm.trans hf) |>.symm
      obtain rfl : fn = Tryz.f14 := (Option.some.inj (Tryz.func14.symm.trans hfn)).symm
      exact ⟨by kernel_rfl, fun j t ht => by
        rw [Tryz.params14] at ht
        match j, ht with
        | 0, ht => obtain rfl : t = 23 := by simpa using ht.symm
                   exact (show Tryz.prog.wantsStandIn 23 = false by kernel_rfl)
        | 1, ht => obtain rfl : t = 3 := by simpa using ht.symm
                   exact (show Tryz.prog.wantsStandIn 3 = false by kernel_rfl)
        | j + 2, ht => simp at ht⟩)
    (by kernel_rfl)
end Go.Proofs.YtapnoihkfocgkaaGreatDoor
end
