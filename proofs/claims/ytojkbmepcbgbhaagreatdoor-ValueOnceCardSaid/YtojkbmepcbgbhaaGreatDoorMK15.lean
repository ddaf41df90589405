/- The tied card of the law ValueOnce is proved here: for every input that can be read as data the law answers true. Conditions: those of the given card. -/
import Derived.Test.YtojkbmepcbgbhaaGreatDoorRows
import Derived.Test.YtojkbmepcbgbhaaGreatDoorML15
import Derived.Test.YtojkbmepcbgbhaaGreatDoorMR
import Derived.LaidMore
import Derived.Stop.Joined
import Derived.Test.YtojkbmepcbgbhaaGreatDoorCards
import Derived.Test.YtojkbmepcbgbhaaGreatDoorTie
import Derived.SevenTiedAt
set_option linter.unusedVariables false
set_option linter.unusedSimpArgs false

section
/- The law ValueOnce: for every input that can be read as data it answers true, and leaves its input as it was. Conditions: those of the given row. -/
namespace Go.Proofs.YtojkbmepcbgbhaaGreatDoor.valueOnce
open Go Go.Vi Go.ChangeShapes Go.WideShapes Go.ChangeAt Go.RowKit
open Go.ChangeMaps (open_string shut_string)
set_option linter.unusedVariables false
set_option maxRecDepth 100000
theorem own : ownKnob Tryz.prog.godebug = none := by kernel_rfl
theorem laidOut : laidOutB Tryz.prog = true := by kernel_rfl
def laid3 {H : Type} : List (String × DataW H) := [("math/bits.deBruijn32tab", Rows.laid_math_bits_deBruijn32tab), ("math/bits.deBruijn64tab", Rows.laid_math_bits_deBruijn64tab), ("internal/strconv.uint64pow10", Rows.laid_internal_strconv_uint64pow10)]
theorem door_met (os : Os) (args : Array Value) : laidMetH Tryz.prog laid3 ((World.doorLaid Tryz.prog 400 os).forCall (fun _ _ => 0) ⟨#[], args, []⟩).memory :=
  laidMetH_of_parts3 (fuel := 8) (laidMet_of_run' 8 (by kernel_rfl) (by kernel_rfl)) (by kernel_rfl) (by kernel_rfl)
theorem tab0 {W : World} (h : laidMetH Tryz.prog laid3 W) : Tab W (G0 W) := fun _ => by
  rw [MakeChecks.laidMetH_plain _ _ _ (by kernel_rfl)] at h
  obtain ⟨ps, ⟨_, _, _, _, _, _, _, _, _, _, ⟨_, _, _, _, _, _, _, _, _, _, ⟨g2, t2, cs2, f2, p2, q2, hg2, ht2, hv2, hd2, _, _⟩, _⟩, _⟩, _, _⟩ := h
  obtain rfl : tabB = g2 := Option.some.inj (gtab.symm.trans hg2)
  obtain rfl : 181 = t2 := Option.some.inj ((show (Tryz.prog.globals[tabB]?).map (·.type) = some 181 by kernel_rfl).symm.trans ht2)
  have hcs := Lib.cells_of_tab (zs := Lib.pow10Tab) Tryz.underlying181 Tryz.underlying162 (by kernel_rfl) (by kernel_rfl) hd2
  unfold World.var? at hv2
  rw [gtab] at hv2
  simp only [Option.bind_some] at hv2
  refine ⟨by simp [G0, Gh.owned], ?_⟩
  split at hv2
  · rename_i cs ty fr hc
    simp only [Option.some.injEq] at hv2
    have hcs2 : cs = tabV := by rw [hv2, tabV_eq, ← hcs]
    exact ⟨ty, fr, hcs2 ▸ hc⟩
  · cases hv2
theorem lifted (os : Os) (started : os.Started) (H : Type) (en : TypeId × Value → H) :
    ReturnsInHanded {} Tryz.checked os 15 .any (fun w args => (Rows.valueOnceSpec.pre en Tryz.prog Tryz.f15 [] false w args ∧ laidMetH Tryz.prog laid3 w) ∧ sizedMet en Tryz.prog Tryz.f15 (OpenSpec.ofChange Rows.valueOnceSpec) false w args)
      (Rows.valueOnceSpec.post en Tryz.prog Tryz.f15 false true false false) := by
  refine returnsInHanded_of_change_and (C := Tryz.checked) (X := fun w _ => laidMetH Tryz.prog laid3 w) (fun _ _ _ hh h => h.of_heap hh) own started (by kernel_rfl) Tryz.func15
    (ChangeSpec.witness_shaped (enc := en) (C := Tryz.checked) (os := os) (X := fun w _ => laidMetH Tryz.prog laid3 w) false (World.doorLaid Tryz.prog 400 os) #[.slice none 0 0, .int .i64 0, .agg #[.int .i64 0, .int .i64 0, .string ByteArray.empty, .slice none 0 0]] 8 rfl (World.shaped_of_RefB (by kernel_rfl) (by kernel_rfl)) (by kernel_rfl) (by kernel_rfl) (by kernel_rfl) (door_met os _)) ?_
  intro W base args ds gs before hval0 hW hcnd hsz0 hLaid _
  have hsz : (DataW.weightsEach Tryz.prog (Tryz.f15.params.toList ++ Rows.valueOnceSpec.plain.varTypes Tryz.prog) (ds ++ gs)).all (· ≤ reachBytes) = true := hsz0
  have hval : ∀ (j : Nat) t v, Tryz.f15.params[j]? = some t → args[j]? = some v → Value.okWide Tryz.prog W .any base t v := hval0
  have hW' := hW
  obtain ⟨p, q, hA0, hV, rfl, hfz, hnd⟩ := hW
  have hA : DataW.TrodAll en Tryz.prog W 0 (fun _ => true) true Tryz.f15.params.toList args.toList ds p := hA0
  rw [Tryz.params15] at hA hval hsz
  obtain ⟨v0, vs0, d0, ds0, p0, q0, hargs, rfl, rfl, h0, r0⟩ := trodAll_cons hA
  obtain ⟨v1, vs1, d1, ds1, p1, q1, rfl, rfl, rfl, h1, r1⟩ := trodAll_cons r0
  obtain ⟨v2, vs2, d2, ds2, p2, q2, rfl, rfl, rfl, h2, r2⟩ := trodAll_cons r1
  obtain ⟨rfl, rfl, rfl⟩ := trodAll_nil r2
  obtain rfl : args = #[v0, v1, v2] := by cases args; simp_all
  obtain ⟨rfl, rfl⟩ := trodVars_none hV
  have k0 := h0
  have lt0 : ∀ x ∈ p0, x.block < W.heap.size := by obtain ⟨m, hm⟩ := k0; exact DataW.trod_lt m _ _ _ hm
  obtain ⟨a0, n0, e0⟩ := arg_vals (hval 0 23 v0 rfl rfl) h0 (j := 0) rfl rfl hsz
  obtain ⟨a1, rfl, rfl, rfl, w1⟩ := open_int Tryz.underlying3 (hval 1 3 v1 rfl rfl) h1
  have e1 : RepD W (G0 W) [] (.p (.int .i64 a1)) (.int .i64 a1) := .p _ _ (.int _ _)
  have k2 := h2
  have lt2 : ∀ x ∈ p2, x.block < W.heap.size := by obtain ⟨m, hm⟩ := k2; exact DataW.trod_lt m _ _ _ hm
  obtain ⟨a2, e2⟩ := arg_val (hval 2 25 v2 rfl rfl) h2
  clear hA0 hval0 hsz0 hsz
  have hcall := law_calls (f := 15) (by decide) (ht := tab0 hLaid) (args := [.p (.sl (a0.map Vi.enc)), .p (.int .i64 a1), .p (Vi.enc a2)]) (vs := [v0, .int .i64 a1, v2]) (W0 := W) (fun H => law15_W a0 n0 a1 a2 H) rfl (fun j d v hd hv => by
    match j, hd, hv with
    | 0, hd, hv => simp at hd hv; subst hd; subst hv; exact e0
    | 1, hd, hv => simp at hd hv; subst hd; subst hv; exact e1
    | 2, hd, hv => simp at hd hv; subst hd; subst hv; exact e2
    | j + 3, hd, hv => simp at hd)
  refine hcall.mono fun e W' ⟨he, bel⟩ => ?_
  subst he
  exact ⟨_, rfl, _, _, _, [], _, [], hW', trodAll_mk1 (shut_bool Tryz.underlying4 _), (trodAll_cons_mk (Below.trod laidOut (by kernel_rfl) (of_decide_eq_true (by kernel_rfl)) k0 bel lt0) (trodAll_cons_mk (shut_int Tryz.underlying3 w1) (trodAll_cons_mk (Below.trod laidOut (by kernel_rfl) (of_decide_eq_true (by kernel_rfl)) k2 bel lt2) trodAll_mk0))), rfl, bel.frame _, fun h => by cases h⟩
theorem over : Rows.valueOnceRow.holds Tryz.pinned (OpenSpec.ofChange Rows.valueOnceSpec) :=
  OpenClaim.holds_of_wide 15 Tryz.f15 rfl rfl rfl rfl rfl rfl rfl ⟨rfl, rfl, rfl, rfl, rfl⟩ rfl rfl rfl rfl rfl (by kernel_rfl) Tryz.func15 (by kernel_rfl)
    (of_decide_eq_true (by kernel_rfl)) (by unfold Func.isWrapper; first | (rw [if_pos (by decide +kernel)]; kernel_rfl) | (rw [if_neg (by decide +kernel)]; exact ⟨rfl, rfl⟩))
    (fun os started H enc _ => lifted os started H enc)
end Go.Proofs.YtojkbmepcbgbhaaGreatDoor.valueOnce
namespace Go.Proofs.YtojkbmepcbgbhaaGreatDoor
/-- The row, under a short name. -/
theorem valueOnce_holds : Rows.ValueOnceSaid := valueOnce.over
end Go.Proofs.YtojkbmepcbgbhaaGreatDoor
end

section
/- The tied card of the law ValueOnce: for every input that can be read as data the law answers true; the tables that it may read are tied to the program's text. Conditions: those of the given card. -/
namespace Go.Proofs.YtojkbmepcbgbhaaGreatDoor
open Go
/-- The statement ValueOnceCardSaid. -/
theorem valueOnce_card : Rows.ValueOnceCardSaid :=
  Claim7.holds_tied_plain_at .later [] [.data, .data, .data] true (true, "c34d290d85786d74c502a8452a522338a794309c88c3ab8fcbf9d6a88bbe40cb") true
    valueOnce_holds (fun _ h => by cases h) (by kernel_rfl) (fun _ h => by cases h) valueOnce_row_tie rfl ⟨rfl, rfl⟩ (by kernel_rfl) rfl
    (fun f fn hf hfn => by
      obtain rfl : f = 15 := Option.some.inj ((show Tryz.prog.funcNamed "sward/swardlaw01.ValueOnce" = some 15 by kernel_rfl).symm.trans hf) |>.symm
      obtain rfl : fn = Tryz.f15 := (Option.some.inj (Tryz.func15.symm.trans hfn)).symm
      exact ⟨by kernel_rfl, fun j t ht => by
        rw [Tryz.params15] at ht
        match j, ht with
        | 0, ht => obtain rfl : t = 23 := by simpa using ht.symm
                   exact (show Tryz.prog.wantsStandIn 23 = false by kernel_rfl)
        | 1, ht => obtain rfl : t = 3 := by simpa using ht.symm
                   exact (show Tryz.prog.wantsStandIn 3 = false by kernel_rfl)
        | 2, ht => obtain rfl : t = 25 := by simpa using ht.symm
                   exact (show Tryz.prog.wantsStandIn 25 = false by kernel_rfl)
        | j + 3, ht => simp at ht⟩)
    (by kernel_rfl)
end Go.Proofs.YtojkbmepcbgbhaaGreatDoor
end
