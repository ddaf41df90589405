/- The tied card of the law ReprCheapest is proved here: for every input that can be read as data the law answers true. Conditions: those of the given card. -/
import Derived.Test.YtodgddpkbmanoaaGreatDoorMVA
import Derived.Test.YtodgddpkbmanoaaGreatDoorMRD
import Derived.Test.YtodgddpkbmanoaaGreatDoorMRW
import Derived.Test.YtodgddpkbmanoaaGreatDoorCards
import Derived.Test.YtodgddpkbmanoaaGreatDoorTie
import Derived.SevenTiedAt
set_option linter.unusedVariables false
set_option linter.unusedSimpArgs false

section
/- Vi: layer 11: the law ReprCheapest, of arguments as they are read. No conditions but those that stand with it. -/
namespace Go.Vi
open Go
theorem law5_R (a0 : YdS) (H : Hp) : W 5 [.p (encYS a0)] H = some (.ret (.p (.bool true)), H) := law5_W a0.1 a0.2 H
end Go.Vi
end

section
/- The law ReprCheapest: for every input that can be read as data it answers true, and leaves its input as it was. Conditions: those of the given row. -/
namespace Go.Proofs.YtodgddpkbmanoaaGreatDoor.reprCheapest
open Go Go.Vi Go.ChangeShapes Go.WideShapes Go.ChangeAt Go.RowKit
open Go.ChangeMaps (open_string shut_string)
set_option linter.unusedVariables false
set_option maxRecDepth 100000
theorem lifted (os : Os) (started : os.Started) (H : Type) (en : TypeId × Value → H) :
    ReturnsInHanded {} Tryz.checked os 5 .any (fun w args => (Rows.reprCheapestSpec.pre en Tryz.prog Tryz.f5 [] false w args ∧ laidMetH Tryz.prog laid5 w) ∧ sizedMet en Tryz.prog Tryz.f5 (OpenSpec.ofChange Rows.reprCheapestSpec) false w args)
      (Rows.reprCheapestSpec.post en Tryz.prog Tryz.f5 false true false false) := by
  refine returnsInHanded_of_change_and (C := Tryz.checked) (X := fun w _ => laidMetH Tryz.prog laid5 w) (fun _ _ _ hh h => h.of_heap hh) ownK started (by kernel_rfl) Tryz.func5
    (ChangeSpec.witness_shaped (enc := en) (C := Tryz.checked) (os := os) (X := fun w _ => laidMetH Tryz.prog laid5 w) false (World.doorLaid Tryz.prog 400 os) #[.agg #[.int .u8 0, .int .u16 0, .int .u16 0, .int .u16 0, .int .u16 0, .int .u8 0, .int .u8 0, .int .u8 0, .int .u8 0, .slice none 0 0, .int .u8 0, .int .u8 0, .int .u8 0, .int .u8 0, .int .u8 0]] 8 rfl (World.shaped_of_RefB (by kernel_rfl) (by kernel_rfl)) (by kernel_rfl) (by kernel_rfl) (by kernel_rfl) (door_met os _)) ?_
  intro W base args ds gs before hval0 hW hcnd hsz0 hLaid _
  have hsz : (DataW.weightsEach Tryz.prog (Tryz.f5.params.toList ++ Rows.reprCheapestSpec.plain.varTypes Tryz.prog) (ds ++ gs)).all (· ≤ reachBytes) = true := hsz0
  have hval : ∀ (j : Nat) t v, Tryz.f5.params[j]? = some t → args[j]? = some v → Value.okWide Tryz.prog W .any base t v := hval0
  have hW' := hW
  obtain ⟨p, q, hA0, hV, rfl, hfz, hnd⟩ := hW
  have hA : DataW.TrodAll en Tryz.prog W 0 (fun _ => true) true Tryz.f5.params.toList args.toList ds p := hA0
  rw [Tryz.params5] at hA hval hsz
  obtain ⟨v0, vs0, d0, ds0, p0, q0, hargs, rfl, rfl, h0, r0⟩ := trodAll_cons hA
  obtain ⟨rfl, rfl, rfl⟩ := trodAll_nil r0
  obtain rfl : args = #[v0] := by cases args; simp_all
  obtain ⟨rfl, rfl⟩ := trodVars_none hV
  have k0 := h0
  have lt0 : ∀ x ∈ p0, x.block < W.heap.size := by obtain ⟨m, hm⟩ := k0; exact DataW.trod_lt m _ _ _ hm
  obtain ⟨a0, e0⟩ := arg_yard (hval 0 46 v0 rfl rfl) h0
  clear hA0 hval0 hsz0 hsz
  have hcall := law_calls (f := 5) (by decide) (ht := tab0 hLaid) (args := [.p (Vi.encYS a0)]) (vs := [v0]) (W0 := W) (fun H => law5_R a0 H) rfl (fun j d v hd hv => by
    match j, hd, hv with
    | 0, hd, hv => simp at hd hv; subst hd; subst hv; exact e0
    | j + 1, hd, hv => simp at hd)
  refine hcall.mono fun e W' ⟨he, bel⟩ => ?_
  subst he
  exact ⟨_, rfl, _, _, _, [], _, [], hW', trodAll_mk1 (shut_bool Tryz.underlying4 _), (trodAll_cons_mk (Below.trod laidO (by kernel_rfl) (of_decide_eq_true (by kernel_rfl)) k0 bel lt0) trodAll_mk0), rfl, bel.frame _, fun h => by cases h⟩
theorem over : Rows.reprCheapestRow.holds Tryz.pinned (OpenSpec.ofChange Rows.reprCheapestSpec) :=
  OpenClaim.holds_of_wide 5 Tryz.f5 rfl rfl rfl rfl rfl rfl rfl ⟨rfl, rfl, rfl, rfl, rfl⟩ rfl rfl rfl rfl rfl (by kernel_rfl) Tryz.func5 (by kernel_rfl)
    (of_decide_eq_true (by kernel_rfl)) (by unfold Func.isWrapper; first | (rw [if_pos (by decide +kernel)]; kernel_rfl) | (rw [if_neg (by decide +kernel)]; exact ⟨rfl, rfl⟩))
    (fun os started H enc _ => lifted os started H enc)
end Go.Proofs.YtodgddpkbmanoaaGreatDoor.reprCheapest
namespace Go.Proofs.YtodgddpkbmanoaaGreatDoor
/-- The row, under a short name. -/
theorem reprCheapest_holds : Rows.ReprCheapestSaid := reprCheapest.over
end Go.Proofs.YtodgddpkbmanoaaGreatDoor
end

section
/- The tied card of the law ReprCheapest: for every input that can be read as data the law answers true; the tables that it may read are tied to the program's text. Conditions: those of the given card. -/
namespace Go.Proofs.YtodgddpkbmanoaaGreatDoor
open Go
/-- The statement ReprCheapestCardSaid. -/
theorem reprCheapest_card : Rows.ReprCheapestCardSaid :=
  Claim7.holds_tied_plain_at .later [] [.data, .data, .data, .listed, .data] true (true, "50f10f2299f9fe1b7bfea6cdba47d036a08b7c3402c48f88c9c787ab497cb52f") true
    reprCheapest_holds (fun _ h => by cases h) (by kernel_rfl) (fun _ h => by cases h) reprCheapest_row_tie rfl ⟨rfl, rfl⟩ (by kernel_rfl) rfl
    (fun f fn hf hfn => by
      obtain rfl : f = 5 := Option.some.inj ((show Tryz.prog.funcNamed "sward/swardlaw11.ReprCheapest" = some 5 by kernel_rfl).symm.trans hf) |>.symm
      obtain rfl : fn = Tryz.f5 := (Option.some.inj (Tryz.func5.symm.trans hfn)).symm
      exact ⟨by kernel_rfl, fun j t ht => by
        rw [Tryz.params5] at ht
        match j, ht with
        | 0, ht => obtain rfl : t = 46 := by simpa using ht.symm
                   exact (show Tryz.prog.wantsStandIn 46 = false by kernel_rfl)
        | j + 1, ht => simp at ht⟩)
    (by kernel_rfl)
end Go.Proofs.YtodgddpkbmanoaaGreatDoor
end
