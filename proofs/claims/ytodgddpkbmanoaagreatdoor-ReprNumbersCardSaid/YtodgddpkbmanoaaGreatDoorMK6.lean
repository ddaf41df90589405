/- The tied card of the law ReprNumbers is proved here: for every input that can be read as data the law answers true. Conditions: those of the given card. -/
import Derived.Test.YtodgddpkbmanoaaGreatDoorMXA
import Derived.Test.YtodgddpkbmanoaaGreatDoorMRD
import Derived.Test.YtodgddpkbmanoaaGreatDoorMRW
import Derived.Test.YtodgddpkbmanoaaGreatDoorCards
import Derived.Test.YtodgddpkbmanoaaGreatDoorTie
import Derived.SevenTiedAt
set_option linter.unusedVariables false
set_option linter.unusedSimpArgs false

section
/- Vi: layer 11: the law ReprNumbers, of arguments as they are read. No conditions but those that stand with it. -/
namespace Go.Vi
open Go
theorem law6_R (a0 : YdS) (a1 : Q4S) (H : Hp) : W 6 [.p (encYS a0), .p (encQ4 a1)] H = some (.ret (.p (.bool true)), H) :=
  law6_W a0.1 a0.2 (fun i => match i with | 0 => a1.1.1 | 1 => a1.1.2.1 | 2 => a1.1.2.2.1 | _ => a1.1.2.2.2) (fun i => by
    obtain ⟨h0, h1, h2, h3⟩ := a1.2
    match i with
    | 0 => exact h0
    | 1 => exact h1
    | 2 => exact h2
    | _ + 3 => exact h3) H
end Go.Vi
end

section
/- The law ReprNumbers: for every input that can be read as data it answers true, and leaves its input as it was. Conditions: those of the given row. -/
namespace Go.Proofs.YtodgddpkbmanoaaGreatDoor.reprNumbers
open Go Go.Vi Go.ChangeShapes Go.WideShapes Go.ChangeAt Go.RowKit
open Go.ChangeMaps (open_string shut_string)
set_option linter.unusedVariables false
set_option maxRecDepth 100000
theorem lifted (os : Os) (started : os.Started) (H : Type) (en : TypeId × Value → H) :
    ReturnsInHanded {} Tryz.checked os 6 .any (fun w args => (Rows.reprNumbersSpec.pre en Tryz.prog Tryz.f6 [] false w args ∧ laidMetH Tryz.prog laid5 w) ∧ sizedMet en Tryz.prog Tryz.f6 (OpenSpec.ofChange Rows.reprNumbersSpec) false w args)
      (Rows.reprNumbersSpec.post en Tryz.prog Tryz.f6 false true false false) := by
  refine returnsInHanded_of_change_and (C := Tryz.checked) (X := fun w _ => laidMetH Tryz.prog laid5 w) (fun _ _ _ hh h => h.of_heap hh) ownK started (by kernel_rfl) Tryz.func6
    (ChangeSpec.witness_shaped (enc := en) (C := Tryz.checked) (os := os) (X := fun w _ => laidMetH Tryz.prog laid5 w) false (World.doorLaid Tryz.prog 400 os) #[.agg #[.int .u8 0, .int .u16 0, .int .u16 0, .int .u16 0, .int .u16 0, .int .u8 0, .int .u8 0, .int .u8 0, .int .u8 0, .slice none 0 0, .int .u8 0, .int .u8 0, .int .u8 0, .int .u8 0, .int .u8 0], .agg #[.int .u8 0, .int .u8 0, .int .u8 0, .int .u8 0]] 8 rfl (World.shaped_of_RefB (by kernel_rfl) (by kernel_rfl)) (by kernel_rfl) (by kernel_rfl) (by kernel_rfl) (door_met os _)) ?_
  intro W base args ds gs before hval0 hW hcnd hsz0 hLaid _
  have hsz : (DataW.weightsEach Tryz.prog (Tryz.f6.params.toList ++ Rows.reprNumbersSpec.plain.varTypes Tryz.prog) (ds ++ gs)).all (· ≤ reachBytes) = true := hsz0
  have hval : ∀ (j : Nat) t v, Tryz.f6.params[j]? = some t → args[j]? = some v → Value.okWide Tryz.prog W .any base t v := hval0
  have hW' := hW
  obtain ⟨p, q, hA0, hV, rfl, hfz, hnd⟩ := hW
  have hA : DataW.TrodAll en Tryz.prog W 0 (fun _ => true) true Tryz.f6.params.toList args.toList ds p := hA0
  rw [Tryz.params6] at hA hval hsz
  obtain ⟨v0, vs0, d0, ds0, p0, q0, hargs, rfl, rfl, h0, r0⟩ := trodAll_cons hA
  obtain ⟨v1, vs1, d1, ds1, p1, q1, rfl, rfl, rfl, h1, r1⟩ := trodAll_cons r0
  obtain ⟨rfl, rfl, rfl⟩ := trodAll_nil r1
  obtain rfl : args = #[v0, v1] := by cases args; simp_all
  obtain ⟨rfl, rfl⟩ := trodVars_none hV
  have k0 := h0
  have lt0 : ∀ x ∈ p0, x.block < W.heap.size := by obtain ⟨m, hm⟩ := k0; exact DataW.trod_lt m _ _ _ hm
  obtain ⟨a0, e0⟩ := arg_yard (hval 0 46 v0 rfl rfl) h0
  have k1 := h1
  have lt1 : ∀ x ∈ p1, x.block < W.heap.size := by obtain ⟨m, hm⟩ := k1; exact DataW.trod_lt m _ _ _ hm
  obtain ⟨a1, e1⟩ := arg_q4 (hval 1 41 v1 rfl rfl) h1
  clear hA0 hval0 hsz0 hsz
  have hcall := law_calls (f := 6) (by decide) (ht := tab0 hLaid) (args := [.p (Vi.encYS a0), .p (Vi.encQ4 a1)]) (vs := [v0, v1]) (W0 := W) (fun H => law6_R a0 a1 H) rfl (fun j d v hd hv => by
    match j, hd, hv with
    | 0, hd, hv => simp at hd hv; subst hd; subst hv; exact e0
    | 1, hd, hv => simp at hd hv; subst hd; subst hv; exact e1
    | j + 2, hd, hv => simp at hd)
  refine hcall.mono fun e W' ⟨he, bel⟩ => ?_
  subst he
  exact ⟨_, rfl, _, _, _, [], _, [], hW', trodAll_mk1 (shut_bool Tryz.underlying4 _), (trodAll_cons_mk (Below.trod laidO (by kernel_rfl) (of_decide_eq_true (by kernel_rfl)) k0 bel lt0) (trodAll_cons_mk (Below.trod laidO (by kernel_rfl) (of_decide_eq_true (by kernel_rfl)) k1 bel lt1) trodAll_mk0)), rfl, bel.frame _, fun h => by cases h⟩
theorem over : Rows.reprNumbersRow.holds Tryz.pinned (OpenSpec.ofChange Rows.reprNumbersSpec) :=
  OpenClaim.holds_of_wide 6 Tryz.f6 rfl rfl rfl rfl rfl rfl rfl ⟨rfl, rfl, rfl, rfl, rfl⟩ rfl rfl rfl rfl rfl (by kernel_rfl) Tryz.func6 (by kernel_rfl)
    (of_decide_eq_true (by kernel_rfl)) (by unfold Func.isWrapper; first | (rw [if_pos (by decide +kernel)]; kernel_rfl) | (rw [if_neg (by decide +kernel)]; exact ⟨rfl, rfl⟩))
    (fun os started H enc _ => lifted os started H enc)
end Go.Proofs.YtodgddpkbmanoaaGreatDoor.reprNumbers
namespace Go.Proofs.YtodgddpkbmanoaaGreatDoor
/-- The row, under a short name. -/
theorem reprNumbers_holds : Rows.ReprNumbersSaid := reprNumbers.over
end Go.Proofs.YtodgddpkbmanoaaGreatDoor
end

section
/- The tied card of the law ReprNumbers: for every input that can be read as data the law answers true; the tables that it may read are tied to the program's text. Conditions: those of the given card. -/
namespace Go.Proofs.YtodgddpkbmanoaaGreatDoor
open Go
/-- The statement ReprNumbersCardSaid. -/
theorem reprNumbers_card : Rows.ReprNumbersCardSaid :=
  Claim7.holds_tied_plain_at .later [] [.data, .data, .data, .listed, .data] true (true, "50f10f2299f9fe1b7bfea6cdba47d036a08b7c3402c48f88c9c787ab497cb52f") true
    reprNumbers_holds (fun _ h => by cases h) (by kernel_rfl) (fun _ h => by cases h) reprNumbers_row_tie rfl ⟨rfl, rfl⟩ (by kernel_rfl) rfl
    (fun f fn hf hfn => by
      obtain rfl : f = 6 := Option.some.inj ((show Tryz.prog.funcNamed "sward/swardlaw11.ReprNumbers" = some 6 by kernel_rfl).symm.trans hf) |>.symm
      obtain rfl : fn = Tryz.f6 := (Option.some.inj (Tryz.func6.symm.trans hfn)).symm
      exact ⟨by kernel_rfl, fun j t ht => by
        rw [Tryz.params6] at ht
        match j, ht with
        | 0, ht => obtain rfl : t = 46 := by simpa using ht.symm
                   exact (show Tryz.prog.wantsStandIn 46 = false by kernel_rfl)
        | 1, ht => obtain rfl : t = 41 := by simpa using ht.symm
                   exact (show Tryz.prog.wantsStandIn 41 = false by kernel_rfl)
        | j + 2, ht => simp at ht⟩)
    (by kernel_rfl)
end Go.Proofs.YtodgddpkbmanoaaGreatDoor
end
