/- The tied card of the law ReprBests is proved here: for every input that can be read as data the law answers true. Conditions: those of the given card. -/
import Derived.Test.YtglpifnmlnebbaaGreatDoorMRW
import Derived.Test.YtglpifnmlnebbaaGreatDoorMRC
import Derived.Test.YtglpifnmlnebbaaGreatDoorCards
import Derived.Test.YtglpifnmlnebbaaGreatDoorTie
import Derived.SevenTiedAt
set_option linter.unusedVariables false
set_option linter.unusedSimpArgs false

section
/- The law ReprBests: for every input that can be read as data it answers true, and leaves its input as it was. Conditions: those of the given row. -/
namespace Go.Proofs.YtglpifnmlnebbaaGreatDoor.reprBests
open Go Go.Vi Go.ChangeShapes Go.WideShapes Go.ChangeAt Go.RowKit
open Go.ChangeMaps (open_string shut_string)
set_option linter.unusedVariables false
set_option maxRecDepth 100000
theorem lifted (os : Os) (started : os.Started) (H : Type) (en : TypeId × Value → H) :
    ReturnsInHanded {} Tryz.checked os 4 .any (fun w args => (Rows.reprBestsSpec.pre en Tryz.prog Tryz.f4 [] false w args ∧ laidMetH Tryz.prog laid5 w) ∧ sizedMet en Tryz.prog Tryz.f4 (OpenSpec.ofChange Rows.reprBestsSpec) false w args)
      (Rows.reprBestsSpec.post en Tryz.prog Tryz.f4 false true false false) := by
  refine returnsInHanded_of_change_and (C := Tryz.checked) (X := fun w _ => laidMetH Tryz.prog laid5 w) (fun _ _ _ hh h => h.of_heap hh) ownK started (by kernel_rfl) Tryz.func4
    (ChangeSpec.witness_shaped (enc := en) (C := Tryz.checked) (os := os) (X := fun w _ => laidMetH Tryz.prog laid5 w) false (World.doorLaid Tryz.prog 400 os) #[.agg #[.slice none 0 0, .slice none 0 0, .slice none 0 0], .int .i64 0, .int .i64 0] 8 rfl (World.shaped_of_RefB (by kernel_rfl) (by kernel_rfl)) (by kernel_rfl) (by kernel_rfl) (by kernel_rfl) (door_met os _)) ?_
  intro W base args ds gs before hval0 hW hcnd hsz0 hLaid _
  have hsz : (DataW.weightsEach Tryz.prog (Tryz.f4.params.toList ++ Rows.reprBestsSpec.plain.varTypes Tryz.prog) (ds ++ gs)).all (· ≤ reachBytes) = true := hsz0
  have hval : ∀ (j : Nat) t v, Tryz.f4.params[j]? = some t → args[j]? = some v → Value.okWide Tryz.prog W .any base t v := hval0
  have hW' := hW
  obtain ⟨p, q, hA0, hV, rfl, hfz, hnd⟩ := hW
  have hA : DataW.TrodAll en Tryz.prog W 0 (fun _ => true) true Tryz.f4.params.toList args.toList ds p := hA0
  rw [Tryz.params4] at hA hval hsz
  obtain ⟨v0, vs0, d0, ds0, p0, q0, hargs, rfl, rfl, h0, r0⟩ := trodAll_cons hA
  obtain ⟨v1, vs1, d1, ds1, p1, q1, rfl, rfl, rfl, h1, r1⟩ := trodAll_cons r0
  obtain ⟨v2, vs2, d2, ds2, p2, q2, rfl, rfl, rfl, h2, r2⟩ := trodAll_cons r1
  obtain ⟨rfl, rfl, rfl⟩ := trodAll_nil r2
  obtain rfl : args = #[v0, v1, v2] := by cases args; simp_all
  obtain ⟨rfl, rfl⟩ := trodVars_none hV
  have k0 := h0
  have lt0 : ∀ x ∈ p0, x.block < W.heap.size := by obtain ⟨m, hm⟩ := k0; exact DataW.trod_lt m _ _ _ hm
  obtain ⟨a0, e0⟩ := arg_prob (hval 0 26 v0 rfl rfl) h0
  obtain ⟨a1, rfl, rfl, rfl, w1⟩ := open_int Tryz.underlying3 (hval 1 3 v1 rfl rfl) h1
  have e1 : RepD W (G0 W) [] (.p (.int .i64 a1)) (.int .i64 a1) := .p _ _ (.int _ _)
  obtain ⟨a2, rfl, rfl, rfl, w2⟩ := open_int Tryz.underlying35 (hval 2 35 v2 rfl rfl) h2
  have e2 : RepD W (G0 W) [] (.p (.int .i64 a2)) (.int .i64 a2) := .p _ _ (.int _ _)
  clear hA0 hval0 hsz0 hsz
  have hcall := law_calls (f := 4) (by decide) (ht := tab0 hLaid) (args := [.p (Vi.encR a0), .p (.int .i64 a1), .p (.int .i64 a2)]) (vs := [v0, .int .i64 a1, .int .i64 a2]) (W0 := W) (fun H => law4_W a0 a1 a2 H) rfl (fun j d v hd hv => by
    match j, hd, hv with
    | 0, hd, hv => simp at hd hv; subst hd; subst hv; exact e0
    | 1, hd, hv => simp at hd hv; subst hd; subst hv; exact e1
    | 2, hd, hv => simp at hd hv; subst hd; subst hv; exact e2
    | j + 3, hd, hv => simp at hd)
  refine hcall.mono fun e W' ⟨he, bel⟩ => ?_
  subst he
  exact ⟨_, rfl, _, _, _, [], _, [], hW', trodAll_mk1 (shut_bool Tryz.underlying4 _), (trodAll_cons_mk (Below.trod laidO (by kernel_rfl) (of_decide_eq_true (by kernel_rfl)) k0 bel lt0) (trodAll_cons_mk (shut_int Tryz.underlying3 w1) (trodAll_cons_mk (shut_int Tryz.underlying35 w2) trodAll_mk0))), rfl, bel.frame _, fun h => by cases h⟩
theorem over : Rows.reprBestsRow.holds Tryz.pinned (OpenSpec.ofChange Rows.reprBestsSpec) :=
  OpenClaim.holds_of_wide 4 Tryz.f4 rfl rfl rfl rfl rfl rfl rfl ⟨rfl, rfl, rfl, rfl, rfl⟩ rfl rfl rfl rfl rfl (by kernel_rfl) Tryz.func4 (by kernel_rfl)
    (of_decide_eq_true (by kernel_rfl)) (by unfold Func.isWrapper; first | (rw [if_pos (by decide +kernel)]; kernel_rfl) | (rw [if_neg (by decide +kernel)]; exact ⟨rfl, rfl⟩))
    (fun os started H enc _ => lifted os started H enc)
end Go.Proofs.YtglpifnmlnebbaaGreatDoor.reprBests
namespace Go.Proofs.YtglpifnmlnebbaaGreatDoor
/-- The row, under a short name. -/
theorem reprBests_holds : Rows.ReprBestsSaid := reprBests.over
end Go.Proofs.YtglpifnmlnebbaaGreatDoor
end

section
/- The tied card of the law ReprBests: for every input that can be read as data the law answers true; the tables that it may read are tied to the program's text. Conditions: those of the given card. -/
namespace Go.Proofs.YtglpifnmlnebbaaGreatDoor
open Go
/-- The statement ReprBestsCardSaid. -/
theorem reprBests_card : Rows.ReprBestsCardSaid :=
  Claim7.holds_tied_plain_at .later [] [.data, .data, .data, .listed, .data] true (true, "f09c92e748e3128a13db757f44f026e8ef412a9db4337d22ba23badf3936210c") true
    reprBests_holds (fun _ h => by cases h) (by kernel_rfl) (fun _ h => by cases h) reprBests_row_tie rfl ⟨rfl, rfl⟩ (by kernel_rfl) rfl
    (fun f fn hf hfn => by
      obtain rfl : f = 4 := Option.some.inj ((show Tryz.prog.funcNamed "sward/swardlaw11.ReprBests" = some 4 by kernel_rfl).symm.trans hf) |>.symm
      obtain rfl : fn = Tryz.f4 := (Option.some.inj (Tryz.func4.symm.trans hfn)).symm
      exact ⟨by kernel_rfl, fun j t ht => by
        rw [Tryz.params4] at ht
        match j, ht with
        | 0, ht => obtain rfl : t = 26 := by simpa using ht.symm
                   exact (show Tryz.prog.wantsStandIn 26 = false by kernel_rfl)
        | 1, ht => obtain rfl : t = 3 := by simpa using ht.symm
                   exact (show Tryz.prog.wantsStandIn 3 = false by kernel_rfl)
        | 2, ht => obtain rfl : t = 35 := by simpa using ht.symm
                   exact (show Tryz.prog.wantsStandIn 35 = false by kernel_rfl)
        | j + 3, ht => simp at ht⟩)
    (by kernel_rfl)
end Go.Proofs.YtglpifnmlnebbaaGreatDoor
end
