/- The tied card of the law ReprBounds is proved here: for every input that can be read as data the law answers true. Conditions: those of the given card. -/
import Derived.Test.YtodgddpkbmanoaaGreatDoorMZP
import Derived.Test.YtodgddpkbmanoaaGreatDoorMRD
import Derived.Test.YtodgddpkbmanoaaGreatDoorMRW
import Derived.Test.YtodgddpkbmanoaaGreatDoorCards
import Derived.Test.YtodgddpkbmanoaaGreatDoorTie
import Derived.SevenTiedAt
set_option linter.unusedVariables false
set_option linter.unusedSimpArgs false

section
/- Vi: layer 11: the law ReprBounds, of arguments as they are read. No conditions but those that stand with it. -/
namespace Go.Vi
open Go
theorem law4_R (a0 : YdS) (a1 : B8S) (n1 : a1.1.length < 4611686018427387904) (a2 : Int) (w2 : (Lit.int .u16 a2).wf = true) (a3 : Q4S) (H : Hp) : W 4 [.p (encYS a0), .p (encB8 a1), .p (.int .u16 a2), .p (encQ4 a3)] H = some (.ret (.p (.bool true)), H) :=
  law4_W a0.1 a0.2 a1.1 a1.2 n1 a2 (w16 w2) _ _ _ _ a3.2 H
end Go.Vi
end

section
/- The law ReprBounds: for every input that can be read as data it answers true, and leaves its input as it was. Conditions: those of the given row. -/
namespace Go.Proofs.YtodgddpkbmanoaaGreatDoor.reprBounds
open Go Go.Vi Go.ChangeShapes Go.WideShapes Go.ChangeAt Go.RowKit
open Go.ChangeMaps (open_string shut_string)
set_option linter.unusedVariables false
set_option maxRecDepth 100000
theorem lifted (os : Os) (started : os.Started) (H : Type) (en : TypeId × Value → H) :
    ReturnsInHanded {} Tryz.checked os 4 .any (fun w args => (Rows.reprBoundsSpec.pre en Tryz.prog Tryz.f4 [] false w args ∧ laidMetH Tryz.prog laid5 w) ∧ sizedMet en Tryz.prog Tryz.f4 (OpenSpec.ofChange Rows.reprBoundsSpec) false w args)
      (Rows.reprBoundsSpec.post en Tryz.prog Tryz.f4 false true false false) := by
  refine returnsInHanded_of_change_and (C := Tryz.checked) (X := fun w _ => laidMetH Tryz.prog laid5 w) (fun _ _ _ hh h => h.of_heap hh) ownK started (by kernel_rfl) Tryz.func4
    (ChangeSpec.witness_shaped (enc := en) (C := Tryz.checked) (os := os) (X := fun w _ => laidMetH Tryz.prog laid5 w) false (World.doorLaid Tryz.prog 400 os) #[.agg #[.int .u8 0, .int .u16 0, .int .u16 0, .int .u16 0, .int .u16 0, .int .u8 0, .int .u8 0, .int .u8 0, .int .u8 0, .slice none 0 0, .int .u8 0, .int .u8 0, .int .u8 0, .int .u8 0, .int .u8 0], .slice none 0 0, .int .u16 0, .agg #[.int .u8 0, .int .u8 0, .int .u8 0, .int .u8 0]] 8 rfl (World.shaped_of_RefB (by kernel_rfl) (by kernel_rfl)) (by kernel_rfl) (by kernel_rfl) (by kernel_rfl) (door_met os _)) ?_
  intro W base args ds gs before hval0 hW hcnd hsz0 hLaid _
  have hsz : (DataW.weightsEach Tryz.prog (Tryz.f4.params.toList ++ Rows.reprBoundsSpec.plain.varTypes Tryz.prog) (ds ++ gs)).all (· ≤ reachBytes) = true := hsz0
  have hval : ∀ (j : Nat) t v, Tryz.f4.params[j]? = some t → args[j]? = some v → Value.okWide Tryz.prog W .any base t v := hval0
  have hW' := hW
  obtain ⟨p, q, hA0, hV, rfl, hfz, hnd⟩ := hW
  have hA : DataW.TrodAll en Tryz.prog W 0 (fun _ => true) true Tryz.f4.params.toList args.toList ds p := hA0
  rw [Tryz.params4] at hA hval hsz
  obtain ⟨v0, vs0, d0, ds0, p0, q0, hargs, rfl, rfl, h0, r0⟩ := trodAll_cons hA
  obtain ⟨v1, vs1, d1, ds1, p1, q1, rfl, rfl, rfl, h1, r1⟩ := trodAll_cons r0
  obtain ⟨v2, vs2, d2, ds2, p2, q2, rfl, rfl, rfl, h2, r2⟩ := trodAll_cons r1
  obtain ⟨v3, vs3, d3, ds3, p3, q3, rfl, rfl, rfl, h3, r3⟩ := trodAll_cons r2
  obtain ⟨rfl, rfl, rfl⟩ := trodAll_nil r3
  obtain rfl : args = #[v0, v1, v2, v3] := by cases args; simp_all
  obtain ⟨rfl, rfl⟩ := trodVars_none hV
  have k0 := h0
  have lt0 : ∀ x ∈ p0, x.block < W.heap.size := by obtain ⟨m, hm⟩ := k0; exact DataW.trod_lt m _ _ _ hm
  obtain ⟨a0, e0⟩ := arg_yard (hval 0 46 v0 rfl rfl) h0
  have k1 := h1
  have lt1 : ∀ x ∈ p1, x.block < W.heap.size := by obtain ⟨m, hm⟩ := k1; exact DataW.trod_lt m _ _ _ hm
  obtain ⟨a1, n1, e1⟩ := arg_b8 (hval 1 47 v1 rfl rfl) h1 (j := 1) rfl rfl hsz
  obtain ⟨a2, rfl, rfl, rfl, w2⟩ := open_int Tryz.underlying39 (hval 2 39 v2 rfl rfl) h2
  have e2 : RepD W (G0 W) [] (.p (.int .u16 a2)) (.int .u16 a2) := .p _ _ (.int _ _)
  have k3 := h3
  have lt3 : ∀ x ∈ p3, x.block < W.heap.size := by obtain ⟨m, hm⟩ := k3; exact DataW.trod_lt m _ _ _ hm
  obtain ⟨a3, e3⟩ := arg_q4 (hval 3 41 v3 rfl rfl) h3
  clear hA0 hval0 hsz0 hsz
  have hcall := law_calls (f := 4) (by decide) (ht := tab0 hLaid) (args := [.p (Vi.encYS a0), .p (Vi.encB8 a1), .p (.int .u16 a2), .p (Vi.encQ4 a3)]) (vs := [v0, v1, .int .u16 a2, v3]) (W0 := W) (fun H => law4_R a0 a1 n1 a2 w2 a3 H) rfl (fun j d v hd hv => by
    match j, hd, hv with
    | 0, hd, hv => simp at hd hv; subst hd; subst hv; exact e0
    | 1, hd, hv => simp at hd hv; subst hd; subst hv; exact e1
    | 2, hd, hv => simp at hd hv; subst hd; subst hv; exact e2
    | 3, hd, hv => simp at hd hv; subst hd; subst hv; exact e3
    | j + 4, hd, hv => simp at hd)
  refine hcall.mono fun e W' ⟨he, bel⟩ => ?_
  subst he
  exact ⟨_, rfl, _, _, _, [], _, [], hW', trodAll_mk1 (shut_bool Tryz.underlying4 _), (trodAll_cons_mk (Below.trod laidO (by kernel_rfl) (of_decide_eq_true (by kernel_rfl)) k0 bel lt0) (trodAll_cons_mk (Below.trod laidO (by kernel_rfl) (of_decide_eq_true (by kernel_rfl)) k1 bel lt1) (trodAll_cons_mk (shut_int Tryz.underlying39 w2) (trodAll_cons_mk (Below.trod laidO (by kernel_rfl) (of_decide_eq_true (by kernel_rfl)) k3 bel lt3) trodAll_mk0)))), rfl, bel.frame _, fun h => by cases h⟩
theorem over : Rows.reprBoundsRow.holds Tryz.pinned (OpenSpec.ofChange Rows.reprBoundsSpec) :=
  OpenClaim.holds_of_wide 4 Tryz.f4 rfl rfl rfl rfl rfl rfl rfl ⟨rfl, rfl, rfl, rfl, rfl⟩ rfl rfl rfl rfl rfl (by kernel_rfl) Tryz.func4 (by kernel_rfl)
    (of_decide_eq_true (by kernel_rfl)) (by unfold Func.isWrapper; first | (rw [if_pos (by decide +kernel)]; kernel_rfl) | (rw [if_neg (by decide +kernel)]; exact ⟨rfl, rfl⟩))
    (fun os started H enc _ => lifted os started H enc)
end Go.Proofs.YtodgddpkbmanoaaGreatDoor.reprBounds
namespace Go.Proofs.YtodgddpkbmanoaaGreatDoor
/-- The row, under a short name. -/
theorem reprBounds_holds : Rows.ReprBoundsSaid := reprBounds.over
end Go.Proofs.YtodgddpkbmanoaaGreatDoor
end

section
/- The tied card of the law ReprBounds: for every input that can be read as data the law answers true; the tables that it may read are tied to the program's text. Conditions: those of the given card. -/
namespace Go.Proofs.YtodgddpkbmanoaaGreatDoor
open Go
/-- The statement ReprBoundsCardSaid. -/
theorem reprBounds_card : Rows.ReprBoundsCardSaid :=
  Claim7.holds_tied_plain_at .later [] [.data, .data, .data, .listed, .data] true (true, "50f10f2299f9fe1b7bfea6cdba47d036a08b7c3402c48f88c9c787ab497cb52f") true
    reprBounds_holds (fun _ h => by cases h) (by kernel_rfl) (fun _ h => by cases h) reprBounds_row_tie rfl ⟨rfl, rfl⟩ (by kernel_rfl) rfl
    (fun f fn hf hfn => by
      obtain rfl : f = 4 := Option.some.inj ((show Tryz.prog.funcNamed "sward/swardlaw11.ReprBounds" = some 4 by kernel_rfl).symm.trans hf) |>.symm
      obtain rfl : fn = Tryz.f4 := (Option.some.inj (Tryz.func4.symm.trans hfn)).symm
      exact ⟨by kernel_rfl, fun j t ht => by
        rw [Tryz.params4] at ht
        match j, ht with
        | 0, ht => obtain rfl : t = 46 := by simpa using ht.symm
                   exact (show Tryz.prog.wantsStandIn 46 = false by kernel_rfl)
        | 1, ht => obtain rfl : t = 47 := by simpa using ht.symm
                   exact (show Tryz.prog.wantsStandIn 47 = false by kernel_rfl)
        | 2, ht => obtain rfl : t = 39 := by simpa using ht.symm
                   exact (show Tryz.prog.wantsStandIn 39 = false by kernel_rfl)
        | 3, ht => obtain rfl : t = 41 := by simpa using ht.symm
                   exact (show Tryz.prog.wantsStandIn 41 = false by kernel_rfl)
        | j + 4, ht => simp at ht⟩)
    (by kernel_rfl)
end Go.Proofs.YtodgddpkbmanoaaGreatDoor
end
