/- The tied card of the law ValuePaths is proved here: for every input that can be read as data the law answers true. Conditions: those of the given card. -/
import Derived.Test.YtapnoihkfocgkaaGreatDoorMU
import Derived.Test.YtapnoihkfocgkaaGreatDoorMH
import Derived.Test.YtapnoihkfocgkaaGreatDoorRows
import Derived.Test.YtapnoihkfocgkaaGreatDoorMR
import Derived.LaidMore
import Derived.Stop.Joined
import Derived.Test.YtapnoihkfocgkaaGreatDoorCards
import Derived.Test.YtapnoihkfocgkaaGreatDoorTie
import Derived.SevenTiedAt
set_option linter.unusedVariables false
set_option linter.unusedSimpArgs false

section
/- Vi: the law ValuePaths (f3): true. No conditions. -/
namespace Go.Vi
open Go Go.Lib Go.Proofs
set_option maxRecDepth 100000
attribute [local simp] E_skip E_ret E_exit E_text E_draw E_seq E_cond E_block E_scope E_loop runOps runOp runDraw runVF runV finV gate FlOK wantD exec fin opd look putF norm constD constC fieldAddrD loadD storeD opCall lenD binD isShift intP strP numD indexAddrD indexD D.pd? D.pds? cells_enc sub capsOf callD argsD argD D.nf enc_agg unP box_enc cellD mkF H00 st1 cD_agg cD_pagg cD_int cD_bool cD_str cD_sl cD_lit

theorem encI_len (p : List Int) : (encI p).length = p.length := by simp [encI]

theorem law3_W (v : Val) (p : List Int) (hp : p.length < 9223372036854775807) (H : Hp) : W 3 [.p (enc v), .p (.sl (encI p))] H = some (.ret (.p (.bool true)), H) := by
  refine W3_of rfl (by simp) ?_
  have hk := fun H => known_W H
  have h15 := fun H => small_W v H
  suffices key : ∃ B, E false ⟨0, 0⟩ 3 code3 (mkF 0 [.p (enc v), .p (.sl (encI p))]) H00 = some (.ret, [(4, .p (.bool true))], ⟨B, []⟩) by
    obtain ⟨B, key⟩ := key
    rw [key]
    simp [fnOut, retOut, resD, retsD, retD, oneD, D.noRefs, D.noRef, alone, Hp.cut]
  cases hs : v.small with
  | false =>
    rw [hs] at h15
    exact ⟨_, by simp [code3, Tryz.f3, h15, hk]; rfl⟩
  | true =>
    rw [hs] at h15
    by_cases hl : 12 < p.length
    · have hl' : (12 : Int) < p.length := by omega
      exact ⟨_, by simp [code3, Tryz.f3, h15, hk, encI_len, hl']; rfl⟩
    have hl' : ¬ (12 : Int) < p.length := by omega
    obtain ⟨hf, hb⟩ := small_fine hs
    have h17 := fun H => at17_W v p hp H
    have h18 := fun H => at18_W v p hf hp H
    have h19 := fun H => valid_W v hf hb H
    have h20 := fun H => none_W Val.zero zero_fine H
    rw [none_zero] at h20
    cases hv : v.valid with
    | false =>
      rw [hv] at h19
      simp only [At17, hv, Bool.false_eq_true, if_false] at h17
      cases ha : atV v p with
      | none =>
        simp only [ha] at h18
        exact ⟨_, by simp [code3, Tryz.f3, h15, hk, hl', encI_len, h17, h18, h19, h20, z25', splice]; rfl⟩
      | some u =>
        simp only [ha] at h18
        exact ⟨_, by simp [code3, Tryz.f3, h15, hk, hl', encI_len, h17, h18, h19, h20, z25', splice]; rfl⟩
    | true =>
      rw [hv] at h19
      simp only [At17, hv, if_true] at h17
      cases ha : atV v p with
      | none =>
        simp only [ha] at h17 h18
        exact ⟨_, by simp [code3, Tryz.f3, h15, hk, hl', encI_len, h17, h18, h19, h20, z25', splice]; rfl⟩
      | some u =>
        simp only [ha] at h17 h18
        obtain ⟨huv, hdep⟩ := atV_valid p v u hv ha
        have h21 := fun H => size21_W u H
        simp only [Size21, huv, if_true] at h21
        obtain ⟨huf, hun⟩ := valid_fine huv
        have h22 := fun H => equal_W u huf u H
        rw [eqb_self] at h22
        have h23 := fun H => nodes_W u (by omega) H
        have hvn := (valid_fine hv).2
        have h24 := fun H => depth_W v (by omega) H
        have hdn := depth_nodes v
        have hw : IntKind.i64.wrap (v.depth - (p.length : Int)) = v.depth - p.length := wrap64 (by omega) (by omega)
        have hle : u.depth ≤ v.depth - (p.length : Int) := by omega
        exact ⟨_, by simp [code3, Tryz.f3, h15, hk, hl', encI_len, h17, h18, h19, h20, h21, h22, h23, h24, hw, hle, z25', splice]; rfl⟩
end Go.Vi
end

section
/- The law ValuePaths: for every input that can be read as data it answers true, and leaves its input as it was. Conditions: those of the given row. -/
namespace Go.Proofs.YtapnoihkfocgkaaGreatDoor.valuePaths
open Go Go.Vi Go.ChangeShapes Go.WideShapes Go.ChangeAt Go.RowKit
open Go.ChangeMaps (open_string shut_string)
set_option linter.unusedVariables false
set_option maxRecDepth 100000
theorem own : ownKnob Tryz.prog.godebug = none := by kernel_rfl
theorem laidOut : laidOutB Tryz.prog = true := by kernel_rfl
def laid3 {H : Type} : List (String × DataW H) := [("math/bits.deBruijn32tab", Rows.laid_math_bits_deBruijn32tab), ("math/bits.deBruijn64tab", Rows.laid_math_bits_deBruijn64tab), ("internal/strconv.uint64pow10", Rows.laid_internal_strconv_uint64pow10)]
theorem door_met (os : Os) (args : Array Value) : laidMetH Tryz.prog laid3 ((World.doorLaid Tryz.prog 400 os).forCall (fun _ _ => 0) ⟨#[], args, []⟩).memory :=
  laidMetH_of_parts3 (fuel := 8) (laidMet_of_run' 8 (by kernel_rfl) (by kernel_rfl)) (by kernel_rfl) (by kernel_rfl)
theorem lifted (os : Os) (started : os.Started) (H : Type) (en : TypeId × Value → H) :
    ReturnsInHanded {} Tryz.checked os 3 .any (fun w args => (Rows.valuePathsSpec.pre en Tryz.prog Tryz.f3 [] false w args ∧ laidMetH Tryz.prog laid3 w) ∧ sizedMet en Tryz.prog Tryz.f3 (OpenSpec.ofChange Rows.valuePathsSpec) false w args)
      (Rows.valuePathsSpec.post en Tryz.prog Tryz.f3 false true false false) := by
  refine returnsInHanded_of_change_and (C := Tryz.checked) (X := fun w _ => laidMetH Tryz.prog laid3 w) (fun _ _ _ hh h => h.of_heap hh) own started (by kernel_rfl) Tryz.func3
    (ChangeSpec.witness_shaped (enc := en) (C := Tryz.checked) (os := os) (X := fun w _ => laidMetH Tryz.prog laid3 w) false (World.doorLaid Tryz.prog 400 os) #[.agg #[.int .i64 0, .int .i64 0, .string ByteArray.empty, .slice none 0 0], .slice none 0 0] 8 rfl (World.shaped_of_RefB (by kernel_rfl) (by kernel_rfl)) (by kernel_rfl) (by kernel_rfl) (by kernel_rfl) (door_met os _)) ?_
  intro W base args ds gs before hval0 hW hcnd hsz0 hLaid _
  have hsz : (DataW.weightsEach Tryz.prog (Tryz.f3.params.toList ++ Rows.valuePathsSpec.plain.varTypes Tryz.prog) (ds ++ gs)).all (· ≤ reachBytes) = true := hsz0
  have hval : ∀ (j : Nat) t v, Tryz.f3.params[j]? = some t → args[j]? = some v → Value.okWide Tryz.prog W .any base t v := hval0
  have hW' := hW
  obtain ⟨p, q, hA0, hV, rfl, hfz, hnd⟩ := hW
  have hA : DataW.TrodAll en Tryz.prog W 0 (fun _ => true) true Tryz.f3.params.toList args.toList ds p := hA0
  rw [Tryz.params3] at hA hval hsz
  obtain ⟨v0, vs0, d0, ds0, p0, q0, hargs, rfl, rfl, h0, r0⟩ := trodAll_cons hA
  obtain ⟨v1, vs1, d1, ds1, p1, q1, rfl, rfl, rfl, h1, r1⟩ := trodAll_cons r0
  obtain ⟨rfl, rfl, rfl⟩ := trodAll_nil r1
  obtain rfl : args = #[v0, v1] := by cases args; simp_all
  obtain ⟨rfl, rfl⟩ := trodVars_none hV
  have k0 := h0
  have lt0 : ∀ x ∈ p0, x.block < W.heap.size := by obtain ⟨m, hm⟩ := k0; exact DataW.trod_lt m _ _ _ hm
  obtain ⟨a0, e0⟩ := arg_val (hval 0 25 v0 rfl rfl) h0
  have k1 := h1
  have lt1 : ∀ x ∈ p1, x.block < W.heap.size := by obtain ⟨m, hm⟩ := k1; exact DataW.trod_lt m _ _ _ hm
  obtain ⟨a1, n1, e1⟩ := arg_ints (hval 1 26 v1 rfl rfl) h1 (j := 1) rfl rfl hsz
  clear hA0 hval0 hsz0 hsz
  have hcall := law_calls (f := 3) (by decide) (args := [.p (Vi.enc a0), .p (.sl (Vi.encI a1))]) (vs := [v0, v1]) (W0 := W) (fun H => law3_W a0 a1 n1 H) rfl (fun j d v hd hv => by
    match j, hd, hv with
    | 0, hd, hv => simp at hd hv; subst hd; subst hv; exact e0
    | 1, hd, hv => simp at hd hv; subst hd; subst hv; exact e1
    | j + 2, hd, hv => simp at hd)
  refine hcall.mono fun e W' ⟨he, bel⟩ => ?_
  subst he
  exact ⟨_, rfl, _, _, _, [], _, [], hW', trodAll_mk1 (shut_bool Tryz.underlying4 _), (trodAll_cons_mk (Below.trod laidOut (by kernel_rfl) (of_decide_eq_true (by kernel_rfl)) k0 bel lt0) (trodAll_cons_mk (Below.trod laidOut (by kernel_rfl) (of_decide_eq_true (by kernel_rfl)) k1 bel lt1) trodAll_mk0)), rfl, bel.frame _, fun h => by cases h⟩
theorem over : Rows.valuePathsRow.holds Tryz.pinned (OpenSpec.ofChange Rows.valuePathsSpec) :=
  OpenClaim.holds_of_wide 3 Tryz.f3 rfl rfl rfl rfl rfl rfl rfl ⟨rfl, rfl, rfl, rfl, rfl⟩ rfl rfl rfl rfl rfl (by kernel_rfl) Tryz.func3 (by kernel_rfl)
    (of_decide_eq_true (by kernel_rfl)) (by unfold Func.isWrapper; first | (rw [if_pos (by decide +kernel)]; kernel_rfl) | (rw [if_neg (by decide +kernel)]; exact ⟨rfl, rfl⟩))
    (fun os started H enc _ => lifted os started H enc)
end Go.Proofs.YtapnoihkfocgkaaGreatDoor.valuePaths
namespace Go.Proofs.YtapnoihkfocgkaaGreatDoor
/-- The row, under a short name. -/
theorem valuePaths_holds : Rows.ValuePathsSaid := valuePaths.over
end Go.Proofs.YtapnoihkfocgkaaGreatDoor
end

section
/- The tied card of the law ValuePaths: for every input that can be read as data the law answers true; the tables that it may read are tied to the program's text. Conditions: those of the given card. -/
namespace Go.Proofs.YtapnoihkfocgkaaGreatDoor
open Go
/-- The statement ValuePathsCardSaid. -/
theorem valuePaths_card : Rows.ValuePathsCardSaid :=
  Claim7.holds_tied_plain_at .later [] [.data, .data, .data] true (true, "40e3612fb510151cbad10d424c39044593b08eb4cc5b801a7b153c3d77e88363") true
    valuePaths_holds (fun _ h => by cases h) (by kernel_rfl) (fun _ h => by cases h) valuePaths_row_tie rfl ⟨rfl, rfl⟩ (by kernel_rfl) rfl
    (fun f fn hf hfn => by
      obtain rfl : f = 3 := Option.some.inj ((show Tryz.prog.funcNamed "sward/swardlaw01.ValuePaths" = some 3 by kernel_rfl).symm.trans hf) |>.symm
      obtain rfl : fn = Tryz.f3 := (Option.some.inj (Tryz.func3.symm.trans hfn)).symm
      exact ⟨by kernel_rfl, fun j t ht => by
        rw [Tryz.params3] at ht
        match j, ht with
        | 0, ht => obtain rfl : t = 25 := by simpa using ht.symm
                   exact (show Tryz.prog.wantsStandIn 25 = false by kernel_rfl)
        | 1, ht => obtain rfl : t = 26 := by simpa using ht.symm
                   exact (show Tryz.prog.wantsStandIn 26 = false by kernel_rfl)
        | j + 2, ht => simp at ht⟩)
    (by kernel_rfl)
end Go.Proofs.YtapnoihkfocgkaaGreatDoor
end
