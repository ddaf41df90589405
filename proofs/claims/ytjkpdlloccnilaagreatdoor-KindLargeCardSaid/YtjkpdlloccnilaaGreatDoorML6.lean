/- The tied card of the law KindLarge is proved here: for every input that can be read as data the law answers true. Conditions: those of the given card. -/
import Derived.Test.YtjkpdlloccnilaaGreatDoorMNH
import Derived.Test.YtjkpdlloccnilaaGreatDoorMFB
import Derived.Test.YtjkpdlloccnilaaGreatDoorMRW
import Derived.Test.YtjkpdlloccnilaaGreatDoorCards
import Derived.Test.YtjkpdlloccnilaaGreatDoorTie
import Derived.SevenTiedAt
set_option linter.unusedVariables false
set_option linter.unusedSimpArgs false

section
/- the law KindLarge (f6): true. No conditions but those that stand with each. -/
namespace Go.Vi
open Go Go.Lib Go.Proofs
set_option maxRecDepth 100000
attribute [local simp] E_skip E_ret E_exit E_text E_draw E_seq E_cond E_block E_scope E_loop runOps runOp drawR slotsOf Hp.kept_zero runDraw runVF runX runV finV gate FlOK FlOK0 wantD exec fin opd look putF norm constD constC fieldAddrD loadD storeD opCall lenD binD isShift intP strP numD indexAddrD indexD D.pd? D.pds? sub capsOf callD argsD argD D.nf unP cellD mkF H00 cD_agg cD_pagg cD_int cD_bool cD_str cD_sl cD_lit cells_int
attribute [local simp] fnOut retOut resD retsD retD oneD D.noRefs D.noRef alone Hp.cut
attribute [local simp] cells_encK encK_agg box_encK cells_enc enc_agg box_enc one_int one_str one_sl one_agg cD_own cD_ptr
attribute [local simp] newRow Hp.live one_encK one_enc splice
theorem least_within {k l : Kd} {v : Val} (hk : k.shaped = true) (hl : l.shaped = true) (h : LeastOf v l) : l.within k = k.has v := by
  obtain ⟨_, h1, h2⟩ := h
  cases hh : k.has v with
  | true => exact h2 k hk hh
  | false =>
    cases hw : l.within k with
    | false => rfl
    | true =>
      have := has_within v hl hk h1 hw
      rw [hh] at this
      cases this
set_option maxHeartbeats 8000000 in
theorem law6_W (k : Kd) (v : Val) (H : Hp) : W 6 [.p (encK k), .p (enc v)] H = some (.ret (.p (.bool true)), H) := by
  refine W6_of rfl (by simp) ?_
  have hk := fun H => known_W H
  have k12 := fun H => small12_W k H
  have v13 := fun H => small_W v H
  cases sk : k.small with
  | false => rw [sk] at k12; simp [code6, Tryz.f6, k12, hk]
  | true =>
  rw [sk] at k12
  cases sv : v.small with
  | false => rw [sv] at v13; simp [code6, Tryz.f6, k12, v13, hk]
  | true =>
  rw [sv] at v13
  have k21 := fun H => valid21_W k H
  cases vk : k.valid with
  | false => rw [vk] at k21; simp [code6, Tryz.f6, k12, v13, k21, hk]
  | true =>
  rw [vk] at k21
  obtain ⟨fv, bv⟩ := small_fine sv
  have v17 := fun H => valid_W v fv bv H
  cases vv : v.valid with
  | false => rw [vv] at v17; simp [code6, Tryz.f6, k12, v13, k21, v17, hk]
  | true =>
  rw [vv] at v17
  have hkn : k.nodes ≤ 30 := fit_nodes (n := 30) (d := 9) sk
  have h29 := fun H => size29_W k H (by omega)
  have h15 := fun H => is15_W k v H (by omega)
  have h16 := fun H => least16_W v H
  obtain ⟨vs, vn⟩ := valid_okv vv
  have ks := (valid_nodes vk).2
  have h30 := fun H => nodes_W v (by omega) H
  have h31 := fun H => depth_W v (by omega) H
  unfold sizeR at h29
  unfold isR at h15
  unfold leastE at h16
  simp only [vk, vv, and_self, if_true] at h29 h15 h16
  have hsz : k.has v = true → (k.size.1 < v.nodes) = False ∧ (k.size.2 < v.depth) = False := fun hh => by
    obtain ⟨h1, h2⟩ := has_size v ks vs (by omega) hh
    exact ⟨eq_false (by omega), eq_false (by omega)⟩
  have gone : (∀ H, W 16 [.p (enc v)] H = some (.ret (.tup [.p (encK kz), .p (.int .i64 5)]), H)) → alone H (fnOut Tryz.prog [.tmp 4] 0 0 (E false ⟨0, 0⟩ 6 code6 (mkF 0 [.p (encK k), .p (enc v)]) H00)) = some (.ret (.p (.bool true)), H) := by
    intro h16
    cases hh : k.has v with
    | false =>
      rw [hh] at h15
      simp [code6, Tryz.f6, k12, v13, k21, v17, hk, h29, h15, h16]
    | true =>
      rw [hh] at h15
      obtain ⟨s1, s2⟩ := hsz hh
      simp [code6, Tryz.f6, k12, v13, k21, v17, hk, h29, h15, h16, h30, h31, s1, s2]
  cases hl : leastK v with
  | none =>
    simp only [hl] at h16
    exact gone h16
  | some l =>
    cases vl : l.valid with
    | false =>
      simp only [hl, vl, Bool.false_eq_true, if_false] at h16
      exact gone h16
    | true =>
      simp only [hl, vl, if_true] at h16
      obtain ⟨ln, ls⟩ := valid_nodes vl
      have law := least_law v vs vn l hl
      have hw := least_within ks ls law
      have l15 := fun H => is15_W l v H (by omega)
      have l27 := fun H => within27_W l k H (by omega) (by omega)
      have l32 := fun H => count32_W l H (by omega)
      unfold isR at l15
      unfold countR at l32
      simp only [vl, vv, and_self, if_true, law.2.1] at l15
      simp only [vl, vk, Bool.and_self, Bool.true_and, hw] at l27
      simp only [vl, if_true] at l32
      have fin : ∀ (x : Int) (e : Int), (e = 5 ∨ (e = 0 ∧ 1 ≤ x)) → (∀ H, W 32 [.p (encK l)] H = some (.ret (.tup [.p (.int .i64 x), .p (.int .i64 e)]), H)) →
          alone H (fnOut Tryz.prog [.tmp 4] 0 0 (E false ⟨0, 0⟩ 6 code6 (mkF 0 [.p (encK k), .p (enc v)]) H00)) = some (.ret (.p (.bool true)), H) := by
        intro x e he l32
        cases hh : k.has v with
        | false =>
          rw [hh] at h15 l27
          rcases he with rfl | ⟨rfl, h1⟩
          · simp [code6, Tryz.f6, k12, v13, k21, v17, hk, h29, h15, h16, l15, l27, l32]
          · have h1' := eq_true h1
            simp [code6, Tryz.f6, k12, v13, k21, v17, hk, h29, h15, h16, l15, l27, l32, h1']
        | true =>
          rw [hh] at h15 l27
          obtain ⟨s1, s2⟩ := hsz hh
          rcases he with rfl | ⟨rfl, h1⟩
          · simp [code6, Tryz.f6, k12, v13, k21, v17, hk, h29, h15, h16, h30, h31, s1, s2, l15, l27, l32]
          · have h1' := eq_true h1
            simp [code6, Tryz.f6, k12, v13, k21, v17, hk, h29, h15, h16, h30, h31, s1, s2, l15, l27, l32, h1']
      cases hc : l.cnt with
      | none =>
        simp only [hc] at l32
        exact fin 0 5 (.inl rfl) l32
      | some c =>
        simp only [hc] at l32
        exact fin c 0 (.inr ⟨rfl, has_cnt v ls law.2.1 c hc⟩) l32
end Go.Vi
end

section
/- The law KindLarge: for every input that can be read as data it answers true, and leaves its input as it was. Conditions: those of the given row. -/
namespace Go.Proofs.YtjkpdlloccnilaaGreatDoor.kindLarge
open Go Go.Vi Go.ChangeShapes Go.WideShapes Go.ChangeAt Go.RowKit
open Go.ChangeMaps (open_string shut_string)
set_option linter.unusedVariables false
set_option maxRecDepth 100000
theorem lifted (os : Os) (started : os.Started) (H : Type) (en : TypeId × Value → H) :
    ReturnsInHanded {} Tryz.checked os 6 .any (fun w args => (Rows.kindLargeSpec.pre en Tryz.prog Tryz.f6 [] false w args ∧ laidMetH Tryz.prog laid5 w) ∧ sizedMet en Tryz.prog Tryz.f6 (OpenSpec.ofChange Rows.kindLargeSpec) false w args)
      (Rows.kindLargeSpec.post en Tryz.prog Tryz.f6 false true false false) := by
  refine returnsInHanded_of_change_and (C := Tryz.checked) (X := fun w _ => laidMetH Tryz.prog laid5 w) (fun _ _ _ hh h => h.of_heap hh) ownK started (by kernel_rfl) Tryz.func6
    (ChangeSpec.witness_shaped (enc := en) (C := Tryz.checked) (os := os) (X := fun w _ => laidMetH Tryz.prog laid5 w) false (World.doorLaid Tryz.prog 400 os) #[.agg #[.int .i64 0, .int .i64 0, .int .i64 0, .int .i64 0, .slice none 0 0], .agg #[.int .i64 0, .int .i64 0, .string ByteArray.empty, .slice none 0 0]] 8 rfl (World.shaped_of_RefB (by kernel_rfl) (by kernel_rfl)) (by kernel_rfl) (by kernel_rfl) (by kernel_rfl) (door_met os _)) ?_
  intro W base args ds gs before hval0 hW hcnd hsz0 hLaid _
  have hsz : (DataW.weightsEach Tryz.prog (Tryz.f6.params.toList ++ Rows.kindLargeSpec.plain.varTypes Tryz.prog) (ds ++ gs)).all (· ≤ reachBytes) = true := hsz0
  have hval : ∀ (j : Nat) t v, Tryz.f6.params[j]? = some t → args[j]? = some v → Value.okWide Tryz.prog W .any base t v := hval0
  have hW' := hW
  obtain ⟨p, q, hA0, hV, rfl, hfz, hnd⟩ := hW
  have hA : DataW.TrodAll en Tryz.prog W 0 (fun _ => true) true Tryz.f6.params.toList args.toList ds p := hA0
  rw [Tryz.params6] at hA hval hsz
  obtain ⟨v0, vs0, d0, ds0, p0, q0, hargs, rfl, rfl, h0, r0⟩ := trodAll_cons hA
  obtain ⟨v1, vs1, d1, ds1, p1, q1, rfl, rfl, rfl, h1, r1⟩ := trodAll_cons r0
  obtain ⟨rfl, rfl, rfl⟩ := trodAll_nil r1
  obtain rfl : args = #[v0, v1] := by cases args; simp_all
  obtain ⟨rfl, rfl⟩ := trodVars_none hV
  have k0 := h0
  have lt0 : ∀ x ∈ p0, x.block < W.heap.size := by obtain ⟨m, hm⟩ := k0; exact DataW.trod_lt m _ _ _ hm
  obtain ⟨a0, e0⟩ := arg_kind (hval 0 25 v0 rfl rfl) h0
  have k1 := h1
  have lt1 : ∀ x ∈ p1, x.block < W.heap.size := by obtain ⟨m, hm⟩ := k1; exact DataW.trod_lt m _ _ _ hm
  obtain ⟨a1, e1⟩ := arg_value (hval 1 29 v1 rfl rfl) h1
  clear hA0 hval0 hsz0 hsz
  have hcall := law_calls (f := 6) (by decide) (ht := tab0 hLaid) (args := [.p (Vi.encK a0), .p (Vi.enc a1)]) (vs := [v0, v1]) (W0 := W) (fun H => law6_W a0 a1 H) rfl (fun j d v hd hv => by
    match j, hd, hv with
    | 0, hd, hv => simp at hd hv; subst hd; subst hv; exact e0
    | 1, hd, hv => simp at hd hv; subst hd; subst hv; exact e1
    | j + 2, hd, hv => simp at hd)
  refine hcall.mono fun e W' ⟨he, bel⟩ => ?_
  subst he
  exact ⟨_, rfl, _, _, _, [], _, [], hW', trodAll_mk1 (shut_bool Tryz.underlying4 _), (trodAll_cons_mk (Below.trod laidO (by kernel_rfl) (of_decide_eq_true (by kernel_rfl)) k0 bel lt0) (trodAll_cons_mk (Below.trod laidO (by kernel_rfl) (of_decide_eq_true (by kernel_rfl)) k1 bel lt1) trodAll_mk0)), rfl, bel.frame _, fun h => by cases h⟩
theorem over : Rows.kindLargeRow.holds Tryz.pinned (OpenSpec.ofChange Rows.kindLargeSpec) :=
  OpenClaim.holds_of_wide 6 Tryz.f6 rfl rfl rfl rfl rfl rfl rfl ⟨rfl, rfl, rfl, rfl, rfl⟩ rfl rfl rfl rfl rfl (by kernel_rfl) Tryz.func6 (by kernel_rfl)
    (of_decide_eq_true (by kernel_rfl)) (by unfold Func.isWrapper; first | (rw [if_pos (by decide +kernel)]; kernel_rfl) | (rw [if_neg (by decide +kernel)]; exact ⟨rfl, rfl⟩))
    (fun os started H enc _ => lifted os started H enc)
end Go.Proofs.YtjkpdlloccnilaaGreatDoor.kindLarge
namespace Go.Proofs.YtjkpdlloccnilaaGreatDoor
/-- The row, under a short name. -/
theorem kindLarge_holds : Rows.KindLargeSaid := kindLarge.over
end Go.Proofs.YtjkpdlloccnilaaGreatDoor
end

section
/- The tied card of the law KindLarge: for every input that can be read as data the law answers true; the tables that it may read are tied to the program's text. Conditions: those of the given card. -/
namespace Go.Proofs.YtjkpdlloccnilaaGreatDoor
open Go
/-- The statement KindLargeCardSaid. -/
theorem kindLarge_card : Rows.KindLargeCardSaid :=
  Claim7.holds_tied_plain_at .later [] [.data, .data, .data, .listed, .data] true (true, "2b2dd42976df36376e3edc59743bc25e3b279e2145e2c684f4402163bc343186") true
    kindLarge_holds (fun _ h => by cases h) (by kernel_rfl) (fun _ h => by cases h) kindLarge_row_tie rfl ⟨rfl, rfl⟩ (by kernel_rfl) rfl
    (fun f fn hf hfn => by
      obtain rfl : f = 6 := Option.some.inj ((show Tryz.prog.funcNamed "sward/swardlaw05.KindLarge" = some 6 by kernel_rfl).symm.trans hf) |>.symm
      obtain rfl : fn = Tryz.f6 := (Option.some.inj (Tryz.func6.symm.trans hfn)).symm
      exact ⟨by kernel_rfl, fun j t ht => by
        rw [Tryz.params6] at ht
        match j, ht with
        | 0, ht => obtain rfl : t = 25 := by simpa using ht.symm
                   exact (show Tryz.prog.wantsStandIn 25 = false by kernel_rfl)
        | 1, ht => obtain rfl : t = 29 := by simpa using ht.symm
                   exact (show Tryz.prog.wantsStandIn 29 = false by kernel_rfl)
        | j + 2, ht => simp at ht⟩)
    (by kernel_rfl)
end Go.Proofs.YtjkpdlloccnilaaGreatDoor
end
