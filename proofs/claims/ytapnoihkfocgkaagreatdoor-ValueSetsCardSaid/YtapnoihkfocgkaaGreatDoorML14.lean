/- It is proved here that the law ValueSets answers true in the evaluator; no condition but a length. -/
import Derived.Test.YtapnoihkfocgkaaGreatDoorMAG
set_option linter.unusedVariables false
set_option linter.unusedSimpArgs false

section
/- Vi: the law ValueSets (f14): true. No conditions but a length. -/
namespace Go.Vi
open Go Go.Lib Go.Proofs
set_option maxRecDepth 100000
attribute [local simp] E_skip E_ret E_exit E_text E_draw E_seq E_cond E_block E_scope E_loop runOps runOp runDraw runVF runV finV gate FlOK wantD exec fin opd look putF norm constD constC fieldAddrD loadD storeD opCall lenD binD isShift intP strP numD indexAddrD indexD D.pd? D.pds? cells_enc sub capsOf callD argsD argD D.nf enc_agg unP box_enc cellD mkF H00 st1 cD_agg cD_pagg cD_int cD_bool cD_str cD_sl cD_lit cD_own

def zP : PD := .agg [.int .i64 0, .int .i64 0, .str ⟨#[]⟩, .sl []]
theorem by25x : byOf Tryz.prog 25 = some 56 := by kernel_rfl
theorem mk_row (m : Int) (h0 : 0 ≤ m) (h1 : m ≤ 1000) (H : Hp) : makeSliceD Tryz.prog H 23 (.p (.int .i64 m)) (.p (.int .i64 m)) = some (.val (.own H.A.length 0) { H with A := H.A ++ [⟨0, 25, 4, false, false, List.replicate m.toNat zP⟩] }) := by
  have h2 : m.toNat * 56 ≤ 140737488355328 := by omega
  have h3 : m ≤ 4611686018427387904 := by omega
  have hz : (D.agg [.p (.int .i64 0), .p (.int .i64 0), .p (.str ⟨#[]⟩), .lit true []]).pd? H.A = some zP := by simp [D.pd?, D.pds?, zP]
  have hl : zP.cells.length = 4 := rfl
  simp [makeSliceD, by25x, z25', zok25, newRow, h0, h2, h3, hz, hl]
  exact ⟨rfl, .inr rfl⟩

theorem set_rep (m : Int) (h0 : 0 ≤ m) (h1 : m ≤ 300) : ∃ (y : Val) (f : Int), (0 < m → f = 2) ∧ ∀ H, W 59 [.p (.sl (List.replicate m.toNat zP))] H = some (.ret (.tup [.p (enc y), .p (.int .i64 f)]), H) := by
  have e : (List.replicate m.toNat Val.zero).map enc = List.replicate m.toNat zP := by rw [List.map_replicate]; rfl
  have h := fun H => set59_W (List.replicate m.toNat Val.zero) (by simp; omega) H
  rw [e] at h
  unfold Set59 at h
  by_cases hm : 0 < m
  · have hv : (List.replicate m.toNat Val.zero).all Val.valid = false := by
      rw [← Bool.not_eq_true, List.all_eq_true]
      intro h
      have h2 := h Val.zero (by rw [List.mem_replicate]; exact ⟨by omega, rfl⟩)
      have h3 := valid_shaped h2
      rw [shaped_eq] at h3
      simp [Val.zero, Val.k, own75] at h3
    rw [hv, Bool.and_false] at h
    exact ⟨_, _, fun _ => rfl, h⟩
  · have hm0 : m = 0 := by omega
    subst hm0
    simp only [Int.toNat_zero, List.replicate_zero, List.length_nil, List.all_nil, Bool.and_true, Nat.zero_le, decide_true, if_true, made_two] at h ⊢
    exact ⟨_, _, fun h => absurd h (by decide), h⟩

section
variable (l : List Val) (m : Int) (y : Val) (f : Int) (hk : ∀ H, W 16 [] H = some (.ret (.p (.bool true)), H)) (h58 : ∀ H, W 58 [.p (.sl (l.map enc))] H = some (.ret (.p (.bool true)), H))
  (h0 : 0 ≤ m) (h1 : m ≤ 300) (hf : 0 < m → f = 2) (h59m : ∀ H, W 59 [.p (.sl (List.replicate m.toNat zP))] H = some (.ret (.tup [.p (enc y), .p (.int .i64 f)]), H))
include hk h58 h0 h1 hf h59m

theorem sets_bad (h20 : ∀ H, W 20 [.p (enc Val.zero)] H = some (.ret (.p (.bool true)), H)) (h59 : ∀ H, W 59 [.p (.sl (l.map enc))] H = some (.ret (.tup [.p (enc Val.zero), .p (.int .i64 2)]), H)) (h60 : ∀ H, W 60 [.p (.sl (l.map enc))] H = some (.ret (.p (.bool false)), H)) :
    ∃ B A, E false ⟨0, 0⟩ 14 code14 (mkF 0 [.p (.sl (l.map enc)), .p (.int .i64 m)]) H00 = some (.ret, [(4, .p (.bool true))], ⟨B, A⟩) := by
  have a1 : ¬ m < 0 := by omega
  have a2 : ¬ 300 < m := by omega
  have a3 := fun H => mk_row m h0 (by omega) H
  by_cases hm : 0 < m
  · have := hf hm
    subst this
    exact ⟨_, _, by simp [code14, Tryz.f14, hk, h58, a1, a2, h0, h1, h59, h60, h20, a3, Hp.live, h59m, hm, z25', splice]; exact ⟨rfl, rfl⟩⟩
  · exact ⟨_, _, by simp [code14, Tryz.f14, hk, h58, a1, a2, h0, h1, h59, h60, h20, a3, Hp.live, h59m, hm, z25', splice]; exact ⟨rfl, rfl⟩⟩

theorem sets_long (h20 : ∀ H, W 20 [.p (enc Val.zero)] H = some (.ret (.p (.bool true)), H)) (h59 : ∀ H, W 59 [.p (.sl (l.map enc))] H = some (.ret (.tup [.p (enc Val.zero), .p (.int .i64 3)]), H)) (h60 : ∀ H, W 60 [.p (.sl (l.map enc))] H = some (.ret (.p (.bool true)), H))
    (x : Val) (h61 : ∀ H, W 61 [.p (.sl (l.map enc))] H = some (.ret (.p (enc x)), H)) (h62 : ∀ H, W 62 [.p (enc x)] H = some (.ret (.p (.bool false)), H)) :
    ∃ B A, E false ⟨0, 0⟩ 14 code14 (mkF 0 [.p (.sl (l.map enc)), .p (.int .i64 m)]) H00 = some (.ret, [(4, .p (.bool true))], ⟨B, A⟩) := by
  have a1 : ¬ m < 0 := by omega
  have a2 : ¬ 300 < m := by omega
  have a3 := fun H => mk_row m h0 (by omega) H
  by_cases hm : 0 < m
  · have := hf hm
    subst this
    exact ⟨_, _, by simp [code14, Tryz.f14, hk, h58, a1, a2, h0, h1, h59, h60, h61, h62, h20, a3, Hp.live, h59m, hm, z25', splice]; exact ⟨rfl, rfl⟩⟩
  · exact ⟨_, _, by simp [code14, Tryz.f14, hk, h58, a1, a2, h0, h1, h59, h60, h61, h62, h20, a3, Hp.live, h59m, hm, z25', splice]; exact ⟨rfl, rfl⟩⟩

theorem sets_fit (x : Val) (h59 : ∀ H, W 59 [.p (.sl (l.map enc))] H = some (.ret (.tup [.p (enc x), .p (.int .i64 0)]), H)) (h60 : ∀ H, W 60 [.p (.sl (l.map enc))] H = some (.ret (.p (.bool true)), H))
    (h61 : ∀ H, W 61 [.p (.sl (l.map enc))] H = some (.ret (.p (enc x)), H)) (h62 : ∀ H, W 62 [.p (enc x)] H = some (.ret (.p (.bool true)), H)) (h22 : ∀ H, W 22 [.p (enc x), .p (enc x)] H = some (.ret (.p (.bool true)), H)) :
    ∃ B A, E false ⟨0, 0⟩ 14 code14 (mkF 0 [.p (.sl (l.map enc)), .p (.int .i64 m)]) H00 = some (.ret, [(4, .p (.bool true))], ⟨B, A⟩) := by
  have a1 : ¬ m < 0 := by omega
  have a2 : ¬ 300 < m := by omega
  have a3 := fun H => mk_row m h0 (by omega) H
  by_cases hm : 0 < m
  · have := hf hm
    subst this
    exact ⟨_, _, by simp [code14, Tryz.f14, hk, h58, a1, a2, h0, h1, h59, h60, h61, h62, h22, a3, Hp.live, h59m, hm, z25', splice]; exact ⟨rfl, rfl⟩⟩
  · exact ⟨_, _, by simp [code14, Tryz.f14, hk, h58, a1, a2, h0, h1, h59, h60, h61, h62, h22, a3, Hp.live, h59m, hm, z25', splice]; exact ⟨rfl, rfl⟩⟩
end

theorem law14_W (l : List Val) (hlen : l.length < 9223372036854775807) (m : Int) (H : Hp) : W 14 [.p (.sl (l.map enc)), .p (.int .i64 m)] H = some (.ret (.p (.bool true)), H) := by
  refine W14_of rfl (by simp) ?_
  have hk := fun H => known_W H
  have h58 := fun H => listed58_W l hlen H
  suffices key' : ∃ B A, E false ⟨0, 0⟩ 14 code14 (mkF 0 [.p (.sl (l.map enc)), .p (.int .i64 m)]) H00 = some (.ret, [(4, .p (.bool true))], ⟨B, A⟩) by
    obtain ⟨B, A, key'⟩ := key'
    rw [key']
    simp [fnOut, retOut, resD, retsD, retD, oneD, D.noRefs, D.noRef, alone, Hp.cut]
  cases hl : listedB l with
  | false => rw [hl] at h58; exact ⟨_, _, by simp [code14, Tryz.f14, h58, hk]; exact ⟨rfl, rfl⟩⟩
  | true =>
  rw [hl] at h58
  by_cases m0 : m < 0
  · exact ⟨_, _, by simp [code14, Tryz.f14, h58, hk, m0]; exact ⟨rfl, rfl⟩⟩
  by_cases m1 : 300 < m
  · have m2 : ¬ m < 0 := by omega
    exact ⟨_, _, by simp [code14, Tryz.f14, h58, hk, m2, m1]; exact ⟨rfl, rfl⟩⟩
  obtain ⟨y, f, hf, h59m⟩ := set_rep m (by omega) (by omega)
  simp only [listedB, Bool.and_eq_true, decide_eq_true_eq] at hl
  obtain ⟨⟨l10, lsm⟩, lnd⟩ := hl
  have hsm : ∀ u ∈ l, u.fine ∧ u.brief = true := fun u hu => small_fine (List.all_eq_true.1 lsm u hu)
  have h59 := fun H => set59_W l hlen H
  have h60 := fun H => valid60_W l hlen hsm H
  have h61 := fun H => set61_W l (by omega) (fun u hu => (hsm u hu).1) H
  have h62 := fun H => fits_W (setV (foldW [] l)) H
  have h20 := fun H => none_W Val.zero zero_fine H
  rw [none_zero] at h20
  unfold Set59 at h59
  rw [decide_eq_true (show l.length ≤ 200 by omega), Bool.true_and] at h59
  cases hv : l.all Val.valid with
  | false =>
    rw [hv] at h59 h60
    exact sets_bad l m y f hk h58 (by omega) (by omega) hf h59m h20 h59 h60
  | true =>
  rw [hv] at h59 h60
  simp only [if_true, made_two] at h59
  cases hfit : (setV (foldW [] l)).fits with
  | false =>
    rw [hfit] at h62
    simp only [mdV, mdE, hfit, Bool.false_eq_true, if_false] at h59
    exact sets_long l m y f hk h58 (by omega) (by omega) hf h59m h20 h59 h60 _ h61 h62
  | true =>
    rw [hfit] at h62
    simp only [mdV, mdE, hfit, if_true] at h59
    have hvm : ∀ v ∈ l, v.valid = true := List.all_eq_true.1 hv
    obtain ⟨hp, _, _⟩ := set_perm (fun v hv => valid_shaped (hvm v hv) : Shp l)
    have hfx : (setV (foldW [] l)).fine := by
      have := ((fits_iff _).1 hfit).1
      exact nodes_fine _ (by omega)
    have h22 := fun H => equal_W (setV (foldW [] l)) hfx (setV (foldW [] l)) H
    rw [eqb_self] at h22
    exact sets_fit l m y f hk h58 (by omega) (by omega) hf h59m _ h59 h60 h61 h62 h22
end Go.Vi
end
