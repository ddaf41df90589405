/- It is proved here that the law ValueOrder answers true in the evaluator; no condition. -/
import Derived.Test.YtojkbmepcbgbhaaGreatDoorMV
import Derived.Test.YtojkbmepcbgbhaaGreatDoorMH
set_option linter.unusedVariables false
set_option linter.unusedSimpArgs false

section
/- Vi: the law ValueOrder (f4): true. No conditions. -/
namespace Go.Vi
open Go Go.Lib Go.Proofs
set_option maxRecDepth 100000
attribute [local simp] E_skip E_ret E_exit E_text E_draw E_seq E_cond E_block E_scope E_loop runOps runOp runDraw runVF runV finV gate FlOK wantD exec fin opd look putF norm constD constC fieldAddrD loadD storeD opCall lenD binD isShift intP strP numD indexAddrD indexD D.pd? D.pds? cells_enc sub capsOf callD argsD argD D.nf enc_agg unP box_enc cellD mkF H00 st1 cD_agg cD_pagg cD_int cD_bool cD_str cD_sl cD_lit

theorem compared_W (a b : Val) (ha : a.valid = true) (hb : b.valid = true) (H : Hp) : W 26 [.p (enc a), .p (enc b)] H = some (.ret (.tup [.p (.int .i64 (a.cmp b)), .p (.bool true)]), H) := by
  refine W26_of rfl (by simp) ?_
  have h30 := fun H => compare30_W a b H
  simp only [both, ha, hb, Bool.and_self, if_true] at h30
  obtain ⟨b1, b2⟩ := cmp_bd a b (valid_shaped ha) (valid_shaped hb)
  have key : ∃ B, E false ⟨0, 0⟩ 26 code26 (mkF 0 [.p (enc a), .p (enc b)]) H00 = some (.ret, [(4, .p (.int .i64 (a.cmp b))), (5, .p (.bool true))], ⟨B, []⟩) :=
    ⟨_, by simp [code26, Tryz.f26, h30, b1, b2]; rfl⟩
  obtain ⟨B, key⟩ := key
  rw [key]
  simp [fnOut, retOut, resD, retsD, retD, oneD, D.noRefs, D.noRef, alone, Hp.cut]

set_option maxHeartbeats 4000000 in
theorem law4_W (a b c : Val) (H : Hp) : W 4 [.p (enc a), .p (enc b), .p (enc c)] H = some (.ret (.p (.bool true)), H) := by
  refine W4_of rfl (by simp) ?_
  have hk := fun H => known_W H
  have a15 := fun H => small_W a H
  have b15 := fun H => small_W b H
  have c15 := fun H => small_W c H
  suffices key : ∃ B, E false ⟨0, 0⟩ 4 code4 (mkF 0 [.p (enc a), .p (enc b), .p (enc c)]) H00 = some (.ret, [(6, .p (.bool true))], ⟨B, []⟩) by
    obtain ⟨B, key⟩ := key
    rw [key]
    simp [fnOut, retOut, resD, retsD, retD, oneD, D.noRefs, D.noRef, alone, Hp.cut]
  cases sa : a.small with
  | false => rw [sa] at a15; exact ⟨_, by simp [code4, Tryz.f4, a15, hk]; rfl⟩
  | true =>
  rw [sa] at a15
  cases sb : b.small with
  | false => rw [sb] at b15; exact ⟨_, by simp [code4, Tryz.f4, a15, b15, hk]; rfl⟩
  | true =>
  rw [sb] at b15
  cases sc : c.small with
  | false => rw [sc] at c15; exact ⟨_, by simp [code4, Tryz.f4, a15, b15, c15, hk]; rfl⟩
  | true =>
  rw [sc] at c15
  obtain ⟨fa, ba⟩ := small_fine sa
  obtain ⟨fb, bb⟩ := small_fine sb
  obtain ⟨fc, bc⟩ := small_fine sc
  have a19 := fun H => valid_W a fa ba H
  have b19 := fun H => valid_W b fb bb H
  have c19 := fun H => valid_W c fc bc H
  cases va : a.valid with
  | false => rw [va] at a19; exact ⟨_, by simp [code4, Tryz.f4, a15, b15, c15, a19, hk]; rfl⟩
  | true =>
  rw [va] at a19
  cases vb : b.valid with
  | false => rw [vb] at b19; exact ⟨_, by simp [code4, Tryz.f4, a15, b15, c15, a19, b19, hk]; rfl⟩
  | true =>
  rw [vb] at b19
  cases vc : c.valid with
  | false => rw [vc] at c19; exact ⟨_, by simp [code4, Tryz.f4, a15, b15, c15, a19, b19, c19, hk]; rfl⟩
  | true =>
  rw [vc] at c19
  have s1 := valid_shaped va
  have s2 := valid_shaped vb
  have s3 := valid_shaped vc
  have hab := fun H => compared_W a b va vb H
  have hba := fun H => compared_W b a vb va H
  have hbc := fun H => compared_W b c vb vc H
  have hac := fun H => compared_W a c va vc H
  have h22 := fun H => equal_W a fa b H
  rw [← cmp_eqb s1 s2] at h22
  rw [cmp_anti b a s2 s1] at hba
  have t1 := cmp_trans a b c s1 s2 s3
  have z1 := cmp_zero a b s1 s2
  have z2 := cmp_zero b c s2 s3
  have x3 : a.cmp b = -1 ∨ a.cmp b = 0 ∨ a.cmp b = 1 := by have := cmp_bd a b s1 s2; omega
  have y3 : b.cmp c = -1 ∨ b.cmp c = 0 ∨ b.cmp c = 1 := by have := cmp_bd b c s2 s3; omega
  have z3 : a.cmp c = -1 ∨ a.cmp c = 0 ∨ a.cmp c = 1 := by have := cmp_bd a c s1 s3; omega
  have e1 : a.cmp b = 0 → a.cmp c = b.cmp c := fun h => by rw [z1.1 h]
  have e2 : b.cmp c = 0 → a.cmp c = a.cmp b := fun h => by rw [z2.1 h]
  clear z1 z2
  generalize a.cmp b = x at *
  generalize b.cmp c = y at *
  generalize a.cmp c = z at *
  have fin : ∀ x y z : Int, (∀ H, W 26 [.p (enc a), .p (enc b)] H = some (.ret (.tup [.p (.int .i64 x), .p (.bool true)]), H)) →
      (∀ H, W 26 [.p (enc b), .p (enc a)] H = some (.ret (.tup [.p (.int .i64 (-x)), .p (.bool true)]), H)) →
      (∀ H, W 26 [.p (enc b), .p (enc c)] H = some (.ret (.tup [.p (.int .i64 y), .p (.bool true)]), H)) →
      (∀ H, W 26 [.p (enc a), .p (enc c)] H = some (.ret (.tup [.p (.int .i64 z), .p (.bool true)]), H)) →
      (∀ H, W 23 [.p (enc a), .p (enc b)] H = some (.ret (.p (.bool (decide (x = 0)))), H)) → 
      (x = -1 ∨ x = 0 ∨ x = 1) → (y = -1 ∨ y = 0 ∨ y = 1) → (z = -1 ∨ z = 0 ∨ z = 1) → (x < 0 → y < 0 → z < 0) → (x = 0 → z = y) → (y = 0 → z = x) →
      ∃ B, E false ⟨0, 0⟩ 4 code4 (mkF 0 [.p (enc a), .p (enc b), .p (enc c)]) H00 = some (.ret, [(6, .p (.bool true))], ⟨B, []⟩) := by
    intro x y z h1 h2 h3 h4 h5 x3 y3 z3 t1 e1 e2
    have w0 : IntKind.i64.wrap 0 = 0 := wrap64 (by omega) (by omega)
    have w1 : IntKind.i64.wrap 1 = 1 := wrap64 (by omega) (by omega)
    have w2 : IntKind.i64.wrap (-1) = -1 := wrap64 (by omega) (by omega)
    rcases x3 with rfl | rfl | rfl
    · rcases y3 with rfl | rfl | rfl
      · have : z = -1 := by have := t1 (by omega) (by omega); omega
        subst this
        exact ⟨_, by simp [code4, Tryz.f4, a15, b15, c15, a19, b19, c19, hk, h1, h2, h3, h4, h5, w0, w1, w2]; rfl⟩
      · have : z = -1 := e2 rfl
        subst this
        exact ⟨_, by simp [code4, Tryz.f4, a15, b15, c15, a19, b19, c19, hk, h1, h2, h3, h4, h5, w0, w1, w2]; rfl⟩
      · rcases z3 with rfl | rfl | rfl <;> exact ⟨_, by simp [code4, Tryz.f4, a15, b15, c15, a19, b19, c19, hk, h1, h2, h3, h4, h5, w0, w1, w2]; rfl⟩
    · have : z = y := e1 rfl
      subst this
      rcases y3 with rfl | rfl | rfl <;> exact ⟨_, by simp [code4, Tryz.f4, a15, b15, c15, a19, b19, c19, hk, h1, h2, h3, h4, h5, w0, w1, w2]; rfl⟩
    · rcases y3 with rfl | rfl | rfl <;> rcases z3 with rfl | rfl | rfl <;> exact ⟨_, by simp [code4, Tryz.f4, a15, b15, c15, a19, b19, c19, hk, h1, h2, h3, h4, h5, w0, w1, w2]; rfl⟩
  exact fin x y z hab hba hbc hac h22 x3 y3 z3 t1 e1 e2
end Go.Vi
end
