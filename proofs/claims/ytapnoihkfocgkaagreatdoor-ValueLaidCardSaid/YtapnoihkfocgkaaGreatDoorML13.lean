/- It is proved here that the law ValueLaid answers true in the evaluator; no condition. -/
import Derived.Test.YtapnoihkfocgkaaGreatDoorMAF
set_option linter.unusedVariables false
set_option linter.unusedSimpArgs false

section
/- Vi: the law ValueLaid (f13): true. No conditions. -/
namespace Go.Vi
open Go Go.Lib Go.Proofs
set_option maxRecDepth 100000
attribute [local simp] E_skip E_ret E_exit E_text E_draw E_seq E_cond E_block E_scope E_loop runOps runOp runDraw runVF runV finV gate FlOK wantD exec fin opd look putF norm constD constC fieldAddrD loadD storeD opCall lenD binD isShift intP strP numD indexAddrD indexD D.pd? D.pds? cells_enc sub capsOf callD argsD argD D.nf enc_agg unP box_enc cellD mkF H00 st1 cD_agg cD_pagg cD_int cD_bool cD_str cD_sl cD_lit

section
variable (m key v q : Val) (hk : ∀ H, W 16 [] H = some (.ret (.p (.bool true)), H))
  (s1 : ∀ H, W 15 [.p (enc m)] H = some (.ret (.p (.bool true)), H)) (s2 : ∀ H, W 15 [.p (enc key)] H = some (.ret (.p (.bool true)), H)) (s3 : ∀ H, W 15 [.p (enc v)] H = some (.ret (.p (.bool true)), H)) (s4 : ∀ H, W 15 [.p (enc q)] H = some (.ret (.p (.bool true)), H))
include hk s1 s2 s3 s4

theorem laid_guard (b1 b2 b3 b4 b5 : Bool) (a1 : ∀ H, W 19 [.p (enc m)] H = some (.ret (.p (.bool b1)), H)) (a2 : ∀ H, W 54 [.p (enc m)] H = some (.ret (.p (.bool b2)), H)) (a3 : ∀ H, W 19 [.p (enc key)] H = some (.ret (.p (.bool b3)), H))
    (a4 : ∀ H, W 19 [.p (enc v)] H = some (.ret (.p (.bool b4)), H)) (a5 : ∀ H, W 19 [.p (enc q)] H = some (.ret (.p (.bool b5)), H)) (h : (b1 && b2 && b3 && b4 && b5) = false) :
    ∃ B, E false ⟨0, 0⟩ 13 code13 (mkF 0 [.p (enc m), .p (enc key), .p (enc v), .p (enc q)]) H00 = some (.ret, [(8, .p (.bool true))], ⟨B, []⟩) := by
  cases b1 with
  | false => exact ⟨_, by simp [code13, Tryz.f13, hk, s1, s2, s3, s4, a1]; rfl⟩
  | true =>
  cases b2 with
  | false => exact ⟨_, by simp [code13, Tryz.f13, hk, s1, s2, s3, s4, a1, a2]; rfl⟩
  | true =>
  cases b3 with
  | false => exact ⟨_, by simp [code13, Tryz.f13, hk, s1, s2, s3, s4, a1, a2, a3]; rfl⟩
  | true =>
  cases b4 with
  | false => exact ⟨_, by simp [code13, Tryz.f13, hk, s1, s2, s3, s4, a1, a2, a3, a4]; rfl⟩
  | true =>
  cases b5 with
  | false => exact ⟨_, by simp [code13, Tryz.f13, hk, s1, s2, s3, s4, a1, a2, a3, a4, a5]; rfl⟩
  | true => cases h

variable (a1 : ∀ H, W 19 [.p (enc m)] H = some (.ret (.p (.bool true)), H)) (a2 : ∀ H, W 54 [.p (enc m)] H = some (.ret (.p (.bool true)), H)) (a3 : ∀ H, W 19 [.p (enc key)] H = some (.ret (.p (.bool true)), H))
    (a4 : ∀ H, W 19 [.p (enc v)] H = some (.ret (.p (.bool true)), H)) (a5 : ∀ H, W 19 [.p (enc q)] H = some (.ret (.p (.bool true)), H))
include a1 a2 a3 a4 a5

theorem laid_long (h52 : ∀ H, W 52 [.p (enc m), .p (enc key), .p (enc v)] H = some (.ret (.tup [.p (enc Val.zero), .p (.int .i64 3)]), H)) :
    ∃ B, E false ⟨0, 0⟩ 13 code13 (mkF 0 [.p (enc m), .p (enc key), .p (enc v), .p (enc q)]) H00 = some (.ret, [(8, .p (.bool true))], ⟨B, []⟩) :=
  ⟨_, by simp [code13, Tryz.f13, hk, s1, s2, s3, s4, a1, a2, a3, a4, a5, h52, z25', splice]; rfl⟩

variable (y k was : Val) (h52 : ∀ H, W 52 [.p (enc m), .p (enc key), .p (enc v)] H = some (.ret (.tup [.p (enc y), .p (.int .i64 0)]), H)) (f51 : ∀ H, W 51 [.p (enc y), .p (enc key)] H = some (.ret (.tup [.p (enc v), .p (.int .i64 0)]), H))
  (g52 : ∀ H, W 52 [.p (enc y), .p (enc key), .p (enc v)] H = some (.ret (.tup [.p (enc y), .p (.int .i64 0)]), H)) (ev : ∀ H, W 22 [.p (enc v), .p (enc v)] H = some (.ret (.p (.bool true)), H)) (ey : ∀ H, W 22 [.p (enc y), .p (enc y)] H = some (.ret (.p (.bool true)), H))
  (k53 : ∀ H, W 53 [.p (enc y)] H = some (.ret (.tup [.p (enc k), .p (.int .i64 0)]), H)) (w53 : ∀ H, W 53 [.p (enc m)] H = some (.ret (.tup [.p (enc was), .p (.int .i64 0)]), H))
  (bi bw be : Bool) (k37 : ∀ H, W 37 [.p (enc k), .p (enc q)] H = some (.ret (.tup [.p (.bool bi), .p (.int .i64 0)]), H)) (w37 : ∀ H, W 37 [.p (enc was), .p (enc q)] H = some (.ret (.tup [.p (.bool bw), .p (.int .i64 0)]), H))
  (eq : ∀ H, W 22 [.p (enc q), .p (enc key)] H = some (.ret (.p (.bool be)), H)) (hb : bi = (bw || be))
include h52 f51 g52 ev ey k53 w53 k37 w37 eq hb

theorem laid_this (he : be = true) :
    ∃ B, E false ⟨0, 0⟩ 13 code13 (mkF 0 [.p (enc m), .p (enc key), .p (enc v), .p (enc q)]) H00 = some (.ret, [(8, .p (.bool true))], ⟨B, []⟩) := by
  subst he
  subst hb
  cases bw <;> exact ⟨_, by simp [code13, Tryz.f13, hk, s1, s2, s3, s4, a1, a2, a3, a4, a5, h52, f51, g52, ev, ey, k53, w53, k37, w37, eq, z25', splice]; rfl⟩

theorem laid_other (he : be = false) (u : Val) (n : Int) (y51 : ∀ H, W 51 [.p (enc y), .p (enc q)] H = some (.ret (.tup [.p (enc u), .p (.int .i64 n)]), H)) (m51 : ∀ H, W 51 [.p (enc m), .p (enc q)] H = some (.ret (.tup [.p (enc u), .p (.int .i64 n)]), H))
    (eu : ∀ H, W 22 [.p (enc u), .p (enc u)] H = some (.ret (.p (.bool true)), H)) :
    ∃ B, E false ⟨0, 0⟩ 13 code13 (mkF 0 [.p (enc m), .p (enc key), .p (enc v), .p (enc q)]) H00 = some (.ret, [(8, .p (.bool true))], ⟨B, []⟩) := by
  subst he
  subst hb
  cases bw <;> exact ⟨_, by simp [code13, Tryz.f13, hk, s1, s2, s3, s4, a1, a2, a3, a4, a5, h52, f51, g52, ev, ey, k53, w53, k37, w37, eq, y51, m51, eu, z25', splice]; rfl⟩
end

theorem law13_W (m key v q : Val) (H : Hp) : W 13 [.p (enc m), .p (enc key), .p (enc v), .p (enc q)] H = some (.ret (.p (.bool true)), H) := by
  refine W13_of rfl (by simp) ?_
  have hk := fun H => known_W H
  have s1 := fun H => small_W m H
  have s2 := fun H => small_W key H
  have s3 := fun H => small_W v H
  have s4 := fun H => small_W q H
  suffices key' : ∃ B, E false ⟨0, 0⟩ 13 code13 (mkF 0 [.p (enc m), .p (enc key), .p (enc v), .p (enc q)]) H00 = some (.ret, [(8, .p (.bool true))], ⟨B, []⟩) by
    obtain ⟨B, key'⟩ := key'
    rw [key']
    simp [fnOut, retOut, resD, retsD, retD, oneD, D.noRefs, D.noRef, alone, Hp.cut]
  cases e1 : m.small with
  | false => rw [e1] at s1; exact ⟨_, by simp [code13, Tryz.f13, s1, hk]; rfl⟩
  | true =>
  rw [e1] at s1
  cases e2 : key.small with
  | false => rw [e2] at s2; exact ⟨_, by simp [code13, Tryz.f13, s1, s2, hk]; rfl⟩
  | true =>
  rw [e2] at s2
  cases e3 : v.small with
  | false => rw [e3] at s3; exact ⟨_, by simp [code13, Tryz.f13, s1, s2, s3, hk]; rfl⟩
  | true =>
  rw [e3] at s3
  cases e4 : q.small with
  | false => rw [e4] at s4; exact ⟨_, by simp [code13, Tryz.f13, s1, s2, s3, s4, hk]; rfl⟩
  | true =>
  rw [e4] at s4
  obtain ⟨fm, bm⟩ := small_fine e1
  obtain ⟨fk, bk⟩ := small_fine e2
  obtain ⟨fv, bv⟩ := small_fine e3
  obtain ⟨fq, bq⟩ := small_fine e4
  have a1 := fun H => valid_W m fm bm H
  have a2 := fun H => isMap54_W m fm H
  have a3 := fun H => valid_W key fk bk H
  have a4 := fun H => valid_W v fv bv H
  have a5 := fun H => valid_W q fq bq H
  cases hg : (m.valid && rIsMap m && key.valid && v.valid && q.valid) with
  | false => exact laid_guard m key v q hk s1 s2 s3 s4 _ _ _ _ _ a1 a2 a3 a4 a5 hg
  | true =>
  simp only [Bool.and_eq_true] at hg
  obtain ⟨⟨⟨⟨hvm, hrm⟩, hvk⟩, hvv⟩, hvq⟩ := hg
  have hm : m.isMap = true := by rw [isMap_same, hvm, hrm]; rfl
  rw [hvm] at a1; rw [hrm] at a2; rw [hvk] at a3; rw [hvv] at a4; rw [hvq] at a5
  obtain ⟨hs, hkd⟩ := isMap_keyed hm
  obtain ⟨p1, p2, p3⟩ := valid_parts hvm
  have hup := up_incr.2 (set_incr hs)
  have sk := valid_shaped hvk
  have sv := valid_shaped hvv
  have sq := valid_shaped hvq
  have h52 := fun H => lay52_W m key v H
  simp only [Lay52, hm, hvk, hvv, Bool.and_self, if_true, made_two] at h52
  rw [show mg (delL key m.ps) [tupV [key, v]] = layL key v m.ps from rfl] at h52
  cases hf : (setV (layL key v m.ps)).fits with
  | false =>
    simp only [mdV, mdE, hf, Bool.false_eq_true, if_false] at h52
    exact laid_long m key v q hk s1 s2 s3 s4 a1 a2 a3 a4 a5 h52
  | true =>
  simp only [mdV, mdE, hf, if_true] at h52
  have lk := lay_keyed hkd p2 hup sk sv
  have ls := lay_shp hkd p2 hup sk sv
  have lu := (lay_up hkd p2 hup sk sv).1
  have ym := set_map lk ls lu hf
  obtain ⟨ys, _⟩ := isMap_keyed ym
  obtain ⟨yv, _⟩ := isSet_valid ys
  have f51 := fun H => look51_W (setV (layL key v m.ps)) key H
  simp only [Look51, ym, hvk, Bool.and_self, if_true, setV_ps, lay_found hkd p2 hup sk sv] at f51
  have g52 := fun H => lay52_W (setV (layL key v m.ps)) key v H
  simp only [Lay52, ym, hvk, hvv, Bool.and_self, if_true, made_two, setV_ps] at g52
  rw [show mg (delL key (layL key v m.ps)) [tupV [key, v]] = layL key v (layL key v m.ps) from rfl, lay_again hkd p2 hup sk sv] at g52
  simp only [mdV, mdE, hf, if_true] at g52
  have ev := fun H => equal_W v fv v H
  rw [eqb_self] at ev
  have ey := fun H => equal_W (setV (layL key v m.ps)) (valid_fine yv).1 (setV (layL key v m.ps)) H
  rw [eqb_self] at ey
  have kf := keys_fit yv (by rw [setV_ps]; exact lk.pair)
  have wf := keys_fit hvm hkd.pair
  have k53 := fun H => keys53_W (setV (layL key v m.ps)) H
  simp only [Keys53, ym, if_true, made_two, mdV, mdE, kf] at k53
  have w53 := fun H => keys53_W m H
  simp only [Keys53, hm, if_true, made_two, mdV, mdE, wf] at w53
  have shk : ∀ l : List Val, Keyed l → Shp l → Shp (l.map Val.k0) := fun l h1 h2 x hx => by
    obtain ⟨p, hp, rfl⟩ := List.mem_map.1 hx
    exact k0_shaped (h1.pair p hp) (h2 p hp)
  have kset := set_valid (shk _ lk ls) lk.up (by rw [setV_ps] at kf; exact kf)
  have wset := set_valid (shk _ hkd p2) hkd.up wf
  rw [setV_ps] at k53
  have k37 := fun H => has37_W (setV ((layL key v m.ps).map Val.k0)) q H
  simp only [kset, hvq, Bool.and_self, if_true, setV_ps] at k37
  have w37 := fun H => has37_W (setV (m.ps.map Val.k0)) q H
  simp only [wset, hvq, Bool.and_self, if_true, setV_ps] at w37
  have eq' := fun H => equal_W q fq key H
  have hb := lay_keys hkd p2 hup sk sv sq
  cases hqk : q.eqb key with
  | true =>
    exact laid_this m key v q hk s1 s2 s3 s4 a1 a2 a3 a4 a5 _ _ _ h52 f51 g52 ev ey k53 w53 _ _ _ k37 w37 eq' hb hqk
  | false =>
    have hne : q ≠ key := fun e => by rw [(eqb_iff q key).2 e] at hqk; cases hqk
    have y51 := fun H => look51_W (setV (layL key v m.ps)) q H
    have m51 := fun H => look51_W m q H
    simp only [Look51, ym, hvq, Bool.and_self, if_true, setV_ps, lay_other hkd p2 hup sk sv sq hne] at y51
    simp only [Look51, hm, hvq, Bool.and_self, if_true] at m51
    cases hl : lookR q m.ps with
    | none =>
      simp only [hl] at y51 m51
      have eu := fun H => equal_W Val.zero zero_fine Val.zero H
      rw [eqb_self] at eu
      exact laid_other m key v q hk s1 s2 s3 s4 a1 a2 a3 a4 a5 _ _ _ h52 f51 g52 ev ey k53 w53 _ _ _ k37 w37 eq' hb hqk _ _ y51 m51 eu
    | some u =>
      simp only [hl] at y51 m51
      obtain ⟨p, hp, _, hu⟩ := lookR_some hl
      have fu : u.fine := by rw [← hu]; exact fine_mem (p1 p hp) _ (k1_mem (hkd.pair p hp))
      have eu := fun H => equal_W u fu u H
      rw [eqb_self] at eu
      exact laid_other m key v q hk s1 s2 s3 s4 a1 a2 a3 a4 a5 _ _ _ h52 f51 g52 ev ey k53 w53 _ _ _ k37 w37 eq' hb hqk _ _ y51 m51 eu
end Go.Vi
end
