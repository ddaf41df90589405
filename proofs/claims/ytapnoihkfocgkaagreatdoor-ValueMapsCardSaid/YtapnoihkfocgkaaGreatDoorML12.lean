/- It is proved here that the law ValueMaps answers true in the evaluator; no condition. -/
import Derived.Test.YtapnoihkfocgkaaGreatDoorMAE
set_option linter.unusedVariables false
set_option linter.unusedSimpArgs false

section
/- Vi: the law ValueMaps (f12): true. No conditions. -/
namespace Go.Vi
open Go Go.Lib Go.Proofs
set_option maxRecDepth 100000
attribute [local simp] E_skip E_ret E_exit E_text E_draw E_seq E_cond E_block E_scope E_loop runOps runOp runDraw runVF runV finV gate FlOK wantD exec fin opd look putF norm constD constC fieldAddrD loadD storeD opCall lenD binD isShift intP strP numD indexAddrD indexD D.pd? D.pds? cells_enc sub capsOf callD argsD argD D.nf enc_agg unP box_enc cellD mkF H00 st1 cD_agg cD_pagg cD_int cD_bool cD_str cD_sl cD_lit

section
variable (m key v : Val) (hk : ∀ H, W 16 [] H = some (.ret (.p (.bool true)), H))
  (a15 : ∀ H, W 15 [.p (enc m)] H = some (.ret (.p (.bool true)), H)) (b15 : ∀ H, W 15 [.p (enc key)] H = some (.ret (.p (.bool true)), H)) (c15 : ∀ H, W 15 [.p (enc v)] H = some (.ret (.p (.bool true)), H))
  (h20 : ∀ H, W 20 [.p (enc Val.zero)] H = some (.ret (.p (.bool true)), H))
include hk a15 b15 c15 h20

/-- No map. -/
theorem maps_no (x : Bool) (a19 : ∀ H, W 19 [.p (enc m)] H = some (.ret (.p (.bool x)), H)) (a54 : x = true → ∀ H, W 54 [.p (enc m)] H = some (.ret (.p (.bool false)), H))
    (h51 : ∀ H, W 51 [.p (enc m), .p (enc key)] H = some (.ret (.tup [.p (enc Val.zero), .p (.int .i64 2)]), H))
    (h52 : ∀ H, W 52 [.p (enc m), .p (enc key), .p (enc v)] H = some (.ret (.tup [.p (enc Val.zero), .p (.int .i64 2)]), H))
    (h53 : ∀ H, W 53 [.p (enc m)] H = some (.ret (.tup [.p (enc Val.zero), .p (.int .i64 2)]), H)) :
    ∃ B, E false ⟨0, 0⟩ 12 code12 (mkF 0 [.p (enc m), .p (enc key), .p (enc v)]) H00 = some (.ret, [(6, .p (.bool true))], ⟨B, []⟩) := by
  cases x with
  | false => exact ⟨_, by simp [code12, Tryz.f12, hk, a15, b15, c15, h20, a19, h51, h52, h53, z25', splice]; rfl⟩
  | true => exact ⟨_, by simp [code12, Tryz.f12, hk, a15, b15, c15, h20, a19, a54 rfl, h51, h52, h53, z25', splice]; rfl⟩

variable (a19 : ∀ H, W 19 [.p (enc m)] H = some (.ret (.p (.bool true)), H)) (a54 : ∀ H, W 54 [.p (enc m)] H = some (.ret (.p (.bool true)), H)) (k : Val)
  (h53 : ∀ H, W 53 [.p (enc m)] H = some (.ret (.tup [.p (enc k), .p (.int .i64 0)]), H)) (h55 : ∀ H, W 55 [.p (enc m)] H = some (.ret (.p (enc k)), H)) (e22 : ∀ H, W 22 [.p (enc k), .p (enc k)] H = some (.ret (.p (.bool true)), H))
include a19 a54 h53 h55 e22

/-- The key is none. -/
theorem maps_key (b19 : ∀ H, W 19 [.p (enc key)] H = some (.ret (.p (.bool false)), H))
    (h51 : ∀ H, W 51 [.p (enc m), .p (enc key)] H = some (.ret (.tup [.p (enc Val.zero), .p (.int .i64 2)]), H))
    (h52 : ∀ H, W 52 [.p (enc m), .p (enc key), .p (enc v)] H = some (.ret (.tup [.p (enc Val.zero), .p (.int .i64 2)]), H)) :
    ∃ B, E false ⟨0, 0⟩ 12 code12 (mkF 0 [.p (enc m), .p (enc key), .p (enc v)]) H00 = some (.ret, [(6, .p (.bool true))], ⟨B, []⟩) :=
  ⟨_, by simp [code12, Tryz.f12, hk, a15, b15, c15, h20, a19, a54, h51, h52, h53, h55, e22, b19, z25', splice]; rfl⟩

variable (b19 : ∀ H, W 19 [.p (enc key)] H = some (.ret (.p (.bool true)), H)) (c : Bool) (c19 : ∀ H, W 19 [.p (enc v)] H = some (.ret (.p (.bool c)), H)) (y y' : Val) (f : Int)
  (h52 : ∀ H, W 52 [.p (enc m), .p (enc key), .p (enc v)] H = some (.ret (.tup [.p (enc y), .p (.int .i64 f)]), H))
  (hc : c = false → y = Val.zero ∧ f = 2) (h57 : c = true → ∀ H, W 57 [.p (enc m), .p (enc key), .p (enc v)] H = some (.ret (.p (enc y')), H))
  (h40 : c = true → ∀ H, W 40 [.p (enc y), .p (.int .i64 f), .p (enc y')] H = some (.ret (.p (.bool true)), H))
include b19 c19 h52 hc h57 h40

theorem maps_none (h51 : ∀ H, W 51 [.p (enc m), .p (enc key)] H = some (.ret (.tup [.p (enc Val.zero), .p (.int .i64 5)]), H))
    (h56 : ∀ H, W 56 [.p (enc m), .p (enc key)] H = some (.ret (.tup [.p (enc Val.zero), .p (.bool false)]), H)) :
    ∃ B, E false ⟨0, 0⟩ 12 code12 (mkF 0 [.p (enc m), .p (enc key), .p (enc v)]) H00 = some (.ret, [(6, .p (.bool true))], ⟨B, []⟩) := by
  cases c with
  | false =>
    obtain ⟨rfl, rfl⟩ := hc rfl
    exact ⟨_, by simp [code12, Tryz.f12, hk, a15, b15, c15, h20, a19, a54, h51, h52, h53, h55, e22, b19, h56, c19, z25', splice]; rfl⟩
  | true => exact ⟨_, by simp [code12, Tryz.f12, hk, a15, b15, c15, h20, a19, a54, h51, h52, h53, h55, e22, b19, h56, c19, h57 rfl, h40 rfl, z25', splice]; rfl⟩

theorem maps_some (u : Val) (h51 : ∀ H, W 51 [.p (enc m), .p (enc key)] H = some (.ret (.tup [.p (enc u), .p (.int .i64 0)]), H))
    (h56 : ∀ H, W 56 [.p (enc m), .p (enc key)] H = some (.ret (.tup [.p (enc u), .p (.bool true)]), H)) (u22 : ∀ H, W 22 [.p (enc u), .p (enc u)] H = some (.ret (.p (.bool true)), H)) :
    ∃ B, E false ⟨0, 0⟩ 12 code12 (mkF 0 [.p (enc m), .p (enc key), .p (enc v)]) H00 = some (.ret, [(6, .p (.bool true))], ⟨B, []⟩) := by
  cases c with
  | false =>
    obtain ⟨rfl, rfl⟩ := hc rfl
    exact ⟨_, by simp [code12, Tryz.f12, hk, a15, b15, c15, h20, a19, a54, h51, h52, h53, h55, e22, b19, h56, u22, c19, z25', splice]; rfl⟩
  | true => exact ⟨_, by simp [code12, Tryz.f12, hk, a15, b15, c15, h20, a19, a54, h51, h52, h53, h55, e22, b19, h56, u22, c19, h57 rfl, h40 rfl, z25', splice]; rfl⟩
end

theorem law12_W (m key v : Val) (H : Hp) : W 12 [.p (enc m), .p (enc key), .p (enc v)] H = some (.ret (.p (.bool true)), H) := by
  refine W12_of rfl (by simp) ?_
  have hk := fun H => known_W H
  have a15 := fun H => small_W m H
  have b15 := fun H => small_W key H
  have c15 := fun H => small_W v H
  suffices key' : ∃ B, E false ⟨0, 0⟩ 12 code12 (mkF 0 [.p (enc m), .p (enc key), .p (enc v)]) H00 = some (.ret, [(6, .p (.bool true))], ⟨B, []⟩) by
    obtain ⟨B, key'⟩ := key'
    rw [key']
    simp [fnOut, retOut, resD, retsD, retD, oneD, D.noRefs, D.noRef, alone, Hp.cut]
  cases sa : m.small with
  | false => rw [sa] at a15; exact ⟨_, by simp [code12, Tryz.f12, a15, hk]; rfl⟩
  | true =>
  rw [sa] at a15
  cases sb : key.small with
  | false => rw [sb] at b15; exact ⟨_, by simp [code12, Tryz.f12, a15, b15, hk]; rfl⟩
  | true =>
  rw [sb] at b15
  cases sc : v.small with
  | false => rw [sc] at c15; exact ⟨_, by simp [code12, Tryz.f12, a15, b15, c15, hk]; rfl⟩
  | true =>
  rw [sc] at c15
  obtain ⟨fa, ba⟩ := small_fine sa
  obtain ⟨fb, bb⟩ := small_fine sb
  obtain ⟨fc, bc⟩ := small_fine sc
  have a19 := fun H => valid_W m fa ba H
  have b19 := fun H => valid_W key fb bb H
  have c19 := fun H => valid_W v fc bc H
  have a54 := fun H => isMap54_W m fa H
  have h51 := fun H => look51_W m key H
  have h52 := fun H => lay52_W m key v H
  have h53 := fun H => keys53_W m H
  have h20 := fun H => none_W Val.zero zero_fine H
  rw [none_zero] at h20
  have hsame := isMap_same m
  cases hm : m.isMap with
  | false =>
    rw [hm] at hsame
    simp only [Look51, Lay52, Keys53, hm, Bool.false_and, Bool.false_eq_true, if_false] at h51 h52 h53
    exact maps_no m key v hk a15 b15 c15 h20 m.valid a19 (fun hv H => by rw [a54]; rw [hv, Bool.true_and] at hsame; rw [← hsame]) h51 h52 h53
  | true =>
  rw [hm] at hsame
  obtain ⟨hvm, hrm⟩ := Bool.and_eq_true_iff.1 hsame.symm
  rw [hvm] at a19
  rw [hrm] at a54
  obtain ⟨hs, hkd⟩ := isMap_keyed hm
  obtain ⟨p1, p2, p3⟩ := valid_parts hvm
  have hl := valid_len hvm
  have hkf : ∀ u ∈ m.ps.map Val.k0, u.fine := fun u hu => by
    obtain ⟨p, hp', rfl⟩ := List.mem_map.1 hu
    exact fine_mem (p1 p hp') _ (k0_mem (hkd.pair p hp'))
  have hks : Shp (m.ps.map Val.k0) := fun u hu => by
    obtain ⟨p, hp', rfl⟩ := List.mem_map.1 hu
    exact k0_shaped (hkd.pair p hp') (p2 p hp')
  have hfit := keys_fit hvm hkd.pair
  have h55 := fun H => keys55_W m (by omega) fa hkd.pair H
  rw [fold_id hks hkd.up] at h55
  simp only [Keys53, hm, if_true, made_two, mdV, mdE, hfit] at h53
  have hsf : (setV (m.ps.map Val.k0)).fine := ⟨by simp; omega, fines_of _ hkf⟩
  have e22 := fun H => equal_W (setV (m.ps.map Val.k0)) hsf (setV (m.ps.map Val.k0)) H
  rw [eqb_self] at e22
  cases hkv : key.valid with
  | false =>
    rw [hkv] at b19
    simp only [Look51, Lay52, hm, hkv, Bool.true_and, Bool.and_false, Bool.false_and, Bool.false_eq_true, if_false] at h51 h52
    exact maps_key m key v hk a15 b15 c15 h20 a19 a54 _ h53 h55 e22 b19 h51 h52
  | true =>
  rw [hkv] at b19
  have h56 := fun H => look56_W m key fa hkd.pair H
  have h57 := fun H => lay57_W m key v (by omega) fa fb fc hkd.pair H
  simp only [Look51, hm, hkv, Bool.and_self, if_true] at h51
  -- what is laid
  have hlay : ∃ y f, (∀ H, W 52 [.p (enc m), .p (enc key), .p (enc v)] H = some (.ret (.tup [.p (enc y), .p (.int .i64 f)]), H)) ∧ (v.valid = false → y = Val.zero ∧ f = 2) ∧
      (v.valid = true → ∀ H, W 40 [.p (enc y), .p (.int .i64 f), .p (enc (setV (foldW [] (tupV [key, v] :: lessK key m.ps))))] H = some (.ret (.p (.bool true)), H)) := by
    cases hvv : v.valid with
    | false =>
      simp only [Lay52, hm, hkv, hvv, Bool.and_self, Bool.and_false, Bool.false_eq_true, if_false] at h52
      exact ⟨_, _, h52, fun _ => ⟨rfl, rfl⟩, fun h => by cases h⟩
    | true =>
      simp only [Lay52, hm, hkv, hvv, Bool.and_self, if_true, made_two] at h52
      refine ⟨_, _, h52, fun h => (by cases h), fun _ H => ?_⟩
      rw [lay_same hkd p2 (up_incr.2 (set_incr hs)) (valid_shaped hkv) (valid_shaped hvv)]
      have hn1 := ((valid_iff m).1 hvm).1.1
      have hn2 := ((valid_iff key).1 hkv).1.1
      have hn3 := ((valid_iff v).1 hvv).1.1
      rw [nodes_eq m] at hn1
      have hnn := nodesL_mg (delL key m.ps) [tupV [key, v]]
      have hdn : nodesL (delL key m.ps) ≤ nodesL m.ps := nodes_filter _ _
      simp only [nodesL, nodes_eq (tupV [key, v]), tupV_ps] at hnn
      have hfin : ∀ u ∈ mg (delL key m.ps) [tupV [key, v]], u.fine := fines_mem (nodesL_fine _ (by omega))
      have hlen := nodesL_len (mg (delL key m.ps) [tupV [key, v]])
      rw [result_W _ _ _ (mdV_fine (by omega) hfin), md_result]
  obtain ⟨y, f, h52, hc, h40⟩ := hlay
  unfold Look56 at h56
  cases hlk : lookR key m.ps with
  | none =>
    simp only [hlk] at h51 h56
    exact maps_none m key v hk a15 b15 c15 h20 a19 a54 _ h53 h55 e22 b19 _ c19 y _ f h52 hc (fun _ => h57) h40 h51 h56
  | some u =>
    simp only [hlk] at h51 h56
    have hu : u.fine := by
      have : ∀ l : List Val, (∀ p ∈ l, p ∈ m.ps) → lookR key l = some u → u.fine := by
        intro l
        induction l with
        | nil => intro _ h; cases h
        | cons p r ih =>
          intro hl h
          simp only [lookR] at h
          split at h
          · injection h with h
            rw [← h]
            exact fine_mem (p1 p (hl p (by simp))) _ (k1_mem (hkd.pair p (hl p (by simp))))
          · exact ih (fun q hq => hl q (by simp [hq])) h
      exact this m.ps (fun _ h => h) hlk
    have u22 := fun H => equal_W u hu u H
    rw [eqb_self] at u22
    exact maps_some m key v hk a15 b15 c15 h20 a19 a54 _ h53 h55 e22 b19 _ c19 y _ f h52 hc (fun _ => h57) h40 u h51 h56 u22
end Go.Vi
end
