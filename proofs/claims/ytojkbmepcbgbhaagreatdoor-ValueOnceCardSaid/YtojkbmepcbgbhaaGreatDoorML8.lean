/- It is proved here that the law ValueJoins answers true in the evaluator; no condition. -/
import Derived.Test.YtojkbmepcbgbhaaGreatDoorMX
import Derived.Test.YtojkbmepcbgbhaaGreatDoorMH
set_option linter.unusedVariables false
set_option linter.unusedSimpArgs false

section
/- Vi: the law ValueJoins (f8): true. No conditions. -/
namespace Go.Vi
open Go Go.Lib Go.Proofs
set_option maxRecDepth 100000
attribute [local simp] E_skip E_ret E_exit E_text E_draw E_seq E_cond E_block E_scope E_loop runOps runOp runDraw runVF runV finV gate FlOK wantD exec fin opd look putF norm constD constC fieldAddrD loadD storeD opCall lenD binD isShift intP strP numD indexAddrD indexD D.pd? D.pds? cells_enc sub capsOf callD argsD argD D.nf enc_agg unP box_enc cellD mkF H00 st1 cD_agg cD_pagg cD_int cD_bool cD_str cD_sl cD_lit

/-- What value.made answers: the value, the error. -/
def mdV (l : List Val) : Val := if (setV l).fits = true then setV l else Val.zero
def mdE (l : List Val) : Int := if (setV l).fits = true then 0 else 3
theorem made_two (l : List Val) : Made l = [.p (enc (mdV l)), .p (.int .i64 (mdE l))] := by
  unfold Made mdV mdE; split <;> rfl
theorem fines_of : ∀ l : List Val, (∀ u ∈ l, u.fine) → fines l
  | [], _ => trivial
  | v :: r, h => ⟨h v (by simp), fines_of r fun u hu => h u (by simp [hu])⟩
theorem mdV_fine {l : List Val} (hl : l.length ≤ 1000000) (hf : ∀ u ∈ l, u.fine) : (mdV l).fine := by
  unfold mdV
  split
  · unfold setV; simp only [Val.fine]; exact ⟨by omega, fines_of l hf⟩
  · exact zero_fine
theorem md_result (l : List Val) : (if (setV l).fits = true then decide (mdE l = 0) && (mdV l).eqb (setV l) else decide (mdE l = 3) && (mdV l).none) = true := by
  unfold mdV mdE
  cases h : (setV l).fits with
  | true => simp [eqb_self]
  | false => simp [none_zero]
theorem keepL_mem {l m : List Val} {is : Bool} {u : Val} (h : u ∈ keepL l m is) : u ∈ l := (List.mem_filter.1 h).1
theorem keepL_len (l m : List Val) (is : Bool) : (keepL l m is).length ≤ l.length := List.length_filter_le _ _

theorem joins_arg (a b : Val) (hk : ∀ H, W 17 [] H = some (.ret (.p (.bool true)), H)) (a15 : ∀ H, W 16 [.p (enc a)] H = some (.ret (.p (.bool true)), H)) (b15 : ∀ H, W 16 [.p (enc b)] H = some (.ret (.p (.bool true)), H))
    (h33 : ∀ H, W 34 [.p (enc a), .p (enc b)] H = some (.ret (.tup [.p (enc Val.zero), .p (.int .i64 2)]), H)) (h34 : ∀ H, W 35 [.p (enc a), .p (enc b)] H = some (.ret (.tup [.p (enc Val.zero), .p (.int .i64 2)]), H))
    (h35 : ∀ H, W 36 [.p (enc a), .p (enc b)] H = some (.ret (.tup [.p (enc Val.zero), .p (.int .i64 2)]), H)) (h36 : ∀ H, W 37 [.p (enc a), .p (enc b)] H = some (.ret (.tup [.p (.bool false), .p (.int .i64 2)]), H))
    (x y z : Bool) (i : Int) (is : Bool) (h37 : ∀ H, W 38 [.p (enc a), .p (enc b)] H = some (.ret (.tup [.p (.bool is), .p (.int .i64 i)]), H))
    (a19 : ∀ H, W 20 [.p (enc a)] H = some (.ret (.p (.bool x)), H)) (b19 : ∀ H, W 20 [.p (enc b)] H = some (.ret (.p (.bool y)), H)) (a38 : ∀ H, W 39 [.p (enc a)] H = some (.ret (.p (.bool z)), H))
    (h20 : ∀ H, W 21 [.p (enc Val.zero)] H = some (.ret (.p (.bool true)), H))
    (hc : (x = false ∨ (x = true ∧ y = false) ∨ (x = true ∧ y = true ∧ z = false)) ∧ i = 2 ∧ is = false) :
    ∃ B, E false ⟨0, 0⟩ 8 code8 (mkF 0 [.p (enc a), .p (enc b)]) H00 = some (.ret, [(4, .p (.bool true))], ⟨B, []⟩) := by
  obtain ⟨hc, rfl, rfl⟩ := hc
  rcases hc with rfl | ⟨rfl, rfl⟩ | ⟨rfl, rfl, rfl⟩
  · exact ⟨_, by simp [code8, Tryz.f8, hk, a15, b15, h33, h34, h35, h36, h37, a19, b19, a38, h20, z25', splice]; rfl⟩
  · exact ⟨_, by simp [code8, Tryz.f8, hk, a15, b15, h33, h34, h35, h36, h37, a19, b19, a38, h20, z25', splice]; rfl⟩
  · exact ⟨_, by simp [code8, Tryz.f8, hk, a15, b15, h33, h34, h35, h36, h37, a19, b19, a38, h20, z25', splice]; rfl⟩

theorem joins_one (a b : Val) (hk : ∀ H, W 17 [] H = some (.ret (.p (.bool true)), H)) (a15 : ∀ H, W 16 [.p (enc a)] H = some (.ret (.p (.bool true)), H)) (b15 : ∀ H, W 16 [.p (enc b)] H = some (.ret (.p (.bool true)), H))
    (h33 : ∀ H, W 34 [.p (enc a), .p (enc b)] H = some (.ret (.tup [.p (enc Val.zero), .p (.int .i64 2)]), H)) (h34 : ∀ H, W 35 [.p (enc a), .p (enc b)] H = some (.ret (.tup [.p (enc Val.zero), .p (.int .i64 2)]), H))
    (h35 : ∀ H, W 36 [.p (enc a), .p (enc b)] H = some (.ret (.tup [.p (enc Val.zero), .p (.int .i64 2)]), H)) (h36 : ∀ H, W 37 [.p (enc a), .p (enc b)] H = some (.ret (.tup [.p (.bool false), .p (.int .i64 2)]), H))
    (is : Bool) (h37 : ∀ H, W 38 [.p (enc a), .p (enc b)] H = some (.ret (.tup [.p (.bool is), .p (.int .i64 0)]), H)) (h39 : ∀ H, W 40 [.p (enc a), .p (enc b)] H = some (.ret (.p (.bool is)), H))
    (a19 : ∀ H, W 20 [.p (enc a)] H = some (.ret (.p (.bool true)), H)) (b19 : ∀ H, W 20 [.p (enc b)] H = some (.ret (.p (.bool true)), H)) (a38 : ∀ H, W 39 [.p (enc a)] H = some (.ret (.p (.bool true)), H)) (b38 : ∀ H, W 39 [.p (enc b)] H = some (.ret (.p (.bool false)), H))
    (h20 : ∀ H, W 21 [.p (enc Val.zero)] H = some (.ret (.p (.bool true)), H)) :
    ∃ B, E false ⟨0, 0⟩ 8 code8 (mkF 0 [.p (enc a), .p (enc b)]) H00 = some (.ret, [(4, .p (.bool true))], ⟨B, []⟩) := by
  exact ⟨_, by simp [code8, Tryz.f8, hk, a15, b15, h33, h34, h35, h36, h37, h39, a19, b19, a38, b38, h20, z25', splice]; rfl⟩

theorem joins_two (a b u m d u' m' d' : Val) (e f g : Int) (hk : ∀ H, W 17 [] H = some (.ret (.p (.bool true)), H)) (a15 : ∀ H, W 16 [.p (enc a)] H = some (.ret (.p (.bool true)), H)) (b15 : ∀ H, W 16 [.p (enc b)] H = some (.ret (.p (.bool true)), H))
    (h33 : ∀ H, W 34 [.p (enc a), .p (enc b)] H = some (.ret (.tup [.p (enc u), .p (.int .i64 e)]), H)) (h34 : ∀ H, W 35 [.p (enc a), .p (enc b)] H = some (.ret (.tup [.p (enc m), .p (.int .i64 f)]), H))
    (h35 : ∀ H, W 36 [.p (enc a), .p (enc b)] H = some (.ret (.tup [.p (enc d), .p (.int .i64 g)]), H)) (w : Bool) (h36 : ∀ H, W 37 [.p (enc a), .p (enc b)] H = some (.ret (.tup [.p (.bool w), .p (.int .i64 0)]), H))
    (is : Bool) (h37 : ∀ H, W 38 [.p (enc a), .p (enc b)] H = some (.ret (.tup [.p (.bool is), .p (.int .i64 0)]), H)) (h39 : ∀ H, W 40 [.p (enc a), .p (enc b)] H = some (.ret (.p (.bool is)), H))
    (a19 : ∀ H, W 20 [.p (enc a)] H = some (.ret (.p (.bool true)), H)) (b19 : ∀ H, W 20 [.p (enc b)] H = some (.ret (.p (.bool true)), H)) (a38 : ∀ H, W 39 [.p (enc a)] H = some (.ret (.p (.bool true)), H)) (b38 : ∀ H, W 39 [.p (enc b)] H = some (.ret (.p (.bool true)), H))
    (h41 : ∀ H, W 42 [.p (enc a), .p (enc b)] H = some (.ret (.p (enc u')), H)) (h42 : ∀ H, W 43 [.p (enc a), .p (enc b)] H = some (.ret (.p (enc m')), H)) (h43 : ∀ H, W 44 [.p (enc a), .p (enc b)] H = some (.ret (.p (enc d')), H)) (h44 : ∀ H, W 45 [.p (enc a), .p (enc b)] H = some (.ret (.p (.bool w)), H))
    (r1 : ∀ H, W 41 [.p (enc u), .p (.int .i64 e), .p (enc u')] H = some (.ret (.p (.bool true)), H)) (r2 : ∀ H, W 41 [.p (enc m), .p (.int .i64 f), .p (enc m')] H = some (.ret (.p (.bool true)), H)) (r3 : ∀ H, W 41 [.p (enc d), .p (.int .i64 g), .p (enc d')] H = some (.ret (.p (.bool true)), H)) :
    ∃ B, E false ⟨0, 0⟩ 8 code8 (mkF 0 [.p (enc a), .p (enc b)]) H00 = some (.ret, [(4, .p (.bool true))], ⟨B, []⟩) := by
  exact ⟨_, by simp [code8, Tryz.f8, hk, a15, b15, h33, h34, h35, h36, h37, h39, a19, b19, a38, b38, h41, h42, h43, h44, r1, r2, r3, z25', splice]; rfl⟩

theorem law8_W (a b : Val) (H : Hp) : W 8 [.p (enc a), .p (enc b)] H = some (.ret (.p (.bool true)), H) := by
  refine W8_of rfl (by simp) ?_
  have hk := fun H => known_W H
  have a15 := fun H => small_W a H
  have b15 := fun H => small_W b H
  suffices key : ∃ B, E false ⟨0, 0⟩ 8 code8 (mkF 0 [.p (enc a), .p (enc b)]) H00 = some (.ret, [(4, .p (.bool true))], ⟨B, []⟩) by
    obtain ⟨B, key⟩ := key
    rw [key]
    simp [fnOut, retOut, resD, retsD, retD, oneD, D.noRefs, D.noRef, alone, Hp.cut]
  cases sa : a.small with
  | false => rw [sa] at a15; exact ⟨_, by simp [code8, Tryz.f8, a15, hk]; rfl⟩
  | true =>
  rw [sa] at a15
  cases sb : b.small with
  | false => rw [sb] at b15; exact ⟨_, by simp [code8, Tryz.f8, a15, b15, hk]; rfl⟩
  | true =>
  rw [sb] at b15
  obtain ⟨fa, ba⟩ := small_fine sa
  obtain ⟨fb, bb⟩ := small_fine sb
  have a19 := fun H => valid_W a fa ba H
  have b19 := fun H => valid_W b fb bb H
  have a38 := fun H => isSet38_W a H
  have b38 := fun H => isSet38_W b H
  have h33 := fun H => union33_W a b H
  have h34 := fun H => meet34_W a b H
  have h35 := fun H => minus35_W a b H
  have h36 := fun H => within36_W a b H
  have h37 := fun H => has37_W a b H
  have h20 := fun H => none_W Val.zero zero_fine H
  rw [none_zero] at h20
  by_cases hall : a.isSet = true ∧ b.valid = true
  · obtain ⟨ha, vb⟩ := hall
    obtain ⟨va, ka⟩ := isSet_valid ha
    obtain ⟨p1, p2, _⟩ := valid_parts va
    have la := valid_len va
    simp only [ha, vb, Bool.and_self, if_true] at h37
    rw [va] at a19; rw [vb] at b19
    rw [show decide (a.k = 5) = true by simp [ka]] at a38
    have h39 := fun H => has39_W a b fa H
    by_cases kb : b.k = 5
    · have hb : b.isSet = true := by simp [Val.isSet, vb, kb]
      obtain ⟨q1, q2, _⟩ := valid_parts vb
      have lb := valid_len vb
      rw [show decide (b.k = 5) = true by simp [kb]] at b38
      simp only [ha, hb, Bool.and_self, if_true, made_two] at h33 h34 h35 h36
      have hu := union_same p2 q2 (up_incr.2 (set_incr ha)) (up_incr.2 (set_incr hb))
      have h41 := fun H => union41_W a b (by omega) (by omega) fa fb H
      rw [hu] at h41
      have h42 := fun H => meet42_W a b (by omega) fb H
      have h43 := fun H => minus43_W a b (by omega) fb H
      have h44 := fun H => within44_W a b (by omega) fb H
      have mg1 : ∀ u ∈ mg a.ps b.ps, u.fine := fun u hu => by
        rcases ((mg_up a.ps b.ps p2 q2 (up_incr.2 (set_incr ha)) (up_incr.2 (set_incr hb))).2 u).1 hu with h | h
        · exact p1 u h
        · exact q1 u h
      have mg2 : (mg a.ps b.ps).length ≤ 1000000 := by
        have h1 := nodesL_mg a.ps b.ps
        have h2 := nodesL_len (mg a.ps b.ps)
        have h3 := (valid_fine va).2
        have h4 := (valid_fine vb).2
        have h5 := nodes_eq a
        have h6 := nodes_eq b
        omega
      have k1 : ∀ is, (keepL a.ps b.ps is).length ≤ 1000000 := fun is => by have := keepL_len a.ps b.ps is; omega
      have k2 : ∀ is, ∀ u ∈ keepL a.ps b.ps is, u.fine := fun is u hu => p1 u (keepL_mem hu)
      have r1 := fun H => result_W (mdV (mg a.ps b.ps)) (mdE (mg a.ps b.ps)) (setV (mg a.ps b.ps)) (mdV_fine mg2 mg1) H
      have r2 := fun H => result_W (mdV (keepL a.ps b.ps true)) (mdE (keepL a.ps b.ps true)) (setV (keepL a.ps b.ps true)) (mdV_fine (k1 true) (k2 true)) H
      have r3 := fun H => result_W (mdV (keepL a.ps b.ps false)) (mdE (keepL a.ps b.ps false)) (setV (keepL a.ps b.ps false)) (mdV_fine (k1 false) (k2 false)) H
      rw [md_result] at r1 r2 r3
      exact joins_two a b _ _ _ _ _ _ _ _ _ hk a15 b15 h33 h34 h35 _ h36 _ h37 h39 a19 b19 a38 b38 h41 h42 h43 h44 r1 r2 r3
    · have hb : b.isSet = false := by simp [Val.isSet, kb]
      rw [show decide (b.k = 5) = false by simp [kb]] at b38
      simp only [ha, hb, Bool.and_false, Bool.false_eq_true, if_false] at h33 h34 h35 h36
      exact joins_one a b hk a15 b15 h33 h34 h35 h36 _ h37 h39 a19 b19 a38 b38 h20
  · have h1 : (a.isSet && b.valid) = false := by
      cases h : a.isSet <;> cases h' : b.valid <;> simp_all
    have h2 : (a.isSet && b.isSet) = false := by
      cases h : a.isSet with
      | false => rfl
      | true =>
        rw [h] at h1
        simp only [Bool.true_and] at h1
        simp [Val.isSet, h1]
    simp only [h1, h2, Bool.false_eq_true, if_false] at h33 h34 h35 h36 h37
    refine joins_arg a b hk a15 b15 h33 h34 h35 h36 a.valid b.valid (decide (a.k = 5)) 2 false h37 a19 b19 a38 h20 ⟨?_, rfl, rfl⟩
    cases h : a.valid with
    | false => exact .inl rfl
    | true =>
      cases h' : b.valid with
      | false => exact .inr (.inl ⟨rfl, rfl⟩)
      | true =>
        refine .inr (.inr ⟨rfl, rfl, ?_⟩)
        rw [h'] at h1
        simpa [Val.isSet, h] using h1
end Go.Vi
end
