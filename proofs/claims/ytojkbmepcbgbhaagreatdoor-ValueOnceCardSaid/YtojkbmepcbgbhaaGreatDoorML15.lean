/- It is proved here that the law ValueOnce answers true in the evaluator; no condition but a length. -/
import Derived.Test.YtojkbmepcbgbhaaGreatDoorMAH
import Derived.Test.YtojkbmepcbgbhaaGreatDoorML4
import Derived.Test.YtojkbmepcbgbhaaGreatDoorML8
set_option linter.unusedVariables false
set_option linter.unusedSimpArgs false

section
/- Vi: the law ValueOnce (f15): true. No conditions but a length. -/
namespace Go.Vi
open Go Go.Lib Go.Proofs
set_option maxRecDepth 100000
attribute [local simp] E_skip E_ret E_exit E_text E_draw E_seq E_cond E_block E_scope E_loop runOps runOp runDraw runVF runV finV gate FlOK wantD exec fin opd look putF norm constD constC fieldAddrD loadD storeD opCall lenD binD isShift intP strP numD indexAddrD indexD D.pd? D.pds? cells_enc sub capsOf callD argsD argD D.nf enc_agg unP box_enc cellD mkF H00 st1 cD_agg cD_pagg cD_int cD_bool cD_str cD_sl cD_lit cD_own

section
variable (l : List Val) (x v : Val) (R : Arr) (is : Bool)
def hpO : Hp := ⟨[box25 v, box25 x, box25 x], [R]⟩
def frO (i : Nat) (met : Bool) : Fr := [(0, .p (.sl (l.map enc))), (5, .ptr 0 0), (7, .ptr 1 0), (11, .p (.bool is)), (12, .p (.int .i64 0)), (13, .p (.bool met)), (14, .p (.int .i64 i))]
def frN (met : Bool) (i : Nat) : Fr := [(7, .ptr 1 0), (11, .p (.bool is)), (12, .p (.int .i64 0)), (13, .p (.bool met)), (17, .p (.int .i64 ((i : Int) + 1)))]

theorem loopO15 (hl : l.length ≤ 100) (h23 : ∀ u ∈ l, ∀ H, W 23 [.p (enc u), .p (enc v)] H = some (.ret (.p (.bool (u.eqb v))), H))
    (h38 : ∀ u ∈ l, ∀ H, W 38 [.p (enc x), .p (enc u)] H = some (.ret (.tup [.p (.bool true), .p (.int .i64 0)]), H)) :
    loopO false ⟨0, 0⟩ 15 lp15_0 3 1 (frO l is 0 false) (hpO x v R) =
      some (.exit 0, frO l is l.length (foldN (fun i met => met || (l.getD i x).eqb v) l.length 0 false) ++ [(110, .p (.bool false))], hpO x v R) := by
  refine for_fold (α := Bool) hd15_0 l.length (fun i met => frO l is i met) (fun _ _ => hpO x v R) (fun i met => met || (l.getD i x).eqb v) (fun _ _ => True)
    (fun met => (.exit 0, frO l is l.length met ++ [(110, .p (.bool false))], hpO x v R)) (fun _ => by simp) (fun met _ => ?_) (fun i met hi _ => ⟨trivial, ?_⟩) (nB := 3) (nA := 1) (a := false) (F := frO l is 0 false) (H := hpO x v R) trivial (by simp [cutD, frO, frNo, hpO, box25, blkNo, D.noRef, D.noRefs, Hp.cut])
  · simp [lp15_0, code15, Tryz.f15, frO, hpO]
  · have hw : IntKind.i64.wrap ((i : Int) + 1) = (i : Int) + 1 := wrap64 (by omega) (by omega)
    have hg : l.getD i x = l[i] := by simp [List.getD_eq_getElem?_getD, hi]
    have a1 := h23 l[i] (List.getElem_mem hi)
    have a2 := h38 l[i] (List.getElem_mem hi)
    rw [hg]
    cases met with
    | true =>
      refine ⟨_, _, by simp [lp15_0, code15, Tryz.f15, frO, hpO, box25, hi, a2, hw]; exact ⟨rfl, rfl⟩, by simp [cutD, frO, frNo, hpO, box25, blkNo, D.noRef, D.noRefs, Hp.cut]⟩
    | false =>
      refine ⟨_, _, by simp [lp15_0, code15, Tryz.f15, frO, hpO, box25, hi, a1, a2, hw]; exact ⟨rfl, rfl⟩, by simp [cutD, frO, frNo, hpO, box25, blkNo, D.noRef, D.noRefs, Hp.cut]⟩

theorem loopN15 (met : Bool) (hp : 1 ≤ x.ps.length) (hp2 : x.ps.length ≤ 1000) (h26 : ∀ i (hi : i + 1 < x.ps.length), ∀ H, W 26 [.p (enc x.ps[i]), .p (enc x.ps[i + 1])] H = some (.ret (.tup [.p (.int .i64 (-1)), .p (.bool true)]), H)) :
    loopO false ⟨0, 0⟩ 15 lp15_1 3 1 (frN is met 0) (hpO x v R) = some (.exit 2, frN is met (x.ps.length - 1) ++ [(141, .p (.bool false))], hpO x v R) := by
  have key := for_all (mu := false) (m := ⟨0, 0⟩) (f := 15) (c := lp15_1) (nB := 3) (nA := 1) hd15_1 (x.ps.length - 1) (frN is met) (hpO x v R) (fun _ => true)
    (ex := (.exit 2, frN is met (x.ps.length - 1) ++ [(141, .p (.bool false))], hpO x v R)) (bad := (.ret, [], hpO x v R)) (by simp) (by simp) ?_ (fun i hi => ?_) (F := frN is met 0) (H := hpO x v R)
    (by simp [cutD, frN, frNo, hpO, box25, blkNo, D.noRef, D.noRefs, Hp.cut])
  · rw [key, if_pos (by simp)]
  · have e : ((x.ps.length - 1 : Nat) : Int) + 1 = x.ps.length := by omega
    have hn : ¬ ((x.ps.length - 1 : Nat) : Int) + 1 < x.ps.length := by omega
    simp [lp15_1, code15, Tryz.f15, frN, hpO, box25, hn]
  · left
    have hlt : i + 1 < x.ps.length := by omega
    have hlt0 : i < x.ps.length := by omega
    have hw : IntKind.i64.wrap ((i : Int) + 1 + 1) = (i : Int) + 1 + 1 := wrap64 (by omega) (by omega)
    have hw2 : IntKind.i64.wrap ((i : Int) + 1 - 1) = (i : Int) := by rw [wrap64 (by omega) (by omega)]; omega
    have hw3 : IntKind.i64.wrap (i : Int) = (i : Int) := wrap64 (by omega) (by omega)
    have a1 := h26 i hlt
    have hlt' : (i : Int) + 1 < x.ps.length := by omega
    have h0 : (0 : Int) ≤ (i : Int) + 1 := by omega
    have hn : ((i : Int) + 1).toNat = i + 1 := by omega
    refine ⟨rfl, frN is met (i + 1), hpO x v R, by simp [lp15_1, code15, Tryz.f15, frN, hpO, box25, hlt, hlt0, hlt', h0, hn, a1, hw, hw2, hw3], by simp [cutD, frN, frNo, hpO, box25, blkNo, D.noRef, D.noRefs, Hp.cut]⟩
end

/-- The list turned, and the list. -/
theorem turned_mem {l : List Val} {n : Nat} (u : Val) : u ∈ l.drop n ++ l ↔ u ∈ l := by
  rw [List.mem_append]
  exact ⟨fun h => h.elim (fun h => List.mem_of_mem_drop h) id, .inr⟩

theorem any_fold (l : List Val) (x v : Val) : foldN (fun i met => met || (l.getD i x).eqb v) l.length 0 false = l.any (fun u => u.eqb v) := by
  have key : ∀ (l pre : List Val) (b : Bool), foldN (fun i met => met || ((pre ++ l).getD i x).eqb v) l.length pre.length b = (b || l.any (fun u => u.eqb v)) := by
    intro l
    induction l with
    | nil => intro pre b; simp [foldN]
    | cons y l ih =>
      intro pre b
      have := ih (pre ++ [y]) (b || y.eqb v)
      simp only [List.append_assoc, List.singleton_append, List.length_append, List.length_singleton] at this
      have e : (pre ++ y :: l).getD pre.length x = y := by simp [List.getD_eq_getElem?_getD]
      simp only [List.length_cons, foldN, e, this, List.any_cons, Bool.or_assoc]
  simpa using key l [] false

theorem sl_turn (l : List Val) (t : Int) (h0 : 0 ≤ t) (ht : t.toNat < l.length) : (((l.map enc).take (l.map enc).length).drop t.toNat) = (l.drop t.toNat).map enc := by
  rw [List.take_length, List.map_drop]

theorem once_run (l : List Val) (turn : Int) (v x : Val) (l10 : l.length ≤ 10) (hne : ¬ l.length = 0) (t0 : ¬ turn < 0) (t1 : ¬ (l.length : Int) ≤ turn)
    (hk : ∀ H, W 17 [] H = some (.ret (.p (.bool true)), H)) (h59 : ∀ H, W 59 [.p (.sl (l.map enc))] H = some (.ret (.p (.bool true)), H)) (h61 : ∀ H, W 61 [.p (.sl (l.map enc))] H = some (.ret (.p (.bool true)), H))
    (h16 : ∀ H, W 16 [.p (enc v)] H = some (.ret (.p (.bool true)), H)) (h20 : ∀ H, W 20 [.p (enc v)] H = some (.ret (.p (.bool true)), H))
    (s1 : ∀ H, W 60 [.p (.sl (l.map enc))] H = some (.ret (.tup [.p (enc x), .p (.int .i64 3)]), H))
    (s2 : ∀ H, W 60 [.p (.sl ((l.map enc).drop turn.toNat ++ l.map enc))] H = some (.ret (.tup [.p (enc x), .p (.int .i64 3)]), H)) :
    ∃ B A, E false ⟨0, 0⟩ 15 code15 (mkF 0 [.p (.sl (l.map enc)), .p (.int .i64 turn), .p (enc v)]) H00 = some (.ret, [(6, .p (.bool true))], ⟨B, A⟩) := by
  have hne' : ¬ l = [] := fun e => hne (by rw [e]; rfl)
  have t2 : 0 ≤ turn := by omega
  have t3 : turn ≤ l.length := by omega
  have t4 : turn < l.length := by omega
  have t5 : turn.toNat ≤ l.length := by omega
  have fld : fits 4 ((l.map enc).drop turn.toNat) = true := by rw [← List.map_drop]; exact fit_l _
  have fld2 : fits 4 ((l.drop turn.toNat).map enc) = true := fit_l _
  have tkl : (l.map enc).take l.length = l.map enc := List.take_of_length_le (by simp)
  have b1 : (l.length - turn.toNat) * 56 ≤ 140737488355328 := by omega
  have b2 : (l.length - turn.toNat + l.length) * 56 ≤ 140737488355328 := by omega
  have fit3 : fits 4 ((l.map enc).drop turn.toNat ++ l.map enc) = true := by rw [← List.map_drop, ← List.map_append]; exact fit_l _
  have tk2 : l.take l.length = l := List.take_of_length_le (by simp)
  exact ⟨_, _, by simp [code15, Tryz.f15, h59, h61, hk, hne, hne', t0, t1, t2, t3, t4, t5, h16, h20, s1, s2, box25, sliceD, boundD, appendD, srcD, zok25, fit_l, fld, fld2, fit3, fit_n, b1, b2, tkl, tk2, newRow, splice, z25', Hp.live]; exact ⟨rfl, rfl⟩⟩

theorem once_fit (l : List Val) (turn : Int) (v x : Val) (is : Bool) (l10 : l.length ≤ 10) (hne : ¬ l.length = 0) (t0 : ¬ turn < 0) (t1 : ¬ (l.length : Int) ≤ turn)
    (hk : ∀ H, W 17 [] H = some (.ret (.p (.bool true)), H)) (h59 : ∀ H, W 59 [.p (.sl (l.map enc))] H = some (.ret (.p (.bool true)), H)) (h61 : ∀ H, W 61 [.p (.sl (l.map enc))] H = some (.ret (.p (.bool true)), H))
    (h16 : ∀ H, W 16 [.p (enc v)] H = some (.ret (.p (.bool true)), H)) (h20 : ∀ H, W 20 [.p (enc v)] H = some (.ret (.p (.bool true)), H))
    (s1 : ∀ H, W 60 [.p (.sl (l.map enc))] H = some (.ret (.tup [.p (enc x), .p (.int .i64 0)]), H))
    (s2 : ∀ H, W 60 [.p (.sl ((l.map enc).drop turn.toNat ++ l.map enc))] H = some (.ret (.tup [.p (enc x), .p (.int .i64 0)]), H))
    (he : ∀ H, W 23 [.p (enc x), .p (enc x)] H = some (.ret (.p (.bool true)), H)) (hx : ∀ H, W 20 [.p (enc x)] H = some (.ret (.p (.bool true)), H)) (xk0 : x.k = 5) (xl : x.ps.length ≤ l.length) (xp : 1 ≤ x.ps.length)
    (h38 : ∀ H, W 38 [.p (enc x), .p (enc v)] H = some (.ret (.tup [.p (.bool is), .p (.int .i64 0)]), H)) (his : is = l.any (fun u => u.eqb v))
    (g23 : ∀ u ∈ l, ∀ H, W 23 [.p (enc u), .p (enc v)] H = some (.ret (.p (.bool (u.eqb v))), H))
    (g38 : ∀ u ∈ l, ∀ H, W 38 [.p (enc x), .p (enc u)] H = some (.ret (.tup [.p (.bool true), .p (.int .i64 0)]), H))
    (g26 : ∀ i (hi : i + 1 < x.ps.length), ∀ H, W 26 [.p (enc x.ps[i]), .p (enc x.ps[i + 1])] H = some (.ret (.tup [.p (.int .i64 (-1)), .p (.bool true)]), H)) :
    ∃ B A, E false ⟨0, 0⟩ 15 code15 (mkF 0 [.p (.sl (l.map enc)), .p (.int .i64 turn), .p (enc v)]) H00 = some (.ret, [(6, .p (.bool true))], ⟨B, A⟩) := by
  have hne' : ¬ l = [] := fun e => hne (by rw [e]; rfl)
  have t2 : 0 ≤ turn := by omega
  have t3 : turn ≤ l.length := by omega
  have t4 : turn < l.length := by omega
  have t5 : turn.toNat ≤ l.length := by omega
  have fld : fits 4 ((l.map enc).drop turn.toNat) = true := by rw [← List.map_drop]; exact fit_l _
  have fld2 : fits 4 ((l.drop turn.toNat).map enc) = true := fit_l _
  have tkl : (l.map enc).take l.length = l.map enc := List.take_of_length_le (by simp)
  have b1 : (l.length - turn.toNat) * 56 ≤ 140737488355328 := by omega
  have b2 : (l.length - turn.toNat + l.length) * 56 ≤ 140737488355328 := by omega
  have fit3 : fits 4 ((l.map enc).drop turn.toNat ++ l.map enc) = true := by rw [← List.map_drop, ← List.map_append]; exact fit_l _
  have xl' : ¬ (l.length : Int) < x.ps.length := by omega
  have xk : (x.k = 5) = True := eq_true xk0
  have hO := loopO15 l x v ⟨1, 25, 4, false, true, (l.map enc).drop turn.toNat ++ l.map enc⟩ is (by omega) g23 g38
  rw [any_fold, ← his] at hO
  have hN := loopN15 x v ⟨1, 25, 4, false, true, (l.map enc).drop turn.toNat ++ l.map enc⟩ is is xp (by omega) g26
  simp only [lp15_0, lp15_1, code15, Tryz.f15, frO, frN, hpO, box25] at hO hN
  have z0 : ((0 : Nat) : Int) = 0 := rfl
  simp only [z0, Int.zero_add] at hO hN
  cases is with
  | true => exact ⟨_, _, by simp [code15, Tryz.f15, h59, h61, hk, hne, hne', t0, t1, t2, t3, t4, t5, h16, h20, s1, s2, he, hx, xk, xl', h38, hO, hN, box25, sliceD, boundD, appendD, srcD, zok25, fit_l, fld, fld2, fit3, fit_n, b1, b2, tkl, newRow, splice, z25', Hp.live]; exact ⟨rfl, rfl⟩⟩
  | false => exact ⟨_, _, by simp [code15, Tryz.f15, h59, h61, hk, hne, hne', t0, t1, t2, t3, t4, t5, h16, h20, s1, s2, he, hx, xk, xl', h38, hO, hN, box25, sliceD, boundD, appendD, srcD, zok25, fit_l, fld, fld2, fit3, fit_n, b1, b2, tkl, newRow, splice, z25', Hp.live]; exact ⟨rfl, rfl⟩⟩

theorem law15_W (l : List Val) (hlen : l.length < 9223372036854775807) (turn : Int) (v : Val) (H : Hp) : W 15 [.p (.sl (l.map enc)), .p (.int .i64 turn), .p (enc v)] H = some (.ret (.p (.bool true)), H) := by
  refine W15_of rfl (by simp) ?_
  have hk := fun H => known_W H
  have h59 := fun H => listed58_W l hlen H
  suffices key' : ∃ B A, E false ⟨0, 0⟩ 15 code15 (mkF 0 [.p (.sl (l.map enc)), .p (.int .i64 turn), .p (enc v)]) H00 = some (.ret, [(6, .p (.bool true))], ⟨B, A⟩) by
    obtain ⟨B, A, key'⟩ := key'
    rw [key']
    simp [fnOut, retOut, resD, retsD, retD, oneD, D.noRefs, D.noRef, alone, Hp.cut]
  cases hl : listedB l with
  | false => rw [hl] at h59; exact ⟨_, _, by simp [code15, Tryz.f15, h59, hk]; exact ⟨rfl, rfl⟩⟩
  | true =>
  rw [hl] at h59
  simp only [listedB, Bool.and_eq_true, decide_eq_true_eq] at hl
  obtain ⟨⟨l10, lsm⟩, lnd⟩ := hl
  have hsm : ∀ u ∈ l, u.fine ∧ u.brief = true := fun u hu => small_fine (List.all_eq_true.1 lsm u hu)
  have h61 := fun H => valid60_W l hlen hsm H
  cases hv : l.all Val.valid with
  | false => rw [hv] at h61; exact ⟨_, _, by simp [code15, Tryz.f15, h59, h61, hk]; exact ⟨rfl, rfl⟩⟩
  | true =>
  rw [hv] at h61
  have hvm : ∀ u ∈ l, u.valid = true := List.all_eq_true.1 hv
  have hsh : Shp l := fun u hu => valid_shaped (hvm u hu)
  by_cases hne : l.length = 0
  · exact ⟨_, _, by simp [code15, Tryz.f15, h59, h61, hk, hne]; exact ⟨rfl, rfl⟩⟩
  have hne' : ¬ l = [] := fun e => hne (by rw [e]; rfl)
  by_cases t0 : turn < 0
  · exact ⟨_, _, by simp [code15, Tryz.f15, h59, h61, hk, hne, hne', t0]; exact ⟨rfl, rfl⟩⟩
  by_cases t1 : (l.length : Int) ≤ turn
  · exact ⟨_, _, by simp [code15, Tryz.f15, h59, h61, hk, hne, hne', t0, t1]; exact ⟨rfl, rfl⟩⟩
  have h16 := fun H => small_W v H
  cases hvs : v.small with
  | false => rw [hvs] at h16; exact ⟨_, _, by simp [code15, Tryz.f15, h59, h61, hk, hne, hne', t0, t1, h16]; exact ⟨rfl, rfl⟩⟩
  | true =>
  rw [hvs] at h16
  obtain ⟨vf, vb⟩ := small_fine hvs
  have h20 := fun H => valid_W v vf vb H
  cases hvv : v.valid with
  | false => rw [hvv] at h20; exact ⟨_, _, by simp [code15, Tryz.f15, h59, h61, hk, hne, hne', t0, t1, h16, h20]; exact ⟨rfl, rfl⟩⟩
  | true =>
  rw [hvv] at h20
  have t2 : 0 ≤ turn := by omega
  have sh2 : Shp (l.drop turn.toNat ++ l) := fun u hu => hsh u ((turned_mem u).1 hu)
  have same : foldW [] (l.drop turn.toNat ++ l) = foldW [] l := foldW_same sh2 hsh turned_mem
  have all2 : (l.drop turn.toNat ++ l).all Val.valid = true := List.all_eq_true.2 fun u hu => hvm u ((turned_mem u).1 hu)
  have len2 : (l.drop turn.toNat ++ l).length ≤ 200 := by rw [List.length_append, List.length_drop]; omega
  have s1 := fun H => set59_W l hlen H
  have s2 := fun H => set59_W (l.drop turn.toNat ++ l) (by omega) H
  unfold Set59 at s1 s2
  rw [decide_eq_true (show l.length ≤ 200 by omega), Bool.true_and, hv, if_pos rfl, made_two] at s1
  rw [decide_eq_true len2, Bool.true_and, all2, if_pos rfl, same, made_two, List.map_append, List.map_drop] at s2
  cases hfit : (setV (foldW [] l)).fits with
  | false =>
    simp only [mdV, mdE, hfit, Bool.false_eq_true, if_false] at s1 s2
    exact once_run l turn v Val.zero l10 hne t0 t1 hk h59 h61 h16 h20 s1 s2
  | true =>
    simp only [mdV, mdE, hfit, if_true] at s1 s2
    obtain ⟨hset, hval, hup, hss⟩ := once_valid hsh hfit
    have hfl := foldW_len hsh
    have hmem : ∀ u, u ∈ foldW [] l ↔ u ∈ l := fun u => by rw [(foldW_up l [] (fun _ h => by cases h) hsh List.Pairwise.nil).2.2]; simp
    have hps : (setV (foldW [] l)).ps = foldW [] l := rfl
    have hfx : (setV (foldW [] l)).fine := nodes_fine _ (by have := ((fits_iff _).1 hfit).1; omega)
    have hbx : (setV (foldW [] l)).brief = true := by
      rw [brief_eq, Bool.and_eq_true]
      refine ⟨List.all_eq_true.2 fun u hu => (hsm u ((hmem u).1 hu)).2, rfl⟩
    have he := fun H => equal_W (setV (foldW [] l)) hfx (setV (foldW [] l)) H
    rw [eqb_self] at he
    have hx := fun H => valid_W _ hfx hbx H
    rw [hval] at hx
    have hasP : ∀ u : Val, u.valid = true → ∀ H, W 38 [.p (enc (setV (foldW [] l))), .p (enc u)] H = some (.ret (.tup [.p (.bool (inL u (foldW [] l))), .p (.int .i64 0)]), H) := fun u hu H => by
      rw [has37_W, hset, hu]; rfl
    have pos : 1 ≤ (foldW [] l).length := by
      cases hc : foldW [] l with
      | nil =>
        obtain ⟨y, r, e⟩ : ∃ y r, l = y :: r := by
          cases l with
          | nil => exact absurd rfl hne'
          | cons y r => exact ⟨y, r, rfl⟩
        have := (hmem y).2 (by rw [e]; simp)
        rw [hc] at this
        cases this
      | cons y r => simp
    refine once_fit l turn v (setV (foldW [] l)) (inL v (foldW [] l)) l10 hne t0 t1 hk h59 h61 h16 h20 s1 s2 he hx rfl hfl pos (hasP v hvv) ?_
      (fun u hu H => equal_W u (hsm u hu).1 v H) (fun u hu H => ?_) (fun i hi H => ?_)
    · rw [Bool.eq_iff_iff, inL_mem' hss (valid_shaped hvv), hmem, List.any_eq_true]
      constructor
      · intro h; exact ⟨v, h, eqb_self v⟩
      · rintro ⟨u, hu, h⟩; rw [← (eqb_iff u v).1 h]; exact hu
    · rw [hasP u (hvm u hu), (inL_mem' hss (hsh u hu)).2 ((hmem u).2 hu)]
    · have hi' : i + 1 < (foldW [] l).length := hi
      have m1 := hvm _ ((hmem _).1 (List.getElem_mem (l := foldW [] l) (n := i) (by omega)))
      have m2 := hvm _ ((hmem _).1 (List.getElem_mem (l := foldW [] l) (n := i + 1) hi'))
      have hlt := up_next hup hi'
      have hbd := (cmp_bd _ _ (valid_shaped m1) (valid_shaped m2)).1
      have e1 : (foldW [] l)[i].cmp (foldW [] l)[i + 1] = -1 := by omega
      have := compared_W _ _ m1 m2 H
      rw [e1] at this
      exact this
end Go.Vi
end
