/- The tied card of the law ValueLaws is proved here: for every input that can be read as data the law answers true. Conditions: those of the given card. -/
import Derived.Test.YtapnoihkfocgkaaGreatDoorML8
import Derived.Test.YtapnoihkfocgkaaGreatDoorRows
import Derived.Test.YtapnoihkfocgkaaGreatDoorMR
import Derived.LaidMore
import Derived.Stop.Joined
import Derived.Test.YtapnoihkfocgkaaGreatDoorCards
import Derived.Test.YtapnoihkfocgkaaGreatDoorTie
import Derived.SevenTiedAt
set_option linter.unusedVariables false
set_option linter.unusedSimpArgs false

section
/- Vi: the law ValueLaws (f9): true. No conditions. -/
namespace Go.Vi
open Go Go.Lib Go.Proofs
set_option maxRecDepth 100000
attribute [local simp] E_skip E_ret E_exit E_text E_draw E_seq E_cond E_block E_scope E_loop runOps runOp runDraw runVF runV finV gate FlOK wantD exec fin opd look putF norm constD constC fieldAddrD loadD storeD opCall lenD binD isShift intP strP numD indexAddrD indexD D.pd? D.pds? cells_enc sub capsOf callD argsD argD D.nf enc_agg unP box_enc cellD mkF H00 st1 cD_agg cD_pagg cD_int cD_bool cD_str cD_sl cD_lit

theorem sets45_W (a b : Val) (H : Hp) : W 45 [.p (enc a), .p (enc b)] H = some (.ret (.p (.bool (a.small && (b.small && (a.isSet && b.isSet))))), H) := by
  refine W45_of rfl (by simp) ?_
  have a15 := fun H => small_W a H
  have b15 := fun H => small_W b H
  have fin1 : ∀ (x : Bool), alone H (fnOut Tryz.prog [.tmp 4] 0 0 (some (.ret, [(4, .p (.bool x))], st2 a b))) = some (.ret (.p (.bool x)), H) := fun x => by
    simp [fnOut, retOut, resD, look, retsD, retD, argD, D.nf, D.pd?, oneD, D.noRefs, D.noRef, alone, Hp.cut]
  have key : E false ⟨0, 0⟩ 45 code45 (mkF 0 [.p (enc a), .p (enc b)]) H00 = some (.ret, [(4, .p (.bool (a.small && (b.small && (a.isSet && b.isSet)))))], st2 a b) := by
    cases sa : a.small with
    | false => rw [sa] at a15; simp [code45, Tryz.f45, a15, st2]
    | true =>
    rw [sa] at a15
    cases sb : b.small with
    | false => rw [sb] at b15; simp [code45, Tryz.f45, a15, b15, st2]
    | true =>
    rw [sb] at b15
    obtain ⟨fa, ba⟩ := small_fine sa
    obtain ⟨fb, bb⟩ := small_fine sb
    have a19 := fun H => valid_W a fa ba H
    have b19 := fun H => valid_W b fb bb H
    have a38 := fun H => isSet38_W a H
    have b38 := fun H => isSet38_W b H
    cases va : a.valid with
    | false => rw [va] at a19; simp [code45, Tryz.f45, a15, b15, a19, Val.isSet, va, st2]
    | true =>
    rw [va] at a19
    cases vb : b.valid with
    | false => rw [vb] at b19; simp [code45, Tryz.f45, a15, b15, a19, b19, Val.isSet, va, vb, st2]
    | true =>
    rw [vb] at b19
    have hsb : b.isSet = decide (b.k = 5) := by simp [Val.isSet, vb]
    by_cases ka : a.k = 5
    · have hsa : a.isSet = true := by simp [Val.isSet, va, ka]
      rw [show decide (a.k = 5) = true by simp [ka]] at a38
      rw [hsa, hsb]
      clear hsa ka
      simp [code45, Tryz.f45, a15, b15, a19, b19, a38, b38, st2]
    · have hsa : a.isSet = false := by simp [Val.isSet, va, ka]
      rw [show decide (a.k = 5) = false by simp [ka]] at a38
      rw [hsa]
      clear hsa ka
      simp [code45, Tryz.f45, a15, b15, a19, b19, a38, b38, st2]
  rw [key, fin1]

theorem depthL_keep (l m : List Val) (is : Bool) : depthL (keepL l m is) ≤ depthL l := by
  induction l with
  | nil => simp [keepL]
  | cons u r ih =>
    rw [keepL_cons]
    split <;> simp only [depthL] <;> omega

theorem setV_ok {l : List Val} (hs : Shp l) (hi : Incr l) (hf : (setV l).fits = true) : (setV l).isSet = true ∧ (setV l).valid = true := by
  have h1 : (setV l).shaped = true := by
    rw [shaped_eq, Bool.and_eq_true]
    refine ⟨List.all_eq_true.2 hs, ?_⟩
    simp [own75, incr_sorted l hi]
  have h2 : (setV l).valid = true := by rw [valid_iff]; exact ⟨(fits_iff _).1 hf, h1⟩
  exact ⟨by simp [Val.isSet, h2], h2⟩

theorem keep_fits {a : Val} (va : a.valid = true) (m : List Val) (is : Bool) : (setV (keepL a.ps m is)).fits = true := by
  obtain ⟨⟨h1, h2⟩, _⟩ := (valid_iff a).1 va
  rw [fits_iff]
  have e1 := nodes_eq a
  have e2 := depth_eq a
  have e3 := nodes_eq (setV (keepL a.ps m is))
  have e4 := depth_eq (setV (keepL a.ps m is))
  have := nodesL_keep a.ps m is
  have := depthL_keep a.ps m is
  simp only [setV_ps] at e3 e4
  omega

theorem keep_up {l : List Val} (h : Up l) (m : List Val) (is : Bool) : Up (keepL l m is) := List.Pairwise.filter _ h
theorem inL_mem {l : List Val} {v : Val} (hl : Shp l) (hv : v.shaped = true) : inL v l = true ↔ v ∈ l := by
  rw [inL, List.any_eq_true]
  constructor
  · rintro ⟨u, hu, h⟩
    rw [decide_eq_true_eq] at h
    rw [← (cmp_zero u v (hl u hu) hv).1 h]; exact hu
  · intro h
    exact ⟨v, h, by rw [decide_eq_true_eq]; exact cmp_self hv⟩
theorem shp_keep {l : List Val} (h : Shp l) (m : List Val) (is : Bool) : Shp (keepL l m is) := fun u hu => h u (keepL_mem hu)
theorem mem_keep {l m : List Val} {is : Bool} {u : Val} : u ∈ keepL l m is ↔ u ∈ l ∧ inL u m = is := by
  unfold keepL
  rw [List.mem_filter, beq_iff_eq]
theorem inL_keep {l m : List Val} {v : Val} (hl : Shp l) (hv : v.shaped = true) (is : Bool) : inL v (keepL l m is) = (inL v l && (inL v m == is)) := by
  rw [Bool.eq_iff_iff, inL_mem (shp_keep hl m is) hv, mem_keep, Bool.and_eq_true, inL_mem hl hv, beq_iff_eq]
theorem inL_mg {a b : List Val} {v : Val} (ha : Shp a) (hb : Shp b) (pa : Up a) (pb : Up b) (hv : v.shaped = true) : inL v (mg a b) = (inL v a || inL v b) := by
  obtain ⟨i1, i2⟩ := mg_up a b ha hb pa pb
  have hs : Shp (mg a b) := fun x hx => by rcases (i2 x).1 hx with h | h; exact ha x h; exact hb x h
  rw [Bool.eq_iff_iff, inL_mem hs hv, i2, Bool.or_eq_true, inL_mem ha hv, inL_mem hb hv]

theorem shp_mg {a b : List Val} (ha : Shp a) (hb : Shp b) (pa : Up a) (pb : Up b) : Shp (mg a b) := fun x hx => by
  rcases ((mg_up a b ha hb pa pb).2 x).1 hx with h | h
  · exact ha x h
  · exact hb x h
theorem mg_comm' {a b : List Val} (ha : Shp a) (hb : Shp b) (pa : Up a) (pb : Up b) : mg b a = mg a b := by
  obtain ⟨i1, i2⟩ := mg_up a b ha hb pa pb
  obtain ⟨j1, j2⟩ := mg_up b a hb ha pb pa
  exact up_ext _ _ (shp_mg hb ha pb pa) (shp_mg ha hb pa pb) j1 i1 fun x => by rw [j2, i2]; exact Or.comm
theorem mg_keep {l m : List Val} (hl : Shp l) (pl : Up l) : mg (keepL l m true) (keepL l m false) = l := by
  obtain ⟨i1, i2⟩ := mg_up _ _ (shp_keep hl m true) (shp_keep hl m false) (keep_up pl m true) (keep_up pl m false)
  refine up_ext _ _ (shp_mg (shp_keep hl m true) (shp_keep hl m false) (keep_up pl m true) (keep_up pl m false)) hl i1 pl fun x => ?_
  rw [i2, mem_keep, mem_keep]
  cases inL x m <;> simp
theorem set_same {a : Val} (h : a.isSet = true) : setV a.ps = a := by
  obtain ⟨va, ka⟩ := isSet_valid h
  have hs := valid_shaped va
  rw [shaped_eq, Bool.and_eq_true] at hs
  have ho := hs.2
  simp [own75, ka] at ho
  obtain ⟨k, n, t, ps⟩ := a
  simp only [k_mk, n_mk, t_mk, ps_mk] at *
  rw [ka, ho.2.1, ho.2.2]; rfl

set_option maxHeartbeats 8000000 in
theorem laws_all (a b v u m d back : Val) (e : Int) (he : e = 0 ∨ e = 3) (x y w : Bool) (hk : ∀ H, W 16 [] H = some (.ret (.p (.bool true)), H)) (h45 : ∀ H, W 45 [.p (enc a), .p (enc b)] H = some (.ret (.p (.bool true)), H))
    (v15 : ∀ H, W 15 [.p (enc v)] H = some (.ret (.p (.bool true)), H)) (v19 : ∀ H, W 19 [.p (enc v)] H = some (.ret (.p (.bool true)), H))
    (h33 : ∀ H, W 33 [.p (enc a), .p (enc b)] H = some (.ret (.tup [.p (enc u), .p (.int .i64 e)]), H)) (h34 : ∀ H, W 34 [.p (enc a), .p (enc b)] H = some (.ret (.tup [.p (enc m), .p (.int .i64 0)]), H))
    (h35 : ∀ H, W 35 [.p (enc a), .p (enc b)] H = some (.ret (.tup [.p (enc d), .p (.int .i64 0)]), H)) (h36 : ∀ H, W 36 [.p (enc a), .p (enc b)] H = some (.ret (.tup [.p (.bool w), .p (.int .i64 0)]), H))
    (ha : ∀ H, W 37 [.p (enc a), .p (enc v)] H = some (.ret (.tup [.p (.bool x), .p (.int .i64 0)]), H)) (hb : ∀ H, W 37 [.p (enc b), .p (enc v)] H = some (.ret (.tup [.p (.bool y), .p (.int .i64 0)]), H))
    (hm : ∀ H, W 37 [.p (enc m), .p (enc v)] H = some (.ret (.tup [.p (.bool (x && y)), .p (.int .i64 0)]), H)) (hd : ∀ H, W 37 [.p (enc d), .p (enc v)] H = some (.ret (.tup [.p (.bool (x && !y)), .p (.int .i64 0)]), H))
    (hw : w = decide (d.ps = [])) (hag : ∀ H, W 33 [.p (enc m), .p (enc d)] H = some (.ret (.tup [.p (enc a), .p (.int .i64 0)]), H)) (heq : ∀ H, W 22 [.p (enc a), .p (enc a)] H = some (.ret (.p (.bool true)), H))
    (hu : e = 0 → ∀ H, W 37 [.p (enc u), .p (enc v)] H = some (.ret (.tup [.p (.bool (x || y)), .p (.int .i64 0)]), H)) (hbk : e = 0 → ∀ H, W 33 [.p (enc b), .p (enc a)] H = some (.ret (.tup [.p (enc back), .p (.int .i64 0)]), H))
    (hequ : e = 0 → ∀ H, W 22 [.p (enc back), .p (enc u)] H = some (.ret (.p (.bool true)), H)) :
    ∃ B, E false ⟨0, 0⟩ 9 code9 (mkF 0 [.p (enc a), .p (enc b), .p (enc v)]) H00 = some (.ret, [(6, .p (.bool true))], ⟨B, []⟩) := by
  by_cases hdp : d.ps = []
  · have hw' : w = true := by rw [hw, hdp]; rfl
    subst hw'
    have hdl : d.ps.length = 0 := by rw [hdp]; rfl
    clear hdp hw
    rcases he with rfl | rfl
    · have hu := hu rfl
      have hbk := hbk rfl
      have hequ := hequ rfl
      cases x <;> cases y <;> simp only [Bool.and_true, Bool.and_false, Bool.not_true, Bool.not_false, Bool.or_true, Bool.or_false, Bool.or_self, Bool.and_self] at hm hd hu <;> exact ⟨_, by simp [code9, Tryz.f9, hk, h45, v15, v19, h33, h34, h35, h36, ha, hb, hm, hd, hag, heq, hu, hbk, hequ, z25', splice, hdl]; rfl⟩
    · cases x <;> cases y <;> simp only [Bool.and_true, Bool.and_false, Bool.not_true, Bool.not_false, Bool.or_true, Bool.or_false, Bool.or_self, Bool.and_self] at hm hd <;> exact ⟨_, by simp [code9, Tryz.f9, hk, h45, v15, v19, h33, h34, h35, h36, ha, hb, hm, hd, hag, heq, z25', splice, hdl]; rfl⟩
  · have hw' : w = false := by rw [hw, decide_eq_false_iff_not]; exact hdp
    subst hw'
    rcases he with rfl | rfl
    · have hu := hu rfl
      have hbk := hbk rfl
      have hequ := hequ rfl
      cases x <;> cases y <;> simp only [Bool.and_true, Bool.and_false, Bool.not_true, Bool.not_false, Bool.or_true, Bool.or_false, Bool.or_self, Bool.and_self] at hm hd hu <;> exact ⟨_, by simp [code9, Tryz.f9, hk, h45, v15, v19, h33, h34, h35, h36, ha, hb, hm, hd, hag, heq, hu, hbk, hequ, z25', splice, hdp]; rfl⟩
    · cases x <;> cases y <;> simp only [Bool.and_true, Bool.and_false, Bool.not_true, Bool.not_false, Bool.or_true, Bool.or_false, Bool.or_self, Bool.and_self] at hm hd <;> exact ⟨_, by simp [code9, Tryz.f9, hk, h45, v15, v19, h33, h34, h35, h36, ha, hb, hm, hd, hag, heq, z25', splice, hdp]; rfl⟩

theorem law9_W (a b v : Val) (H : Hp) : W 9 [.p (enc a), .p (enc b), .p (enc v)] H = some (.ret (.p (.bool true)), H) := by
  refine W9_of rfl (by simp) ?_
  have hk := fun H => known_W H
  suffices key : ∃ B, E false ⟨0, 0⟩ 9 code9 (mkF 0 [.p (enc a), .p (enc b), .p (enc v)]) H00 = some (.ret, [(6, .p (.bool true))], ⟨B, []⟩) by
    obtain ⟨B, key⟩ := key
    rw [key]
    simp [fnOut, retOut, resD, retsD, retD, oneD, D.noRefs, D.noRef, alone, Hp.cut]
  have h45 := fun H => sets45_W a b H
  have v15 := fun H => small_W v H
  cases hs : (a.small && (b.small && (a.isSet && b.isSet))) with
  | false => rw [hs] at h45; exact ⟨_, by simp [code9, Tryz.f9, h45, hk]; rfl⟩
  | true =>
  rw [hs] at h45
  cases sv : v.small with
  | false => rw [sv] at v15; exact ⟨_, by simp [code9, Tryz.f9, h45, v15, hk]; rfl⟩
  | true =>
  rw [sv] at v15
  obtain ⟨fv, bv⟩ := small_fine sv
  have v19 := fun H => valid_W v fv bv H
  cases vv : v.valid with
  | false => rw [vv] at v19; exact ⟨_, by simp [code9, Tryz.f9, h45, v15, v19, hk]; rfl⟩
  | true =>
  rw [vv] at v19
  simp only [Bool.and_eq_true] at hs
  obtain ⟨sa, sb, ha, hb⟩ := hs
  obtain ⟨va, ka⟩ := isSet_valid ha
  obtain ⟨vb, kb⟩ := isSet_valid hb
  have fa := (small_fine sa).1
  obtain ⟨_, p2, _⟩ := valid_parts va
  obtain ⟨_, q2, _⟩ := valid_parts vb
  have ua := up_incr.2 (set_incr ha)
  have ub := up_incr.2 (set_incr hb)
  have shv := valid_shaped vv
  have made : ∀ l, (setV l).fits = true → mdV l = setV l ∧ mdE l = 0 := fun l h => by simp [mdV, mdE, h]
  have kt := made _ (keep_fits va b.ps true)
  have kf := made _ (keep_fits va b.ps false)
  have kti := (setV_ok (shp_keep p2 b.ps true) (up_incr.1 (keep_up ua b.ps true)) (keep_fits va b.ps true)).1
  have kfi := (setV_ok (shp_keep p2 b.ps false) (up_incr.1 (keep_up ua b.ps false)) (keep_fits va b.ps false)).1
  have h33 := fun H => union33_W a b H
  have h33' := fun H => union33_W b a H
  have h34 := fun H => meet34_W a b H
  have h35 := fun H => minus35_W a b H
  have h36 := fun H => within36_W a b H
  have h37a := fun H => has37_W a v H
  have h37b := fun H => has37_W b v H
  have h37m := fun H => has37_W (setV (keepL a.ps b.ps true)) v H
  have h37d := fun H => has37_W (setV (keepL a.ps b.ps false)) v H
  have hag := fun H => union33_W (setV (keepL a.ps b.ps true)) (setV (keepL a.ps b.ps false)) H
  simp only [ha, hb, vv, kti, kfi, Bool.and_self, if_true, made_two, setV_ps] at h33 h33' h34 h35 h36 h37a h37b h37m h37d hag
  rw [kt.1, kt.2] at h34
  rw [kf.1, kf.2] at h35
  rw [mg_comm' p2 q2 ua ub] at h33'
  have hafits : (setV a.ps).fits = true := by rw [set_same ha, fits_iff]; exact ((valid_iff a).1 va).1
  rw [mg_keep p2 ua, (made _ hafits).1, (made _ hafits).2, set_same ha] at hag
  rw [inL_keep p2 shv true] at h37m
  rw [inL_keep p2 shv false] at h37d
  have heq := fun H => equal_W a fa a H
  rw [eqb_self] at heq
  have hm : ∀ H, W 37 [.p (enc (setV (keepL a.ps b.ps true))), .p (enc v)] H = some (.ret (.tup [.p (.bool (inL v a.ps && inL v b.ps)), .p (.int .i64 0)]), H) := fun H => by
    rw [h37m]; cases inL v b.ps <;> rfl
  have hd : ∀ H, W 37 [.p (enc (setV (keepL a.ps b.ps false))), .p (enc v)] H = some (.ret (.tup [.p (.bool (inL v a.ps && !inL v b.ps)), .p (.int .i64 0)]), H) := fun H => by
    rw [h37d]; cases inL v b.ps <;> rfl
  have e03 : mdE (mg a.ps b.ps) = 0 ∨ mdE (mg a.ps b.ps) = 3 := by unfold mdE; split <;> simp
  have hfit : mdE (mg a.ps b.ps) = 0 → (setV (mg a.ps b.ps)).fits = true := fun h => by
    unfold mdE at h
    split at h
    · assumption
    · simp at h
  refine laws_all a b v (mdV (mg a.ps b.ps)) (setV (keepL a.ps b.ps true)) (setV (keepL a.ps b.ps false)) (mdV (mg a.ps b.ps)) (mdE (mg a.ps b.ps)) e03 (inL v a.ps) (inL v b.ps) _ hk h45 v15 v19 h33 h34 h35 h36 h37a h37b hm hd
    (by rw [setV_ps]; simp) hag heq (fun h0 H => ?_) (fun h0 H => ?_) (fun h0 H => ?_)
  · have hf := hfit h0
    have hi := (setV_ok (shp_mg p2 q2 ua ub) (up_incr.1 (mg_up _ _ p2 q2 ua ub).1) hf).1
    have := has37_W (setV (mg a.ps b.ps)) v H
    simp only [hi, vv, Bool.and_self, if_true, setV_ps] at this
    rw [(made _ hf).1, this, inL_mg p2 q2 ua ub shv]
  · rw [h33', h0]
  · have hf := hfit h0
    have hvv := (setV_ok (shp_mg p2 q2 ua ub) (up_incr.1 (mg_up _ _ p2 q2 ua ub).1) hf).2
    rw [(made _ hf).1]
    have := equal_W (setV (mg a.ps b.ps)) (valid_fine hvv).1 (setV (mg a.ps b.ps)) H
    rw [eqb_self] at this
    exact this
end Go.Vi
end

section
/- The law ValueLaws: for every input that can be read as data it answers true, and leaves its input as it was. Conditions: those of the given row. -/
namespace Go.Proofs.YtapnoihkfocgkaaGreatDoor.valueLaws
open Go Go.Vi Go.ChangeShapes Go.WideShapes Go.ChangeAt Go.RowKit
open Go.ChangeMaps (open_string shut_string)
set_option linter.unusedVariables false
set_option maxRecDepth 100000
theorem own : ownKnob Tryz.prog.godebug = none := by kernel_rfl
theorem laidOut : laidOutB Tryz.prog = true := by kernel_rfl
def laid3 {H : Type} : List (String × DataW H) := [("math/bits.deBruijn32tab", Rows.laid_math_bits_deBruijn32tab), ("math/bits.deBruijn64tab", Rows.laid_math_bits_deBruijn64tab), ("internal/strconv.uint64pow10", Rows.laid_internal_strconv_uint64pow10)]
theorem door_met (os : Os) (args : Array Value) : laidMetH Tryz.prog laid3 ((World.doorLaid Tryz.prog 400 os).forCall (fun _ _ => 0) ⟨#[], args, []⟩).memory :=
  laidMetH_of_parts3 (fuel := 8) (laidMet_of_run' 8 (by kernel_rfl) (by kernel_rfl)) (by kernel_rfl) (by kernel_rfl)
theorem lifted (os : Os) (started : os.Started) (H : Type) (en : TypeId × Value → H) :
    ReturnsInHanded {} Tryz.checked os 9 .any (fun w args => (Rows.valueLawsSpec.pre en Tryz.prog Tryz.f9 [] false w args ∧ laidMetH Tryz.prog laid3 w) ∧ sizedMet en Tryz.prog Tryz.f9 (OpenSpec.ofChange Rows.valueLawsSpec) false w args)
      (Rows.valueLawsSpec.post en Tryz.prog Tryz.f9 false true false false) := by
  refine returnsInHanded_of_change_and (C := Tryz.checked) (X := fun w _ => laidMetH Tryz.prog laid3 w) (fun _ _ _ hh h => h.of_heap hh) own started (by kernel_rfl) Tryz.func9
    (ChangeSpec.witness_shaped (enc := en) (C := Tryz.checked) (os := os) (X := fun w _ => laidMetH Tryz.prog laid3 w) false (World.doorLaid Tryz.prog 400 os) #[.agg #[.int .i64 0, .int .i64 0, .string ByteArray.empty, .slice none 0 0], .agg #[.int .i64 0, .int .i64 0, .string ByteArray.empty, .slice none 0 0], .agg #[.int .i64 0, .int .i64 0, .string ByteArray.empty, .slice none 0 0]] 8 rfl (World.shaped_of_RefB (by kernel_rfl) (by kernel_rfl)) (by kernel_rfl) (by kernel_rfl) (by kernel_rfl) (door_met os _)) ?_
  intro W base args ds gs before hval0 hW hcnd hsz0 hLaid _
  have hsz : (DataW.weightsEach Tryz.prog (Tryz.f9.params.toList ++ Rows.valueLawsSpec.plain.varTypes Tryz.prog) (ds ++ gs)).all (· ≤ reachBytes) = true := hsz0
  have hval : ∀ (j : Nat) t v, Tryz.f9.params[j]? = some t → args[j]? = some v → Value.okWide Tryz.prog W .any base t v := hval0
  have hW' := hW
  obtain ⟨p, q, hA0, hV, rfl, hfz, hnd⟩ := hW
  have hA : DataW.TrodAll en Tryz.prog W 0 (fun _ => true) true Tryz.f9.params.toList args.toList ds p := hA0
  rw [Tryz.params9] at hA hval hsz
  obtain ⟨v0, vs0, d0, ds0, p0, q0, hargs, rfl, rfl, h0, r0⟩ := trodAll_cons hA
  obtain ⟨v1, vs1, d1, ds1, p1, q1, rfl, rfl, rfl, h1, r1⟩ := trodAll_cons r0
  obtain ⟨v2, vs2, d2, ds2, p2, q2, rfl, rfl, rfl, h2, r2⟩ := trodAll_cons r1
  obtain ⟨rfl, rfl, rfl⟩ := trodAll_nil r2
  obtain rfl : args = #[v0, v1, v2] := by cases args; simp_all
  obtain ⟨rfl, rfl⟩ := trodVars_none hV
  have k0 := h0
  have lt0 : ∀ x ∈ p0, x.block < W.heap.size := by obtain ⟨m, hm⟩ := k0; exact DataW.trod_lt m _ _ _ hm
  obtain ⟨a0, e0⟩ := arg_val (hval 0 25 v0 rfl rfl) h0
  have k1 := h1
  have lt1 : ∀ x ∈ p1, x.block < W.heap.size := by obtain ⟨m, hm⟩ := k1; exact DataW.trod_lt m _ _ _ hm
  obtain ⟨a1, e1⟩ := arg_val (hval 1 25 v1 rfl rfl) h1
  have k2 := h2
  have lt2 : ∀ x ∈ p2, x.block < W.heap.size := by obtain ⟨m, hm⟩ := k2; exact DataW.trod_lt m _ _ _ hm
  obtain ⟨a2, e2⟩ := arg_val (hval 2 25 v2 rfl rfl) h2
  clear hA0 hval0 hsz0 hsz
  have hcall := law_calls (f := 9) (by decide) (args := [.p (Vi.enc a0), .p (Vi.enc a1), .p (Vi.enc a2)]) (vs := [v0, v1, v2]) (W0 := W) (fun H => law9_W a0 a1 a2 H) rfl (fun j d v hd hv => by
    match j, hd, hv with
    | 0, hd, hv => simp at hd hv; subst hd; subst hv; exact e0
    | 1, hd, hv => simp at hd hv; subst hd; subst hv; exact e1
    | 2, hd, hv => simp at hd hv; subst hd; subst hv; exact e2
    | j + 3, hd, hv => simp at hd)
  refine hcall.mono fun e W' ⟨he, bel⟩ => ?_
  subst he
  exact ⟨_, rfl, _, _, _, [], _, [], hW', trodAll_mk1 (shut_bool Tryz.underlying4 _), (trodAll_cons_mk (Below.trod laidOut (by kernel_rfl) (of_decide_eq_true (by kernel_rfl)) k0 bel lt0) (trodAll_cons_mk (Below.trod laidOut (by kernel_rfl) (of_decide_eq_true (by kernel_rfl)) k1 bel lt1) (trodAll_cons_mk (Below.trod laidOut (by kernel_rfl) (of_decide_eq_true (by kernel_rfl)) k2 bel lt2) trodAll_mk0))), rfl, bel.frame _, fun h => by cases h⟩
theorem over : Rows.valueLawsRow.holds Tryz.pinned (OpenSpec.ofChange Rows.valueLawsSpec) :=
  OpenClaim.holds_of_wide 9 Tryz.f9 rfl rfl rfl rfl rfl rfl rfl ⟨rfl, rfl, rfl, rfl, rfl⟩ rfl rfl rfl rfl rfl (by kernel_rfl) Tryz.func9 (by kernel_rfl)
    (of_decide_eq_true (by kernel_rfl)) (by unfold Func.isWrapper; first | (rw [if_pos (by decide +kernel)]; kernel_rfl) | (rw [if_neg (by decide +kernel)]; exact ⟨rfl, rfl⟩))
    (fun os started H enc _ => lifted os started H enc)
end Go.Proofs.YtapnoihkfocgkaaGreatDoor.valueLaws
namespace Go.Proofs.YtapnoihkfocgkaaGreatDoor
/-- The row, under a short name. -/
theorem valueLaws_holds : Rows.ValueLawsSaid := valueLaws.over
end Go.Proofs.YtapnoihkfocgkaaGreatDoor
end

section
/- The tied card of the law ValueLaws: for every input that can be read as data the law answers true; the tables that it may read are tied to the program's text. Conditions: those of the given card. -/
namespace Go.Proofs.YtapnoihkfocgkaaGreatDoor
open Go
/-- The statement ValueLawsCardSaid. -/
theorem valueLaws_card : Rows.ValueLawsCardSaid :=
  Claim7.holds_tied_plain_at .later [] [.data, .data, .data] true (true, "40e3612fb510151cbad10d424c39044593b08eb4cc5b801a7b153c3d77e88363") true
    valueLaws_holds (fun _ h => by cases h) (by kernel_rfl) (fun _ h => by cases h) valueLaws_row_tie rfl ⟨rfl, rfl⟩ (by kernel_rfl) rfl
    (fun f fn hf hfn => by
      obtain rfl : f = 9 := Option.some.inj ((show Tryz.prog.funcNamed "sward/swardlaw01.ValueLaws" = some 9 by kernel_rfl).symm.trans hf) |>.symm
      obtain rfl : fn = Tryz.f9 := (Option.some.inj (Tryz.func9.symm.trans hfn)).symm
      exact ⟨by kernel_rfl, fun j t ht => by
        rw [Tryz.params9] at ht
        match j, ht with
        | 0, ht => obtain rfl : t = 25 := by simpa using ht.symm
                   exact (show Tryz.prog.wantsStandIn 25 = false by kernel_rfl)
        | 1, ht => obtain rfl : t = 25 := by simpa using ht.symm
                   exact (show Tryz.prog.wantsStandIn 25 = false by kernel_rfl)
        | 2, ht => obtain rfl : t = 25 := by simpa using ht.symm
                   exact (show Tryz.prog.wantsStandIn 25 = false by kernel_rfl)
        | j + 3, ht => simp at ht⟩)
    (by kernel_rfl)
end Go.Proofs.YtapnoihkfocgkaaGreatDoor
end
