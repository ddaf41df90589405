/- It is proved here what functions of the program's layer 5 and of its specification compute; conditions stand with each. Within. -/
import Derived.Test.YtjkpdlloccnilaaGreatDoorMKJ
set_option linter.unusedVariables false
set_option linter.unusedSimpArgs false

section
/- Vi: layer 5: kind.within, Within; swardref05.Within. No conditions but those that stand with each. -/
namespace Go.Vi
open Go Go.Lib Go.Proofs
set_option maxRecDepth 100000
attribute [local simp] E_skip E_ret E_exit E_text E_draw E_seq E_cond E_block E_scope E_loop runOps runOp drawR slotsOf Hp.kept_zero runDraw runVF runX runV finV gate FlOK FlOK0 wantD exec fin opd look putF norm constD constC fieldAddrD loadD storeD opCall lenD binD isShift intP strP numD indexAddrD indexD D.pd? D.pds? sub capsOf callD argsD argD D.nf unP cellD mkF H00 cD_agg cD_pagg cD_int cD_bool cD_str cD_sl cD_lit cells_int
attribute [local simp] fnOut retOut resD retsD retD oneD D.noRefs D.noRef alone Hp.cut
attribute [local simp] cells_encK encK_agg box_encK one_int one_str one_sl one_agg

theorem withinPs_zip : ∀ (l m : List Kd), withinPs l m = zipAll Kd.withinP l m
  | [], m => by cases m <;> simp [withinPs, zipAll]
  | a :: r, [] => by simp [withinPs, zipAll]
  | a :: r, b :: s => by simp only [withinPs, zipAll, withinPs_zip r s]
theorem withinKs_zip : ∀ (l m : List Kd), withinKs l m = zipAll Kd.within l m
  | [], m => by cases m <;> simp [withinKs, zipAll]
  | a :: r, [] => by simp [withinKs, zipAll]
  | a :: r, b :: s => by simp only [withinKs, zipAll, withinKs_zip r s]
theorem withinPK_eq (a b : Kd) : a.withinP b = if a.f = 1 then true else if a.f ≠ b.f ∨ a.ps.length ≠ b.ps.length then false else if a.f = 2 then decide (b.lo ≤ a.lo) && decide (a.hi ≤ b.hi)
    else if a.f = 6 then decide (a.mo ≤ b.mo) && (zipAll Kd.withinP a.ps b.ps || a.mo == 0) else zipAll Kd.withinP a.ps b.ps := by
  obtain ⟨f, lo, hi, mo, ps⟩ := a
  obtain ⟨f', lo', hi', mo', ps'⟩ := b
  simp only [Kd.withinP, withinPs_zip]
  rfl

def fr69 (a : Kd) (t : Bool) (i : Nat) : Fr := [(2, .ptr 0 0), (3, .ptr 1 0), (5, .p (.bool t)), (26, .p (.int .i64 a.ps.length)), (27, .p (.int .i64 i))]
def Rec69 (n : Nat) : Prop := ∀ (u v : Kd) (H : Hp), u.nodes < n → W 69 [.p (encK u), .p (encK v)] H = some (.ret (.p (.bool (u.withinP v))), H)
theorem loop69_ok (a b : Kd) (hn : a.nodes < 4611686018427387904) (hl : a.ps.length = b.ps.length) (hrec : Rec69 a.nodes) :
    loopO false ⟨0, 0⟩ 69 lp69_0 2 0 (fr69 a true 0) (st2 a b) = some (.exit 0, [(2, .ptr 0 0), (3, .ptr 1 0), (5, .p (.bool (zipAll Kd.withinP a.ps b.ps))), (26, .p (.int .i64 a.ps.length)), (27, .p (.int .i64 a.ps.length)), (28, .p (.bool false))], st2 a b) := by
  have hlen := ps_len a
  suffices hs : ∃ o, loopO false ⟨0, 0⟩ 69 lp69_0 2 0 (fr69 a true 0) (st2 a b) = some o ∧ o = (.exit 0, [(2, .ptr 0 0), (3, .ptr 1 0), (5, .p (.bool (zipAll Kd.withinP a.ps b.ps))), (26, .p (.int .i64 a.ps.length)), (27, .p (.int .i64 a.ps.length)), (28, .p (.bool false))], st2 a b) by
    obtain ⟨o, h1, h2⟩ := hs
    rw [h1, h2]
  refine for_ex (mu := false) (m := ⟨0, 0⟩) (nB := 2) (nA := 0) (hd69_0) a.ps.length (fun i F H => ∃ t, F = fr69 a t i ∧ H = st2 a b ∧ (t && zipAll Kd.withinP (a.ps.drop i) (b.ps.drop i)) = zipAll Kd.withinP a.ps b.ps)
    (fun o => o = (.exit 0, [(2, .ptr 0 0), (3, .ptr 1 0), (5, .p (.bool (zipAll Kd.withinP a.ps b.ps))), (26, .p (.int .i64 a.ps.length)), (27, .p (.int .i64 a.ps.length)), (28, .p (.bool false))], st2 a b)) ?_ ?_
    (F := fr69 a true 0) (H := st2 a b) (F0 := fr69 a true 0) (H0 := st2 a b) (by simp [cutD, fr69, frNo, st2, bK, blkNo]) ⟨true, rfl, rfl, by simp⟩
  · rintro F H ⟨t, rfl, rfl, h⟩
    rw [List.drop_length] at h
    have ht : t = zipAll Kd.withinP a.ps b.ps := by rw [← h]; simp [zipAll]
    refine ⟨_, ?_, by simp, rfl⟩
    rw [← ht]
    simp [lp69_0, code69, Tryz.f69, fr69, st2, bK]
  · rintro i F H hi ⟨t, rfl, rfl, h⟩
    right
    have hib : i < b.ps.length := by omega
    have hr := fun H => hrec a.ps[i] b.ps[i] H (ps_nodes (List.getElem_mem hi))
    have hw : IntKind.i64.wrap ((i : Int) + 1) = (i : Int) + 1 := wrap64 (by omega) (by omega)
    rw [List.drop_eq_getElem_cons hi, List.drop_eq_getElem_cons hib] at h
    simp only [zipAll] at h
    refine ⟨fr69 a (t && a.ps[i].withinP b.ps[i]) (i + 1), st2 a b, ?_, fr69 a (t && a.ps[i].withinP b.ps[i]) (i + 1), st2 a b, by simp [cutD, fr69, frNo, st2, bK, blkNo], _, rfl, rfl, by rw [Bool.and_assoc]; exact h⟩
    cases t <;> simp [lp69_0, code69, Tryz.f69, fr69, st2, bK, hi, hib, hr, hw]

theorem one69_W (a b : Kd) : E false ⟨0, 0⟩ 69 (cFst code69) (mkF 0 [.p (encK a), .p (encK b)]) H00 = some (.normal, [(2, .ptr 0 0), (3, .ptr 1 0)], st2 a b) := by
  simp [cFst, code69, Tryz.f69, st2, bK]
theorem two69_W (a b : Kd) : E false ⟨0, 0⟩ 69 (cFst (cSnd code69)) [(2, .ptr 0 0), (3, .ptr 1 0)] (st2 a b) =
    if a.f = 1 then some (.ret, [(4, .p (.bool true))], st2 a b) else some (.normal, [(2, .ptr 0 0), (3, .ptr 1 0), (9, .p (.bool false))], st2 a b) := by
  by_cases c1 : a.f = 1
  · have e := eq_true c1
    simp [cFst, cSnd, code69, Tryz.f69, st2, bK, e]
  · have e := eq_false c1
    simp [cFst, cSnd, code69, Tryz.f69, st2, bK, e]
theorem three69_W (a b : Kd) (x : D) : E false ⟨0, 0⟩ 69 (cFst (cSnd (cSnd code69))) [(2, .ptr 0 0), (3, .ptr 1 0), (9, x)] (st2 a b) =
    if a.f ≠ b.f ∨ a.ps.length ≠ b.ps.length then some (.ret, [(4, .p (.bool false))], st2 a b) else some (.normal, [(2, .ptr 0 0), (3, .ptr 1 0), (23, .p (.bool false))], st2 a b) := by
  have z : ((a.ps.length : Int) = b.ps.length) = (a.ps.length = b.ps.length) := by simp only [eq_iff_iff]; omega
  by_cases c1 : a.f = b.f
  · have e := eq_true c1
    by_cases c2 : a.ps.length = b.ps.length
    · have e2 := eq_true c2
      simp [cFst, cSnd, code69, Tryz.f69, st2, bK, e, e2, z]
    · have e2 := eq_false c2
      simp [cFst, cSnd, code69, Tryz.f69, st2, bK, e, e2, z]
  · have e := eq_false c1
    simp [cFst, cSnd, code69, Tryz.f69, st2, bK, e]
theorem rst69_W (a b : Kd) (x : D) (hn : a.nodes < 4611686018427387904) (hl : a.ps.length = b.ps.length) (hrec : Rec69 a.nodes) : E false ⟨0, 0⟩ 69 (cSnd (cSnd (cSnd code69))) [(2, .ptr 0 0), (3, .ptr 1 0), (23, x)] (st2 a b) =
    some (.ret, [(4, .p (.bool (if a.f = 2 then decide (b.lo ≤ a.lo) && decide (a.hi ≤ b.hi)
      else if a.f = 6 then decide (a.mo ≤ b.mo) && (zipAll Kd.withinP a.ps b.ps || a.mo == 0) else zipAll Kd.withinP a.ps b.ps)))], st2 a b) := by
  have hloop := loop69_ok a b hn hl hrec
  have h00 : ((0 : Nat) : Int) = 0 := rfl
  simp only [lp69_0, code69, Tryz.f69, fr69, st2, bK, h00] at hloop
  by_cases c2 : a.f = 2
  · have e := eq_true c2
    by_cases h1 : b.lo ≤ a.lo <;> by_cases h2 : a.hi ≤ b.hi <;> simp [cSnd, code69, Tryz.f69, st2, bK, hloop, e, h1, h2]
  have n2 := eq_false c2
  by_cases c6 : a.f = 6
  · have e := eq_true c6
    cases hz : zipAll Kd.withinP a.ps b.ps <;> rw [hz] at hloop <;> by_cases h1 : a.mo ≤ b.mo <;> by_cases h2 : a.mo = 0 <;> (first | have h2' := eq_false h2 | have h2' := eq_true h2) <;>
      simp [cSnd, code69, Tryz.f69, st2, bK, hloop, n2, e, h1, h2'] <;> simp [h2]
  · have n6 := eq_false c6
    simp [cSnd, code69, Tryz.f69, st2, bK, hloop, n2, n6]
theorem within69_W (a b : Kd) (H : Hp) (hb : a.nodes < 4611686018427387904) : W 69 [.p (encK a), .p (encK b)] H = some (.ret (.p (.bool (a.withinP b))), H) := by
  have key : ∀ (n : Nat) (a b : Kd) (H : Hp), a.nodes ≤ n → a.nodes < 4611686018427387904 → W 69 [.p (encK a), .p (encK b)] H = some (.ret (.p (.bool (a.withinP b))), H) := by
    intro n
    induction n with
    | zero => intro k b H h _; have := nodes_pos k; omega
    | succ n ih =>
      intro a b H hn hb
      refine W69_of rfl (by simp) ?_
      rw [withinPK_eq, E_cut (by rfl), one69_W]
      simp only
      rw [E_cut (by rfl), two69_W]
      by_cases c1 : a.f = 1
      · rw [if_pos c1, if_pos c1]; simp [st2]
      rw [if_neg c1, if_neg c1]
      simp only
      rw [E_cut (by rfl), three69_W]
      by_cases c2 : a.f ≠ b.f ∨ a.ps.length ≠ b.ps.length
      · rw [if_pos c2, if_pos c2]; simp [st2]
      rw [if_neg c2, if_neg c2]
      simp only
      rw [rst69_W a b _ hb (by omega) fun u v H hu => ih u v H (by omega) (by omega)]
      simp [st2]
  exact key a.nodes a b H (Nat.le_refl _) hb
end Go.Vi
end

section
/- Vi: layer 5: swardref05.Within; kind.Within; swardlaw05.within. No conditions but those that stand with each. -/
namespace Go.Vi
open Go Go.Lib Go.Proofs
set_option maxRecDepth 100000
attribute [local simp] E_skip E_ret E_exit E_text E_draw E_seq E_cond E_block E_scope E_loop runOps runOp drawR slotsOf Hp.kept_zero runDraw runVF runX runV finV gate FlOK FlOK0 wantD exec fin opd look putF norm constD constC fieldAddrD loadD storeD opCall lenD binD isShift intP strP numD indexAddrD indexD D.pd? D.pds? sub capsOf callD argsD argD D.nf unP cellD mkF H00 cD_agg cD_pagg cD_int cD_bool cD_str cD_sl cD_lit cells_int
attribute [local simp] fnOut retOut resD retsD retD oneD D.noRefs D.noRef alone Hp.cut
attribute [local simp] cells_encK encK_agg box_encK one_int one_str one_sl one_agg

theorem withinK_eq (a b : Kd) : a.within b = if a.f = 1 then true else if a.f ≠ b.f ∨ a.ps.length ≠ b.ps.length then false
    else if a.f = 6 then decide (a.mo ≤ b.mo) && (a.mo == 0 || withinH a.ps b.ps) else zipAll Kd.within a.ps b.ps && (decide (b.lo ≤ a.lo) && decide (a.hi ≤ b.hi)) := by
  obtain ⟨f, lo, hi, mo, ps⟩ := a
  obtain ⟨f', lo', hi', mo', ps'⟩ := b
  simp only [Kd.within, withinKs_zip]
  rfl

def fr26 (i : Nat) : Fr := [(2, .ptr 0 0), (3, .ptr 1 0), (5, .p (.int .i64 i))]
def Rec26 (n : Nat) : Prop := ∀ (u v : Kd) (H : Hp), u.nodes < n → u.shaped = true → v.shaped = true → W 26 [.p (encK u), .p (encK v)] H = some (.ret (.p (.bool (u.within v))), H)
theorem loop26_ok (a b : Kd) (hn : a.nodes < 4611686018427387904) (hl : a.ps.length = b.ps.length) (ha : ∀ x ∈ a.ps, x.shaped = true) (hb : ∀ x ∈ b.ps, x.shaped = true) (hrec : Rec26 a.nodes) : loopO false ⟨0, 0⟩ 26 lp26_0 2 0 (fr26 0) (st2 a b) =
    some (if zipAll Kd.within a.ps b.ps = true then (.exit 0, [(2, .ptr 0 0), (3, .ptr 1 0), (5, .p (.int .i64 a.ps.length)), (51, .p (.bool false))], st2 a b) else (.ret, [(4, .p (.bool false))], st2 a b)) := by
  have hla := ps_len a
  rw [← range_all2 Kd.within kz kz a.ps b.ps hl]
  refine for_all (hd26_0) a.ps.length fr26 (st2 a b) _ (by simp) (by simp) ?_ (fun i hi => ?_) (F := fr26 0) (H := st2 a b) (by simp [cutD, fr26, frNo, st2, bK, blkNo])
  · simp [lp26_0, code26, Tryz.f26, fr26, st2, bK]
  · have hib : i < b.ps.length := by omega
    have hr := fun H => hrec a.ps[i] b.ps[i] H (ps_nodes (List.getElem_mem hi)) (ha _ (List.getElem_mem hi)) (hb _ (List.getElem_mem hib))
    have hw : IntKind.i64.wrap ((i : Int) + 1) = (i : Int) + 1 := wrap64 (by omega) (by omega)
    rw [getD_get hi, getD_get hib]
    cases hs : a.ps[i].within b.ps[i] with
    | true =>
      left
      refine ⟨rfl, fr26 (i + 1), st2 a b, ?_, by simp [cutD, fr26, frNo, st2, bK, blkNo]⟩
      simp [lp26_0, code26, Tryz.f26, fr26, st2, bK, hi, hib, hr, hs, hw]
    | false =>
      right
      refine ⟨rfl, ?_⟩
      simp [lp26_0, code26, Tryz.f26, fr26, st2, bK, hi, hib, hr, hs, hw]

theorem one26_W (a b : Kd) : E false ⟨0, 0⟩ 26 (cFst code26) (mkF 0 [.p (encK a), .p (encK b)]) H00 = some (.normal, [(2, .ptr 0 0), (3, .ptr 1 0)], st2 a b) := by
  simp [cFst, code26, Tryz.f26, st2, bK]
theorem two26_W (a b : Kd) : E false ⟨0, 0⟩ 26 (cFst (cSnd code26)) [(2, .ptr 0 0), (3, .ptr 1 0)] (st2 a b) =
    if a.f = 1 then some (.ret, [(4, .p (.bool true))], st2 a b) else some (.normal, [(2, .ptr 0 0), (3, .ptr 1 0), (8, .p (.bool false))], st2 a b) := by
  by_cases c1 : a.f = 1
  · have e := eq_true c1
    simp [cFst, cSnd, code26, Tryz.f26, st2, bK, e]
  · have e := eq_false c1
    simp [cFst, cSnd, code26, Tryz.f26, st2, bK, e]
theorem three26_W (a b : Kd) (x : D) : E false ⟨0, 0⟩ 26 (cFst (cSnd (cSnd code26))) [(2, .ptr 0 0), (3, .ptr 1 0), (8, x)] (st2 a b) =
    if a.f ≠ b.f ∨ a.ps.length ≠ b.ps.length then some (.ret, [(4, .p (.bool false))], st2 a b) else some (.normal, [(2, .ptr 0 0), (3, .ptr 1 0), (22, .p (.bool false))], st2 a b) := by
  have z : ((a.ps.length : Int) = b.ps.length) = (a.ps.length = b.ps.length) := by simp only [eq_iff_iff]; omega
  by_cases c1 : a.f = b.f
  · have e := eq_true c1
    by_cases c2 : a.ps.length = b.ps.length
    · have e2 := eq_true c2
      simp [cFst, cSnd, code26, Tryz.f26, st2, bK, e, e2, z]
    · have e2 := eq_false c2
      simp [cFst, cSnd, code26, Tryz.f26, st2, bK, e, e2, z]
  · have e := eq_false c1
    simp [cFst, cSnd, code26, Tryz.f26, st2, bK, e]
theorem four26_W (a b : Kd) (x y : Kd) (hx : a.ps = [x]) (hy : b.ps = [y]) (z : D) (c6 : a.f = 6) (hr : ∀ H, W 26 [.p (encK x), .p (encK y)] H = some (.ret (.p (.bool (x.within y))), H)) :
    E false ⟨0, 0⟩ 26 (cFst (cSnd (cSnd (cSnd code26)))) [(2, .ptr 0 0), (3, .ptr 1 0), (22, z)] (st2 a b) = some (.ret, [(4, .p (.bool (decide (a.mo ≤ b.mo) && (a.mo == 0 || x.within y))))], st2 a b) := by
  have e := eq_true c6
  by_cases h1 : a.mo ≤ b.mo <;> by_cases h2 : a.mo = 0 <;> (first | have h2' := eq_false h2 | have h2' := eq_true h2) <;>
    simp [cFst, cSnd, code26, Tryz.f26, st2, bK, e, hx, hy, hr, h1, h2'] <;> simp [h2]
theorem five26_W (a b : Kd) (z : D) (c6 : a.f ≠ 6) : E false ⟨0, 0⟩ 26 (cFst (cSnd (cSnd (cSnd code26)))) [(2, .ptr 0 0), (3, .ptr 1 0), (22, z)] (st2 a b) = some (.normal, [(2, .ptr 0 0), (3, .ptr 1 0), (25, .p (.bool false))], st2 a b) := by
  have e := eq_false c6
  simp [cFst, cSnd, code26, Tryz.f26, st2, bK, e]
theorem rst26_W (a b : Kd) (x : D) (hn : a.nodes < 4611686018427387904) (hl : a.ps.length = b.ps.length) (ha : ∀ x ∈ a.ps, x.shaped = true) (hb : ∀ x ∈ b.ps, x.shaped = true) (hrec : Rec26 a.nodes) :
    E false ⟨0, 0⟩ 26 (cSnd (cSnd (cSnd (cSnd code26)))) [(2, .ptr 0 0), (3, .ptr 1 0), (25, x)] (st2 a b) =
    some (.ret, [(4, .p (.bool (zipAll Kd.within a.ps b.ps && (decide (b.lo ≤ a.lo) && decide (a.hi ≤ b.hi)))))], st2 a b) := by
  have hloop := loop26_ok a b hn hl ha hb hrec
  have h00 : ((0 : Nat) : Int) = 0 := rfl
  simp only [lp26_0, code26, Tryz.f26, fr26, st2, bK, h00] at hloop
  cases hz : zipAll Kd.within a.ps b.ps <;> rw [hz] at hloop <;> simp only [Bool.false_eq_true, if_false, if_true] at hloop
  · simp [cSnd, code26, Tryz.f26, st2, bK, hloop]
  · by_cases h1 : b.lo ≤ a.lo <;> by_cases h2 : a.hi ≤ b.hi <;> simp [cSnd, code26, Tryz.f26, st2, bK, hloop, h1, h2]
theorem within26_W (a b : Kd) (H : Hp) (hb : a.nodes < 4611686018427387904) (ha : a.shaped = true) (hs : b.shaped = true) : W 26 [.p (encK a), .p (encK b)] H = some (.ret (.p (.bool (a.within b))), H) := by
  have key : ∀ (n : Nat) (a b : Kd) (H : Hp), a.nodes ≤ n → a.nodes < 4611686018427387904 → a.shaped = true → b.shaped = true → W 26 [.p (encK a), .p (encK b)] H = some (.ret (.p (.bool (a.within b))), H) := by
    intro n
    induction n with
    | zero => intro k b H h _; have := nodes_pos k; omega
    | succ n ih =>
      intro a b H hn hb ha hs
      refine W26_of rfl (by simp) ?_
      rw [withinK_eq, E_cut (by rfl), one26_W]
      simp only
      rw [E_cut (by rfl), two26_W]
      by_cases c1 : a.f = 1
      · rw [if_pos c1, if_pos c1]; simp [st2]
      rw [if_neg c1, if_neg c1]
      simp only
      rw [E_cut (by rfl), three26_W]
      by_cases c2 : a.f ≠ b.f ∨ a.ps.length ≠ b.ps.length
      · rw [if_pos c2, if_pos c2]; simp [st2]
      rw [if_neg c2, if_neg c2]
      simp only
      rw [E_cut (by rfl)]
      by_cases c6 : a.f = 6
      · obtain ⟨x, hx, _⟩ := set_part ha c6
        obtain ⟨y, hy, _⟩ := set_part hs (by omega : b.f = 6)
        have hxm : x ∈ a.ps := by rw [hx]; simp
        have hym : y ∈ b.ps := by rw [hy]; simp
        have hxn := ps_nodes hxm
        rw [if_pos c6, four26_W a b x y hx hy _ c6 fun H => ih x y H (by omega) (by omega) (parts_ok ha x hxm) (parts_ok hs y hym)]
        rw [hx, hy]
        simp [st2, withinH]
      rw [if_neg c6, five26_W a b _ c6]
      simp only
      rw [rst26_W a b _ hb (by omega) (parts_ok ha) (parts_ok hs) fun u v H hu hs hv => ih u v H (by omega) (by omega) hs hv]
      simp [st2]
  exact key a.nodes a b H (Nat.le_refl _) hb ha hs

def withinR (a b : Kd) : D := if a.valid = true ∧ b.valid = true then .tup [.p (.bool (a.within b)), .p (.int .i64 0)] else .tup [.p (.bool false), .p (.int .i64 2)]
theorem within23_W (a b : Kd) (H : Hp) (h1 : a.nodes < 4611686018427387904) (h2 : b.nodes < 4611686018427387904) : W 23 [.p (encK a), .p (encK b)] H = some (.ret (withinR a b), H) := by
  refine W23_of rfl (by simp) ?_
  have h60 := fun H => valid60_W a H h1
  have h60' := fun H => valid60_W b H h2
  unfold withinR
  cases hv : a.valid with
  | false => simp [code23, Tryz.f23, h60, hv]
  | true =>
    cases hv' : b.valid with
    | false => simp [code23, Tryz.f23, h60, h60', hv, hv']
    | true =>
      have h69 := fun H => within69_W a b H h1
      rw [within_same a b (valid_nodes hv).2 (valid_nodes hv').2] at h69
      simp [code23, Tryz.f23, h60, h60', hv, hv', h69]
theorem within27_W (a b : Kd) (H : Hp) (h1 : a.nodes < 4611686018427387904) (h2 : b.nodes < 4611686018427387904) :
    W 27 [.p (encK a), .p (encK b)] H = some (.ret (.tup [.p (.bool (a.valid && b.valid && a.within b)), .p (.bool (a.valid && b.valid))]), H) := by
  refine W27_of rfl (by simp) ?_
  have h := fun H => within23_W a b H h1 h2
  unfold withinR at h
  cases hv : a.valid <;> cases hv' : b.valid <;> simp only [hv, hv', and_self, Bool.false_eq_true, if_false, if_true, and_true, true_and, and_false] at h <;> simp [code27, Tryz.f27, h]
end Go.Vi
end
