/- It is proved here what functions of the program's layer 5 and of its specification compute; conditions stand with each. Sizes and counts. -/
import Derived.Test.YtjkpdlloccnilaaGreatDoorMKA
set_option linter.unusedVariables false
set_option linter.unusedSimpArgs false

section
/- Vi: layer 5: kind.size. No conditions but those that stand with each. -/
namespace Go.Vi
open Go Go.Lib Go.Proofs
set_option maxRecDepth 100000
attribute [local simp] E_skip E_ret E_exit E_text E_draw E_seq E_cond E_block E_scope E_loop runOps runOp drawR slotsOf Hp.kept_zero runDraw runVF runX runV finV gate FlOK FlOK0 wantD exec fin opd look putF norm constD constC fieldAddrD loadD storeD opCall lenD binD isShift intP strP numD indexAddrD indexD D.pd? D.pds? sub capsOf callD argsD argD D.nf unP cellD mkF H00 cD_agg cD_pagg cD_int cD_bool cD_str cD_sl cD_lit cells_int
attribute [local simp] fnOut retOut resD retsD retD oneD D.noRefs D.noRef alone Hp.cut
attribute [local simp] cells_encK encK_agg box_encK

theorem max_if (a b : Int) : (if a < b then b else a) = max a b := by rw [Int.max_def]; split <;> split <;> omega
theorem min_if (a b : Int) : (if b < a then b else a) = min a b := by rw [Int.min_def]; split <;> split <;> omega

def fr71 (k : Kd) (n d : Int) (i : Nat) : Fr := [(1, .ptr 0 0), (4, .p (.int .i64 n)), (5, .p (.int .i64 d)), (11, .p (.sl (k.ps.map encK))), (12, .p (.int .i64 k.ps.length)), (13, .p (.int .i64 i))]
def out71 (x : Int × Int) : D := .tup [.p (.int .i64 x.1), .p (.int .i64 x.2)]
def Rec71 (n : Nat) : Prop := ∀ (u : Kd) (H : Hp), u.nodes < n → u.shaped = true → W 71 [.p (encK u)] H = some (.ret (out71 u.sizeP), H)
def Q71 (k : Kd) (s : Option (Int × Int)) (o : CO) : Prop :=
  match s with
  | none => ∃ x, o = (.ret, [(2, .p (.int .i64 0)), (3, .p (.int .i64 0))], ⟨[bK k, bK x], []⟩)
  | some (n, d) => 0 ≤ n ∧ n ≤ 1000000000000000 ∧ 0 ≤ d ∧ d ≤ 1000 ∧ o = (.exit 0, [(1, .ptr 0 0), (4, .p (.int .i64 n)), (5, .p (.int .i64 d)), (11, .p (.sl (k.ps.map encK))), (12, .p (.int .i64 k.ps.length)), (13, .p (.int .i64 k.ps.length)), (14, .p (.bool false))], stK k)

theorem loop71_ok (k : Kd) (hn : k.nodes ≤ 1000) (hs : k.shaped = true) (hrec : Rec71 k.nodes) :
    ∃ o, loopO false ⟨0, 0⟩ 71 lp71_0 1 0 (fr71 k 0 0 0) (stK k) = some o ∧ Q71 k (sizePs k.f k.ps 0 0) o := by
  have hlen := ps_len k
  have hN : nodesKs k.ps < k.nodes := by rw [nodesK_eq]; omega
  have hsh : ∀ x ∈ k.ps, x.shaped = true := by
    rw [shapedK_eq, Bool.and_eq_true, List.all_eq_true] at hs
    exact hs.1
  refine for_ex (hd71_0) k.ps.length (fun i F H => ∃ n d, F = fr71 k n d i ∧ H = stK k ∧ 0 ≤ n ∧ n + 200000000000 * (nodesKs (k.ps.drop i) : Int) ≤ 200000000000 * (nodesKs k.ps : Int) ∧ 0 ≤ d ∧ d ≤ (nodesKs k.ps : Int) ∧
      sizePs k.f (k.ps.drop i) n d = sizePs k.f k.ps 0 0) (Q71 k (sizePs k.f k.ps 0 0)) ?_ ?_
    (F := fr71 k 0 0 0) (H := stK k) (F0 := fr71 k 0 0 0) (H0 := stK k) (by simp [cutD, fr71, frNo, stK, blkNo]) ⟨0, 0, rfl, rfl, by omega, by simp, by omega, by omega, rfl⟩
  · rintro F H ⟨n, d, rfl, rfl, h1, h2, h3, h4, h5⟩
    rw [List.drop_length, sizePs] at h5
    rw [List.drop_length, nodesKs] at h2
    refine ⟨(.exit 0, [(1, .ptr 0 0), (4, .p (.int .i64 n)), (5, .p (.int .i64 d)), (11, .p (.sl (k.ps.map encK))), (12, .p (.int .i64 k.ps.length)), (13, .p (.int .i64 k.ps.length)), (14, .p (.bool false))], stK k), ?_, by simp, ?_⟩
    · simp [lp71_0, code71, Tryz.f71, fr71, stK]
    · rw [← h5]
      exact ⟨h1, by omega, h3, by omega, rfl⟩
  · rintro i F H hi ⟨n, d, rfl, rfl, h1, h2, h3, h4, h5⟩
    have hx := List.getElem_mem hi
    obtain ⟨_, s1, s2, s3, s4⟩ := size_same k.ps[i] (hsh _ hx)
    simp only [sizeMost] at s2
    have hxn : (k.ps[i].nodes : Int) ≤ nodesKs k.ps := by have := nodes_mem hx; omega
    have hr := fun H => hrec k.ps[i] H (ps_nodes hx) (hsh _ hx)
    rw [List.drop_eq_getElem_cons hi] at h2 h5
    simp only [nodesKs, sizePs] at h2 h5
    have hw2 : IntKind.i64.wrap ((i : Int) + 1) = (i : Int) + 1 := wrap64 (by omega) (by omega)
    have hw1 : IntKind.i64.wrap (n + k.ps[i].sizeP.1) = n + k.ps[i].sizeP.1 := wrap64 (by omega) (by omega)
    simp only [out71] at hr
    by_cases hc : k.ps[i].sizeP.1 = 0 ∧ k.f = 5
    · left
      rw [if_pos hc] at h5
      refine ⟨(.ret, [(2, .p (.int .i64 0)), (3, .p (.int .i64 0))], ⟨[bK k, bK k.ps[i]], []⟩), ?_, by simp, ?_⟩
      · have e1 := eq_true hc.1
        have e2 := eq_true hc.2
        simp [lp71_0, code71, Tryz.f71, fr71, stK, bK, hi, hr, splice, e1, e2]
      · rw [← h5]; exact ⟨_, rfl⟩
    · right
      rw [if_neg hc] at h5
      refine ⟨fr71 k (n + k.ps[i].sizeP.1) (max d k.ps[i].sizeP.2) (i + 1), ⟨[bK k, bK k.ps[i]], []⟩, ?_, fr71 k (n + k.ps[i].sizeP.1) (max d k.ps[i].sizeP.2) (i + 1), stK k, ?_, _, _, rfl, rfl, by omega, by omega, by omega, by omega, h5⟩
      · by_cases e1 : k.ps[i].sizeP.1 = 0
        · have e2 : k.f ≠ 5 := fun h => hc ⟨e1, h⟩
          have e1' := eq_true e1
          have e2' := eq_false e2
          simp [lp71_0, code71, Tryz.f71, fr71, stK, bK, hi, hr, splice, e1', e2', hw1, hw2, max_if]
        · have e1' := eq_false e1
          simp [lp71_0, code71, Tryz.f71, fr71, stK, bK, hi, hr, splice, e1', hw1, hw2, max_if]
      · simp [cutD, fr71, frNo, stK, blkNo, bK]

theorem one71_W (k : Kd) : E false ⟨0, 0⟩ 71 (cFst code71) (mkF 0 [.p (encK k)]) H00 = some (.normal, [(1, .ptr 0 0)], stK k) := by
  simp [cFst, code71, Tryz.f71, stK]
theorem two71_W (k : Kd) : E false ⟨0, 0⟩ 71 (cFst (cSnd code71)) [(1, .ptr 0 0)] (stK k) = some (.normal, [(1, .ptr 0 0), (4, .p (.int .i64 0)), (5, .p (.int .i64 0))], stK k) := by
  simp [cFst, cSnd, code71, Tryz.f71, stK]
theorem three71_W (k : Kd) (hn : k.nodes ≤ 1000) (hs : k.shaped = true) (hrec : Rec71 k.nodes) :
    match sizePs k.f k.ps 0 0 with
    | none => ∃ x, E false ⟨0, 0⟩ 71 (cFst (cSnd (cSnd code71))) [(1, .ptr 0 0), (4, .p (.int .i64 0)), (5, .p (.int .i64 0))] (stK k) = some (.ret, [(2, .p (.int .i64 0)), (3, .p (.int .i64 0))], ⟨[bK k, bK x], []⟩)
    | some (n, d) => 0 ≤ n ∧ n ≤ 1000000000000000 ∧ 0 ≤ d ∧ d ≤ 1000 ∧ E false ⟨0, 0⟩ 71 (cFst (cSnd (cSnd code71))) [(1, .ptr 0 0), (4, .p (.int .i64 0)), (5, .p (.int .i64 0))] (stK k) =
        some (.normal, [(1, .ptr 0 0), (4, .p (.int .i64 n)), (5, .p (.int .i64 d)), (11, .p (.sl (k.ps.map encK))), (12, .p (.int .i64 k.ps.length)), (13, .p (.int .i64 k.ps.length)), (14, .p (.bool false))], stK k) := by
  obtain ⟨o, hloop, hq⟩ := loop71_ok k hn hs hrec
  have h00 : ((0 : Nat) : Int) = 0 := rfl
  simp only [lp71_0, code71, Tryz.f71, fr71, stK, h00] at hloop
  unfold Q71 at hq
  split
  · rename_i e
    rw [e] at hq
    obtain ⟨x, rfl⟩ := hq
    exact ⟨x, by simp [cFst, cSnd, code71, Tryz.f71, stK, hloop]⟩
  · rename_i n d e
    rw [e] at hq
    obtain ⟨a, b, c, c', rfl⟩ := hq
    exact ⟨a, b, c, c', by simp [cFst, cSnd, code71, Tryz.f71, stK, hloop]⟩
theorem rst71_W (k : Kd) (n d : Int) (x y z u : D) (h1 : 0 ≤ n) (h2 : n ≤ 1000000000000000) (h3 : 0 ≤ d) (h4 : d ≤ 1000) (hm : 0 ≤ k.mo ∧ k.mo ≤ 199) :
    E false ⟨0, 0⟩ 71 (cSnd (cSnd (cSnd code71))) [(1, .ptr 0 0), (4, .p (.int .i64 n)), (5, .p (.int .i64 d)), (11, x), (12, y), (13, z), (14, u)] (stK k) =
      some (.ret, [(2, .p (.int .i64 (if k.f = 1 then (0, 0) else if k.f = 5 then (n + 1, d + 1) else if k.f = 6 then (if k.mo = 0 ∨ n = 0 then (1, 1) else (1 + k.mo * capI n, d + 1)) else (1, 1) : Int × Int).1)),
        (3, .p (.int .i64 (if k.f = 1 then (0, 0) else if k.f = 5 then (n + 1, d + 1) else if k.f = 6 then (if k.mo = 0 ∨ n = 0 then (1, 1) else (1 + k.mo * capI n, d + 1)) else (1, 1) : Int × Int).2))], stK k) := by
  have w1 : IntKind.i64.wrap (n + 1) = n + 1 := wrap64 (by omega) (by omega)
  have w2 : IntKind.i64.wrap (d + 1) = d + 1 := wrap64 (by omega) (by omega)
  by_cases c1 : k.f = 1
  · have e := eq_true c1
    simp [cSnd, code71, Tryz.f71, stK, e]
  have n1 := eq_false c1
  by_cases c5 : k.f = 5
  · have e := eq_true c5
    simp [cSnd, code71, Tryz.f71, stK, n1, e, w1, w2]
  have n5 := eq_false c5
  by_cases c6 : k.f = 6
  · have e := eq_true c6
    have hcap : min n 1000000000 = capI n := rfl
    have b1 : 0 ≤ k.mo * capI n := Int.mul_nonneg hm.1 (by unfold capI; omega)
    have b2 : k.mo * capI n ≤ 199 * 1000000000 := Int.mul_le_mul hm.2 (by unfold capI; omega) (by unfold capI; omega) (by omega)
    have w3 : IntKind.i64.wrap (k.mo * capI n) = k.mo * capI n := wrap64 (by omega) (by omega)
    have w4 : IntKind.i64.wrap (1 + k.mo * capI n) = 1 + k.mo * capI n := wrap64 (by omega) (by omega)
    by_cases c7 : k.mo = 0
    · have e7 := eq_true c7
      simp [cSnd, code71, Tryz.f71, stK, n1, n5, e, e7]
    · have e7 := eq_false c7
      by_cases c8 : n = 0
      · have e8 := eq_true c8
        simp [cSnd, code71, Tryz.f71, stK, n1, n5, e, e7, e8]
      · have e8 := eq_false c8
        simp [cSnd, code71, Tryz.f71, stK, n1, n5, e, e7, e8, min_if, hcap, w2, w3, w4]
  · have n6 := eq_false c6
    simp [cSnd, code71, Tryz.f71, stK, n1, n5, n6]

theorem sizePK_eq (k : Kd) : k.sizeP = match sizePs k.f k.ps 0 0 with
    | none => (0, 0)
    | some (n, d) => if k.f = 1 then (0, 0) else if k.f = 5 then (n + 1, d + 1) else if k.f = 6 then (if k.mo = 0 ∨ n = 0 then (1, 1) else (1 + k.mo * capI n, d + 1)) else (1, 1) := by
  cases k; rfl
theorem mo_ok {k : Kd} (h : k.shaped = true) : 0 ≤ k.mo ∧ k.mo ≤ 199 := by
  obtain ⟨f, lo, hi, mo, ps⟩ := k
  rw [shapedK_mk] at h
  show 0 ≤ mo ∧ mo ≤ 199
  rcases own_cases h.2 with ⟨_, _, _, a, _⟩ | ⟨_, _, _, _, a, _⟩ | ⟨_, _, _, a, _⟩ | ⟨_, _, _, a, b, _⟩ <;> omega

theorem size71_W (k : Kd) (H : Hp) (hn : k.nodes ≤ 1000) (hs : k.shaped = true) : W 71 [.p (encK k)] H = some (.ret (out71 k.sizeP), H) := by
  have key : ∀ (n : Nat) (k : Kd) (H : Hp), k.nodes ≤ n → k.nodes ≤ 1000 → k.shaped = true → W 71 [.p (encK k)] H = some (.ret (out71 k.sizeP), H) := by
    intro n
    induction n with
    | zero => intro k H h; have := nodes_pos k; omega
    | succ n ih =>
      intro k H hn hb hs
      refine W71_of rfl (by simp) ?_
      rw [E_cut (by rfl), one71_W]
      simp only
      rw [E_cut (by rfl), two71_W]
      simp only
      rw [E_cut (by rfl)]
      have h3 := three71_W k hb hs fun u H hu hs => ih u H (by omega) (by omega) hs
      rw [sizePK_eq]
      cases hsz : sizePs k.f k.ps 0 0 with
      | none =>
        rw [hsz] at h3
        obtain ⟨x, h3⟩ := h3
        rw [h3]
        simp [out71]
      | some nd =>
        obtain ⟨n', d'⟩ := nd
        rw [hsz] at h3
        obtain ⟨a, b, c, c', h3⟩ := h3
        rw [h3]
        simp only
        rw [rst71_W k n' d' _ _ _ _ a b c c' (mo_ok hs)]
        simp [out71, stK]
  exact key k.nodes k H (Nat.le_refl _) hn hs
end Go.Vi
end

section
/- Vi: layer 5: swardref05.Size; kind.Size. No conditions but those that stand with each. -/
namespace Go.Vi
open Go Go.Lib Go.Proofs
set_option maxRecDepth 100000
attribute [local simp] E_skip E_ret E_exit E_text E_draw E_seq E_cond E_block E_scope E_loop runOps runOp drawR slotsOf Hp.kept_zero runDraw runVF runX runV finV gate FlOK FlOK0 wantD exec fin opd look putF norm constD constC fieldAddrD loadD storeD opCall lenD binD isShift intP strP numD indexAddrD indexD D.pd? D.pds? sub capsOf callD argsD argD D.nf unP cellD mkF H00 cD_agg cD_pagg cD_int cD_bool cD_str cD_sl cD_lit cells_int
attribute [local simp] fnOut retOut resD retsD retD oneD D.noRefs D.noRef alone Hp.cut
attribute [local simp] cells_encK encK_agg box_encK

theorem size_ok {k : Kd} (hs : k.shaped = true) (hn : k.nodes ≤ 1000) : 0 ≤ k.size.1 ∧ k.size.1 ≤ 1000000000 ∧ 0 ≤ k.size.2 ∧ k.size.2 ≤ 1000 ∧ k.size.2 ≤ k.nodes := by
  obtain ⟨h1, h2, h3, h4, h5⟩ := size_same k hs
  rw [h1]
  refine ⟨by simp only [capI]; omega, by simp only [capI]; omega, h4, by simp only; omega, h5⟩

def fr42 (n d : Int) (i : Nat) : Fr := [(1, .ptr 0 0), (4, .p (.int .i64 n)), (5, .p (.int .i64 d)), (6, .p (.int .i64 i))]
def Rec42 (n : Nat) : Prop := ∀ (u : Kd) (H : Hp), u.nodes < n → u.shaped = true → W 42 [.p (encK u)] H = some (.ret (out71 u.size), H)
def Q42 (k : Kd) (s : Option (Int × Int)) (o : CO) : Prop :=
  match s with
  | none => o = (.ret, [(2, .p (.int .i64 0)), (3, .p (.int .i64 0))], stK k)
  | some (n, d) => 0 ≤ d ∧ d ≤ 1000 ∧ o = (.exit 1, [(1, .ptr 0 0), (4, .p (.int .i64 n)), (5, .p (.int .i64 d)), (6, .p (.int .i64 k.ps.length)), (21, .p (.bool false))], stK k)

theorem loop42_ok (k : Kd) (hn : k.nodes ≤ 1000) (hs : k.shaped = true) (hrec : Rec42 k.nodes) :
    ∃ o, loopO false ⟨0, 0⟩ 42 lp42_0 1 0 (fr42 1 0 0) (stK k) = some o ∧ Q42 k (sizeT k.ps 1 0) o := by
  have hlen := ps_len k
  have hN : nodesKs k.ps < k.nodes := by rw [nodesK_eq]; omega
  have hsh : ∀ x ∈ k.ps, x.shaped = true := by
    rw [shapedK_eq, Bool.and_eq_true, List.all_eq_true] at hs
    exact hs.1
  refine for_ex (hd42_0) k.ps.length (fun i F H => ∃ n d, F = fr42 n d i ∧ H = stK k ∧ 0 ≤ n ∧ n ≤ 1000000000 ∧ 0 ≤ d ∧ d ≤ 1000 ∧ sizeT (k.ps.drop i) n d = sizeT k.ps 1 0) (Q42 k (sizeT k.ps 1 0)) ?_ ?_
    (F := fr42 1 0 0) (H := stK k) (F0 := fr42 1 0 0) (H0 := stK k) (by simp [cutD, fr42, frNo, stK, blkNo]) ⟨1, 0, rfl, rfl, by omega, by omega, by omega, by omega, rfl⟩
  · rintro F H ⟨n, d, rfl, rfl, h1, h2, h3, h4, h5⟩
    rw [List.drop_length, sizeT] at h5
    refine ⟨(.exit 1, [(1, .ptr 0 0), (4, .p (.int .i64 n)), (5, .p (.int .i64 d)), (6, .p (.int .i64 k.ps.length)), (21, .p (.bool false))], stK k), ?_, by simp, ?_⟩
    · simp [lp42_0, code42, Tryz.f42, fr42, stK]
    · rw [← h5]
      exact ⟨h3, h4, rfl⟩
  · rintro i F H hi ⟨n, d, rfl, rfl, h1, h2, h3, h4, h5⟩
    have hx := List.getElem_mem hi
    have hxn := ps_nodes hx
    obtain ⟨s1, s2, s3, s4, _⟩ := size_ok (hsh _ hx) (by omega)
    have hr := fun H => hrec k.ps[i] H (ps_nodes hx) (hsh _ hx)
    rw [List.drop_eq_getElem_cons hi] at h5
    simp only [sizeT] at h5
    have hw2 : IntKind.i64.wrap ((i : Int) + 1) = (i : Int) + 1 := wrap64 (by omega) (by omega)
    have hw1 : IntKind.i64.wrap (n + k.ps[i].size.1) = n + k.ps[i].size.1 := wrap64 (by omega) (by omega)
    have hcap : min (n + k.ps[i].size.1) 1000000000 = capI (n + k.ps[i].size.1) := rfl
    simp only [out71] at hr
    by_cases hc : k.ps[i].size.1 = 0
    · left
      rw [if_pos hc] at h5
      refine ⟨(.ret, [(2, .p (.int .i64 0)), (3, .p (.int .i64 0))], stK k), ?_, by simp, ?_⟩
      · have e1 := eq_true hc
        simp [lp42_0, code42, Tryz.f42, fr42, stK, hi, hr, e1]
      · rw [← h5]; rfl
    · right
      rw [if_neg hc] at h5
      refine ⟨fr42 (capI (n + k.ps[i].size.1)) (max d k.ps[i].size.2) (i + 1), stK k, ?_, fr42 (capI (n + k.ps[i].size.1)) (max d k.ps[i].size.2) (i + 1), stK k, ?_, _, _, rfl, rfl, by unfold capI; omega, by unfold capI; omega, by omega, by omega, h5⟩
      · have e1' := eq_false hc
        simp [lp42_0, code42, Tryz.f42, fr42, stK, hi, hr, e1', hw1, hw2, max_if, min_if, hcap]
      · simp [cutD, fr42, frNo, stK, blkNo]

theorem sizeK_eq (k : Kd) : k.size = if k.f = 1 then (0, 0) else if k.f = 5 then (match sizeT k.ps 1 0 with | some (n, d) => (n, d + 1) | none => (0, 0))
    else if k.f = 6 then (if (sizeH k.ps).1 = 0 ∨ k.mo = 0 then (1, 1) else (capI (1 + k.mo * (sizeH k.ps).1), (sizeH k.ps).2 + 1)) else (1, 1) := by
  obtain ⟨f, lo, hi, mo, ps⟩ := k
  rfl

theorem set_part {k : Kd} (hs : k.shaped = true) (h : k.f = 6) : ∃ x, k.ps = [x] ∧ 0 ≤ k.mo ∧ k.mo ≤ 199 := by
  obtain ⟨f, lo, hi, mo, ps⟩ := k
  rw [shapedK_mk] at hs
  have hf : f = 6 := h
  rcases own_cases hs.2 with ⟨h, _⟩ | ⟨h, _⟩ | ⟨h, _⟩ | ⟨_, _, _, a3, a4, x, h⟩
  · omega
  · omega
  · omega
  · exact ⟨x, h, a3, a4⟩

theorem size42_W (k : Kd) (H : Hp) (hn : k.nodes ≤ 1000) (hs : k.shaped = true) : W 42 [.p (encK k)] H = some (.ret (out71 k.size), H) := by
  have key : ∀ (n : Nat) (k : Kd) (H : Hp), k.nodes ≤ n → k.nodes ≤ 1000 → k.shaped = true → W 42 [.p (encK k)] H = some (.ret (out71 k.size), H) := by
    intro n
    induction n with
    | zero => intro k H h; have := nodes_pos k; omega
    | succ n ih =>
      intro k H hn hb hs
      refine W42_of rfl (by simp) ?_
      rw [sizeK_eq]
      by_cases c1 : k.f = 1
      · have e := eq_true c1
        simp [code42, Tryz.f42, e, out71]
      have n1 := eq_false c1
      by_cases c5 : k.f = 5
      · have e := eq_true c5
        obtain ⟨o, hloop, hq⟩ := loop42_ok k hb hs fun u H hu hs => ih u H (by omega) (by omega) hs
        have h00 : ((0 : Nat) : Int) = 0 := rfl
        simp only [lp42_0, code42, Tryz.f42, fr42, stK, h00] at hloop
        unfold Q42 at hq
        cases hsz : sizeT k.ps 1 0 with
        | none =>
          rw [hsz] at hq
          subst hq
          simp [code42, Tryz.f42, n1, e, hloop, stK, out71]
        | some nd =>
          obtain ⟨n', d'⟩ := nd
          rw [hsz] at hq
          obtain ⟨a, b, rfl⟩ := hq
          have w2 : IntKind.i64.wrap (d' + 1) = d' + 1 := wrap64 (by omega) (by omega)
          simp [code42, Tryz.f42, n1, e, hloop, stK, out71, w2]
      have n5 := eq_false c5
      by_cases c6 : k.f = 6
      · have e := eq_true c6
        obtain ⟨x, hps, a3, a4⟩ := set_part hs c6
        have hm : x ∈ k.ps := by rw [hps]; simp
        have hxn := ps_nodes hm
        have hxs : x.shaped = true := by
          have hs' := hs
          rw [shapedK_eq, Bool.and_eq_true, List.all_eq_true] at hs'
          exact hs'.1 x hm
        obtain ⟨s1, s2, s3, s4, _⟩ := size_ok hxs (by omega)
        have hr := fun H => ih x H (by omega) (by omega) hxs
        simp only [out71] at hr
        have b1 : 0 ≤ k.mo * x.size.1 := Int.mul_nonneg a3 s1
        have b2 : k.mo * x.size.1 ≤ 199 * 1000000000 := Int.mul_le_mul a4 s2 s1 (by omega)
        have w2 : IntKind.i64.wrap (x.size.2 + 1) = x.size.2 + 1 := wrap64 (by omega) (by omega)
        have w3 : IntKind.i64.wrap (k.mo * x.size.1) = k.mo * x.size.1 := wrap64 (by omega) (by omega)
        have w4 : IntKind.i64.wrap (1 + k.mo * x.size.1) = 1 + k.mo * x.size.1 := wrap64 (by omega) (by omega)
        have hcap : min (1 + k.mo * x.size.1) 1000000000 = capI (1 + k.mo * x.size.1) := rfl
        by_cases z1 : x.size.1 = 0
        · have e1 := eq_true z1
          simp [code42, Tryz.f42, n1, n5, e, hps, sizeH, hr, e1, out71]
        · have e1 := eq_false z1
          by_cases z2 : k.mo = 0
          · have e2 := eq_true z2
            simp [code42, Tryz.f42, n1, n5, e, hps, sizeH, hr, e1, e2, out71]
          · have e2 := eq_false z2
            simp [code42, Tryz.f42, n1, n5, e, hps, sizeH, hr, e1, e2, out71, w2, w3, w4, min_if, hcap]
      · have n6 := eq_false c6
        simp [code42, Tryz.f42, n1, n5, n6, out71]
  exact key k.nodes k H (Nat.le_refl _) hn hs

theorem valid_nodes {k : Kd} (h : k.valid = true) : k.nodes ≤ 20 ∧ k.shaped = true := by
  unfold Kd.valid at h
  rw [Bool.and_eq_true] at h
  exact ⟨fit_nodes h.1, h.2⟩
/-- What Size says. -/
def sizeR (k : Kd) : D := if k.valid = true then .tup [.p (.int .i64 k.size.1), .p (.int .i64 k.size.2), .p (.int .i64 0)] else .tup [.p (.int .i64 0), .p (.int .i64 0), .p (.int .i64 2)]
theorem size29_W (k : Kd) (H : Hp) (hb : k.nodes < 4611686018427387904) : W 29 [.p (encK k)] H = some (.ret (sizeR k), H) := by
  refine W29_of rfl (by simp) ?_
  have h60 := fun H => valid60_W k H hb
  unfold sizeR
  cases hv : k.valid with
  | false => simp [code29, Tryz.f29, h60, hv]
  | true =>
    obtain ⟨h1, h2⟩ := valid_nodes hv
    have h71 := fun H => size71_W k H (by omega) h2
    obtain ⟨e, h3, h4, h5, h6⟩ := size_same k h2
    simp only [out71] at h71
    have hcap : min k.sizeP.1 1000000000 = capI k.sizeP.1 := rfl
    rw [e]
    simp [code29, Tryz.f29, h60, hv, h71, min_if, hcap]
end Go.Vi
end

section
/- Vi: layer 5: swardref05.Count, empty. No conditions but those that stand with each. -/
namespace Go.Vi
open Go Go.Lib Go.Proofs
set_option maxRecDepth 100000
attribute [local simp] E_skip E_ret E_exit E_text E_draw E_seq E_cond E_block E_scope E_loop runOps runOp drawR slotsOf Hp.kept_zero runDraw runVF runX runV finV gate FlOK FlOK0 wantD exec fin opd look putF norm constD constC fieldAddrD loadD storeD opCall lenD binD isShift intP strP numD indexAddrD indexD D.pd? D.pds? sub capsOf callD argsD argD D.nf unP cellD mkF H00 cD_agg cD_pagg cD_int cD_bool cD_str cD_sl cD_lit cells_int
attribute [local simp] fnOut retOut resD retsD retD oneD D.noRefs D.noRef alone Hp.cut
attribute [local simp] cells_encK encK_agg box_encK

/-- What the reference's Count answers. -/
def Kd.cntR (k : Kd) : Int × Bool :=
  if k.f = 1 then (0, true) else if k.f = 3 then (2, true) else if k.f = 2 then (k.hi - k.lo + 1, decide (k.hi - k.lo + 1 ≤ 1000000000))
  else if k.f = 5 then (match k.cnt with | some n => (n, true) | none => (0, false)) else (0, false)
theorem cntK_eq (k : Kd) : k.cnt = if k.f = 1 then some 0 else if k.f = 3 then some 2 else if k.f = 2 then (if k.hi - k.lo + 1 ≤ 1000000000 then some (k.hi - k.lo + 1) else none)
    else if k.f = 5 then cntLoop (emptyL (cnts k.ps)) (cnts k.ps) 1 else none := by
  obtain ⟨f, lo, hi, mo, ps⟩ := k
  rfl
theorem cntR_some {k : Kd} {n : Int} (h : k.cnt = some n) : k.cntR = (n, true) := by
  rw [cntK_eq] at h
  unfold Kd.cntR
  split
  · rename_i c; rw [if_pos c] at h; injection h with h; rw [h]
  rename_i c; rw [if_neg c] at h
  split
  · rename_i c; rw [if_pos c] at h; injection h with h; rw [h]
  rename_i c3; rw [if_neg c3] at h
  split
  · rename_i c; rw [if_pos c] at h
    split at h
    · rename_i c'; injection h with h; rw [h] at c' ⊢; simp [c']
    · cases h
  rename_i c2; rw [if_neg c2] at h
  split
  · rename_i c; rw [if_pos c] at h
    rw [cntK_eq, if_neg (by omega), if_neg c3, if_neg c2, if_pos c, h]
  · rename_i c; rw [if_neg c] at h; cases h
theorem cntR_none {k : Kd} (h : k.cnt = none) : k.cntR.2 = false := by
  rw [cntK_eq] at h
  unfold Kd.cntR
  split
  · rename_i c; rw [if_pos c] at h; cases h
  rename_i c; rw [if_neg c] at h
  split
  · rename_i c; rw [if_pos c] at h; cases h
  rename_i c3; rw [if_neg c3] at h
  split
  · rename_i c; rw [if_pos c] at h
    split at h
    · cases h
    · rename_i c'; simp; omega
  rename_i c2; rw [if_neg c2] at h
  split
  · rename_i c; rw [if_pos c] at h
    rw [cntK_eq, if_neg (by omega), if_neg c3, if_neg c2, if_pos c, h]
  · rfl

def outC (x : Int × Bool) : D := .tup [.p (.int .i64 x.1), .p (.bool x.2)]
def Rec43 (n : Nat) : Prop := ∀ (u : Kd) (H : Hp), u.nodes < n → u.shaped = true → W 43 [.p (encK u)] H = some (.ret (outC u.cntR), H)

def isE (k : Kd) : Bool := k.cnt == some 0
theorem isE_R (k : Kd) : isE k = (k.cntR.2 && decide (k.cntR.1 = 0)) := by
  unfold isE
  cases h : k.cnt with
  | none => rw [cntR_none h]; rfl
  | some n =>
    rw [cntR_some h]
    by_cases hn : n = 0 <;> simp [hn]
theorem emptyL_any (k : Kd) : emptyL (cnts k.ps) = k.ps.any isE := by
  rw [cnts_map]; unfold emptyL isE; rw [List.any_map]; rfl

def fr82 (i : Nat) : Fr := [(1, .ptr 0 0), (3, .p (.int .i64 i))]
theorem loop82_ok (k : Kd) (hn : k.nodes ≤ 1000) (hsh : ∀ x ∈ k.ps, x.shaped = true) (hrec : Rec43 k.nodes) : loopO false ⟨0, 0⟩ 82 lp82_0 1 0 (fr82 0) (stK k) =
    some (if k.ps.all (fun x => !isE x) = true then (.exit 0, [(1, .ptr 0 0), (3, .p (.int .i64 k.ps.length)), (10, .p (.bool false))], stK k) else (.ret, [(2, .p (.bool true))], stK k)) := by
  have hl := ps_len k
  rw [← range_all (fun x => !isE x) kz k.ps]
  refine for_all (hd82_0) k.ps.length fr82 (stK k) _ (by simp) (by simp) ?_ (fun i hi => ?_) (F := fr82 0) (H := stK k) (by simp [cutD, fr82, frNo, stK, blkNo])
  · simp [lp82_0, code82, Tryz.f82, fr82, stK]
  · have hx := List.getElem_mem hi
    have hr := fun H => hrec k.ps[i] H (ps_nodes hx) (hsh _ hx)
    have hw : IntKind.i64.wrap ((i : Int) + 1) = (i : Int) + 1 := wrap64 (by omega) (by omega)
    have hE := isE_R k.ps[i]
    simp only [outC] at hr
    rw [getD_get hi]
    cases h2 : k.ps[i].cntR.2 with
    | false =>
      left
      rw [h2] at hE
      refine ⟨by rw [hE]; rfl, fr82 (i + 1), stK k, ?_, by simp [cutD, fr82, frNo, stK, blkNo]⟩
      simp [lp82_0, code82, Tryz.f82, fr82, stK, hi, hr, h2, hw]
    | true =>
      by_cases h1 : k.ps[i].cntR.1 = 0
      · right
        refine ⟨by rw [hE, h2, decide_eq_true h1]; rfl, ?_⟩
        have e1 := eq_true h1
        simp [lp82_0, code82, Tryz.f82, fr82, stK, hi, hr, h2, e1, hw]
      · left
        have e1 := eq_false h1
        refine ⟨by rw [hE, decide_eq_false h1, Bool.and_false]; rfl, fr82 (i + 1), stK k, ?_, by simp [cutD, fr82, frNo, stK, blkNo]⟩
        simp [lp82_0, code82, Tryz.f82, fr82, stK, hi, hr, h2, e1, hw]
theorem empty82_W (k : Kd) (H : Hp) (hn : k.nodes ≤ 1000) (hsh : ∀ x ∈ k.ps, x.shaped = true) (hrec : Rec43 k.nodes) : W 82 [.p (encK k)] H = some (.ret (.p (.bool (emptyL (cnts k.ps)))), H) := by
  refine W82_of rfl (by simp) ?_
  have hloop := loop82_ok k hn hsh hrec
  have h00 : ((0 : Nat) : Int) = 0 := rfl
  simp only [lp82_0, code82, Tryz.f82, fr82, stK, h00] at hloop
  have e : emptyL (cnts k.ps) = !k.ps.all (fun x => !isE x) := by
    rw [emptyL_any]
    induction k.ps with
    | nil => rfl
    | cons x r ih => simp [List.any_cons, List.all_cons, ih]
  rw [e]
  cases ha : k.ps.all (fun x => !isE x) <;> rw [ha] at hloop <;> simp only [Bool.false_eq_true, if_false, if_true] at hloop <;> simp [code82, Tryz.f82, hloop]

def fr43 (n : Int) (i : Nat) : Fr := [(1, .ptr 0 0), (5, .p (.int .i64 n)), (6, .p (.int .i64 i))]
def Q43 (k : Kd) (s : Option Int) (o : CO) : Prop :=
  match s with
  | none => o = (.ret, [(2, .p (.int .i64 0)), (3, .p (.bool false))], stK k)
  | some n => o = (.exit 1, [(1, .ptr 0 0), (5, .p (.int .i64 n)), (6, .p (.int .i64 k.ps.length)), (32, .p (.bool false))], stK k)
theorem loop43_ok (k : Kd) (hn : k.nodes ≤ 1000) (hsh : ∀ x ∈ k.ps, x.shaped = true) (hrec : Rec43 k.nodes) :
    ∃ o, loopO false ⟨0, 0⟩ 43 lp43_0 1 0 (fr43 1 0) (stK k) = some o ∧ Q43 k (cntLoop (emptyL (cnts k.ps)) (cnts k.ps) 1) o := by
  have hlen := ps_len k
  refine for_ex (hd43_0) k.ps.length (fun i F H => ∃ n, F = fr43 n i ∧ H = stK k ∧ 0 ≤ n ∧ n ≤ 1000000000 ∧ cntLoop (emptyL (cnts k.ps)) (cnts (k.ps.drop i)) n = cntLoop (emptyL (cnts k.ps)) (cnts k.ps) 1)
    (Q43 k (cntLoop (emptyL (cnts k.ps)) (cnts k.ps) 1)) ?_ ?_
    (F := fr43 1 0) (H := stK k) (F0 := fr43 1 0) (H0 := stK k) (by simp [cutD, fr43, frNo, stK, blkNo]) ⟨1, rfl, rfl, by omega, by omega, rfl⟩
  · rintro F H ⟨n, rfl, rfl, h1, h2, h5⟩
    rw [List.drop_length, cnts, cntLoop] at h5
    refine ⟨(.exit 1, [(1, .ptr 0 0), (5, .p (.int .i64 n)), (6, .p (.int .i64 k.ps.length)), (32, .p (.bool false))], stK k), ?_, by simp, ?_⟩
    · simp [lp43_0, code43, Tryz.f43, fr43, stK]
    · rw [← h5]; rfl
  · rintro i F H hi ⟨n, rfl, rfl, h1, h2, h5⟩
    have hx := List.getElem_mem hi
    have hr := fun H => hrec k.ps[i] H (ps_nodes hx) (hsh _ hx)
    have he := fun H => empty82_W k H hn hsh hrec
    have hw2 : IntKind.i64.wrap ((i : Int) + 1) = (i : Int) + 1 := wrap64 (by omega) (by omega)
    simp only [outC] at hr
    rw [List.drop_eq_getElem_cons hi] at h5
    simp only [cnts] at h5
    cases hc : k.ps[i].cnt with
    | none =>
      left
      have h2' := cntR_none hc
      rw [hc, cntLoop] at h5
      refine ⟨(.ret, [(2, .p (.int .i64 0)), (3, .p (.bool false))], stK k), ?_, by simp, ?_⟩
      · simp [lp43_0, code43, Tryz.f43, fr43, stK, hi, hr, h2']
      · rw [← h5]; rfl
    | some m =>
      have h2' := cntR_some hc
      obtain ⟨_, hb⟩ := cnt_same k.ps[i] (hsh _ hx)
      obtain ⟨m0, m1⟩ := hb m hc
      rw [hc, cntLoop] at h5
      rw [h2'] at hr
      have b1 : 0 ≤ n * m := Int.mul_nonneg h1 m0
      have b2 : n * m ≤ 1000000000 * 1000000000 := Int.mul_le_mul h2 m1 m0 (by omega)
      have w1 : IntKind.i64.wrap (n * m) = n * m := wrap64 (by omega) (by omega)
      have hcap : min (n * m) 1000000000 = capI (n * m) := rfl
      by_cases hg : 1000000000 < n * m
      · cases hE : emptyL (cnts k.ps) with
        | false =>
          left
          rw [hE] at he h5
          rw [if_pos ⟨hg, rfl⟩] at h5
          refine ⟨(.ret, [(2, .p (.int .i64 0)), (3, .p (.bool false))], stK k), ?_, by simp, ?_⟩
          · simp [lp43_0, code43, Tryz.f43, fr43, stK, hi, hr, w1, hg, he]
          · rw [← h5]; rfl
        | true =>
          right
          rw [hE] at he h5
          rw [if_neg (by simp)] at h5
          refine ⟨fr43 (capI (n * m)) (i + 1), stK k, ?_, fr43 (capI (n * m)) (i + 1), stK k, ?_, _, rfl, rfl, by unfold capI; omega, by unfold capI; omega, h5⟩
          · have hc2 : capI (n * m) = 1000000000 := by unfold capI; omega
            simp [lp43_0, code43, Tryz.f43, fr43, stK, hi, hr, w1, hg, he, hc2, hw2]
          · simp [cutD, fr43, frNo, stK, blkNo]
      · right
        rw [if_neg (fun h => hg h.1)] at h5
        refine ⟨fr43 (capI (n * m)) (i + 1), stK k, ?_, fr43 (capI (n * m)) (i + 1), stK k, ?_, _, rfl, rfl, by unfold capI; omega, by unfold capI; omega, h5⟩
        · have hc2 : capI (n * m) = n * m := by unfold capI; omega
          simp [lp43_0, code43, Tryz.f43, fr43, stK, hi, hr, w1, hg, hc2, hw2]
        · simp [cutD, fr43, frNo, stK, blkNo]

theorem int_ok {k : Kd} (hs : k.shaped = true) : -1000000000 ≤ k.lo ∧ k.lo ≤ 1000000000 ∧ -1000000000 ≤ k.hi ∧ k.hi ≤ 1000000000 := by
  obtain ⟨f, lo, hi, mo, ps⟩ := k
  rw [shapedK_mk] at hs
  show -1000000000 ≤ lo ∧ lo ≤ 1000000000 ∧ -1000000000 ≤ hi ∧ hi ≤ 1000000000
  rcases own_cases hs.2 with ⟨_, a, b, _⟩ | ⟨_, a, b, c, _⟩ | ⟨_, a, b, _⟩ | ⟨_, a, b, _⟩ <;> omega
theorem parts_ok {k : Kd} (hs : k.shaped = true) : ∀ x ∈ k.ps, x.shaped = true := by
  rw [shapedK_eq, Bool.and_eq_true, List.all_eq_true] at hs
  exact hs.1

theorem count43_W (k : Kd) (H : Hp) (hn : k.nodes ≤ 1000) (hs : k.shaped = true) : W 43 [.p (encK k)] H = some (.ret (outC k.cntR), H) := by
  have key : ∀ (n : Nat) (k : Kd) (H : Hp), k.nodes ≤ n → k.nodes ≤ 1000 → k.shaped = true → W 43 [.p (encK k)] H = some (.ret (outC k.cntR), H) := by
    intro n
    induction n with
    | zero => intro k H h; have := nodes_pos k; omega
    | succ n ih =>
      intro k H hn hb hs
      refine W43_of rfl (by simp) ?_
      unfold Kd.cntR
      by_cases c1 : k.f = 1
      · have e := eq_true c1
        simp [code43, Tryz.f43, e, outC]
      have n1 := eq_false c1
      by_cases c3 : k.f = 3
      · have e := eq_true c3
        simp [code43, Tryz.f43, n1, e, outC]
      have n3 := eq_false c3
      by_cases c2 : k.f = 2
      · have e := eq_true c2
        obtain ⟨a, b, c, d⟩ := int_ok hs
        have w1 : IntKind.i64.wrap (k.hi - k.lo) = k.hi - k.lo := wrap64 (by omega) (by omega)
        have w2 : IntKind.i64.wrap (k.hi - k.lo + 1) = k.hi - k.lo + 1 := wrap64 (by omega) (by omega)
        simp [code43, Tryz.f43, n1, n3, e, outC, w1, w2]
      have n2 := eq_false c2
      by_cases c5 : k.f = 5
      · have e := eq_true c5
        obtain ⟨o, hloop, hq⟩ := loop43_ok k hb (parts_ok hs) fun u H hu hs => ih u H (by omega) (by omega) hs
        have h00 : ((0 : Nat) : Int) = 0 := rfl
        simp only [lp43_0, code43, Tryz.f43, fr43, stK, h00] at hloop
        have hck : k.cnt = cntLoop (emptyL (cnts k.ps)) (cnts k.ps) 1 := by rw [cntK_eq, if_neg c1, if_neg c3, if_neg c2, if_pos c5]
        rw [hck]
        unfold Q43 at hq
        cases hsz : cntLoop (emptyL (cnts k.ps)) (cnts k.ps) 1 with
        | none =>
          rw [hsz] at hq
          subst hq
          simp [code43, Tryz.f43, n1, n2, n3, e, hloop, stK, outC]
        | some m =>
          rw [hsz] at hq
          subst hq
          simp [code43, Tryz.f43, n1, n2, n3, e, hloop, stK, outC]
      have n5 := eq_false c5
      simp [code43, Tryz.f43, n1, n2, n3, n5, outC]
  exact key k.nodes k H (Nat.le_refl _) hn hs
end Go.Vi
end

section
/- Vi: layer 5: slices.Contains of numbers; kind.product, count, Count. No conditions but those that stand with each. -/
namespace Go.Vi
open Go Go.Lib Go.Proofs
set_option maxRecDepth 100000
attribute [local simp] E_skip E_ret E_exit E_text E_draw E_seq E_cond E_block E_scope E_loop runOps runOp drawR slotsOf Hp.kept_zero runDraw runVF runX runV finV gate FlOK FlOK0 wantD exec fin opd look putF norm constD constC fieldAddrD loadD storeD opCall lenD binD isShift intP strP numD indexAddrD indexD D.pd? D.pds? sub capsOf callD argsD argD D.nf unP cellD mkF H00 cD_agg cD_pagg cD_int cD_bool cD_str cD_sl cD_lit cells_int
attribute [local simp] fnOut retOut resD retsD retD oneD D.noRefs D.noRef alone Hp.cut
attribute [local simp] cells_encK encK_agg box_encK

theorem find_idx_of {α : Type} (p : α → Bool) (x : α) : ∀ (l : List α), (List.range l.length).find? (fun i => p (l.getD i x)) = l.findIdx? p := by
  have key : ∀ (l pre : List α), (List.range' pre.length l.length).find? (fun i => p ((pre ++ l).getD i x)) = (l.findIdx? p).map (· + pre.length) := by
    intro l
    induction l with
    | nil => intro pre; rfl
    | cons y r ih =>
      intro pre
      have hg : (pre ++ y :: r).getD pre.length x = y := by simp [List.getD_eq_getElem?_getD]
      rw [List.length_cons, List.range'_succ, List.find?_cons, hg, List.findIdx?_cons]
      cases hy : p y with
      | true => simp
      | false =>
        have := ih (pre ++ [y])
        simp only [List.length_append, List.length_singleton, List.append_assoc, List.singleton_append] at this
        simp only [Bool.false_eq_true, if_false]
        rw [this, Option.map_map]
        congr 1
        funext j
        simp; omega
  intro l
  rw [List.range_eq_range']
  have := key l []
  simpa using this
def idxO {α : Type} (p : α → Bool) (l : List α) : Int := match l.findIdx? p with | some i => (i : Int) | none => -1
theorem idxO_any {α : Type} (p : α → Bool) (l : List α) : decide (0 ≤ idxO p l) = l.any p := by
  unfold idxO
  cases hf : l.findIdx? p with
  | none =>
    have := List.findIdx?_eq_none_iff.1 hf
    have h2 : l.any p = false := by
      rw [List.any_eq_false]; intro x hx; simp [this x hx]
    rw [h2]; rfl
  | some i =>
    have h := List.findIdx?_eq_some_iff_getElem.1 hf
    obtain ⟨hi, hp, _⟩ := h
    have h2 : l.any p = true := List.any_eq_true.2 ⟨l[i], List.getElem_mem hi, hp⟩
    rw [h2]; simp

theorem idx184_W (l : List Int) (v : Int) (hlen : l.length < 4611686018427387904) (H : Hp) : W 184 [.p (.sl (l.map iP)), .p (.int .i64 v)] H = some (.ret (.p (.int .i64 (idxO (fun x => decide (v = x)) l))), H) := by
  refine W184_of rfl (by simp) ?_
  have hloop : loopO false ⟨0, 0⟩ 184 lp184_0 0 0 [(0, .p (.sl (l.map iP))), (1, .p (.int .i64 v)), (7, .p (.int .i64 l.length)), (8, .p (.int .i64 (0 : Nat)))] H00 =
      some (match (List.range l.length).find? (fun i => decide (v = l.getD i 0)) with
        | some i => (.ret, [(4, .p (.int .i64 i))], H00)
        | none => (.exit 0, [(0, .p (.sl (l.map iP))), (1, .p (.int .i64 v)), (7, .p (.int .i64 l.length)), (8, .p (.int .i64 l.length)), (9, .p (.bool false))], H00)) := by
    refine for_find (hd184_0) l.length (fun i => [(0, .p (.sl (l.map iP))), (1, .p (.int .i64 v)), (7, .p (.int .i64 l.length)), (8, .p (.int .i64 i))]) H00 (fun i => decide (v = l.getD i 0))
      (by simp) (by simp) ?_ (fun i hi => ?_) (by simp [cutD, frNo])
    · simp [lp184_0, code184, Tryz.f184]
    · have hw : IntKind.i64.wrap ((i : Int) + 1) = (i : Int) + 1 := wrap64 (by omega) (by omega)
      rw [getD_get hi]
      by_cases hpi : v = l[i]
      · right
        refine ⟨decide_eq_true hpi, ?_⟩
        have e := eq_true hpi
        simp [lp184_0, code184, Tryz.f184, hi, e, hw]
      · left
        have e := eq_false hpi
        refine ⟨decide_eq_false hpi, [(0, .p (.sl (l.map iP))), (1, .p (.int .i64 v)), (7, .p (.int .i64 l.length)), (8, .p (.int .i64 (i + 1 : Nat)))], H00, ?_, by simp [cutD, frNo]⟩
        simp [lp184_0, code184, Tryz.f184, hi, e, hw]
  rw [find_idx_of (fun x => decide (v = x))] at hloop
  have h00 : ((0 : Nat) : Int) = 0 := rfl
  simp only [lp184_0, code184, Tryz.f184, h00, H00] at hloop
  unfold idxO
  cases hf : l.findIdx? (fun x => decide (v = x)) with
  | none => rw [hf] at hloop; simp [code184, Tryz.f184, hloop]
  | some i => rw [hf] at hloop; simp [code184, Tryz.f184, hloop]
theorem contains146_W (l : List Int) (v : Int) (hlen : l.length < 4611686018427387904) (H : Hp) : W 146 [.p (.sl (l.map iP)), .p (.int .i64 v)] H = some (.ret (.p (.bool (l.contains v))), H) := by
  refine W146_of rfl (by simp) ?_
  have h := fun H => idx184_W l v hlen H
  have e : l.contains v = l.any (fun x => decide (v = x)) := by
    rw [List.contains_eq_any_beq]
    congr 1
  rw [e, ← idxO_any]
  simp [code146, Tryz.f146, h]

/-! ### product -/
def Q107 (l : List Int) (s : Option Int) (o : CO) : Prop :=
  match s with
  | none => o = (.ret, [(2, .p (.int .i64 (-1)))], H00)
  | some n => o = (.exit 0, [(3, .p (.int .i64 n)), (8, .p (.sl (l.map iP))), (9, .p (.int .i64 l.length)), (10, .p (.int .i64 l.length)), (11, .p (.bool false))], H00)
def fr107 (l : List Int) (n : Int) (i : Nat) : Fr := [(3, .p (.int .i64 n)), (8, .p (.sl (l.map iP))), (9, .p (.int .i64 l.length)), (10, .p (.int .i64 i))]
theorem loop107_ok (l : List Int) (hlen : l.length < 4611686018427387904) (hp : ∀ x ∈ l, 1 ≤ x) (hq : ∀ x ∈ l, x ≤ 1000000000) : ∃ o, loopO false ⟨0, 0⟩ 107 lp107_0 0 0 (fr107 l 1 0) H00 = some o ∧ Q107 l (prodLoop l 1) o := by
  refine for_ex (hd107_0) l.length (fun i F H => ∃ n, F = fr107 l n i ∧ H = H00 ∧ 1 ≤ n ∧ n ≤ 1000000000 ∧ prodLoop (l.drop i) n = prodLoop l 1) (Q107 l (prodLoop l 1)) ?_ ?_
    (F := fr107 l 1 0) (H := H00) (F0 := fr107 l 1 0) (H0 := H00) (by simp [cutD, fr107, frNo]) ⟨1, rfl, rfl, by omega, by omega, rfl⟩
  · rintro F H ⟨n, rfl, rfl, h1, h2, h5⟩
    rw [List.drop_length, prodLoop] at h5
    refine ⟨(.exit 0, [(3, .p (.int .i64 n)), (8, .p (.sl (l.map iP))), (9, .p (.int .i64 l.length)), (10, .p (.int .i64 l.length)), (11, .p (.bool false))], H00), ?_, by simp, ?_⟩
    · simp [lp107_0, code107, Tryz.f107, fr107]
    · rw [← h5]; rfl
  · rintro i F H hi ⟨n, rfl, rfl, h1, h2, h5⟩
    have hx := List.getElem_mem hi
    have x1 := hp _ hx
    have x2 := hq _ hx
    have hw2 : IntKind.i64.wrap ((i : Int) + 1) = (i : Int) + 1 := wrap64 (by omega) (by omega)
    have hdiv : Int.tdiv 1000000000 n = 1000000000 / n := Int.tdiv_eq_ediv_of_nonneg (by omega)
    have d0 : 0 ≤ 1000000000 / n := Int.ediv_nonneg (by omega) (by omega)
    have d1 : 1000000000 / n ≤ 1000000000 := Int.ediv_le_self _ (by omega)
    have w3 : IntKind.i64.wrap (1000000000 / n) = 1000000000 / n := wrap64 (by omega) (by omega)
    have hn0 : n ≠ 0 := by omega
    rw [List.drop_eq_getElem_cons hi] at h5
    simp only [prodLoop] at h5
    by_cases hc : 1000000000 / n < l[i]
    · left
      rw [if_pos hc] at h5
      refine ⟨(.ret, [(2, .p (.int .i64 (-1)))], H00), ?_, by simp, ?_⟩
      · simp [lp107_0, code107, Tryz.f107, fr107, hi, hdiv, w3, hc, hn0]
      · rw [← h5]; rfl
    · right
      rw [if_neg hc] at h5
      have hb : ¬ 1000000000 < n * l[i] := fun h => hc (by rw [Int.ediv_lt_iff_lt_mul (by omega), Int.mul_comm]; exact h)
      have b1 : 1 ≤ n * l[i] := by
        have := Int.mul_le_mul h1 x1 (by omega) (by omega : (0:Int) ≤ n)
        omega
      have w1 : IntKind.i64.wrap (n * l[i]) = n * l[i] := wrap64 (by omega) (by omega)
      refine ⟨fr107 l (n * l[i]) (i + 1), H00, ?_, fr107 l (n * l[i]) (i + 1), H00, ?_, _, rfl, rfl, b1, by omega, h5⟩
      · simp [lp107_0, code107, Tryz.f107, fr107, hi, hdiv, w3, hc, hn0, w1, hw2]
      · simp [cutD, fr107, frNo]
theorem product107_W (l : List Int) (hlen : l.length < 4611686018427387904) (hp : ∀ x ∈ l, 0 ≤ x ∧ x ≤ 1000000000) (H : Hp) : W 107 [.p (.sl (l.map iP))] H = some (.ret (.p (.int .i64 ((prodP l).getD (-1)))), H) := by
  refine W107_of rfl (by simp) ?_
  have hc := fun H => contains146_W l 0 hlen H
  unfold prodP
  cases hz : l.contains 0 with
  | true =>
    rw [hz] at hc
    simp [code107, Tryz.f107, hc]
  | false =>
    rw [hz] at hc
    have hnm : (0 : Int) ∉ l := fun h => by rw [List.contains_iff_mem.2 h] at hz; cases hz
    have hpos : ∀ x ∈ l, 1 ≤ x := fun x hx => by
      have := (hp x hx).1
      have : x ≠ 0 := fun e => hnm (e ▸ hx)
      omega
    obtain ⟨o, hloop, hq⟩ := loop107_ok l hlen hpos fun x hx => (hp x hx).2
    have h00 : ((0 : Nat) : Int) = 0 := rfl
    simp only [lp107_0, code107, Tryz.f107, fr107, h00, H00] at hloop
    unfold Q107 at hq
    cases hs : prodLoop l 1 with
    | none => rw [hs] at hq; subst hq; simp [code107, Tryz.f107, hc, hloop]
    | some n => rw [hs] at hq; subst hq; simp [code107, Tryz.f107, hc, hloop]
end Go.Vi
end

section
/- Vi: layer 5: kind.count, Count. No conditions but those that stand with each. -/
namespace Go.Vi
open Go Go.Lib Go.Proofs
set_option maxRecDepth 100000
attribute [local simp] E_skip E_ret E_exit E_text E_draw E_seq E_cond E_block E_scope E_loop runOps runOp drawR slotsOf Hp.kept_zero runDraw runVF runX runV finV gate FlOK FlOK0 wantD exec fin opd look putF norm constD constC fieldAddrD loadD storeD opCall lenD binD isShift intP strP numD indexAddrD indexD D.pd? D.pds? sub capsOf callD argsD argD D.nf unP cellD mkF H00 cD_agg cD_pagg cD_int cD_bool cD_str cD_sl cD_lit cells_int
attribute [local simp] fnOut retOut resD retsD retD oneD D.noRefs D.noRef alone Hp.cut
attribute [local simp] cells_encK encK_agg box_encK
attribute [local simp] newRow Hp.live one_int one_str one_sl one_agg

def cntI (k : Kd) : Int := k.cntP.getD (-1)
def Rec72 (n : Nat) : Prop := ∀ (u : Kd) (H : Hp), u.nodes < n → u.shaped = true → W 72 [.p (encK u)] H = some (.ret (.p (.int .i64 (cntI u))), H)
def row72 (i : Nat) (l : List Int) : Arr := ⟨i, 3, 1, decide (i = 0), true, l.map iP⟩
def fr72 (k : Kd) (i : Nat) : Fr := [(4, .own 0 i), (28, .p (.sl (k.ps.map encK))), (29, .p (.int .i64 k.ps.length)), (30, .p (.int .i64 i))]
def Q72 (k : Kd) (s : Option (List Int)) (o : CO) : Prop :=
  match s with
  | none => ∃ H, o = (.ret, [(2, .p (.int .i64 (-1)))], H) ∧ ∃ x, H.B = [bK k, bK x]
  | some l => o = (.exit 1, [(4, .own 0 k.ps.length), (28, .p (.sl (k.ps.map encK))), (29, .p (.int .i64 k.ps.length)), (30, .p (.int .i64 k.ps.length)), (31, .p (.bool false))], ⟨[bK k], [row72 k.ps.length l]⟩)
theorem fitI (l : List Int) : fits 1 (l.map iP) = true := by
  unfold fits
  rw [List.all_eq_true]
  intro x hx
  obtain ⟨n, _, rfl⟩ := List.mem_map.1 hx
  rfl

theorem loop72_ok (k : Kd) (hn : k.nodes ≤ 1000) (hsh : ∀ x ∈ k.ps, x.shaped = true) (hrec : Rec72 k.nodes) :
    ∃ o, loopO false ⟨0, 0⟩ 72 lp72_0 1 1 (fr72 k 0) ⟨[bK k], [row72 0 []]⟩ = some o ∧ Q72 k (cntsP k.ps) o := by
  have hlen := ps_len k
  refine for_ex (hd72_0) k.ps.length (fun i F H => ∃ l, F = fr72 k i ∧ H = ⟨[bK k], [row72 i l]⟩ ∧ l.length = i ∧ cntsP k.ps = (cntsP (k.ps.drop i)).map (l ++ ·)) (Q72 k (cntsP k.ps)) ?_ ?_
    (F := fr72 k 0) (H := ⟨[bK k], [row72 0 []]⟩) (F0 := fr72 k 0) (H0 := ⟨[bK k], [row72 0 []]⟩) (by simp [cutD, fr72, frNo, bK, blkNo]) ⟨[], rfl, rfl, rfl, by simp⟩
  · rintro F H ⟨l, rfl, rfl, h1, h5⟩
    rw [List.drop_length, cntsP] at h5
    refine ⟨(.exit 1, [(4, .own 0 k.ps.length), (28, .p (.sl (k.ps.map encK))), (29, .p (.int .i64 k.ps.length)), (30, .p (.int .i64 k.ps.length)), (31, .p (.bool false))], ⟨[bK k], [row72 k.ps.length l]⟩), ?_, by simp, ?_⟩
    · simp [lp72_0, code72, Tryz.f72, fr72]
    · rw [h5]; simp [Q72]
  · rintro i F H hi ⟨l, rfl, rfl, h1, h5⟩
    have hx := List.getElem_mem hi
    have hr := fun H => hrec k.ps[i] H (ps_nodes hx) (hsh _ hx)
    have hw2 : IntKind.i64.wrap ((i : Int) + 1) = (i : Int) + 1 := wrap64 (by omega) (by omega)
    rw [List.drop_eq_getElem_cons hi] at h5
    simp only [cntsP] at h5
    unfold cntI at hr
    obtain ⟨hsame, hpos⟩ := cnt_same k.ps[i] (hsh _ hx)
    cases hc : k.ps[i].cntP with
    | none =>
      left
      rw [hc] at hr h5
      simp only [Option.getD_none, Option.map_none] at hr h5
      refine ⟨(.ret, [(2, .p (.int .i64 (-1)))], ⟨[bK k, bK k.ps[i]], [row72 i l]⟩), ?_, by simp, ?_⟩
      · simp [lp72_0, code72, Tryz.f72, fr72, bK, hi, hr, splice]
      · rw [h5]; exact ⟨_, rfl, _, rfl⟩
    | some m =>
      right
      rw [hc] at hr h5
      simp only [Option.getD_some] at hr h5
      obtain ⟨m0, m1⟩ := hpos m (by rw [← hsame, hc])
      have hneg : ¬ m < 0 := by omega
      have hf1 : fits 1 [iP m] = true := rfl
      have hlen2 : (l.length + 1) * 8 ≤ 140737488355328 := by omega
      have hlen3 : (l.map iP).length = l.length := by simp
      refine ⟨[(4, .own 0 (i + 1)), (28, .p (.sl (k.ps.map encK))), (29, .p (.int .i64 k.ps.length)), (30, .p (.int .i64 (i + 1 : Nat)))], ⟨[bK k, bK k.ps[i]], [row72 (i + 1) (l ++ [m])]⟩, ?_, fr72 k (i + 1), ⟨[bK k], [row72 (i + 1) (l ++ [m])]⟩, ?_, l ++ [m], rfl, rfl, by simp [h1], ?_⟩
      · simp [lp72_0, code72, Tryz.f72, fr72, bK, hi, hr, splice, hneg, appendD, srcD, row72, hf1, hlen2, hw2, buildSliceD, elsD]
      · simp [cutD, fr72, frNo, blkNo, bK]
      · rw [h5, Option.map_map]
        congr 1
        funext r
        simp

theorem cntPK_eq (k : Kd) : k.cntP = if k.f = 1 then some 0 else if k.f = 2 then (if k.hi - k.lo + 1 ≤ 1000000000 then some (k.hi - k.lo + 1) else none)
    else if k.f = 3 then some 2 else if k.f = 5 then (cntsP k.ps).bind prodP else none := by
  obtain ⟨f, lo, hi, mo, ps⟩ := k
  rfl

theorem count72_W (k : Kd) (H : Hp) (hn : k.nodes ≤ 1000) (hs : k.shaped = true) : W 72 [.p (encK k)] H = some (.ret (.p (.int .i64 (cntI k))), H) := by
  have key : ∀ (n : Nat) (k : Kd) (H : Hp), k.nodes ≤ n → k.nodes ≤ 1000 → k.shaped = true → W 72 [.p (encK k)] H = some (.ret (.p (.int .i64 (cntI k))), H) := by
    intro n
    induction n with
    | zero => intro k H h; have := nodes_pos k; omega
    | succ n ih =>
      intro k H hn hb hs
      refine W72_of rfl (by simp) ?_
      unfold cntI
      rw [cntPK_eq]
      by_cases c1 : k.f = 1
      · have e := eq_true c1
        simp [code72, Tryz.f72, e]
      have n1 := eq_false c1
      by_cases c2 : k.f = 2
      · have e := eq_true c2
        obtain ⟨a, b, c, d⟩ := int_ok hs
        have w1 : IntKind.i64.wrap (k.hi - k.lo) = k.hi - k.lo := wrap64 (by omega) (by omega)
        have w2 : IntKind.i64.wrap (k.hi - k.lo + 1) = k.hi - k.lo + 1 := wrap64 (by omega) (by omega)
        by_cases hc : k.hi - k.lo + 1 ≤ 1000000000
        · simp [code72, Tryz.f72, n1, e, w1, w2, hc]
        · simp [code72, Tryz.f72, n1, e, w1, w2, hc]
      have n2 := eq_false c2
      by_cases c3 : k.f = 3
      · have e := eq_true c3
        simp [code72, Tryz.f72, n1, n2, e]
      have n3 := eq_false c3
      by_cases c5 : k.f = 5
      · have e := eq_true c5
        obtain ⟨o, hloop, hq⟩ := loop72_ok k hb (parts_ok hs) fun u H hu hs => ih u H (by omega) (by omega) hs
        have h00 : ((0 : Nat) : Int) = 0 := rfl
        simp only [lp72_0, code72, Tryz.f72, fr72, bK, row72, h00, List.map_nil, decide_true] at hloop
        have hlen := ps_len k
        unfold Q72 at hq
        cases hsz : cntsP k.ps with
        | none =>
          rw [hsz] at hq
          obtain ⟨⟨HB, HA⟩, rfl, x, hx⟩ := hq
          simp only at hx
          subst hx
          simp [code72, Tryz.f72, n1, n2, n3, e, hloop, bK]
        | some l =>
          rw [hsz] at hq
          subst hq
          have hl : l.length = k.ps.length := by
            have key : ∀ (ps : List Kd) (l : List Int), cntsP ps = some l → l.length = ps.length := by
              intro ps
              induction ps with
              | nil => intro l h; injection h with h; rw [← h]; rfl
              | cons a r ih =>
                intro l h
                simp only [cntsP] at h
                split at h
                · cases hr : cntsP r with
                  | none => rw [hr] at h; cases h
                  | some m => rw [hr] at h; injection h with h; rw [← h]; simp [ih m hr]
                · cases h
            exact key _ _ hsz
          have hpos : ∀ x ∈ l, 0 ≤ x ∧ x ≤ 1000000000 := by
            rcases cnts_same k.ps (parts_ok hs) with ⟨h, _⟩ | ⟨m, h, _, h2⟩
            · rw [hsz] at h; cases h
            · rw [hsz] at h; injection h with h; rw [h]; exact h2
          have hp := fun H => product107_W l (by omega) hpos H
          simp [code72, Tryz.f72, n1, n2, n3, e, hloop, bK, row72, hp]
      have n5 := eq_false c5
      simp [code72, Tryz.f72, n1, n2, n3, n5]
  exact key k.nodes k H (Nat.le_refl _) hn hs

def countR (k : Kd) : D := if k.valid = true then (match k.cnt with | some n => .tup [.p (.int .i64 n), .p (.int .i64 0)] | none => .tup [.p (.int .i64 0), .p (.int .i64 5)]) else .tup [.p (.int .i64 0), .p (.int .i64 2)]
theorem count32_W (k : Kd) (H : Hp) (hb : k.nodes < 4611686018427387904) : W 32 [.p (encK k)] H = some (.ret (countR k), H) := by
  refine W32_of rfl (by simp) ?_
  have h60 := fun H => valid60_W k H hb
  unfold countR
  cases hv : k.valid with
  | false => simp [code32, Tryz.f32, h60, hv]
  | true =>
    obtain ⟨h1, h2⟩ := valid_nodes hv
    have h72 := fun H => count72_W k H (by omega) h2
    obtain ⟨hsame, hpos⟩ := cnt_same k h2
    unfold cntI at h72
    rw [hsame] at h72
    cases hc : k.cnt with
    | none =>
      rw [hc] at h72
      simp only [Option.getD_none] at h72
      simp [code32, Tryz.f32, h60, hv, h72]
    | some n =>
      rw [hc] at h72
      simp only [Option.getD_some] at h72
      have := hpos n hc
      have hneg : ¬ n < 0 := by omega
      simp [code32, Tryz.f32, h60, hv, h72, hneg]
end Go.Vi
end
