/- The tied card of the law KindLattice is proved here: for every input that can be read as data the law answers true. Conditions: those of the given card. -/
import Derived.Test.YtjkpdlloccnilaaGreatDoorMNJ
import Derived.Test.YtjkpdlloccnilaaGreatDoorMFB
import Derived.Test.YtjkpdlloccnilaaGreatDoorMRW
import Derived.Test.YtjkpdlloccnilaaGreatDoorCards
import Derived.Test.YtjkpdlloccnilaaGreatDoorTie
import Derived.SevenTiedAt
set_option linter.unusedVariables false
set_option linter.unusedSimpArgs false

section
/- the law KindLattice (f5): true. No conditions but those that stand with each. -/
namespace Go.Vi
open Go Go.Lib Go.Proofs
set_option maxRecDepth 100000
attribute [local simp] E_skip E_ret E_exit E_text E_draw E_seq E_cond E_block E_scope E_loop runOps runOp drawR slotsOf Hp.kept_zero runDraw runVF runX runV finV gate FlOK FlOK0 wantD exec fin opd look putF norm constD constC fieldAddrD loadD storeD opCall lenD binD isShift intP strP numD indexAddrD indexD D.pd? D.pds? sub capsOf callD argsD argD D.nf unP cellD mkF H00 cD_agg cD_pagg cD_int cD_bool cD_str cD_sl cD_lit cells_int
attribute [local simp] fnOut retOut resD retsD retD oneD D.noRefs D.noRef alone Hp.cut
attribute [local simp] cells_encK encK_agg box_encK cells_enc enc_agg box_enc one_int one_str one_sl one_agg cD_own cD_ptr
attribute [local simp] newRow Hp.live one_encK one_enc splice

def m5 (a b c : Kd) (v : Val) : Hp := ⟨[bK a, bK b, bK c, bV v], []⟩
def n5 (a b c k : Kd) (v : Val) : Hp := ⟨[bK a, bK b, bK c, bV v, bK k], []⟩
section
variable (a b c k : Kd) (v : Val)
theorem one5_W : E false ⟨0, 0⟩ 5 (cFst code5) (mkF 0 [.p (encK a), .p (encK b), .p (encK c), .p (enc v)]) H00 = some (.normal, [(4, .ptr 0 0), (5, .ptr 1 0), (6, .ptr 2 0), (7, .ptr 3 0)], m5 a b c v) := by
  simp [cFst, code5, Tryz.f5, m5, bK, bV]
def all5 : Bool := a.small && b.small && c.small && v.small && a.valid && b.valid && c.valid && v.valid
set_option maxHeartbeats 4000000 in
theorem two5_W : E false ⟨0, 0⟩ 5 (cFst (cSnd code5)) [(4, .ptr 0 0), (5, .ptr 1 0), (6, .ptr 2 0), (7, .ptr 3 0)] (m5 a b c v) = if all5 a b c v = true then some (.normal, [(4, .ptr 0 0), (5, .ptr 1 0), (6, .ptr 2 0), (7, .ptr 3 0), (68, .p (.bool false))], m5 a b c v) else some (.ret, [(8, .p (.bool true))], m5 a b c v) := by
  have hk := fun H => known_W H
  have a12 := fun H => small12_W a H
  have b12 := fun H => small12_W b H
  have c12 := fun H => small12_W c H
  have v13 := fun H => small_W v H
  have a21 := fun H => valid21_W a H
  have b21 := fun H => valid21_W b H
  have c21 := fun H => valid21_W c H
  unfold all5
  cases sa : a.small with
  | false => rw [sa] at a12; simp [cFst, cSnd, code5, Tryz.f5, m5, bK, bV, hk, a12]
  | true =>
  rw [sa] at a12
  cases sb : b.small with
  | false => rw [sb] at b12; simp [cFst, cSnd, code5, Tryz.f5, m5, bK, bV, hk, a12, b12]
  | true =>
  rw [sb] at b12
  cases sc : c.small with
  | false => rw [sc] at c12; simp [cFst, cSnd, code5, Tryz.f5, m5, bK, bV, hk, a12, b12, c12]
  | true =>
  rw [sc] at c12
  cases sv : v.small with
  | false => rw [sv] at v13; simp [cFst, cSnd, code5, Tryz.f5, m5, bK, bV, hk, a12, b12, c12, v13]
  | true =>
  rw [sv] at v13
  cases va : a.valid with
  | false => rw [va] at a21; simp [cFst, cSnd, code5, Tryz.f5, m5, bK, bV, hk, a12, b12, c12, v13, a21]
  | true =>
  rw [va] at a21
  cases vb : b.valid with
  | false => rw [vb] at b21; simp [cFst, cSnd, code5, Tryz.f5, m5, bK, bV, hk, a12, b12, c12, v13, a21, b21]
  | true =>
  rw [vb] at b21
  cases vc : c.valid with
  | false => rw [vc] at c21; simp [cFst, cSnd, code5, Tryz.f5, m5, bK, bV, hk, a12, b12, c12, v13, a21, b21, c21]
  | true =>
  rw [vc] at c21
  obtain ⟨fv, bv⟩ := small_fine sv
  have v17 := fun H => valid_W v fv bv H
  cases vv : v.valid with
  | false => rw [vv] at v17; simp [cFst, cSnd, code5, Tryz.f5, m5, bK, bV, hk, a12, b12, c12, v13, a21, b21, c21, v17]
  | true => rw [vv] at v17; simp [cFst, cSnd, code5, Tryz.f5, m5, bK, bV, hk, a12, b12, c12, v13, a21, b21, c21, v17]
theorem reg3_5 (x1 : Bool) (h : ∀ H, W 27 [.p (encK a), .p (encK c)] H = some (.ret (.tup [.p (.bool x1), .p (.bool true)]), H)) :
    E false ⟨0, 0⟩ 5 (cFst (cSnd (cSnd code5))) [(4, .ptr 0 0), (5, .ptr 1 0), (6, .ptr 2 0), (7, .ptr 3 0), (68, .p (.bool false))] (m5 a b c v) = some (.normal, [(4, .ptr 0 0), (5, .ptr 1 0), (6, .ptr 2 0), (7, .ptr 3 0), (9, .p (.bool x1)), (10, .p (.bool true))], m5 a b c v) := by
  simp [cFst, cSnd, code5, Tryz.f5, m5, bK, bV, h]
theorem reg4_5 (x1 x2 : Bool) (h : ∀ H, W 27 [.p (encK b), .p (encK c)] H = some (.ret (.tup [.p (.bool x2), .p (.bool true)]), H)) :
    E false ⟨0, 0⟩ 5 (cFst (cSnd (cSnd (cSnd code5)))) [(4, .ptr 0 0), (5, .ptr 1 0), (6, .ptr 2 0), (7, .ptr 3 0), (9, .p (.bool x1)), (10, .p (.bool true))] (m5 a b c v) = some (.normal, [(4, .ptr 0 0), (5, .ptr 1 0), (6, .ptr 2 0), (7, .ptr 3 0), (9, .p (.bool x1)), (10, .p (.bool true)), (11, .p (.bool x2)), (12, .p (.bool true))], m5 a b c v) := by
  simp [cFst, cSnd, code5, Tryz.f5, m5, bK, bV, h]
theorem reg5_5 (x1 x2 x3 : Bool) (h : ∀ H, W 27 [.p (encK a), .p (encK b)] H = some (.ret (.tup [.p (.bool x3), .p (.bool true)]), H)) :
    E false ⟨0, 0⟩ 5 (cFst (cSnd (cSnd (cSnd (cSnd code5))))) [(4, .ptr 0 0), (5, .ptr 1 0), (6, .ptr 2 0), (7, .ptr 3 0), (9, .p (.bool x1)), (10, .p (.bool true)), (11, .p (.bool x2)), (12, .p (.bool true))] (m5 a b c v) = some (.normal, [(4, .ptr 0 0), (5, .ptr 1 0), (6, .ptr 2 0), (7, .ptr 3 0), (9, .p (.bool x1)), (10, .p (.bool true)), (11, .p (.bool x2)), (12, .p (.bool true)), (13, .p (.bool x3)), (14, .p (.bool true))], m5 a b c v) := by
  simp [cFst, cSnd, code5, Tryz.f5, m5, bK, bV, h]
theorem reg6_5 (x1 x2 x3 x4 : Bool) (h : ∀ H, W 15 [.p (encK a), .p (enc v)] H = some (.ret (.tup [.p (.bool x4), .p (.int .i64 0)]), H)) :
    E false ⟨0, 0⟩ 5 (cFst (cSnd (cSnd (cSnd (cSnd (cSnd code5)))))) [(4, .ptr 0 0), (5, .ptr 1 0), (6, .ptr 2 0), (7, .ptr 3 0), (9, .p (.bool x1)), (10, .p (.bool true)), (11, .p (.bool x2)), (12, .p (.bool true)), (13, .p (.bool x3)), (14, .p (.bool true))] (m5 a b c v) = some (.normal, [(4, .ptr 0 0), (5, .ptr 1 0), (6, .ptr 2 0), (7, .ptr 3 0), (9, .p (.bool x1)), (10, .p (.bool true)), (11, .p (.bool x2)), (12, .p (.bool true)), (13, .p (.bool x3)), (14, .p (.bool true)), (15, .p (.bool x4)), (16, .p (.int .i64 0))], m5 a b c v) := by
  simp [cFst, cSnd, code5, Tryz.f5, m5, bK, bV, h]
theorem reg7_5 (x1 x2 x3 x4 x5 : Bool) (h : ∀ H, W 15 [.p (encK b), .p (enc v)] H = some (.ret (.tup [.p (.bool x5), .p (.int .i64 0)]), H)) :
    E false ⟨0, 0⟩ 5 (cFst (cSnd (cSnd (cSnd (cSnd (cSnd (cSnd code5))))))) [(4, .ptr 0 0), (5, .ptr 1 0), (6, .ptr 2 0), (7, .ptr 3 0), (9, .p (.bool x1)), (10, .p (.bool true)), (11, .p (.bool x2)), (12, .p (.bool true)), (13, .p (.bool x3)), (14, .p (.bool true)), (15, .p (.bool x4)), (16, .p (.int .i64 0))] (m5 a b c v) = some (.normal, [(4, .ptr 0 0), (5, .ptr 1 0), (6, .ptr 2 0), (7, .ptr 3 0), (9, .p (.bool x1)), (10, .p (.bool true)), (11, .p (.bool x2)), (12, .p (.bool true)), (13, .p (.bool x3)), (14, .p (.bool true)), (15, .p (.bool x4)), (16, .p (.int .i64 0)), (17, .p (.bool x5)), (18, .p (.int .i64 0))], m5 a b c v) := by
  simp [cFst, cSnd, code5, Tryz.f5, m5, bK, bV, h]
theorem reg8_5 (x1 x2 x3 x4 x5 x6 : Bool) (h : ∀ H, W 15 [.p (encK c), .p (enc v)] H = some (.ret (.tup [.p (.bool x6), .p (.int .i64 0)]), H)) :
    E false ⟨0, 0⟩ 5 (cFst (cSnd (cSnd (cSnd (cSnd (cSnd (cSnd (cSnd code5)))))))) [(4, .ptr 0 0), (5, .ptr 1 0), (6, .ptr 2 0), (7, .ptr 3 0), (9, .p (.bool x1)), (10, .p (.bool true)), (11, .p (.bool x2)), (12, .p (.bool true)), (13, .p (.bool x3)), (14, .p (.bool true)), (15, .p (.bool x4)), (16, .p (.int .i64 0)), (17, .p (.bool x5)), (18, .p (.int .i64 0))] (m5 a b c v) = some (.normal, [(4, .ptr 0 0), (5, .ptr 1 0), (6, .ptr 2 0), (7, .ptr 3 0), (9, .p (.bool x1)), (10, .p (.bool true)), (11, .p (.bool x2)), (12, .p (.bool true)), (13, .p (.bool x3)), (14, .p (.bool true)), (15, .p (.bool x4)), (16, .p (.int .i64 0)), (17, .p (.bool x5)), (18, .p (.int .i64 0)), (19, .p (.bool x6)), (20, .p (.int .i64 0))], m5 a b c v) := by
  simp [cFst, cSnd, code5, Tryz.f5, m5, bK, bV, h]
set_option maxHeartbeats 4000000 in
theorem reg9_5 (x1 x2 x3 x4 x5 x6 : Bool) (h1 : x3 = true → x2 = true → x1 = true) (h2 : x4 = true → x1 = true → x6 = true) (h3 : x4 = true → x3 = true → x5 = true) :
    E false ⟨0, 0⟩ 5 (cFst (cSnd (cSnd (cSnd (cSnd (cSnd (cSnd (cSnd (cSnd code5))))))))) [(4, .ptr 0 0), (5, .ptr 1 0), (6, .ptr 2 0), (7, .ptr 3 0), (9, .p (.bool x1)), (10, .p (.bool true)), (11, .p (.bool x2)), (12, .p (.bool true)), (13, .p (.bool x3)), (14, .p (.bool true)), (15, .p (.bool x4)), (16, .p (.int .i64 0)), (17, .p (.bool x5)), (18, .p (.int .i64 0)), (19, .p (.bool x6)), (20, .p (.int .i64 0))] (m5 a b c v) = some (.normal, [(4, .ptr 0 0), (5, .ptr 1 0), (6, .ptr 2 0), (7, .ptr 3 0), (9, .p (.bool x1)), (11, .p (.bool x2)), (15, .p (.bool x4)), (17, .p (.bool x5)), (157, .p (.bool false))], m5 a b c v) := by
  cases x3 with
  | false =>
    cases x4 with
    | false => simp [cFst, cSnd, code5, Tryz.f5]
    | true =>
      cases x1 with
      | false => simp [cFst, cSnd, code5, Tryz.f5]
      | true => obtain rfl := h2 rfl rfl; simp [cFst, cSnd, code5, Tryz.f5]
  | true =>
    cases x4 with
    | false =>
      cases x2 with
      | false => simp [cFst, cSnd, code5, Tryz.f5]
      | true => obtain rfl := h1 rfl rfl; simp [cFst, cSnd, code5, Tryz.f5]
    | true =>
      obtain rfl := h3 rfl rfl
      cases x2 with
      | true => obtain rfl := h1 rfl rfl; obtain rfl := h2 rfl rfl; simp [cFst, cSnd, code5, Tryz.f5]
      | false =>
        cases x1 with
        | false => simp [cFst, cSnd, code5, Tryz.f5]
        | true => obtain rfl := h2 rfl rfl; simp [cFst, cSnd, code5, Tryz.f5]
theorem reg11_5 (x1 x2 x4 x5 : Bool) (e : Int) (h : ∀ H, W 24 [.p (encK a), .p (encK b)] H = some (.ret (.tup [.p (encK k), .p (.int .i64 e)]), H)) :
    E false ⟨0, 0⟩ 5 (cFst (cSnd (cSnd (cSnd (cSnd (cSnd (cSnd (cSnd (cSnd (cSnd code5)))))))))) [(4, .ptr 0 0), (5, .ptr 1 0), (6, .ptr 2 0), (7, .ptr 3 0), (9, .p (.bool x1)), (11, .p (.bool x2)), (15, .p (.bool x4)), (17, .p (.bool x5)), (157, .p (.bool false))] (m5 a b c v) = some (.normal, [(4, .ptr 0 0), (5, .ptr 1 0), (6, .ptr 2 0), (7, .ptr 3 0), (9, .p (.bool x1)), (11, .p (.bool x2)), (15, .p (.bool x4)), (17, .p (.bool x5)), (21, .ptr 4 0), (22, .p (.int .i64 e))], n5 a b c k v) := by
  simp [cFst, cSnd, code5, Tryz.f5, m5, n5, bK, bV, h]
theorem reg12_no (x1 x2 x4 x5 : Bool) (h : x1 = true → x2 = true → a.f = 6 ∨ a.f = 5) :
    E false ⟨0, 0⟩ 5 (cFst (cSnd (cSnd (cSnd (cSnd (cSnd (cSnd (cSnd (cSnd (cSnd (cSnd code5))))))))))) [(4, .ptr 0 0), (5, .ptr 1 0), (6, .ptr 2 0), (7, .ptr 3 0), (9, .p (.bool x1)), (11, .p (.bool x2)), (15, .p (.bool x4)), (17, .p (.bool x5)), (21, .ptr 4 0), (22, .p (.int .i64 5))] (n5 a b c k v) = some (.ret, [(8, .p (.bool true))], n5 a b c k v) := by
  have hk := fun H => known_W H
  cases x1 with
  | false => simp [cFst, cSnd, code5, Tryz.f5, hk]
  | true =>
    cases x2 with
    | false => simp [cFst, cSnd, code5, Tryz.f5, hk]
    | true =>
      by_cases h6 : a.f = 6
      · have e6 := eq_true h6
        simp [cFst, cSnd, code5, Tryz.f5, hk, n5, bK, e6]
      · have e6 := eq_false h6
        have e5 : (a.f = 5) = True := eq_true (by rcases h rfl rfl with h | h <;> omega)
        simp [cFst, cSnd, code5, Tryz.f5, hk, n5, bK, e6, e5]
theorem reg12_yes (x1 x2 x4 x5 : Bool) :
    E false ⟨0, 0⟩ 5 (cFst (cSnd (cSnd (cSnd (cSnd (cSnd (cSnd (cSnd (cSnd (cSnd (cSnd code5))))))))))) [(4, .ptr 0 0), (5, .ptr 1 0), (6, .ptr 2 0), (7, .ptr 3 0), (9, .p (.bool x1)), (11, .p (.bool x2)), (15, .p (.bool x4)), (17, .p (.bool x5)), (21, .ptr 4 0), (22, .p (.int .i64 0))] (n5 a b c k v) = some (.normal, [(4, .ptr 0 0), (5, .ptr 1 0), (6, .ptr 2 0), (7, .ptr 3 0), (9, .p (.bool x1)), (11, .p (.bool x2)), (15, .p (.bool x4)), (17, .p (.bool x5)), (21, .ptr 4 0), (22, .p (.int .i64 0)), (165, .p (.bool false))], n5 a b c k v) := by
  simp [cFst, cSnd, code5, Tryz.f5]
theorem reg14_5 (x1 x2 x4 x5 : Bool) (h1 : ∀ H, W 12 [.p (encK k)] H = some (.ret (.p (.bool true)), H)) (h2 : ∀ H, W 21 [.p (encK k)] H = some (.ret (.p (.bool true)), H)) :
    E false ⟨0, 0⟩ 5 (cFst (cSnd (cSnd (cSnd (cSnd (cSnd (cSnd (cSnd (cSnd (cSnd (cSnd (cSnd code5)))))))))))) [(4, .ptr 0 0), (5, .ptr 1 0), (6, .ptr 2 0), (7, .ptr 3 0), (9, .p (.bool x1)), (11, .p (.bool x2)), (15, .p (.bool x4)), (17, .p (.bool x5)), (21, .ptr 4 0), (22, .p (.int .i64 0)), (165, .p (.bool false))] (n5 a b c k v) = some (.normal, [(4, .ptr 0 0), (5, .ptr 1 0), (6, .ptr 2 0), (7, .ptr 3 0), (9, .p (.bool x1)), (11, .p (.bool x2)), (15, .p (.bool x4)), (17, .p (.bool x5)), (21, .ptr 4 0), (195, .p (.bool false))], n5 a b c k v) := by
  simp [cFst, cSnd, code5, Tryz.f5, n5, bK, h1, h2]
theorem reg16_5 (x1 x2 x4 x5 : Bool) (h : ∀ H, W 27 [.p (encK a), .p (encK k)] H = some (.ret (.tup [.p (.bool true), .p (.bool true)]), H)) :
    E false ⟨0, 0⟩ 5 (cFst (cSnd (cSnd (cSnd (cSnd (cSnd (cSnd (cSnd (cSnd (cSnd (cSnd (cSnd (cSnd code5))))))))))))) [(4, .ptr 0 0), (5, .ptr 1 0), (6, .ptr 2 0), (7, .ptr 3 0), (9, .p (.bool x1)), (11, .p (.bool x2)), (15, .p (.bool x4)), (17, .p (.bool x5)), (21, .ptr 4 0), (195, .p (.bool false))] (n5 a b c k v) = some (.normal, [(4, .ptr 0 0), (5, .ptr 1 0), (6, .ptr 2 0), (7, .ptr 3 0), (9, .p (.bool x1)), (11, .p (.bool x2)), (15, .p (.bool x4)), (17, .p (.bool x5)), (21, .ptr 4 0), (23, .p (.bool true)), (24, .p (.bool true))], n5 a b c k v) := by
  simp [cFst, cSnd, code5, Tryz.f5, n5, bK, h]
theorem reg17_5 (x1 x2 x4 x5 : Bool) (h : ∀ H, W 27 [.p (encK b), .p (encK k)] H = some (.ret (.tup [.p (.bool true), .p (.bool true)]), H)) :
    E false ⟨0, 0⟩ 5 (cFst (cSnd (cSnd (cSnd (cSnd (cSnd (cSnd (cSnd (cSnd (cSnd (cSnd (cSnd (cSnd (cSnd code5)))))))))))))) [(4, .ptr 0 0), (5, .ptr 1 0), (6, .ptr 2 0), (7, .ptr 3 0), (9, .p (.bool x1)), (11, .p (.bool x2)), (15, .p (.bool x4)), (17, .p (.bool x5)), (21, .ptr 4 0), (23, .p (.bool true)), (24, .p (.bool true))] (n5 a b c k v) = some (.normal, [(4, .ptr 0 0), (5, .ptr 1 0), (6, .ptr 2 0), (7, .ptr 3 0), (9, .p (.bool x1)), (11, .p (.bool x2)), (15, .p (.bool x4)), (17, .p (.bool x5)), (21, .ptr 4 0), (23, .p (.bool true)), (24, .p (.bool true)), (25, .p (.bool true)), (26, .p (.bool true))], n5 a b c k v) := by
  simp [cFst, cSnd, code5, Tryz.f5, n5, bK, h]
theorem reg18_5 (x1 x2 x4 x5 x7 : Bool) (h : ∀ H, W 27 [.p (encK k), .p (encK c)] H = some (.ret (.tup [.p (.bool x7), .p (.bool true)]), H)) :
    E false ⟨0, 0⟩ 5 (cFst (cSnd (cSnd (cSnd (cSnd (cSnd (cSnd (cSnd (cSnd (cSnd (cSnd (cSnd (cSnd (cSnd (cSnd code5))))))))))))))) [(4, .ptr 0 0), (5, .ptr 1 0), (6, .ptr 2 0), (7, .ptr 3 0), (9, .p (.bool x1)), (11, .p (.bool x2)), (15, .p (.bool x4)), (17, .p (.bool x5)), (21, .ptr 4 0), (23, .p (.bool true)), (24, .p (.bool true)), (25, .p (.bool true)), (26, .p (.bool true))] (n5 a b c k v) = some (.normal, [(4, .ptr 0 0), (5, .ptr 1 0), (7, .ptr 3 0), (9, .p (.bool x1)), (11, .p (.bool x2)), (15, .p (.bool x4)), (17, .p (.bool x5)), (21, .ptr 4 0), (23, .p (.bool true)), (24, .p (.bool true)), (25, .p (.bool true)), (26, .p (.bool true)), (27, .p (.bool x7)), (28, .p (.bool true))], n5 a b c k v) := by
  simp [cFst, cSnd, code5, Tryz.f5, n5, bK, h]
theorem reg19_5 (x1 x2 x4 x5 x7 x8 : Bool) (h : ∀ H, W 15 [.p (encK k), .p (enc v)] H = some (.ret (.tup [.p (.bool x8), .p (.int .i64 0)]), H)) :
    E false ⟨0, 0⟩ 5 (cFst (cSnd (cSnd (cSnd (cSnd (cSnd (cSnd (cSnd (cSnd (cSnd (cSnd (cSnd (cSnd (cSnd (cSnd (cSnd code5)))))))))))))))) [(4, .ptr 0 0), (5, .ptr 1 0), (7, .ptr 3 0), (9, .p (.bool x1)), (11, .p (.bool x2)), (15, .p (.bool x4)), (17, .p (.bool x5)), (21, .ptr 4 0), (23, .p (.bool true)), (24, .p (.bool true)), (25, .p (.bool true)), (26, .p (.bool true)), (27, .p (.bool x7)), (28, .p (.bool true))] (n5 a b c k v) = some (.normal, [(4, .ptr 0 0), (5, .ptr 1 0), (9, .p (.bool x1)), (11, .p (.bool x2)), (15, .p (.bool x4)), (17, .p (.bool x5)), (23, .p (.bool true)), (24, .p (.bool true)), (25, .p (.bool true)), (26, .p (.bool true)), (27, .p (.bool x7)), (28, .p (.bool true)), (29, .p (.bool x8)), (30, .p (.int .i64 0))], n5 a b c k v) := by
  simp [cFst, cSnd, code5, Tryz.f5, n5, bK, bV, h]
theorem reg20_5 (x1 x2 x4 x5 x7 x8 : Bool) (h1 : x4 = true → x8 = true) (h2 : x5 = true → x8 = true) :
    E false ⟨0, 0⟩ 5 (cFst (cSnd (cSnd (cSnd (cSnd (cSnd (cSnd (cSnd (cSnd (cSnd (cSnd (cSnd (cSnd (cSnd (cSnd (cSnd (cSnd code5))))))))))))))))) [(4, .ptr 0 0), (5, .ptr 1 0), (9, .p (.bool x1)), (11, .p (.bool x2)), (15, .p (.bool x4)), (17, .p (.bool x5)), (23, .p (.bool true)), (24, .p (.bool true)), (25, .p (.bool true)), (26, .p (.bool true)), (27, .p (.bool x7)), (28, .p (.bool true)), (29, .p (.bool x8)), (30, .p (.int .i64 0))] (n5 a b c k v) = some (.normal, [(4, .ptr 0 0), (5, .ptr 1 0), (9, .p (.bool x1)), (11, .p (.bool x2)), (27, .p (.bool x7)), (251, .p (.bool false))], n5 a b c k v) := by
  cases x4 <;> cases x5 <;> cases x8 <;> simp at h1 h2 <;> simp [cFst, cSnd, code5, Tryz.f5]
theorem reg22_5 (x1 x2 x7 : Bool) (h : x1 = true → x2 = true → a.filled = true → b.filled = true → x7 = true)
    (h1 : ∀ H, W 28 [.p (encK a)] H = some (.ret (.p (.bool a.filled)), H)) (h2 : ∀ H, W 28 [.p (encK b)] H = some (.ret (.p (.bool b.filled)), H)) :
    E false ⟨0, 0⟩ 5 (cSnd (cSnd (cSnd (cSnd (cSnd (cSnd (cSnd (cSnd (cSnd (cSnd (cSnd (cSnd (cSnd (cSnd (cSnd (cSnd (cSnd code5))))))))))))))))) [(4, .ptr 0 0), (5, .ptr 1 0), (9, .p (.bool x1)), (11, .p (.bool x2)), (27, .p (.bool x7)), (251, .p (.bool false))] (n5 a b c k v) = some (.ret, [(8, .p (.bool true))], n5 a b c k v) := by
  have hk := fun H => known_W H
  cases x7 with
  | true => simp [cSnd, code5, Tryz.f5, hk]
  | false =>
    cases x1 with
    | false => simp [cSnd, code5, Tryz.f5, hk]
    | true =>
      cases x2 with
      | false => simp [cSnd, code5, Tryz.f5, hk]
      | true =>
        cases fa : a.filled with
        | false => rw [fa] at h1; simp [cSnd, code5, Tryz.f5, n5, bK, hk, h1]
        | true =>
          cases fb : b.filled with
          | false => rw [fa] at h1; rw [fb] at h2; simp [cSnd, code5, Tryz.f5, n5, bK, hk, h1, h2]
          | true => have := h rfl rfl fa fb; cases this
theorem done5 (B : List Blk) (H : Hp) : alone H (fnOut Tryz.prog [.tmp 8] 0 0 (some (.ret, [(8, .p (.bool true))], ⟨B, []⟩))) = some (.ret (.p (.bool true)), H) := by
  simp
end
theorem kind_join {a b c : Kd} (ha : a.valid = true) (hb : b.valid = true) (hc : c.valid = true) (h1 : a.within c = true) (h2 : b.within c = true) (h6 : a.f ≠ 6) (h5 : a.f ≠ 5) : ∃ k, a.join b = some k ∧ k.valid = true := by
  have sa := (valid_nodes ha).2
  have sb := (valid_nodes hb).2
  have sc := (valid_nodes hc).2
  rw [joinK_eq]
  by_cases c1 : a.f = 1
  · exact ⟨b, by rw [if_pos c1], hb⟩
  rw [if_neg c1]
  by_cases c2 : b.f = 1
  · exact ⟨a, by rw [if_pos c2], ha⟩
  rw [if_neg c2]
  rw [within_iff sa sc] at h1
  rw [within_iff sb sc] at h2
  have hf : a.f = b.f := by
    rcases h1 with h1 | ⟨h1, _⟩
    · exact absurd h1 c1
    rcases h2 with h2 | ⟨h2, _⟩
    · exact absurd h2 c2
    omega
  have pa : a.ps = [] := by rcases forms sa with ⟨_, _, _, _, h⟩ | ⟨_, _, _, _, _, h⟩ | ⟨h, _⟩ | ⟨h, _⟩ <;> first | exact h | omega
  have pb : b.ps = [] := by rcases forms sb with ⟨_, _, _, _, h⟩ | ⟨_, _, _, _, _, h⟩ | ⟨h, _⟩ | ⟨h, _⟩ <;> first | exact h | omega
  have hn : ¬ (a.f ≠ b.f ∨ a.ps.length ≠ b.ps.length) := by
    rw [pa, pb]
    intro h
    rcases h with h | h
    · exact h hf
    · exact h rfl
  rw [if_neg hn, pa, joinKs_nil]
  refine ⟨_, rfl, ?_⟩
  have hj : a.join b = some (.mk a.f (min a.lo b.lo) (max a.hi b.hi) (max a.mo b.mo) []) := by
    rw [joinK_eq, if_neg c1, if_neg c2, if_neg hn, pa, joinKs_nil]; rfl
  have hs := join_shaped a b _ sa sb hj
  unfold Kd.valid
  rw [hs]
  rfl
theorem law5_W (a b c : Kd) (v : Val) (H : Hp) : W 5 [.p (encK a), .p (encK b), .p (encK c), .p (enc v)] H = some (.ret (.p (.bool true)), H) := by
  refine W5_of rfl (by simp) ?_
  rw [E_cut (by rfl), one5_W]
  simp only
  rw [E_cut (by rfl), two5_W]
  by_cases hall : all5 a b c v = true
  · rw [if_pos hall]
    simp only
    simp only [all5, Bool.and_eq_true] at hall
    obtain ⟨⟨⟨⟨⟨⟨⟨sma, smb⟩, smc⟩, smv⟩, va⟩, vb⟩, vc⟩, vv⟩ := hall
    obtain ⟨na, sa⟩ := valid_nodes va
    obtain ⟨nb, sb⟩ := valid_nodes vb
    obtain ⟨nc, sc⟩ := valid_nodes vc
    have w27 : ∀ x y : Kd, x.valid = true → y.valid = true → ∀ H, W 27 [.p (encK x), .p (encK y)] H = some (.ret (.tup [.p (.bool (x.within y)), .p (.bool true)]), H) := by
      intro x y hx hy H
      have := within27_W x y H (by have := (valid_nodes hx).1; omega) (by have := (valid_nodes hy).1; omega)
      simpa [hx, hy] using this
    have w15 : ∀ x : Kd, x.valid = true → ∀ H, W 15 [.p (encK x), .p (enc v)] H = some (.ret (.tup [.p (.bool (x.has v)), .p (.int .i64 0)]), H) := by
      intro x hx H
      have := is15_W x v H (by have := (valid_nodes hx).1; omega)
      simpa [isR, hx, vv] using this
    rw [E_cut (by rfl), reg3_5 a b c v _ (w27 a c va vc)]
    simp only
    rw [E_cut (by rfl), reg4_5 a b c v _ _ (w27 b c vb vc)]
    simp only
    rw [E_cut (by rfl), reg5_5 a b c v _ _ _ (w27 a b va vb)]
    simp only
    rw [E_cut (by rfl), reg6_5 a b c v _ _ _ _ (w15 a va)]
    simp only
    rw [E_cut (by rfl), reg7_5 a b c v _ _ _ _ _ (w15 b vb)]
    simp only
    rw [E_cut (by rfl), reg8_5 a b c v _ _ _ _ _ _ (w15 c vc)]
    simp only
    rw [E_cut (by rfl), reg9_5 a b c v _ _ _ _ _ _ (fun h1 h2 => within_trans sa sb sc h1 h2) (fun h1 h2 => has_within v sa sc h1 h2) (fun h1 h2 => has_within v sa sb h1 h2)]
    simp only
    have h24 := fun H => join24_W a b H (by omega) (by omega)
    unfold joinE at h24
    rw [if_pos ⟨va, vb⟩] at h24
    have no : (∀ H, W 24 [.p (encK a), .p (encK b)] H = some (.ret (.tup [.p (encK kz), .p (.int .i64 5)]), H)) → (a.within c = true → b.within c = true → a.f = 6 ∨ a.f = 5) →
        alone H (fnOut Tryz.prog [.tmp 8] 0 0 (E false ⟨0, 0⟩ 5 (cSnd (cSnd (cSnd (cSnd (cSnd (cSnd (cSnd (cSnd (cSnd code5))))))))) [(4, .ptr 0 0), (5, .ptr 1 0), (6, .ptr 2 0), (7, .ptr 3 0), (9, .p (.bool (a.within c))), (11, .p (.bool (b.within c))), (15, .p (.bool (a.has v))), (17, .p (.bool (b.has v))), (157, .p (.bool false))] (m5 a b c v))) = some (.ret (.p (.bool true)), H) := by
      intro h24 hno
      rw [E_cut (by rfl), reg11_5 a b c kz v _ _ _ _ 5 h24]
      simp only
      rw [E_cut (by rfl), reg12_no a b c kz v _ _ _ _ hno]
      exact done5 _ H
    have hno : (∀ k, a.join b = some k → k.valid = false) → a.within c = true → b.within c = true → a.f = 6 ∨ a.f = 5 := by
      intro hj h1 h2
      by_cases h6 : a.f = 6
      · exact .inl h6
      by_cases h5 : a.f = 5
      · exact .inr h5
      obtain ⟨k, e, hk⟩ := kind_join va vb vc h1 h2 h6 h5
      have := hj k e
      rw [hk] at this
      cases this
    cases hj : a.join b with
    | none =>
      rw [hj] at h24 hno
      exact no h24 (hno fun k h => by cases h)
    | some k =>
      rw [hj] at h24
      simp only at h24
      cases vk : k.valid with
      | false =>
        rw [vk] at h24
        exact no h24 (hno fun k' h => by rw [hj] at h; injection h with h; rw [← h]; exact vk)
      | true =>
        simp only [vk, if_true] at h24
        obtain ⟨nk, sk⟩ := valid_nodes vk
        have smk : k.small = true := by
          unfold Kd.valid Kd.fitK at vk
          unfold Kd.small Kd.fitK
          simp only [Bool.and_eq_true, decide_eq_true_eq] at vk ⊢
          omega
        have k12 := fun H => small12_W k H
        have k21 := fun H => valid21_W k H
        rw [smk] at k12
        rw [vk] at k21
        obtain ⟨ua, ub⟩ := join_up sa sb sk hj (within_refl k sk)
        have wa := w27 a k va vk
        have wb := w27 b k vb vk
        rw [ua] at wa
        rw [ub] at wb
        rw [E_cut (by rfl), reg11_5 a b c k v _ _ _ _ 0 h24]
        simp only
        rw [E_cut (by rfl), reg12_yes a b c k v]
        simp only
        rw [E_cut (by rfl), reg14_5 a b c k v _ _ _ _ k12 k21]
        simp only
        rw [E_cut (by rfl), reg16_5 a b c k v _ _ _ _ wa]
        simp only
        rw [E_cut (by rfl), reg17_5 a b c k v _ _ _ _ wb]
        simp only
        rw [E_cut (by rfl), reg18_5 a b c k v _ _ _ _ _ (w27 k c vk vc)]
        simp only
        rw [E_cut (by rfl), reg19_5 a b c k v _ _ _ _ _ _ (w15 k vk)]
        simp only
        rw [E_cut (by rfl), reg20_5 a b c k v _ _ _ _ _ _ (fun h => has_within v sa sk h ua) (fun h => has_within v sb sk h ub)]
        simp only
        rw [reg22_5 a b c k v _ _ _ (fun h1 h2 fa fb => join_lub sa sb sc (filled_tidy a fa) (filled_tidy b fb) hj h1 h2) (fun H => filled28_W a H (by omega)) (fun H => filled28_W b H (by omega))]
        exact done5 _ H
  · rw [if_neg hall]
    exact done5 _ H
end Go.Vi
end

section
/- The law KindLattice: for every input that can be read as data it answers true, and leaves its input as it was. Conditions: those of the given row. -/
namespace Go.Proofs.YtjkpdlloccnilaaGreatDoor.kindLattice
open Go Go.Vi Go.ChangeShapes Go.WideShapes Go.ChangeAt Go.RowKit
open Go.ChangeMaps (open_string shut_string)
set_option linter.unusedVariables false
set_option maxRecDepth 100000
theorem lifted (os : Os) (started : os.Started) (H : Type) (en : TypeId × Value → H) :
    ReturnsInHanded {} Tryz.checked os 5 .any (fun w args => (Rows.kindLatticeSpec.pre en Tryz.prog Tryz.f5 [] false w args ∧ laidMetH Tryz.prog laid5 w) ∧ sizedMet en Tryz.prog Tryz.f5 (OpenSpec.ofChange Rows.kindLatticeSpec) false w args)
      (Rows.kindLatticeSpec.post en Tryz.prog Tryz.f5 false true false false) := by
  refine returnsInHanded_of_change_and (C := Tryz.checked) (X := fun w _ => laidMetH Tryz.prog laid5 w) (fun _ _ _ hh h => h.of_heap hh) ownK started (by kernel_rfl) Tryz.func5
    (ChangeSpec.witness_shaped (enc := en) (C := Tryz.checked) (os := os) (X := fun w _ => laidMetH Tryz.prog laid5 w) false (World.doorLaid Tryz.prog 400 os) #[.agg #[.int .i64 0, .int .i64 0, .int .i64 0, .int .i64 0, .slice none 0 0], .agg #[.int .i64 0, .int .i64 0, .int .i64 0, .int .i64 0, .slice none 0 0], .agg #[.int .i64 0, .int .i64 0, .int .i64 0, .int .i64 0, .slice none 0 0], .agg #[.int .i64 0, .int .i64 0, .string ByteArray.empty, .slice none 0 0]] 8 rfl (World.shaped_of_RefB (by kernel_rfl) (by kernel_rfl)) (by kernel_rfl) (by kernel_rfl) (by kernel_rfl) (door_met os _)) ?_
  intro W base args ds gs before hval0 hW hcnd hsz0 hLaid _
  have hsz : (DataW.weightsEach Tryz.prog (Tryz.f5.params.toList ++ Rows.kindLatticeSpec.plain.varTypes Tryz.prog) (ds ++ gs)).all (· ≤ reachBytes) = true := hsz0
  have hval : ∀ (j : Nat) t v, Tryz.f5.params[j]? = some t → args[j]? = some v → Value.okWide Tryz.prog W .any base t v := hval0
  have hW' := hW
  obtain ⟨p, q, hA0, hV, rfl, hfz, hnd⟩ := hW
  have hA : DataW.TrodAll en Tryz.prog W 0 (fun _ => true) true Tryz.f5.params.toList args.toList ds p := hA0
  rw [Tryz.params5] at hA hval hsz
  obtain ⟨v0, vs0, d0, ds0, p0, q0, hargs, rfl, rfl, h0, r0⟩ := trodAll_cons hA
  obtain ⟨v1, vs1, d1, ds1, p1, q1, rfl, rfl, rfl, h1, r1⟩ := trodAll_cons r0
  obtain ⟨v2, vs2, d2, ds2, p2, q2, rfl, rfl, rfl, h2, r2⟩ := trodAll_cons r1
  obtain ⟨v3, vs3, d3, ds3, p3, q3, rfl, rfl, rfl, h3, r3⟩ := trodAll_cons r2
  obtain ⟨rfl, rfl, rfl⟩ := trodAll_nil r3
  obtain rfl : args = #[v0, v1, v2, v3] := by cases args; simp_all
  obtain ⟨rfl, rfl⟩ := trodVars_none hV
  have k0 := h0
  have lt0 : ∀ x ∈ p0, x.block < W.heap.size := by obtain ⟨m, hm⟩ := k0; exact DataW.trod_lt m _ _ _ hm
  obtain ⟨a0, e0⟩ := arg_kind (hval 0 25 v0 rfl rfl) h0
  have k1 := h1
  have lt1 : ∀ x ∈ p1, x.block < W.heap.size := by obtain ⟨m, hm⟩ := k1; exact DataW.trod_lt m _ _ _ hm
  obtain ⟨a1, e1⟩ := arg_kind (hval 1 25 v1 rfl rfl) h1
  have k2 := h2
  have lt2 : ∀ x ∈ p2, x.block < W.heap.size := by obtain ⟨m, hm⟩ := k2; exact DataW.trod_lt m _ _ _ hm
  obtain ⟨a2, e2⟩ := arg_kind (hval 2 25 v2 rfl rfl) h2
  have k3 := h3
  have lt3 : ∀ x ∈ p3, x.block < W.heap.size := by obtain ⟨m, hm⟩ := k3; exact DataW.trod_lt m _ _ _ hm
  obtain ⟨a3, e3⟩ := arg_value (hval 3 29 v3 rfl rfl) h3
  clear hA0 hval0 hsz0 hsz
  have hcall := law_calls (f := 5) (by decide) (ht := tab0 hLaid) (args := [.p (Vi.encK a0), .p (Vi.encK a1), .p (Vi.encK a2), .p (Vi.enc a3)]) (vs := [v0, v1, v2, v3]) (W0 := W) (fun H => law5_W a0 a1 a2 a3 H) rfl (fun j d v hd hv => by
    match j, hd, hv with
    | 0, hd, hv => simp at hd hv; subst hd; subst hv; exact e0
    | 1, hd, hv => simp at hd hv; subst hd; subst hv; exact e1
    | 2, hd, hv => simp at hd hv; subst hd; subst hv; exact e2
    | 3, hd, hv => simp at hd hv; subst hd; subst hv; exact e3
    | j + 4, hd, hv => simp at hd)
  refine hcall.mono fun e W' ⟨he, bel⟩ => ?_
  subst he
  exact ⟨_, rfl, _, _, _, [], _, [], hW', trodAll_mk1 (shut_bool Tryz.underlying4 _), (trodAll_cons_mk (Below.trod laidO (by kernel_rfl) (of_decide_eq_true (by kernel_rfl)) k0 bel lt0) (trodAll_cons_mk (Below.trod laidO (by kernel_rfl) (of_decide_eq_true (by kernel_rfl)) k1 bel lt1) (trodAll_cons_mk (Below.trod laidO (by kernel_rfl) (of_decide_eq_true (by kernel_rfl)) k2 bel lt2) (trodAll_cons_mk (Below.trod laidO (by kernel_rfl) (of_decide_eq_true (by kernel_rfl)) k3 bel lt3) trodAll_mk0)))), rfl, bel.frame _, fun h => by cases h⟩
theorem over : Rows.kindLatticeRow.holds Tryz.pinned (OpenSpec.ofChange Rows.kindLatticeSpec) :=
  OpenClaim.holds_of_wide 5 Tryz.f5 rfl rfl rfl rfl rfl rfl rfl ⟨rfl, rfl, rfl, rfl, rfl⟩ rfl rfl rfl rfl rfl (by kernel_rfl) Tryz.func5 (by kernel_rfl)
    (of_decide_eq_true (by kernel_rfl)) (by unfold Func.isWrapper; first | (rw [if_pos (by decide +kernel)]; kernel_rfl) | (rw [if_neg (by decide +kernel)]; exact ⟨rfl, rfl⟩))
    (fun os started H enc _ => lifted os started H enc)
end Go.Proofs.YtjkpdlloccnilaaGreatDoor.kindLattice
namespace Go.Proofs.YtjkpdlloccnilaaGreatDoor
/-- The row, under a short name. -/
theorem kindLattice_holds : Rows.KindLatticeSaid := kindLattice.over
end Go.Proofs.YtjkpdlloccnilaaGreatDoor
end

section
/- The tied card of the law KindLattice: for every input that can be read as data the law answers true; the tables that it may read are tied to the program's text. Conditions: those of the given card. -/
namespace Go.Proofs.YtjkpdlloccnilaaGreatDoor
open Go
/-- The statement KindLatticeCardSaid. -/
theorem kindLattice_card : Rows.KindLatticeCardSaid :=
  Claim7.holds_tied_plain_at .later [] [.data, .data, .data, .listed, .data] true (true, "2b2dd42976df36376e3edc59743bc25e3b279e2145e2c684f4402163bc343186") true
    kindLattice_holds (fun _ h => by cases h) (by kernel_rfl) (fun _ h => by cases h) kindLattice_row_tie rfl ⟨rfl, rfl⟩ (by kernel_rfl) rfl
    (fun f fn hf hfn => by
      obtain rfl : f = 5 := Option.some.inj ((show Tryz.prog.funcNamed "sward/swardlaw05.KindLattice" = some 5 by kernel_rfl).symm.trans hf) |>.symm
      obtain rfl : fn = Tryz.f5 := (Option.some.inj (Tryz.func5.symm.trans hfn)).symm
      exact ⟨by kernel_rfl, fun j t ht => by
        rw [Tryz.params5] at ht
        match j, ht with
        | 0, ht => obtain rfl : t = 25 := by simpa using ht.symm
                   exact (show Tryz.prog.wantsStandIn 25 = false by kernel_rfl)
        | 1, ht => obtain rfl : t = 25 := by simpa using ht.symm
                   exact (show Tryz.prog.wantsStandIn 25 = false by kernel_rfl)
        | 2, ht => obtain rfl : t = 25 := by simpa using ht.symm
                   exact (show Tryz.prog.wantsStandIn 25 = false by kernel_rfl)
        | 3, ht => obtain rfl : t = 29 := by simpa using ht.symm
                   exact (show Tryz.prog.wantsStandIn 29 = false by kernel_rfl)
        | j + 4, ht => simp at ht⟩)
    (by kernel_rfl)
end Go.Proofs.YtjkpdlloccnilaaGreatDoor
end
