/- It is proved here what functions of the program's layer 5 and of its specification compute; conditions stand with each. Kinds without empty sets. -/
import Derived.Test.YtjkpdlloccnilaaGreatDoorMNG
set_option linter.unusedVariables false
set_option linter.unusedSimpArgs false

section
/- layer 5: swardlaw05.filled. No conditions but those that stand with each. -/
namespace Go.Vi
open Go Go.Lib Go.Proofs
set_option maxRecDepth 100000
attribute [local simp] E_skip E_ret E_exit E_text E_draw E_seq E_cond E_block E_scope E_loop runOps runOp drawR slotsOf Hp.kept_zero runDraw runVF runX runV finV gate FlOK FlOK0 wantD exec fin opd look putF norm constD constC fieldAddrD loadD storeD opCall lenD binD isShift intP strP numD indexAddrD indexD D.pd? D.pds? sub capsOf callD argsD argD D.nf unP cellD mkF H00 cD_agg cD_pagg cD_int cD_bool cD_str cD_sl cD_lit cells_int
attribute [local simp] fnOut retOut resD retsD retD oneD D.noRefs D.noRef alone Hp.cut
attribute [local simp] cells_encK encK_agg box_encK cells_enc enc_agg box_enc one_int one_str one_sl one_agg cD_own cD_ptr
attribute [local simp] newRow Hp.live one_encK

/-! ### Filled -/
mutual
def Kd.filled : Kd → Bool
  | .mk f _ _ mo ps => filledKs ps && (f != 6 || decide (0 < mo))
def filledKs : List Kd → Bool
  | [] => true
  | k :: r => k.filled && filledKs r
end
theorem filledKs_all : ∀ l : List Kd, filledKs l = l.all Kd.filled
  | [] => rfl
  | k :: r => by simp [filledKs, filledKs_all r]
theorem filledK_eq (k : Kd) : k.filled = (k.ps.all Kd.filled && (k.f != 6 || decide (0 < k.mo))) := by
  cases k; simp only [Kd.filled, filledKs_all]; rfl
theorem filled_tidy (k : Kd) (h : k.filled = true) : Tidy k := by
  have key : ∀ (n : Nat) (k : Kd), k.nodes ≤ n → k.filled = true → Tidy k := by
    intro n
    induction n with
    | zero => intro k h; have := nodes_pos k; omega
    | succ n ih =>
      intro k hn h
      rw [filledK_eq, Bool.and_eq_true, List.all_eq_true] at h
      refine .mk k (fun h6 h0 => ?_) fun x hx => ih x (by have := ps_nodes hx; omega) (h.1 x hx)
      have h2 := h.2
      rw [h6, h0] at h2
      cases h2
  exact key k.nodes k (Nat.le_refl _) h

def fr28 (i : Nat) : Fr := [(1, .ptr 0 0), (3, .p (.int .i64 i))]
def Rec28 (n : Nat) : Prop := ∀ (u : Kd) (H : Hp), u.nodes < n → W 28 [.p (encK u)] H = some (.ret (.p (.bool u.filled)), H)
theorem loop28_ok (k : Kd) (hn : k.nodes < 4611686018427387904) (hrec : Rec28 k.nodes) : loopO false ⟨0, 0⟩ 28 lp28_0 1 0 (fr28 0) (stK k) =
    some (if k.ps.all Kd.filled = true then (.exit 0, [(1, .ptr 0 0), (3, .p (.int .i64 k.ps.length)), (8, .p (.bool false))], stK k) else (.ret, [(2, .p (.bool false))], stK k)) := by
  have hl := ps_len k
  rw [← range_all Kd.filled kz k.ps]
  refine for_all (hd28_0) k.ps.length fr28 (stK k) _ (by simp) (by simp) ?_ (fun i hi => ?_) (F := fr28 0) (H := stK k) (by simp [cutD, fr28, frNo, stK, blkNo])
  · simp [lp28_0, code28, Tryz.f28, fr28, stK]
  · have hr := fun H => hrec k.ps[i] H (ps_nodes (List.getElem_mem hi))
    have hw : IntKind.i64.wrap ((i : Int) + 1) = (i : Int) + 1 := wrap64 (by omega) (by omega)
    rw [getD_get hi]
    cases hb : k.ps[i].filled with
    | true =>
      left
      rw [hb] at hr
      refine ⟨rfl, fr28 (i + 1), stK k, ?_, by simp [cutD, fr28, frNo, stK, blkNo]⟩
      simp [lp28_0, code28, Tryz.f28, fr28, stK, hi, hr, hw]
    | false =>
      right
      rw [hb] at hr
      refine ⟨rfl, ?_⟩
      simp [lp28_0, code28, Tryz.f28, fr28, stK, hi, hr, hw]
theorem filled28_W (k : Kd) (H : Hp) (hb : k.nodes < 4611686018427387904) : W 28 [.p (encK k)] H = some (.ret (.p (.bool k.filled)), H) := by
  have key : ∀ (n : Nat) (k : Kd) (H : Hp), k.nodes ≤ n → k.nodes < 4611686018427387904 → W 28 [.p (encK k)] H = some (.ret (.p (.bool k.filled)), H) := by
    intro n
    induction n with
    | zero => intro k H h _; have := nodes_pos k; omega
    | succ n ih =>
      intro k H hn hb
      refine W28_of rfl (by simp) ?_
      have hloop := loop28_ok k hb fun u H hu => ih u H (by omega) (by omega)
      have h00 : ((0 : Nat) : Int) = 0 := rfl
      simp only [lp28_0, code28, Tryz.f28, fr28, stK, h00] at hloop
      rw [filledK_eq]
      cases hz : k.ps.all Kd.filled <;> rw [hz] at hloop <;> simp only [Bool.false_eq_true, if_false, if_true] at hloop
      · simp [code28, Tryz.f28, hloop]
      · by_cases h6 : k.f = 6
        · have e := eq_true h6
          simp [code28, Tryz.f28, hloop, e]
        · have e := eq_false h6
          have e' : (k.f == 6) = false := by simp [h6]
          simp [code28, Tryz.f28, hloop, e, bne, e']
  exact key k.nodes k H (Nat.le_refl _) hb
end Go.Vi
end
