/- It is proved here what functions of the program's layer 11 and of its specification compute; conditions stand with each. Proofs that are read, the program. -/
import Derived.Test.YtodgddpkbmanoaaGreatDoorMQD
set_option linter.unusedVariables false
set_option linter.unusedSimpArgs false

section
/- Vi: layer 11: repr.reader.tree: its simple ways. No conditions but those that stand with each. -/
namespace Go.Vi
open Go Go.Lib Go.Proofs
set_option maxRecDepth 100000
attribute [local simp] E_skip E_ret E_exit E_text E_draw E_seq E_cond E_block E_scope E_loop runOps runOp runDraw runVF runV finV gate FlOK wantD exec fin opd look putF norm constD constC fieldAddrD loadD storeD opCall lenD binD isShift intP strP numD indexAddrD indexD D.pd? D.pds? sub capsOf callD argsD argD D.nf unP cellD mkF H00 cD_agg cD_pagg cD_int cD_bool cD_str cD_sl cD_lit cells_encS cells_encU cells_encW cells_encR box_encU box_encW box_encR encU_agg encR_agg encW_agg cells_int one_int buildSliceD elsD splice
attribute [local simp] fnOut retOut resD retsD retD oneD D.noRefs D.noRef alone Hp.cut newRow Hp.live
attribute [local simp] E_label

/-- The state of a proof that is read: the part, the place, the first wrong leaf. -/
def rdH (p : RProb) (cost : Int) (proof l : List Int) (a : Nat) (w : Int) : Hp :=
  ⟨[bR p, .cells [.p (.sl (p.sets.map encS)), .p (.sl (p.uses.map encU)), .p (.sl (p.same.map encW)), .p (.int .i64 cost), .p (.sl (proof.map iP)), .p (.int .i64 a), .p (.int .i64 w)]], [⟨0, 62, 1, false, false, l.map iP⟩]⟩

section
variable (p : RProb) (cost : Int) (proof l : List Int) (a : Nat) (w : Int)
theorem rd_calls (hp : p.ok = true) (hpt : Part p l) :
    W 94 [aR p, .own 0 0] (rdH p cost proof l a w) = some (.ret (.p (.bool (allowed p l))), rdH p cost proof l a w) ∧
    W 59 [aR p, .own 0 0] (rdH p cost proof l a w) = some (.ret (.p (.int .i64 (floorP p l))), rdH p cost proof l a w) := by
  have h1 : ∃ A1, argsD false (rdH p cost proof l a w).A [aR p, .own 0 0] = some ([.p (encR p), .p (.sl (l.map iP))], A1) := ⟨_, rfl⟩
  obtain ⟨A1, h1⟩ := h1
  exact ⟨allowed59_L p l hp hpt.1 h1, floor33_L p l hp hpt h1⟩

theorem tree_end (ha : a = proof.length) : W 57 [.ptr 1 0, .own 0 0] (rdH p cost proof l a w) = some (.ret (.p (.bool false)), rdH p cost proof l a w) := by
  refine W_ofH Tryz.func57 rfl (by kernel_rfl) rfl rfl rfl rfl (by simp [D.noRef]) (by rw [Tryz.ntmps57]; simp) (c := code57) ?_
  rw [rs57]
  have key : evalC Tryz.prog hn ch (hn.mutF 57) ⟨0, 0⟩ W 57 code57 (mkF 0 [.ptr 1 0, .own 0 0]) (rdH p cost proof l a w) = some (.ret, [(4, .p (.bool false))], rdH p cost proof l a w) := by
    show E false _ _ _ _ _ = _
    simp [code57, Tryz.f57, rdH, bR, ha]
  rw [key]
  simp [rdH, bR, blkNo]

theorem tree_leaf (hp : p.ok = true) (hpt : Part p l) (ha : a < proof.length) (hl : proof.length ≤ 10000) (hs : proof[a] = -1) : W 57 [.ptr 1 0, .own 0 0] (rdH p cost proof l a w) =
    some (.ret (.p (.bool true)), rdH p cost proof l (a + 1) (if w < 0 ∧ leafW p cost l = true then (a : Int) else w)) := by
  refine W_ofH Tryz.func57 rfl (by kernel_rfl) rfl rfl rfl rfl (by simp [D.noRef]) (by rw [Tryz.ntmps57]; simp) (c := code57) ?_
  rw [rs57]
  obtain ⟨h59, h33⟩ := rd_calls p cost proof l (a + 1) w hp hpt
  have hne : ¬ (a : Int) = proof.length := by omega
  have hne2 : ¬ a = proof.length := by omega
  have hw : IntKind.i64.wrap ((a : Int) + 1) = (a : Int) + 1 := wrap64 (by omega) (by omega)
  have hw2 : IntKind.i64.wrap ((a : Int) + 1 - 1) = (a : Int) := by rw [wrap64 (by omega) (by omega)]; omega
  have hw3 : IntKind.i64.wrap (a : Int) = (a : Int) := wrap64 (by omega) (by omega)
  have hc : (((a + 1 : Nat) : Int)) = (a : Int) + 1 := by omega
  simp only [rdH, aR, bR, hc] at h59 h33
  unfold leafW
  have key : evalC Tryz.prog hn ch (hn.mutF 57) ⟨0, 0⟩ W 57 code57 (mkF 0 [.ptr 1 0, .own 0 0]) (rdH p cost proof l a w) = some (.ret, [(4, .p (.bool true))], rdH p cost proof l (a + 1) (if w < 0 ∧ (allowed p l && decide (floorP p l < cost)) = true then (a : Int) else w)) := by
    show E false _ _ _ _ _ = _
    by_cases w0 : w < 0
    · cases hall : allowed p l with
      | false => rw [hall] at h59; simp [code57, Tryz.f57, rdH, bR, ha, hs, hne, hne2, hw, hw2, hw3, w0, h59]
      | true =>
        rw [hall] at h59
        by_cases hf : floorP p l < cost
        · simp [code57, Tryz.f57, rdH, bR, ha, hs, hne, hne2, hw, hw2, hw3, w0, h59, h33, hf]
        · simp [code57, Tryz.f57, rdH, bR, ha, hs, hne, hne2, hw, hw2, hw3, w0, h59, h33, hf]
    · simp [code57, Tryz.f57, rdH, bR, ha, hs, hne, hne2, hw, hw2, hw3, w0]
  rw [key]
  simp [rdH, bR, blkNo]

theorem tree_bad (ha : a < proof.length) (hl : proof.length ≤ 10000) (hs : ¬ proof[a] = -1) (hb : ¬ (0 ≤ proof[a] ∧ proof[a] < l.length ∧ l.getD proof[a].toNat 0 = 0)) : W 57 [.ptr 1 0, .own 0 0] (rdH p cost proof l a w) =
    some (.ret (.p (.bool false)), rdH p cost proof l (a + 1) w) := by
  refine W_ofH Tryz.func57 rfl (by kernel_rfl) rfl rfl rfl rfl (by simp [D.noRef]) (by rw [Tryz.ntmps57]; simp) (c := code57) ?_
  rw [rs57]
  have hne : ¬ (a : Int) = proof.length := by omega
  have hne2 : ¬ a = proof.length := by omega
  have hw : IntKind.i64.wrap ((a : Int) + 1) = (a : Int) + 1 := wrap64 (by omega) (by omega)
  have key : evalC Tryz.prog hn ch (hn.mutF 57) ⟨0, 0⟩ W 57 code57 (mkF 0 [.ptr 1 0, .own 0 0]) (rdH p cost proof l a w) = some (.ret, [(4, .p (.bool false))], rdH p cost proof l (a + 1) w) := by
    show E false _ _ _ _ _ = _
    by_cases s0 : proof[a] < 0
    · simp [code57, Tryz.f57, rdH, bR, ha, hs, hne, hne2, hw, s0]
    · by_cases s1 : (l.length : Int) ≤ proof[a]
      · simp [code57, Tryz.f57, rdH, bR, ha, hs, hne, hne2, hw, s0, s1]
      · have g0 : 0 ≤ proof[a] := by omega
        have g1 : proof[a].toNat < l.length := by omega
        have g2 : proof[a] < (l.length : Int) := by omega
        have nz : ¬ l[proof[a].toNat] = 0 := fun e => hb ⟨g0, by omega, by rw [getD_at g1]; exact e⟩
        simp [code57, Tryz.f57, rdH, bR, ha, hs, hne, hne2, hw, s0, s1, g0, g1, g2, nz]
  rw [key]
  simp [rdH, bR, blkNo]
end
end Go.Vi
end

section
/- Vi: layer 11: repr.reader.tree: the loop. No conditions but those that stand with each. -/
namespace Go.Vi
open Go Go.Lib Go.Proofs
set_option maxRecDepth 100000
attribute [local simp] E_skip E_ret E_exit E_text E_draw E_seq E_cond E_block E_scope E_loop runOps runOp runDraw runVF runV finV gate FlOK wantD exec fin opd look putF norm constD constC fieldAddrD loadD storeD opCall lenD binD isShift intP strP numD indexAddrD indexD D.pd? D.pds? sub capsOf callD argsD argD D.nf unP cellD mkF H00 cD_agg cD_pagg cD_int cD_bool cD_str cD_sl cD_lit cells_encS cells_encU cells_encW cells_encR box_encU box_encW box_encR encU_agg encR_agg encW_agg cells_int one_int buildSliceD elsD splice
attribute [local simp] fnOut retOut resD retsD retD oneD D.noRefs D.noRef alone Hp.cut newRow Hp.live
attribute [local simp] E_label

section
variable (p : RProb) (cost : Int) (proof l : List Int) (s k : Nat) (F : List Int)
def fr48 (j : Nat) : Fr := [(1, .own 0 0), (5, .p (.int .i64 s)), (6, .bnd 57 [.ptr 1 0]), (7, .p (.bool true)), (101, .p (.sl (F.map iP))), (102, .p (.int .i64 F.length)), (103, .p (.int .i64 j))]
theorem rd_cut (m : List Int) (a : Nat) (w : Int) (F' : Fr) (keep : List Tmp) : cutD ⟨0, 0⟩ keep 2 1 F' (rdH p cost proof m a w) = some (norm keep F', rdH p cost proof m a w) := cut_full ⟨0, 0⟩ keep F' (rdH p cost proof m a w)

/-- One round: the tree with a form more. -/
theorem round48 (hs : s < l.length) (hFl : F.length ≤ 5) (j : Nat) (hj : j < F.length) (a : Nat) (w : Int) (good : Bool) (a' : Nat) (w' : Int)
    (hr : W 57 [.ptr 1 0, .own 0 0] (rdH p cost proof (l.set s F[j]) a w) = some (.ret (.p (.bool good)), rdH p cost proof (l.set s F[j]) a' w')) :
    E false ⟨0, 0⟩ 57 lp57_0 (fr48 s F j) (rdH p cost proof (lj l s F j) a w) =
      if good = true then some (.normal, fr48 s F (j + 1), rdH p cost proof (lj l s F (j + 1)) a' w')
      else some (.exit 1, [(1, .own 0 0), (5, .p (.int .i64 s)), (6, .bnd 57 [.ptr 1 0]), (7, .p (.bool false)), (101, .p (.sl (F.map iP))), (102, .p (.int .i64 F.length)), (103, .p (.int .i64 j)), (115, .p (.bool true))], rdH p cost proof (lj l s F (j + 1)) a' w') := by
  have hw : IntKind.i64.wrap ((j : Int) + 1) = (j : Int) + 1 := wrap64 (by omega) (by omega)
  have hlen := lj_len l s F j
  have hi2 : s < (lj l s F j).length := by omega
  have eq1 : lj l s F (j + 1) = (lj l s F j).set s F[j] := by rw [lj_set, ← getD_at (d := 0) hj]; unfold lj; simp
  rw [← lj_set l s F j] at hr
  rw [eq1]
  generalize lj l s F j = m at *
  have hi3 : (s : Int) < m.length := by omega
  simp only [rdH, bR, List.map_set] at hr ⊢
  cases good with
  | true => simp [lp57_0, code57, Tryz.f57, fr48, hj, hi2, hi3, hr, hw, setEl]
  | false => simp [lp57_0, code57, Tryz.f57, fr48, hj, hi2, hi3, hr, hw, setEl]
end
end Go.Vi
end

section
/- Vi: layer 11: repr.reader.tree. No conditions but those that stand with each. -/
namespace Go.Vi
open Go Go.Lib Go.Proofs
set_option maxRecDepth 100000
attribute [local simp] E_skip E_ret E_exit E_text E_draw E_seq E_cond E_block E_scope E_loop runOps runOp runDraw runVF runV finV gate FlOK wantD exec fin opd look putF norm constD constC fieldAddrD loadD storeD opCall lenD binD isShift intP strP numD indexAddrD indexD D.pd? D.pds? sub capsOf callD argsD argD D.nf unP cellD mkF H00 cD_agg cD_pagg cD_int cD_bool cD_str cD_sl cD_lit cells_encS cells_encU cells_encW cells_encR box_encU box_encW box_encR encU_agg encR_agg encW_agg cells_int one_int buildSliceD elsD splice
attribute [local simp] fnOut retOut resD retsD retD oneD D.noRefs D.noRef alone Hp.cut newRow Hp.live
attribute [local simp] E_label

theorem tre_ok (p : RProb) (cost : Int) (proof : List Int) : ∀ k, (∀ a part n x, tre p cost proof k a part = some (n, x) → -1 ≤ x ∧ n ≤ proof.length) ∧
    (∀ (F : List Int) a w s part n x, -1 ≤ w → a ≤ proof.length → tres p cost proof k a w s part F = some (n, x) → -1 ≤ x ∧ n ≤ proof.length) := by
  have step : ∀ k, (∀ a part n x, tre p cost proof k a part = some (n, x) → -1 ≤ x ∧ n ≤ proof.length) → (∀ (F : List Int) a w s part n x, -1 ≤ w → a ≤ proof.length → tres p cost proof k a w s part F = some (n, x) → -1 ≤ x ∧ n ≤ proof.length) := by
    intro k h F
    induction F with
    | nil =>
      intro a w s part n x hw ha e
      simp only [tres, Option.some.injEq, Prod.mk.injEq] at e
      omega
    | cons f F ih =>
      intro a w s part n x hw ha e
      simp only [tres] at e
      split at e
      · rename_i next leaf ht
        have := h _ _ _ _ ht
        exact ih next _ s part n x (by split <;> omega) this.2 e
      · cases e
  intro k
  induction k with
  | zero => exact ⟨fun a part n x e => by simp [tre] at e, step 0 fun a part n x e => by simp [tre] at e⟩
  | succ k ih =>
    have h1 : ∀ a part n x, tre p cost proof (k + 1) a part = some (n, x) → -1 ≤ x ∧ n ≤ proof.length := by
      intro a part n x e
      simp only [tre] at e
      split at e
      · cases e
      · rename_i s hs
        have hlt : a < proof.length := (List.getElem?_eq_some_iff.1 hs).1
        split at e
        · simp only [Option.some.injEq, Prod.mk.injEq] at e
          obtain ⟨e1, e2⟩ := e
          subst e1 e2
          refine ⟨by split <;> omega, by omega⟩
        · split at e
          · exact ih.2 _ _ _ _ _ _ _ (by omega) (by omega) e
          · cases e
    exact ⟨h1, step (k + 1) h1⟩

section
variable (p : RProb) (cost : Int) (proof l : List Int) (s k : Nat) (F : List Int)
def bad48 (j : Nat) : Fr := [(1, .own 0 0), (5, .p (.int .i64 s)), (6, .bnd 57 [.ptr 1 0]), (7, .p (.bool false)), (101, .p (.sl (F.map iP))), (102, .p (.int .i64 F.length)), (103, .p (.int .i64 j)), (115, .p (.bool true))]

/-- What a tree's reading answers, by what the plain law says of it. -/
def Reads (l : List Int) (a : Nat) (w : Int) : Option (Nat × Int) → Prop
  | some (next, leaf) => W 57 [.ptr 1 0, .own 0 0] (rdH p cost proof l a w) = some (.ret (.p (.bool true)), rdH p cost proof l next (if w < 0 then leaf else w))
  | none => ∃ a' w', W 57 [.ptr 1 0, .own 0 0] (rdH p cost proof l a w) = some (.ret (.p (.bool false)), rdH p cost proof l a' w')

theorem loop48 (hs : s < l.length) (hFl : F.length ≤ 5) (hr : ∀ f ∈ F, ∀ a w, -1 ≤ w → a ≤ proof.length → Reads p cost proof (l.set s f) a w (tre p cost proof k a (l.set s f))) :
    ∀ (m j a : Nat) (w : Int) (F0 : Fr), m = F.length - j → j ≤ F.length → -1 ≤ w → a ≤ proof.length → norm [1, 5, 6, 7, 101, 102, 103] F0 = fr48 s F j →
      match tres p cost proof k a w s l (F.drop j) with
      | some (next, w') => loopO false ⟨0, 0⟩ 57 lp57_0 2 1 F0 (rdH p cost proof (lj l s F j) a w) = some (.exit 1, fr48 s F F.length ++ [(104, .p (.bool false))], rdH p cost proof (lj l s F F.length) next w')
      | none => ∃ i i' a' w', i' ≤ F.length ∧ loopO false ⟨0, 0⟩ 57 lp57_0 2 1 F0 (rdH p cost proof (lj l s F j) a w) = some (.exit 1, bad48 s F i, rdH p cost proof (lj l s F i') a' w') := by
  intro m
  induction m with
  | zero =>
    intro j a w F0 hm hj hw0 ha0 hF
    obtain rfl : j = F.length := by omega
    rw [List.drop_length]
    simp only [tres]
    rw [loopO_eq, hd57_0, rd_cut, hF]
    have : E false ⟨0, 0⟩ 57 lp57_0 (fr48 s F F.length) (rdH p cost proof (lj l s F F.length) a w) = some (.exit 1, fr48 s F F.length ++ [(104, .p (.bool false))], rdH p cost proof (lj l s F F.length) a w) := by
      simp [lp57_0, code57, Tryz.f57, fr48, rdH]
    simp only [this]
  | succ m ih =>
    intro j a w F0 hm hj hw0 ha0 hF
    have hlt : j < F.length := by omega
    rw [List.drop_eq_getElem_cons hlt]
    simp only [tres]
    have h1 := hr F[j] (List.getElem_mem hlt) a w hw0 ha0
    cases ht : tre p cost proof k a (l.set s F[j]) with
    | none =>
      rw [ht] at h1
      obtain ⟨a', w', h1⟩ := h1
      have h2 := round48 p cost proof l s F hs hFl j hlt a w false a' w' h1
      refine ⟨j, j + 1, a', w', by omega, ?_⟩
      rw [loopO_eq, hd57_0, rd_cut, hF]
      simp only [h2, Bool.false_eq_true, if_false]
      rfl
    | some q =>
      obtain ⟨next, leaf⟩ := q
      rw [ht] at h1
      have h2 := round48 p cost proof l s F hs hFl j hlt a w true next _ h1
      have h3 := ih (j + 1) next (if w < 0 then leaf else w) (fr48 s F (j + 1)) (by omega) (by omega) (by have := ((tre_ok p cost proof k).1 _ _ _ _ ht).1; split <;> omega) ((tre_ok p cost proof k).1 _ _ _ _ ht).2 rfl
      have e : loopO false ⟨0, 0⟩ 57 lp57_0 2 1 F0 (rdH p cost proof (lj l s F j) a w) = loopO false ⟨0, 0⟩ 57 lp57_0 2 1 (fr48 s F (j + 1)) (rdH p cost proof (lj l s F (j + 1)) next (if w < 0 then leaf else w)) := by
        rw [loopO_eq, hd57_0, rd_cut, hF]
        simp only [h2, if_true]
      rw [e]
      exact h3
end
end Go.Vi
end

section
/- Vi: layer 11: repr.reader.tree: what it reads. No conditions but those that stand with each. -/
namespace Go.Vi
open Go Go.Lib Go.Proofs
set_option maxRecDepth 100000
attribute [local simp] E_skip E_ret E_exit E_text E_draw E_seq E_cond E_block E_scope E_loop runOps runOp runDraw runVF runV finV gate FlOK wantD exec fin opd look putF norm constD constC fieldAddrD loadD storeD opCall lenD binD isShift intP strP numD indexAddrD indexD D.pd? D.pds? sub capsOf callD argsD argD D.nf unP cellD mkF H00 cD_agg cD_pagg cD_int cD_bool cD_str cD_sl cD_lit cells_encS cells_encU cells_encW cells_encR box_encU box_encW box_encR encU_agg encR_agg encW_agg cells_int one_int buildSliceD elsD splice
attribute [local simp] fnOut retOut resD retsD retD oneD D.noRefs D.noRef alone Hp.cut newRow Hp.live
attribute [local simp] E_label

theorem tres_w (p : RProb) (cost : Int) (proof : List Int) (k s : Nat) (part : List Int) : ∀ (F : List Int) (a : Nat) (w : Int), -1 ≤ w →
    tres p cost proof k a w s part F = (tres p cost proof k a (-1) s part F).map fun x => (x.1, if w < 0 then x.2 else w) := by
  intro F
  induction F with
  | nil =>
    intro a w hw
    simp only [tres, Option.map_some, Option.some.injEq, Prod.mk.injEq, true_and]
    split <;> omega
  | cons f F ih =>
    intro a w hw
    simp only [tres]
    cases ht : tre p cost proof k a (part.set s f) with
    | none => rfl
    | some q =>
      obtain ⟨next, leaf⟩ := q
      have hl := ((tre_ok p cost proof k).1 _ _ _ _ ht).1
      simp only [show (-1 : Int) < 0 by omega, if_true]
      rw [ih next (if w < 0 then leaf else w) (by split <;> omega), ih next leaf hl]
      cases tres p cost proof k next (-1) s part F with
      | none => rfl
      | some r =>
        simp only [Option.map_some, Option.some.injEq, Prod.mk.injEq, true_and]
        by_cases h1 : w < 0
        · simp only [if_pos h1]
        · simp only [if_neg h1]

section
variable (p : RProb) (cost : Int) (proof l : List Int) (a : Nat) (w : Int) (s : Nat)
theorem tree_node (hp : p.ok = true) (hpt : Part p l) (ha : a < proof.length) (hl : proof.length ≤ 10000) (hs : proof[a] = s) (hsl : s < l.length) (h0 : l[s] = 0) (good : Bool) (F1 : Fr) (i' a' : Nat) (w' : Int)
    (hF : F1 = if good = true then fr48 s (p.form s) (p.form s).length ++ [(104, .p (.bool false))] else bad48 s (p.form s) i')
    (m : List Int) (hm : m.length = l.length) (hset : m.set s 0 = l)
    (hloop : loopO false ⟨0, 0⟩ 57 lp57_0 2 1 (fr48 s (p.form s) 0) (rdH p cost proof l (a + 1) w) = some (.exit 1, F1, rdH p cost proof m a' w')) :
    W 57 [.ptr 1 0, .own 0 0] (rdH p cost proof l a w) = some (.ret (.p (.bool good)), rdH p cost proof l a' w') := by
  refine W_ofH Tryz.func57 rfl (by kernel_rfl) rfl rfl rfl rfl (by simp [D.noRef]) (by rw [Tryz.ntmps57]; simp) (c := code57) ?_
  rw [rs57]
  have hss : s < p.sets.length := by rw [← hpt.1]; exact hsl
  have ef : p.form s = p.sets[s].forms := by simp [RProb.form, List.getD_eq_getElem?_getD, hss]
  have hne : ¬ (a : Int) = proof.length := by omega
  have hne2 : ¬ a = proof.length := by omega
  have hw : IntKind.i64.wrap ((a : Int) + 1) = (a : Int) + 1 := wrap64 (by omega) (by omega)
  have hs1 : ¬ (s : Int) = -1 := by omega
  have hs2 : ¬ (s : Int) < 0 := by omega
  have hs3 : ¬ (l.length : Int) ≤ s := by omega
  have hset2 : (m.map iP).set s (iP 0) = l.map iP := by rw [← List.map_set, hset]
  have hm3 : s < m.length := by omega
  have h00 : ((0 : Nat) : Int) = 0 := rfl
  have hc : (((a + 1 : Nat) : Int)) = (a : Int) + 1 := by omega
  rw [ef] at hloop hF
  simp only [lp57_0, code57, Tryz.f57, fr48, h00, rdH, bR, hc] at hloop
  have key : evalC Tryz.prog hn ch (hn.mutF 57) ⟨0, 0⟩ W 57 code57 (mkF 0 [.ptr 1 0, .own 0 0]) (rdH p cost proof l a w) = some (.ret, [(4, .p (.bool good))], rdH p cost proof l a' w') := by
    show E false _ _ _ _ _ = _
    cases good with
    | true =>
      simp only [if_true, fr48] at hF
      subst hF
      simp [code57, Tryz.f57, rdH, bR, ha, hs, hne, hne2, hw, hs1, hs2, hs3, hsl, h0, hss, hloop, hm3, hset2, setEl, mkFn]
    | false =>
      simp only [Bool.false_eq_true, if_false, bad48] at hF
      subst hF
      simp [code57, Tryz.f57, rdH, bR, ha, hs, hne, hne2, hw, hs1, hs2, hs3, hsl, h0, hss, hloop, hm3, hset2, setEl, mkFn]
  rw [key]
  simp [rdH, bR, blkNo]
end
end Go.Vi
end

section
/- Vi: layer 11: repr.reader.tree, in the whole. No conditions but those that stand with each. -/
namespace Go.Vi
open Go Go.Lib Go.Proofs
set_option maxRecDepth 100000

def zeros (l : List Int) : Nat := l.countP (· == 0)
theorem zeros_set {l : List Int} {s : Nat} {f : Int} (hs : s < l.length) (h0 : l[s] = 0) (hf : f ≠ 0) : zeros (l.set s f) + 1 = zeros l := by
  unfold zeros
  have hp : 0 < l.countP (· == 0) := List.countP_pos_iff.2 ⟨l[s], List.getElem_mem hs, by simp [h0]⟩
  rw [List.countP_set hs]
  simp only [h0, beq_self_eq_true, if_true, beq_iff_eq, hf, if_false]
  omega

theorem tree48_W (p : RProb) (hp : p.ok = true) (cost : Int) (proof : List Int) (hl : proof.length ≤ 10000) : ∀ (k : Nat) (l : List Int) (a : Nat) (w : Int), Part p l → zeros l + 1 ≤ k → -1 ≤ w → a ≤ proof.length →
    Reads p cost proof l a w (tre p cost proof k a l) := by
  intro k
  induction k with
  | zero => intro l a w _ hz; omega
  | succ k ih =>
    intro l a w hpt hz hw ha
    by_cases he : a = proof.length
    · have hn : proof[a]? = none := List.getElem?_eq_none (by omega)
      simp only [tre, hn]
      exact ⟨a, w, tree_end p cost proof l a w he⟩
    · have hlt : a < proof.length := by omega
      have hs : proof[a]? = some proof[a] := List.getElem?_eq_getElem hlt
      simp only [tre, hs]
      by_cases h1 : proof[a] = -1
      · rw [if_pos h1]
        have := tree_leaf p cost proof l a w hp hpt hlt hl h1
        have e : (if w < 0 ∧ leafW p cost l = true then (a : Int) else w) = (if w < 0 then (if leafW p cost l = true then (a : Int) else -1) else w) := by
          by_cases w0 : w < 0
          · by_cases hlw : leafW p cost l = true
            · rw [if_pos ⟨w0, hlw⟩, if_pos w0, if_pos hlw]
            · rw [if_neg (fun h => hlw h.2), if_pos w0, if_neg hlw]; omega
          · rw [if_neg (fun h => w0 h.1), if_neg w0]
        rw [e] at this
        exact this
      · rw [if_neg h1]
        by_cases h2 : 0 ≤ proof[a] ∧ proof[a] < p.sets.length ∧ l.getD proof[a].toNat 0 = 0
        · rw [if_pos h2]
          obtain ⟨g0, g1, g2⟩ := h2
          have hsl : proof[a].toNat < l.length := by rw [hpt.1]; omega
          have hss : proof[a].toNat < p.sets.length := by omega
          have h0 : l[proof[a].toNat] = 0 := by rw [getD_at hsl] at g2; exact g2
          have hfe : ∀ f ∈ p.form proof[a].toNat, five f = true := (form_ne hp hss).2
          have hsv : proof[a] = ((proof[a].toNat : Nat) : Int) := by omega
          generalize proof[a].toNat = s at *
          have hlp := loop48 p cost proof l s k (p.form s) hsl (form_len hp hss) (fun f hf a' w' hw' ha' => by
            have hf5 := hfe f hf
            have hf0 : f ≠ 0 := fun e => by rw [e] at hf5; cases hf5
            refine ih (l.set s f) a' w' ⟨by rw [List.length_set]; exact hpt.1, fun x hx => ?_⟩ (by have := zeros_set hsl h0 hf0; omega) hw' ha'
            rcases List.mem_or_eq_of_mem_set hx with hx | hx
            · exact hpt.2 x hx
            · exact .inr (hx ▸ hf5)) (p.form s).length 0 (a + 1) w (fr48 s (p.form s) 0) (by omega) (by omega) hw (by omega) rfl
          rw [List.drop_zero] at hlp
          have e0 : lj l s (p.form s) 0 = l := rfl
          have hset : ∀ i', (lj l s (p.form s) i').set s 0 = l := fun i' => by
            rw [lj_set]
            exact set_self (by rw [getD_at hsl]; exact h0) hsl
          rw [tres_w p cost proof k s l (p.form s) (a + 1) w hw] at hlp
          cases ht : tres p cost proof k (a + 1) (-1) s l (p.form s) with
          | none =>
            rw [ht] at hlp
            obtain ⟨i, i', a', w', _, hlp⟩ := hlp
            rw [e0] at hlp
            exact ⟨a', w', tree_node p cost proof l a w s hp hpt hlt hl hsv hsl h0 false _ i a' w' rfl _ (lj_len _ _ _ _) (hset i') hlp⟩
          | some q =>
            obtain ⟨next, leaf⟩ := q
            rw [ht] at hlp
            simp only [Option.map_some] at hlp
            rw [e0] at hlp
            exact tree_node p cost proof l a w s hp hpt hlt hl hsv hsl h0 true _ 0 next _ rfl _ (lj_len _ _ _ _) (hset _) hlp
        · rw [if_neg h2]
          exact ⟨a + 1, w, tree_bad p cost proof l a w hlt hl h1 (by rw [hpt.1]; exact h2)⟩
end Go.Vi
end

section
/- Vi: layer 11: repr.Accept. No conditions but those that stand with each. -/
namespace Go.Vi
open Go Go.Lib Go.Proofs
set_option maxRecDepth 100000
attribute [local simp] E_skip E_ret E_exit E_text E_draw E_seq E_cond E_block E_scope E_loop runOps runOp runDraw runVF runV finV gate FlOK wantD exec fin opd look putF norm constD constC fieldAddrD loadD storeD opCall lenD binD isShift intP strP numD indexAddrD indexD D.pd? D.pds? sub capsOf callD argsD argD D.nf unP cellD mkF H00 cD_agg cD_pagg cD_int cD_bool cD_str cD_sl cD_lit cells_encS cells_encU cells_encW cells_encR box_encU box_encW box_encR encU_agg encR_agg encW_agg cells_int one_int buildSliceD elsD splice
attribute [local simp] fnOut retOut resD retsD retD oneD D.noRefs D.noRef alone Hp.cut newRow Hp.live

theorem bd95 (R : Fr) (x y z q : List PD) (n : Int) : buildD Tryz.prog ((20, .p (.sl q)) :: (19, .p (.int .i64 n)) :: (18, .agg [.p (.sl x), .p (.sl y), .p (.sl z)]) :: R) 137 [(0, .tmp 18), (1, .tmp 19), (2, .tmp 20), (4, .const (.int .i64 (-1)))] =
    some (.agg [.p (.sl x), .p (.sl y), .p (.sl z), .p (.int .i64 n), .p (.sl q), .p (.int .i64 0), .p (.int .i64 (-1))]) := by
  have h : zeroOf Tryz.prog 137 = some (.agg #[.slice none 0 0, .slice none 0 0, .slice none 0 0, .int .i64 0, .slice none 0 0, .int .i64 0, .int .i64 0]) := by kernel_rfl
  have pl : placesOf Tryz.prog 137 = some [(0, 3), (3, 1), (4, 1), (5, 1), (6, 1)] := by kernel_rfl
  simp [buildD, h, pl, buildD.go, splice]

/-- What Accept answers: the place, the error. -/
def acceptA (p : RProb) (cost : Int) (proof : List Int) : Int × Int :=
  if 4000 < proof.length then (0, 3) else if p.ok = true then
    (match tre p cost proof (p.sets.length + 1) 0 p.zero with
    | none => (0, 2)
    | some (next, leaf) => if next < proof.length then (0, 2) else if 0 ≤ leaf then (leaf, 7) else (0, 0))
  else (0, 2)

theorem accept23_W (p : RProb) (hf : p.fine) (cost : Int) (proof : List Int) (H : Hp) : W 17 [.p (encR p), .p (.int .i64 cost), .p (.sl (proof.map iP))] H =
    some (.ret (.tup [.p (.int .i64 (acceptA p cost proof).1), .p (.int .i64 (acceptA p cost proof).2)]), H) := by
  refine W17_of rfl (by simp) ?_
  have h14 := fun H => check14_W p hf H
  unfold acceptA
  by_cases hl : 4000 < proof.length
  · have hl' : (4000 : Int) < proof.length := by omega
    simp [code17, Tryz.f17, bR, hl, hl']
  · have hl' : ¬ (4000 : Int) < proof.length := by omega
    cases hp : p.ok with
    | false => rw [hp] at h14; simp [code17, Tryz.f17, bR, hl, hl', h14]
    | true =>
      rw [hp] at h14
      obtain ⟨_, h5, _⟩ := ok_fine hp
      have hz : p.zero.length = p.sets.length := by simp [RProb.zero]
      have g1 : p.sets.length * 8 ≤ 140737488355328 := by omega
      have g2 : (p.sets.length : Int) ≤ 4611686018427387904 := by omega
      have ht := tree48_W p hp cost proof (by omega) (p.sets.length + 1) p.zero 0 (-1) ⟨hz, fun x hx => .inl (by simpa [RProb.zero] using (List.eq_of_mem_replicate hx))⟩
        (by have : zeros p.zero ≤ p.zero.length := List.countP_le_length; omega) (by omega) (Nat.zero_le _)
      have h00 : ((0 : Nat) : Int) = 0 := rfl
      cases hr : tre p cost proof (p.sets.length + 1) 0 p.zero with
      | none =>
        rw [hr] at ht
        obtain ⟨a', w', ht⟩ := ht
        simp only [rdH, bR, RProb.zero, List.map_replicate, h00] at ht
        simp [code17, Tryz.f17, bR, hl, hl', h14, bd71, bd95, makeSliceD, g1, g2, ht]
      | some q =>
        obtain ⟨next, leaf⟩ := q
        rw [hr] at ht
        simp only [Reads, rdH, bR, RProb.zero, List.map_replicate, h00, show (-1 : Int) < 0 by omega, if_true] at ht
        by_cases hn : next < proof.length
        · simp [code17, Tryz.f17, bR, hl, hl', h14, bd71, bd95, makeSliceD, g1, g2, ht, hn]
        · by_cases hlf : 0 ≤ leaf
          · simp [code17, Tryz.f17, bR, hl, hl', h14, bd71, bd95, makeSliceD, g1, g2, ht, hn, hlf]
          · simp [code17, Tryz.f17, bR, hl, hl', h14, bd71, bd95, makeSliceD, g1, g2, ht, hn, hlf]
end Go.Vi
end
