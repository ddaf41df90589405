/- It is proved here what functions of the program's layer 11 and of its specification compute; conditions stand with each. The program, the third part. -/
import Derived.Test.YtodgddpkbmanoaaGreatDoorMQC
import Derived.Test.YtodgddpkbmanoaaGreatDoorMPA
set_option linter.unusedVariables false
set_option linter.unusedSimpArgs false

section
/- Vi: layer 11: swardref11.Alike, cheapest. No conditions but those that stand with each. -/
namespace Go.Vi
open Go Go.Lib Go.Proofs
set_option maxRecDepth 100000
attribute [local simp] E_skip E_ret E_exit E_text E_draw E_seq E_cond E_block E_scope E_loop runOps runOp runDraw runVF runV finV gate FlOK wantD exec fin opd look putF norm constD constC fieldAddrD loadD storeD opCall lenD binD isShift intP strP numD indexAddrD indexD D.pd? D.pds? sub capsOf callD argsD argD D.nf unP cellD mkF H00 cD_agg cD_pagg cD_int cD_bool cD_str cD_sl cD_lit cells_encS cells_encU cells_encW cells_encR box_encU box_encW box_encR encU_agg encR_agg encW_agg cells_int one_int buildSliceD elsD splice
attribute [local simp] fnOut retOut resD retsD retD oneD D.noRefs D.noRef alone Hp.cut newRow Hp.live

def fr20 (a b : List Int) (i : Nat) : Fr := [(0, .p (.sl (a.map iP))), (1, .p (.sl (b.map iP))), (5, .p (.int .i64 i))]
theorem alike20_W (a b : List Int) (hl : a.length < 4611686018427387904) (H : Hp) : W 32 [.p (.sl (a.map iP)), .p (.sl (b.map iP))] H = some (.ret (.p (.bool (decide (a = b)))), H) := by
  refine W32_of rfl (by simp) ?_
  by_cases he : a.length = b.length
  · have hloop := for_all (mu := false) (m := ⟨0, 0⟩) (f := 32) (c := lp32_0) (nB := 0) (nA := 0) hd32_0 a.length (fr20 a b) H00 (fun i => decide (a.getD i 0 = b.getD i 0))
      (ex := (.exit 0, fr20 a b a.length ++ [(14, .p (.bool false))], H00)) (bad := (.ret, [(4, .p (.bool false))], H00)) (by simp) (by simp) (by simp [lp32_0, code32, Tryz.f32, fr20]) (fun i hi => by
        have hib : i < b.length := by omega
        have hw : IntKind.i64.wrap ((i : Int) + 1) = (i : Int) + 1 := wrap64 (by omega) (by omega)
        rw [getD_at hi, getD_at hib]
        by_cases h : a[i] = b[i]
        · left
          have h' : (a[i] = b[i]) = True := eq_true h
          exact ⟨by simp [h], fr20 a b (i + 1), H00, by simp [lp32_0, code32, Tryz.f32, fr20, hi, hib, h', hw], by simp [cutD, fr20, frNo]⟩
        · right
          have h' : (a[i] = b[i]) = False := eq_false h
          exact ⟨by simp [h], by simp [lp32_0, code32, Tryz.f32, fr20, hi, hib, h']⟩)
      (F := fr20 a b 0) (H := H00) (by simp [cutD, fr20, frNo])
    have e : (List.range a.length).all (fun i => decide (a.getD i 0 = b.getD i 0)) = decide (a = b) := by
      rw [Bool.eq_iff_iff, List.all_eq_true, decide_eq_true_eq]
      constructor
      · intro h
        refine List.ext_getElem he fun i h1 h2 => ?_
        have := h i (List.mem_range.2 h1)
        rw [decide_eq_true_eq, getD_at h1, getD_at h2] at this
        exact this
      · rintro rfl i _; simp
    rw [e] at hloop
    have h00 : ((0 : Nat) : Int) = 0 := rfl
    simp only [lp32_0, code32, Tryz.f32, fr20, h00, H00] at hloop
    by_cases hab : a = b
    · have hab' : decide (a = b) = true := by simpa using hab
      rw [hab'] at hloop ⊢
      simp [code32, Tryz.f32, he, hloop]
    · have hab' : decide (a = b) = false := by simpa using hab
      rw [hab'] at hloop ⊢
      simp [code32, Tryz.f32, he, hloop]
  · have hne : ¬ a = b := fun e => he (by rw [e])
    have he' : ¬ (a.length : Int) = b.length := by omega
    have hab' : decide (a = b) = false := by simpa using hne
    rw [hab']
    simp [code32, Tryz.f32, he, he']

/-! ### cheapest -/
abbrev lP (l : List Int) : PD := .sl (l.map iP)
def stpC (p : RProb) (L : List (List Int)) (i : Nat) : Option (Nat × Int) → Option (Nat × Int)
  | none => some (i, total p (L.getD i []))
  | some (k, n) => if total p (L.getD i []) < n then some (i, total p (L.getD i [])) else some (k, n)
def atC : Option (Nat × Int) → Int
  | none => -1
  | some (k, _) => k
def ltC : Option (Nat × Int) → Int
  | none => 0
  | some (_, n) => n
def gotC (L : List (List Int)) (a : Option (Nat × Int)) : Found := a.map fun x => (L.getD x.1 [], x.2)
attribute [local simp] cells_sl one_sl
theorem foldC (p : RProb) (L : List (List Int)) : gotC L (foldN (stpC p L) L.length 0 none) = bestOf p L := by
  have key : ∀ (l pre : List (List Int)) (a : Option (Nat × Int)), gotC (pre ++ l) (foldN (stpC p (pre ++ l)) l.length pre.length a) = l.foldl (upd p) (gotC (pre ++ l) a) := by
    intro l
    induction l with
    | nil => intro pre a; rfl
    | cons x l ih =>
      intro pre a
      have := ih (pre ++ [x]) (stpC p (pre ++ x :: l) pre.length a)
      simp only [List.append_assoc, List.singleton_append, List.length_append, List.length_singleton] at this
      simp only [List.length_cons, foldN, this, List.foldl_cons]
      congr 1
      have e : (pre ++ x :: l).getD pre.length [] = x := by simp [List.getD_eq_getElem?_getD]
      unfold stpC gotC
      cases a with
      | none => simp only [e, Option.map_some, Option.map_none, upd]
      | some q =>
        obtain ⟨k, n⟩ := q
        simp only [e, Option.map_some, upd]
        split <;> simp only [Option.map_some, e]
  exact key L [] none
theorem foldC_lt (p : RProb) (L : List (List Int)) {k : Nat} {n : Int} (h : foldN (stpC p L) L.length 0 none = some (k, n)) : k < L.length := by
  have key : ∀ (m i : Nat) (a : Option (Nat × Int)), (∀ k n, a = some (k, n) → k < i + m) → ∀ k n, foldN (stpC p L) m i a = some (k, n) → k < i + m := by
    intro m
    induction m with
    | zero => intro i a h k n e; exact h k n e
    | succ m ih =>
      intro i a h k n e
      have := ih (i + 1) (stpC p L i a) (fun k n e => by
        unfold stpC at e
        split at e
        · simp only [Option.some.injEq, Prod.mk.injEq] at e; omega
        · rename_i k' n' _
          split at e
          · simp only [Option.some.injEq, Prod.mk.injEq] at e; omega
          · simp only [Option.some.injEq, Prod.mk.injEq] at e; have := h _ _ rfl; omega) k n e
      omega
  simpa using key L.length 0 none (fun _ _ e => by cases e) k n h

section
variable (p : RProb) (L : List (List Int))
def fr41 (i : Nat) (a : Option (Nat × Int)) : Fr := [(1, .p (.sl (L.map lP))), (2, .ptr 0 0), (7, .p (.int .i64 (atC a))), (8, .p (.int .i64 (ltC a))), (9, .p (.int .i64 i))]
def hp41 : Hp := ⟨[bR p], [⟨0, 62, 1, true, true, []⟩]⟩
/-- What is answered of what was found. -/
def foundD : Found → List D
  | none => [.p (.sl []), .p (.int .i64 0), .p (.bool false)]
  | some (b, n) => [.p (.sl (b.map iP)), .p (.int .i64 n), .p (.bool true)]
end
end Go.Vi
end

section
/- Vi: layer 11: repr.proof.grow: its leaves. No conditions but those that stand with each. -/
namespace Go.Vi
open Go Go.Lib Go.Proofs
set_option maxRecDepth 100000
attribute [local simp] E_skip E_ret E_exit E_text E_draw E_seq E_cond E_block E_scope E_loop runOps runOp runDraw runVF runV finV gate FlOK wantD exec fin opd look putF norm constD constC fieldAddrD loadD storeD opCall lenD binD isShift intP strP numD indexAddrD indexD D.pd? D.pds? sub capsOf callD argsD argD D.nf unP cellD mkF H00 cD_agg cD_pagg cD_int cD_bool cD_str cD_sl cD_lit cells_encS cells_encU cells_encW cells_encR box_encU box_encW box_encR encU_agg encR_agg encW_agg cells_int one_int buildSliceD elsD splice
attribute [local simp] fnOut retOut resD retsD retD oneD D.noRefs D.noRef alone Hp.cut newRow Hp.live

/-- The state of a proof that is made: its numbers so far, the part. -/
def pfH (p : RProb) (cost : Int) (l : List Int) : List Int → Hp
  | [] => ⟨[bR p, .cells [.p (.sl (p.sets.map encS)), .p (.sl (p.uses.map encU)), .p (.sl (p.same.map encW)), .p (.int .i64 cost), .lit true []]], [⟨0, 3, 1, true, false, []⟩, ⟨0, 62, 1, false, false, l.map iP⟩]⟩
  | x :: r => ⟨[bR p, .cells [.p (.sl (p.sets.map encS)), .p (.sl (p.uses.map encU)), .p (.sl (p.same.map encW)), .p (.int .i64 cost), .own 2 r.length]], [⟨0, 3, 1, true, false, []⟩, ⟨0, 62, 1, false, false, l.map iP⟩, ⟨r.length, 3, 1, false, false, (x :: r).map iP⟩]⟩

theorem pf_args (p : RProb) (cost : Int) (l ns : List Int) (hd : D) (x : PD) (h : argD false (pfH p cost l ns).A hd = some (.p x, (pfH p cost l ns).A)) : ∃ A1, argsD false (pfH p cost l ns).A [hd, .own 1 0] = some ([.p x, .p (.sl (l.map iP))], A1) := by
  cases ns with
  | nil => exact ⟨_, by simp only [argsD, h]; rfl⟩
  | cons y r => exact ⟨_, by simp only [argsD, h]; rfl⟩

section
variable (p : RProb) (cost : Int) (l : List Int)
theorem pf_calls (hp : p.ok = true) (hpt : Part p l) (ns : List Int) :
    W 99 [.own 1 0, .p (.int .i64 0)] (pfH p cost l ns) = some (.ret (.p (.int .i64 (ixOf l 0))), pfH p cost l ns) ∧
    W 94 [aR p, .own 1 0] (pfH p cost l ns) = some (.ret (.p (.bool (allowed p l))), pfH p cost l ns) ∧
    W 59 [aR p, .own 1 0] (pfH p cost l ns) = some (.ret (.p (.int .i64 (floorP p l))), pfH p cost l ns) := by
  obtain ⟨_, h5, _⟩ := ok_fine hp
  have hl : l.length = p.sets.length := hpt.1
  obtain ⟨A1, h1⟩ := pf_args p cost l ns (aR p) (.agg [.sl (p.sets.map encS), .sl (p.uses.map encU), .sl (p.same.map encW)]) (by cases ns <;> rfl)
  have h2 : ∃ A2, argsD false (pfH p cost l ns).A [.own 1 0, .p (.int .i64 0)] = some ([.p (.sl (l.map iP)), .p (.int .i64 0)], A2) := by
    cases ns <;> exact ⟨_, rfl⟩
  obtain ⟨A2, h2⟩ := h2
  exact ⟨index69_L l 0 (by omega) h2, allowed59_L p l hp hl h1, floor33_L p l hp hpt h1⟩

set_option maxHeartbeats 2000000 in
theorem grow_leaf (hp : p.ok = true) (hpt : Part p l) (ns : List Int) (hns : ns.length ≤ 10000) (hc : ixOf l 0 < 0 ∨ allowed p l = false ∨ cost ≤ floorP p l) :
    W 60 [.ptr 1 0, .own 1 0] (pfH p cost l ns) = some (.ret (.tup []), pfH p cost l (ns ++ [-1])) := by
  refine W_ofH Tryz.func60 rfl (by kernel_rfl) rfl rfl rfl rfl (by simp [D.noRef]) (by rw [Tryz.ntmps60]; simp) (c := code60) ?_
  obtain ⟨h69, h59, h33⟩ := pf_calls p cost l hp hpt ns
  rw [rs60]
  have fi : ∀ m : List Int, fits 1 (m.map iP) = true := fit_i
  cases ns with
  | nil =>
    simp only [pfH, aR, bR] at h69 h59 h33
    have key : evalC Tryz.prog hn ch (hn.mutF 60) ⟨0, 0⟩ W 60 code60 (mkF 0 [.ptr 1 0, .own 1 0]) (pfH p cost l []) = some (.ret, [], pfH p cost l [-1]) := by
      show E true _ _ _ _ _ = _
      by_cases hx : ixOf l 0 < 0
      · simp [code60, Tryz.f60, pfH, bR, h69, hx, appendD, srcD, fit0, fits, cD_own]
      · cases ha : allowed p l with
        | false => rw [ha] at h59; simp [code60, Tryz.f60, pfH, bR, h69, h59, hx, appendD, srcD, fit0, fits, cD_own]
        | true =>
          have hf : cost ≤ floorP p l := by
            rcases hc with h | h | h
            · exact absurd h hx
            · rw [ha] at h; cases h
            · exact h
          rw [ha] at h59
          simp [code60, Tryz.f60, pfH, bR, h69, h59, h33, hf, hx, appendD, srcD, fit0, fits, cD_own]
    rw [key]
    simp [pfH, bR, blkNo]
  | cons x r =>
    have hr : r.length ≤ 10000 := by simp at hns; omega
    simp only [pfH, aR, bR, List.map_cons] at h69 h59 h33
    have g1 : (r.length + 1 + 1) * 8 ≤ 140737488355328 := by omega
    have key : evalC Tryz.prog hn ch (hn.mutF 60) ⟨0, 0⟩ W 60 code60 (mkF 0 [.ptr 1 0, .own 1 0]) (pfH p cost l (x :: r)) = some (.ret, [], pfH p cost l (x :: r ++ [-1])) := by
      show E true _ _ _ _ _ = _
      by_cases hx : ixOf l 0 < 0
      · simp [code60, Tryz.f60, pfH, bR, h69, hx, appendD, srcD, fit0, fits, cD_own, g1]
      · cases ha : allowed p l with
        | false => rw [ha] at h59; simp [code60, Tryz.f60, pfH, bR, h69, h59, hx, appendD, srcD, fit0, fits, cD_own, g1]
        | true =>
          have hf : cost ≤ floorP p l := by
            rcases hc with h | h | h
            · exact absurd h hx
            · rw [ha] at h; cases h
            · exact h
          rw [ha] at h59
          simp [code60, Tryz.f60, pfH, bR, h69, h59, h33, hf, hx, appendD, srcD, fit0, fits, cD_own, g1]
    rw [key]
    simp [pfH, bR, blkNo]
end
end Go.Vi
end

section
/- Vi: layer 11: repr.proof.grow: its trees. No conditions but those that stand with each. -/
namespace Go.Vi
open Go Go.Lib Go.Proofs
set_option maxRecDepth 100000
attribute [local simp] E_skip E_ret E_exit E_text E_draw E_seq E_cond E_block E_scope E_loop runOps runOp runDraw runVF runV finV gate FlOK wantD exec fin opd look putF norm constD constC fieldAddrD loadD storeD opCall lenD binD isShift intP strP numD indexAddrD indexD D.pd? D.pds? sub capsOf callD argsD argD D.nf unP cellD mkF H00 cD_agg cD_pagg cD_int cD_bool cD_str cD_sl cD_lit cells_encS cells_encU cells_encW cells_encR box_encU box_encW box_encR encU_agg encR_agg encW_agg cells_int one_int buildSliceD elsD splice
attribute [local simp] fnOut retOut resD retsD retD oneD D.noRefs D.noRef alone Hp.cut newRow Hp.live

section
variable (p : RProb) (cost : Int) (l : List Int) (i : Nat) (F : List Int)
def fr46 (j : Nat) : Fr := [(0, .ptr 1 0), (1, .own 1 0), (4, .p (.int .i64 i)), (61, .p (.sl (F.map iP))), (62, .p (.int .i64 F.length)), (63, .p (.int .i64 j))]
theorem pf_cut (m ns : List Int) (hns : ns ≠ []) (F' : Fr) (keep : List Tmp) : cutD ⟨0, 0⟩ keep 2 3 F' (pfH p cost m ns) = some (norm keep F', pfH p cost m ns) := by
  cases ns with
  | nil => exact absurd rfl hns
  | cons x r => exact cut_full ⟨0, 0⟩ keep F' (pfH p cost m (x :: r))

theorem loop46 (k N : Nat) (hi : i < l.length) (hl : l.length ≤ 5) (hFl : F.length ≤ 5) (hN : N + 5 * growMost k ≤ 10000) (hg : ∀ c : List Int, (grow p cost k c (i + 1)).length ≤ growMost k)
    (hr : ∀ j ns, j < F.length → ns ≠ [] → ns.length + growMost k ≤ 10000 → W 60 [.ptr 1 0, .own 1 0] (pfH p cost (l.set i (F.getD j 0)) ns) = some (.ret (.tup []), pfH p cost (l.set i (F.getD j 0)) (ns ++ grow p cost k (l.set i (F.getD j 0)) (i + 1))))
    (ns : List Int) (hns : ns ≠ []) (hnN : ns.length ≤ N) :
    loopO true ⟨0, 0⟩ 60 lp60_0 2 3 (fr46 i F 0) (pfH p cost (lj l i F 0) ns) =
      some (.exit 0, fr46 i F F.length ++ [(64, .p (.bool false))], pfH p cost (lj l i F F.length) (foldN (fun j ns => ns ++ grow p cost k (l.set i (F.getD j 0)) (i + 1)) F.length 0 ns)) := by
  refine for_fold (α := List Int) (nB := 2) (nA := 3) hd60_0 F.length (fun j _ => fr46 i F j) (fun j ns => pfH p cost (lj l i F j) ns) (fun j ns => ns ++ grow p cost k (l.set i (F.getD j 0)) (i + 1)) (fun j ns => ns ≠ [] ∧ ns.length ≤ N + j * growMost k)
    (fun ns => (.exit 0, fr46 i F F.length ++ [(64, .p (.bool false))], pfH p cost (lj l i F F.length) ns)) (fun _ => by simp) (fun ns _ => by simp [lp60_0, code60, Tryz.f60, fr46])
    (fun j ns hj ha => ?_) (a := ns) (F := fr46 i F 0) (H := pfH p cost (lj l i F 0) ns) ⟨hns, by omega⟩ (by rw [pf_cut p cost _ ns hns]; rfl)
  obtain ⟨ha, hb⟩ := ha
  have hm : (j + 1) * growMost k = j * growMost k + growMost k := by rw [Nat.add_mul, Nat.one_mul]
  have hm2 : (j + 1) * growMost k ≤ 5 * growMost k := Nat.mul_le_mul_right _ (by omega)
  have h46 := hr j ns hj ha (by omega)
  have hgl := hg (l.set i (F.getD j 0))
  generalize grow p cost k (l.set i (F.getD j 0)) (i + 1) = t at *
  have hne2 : ns ++ t ≠ [] := by simp [ha]
  refine ⟨⟨hne2, by rw [List.length_append]; omega⟩, fr46 i F (j + 1), pfH p cost (lj l i F (j + 1)) (ns ++ t), ?_, by rw [pf_cut p cost _ _ hne2]; rfl⟩
  have hw : IntKind.i64.wrap ((j : Int) + 1) = (j : Int) + 1 := wrap64 (by omega) (by omega)
  have hlen := lj_len l i F j
  have hi2 : i < (lj l i F j).length := by omega
  have eq1 : lj l i F (j + 1) = (lj l i F j).set i (F.getD j 0) := by rw [lj_set]; unfold lj; simp
  rw [← lj_set l i F j] at h46
  rw [eq1]
  rw [getD_at hj] at h46 ⊢
  generalize lj l i F j = m at *
  have hi3 : (i : Int) < m.length := by omega
  cases ns with
  | nil => exact absurd rfl ha
  | cons x r =>
    simp only [List.cons_append, pfH, bR, List.map_set, List.map_cons] at h46 ⊢
    simp [lp60_0, code60, Tryz.f60, fr46, hj, hi2, hi3, h46, hw, setEl]
end
end Go.Vi
end

section
/- Vi: layer 11: repr.proof.grow; repr.Prove. No conditions but those that stand with each. -/
namespace Go.Vi
open Go Go.Lib Go.Proofs
set_option maxRecDepth 100000
attribute [local simp] E_skip E_ret E_exit E_text E_draw E_seq E_cond E_block E_scope E_loop runOps runOp runDraw runVF runV finV gate FlOK wantD exec fin opd look putF norm constD constC fieldAddrD loadD storeD opCall lenD binD isShift intP strP numD indexAddrD indexD D.pd? D.pds? sub capsOf callD argsD argD D.nf unP cellD mkF H00 cD_agg cD_pagg cD_int cD_bool cD_str cD_sl cD_lit cells_encS cells_encU cells_encW cells_encR box_encU box_encW box_encR encU_agg encR_agg encW_agg cells_int one_int buildSliceD elsD splice
attribute [local simp] fnOut retOut resD retsD retD oneD D.noRefs D.noRef alone Hp.cut newRow Hp.live

theorem ix_at {l : List Int} {i : Nat} (hi : i < l.length) (hu : UpTo l i) (h0 : l[i] = 0) : ixOf l 0 = i := by
  have hm : l.contains 0 = true := by rw [List.contains_iff_mem, ← h0]; exact List.getElem_mem hi
  have ha := ix_all l 0
  rw [hm, List.range_eq_range'] at ha
  obtain ⟨_, h2, h3, h4⟩ := ff_spec (ixB l 0) l.length 0 (by simpa using ha)
  unfold ixOf
  rw [if_pos hm]
  have hz : ixB l 0 i = false := by unfold ixB; rw [getD_at hi, h0]; rfl
  have : ff (ixB l 0) l.length 0 = i := by
    rcases Nat.lt_trichotomy (ff (ixB l 0) l.length 0) i with h | h | h
    · have := hu _ h
      unfold ixB at h3
      simp only [Bool.not_eq_false', decide_eq_true_eq] at h3
      exact absurd h3 this
    · exact h
    · have := h4 i (by omega) h
      rw [hz] at this; cases this
  rw [this]
theorem ix_no {l : List Int} (hu : UpTo l l.length) : ixOf l 0 = -1 := by
  have hm : l.contains 0 = false := by
    rw [← Bool.not_eq_true, List.contains_iff_mem]
    intro h
    obtain ⟨j, hj, e⟩ := List.getElem_of_mem h
    have := hu j hj
    rw [getD_at hj] at this
    exact this e
  unfold ixOf
  rw [if_neg (by rw [hm]; simp)]

section
variable (p : RProb) (cost : Int) (l : List Int) (i : Nat)
set_option maxHeartbeats 2000000 in
theorem grow_node (hp : p.ok = true) (hpt : Part p l) (res ns : List Int) (hns : ns.length ≤ 10000) (hi : i < l.length) (h0 : l[i] = 0) (hix : ixOf l 0 = i) (hall : allowed p l = true) (hf : ¬ cost ≤ floorP p l) (hres : res ≠ [])
    (hloop : loopO true ⟨0, 0⟩ 60 lp60_0 2 3 (fr46 i (p.form i) 0) (pfH p cost l (ns ++ [(i : Int)])) =
      some (.exit 0, fr46 i (p.form i) (p.form i).length ++ [(64, .p (.bool false))], pfH p cost (lj l i (p.form i) (p.form i).length) res)) :
    W 60 [.ptr 1 0, .own 1 0] (pfH p cost l ns) = some (.ret (.tup []), pfH p cost l res) := by
  refine W_ofH Tryz.func60 rfl (by kernel_rfl) rfl rfl rfl rfl (by simp [D.noRef]) (by rw [Tryz.ntmps60]; simp) (c := code60) ?_
  obtain ⟨h69, h59, h33⟩ := pf_calls p cost l hp hpt ns
  rw [rs60]
  rw [hix] at h69
  rw [hall] at h59
  have hs : i < p.sets.length := by rw [← hpt.1]; exact hi
  have ef : p.form i = p.sets[i].forms := by simp [RProb.form, List.getD_eq_getElem?_getD, hs]
  have hlen := lj_len l i (p.form i) (p.form i).length
  have hset : (lj l i (p.form i) (p.form i).length).set i 0 = l := by
    rw [lj_set]
    apply List.ext_getElem (by simp)
    intro j h1 h2
    by_cases e : i = j
    · subst e; simp [h0]
    · simp [List.getElem_set_ne e]
  have hset2 : ((lj l i (p.form i) (p.form i).length).map iP).set i (iP 0) = l.map iP := by rw [← List.map_set, hset]
  generalize lj l i (p.form i) (p.form i).length = m at *
  rw [ef] at hloop
  have hi3 : i < m.length := by omega
  have i0 : ¬ (i : Int) < 0 := by omega
  have h00 : ((0 : Nat) : Int) = 0 := rfl
  cases res with
  | nil => exact absurd rfl hres
  | cons y t =>
  cases ns with
  | nil =>
    simp only [pfH, aR, bR] at h69 h59 h33
    simp only [List.nil_append, pfH, lp60_0, code60, Tryz.f60, fr46, h00, bR, List.map_cons, List.length_nil, List.map_nil] at hloop
    have key : evalC Tryz.prog hn ch (hn.mutF 60) ⟨0, 0⟩ W 60 code60 (mkF 0 [.ptr 1 0, .own 1 0]) (pfH p cost l []) = some (.normal, [], pfH p cost l (y :: t)) := by
      show E true _ _ _ _ _ = _
      simp [code60, Tryz.f60, pfH, bR, h69, h59, h33, hf, i0, hs, hi3, hset2, hloop, appendD, srcD, fit0, fits, cD_own, setEl]
    rw [key]
    simp [pfH, bR, blkNo]
  | cons x r =>
    have g1 : (r.length + 1 + 1) * 8 ≤ 140737488355328 := by simp at hns; omega
    simp only [pfH, aR, bR, List.map_cons] at h69 h59 h33
    simp only [List.cons_append, pfH, lp60_0, code60, Tryz.f60, fr46, h00, bR, List.map_cons, List.map_append, List.map_nil, List.length_append, List.length_singleton] at hloop
    have key : evalC Tryz.prog hn ch (hn.mutF 60) ⟨0, 0⟩ W 60 code60 (mkF 0 [.ptr 1 0, .own 1 0]) (pfH p cost l (x :: r)) = some (.normal, [], pfH p cost l (y :: t)) := by
      show E true _ _ _ _ _ = _
      simp [code60, Tryz.f60, pfH, bR, h69, h59, h33, hf, i0, hs, hi3, hset2, hloop, appendD, srcD, fit0, fits, cD_own, setEl, g1]
    rw [key]
    simp [pfH, bR, blkNo]
end

theorem foldN_app (g : Int → List Int) (F : List Int) (ns : List Int) : foldN (fun j ns => ns ++ g (F.getD j 0)) F.length 0 ns = ns ++ F.flatMap g := by
  rw [foldN_list (fun f ns => ns ++ g f) 0 F ns]
  induction F generalizing ns with
  | nil => simp
  | cons f F ih => simp only [List.foldl_cons, ih, List.flatMap_cons, List.append_assoc]

theorem grow46_W (p : RProb) (hp : p.ok = true) (cost : Int) : ∀ (k : Nat) (l : List Int) (i : Nat) (ns : List Int), Part p l → i + k = l.length → UpTo l i → (∀ j, i ≤ j → l.getD j 0 = 0) → ns.length + growMost k ≤ 10000 →
    W 60 [.ptr 1 0, .own 1 0] (pfH p cost l ns) = some (.ret (.tup []), pfH p cost l (ns ++ grow p cost k l i)) := by
  intro k
  induction k with
  | zero =>
    intro l i ns hpt hk hu hz hb
    have e : i = l.length := by omega
    subst e
    exact grow_leaf p cost l hp hpt ns (by omega) (.inl (by rw [ix_no hu]; omega))
  | succ k ih =>
    intro l i ns hpt hk hu hz hb
    have hi : i < l.length := by omega
    have hs : i < p.sets.length := by rw [← hpt.1]; exact hi
    have h0 : l[i] = 0 := by have := hz i (Nat.le_refl _); rwa [getD_at hi] at this
    obtain ⟨_, h5, _⟩ := ok_fine hp
    have hl5 : l.length ≤ 5 := by rw [hpt.1]; exact h5
    by_cases hc : allowed p l = true ∧ floorP p l < cost
    · simp only [grow, if_pos hc]
      simp only [growMost] at hb
      have hfe : ∀ f ∈ p.form i, five f = true := (form_ne hp hs).2
      have hl := loop46 p cost l i (p.form i) k (ns.length + 1) hi hl5 (form_len hp hs) (by omega) (fun c => (grow_len hp cost k c (i + 1) (by rw [← hpt.1]; omega)).1) (fun j ns' hj hne hb' => by
        have hf : five ((p.form i).getD j 0) = true := by rw [getD_at hj]; exact hfe _ (List.getElem_mem hj)
        refine ih (l.set i ((p.form i).getD j 0)) (i + 1) ns' ⟨by rw [List.length_set]; exact hpt.1, fun x hx => ?_⟩ (by rw [List.length_set]; omega) (fun j' hj' => ?_) (fun j' hj' => ?_) hb'
        · rcases List.mem_or_eq_of_mem_set hx with hx | hx
          · exact hpt.2 x hx
          · exact .inr (hx ▸ hf)
        · by_cases e : i = j'
          · subst e
            rw [getD_set_eq hi]
            intro e0
            rw [e0] at hf; cases hf
          · rw [getD_set_ne e]; exact hu j' (by omega)
        · rw [getD_set_ne (by omega)]; exact hz j' (by omega)) (ns ++ [(i : Int)]) (by simp) (by simp)
      rw [foldN_app (fun f => grow p cost k (l.set i f) (i + 1))] at hl
      have e0 : lj l i (p.form i) 0 = l := rfl
      rw [e0, List.append_assoc] at hl
      exact grow_node p cost l i hp hpt _ ns (by omega) hi h0 (ix_at hi hu h0) hc.1 (by omega) (by simp) hl
    · simp only [grow, if_neg hc]
      refine grow_leaf p cost l hp hpt ns (by omega) ?_
      cases ha : allowed p l with
      | false => exact .inr (.inl rfl)
      | true => exact .inr (.inr (by have : ¬ floorP p l < cost := fun h => hc ⟨ha, h⟩; omega))
end Go.Vi
end

section
/- Vi: layer 11: repr.Prove. No conditions but those that stand with each. -/
namespace Go.Vi
open Go Go.Lib Go.Proofs
set_option maxRecDepth 100000
attribute [local simp] E_skip E_ret E_exit E_text E_draw E_seq E_cond E_block E_scope E_loop runOps runOp runDraw runVF runV finV gate FlOK wantD exec fin opd look putF norm constD constC fieldAddrD loadD storeD opCall lenD binD isShift intP strP numD indexAddrD indexD D.pd? D.pds? sub capsOf callD argsD argD D.nf unP cellD mkF H00 cD_agg cD_pagg cD_int cD_bool cD_str cD_sl cD_lit cells_encS cells_encU cells_encW cells_encR box_encU box_encW box_encR encU_agg encR_agg encW_agg cells_int one_int buildSliceD elsD splice
attribute [local simp] fnOut retOut resD retsD retD oneD D.noRefs D.noRef alone Hp.cut newRow Hp.live

theorem bd89 (R : Fr) (x y z : List PD) (n : Int) : buildD Tryz.prog ((19, .p (.int .i64 n)) :: (18, .agg [.p (.sl x), .p (.sl y), .p (.sl z)]) :: R) 142 [(0, .tmp 18), (1, .tmp 19)] =
    some (.agg [.p (.sl x), .p (.sl y), .p (.sl z), .p (.int .i64 n), .lit true []]) := by
  have h : zeroOf Tryz.prog 142 = some (.agg #[.slice none 0 0, .slice none 0 0, .slice none 0 0, .int .i64 0, .slice none 0 0]) := by kernel_rfl
  have pl : placesOf Tryz.prog 142 = some [(0, 3), (3, 1), (4, 1)] := by kernel_rfl
  simp [buildD, h, pl, buildD.go, splice]

/-- What Prove answers: the numbers, the error. -/
def proveA (p : RProb) : List Int × Int := if (bestA p).2.2 = 0 then (grow p (bestA p).2.1 p.sets.length p.zero 0, 0) else ([], (bestA p).2.2)

theorem best_ok {p : RProb} (h : (bestA p).2.2 = 0) : p.ok = true := by
  unfold bestA at h
  split at h
  · assumption
  · simp at h

theorem grow_ne (p : RProb) (cost : Int) (k : Nat) (l : List Int) (i : Nat) : grow p cost k l i ≠ [] := by
  cases k with
  | zero => simp [grow]
  | succ k => simp only [grow]; split <;> simp

theorem prove21_W (p : RProb) (hf : p.fine) (H : Hp) : W 21 [.p (encR p)] H = some (.ret (.tup [.p (.sl ((proveA p).1.map iP)), .p (.int .i64 (proveA p).2)]), H) := by
  refine W21_of rfl (by simp) ?_
  have h16 := fun H => best16_W p hf H
  unfold proveA
  by_cases h : (bestA p).2.2 = 0
  · have hp := best_ok h
    obtain ⟨_, h5, _⟩ := ok_fine hp
    have hz : p.zero.length = p.sets.length := by simp [RProb.zero]
    have h46 := grow46_W p hp (bestA p).2.1 p.sets.length p.zero 0 [] ⟨hz, fun x hx => .inl (by simpa [RProb.zero] using (List.eq_of_mem_replicate hx))⟩ (by rw [hz]; omega) (fun j hj => by omega) (fun j _ => zero_getD p j) (by
      have : growMost p.sets.length ≤ growMost 5 := by
        match p.sets.length, h5 with
        | 0, _ => decide
        | 1, _ => decide
        | 2, _ => decide
        | 3, _ => decide
        | 4, _ => decide
        | 5, _ => decide
      have e : growMost 5 = 3906 := by decide
      simp only [List.length_nil]; omega)
    rw [List.nil_append] at h46
    have hne := grow_ne p (bestA p).2.1 p.sets.length p.zero 0
    have g1 : p.sets.length * 8 ≤ 140737488355328 := by omega
    have g2 : (p.sets.length : Int) ≤ 4611686018427387904 := by omega
    rw [h] at h16
    rw [if_pos h]
    generalize grow p (bestA p).2.1 p.sets.length p.zero 0 = t at *
    generalize (bestA p).2.1 = n at *
    generalize (bestA p).1 = b at *
    cases t with
    | nil => exact absurd rfl hne
    | cons y t =>
      simp only [pfH, bR, RProb.zero, List.map_replicate, List.map_cons] at h46
      simp [code21, Tryz.f21, bR, h16, bd71, bd89, makeSliceD, g1, g2, h46]
  · rw [if_neg h]
    generalize (bestA p).2.2 = e at *
    generalize (bestA p).2.1 = n at *
    generalize (bestA p).1 = b at *
    simp [code21, Tryz.f21, bR, h16, h]
end Go.Vi
end
