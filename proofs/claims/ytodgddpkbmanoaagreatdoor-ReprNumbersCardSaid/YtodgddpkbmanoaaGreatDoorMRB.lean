/- It is proved here what functions of the program's layer 11 and of its specification compute; conditions stand with each. Proofs that are read, the specification. -/
import Derived.Test.YtodgddpkbmanoaaGreatDoorMRA
set_option linter.unusedVariables false
set_option linter.unusedSimpArgs false

section
/- Vi: layer 11: swardref11.tree: its simple ways. No conditions but those that stand with each. -/
namespace Go.Vi
open Go Go.Lib Go.Proofs
set_option maxRecDepth 100000
attribute [local simp] E_skip E_ret E_exit E_text E_draw E_seq E_cond E_block E_scope E_loop runOps runOp runDraw runVF runV finV gate FlOK wantD exec fin opd look putF norm constD constC fieldAddrD loadD storeD opCall lenD binD isShift intP strP numD indexAddrD indexD D.pd? D.pds? sub capsOf callD argsD argD D.nf unP cellD mkF H00 cD_agg cD_pagg cD_int cD_bool cD_str cD_sl cD_lit cells_encS cells_encU cells_encW cells_encR box_encU box_encW box_encR encU_agg encR_agg encW_agg cells_int one_int buildSliceD elsD splice
attribute [local simp] fnOut retOut resD retsD retD oneD D.noRefs D.noRef alone Hp.cut newRow Hp.live

/-- What the reference's tree answers. -/
def treD : Option (Nat × Int) → List D
  | none => [.p (.int .i64 (-1)), .p (.int .i64 (-1))]
  | some (n, x) => [.p (.int .i64 n), .p (.int .i64 x)]

section
variable (p : RProb) (cost : Int) (proof l : List Int) (a : Nat)
theorem ref_no (hp : p.ok = true) (hl : proof.length ≤ 10000) (h : ∀ h : a < proof.length, inR proof[a] (-1) (p.sets.length - 1) = false) (H : Hp) :
    W 71 [.p (encR p), .p (.int .i64 cost), .p (.sl (proof.map iP)), .p (.int .i64 a), .p (.sl (l.map iP))] H = some (.ret (.tup (treD none)), H) := by
  refine W71_of rfl (by simp) ?_
  obtain ⟨_, h5, _⟩ := ok_fine hp
  have hw : IntKind.i64.wrap ((p.sets.length : Int) - 1) = (p.sets.length : Int) - 1 := wrap64 (by omega) (by omega)
  by_cases ha : a < proof.length
  · have ha' : ¬ (proof.length : Int) ≤ a := by omega
    have h44 := fun H => in44_W proof[a] (-1) (p.sets.length - 1) H
    rw [h ha] at h44
    simp [code71, Tryz.f71, bR, ha, ha', h44, hw, treD]
  · have ha' : (proof.length : Int) ≤ a := by omega
    simp [code71, Tryz.f71, bR, ha, ha', treD]

theorem ref_leaf (hp : p.ok = true) (hpt : Part p l) (ha : a < proof.length) (hl : proof.length ≤ 10000) (hs : proof[a] = -1) (H : Hp) :
    W 71 [.p (encR p), .p (.int .i64 cost), .p (.sl (proof.map iP)), .p (.int .i64 a), .p (.sl (l.map iP))] H = some (.ret (.tup (treD (some (a + 1, if leafW p cost l = true then (a : Int) else -1)))), H) := by
  refine W71_of rfl (by simp) ?_
  obtain ⟨_, h5, _⟩ := ok_fine hp
  have hw : IntKind.i64.wrap ((p.sets.length : Int) - 1) = (p.sets.length : Int) - 1 := wrap64 (by omega) (by omega)
  have hw2 : IntKind.i64.wrap ((a : Int) + 1) = (a : Int) + 1 := wrap64 (by omega) (by omega)
  have ha' : ¬ (proof.length : Int) ≤ a := by omega
  have h44 := fun H => in44_W proof[a] (-1) (p.sets.length - 1) H
  have hin : inR proof[a] (-1) (p.sets.length - 1) = true := by rw [hs]; simp only [inR, Bool.and_eq_true, decide_eq_true_eq]; omega
  rw [hin, hs] at h44
  have h62 := fun H => allowed62_W p l hp hpt.1 H
  have h36 := fun H => bound36_W p l hp hpt H
  unfold leafW
  cases hall : allowed p l with
  | false => rw [hall] at h62; simp [code71, Tryz.f71, bR, ha, ha', hs, h44, h62, hw, hw2, treD]
  | true =>
    rw [hall] at h62
    by_cases hf : floorP p l < cost
    · simp [code71, Tryz.f71, bR, ha, ha', hs, h44, h62, h36, hf, hw, hw2, treD]
    · simp [code71, Tryz.f71, bR, ha, ha', hs, h44, h62, h36, hf, hw, hw2, treD]

theorem ref_set (hp : p.ok = true) (hpt : Part p l) (ha : a < proof.length) (hl : proof.length ≤ 10000) (s : Nat) (hs : proof[a] = s) (hsl : s < l.length) (h0 : ¬ l[s] = 0) (H : Hp) :
    W 71 [.p (encR p), .p (.int .i64 cost), .p (.sl (proof.map iP)), .p (.int .i64 a), .p (.sl (l.map iP))] H = some (.ret (.tup (treD none)), H) := by
  refine W71_of rfl (by simp) ?_
  obtain ⟨_, h5, _⟩ := ok_fine hp
  have hw : IntKind.i64.wrap ((p.sets.length : Int) - 1) = (p.sets.length : Int) - 1 := wrap64 (by omega) (by omega)
  have ha' : ¬ (proof.length : Int) ≤ a := by omega
  have h44 := fun H => in44_W proof[a] (-1) (p.sets.length - 1) H
  have hin : inR proof[a] (-1) (p.sets.length - 1) = true := by rw [hs]; simp only [inR, Bool.and_eq_true, decide_eq_true_eq]; have := hpt.1; omega
  rw [hin, hs] at h44
  have hs1 : ¬ (s : Int) = -1 := by omega
  simp [code71, Tryz.f71, bR, ha, ha', hs, hs1, h44, hsl, h0, hw, treD]
end
end Go.Vi
end

section
/- Vi: layer 11: swardref11.tree: a round. No conditions but those that stand with each. -/
namespace Go.Vi
open Go Go.Lib Go.Proofs
set_option maxRecDepth 100000
attribute [local simp] E_skip E_ret E_exit E_text E_draw E_seq E_cond E_block E_scope E_loop runOps runOp runDraw runVF runV finV gate FlOK wantD exec fin opd look putF norm constD constC fieldAddrD loadD storeD opCall lenD binD isShift intP strP numD indexAddrD indexD D.pd? D.pds? sub capsOf callD argsD argD D.nf unP cellD mkF H00 cD_agg cD_pagg cD_int cD_bool cD_str cD_sl cD_lit cells_encS cells_encU cells_encW cells_encR box_encU box_encW box_encR encU_agg encR_agg encW_agg cells_int one_int buildSliceD elsD splice
attribute [local simp] fnOut retOut resD retsD retD oneD D.noRefs D.noRef alone Hp.cut newRow Hp.live

section
variable (p : RProb) (cost : Int) (proof l : List Int) (s : Nat) (F : List Int)
def fr47 (n : Nat) (w : Int) (j : Nat) : Fr := [(1, .p (.int .i64 cost)), (2, .p (.sl (proof.map iP))), (4, .p (.sl (l.map iP))), (5, .ptr 0 0), (12, .p (.int .i64 s)), (13, .p (.int .i64 n)), (14, .p (.int .i64 w)), (15, .p (.sl (F.map iP))), (16, .p (.int .i64 j))]
theorem round47 (hs : s < l.length) (hl : l.length ≤ 5) (hFl : F.length ≤ 5) (j : Nat) (hj : j < F.length) (n : Nat) (w : Int) (r : Option (Nat × Int))
    (hr : ∀ H, W 71 [.p (encR p), .p (.int .i64 cost), .p (.sl (proof.map iP)), .p (.int .i64 n), .p (.sl ((l.set s F[j]).map iP))] H = some (.ret (.tup (treD r)), H)) :
    ∃ F1 H1, E true ⟨0, 0⟩ 71 lp71_0 (fr47 cost proof l s F n w j) ⟨[bR p], []⟩ =
      (match r with
      | some _ => some (.normal, F1, H1)
      | none => some (.ret, [(10, .p (.int .i64 (-1))), (11, .p (.int .i64 (-1)))], H1)) ∧
      (match r with
      | some (n', leaf) => cutD ⟨0, 0⟩ [1, 2, 4, 5, 12, 13, 14, 15, 16] 1 0 F1 H1 = some (fr47 cost proof l s F n' (if w < 0 then leaf else w) (j + 1), (⟨[bR p], []⟩ : Hp))
      | none => True) := by
  have hw : IntKind.i64.wrap ((j : Int) + 1) = (j : Int) + 1 := wrap64 (by omega) (by omega)
  have g1 : l.length * 8 ≤ 140737488355328 := by omega
  have hne : ¬ l = [] := fun e => by rw [e] at hs; simp at hs
  simp only [List.map_set] at hr
  cases r with
  | none =>
    simp only [treD] at hr
    exact ⟨[], _, by simp [lp71_0, code71, Tryz.f71, fr47, bR, hj, hs, hr, hw, appendD, srcD, fit_i, fit0, g1, hne, setEl]; rfl, trivial⟩
  | some q =>
    obtain ⟨n', leaf⟩ := q
    simp only [treD] at hr
    have n0 : ¬ (n' : Int) < 0 := by omega
    by_cases w0 : w < 0
    · exact ⟨_, _, by simp [lp71_0, code71, Tryz.f71, fr47, bR, hj, hs, hr, hw, appendD, srcD, fit_i, fit0, g1, hne, setEl, n0, w0]; exact ⟨rfl, rfl⟩, by simp [cutD, fr47, frNo, bR, blkNo, w0]⟩
    · exact ⟨_, _, by simp [lp71_0, code71, Tryz.f71, fr47, bR, hj, hs, hr, hw, appendD, srcD, fit_i, fit0, g1, hne, setEl, n0, w0]; exact ⟨rfl, rfl⟩, by simp [cutD, fr47, frNo, bR, blkNo, w0]⟩
end
end Go.Vi
end

section
/- Vi: layer 11: swardref11.tree in the whole. No conditions but those that stand with each. -/
namespace Go.Vi
open Go Go.Lib Go.Proofs
set_option maxRecDepth 100000
attribute [local simp] E_skip E_ret E_exit E_text E_draw E_seq E_cond E_block E_scope E_loop runOps runOp runDraw runVF runV finV gate FlOK wantD exec fin opd look putF norm constD constC fieldAddrD loadD storeD opCall lenD binD isShift intP strP numD indexAddrD indexD D.pd? D.pds? sub capsOf callD argsD argD D.nf unP cellD mkF H00 cD_agg cD_pagg cD_int cD_bool cD_str cD_sl cD_lit cells_encS cells_encU cells_encW cells_encR box_encU box_encW box_encR encU_agg encR_agg encW_agg cells_int one_int buildSliceD elsD splice
attribute [local simp] fnOut retOut resD retsD retD oneD D.noRefs D.noRef alone Hp.cut newRow Hp.live

section
variable (p : RProb) (cost : Int) (proof l : List Int) (s k : Nat) (F : List Int)
def Refs (l : List Int) (a : Nat) (r : Option (Nat × Int)) : Prop := ∀ H, W 71 [.p (encR p), .p (.int .i64 cost), .p (.sl (proof.map iP)), .p (.int .i64 a), .p (.sl (l.map iP))] H = some (.ret (.tup (treD r)), H)
theorem loop47 (hs : s < l.length) (hl : l.length ≤ 5) (hFl : F.length ≤ 5) (hr : ∀ f ∈ F, ∀ a, Refs p cost proof (l.set s f) a (tre p cost proof k a (l.set s f))) :
    ∀ (m j n : Nat) (w : Int) (F0 : Fr) (H0 : Hp), m = F.length - j → j ≤ F.length → cutD ⟨0, 0⟩ [1, 2, 4, 5, 12, 13, 14, 15, 16] 1 0 F0 H0 = some (fr47 cost proof l s F n w j, (⟨[bR p], []⟩ : Hp)) →
      match tres p cost proof k n w s l (F.drop j) with
      | some (n', w') => loopO true ⟨0, 0⟩ 71 lp71_0 1 0 F0 H0 = some (.exit 0, fr47 cost proof l s F n' w' F.length ++ [(73, .p (.bool false))], (⟨[bR p], []⟩ : Hp))
      | none => ∃ H1, loopO true ⟨0, 0⟩ 71 lp71_0 1 0 F0 H0 = some (.ret, [(10, .p (.int .i64 (-1))), (11, .p (.int .i64 (-1)))], H1) := by
  intro m
  induction m with
  | zero =>
    intro j n w F0 H0 hm hj hF
    obtain rfl : j = F.length := by omega
    rw [List.drop_length]
    simp only [tres]
    rw [loopO_eq, hd71_0, hF]
    have : E true ⟨0, 0⟩ 71 lp71_0 (fr47 cost proof l s F n w F.length) ⟨[bR p], []⟩ = some (.exit 0, fr47 cost proof l s F n w F.length ++ [(73, .p (.bool false))], (⟨[bR p], []⟩ : Hp)) := by
      simp [lp71_0, code71, Tryz.f71, fr47, bR]
    simp only [this]
  | succ m ih =>
    intro j n w F0 H0 hm hj hF
    have hlt : j < F.length := by omega
    rw [List.drop_eq_getElem_cons hlt]
    simp only [tres]
    have hrr := hr F[j] (List.getElem_mem hlt) n
    unfold Refs at hrr
    cases ht : tre p cost proof k n (l.set s F[j]) with
    | none =>
      rw [ht] at hrr
      obtain ⟨F1, H1, h1, h2⟩ := round47 p cost proof l s F hs hl hFl j hlt n w none hrr
      simp only at h1
      refine ⟨H1, ?_⟩
      rw [loopO_eq, hd71_0, hF]
      simp only [h1]
    | some q =>
      obtain ⟨next, leaf⟩ := q
      rw [ht] at hrr
      obtain ⟨F1, H1, h1, h2⟩ := round47 p cost proof l s F hs hl hFl j hlt n w (some (next, leaf)) hrr
      simp only at h1 h2
      have h3 := ih (j + 1) next (if w < 0 then leaf else w) F1 H1 (by omega) (by omega) h2
      have e : loopO true ⟨0, 0⟩ 71 lp71_0 1 0 F0 H0 = loopO true ⟨0, 0⟩ 71 lp71_0 1 0 F1 H1 := by
        rw [loopO_eq, hd71_0, hF]
        simp only [h1]
      rw [e]
      exact h3

theorem ref_node (hp : p.ok = true) (hpt : Part p l) (a : Nat) (ha : a < proof.length) (hl : proof.length ≤ 10000) (hs : proof[a] = s) (hsl : s < l.length) (h0 : l[s] = 0) (r : Option (Nat × Int))
    (hloop : match r with
      | some (n', w') => loopO true ⟨0, 0⟩ 71 lp71_0 1 0 (fr47 cost proof l s (p.form s) (a + 1) (-1) 0) ⟨[bR p], []⟩ = some (.exit 0, fr47 cost proof l s (p.form s) n' w' (p.form s).length ++ [(73, .p (.bool false))], (⟨[bR p], []⟩ : Hp))
      | none => ∃ H1, loopO true ⟨0, 0⟩ 71 lp71_0 1 0 (fr47 cost proof l s (p.form s) (a + 1) (-1) 0) ⟨[bR p], []⟩ = some (.ret, [(10, .p (.int .i64 (-1))), (11, .p (.int .i64 (-1)))], H1)) : Refs p cost proof l a r := by
  intro H
  refine W71_of rfl (by simp) ?_
  obtain ⟨_, h5, _⟩ := ok_fine hp
  have hw : IntKind.i64.wrap ((p.sets.length : Int) - 1) = (p.sets.length : Int) - 1 := wrap64 (by omega) (by omega)
  have hw2 : IntKind.i64.wrap ((a : Int) + 1) = (a : Int) + 1 := wrap64 (by omega) (by omega)
  have ha' : ¬ (proof.length : Int) ≤ a := by omega
  have h44 := fun H => in44_W proof[a] (-1) (p.sets.length - 1) H
  have hin : inR proof[a] (-1) (p.sets.length - 1) = true := by rw [hs]; simp only [inR, Bool.and_eq_true, decide_eq_true_eq]; have := hpt.1; omega
  rw [hin, hs] at h44
  have hs1 : ¬ (s : Int) = -1 := by omega
  have hss : s < p.sets.length := by rw [← hpt.1]; exact hsl
  have ef : p.form s = p.sets[s].forms := by simp [RProb.form, List.getD_eq_getElem?_getD, hss]
  have h00 : ((0 : Nat) : Int) = 0 := rfl
  have hc : (((a + 1 : Nat) : Int)) = (a : Int) + 1 := by omega
  rw [ef] at hloop
  cases r with
  | none =>
    obtain ⟨H1, hloop⟩ := hloop
    simp only [lp71_0, code71, Tryz.f71, fr47, h00, bR, hc] at hloop
    simp [code71, Tryz.f71, bR, ha, ha', hs, hs1, h44, hsl, h0, hss, hw, hw2, hloop, treD]
  | some q =>
    obtain ⟨n', w'⟩ := q
    simp only [lp71_0, code71, Tryz.f71, fr47, h00, bR, hc] at hloop
    simp [code71, Tryz.f71, bR, ha, ha', hs, hs1, h44, hsl, h0, hss, hw, hw2, hloop, treD]
end
end Go.Vi
end

section
/- Vi: layer 11: swardref11.tree, Accept. No conditions but those that stand with each. -/
namespace Go.Vi
open Go Go.Lib Go.Proofs
set_option maxRecDepth 100000
attribute [local simp] E_skip E_ret E_exit E_text E_draw E_seq E_cond E_block E_scope E_loop runOps runOp runDraw runVF runV finV gate FlOK wantD exec fin opd look putF norm constD constC fieldAddrD loadD storeD opCall lenD binD isShift intP strP numD indexAddrD indexD D.pd? D.pds? sub capsOf callD argsD argD D.nf unP cellD mkF H00 cD_agg cD_pagg cD_int cD_bool cD_str cD_sl cD_lit cells_encS cells_encU cells_encW cells_encR box_encU box_encW box_encR encU_agg encR_agg encW_agg cells_int one_int buildSliceD elsD splice
attribute [local simp] fnOut retOut resD retsD retD oneD D.noRefs D.noRef alone Hp.cut newRow Hp.live

theorem tree47_W (p : RProb) (hp : p.ok = true) (cost : Int) (proof : List Int) (hl : proof.length ≤ 10000) : ∀ (k : Nat) (l : List Int) (a : Nat), Part p l → zeros l + 1 ≤ k →
    Refs p cost proof l a (tre p cost proof k a l) := by
  intro k
  induction k with
  | zero => intro l a _ hz; omega
  | succ k ih =>
    intro l a hpt hz
    obtain ⟨_, h5, _⟩ := ok_fine hp
    by_cases he : proof.length ≤ a
    · have hn : proof[a]? = none := List.getElem?_eq_none he
      simp only [tre, hn]
      exact ref_no p cost proof l a hp hl (fun h => by omega)
    · have hlt : a < proof.length := by omega
      have hs : proof[a]? = some proof[a] := List.getElem?_eq_getElem hlt
      simp only [tre, hs]
      by_cases h1 : proof[a] = -1
      · rw [if_pos h1]
        exact ref_leaf p cost proof l a hp hpt hlt hl h1
      · rw [if_neg h1]
        by_cases h2 : 0 ≤ proof[a] ∧ proof[a] < p.sets.length ∧ l.getD proof[a].toNat 0 = 0
        · rw [if_pos h2]
          obtain ⟨g0, g1, g2⟩ := h2
          have hsl : proof[a].toNat < l.length := by rw [hpt.1]; omega
          have hss : proof[a].toNat < p.sets.length := by omega
          have h0 : l[proof[a].toNat] = 0 := by rw [getD_at hsl] at g2; exact g2
          have hfe : ∀ f ∈ p.form proof[a].toNat, five f = true := (form_ne hp hss).2
          have hsv : proof[a] = ((proof[a].toNat : Nat) : Int) := by omega
          generalize proof[a].toNat = s at *
          have hlp := loop47 p cost proof l s k (p.form s) hsl (by rw [hpt.1]; exact h5) (form_len hp hss) (fun f hf a' => by
            have hf5 := hfe f hf
            have hf0 : f ≠ 0 := fun e => by rw [e] at hf5; cases hf5
            refine ih (l.set s f) a' ⟨by rw [List.length_set]; exact hpt.1, fun x hx => ?_⟩ (by have := zeros_set hsl h0 hf0; omega)
            rcases List.mem_or_eq_of_mem_set hx with hx | hx
            · exact hpt.2 x hx
            · exact .inr (hx ▸ hf5)) (p.form s).length 0 (a + 1) (-1) (fr47 cost proof l s (p.form s) (a + 1) (-1) 0) ⟨[bR p], []⟩ (by omega) (by omega) (by simp [cutD, fr47, frNo, bR, blkNo])
          rw [List.drop_zero] at hlp
          exact ref_node p cost proof l s hp hpt a hlt hl hsv hsl h0 _ hlp
        · rw [if_neg h2]
          by_cases g : 0 ≤ proof[a] ∧ proof[a] < p.sets.length
          · have hsl : proof[a].toNat < l.length := by rw [hpt.1]; omega
            exact ref_set p cost proof l a hp hpt hlt hl proof[a].toNat (by omega) hsl (fun e => h2 ⟨g.1, g.2, by rw [getD_at hsl]; exact e⟩)
          · exact ref_no p cost proof l a hp hl (fun h => by
              simp only [inR, Bool.and_eq_false_iff, decide_eq_false_iff_not]
              omega)
end Go.Vi
end

section
/- Vi: layer 11: swardref11.Accept answers as repr.Accept. No conditions but those that stand with each. -/
namespace Go.Vi
open Go Go.Lib Go.Proofs
set_option maxRecDepth 100000
attribute [local simp] E_skip E_ret E_exit E_text E_draw E_seq E_cond E_block E_scope E_loop runOps runOp runDraw runVF runV finV gate FlOK wantD exec fin opd look putF norm constD constC fieldAddrD loadD storeD opCall lenD binD isShift intP strP numD indexAddrD indexD D.pd? D.pds? sub capsOf callD argsD argD D.nf unP cellD mkF H00 cD_agg cD_pagg cD_int cD_bool cD_str cD_sl cD_lit cells_encS cells_encU cells_encW cells_encR box_encU box_encW box_encR encU_agg encR_agg encW_agg cells_int one_int buildSliceD elsD splice
attribute [local simp] fnOut retOut resD retsD retD oneD D.noRefs D.noRef alone Hp.cut newRow Hp.live

theorem accept22_W (p : RProb) (hf : p.fine) (cost : Int) (proof : List Int) (H : Hp) : W 31 [.p (encR p), .p (.int .i64 cost), .p (.sl (proof.map iP))] H =
    some (.ret (.tup [.p (.int .i64 (acceptA p cost proof).1), .p (.int .i64 (acceptA p cost proof).2)]), H) := by
  refine W31_of rfl (by simp) ?_
  have h39 := fun H => formed39_W p hf H
  unfold acceptA
  by_cases hl : 4000 < proof.length
  · have hl' : (4000 : Int) < proof.length := by omega
    simp [code31, Tryz.f31, bR, hl, hl']
  · have hl' : ¬ (4000 : Int) < proof.length := by omega
    cases hp : p.ok with
    | false => rw [hp] at h39; simp [code31, Tryz.f31, bR, hl, hl', h39]
    | true =>
      rw [hp] at h39
      obtain ⟨_, h5, _⟩ := ok_fine hp
      have hz : p.zero.length = p.sets.length := by simp [RProb.zero]
      have g1 : p.sets.length * 8 ≤ 140737488355328 := by omega
      have g2 : (p.sets.length : Int) ≤ 4611686018427387904 := by omega
      have ht := tree47_W p hp cost proof (by omega) (p.sets.length + 1) p.zero 0 ⟨hz, fun x hx => .inl (by simpa [RProb.zero] using (List.eq_of_mem_replicate hx))⟩
        (by have : zeros p.zero ≤ p.zero.length := List.countP_le_length; omega)
      have h00 : ((0 : Nat) : Int) = 0 := rfl
      have hok := (tre_ok p cost proof (p.sets.length + 1)).1 0 p.zero
      unfold Refs at ht
      cases hr : tre p cost proof (p.sets.length + 1) 0 p.zero with
      | none =>
        rw [hr] at ht
        simp only [treD, RProb.zero, List.map_replicate, h00] at ht
        have hn : ¬ (-1 : Int) = proof.length := by omega
        simp [code31, Tryz.f31, bR, hl, hl', h39, makeSliceD, g1, g2, ht, hn]
      | some q =>
        obtain ⟨next, leaf⟩ := q
        have hnx := (hok _ _ hr).2
        rw [hr] at ht
        simp only [treD, RProb.zero, List.map_replicate, h00] at ht
        by_cases hn : next < proof.length
        · have hn' : ¬ (next : Int) = proof.length := by omega
          have hn2 : ¬ next = proof.length := by omega
          simp [code31, Tryz.f31, bR, hl, hl', h39, makeSliceD, g1, g2, ht, hn, hn', hn2]
        · have hn2 : next = proof.length := by omega
          subst hn2
          by_cases hlf : 0 ≤ leaf
          · simp [code31, Tryz.f31, bR, hl, hl', h39, makeSliceD, g1, g2, ht, hlf]
          · simp [code31, Tryz.f31, bR, hl, hl', h39, makeSliceD, g1, g2, ht, hlf]
end Go.Vi
end

section
/- Vi: layer 11: the law ReprAccepts, but for the examples. No conditions but those that stand with each. -/
namespace Go.Vi
open Go Go.Lib Go.Proofs
set_option maxRecDepth 100000
attribute [local simp] E_skip E_ret E_exit E_text E_draw E_seq E_cond E_block E_scope E_loop runOps runOp runDraw runVF runV finV gate FlOK wantD exec fin opd look putF norm constD constC fieldAddrD loadD storeD opCall lenD binD isShift intP strP numD indexAddrD indexD D.pd? D.pds? sub capsOf callD argsD argD D.nf unP cellD mkF H00 cD_agg cD_pagg cD_int cD_bool cD_str cD_sl cD_lit cells_encS cells_encU cells_encW cells_encR box_encU box_encW box_encR encU_agg encR_agg encW_agg cells_int one_int buildSliceD elsD splice
attribute [local simp] fnOut retOut resD retsD retD oneD D.noRefs D.noRef alone Hp.cut newRow Hp.live

end Go.Vi
end
