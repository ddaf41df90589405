/- It is proved here what functions of the program's layer 11 and of its specification compute; conditions stand with each. The law on bounds. -/
import Derived.Test.YtodgddpkbmanoaaGreatDoorMZL
import Derived.Test.YtodgddpkbmanoaaGreatDoorMZF
import Derived.Test.YtodgddpkbmanoaaGreatDoorMRC
set_option linter.unusedVariables false
set_option linter.unusedSimpArgs false

section
/- Vi: layer 11: the law ReprBounds: a part of a choice by numbers. No conditions but those that stand with each. -/
namespace Go.Vi
open Go Go.Lib Go.Proofs
set_option maxRecDepth 100000
attribute [local simp] E_skip E_ret E_exit E_text E_draw E_seq E_cond E_block E_scope E_loop runOps runOp runDraw runVF runV finV gate FlOK wantD exec fin opd look putF norm constD constC fieldAddrD loadD storeD opCall lenD binD isShift intP strP numD indexAddrD indexD D.pd? D.pds? sub capsOf callD argsD argD D.nf unP cellD mkF H00 cD_agg cD_pagg cD_int cD_bool cD_str cD_sl cD_lit cells_encS cells_encU cells_encW cells_encR box_encU box_encW box_encR encU_agg encR_agg encW_agg cells_int one_int buildSliceD elsD splice
attribute [local simp] fnOut retOut resD retsD retD oneD D.noRefs D.noRef alone Hp.cut newRow Hp.live convD cells_bool one_bool

def bQ (q0 q1 q2 q3 : Int) : Blk := .cells [.p (b8 q0), .p (b8 q1), .p (b8 q2), .p (b8 q3)]
def r04 (p : RProb) : Arr := ⟨0, 4, 1, false, true, List.replicate p.sets.length (.bool false)⟩
section
variable (y : Yd) (p : RProb) (q0 q1 q2 q3 : Int) (a : Nat) (cost e : Int) (L : List (List Int))
def fr4a (i : Nat) : Fr := [(7, .ptr 1 0), (9, .ptr 2 0), (13, .p (iP cost)), (14, .p (iP e)), (15, .p (.sl (L.map encC))), (16, .own 1 0), (96, .p (.sl (p.sets.map encS))), (97, .p (iP p.sets.length)), (98, .p (iP i))]
def hp4a (sm : List Int) : Hp := ⟨[bYd y, bQ q0 q1 q2 q3, bR p, bN a], [r04 p, rW sm]⟩
def qAt (q0 q1 q2 q3 : Int) : Nat → Int | 0 => q0 | 1 => q1 | 2 => q2 | _ => q3

theorem round4a (hp : p.ok = true) (hn : p.sets.length ≤ 4) (hq : in8 q0 ∧ in8 q1 ∧ in8 q2 ∧ in8 q3) (i : Nat) (hi : i < p.sets.length) (sm : List Int) (hs : PartS p sm) :
    ∃ sm', PartS p sm' ∧ ∃ X, E false ⟨0, 0⟩ 4 lp4_0 (fr4a p cost e L i) (hp4a y p q0 q1 q2 q3 a sm) = some (.normal, fr4a p cost e L (i + 1), ⟨[bYd y, bQ q0 q1 q2 q3, bR p, bN a] ++ X, [r04 p, rW sm']⟩) := by
  have hw : IntKind.i64.wrap ((i : Int) + 1) = (i : Int) + 1 := wrap64 (by omega) (by omega)
  obtain ⟨hsl, hsf⟩ := hs
  have hlen : i < sm.length := by omega
  obtain ⟨k, hk⟩ : ∃ k, k = qAt q0 q1 q2 q3 i := ⟨_, rfl⟩
  have hk8 : in8 k := by
    rw [hk]; unfold qAt
    split
    · exact hq.1
    · exact hq.2.1
    · exact hq.2.2.1
    · exact hq.2.2.2
  unfold in8 at hk8
  have hF := (form_ne hp hi)
  have hFe : p.form i = (p.sets[i]).forms := by simp [RProb.form, List.getD_eq_getElem?_getD, hi]
  rw [hFe] at hF
  have hFl : (p.sets[i]).forms.length ≤ 5 := (ok_fine hp).2.2.2.2 _ (List.getElem_mem hi)
  generalize hG : (p.sets[i]).forms = G at *
  have hG0 : 0 < G.length := by
    cases G with
    | nil => exact absurd rfl hF.1
    | cons => simp
  have hGne : ¬ G = [] := hF.1
  have wk : IntKind.i64.wrap k = k := wrap64 (by omega) (by omega)
  have tk : k.tmod 2 = k % 2 := Int.tmod_eq_emod_of_nonneg (by omega)
  have dk : k.tdiv 2 = k / 2 := Int.tdiv_eq_ediv_of_nonneg (by omega)
  have wk2 : IntKind.i64.wrap (k / 2) = k / 2 := wrap64 (by omega) (by omega)
  have tk2 : (k / 2).tmod (G.length : Int) = (k / 2) % (G.length : Int) := Int.tmod_eq_emod_of_nonneg (by omega)
  have nG : ¬ (G.length : Int) = 0 := by omega
  obtain ⟨j, hj⟩ : ∃ j : Nat, (k / 2) % (G.length : Int) = j := ⟨((k / 2) % (G.length : Int)).toNat, by have := Int.emod_nonneg (k / 2) nG; omega⟩
  have hjl : j < G.length := by have := Int.emod_lt_of_pos (k / 2) (show 0 < (G.length : Int) by omega); omega
  have hgi : p.sets[i]? = some p.sets[i] := by simp [hi]
  by_cases he : k % 2 = 0
  · refine ⟨sm.set i G[j], ⟨by simpa using hsl, fun m hm => ?_⟩, [.cells [.p (iP p.sets[i].size), .p (.sl (G.map iP))]], ?_⟩
    · rw [List.length_set] at hm
      by_cases e : i = m
      · subst e
        rw [getD_set_eq hlen, hFe]
        exact .inr (List.getElem_mem hjl)
      · rw [getD_set_ne e]; exact hsf m hm
    · obtain rfl | rfl | rfl | rfl : i = 0 ∨ i = 1 ∨ i = 2 ∨ i = 3 := by omega
      · have hI : (0 : Int) < p.sets.length := by omega
        have hL : (0 : Int) < sm.length := by omega
        have hw' : IntKind.i64.wrap (1 : Int) = 1 := by decide
        have hw2 : IntKind.i64.wrap (0 : Int) = 0 := by decide
        simp only [qAt] at hk
        subst hk
        simp [lp4_0, code4, Tryz.f4, fr4a, hp4a, bQ, bYd, Yd.cs, bR, bN, r04, rW, hI, hL, hi, hlen, hG, hw', hw2, wk, tk, he, dk, wk2, tk2, nG, hj, hjl, hGne, setEl, List.map_set]
      · have hI : (1 : Int) < p.sets.length := by omega
        have hL : (1 : Int) < sm.length := by omega
        have hw' : IntKind.i64.wrap (2 : Int) = 2 := by decide
        have hw2 : IntKind.i64.wrap (1 : Int) = 1 := by decide
        simp only [qAt] at hk
        subst hk
        simp [lp4_0, code4, Tryz.f4, fr4a, hp4a, bQ, bYd, Yd.cs, bR, bN, r04, rW, hI, hL, hi, hlen, hG, hw', hw2, wk, tk, he, dk, wk2, tk2, nG, hj, hjl, hGne, setEl, List.map_set]
      · have hI : (2 : Int) < p.sets.length := by omega
        have hL : (2 : Int) < sm.length := by omega
        have hw' : IntKind.i64.wrap (3 : Int) = 3 := by decide
        have hw2 : IntKind.i64.wrap (2 : Int) = 2 := by decide
        simp only [qAt] at hk
        subst hk
        simp [lp4_0, code4, Tryz.f4, fr4a, hp4a, bQ, bYd, Yd.cs, bR, bN, r04, rW, hI, hL, hi, hlen, hG, hw', hw2, wk, tk, he, dk, wk2, tk2, nG, hj, hjl, hGne, setEl, List.map_set]
      · have hI : (3 : Int) < p.sets.length := by omega
        have hL : (3 : Int) < sm.length := by omega
        have hw' : IntKind.i64.wrap (4 : Int) = 4 := by decide
        have hw2 : IntKind.i64.wrap (3 : Int) = 3 := by decide
        simp only [qAt] at hk
        subst hk
        simp [lp4_0, code4, Tryz.f4, fr4a, hp4a, bQ, bYd, Yd.cs, bR, bN, r04, rW, hI, hL, hi, hlen, hG, hw', hw2, wk, tk, he, dk, wk2, tk2, nG, hj, hjl, hGne, setEl, List.map_set]
  · refine ⟨sm, ⟨hsl, hsf⟩, [.cells [.p (iP p.sets[i].size), .p (.sl (G.map iP))]], ?_⟩
    obtain rfl | rfl | rfl | rfl : i = 0 ∨ i = 1 ∨ i = 2 ∨ i = 3 := by omega
    · have hI : (0 : Int) < p.sets.length := by omega
      have hL : (0 : Int) < sm.length := by omega
      have hw' : IntKind.i64.wrap (1 : Int) = 1 := by decide
      have hw2 : IntKind.i64.wrap (0 : Int) = 0 := by decide
      simp only [qAt] at hk
      subst hk
      simp [lp4_0, code4, Tryz.f4, fr4a, hp4a, bQ, bYd, Yd.cs, bR, bN, r04, rW, hI, hL, hi, hlen, hG, hw', hw2, wk, tk, he]
    · have hI : (1 : Int) < p.sets.length := by omega
      have hL : (1 : Int) < sm.length := by omega
      have hw' : IntKind.i64.wrap (2 : Int) = 2 := by decide
      have hw2 : IntKind.i64.wrap (1 : Int) = 1 := by decide
      simp only [qAt] at hk
      subst hk
      simp [lp4_0, code4, Tryz.f4, fr4a, hp4a, bQ, bYd, Yd.cs, bR, bN, r04, rW, hI, hL, hi, hlen, hG, hw', hw2, wk, tk, he]
    · have hI : (2 : Int) < p.sets.length := by omega
      have hL : (2 : Int) < sm.length := by omega
      have hw' : IntKind.i64.wrap (3 : Int) = 3 := by decide
      have hw2 : IntKind.i64.wrap (2 : Int) = 2 := by decide
      simp only [qAt] at hk
      subst hk
      simp [lp4_0, code4, Tryz.f4, fr4a, hp4a, bQ, bYd, Yd.cs, bR, bN, r04, rW, hI, hL, hi, hlen, hG, hw', hw2, wk, tk, he]
    · have hI : (3 : Int) < p.sets.length := by omega
      have hL : (3 : Int) < sm.length := by omega
      have hw' : IntKind.i64.wrap (4 : Int) = 4 := by decide
      have hw2 : IntKind.i64.wrap (3 : Int) = 3 := by decide
      simp only [qAt] at hk
      subst hk
      simp [lp4_0, code4, Tryz.f4, fr4a, hp4a, bQ, bYd, Yd.cs, bR, bN, r04, rW, hI, hL, hi, hlen, hG, hw', hw2, wk, tk, he]
end
end Go.Vi
end

section
/- Vi: layer 11: the law ReprBounds: its loops. No conditions but those that stand with each. -/
namespace Go.Vi
open Go Go.Lib Go.Proofs
set_option maxRecDepth 100000
attribute [local simp] E_skip E_ret E_exit E_text E_draw E_seq E_cond E_block E_scope E_loop runOps runOp runDraw runVF runV finV gate FlOK wantD exec fin opd look putF norm constD constC fieldAddrD loadD storeD opCall lenD binD isShift intP strP numD indexAddrD indexD D.pd? D.pds? sub capsOf callD argsD argD D.nf unP cellD mkF H00 cD_agg cD_pagg cD_int cD_bool cD_str cD_sl cD_lit cells_encS cells_encU cells_encW cells_encR box_encU box_encW box_encR encU_agg encR_agg encW_agg cells_int one_int buildSliceD elsD splice
attribute [local simp] fnOut retOut resD retsD retD oneD D.noRefs D.noRef alone Hp.cut newRow Hp.live convD cells_bool one_bool one_sl cells_sl

def rF (l : List Int) : Arr := ⟨0, 62, 1, false, true, l.map iP⟩
theorem clone20_W (l : List Int) (c : Nat) (fz : Bool) (H : Hp) (hc : c < H.A.length) (h : H.A[c]? = some ⟨0, 62, 1, false, fz, l.map iP⟩) (hl : l.length ≤ 100) (hne : ¬ l = []) :
    W 20 [.own c 0] H = some (.ret (.own (H.A.length + 1) 0), ⟨H.B, H.A ++ [rN false, rW l]⟩) := by
  refine W20_ofO (by simp [D.noRef]) (by simp) ?_
  obtain ⟨B, A⟩ := H
  simp only at hc h
  have h1 : (A ++ [(⟨0, 62, 1, true, false, []⟩ : Arr)])[c]? = some ⟨0, 62, 1, false, fz, l.map iP⟩ := by rw [List.getElem?_append_left hc]; exact h
  have hb : l.length * 8 ≤ 140737488355328 := by omega
  simp [code20, Tryz.f20, h1, appendD, srcD, fit_i, nilD, isNil, hb, hne, fit0, fnOutO, rN, rW]

theorem fold_flag (bad : Nat → Bool) : ∀ (k i : Nat) (n : Int), foldN (fun i n => if bad i = true then -1 else n) k i n = if (List.range' i k).all (fun j => !bad j) = true then n else -1
  | 0, i, n => by simp [foldN]
  | k + 1, i, n => by
    simp only [foldN, List.range'_succ, List.all_cons]
    rw [fold_flag bad k (i + 1)]
    cases hb : bad i <;> first | (simp; done) | (simp; rfl)

section
variable (y : Yd) (p : RProb) (q0 q1 q2 q3 : Int) (a : Nat) (cost e : Int) (L : List (List Int)) (sm : List Int) (fl f : Int)
theorem loop4a (hp : p.ok = true) (hn : p.sets.length ≤ 4) (hq : in8 q0 ∧ in8 q1 ∧ in8 q2 ∧ in8 q3) :
    ∃ sm, PartS p sm ∧ loopO false ⟨0, 0⟩ 4 lp4_0 4 2 (fr4a p cost e L 0) (hp4a y p q0 q1 q2 q3 a p.zero) = some (.exit 0, fr4a p cost e L p.sets.length ++ [(99, .p (.bool false))], hp4a y p q0 q1 q2 q3 a sm) := by
  obtain ⟨o, h1, sm, h2, h3⟩ := for_inv (mu := false) (m := ⟨0, 0⟩) (f := 4) (c := lp4_0) (nB := 4) (nA := 2) hd4_0 p.sets.length
    (fun i F1 H1 => ∃ sm, PartS p sm ∧ F1 = fr4a p cost e L i ∧ H1 = hp4a y p q0 q1 q2 q3 a sm)
    (fun o => ∃ sm, PartS p sm ∧ o = (.exit 0, fr4a p cost e L p.sets.length ++ [(99, .p (.bool false))], hp4a y p q0 q1 q2 q3 a sm))
    (fun F1 H1 ⟨sm, hs, hf, hh⟩ => by
      subst hf; subst hh
      refine ⟨_, ?_, by simp, sm, hs, rfl⟩
      simp [lp4_0, code4, Tryz.f4, fr4a])
    (fun i F1 H1 hi ⟨sm, hs, hf, hh⟩ => by
      subst hf; subst hh
      obtain ⟨sm', k1, X, k2⟩ := round4a y p q0 q1 q2 q3 a cost e L hp hn hq i hi sm hs
      refine ⟨_, _, k2, fr4a p cost e L (i + 1), hp4a y p q0 q1 q2 q3 a sm', ?_, sm', k1, rfl, rfl⟩
      simp [cutD, fr4a, frNo, hp4a, bYd, Yd.cs, bQ, bR, bN, blkNo])
    (F := fr4a p cost e L 0) (H := hp4a y p q0 q1 q2 q3 a p.zero) (F0 := fr4a p cost e L 0) (H0 := hp4a y p q0 q1 q2 q3 a p.zero) (cut_full ⟨0, 0⟩ _ _ (hp4a y p q0 q1 q2 q3 a p.zero))
    ⟨p.zero, ⟨by simp [RProb.zero], fun j _ => .inl (zero_getD p j)⟩, rfl, rfl⟩
  exact ⟨sm, h2, by rw [h1, h3]⟩

def hp4b : Hp := ⟨[bYd y, bQ q0 q1 q2 q3, bR p, bN a], [r04 p, rF sm]⟩
theorem cut4b (F : Fr) (keep : List Tmp) (X : List Blk) (Z : List Arr) (hF : frNo 4 2 (norm keep F) = true) : cutD ⟨0, 0⟩ keep 4 2 F ⟨[bYd y, bQ q0 q1 q2 q3, bR p, bN a] ++ X, [r04 p, rF sm] ++ Z⟩ = some (norm keep F, hp4b y p q0 q1 q2 q3 a sm) := by
  unfold cutD
  rw [if_pos ⟨hF, by simp [bYd, Yd.cs, bQ, bR, bN, blkNo]⟩]
  simp [hp4b]

/-- Which places tell a choice from the part. -/
def badC (sm c : List Int) (i : Nat) : Bool := sm.getD i 0 != 0 && sm.getD i 0 != c.getD i 0
def fr4c (c : List Int) (k : Nat) (j : Nat) (n : Int) : Fr := [(9, .ptr 2 0), (13, .p (iP cost)), (14, .p (iP e)), (16, .own 1 0), (20, .p (iP fl)), (21, .p (iP f)), (23, .p (.sl (c.map iP))), (24, .p (iP n)), (136, .p (.sl (L.map encC))), (137, .p (iP L.length)), (138, .p (iP k)), (174, .own 1 0), (175, .p (iP sm.length)), (176, .p (iP j))]
theorem loop4c (c : List Int) (hc : c.length = sm.length) (hl : sm.length ≤ 100) (k : Nat) (n : Int) :
    loopO false ⟨0, 0⟩ 4 lp4_2 4 2 (fr4c cost e L sm fl f c k 0 n) (hp4b y p q0 q1 q2 q3 a sm) = some (.exit 4, fr4c cost e L sm fl f c k sm.length (if goesB sm c = true then n else -1) ++ [(177, .p (.bool false))], hp4b y p q0 q1 q2 q3 a sm) := by
  have h := for_fold (mu := false) (m := ⟨0, 0⟩) (f := 4) (c := lp4_2) (nB := 4) (nA := 2) hd4_2 sm.length (fun j n => fr4c cost e L sm fl f c k j n) (fun _ _ => hp4b y p q0 q1 q2 q3 a sm) (fun i n => if badC sm c i = true then -1 else n) (fun _ _ => True)
    (fun n => (.exit 4, fr4c cost e L sm fl f c k sm.length n ++ [(177, .p (.bool false))], hp4b y p q0 q1 q2 q3 a sm)) (fun _ => by simp)
    (fun n _ => by simp [lp4_2, code4, Tryz.f4, fr4c])
    (fun j n hj _ => by
      have hw : IntKind.i64.wrap ((j : Int) + 1) = (j : Int) + 1 := wrap64 (by omega) (by omega)
      have hj' : j < c.length := by omega
      refine ⟨trivial, fr4c cost e L sm fl f c k (j + 1) (if badC sm c j = true then -1 else n), hp4b y p q0 q1 q2 q3 a sm, ?_, cut_full ⟨0, 0⟩ _ _ (hp4b y p q0 q1 q2 q3 a sm)⟩
      have e1 : sm.getD j 0 = sm[j] := by simp [List.getD_eq_getElem?_getD, hj]
      have e2 : c.getD j 0 = c[j] := by simp [List.getD_eq_getElem?_getD, hj']
      unfold badC
      rw [e1, e2]
      by_cases h0 : sm[j] = 0
      · simp [lp4_2, code4, Tryz.f4, fr4c, hp4b, rF, hj, hj', hw, h0]
      · by_cases h1 : sm[j] = c[j]
        · have h0' : ¬ c[j] = 0 := by rw [← h1]; exact h0
          simp [lp4_2, code4, Tryz.f4, fr4c, hp4b, rF, hj, hj', hw, h0', h1]
        · simp [lp4_2, code4, Tryz.f4, fr4c, hp4b, rF, hj, hj', hw, h0, h1])
    (a := n) (F := fr4c cost e L sm fl f c k 0 n) (H := hp4b y p q0 q1 q2 q3 a sm) trivial (cut_full ⟨0, 0⟩ _ _ (hp4b y p q0 q1 q2 q3 a sm))
  rw [h, fold_flag (badC sm c), ← List.range_eq_range']
  rfl

def fr4b (k : Nat) : Fr := [(9, .ptr 2 0), (13, .p (iP cost)), (14, .p (iP e)), (16, .own 1 0), (20, .p (iP fl)), (21, .p (iP f)), (136, .p (.sl (L.map encC))), (137, .p (iP L.length)), (138, .p (iP k))]
theorem round4b (hp : p.ok = true) (hne : 1 ≤ p.sets.length) (hL : ∀ c ∈ L, c ∈ choR p p.sets []) (hs : PartS p sm) (he : e = 0 ∨ e = 7) (hcost : e = 0 → ∀ c ∈ L, cost ≤ total p c) (hf : f = 0 ∨ f = 7) (hgo : ∀ c ∈ L, Goes sm c → f = 0 ∧ fl ≤ total p c)
    (k : Nat) (hk : k < L.length) (hLl : L.length ≤ 100000) : E false ⟨0, 0⟩ 4 lp4_1 (fr4b cost e L fl f k) (hp4b y p q0 q1 q2 q3 a sm) = some (.normal, fr4b cost e L fl f (k + 1), hp4b y p q0 q1 q2 q3 a sm) := by
  have hmem := List.getElem_mem hk
  obtain ⟨g1, g2, g3, g4, g5⟩ := cho_facts hp (hL _ hmem)
  obtain ⟨hpf, h5, _⟩ := ok_fine hp
  have hcl : L[k].length = sm.length := by rw [g1.1, hs.1]
  have hw : IntKind.i64.wrap ((k : Int) + 1) = (k : Int) + 1 := wrap64 (by omega) (by omega)
  have h19 := fun H => cost10_W p L[k] hpf (by rw [g1.1]; omega) H
  have h18 := fun H => floor12_W p L[k] hpf (by rw [g1.1]; omega) H
  simp only [g3, g4, g5, if_true] at h19 h18
  have hloop := loop4c y p q0 q1 q2 q3 a cost e L sm fl f L[k] hcl (by rw [hs.1]; omega) k (total p L[k])
  have hpos := total_nonneg hp L[k]
  have hco := fun h0 => hcost h0 _ hmem
  have hgo' := fun h => hgo _ hmem ((goesB_iff hcl.symm).1 h)
  have h00 : ((0 : Nat) : Int) = 0 := rfl
  generalize hc : L[k] = c at *
  generalize total p c = t at *
  simp only [lp4_2, code4, Tryz.f4, fr4c, hp4b, bYd, Yd.cs, bQ, bR, bN, r04, rF, h00, List.map_cons, List.map_nil] at hloop
  have ht : ¬ (t < 0) := by omega
  cases hg : goesB sm c with
  | true =>
    obtain ⟨rfl, hfl⟩ := hgo' hg
    rw [hg] at hloop
    have hfl' : ¬ t < fl := by omega
    rcases he with rfl | rfl
    · have hco' : ¬ t < cost := by have := hco rfl; omega
      simp [lp4_1, code4, Tryz.f4, fr4b, hp4b, bYd, Yd.cs, bQ, bR, bN, r04, rF, hk, hc, encC, h19, h18, hco', hloop, hpos, hfl', hw]
    · simp [lp4_1, code4, Tryz.f4, fr4b, hp4b, bYd, Yd.cs, bQ, bR, bN, r04, rF, hk, hc, encC, h19, h18, hloop, hpos, hfl', hw]
  | false =>
    rw [hg] at hloop
    rcases he with rfl | rfl
    · have hco' : ¬ t < cost := by have := hco rfl; omega
      simp [lp4_1, code4, Tryz.f4, fr4b, hp4b, bYd, Yd.cs, bQ, bR, bN, r04, rF, hk, hc, encC, h19, h18, hco', hloop, hw]
    · simp [lp4_1, code4, Tryz.f4, fr4b, hp4b, bYd, Yd.cs, bQ, bR, bN, r04, rF, hk, hc, encC, h19, h18, hloop, hw]
end
end Go.Vi
end

section
/- Vi: layer 11: the law ReprBounds. No conditions but those that stand with each. -/
namespace Go.Vi
open Go Go.Lib Go.Proofs
set_option maxRecDepth 100000
attribute [local simp] E_skip E_ret E_exit E_text E_draw E_seq E_cond E_block E_scope E_loop runOps runOp runDraw runVF runV finV gate FlOK wantD exec fin opd look putF norm constD constC fieldAddrD loadD storeD opCall lenD binD isShift intP strP numD indexAddrD indexD D.pd? D.pds? sub capsOf callD argsD argD D.nf unP cellD mkF H00 cD_agg cD_pagg cD_int cD_bool cD_str cD_sl cD_lit cells_encS cells_encU cells_encW cells_encR box_encU box_encW box_encR encU_agg encR_agg encW_agg cells_int one_int buildSliceD elsD splice
attribute [local simp] fnOut retOut resD retsD retD oneD D.noRefs D.noRef alone Hp.cut newRow Hp.live convD cells_bool one_bool one_sl cells_sl

section
variable (y : Yd) (p : RProb) (q0 q1 q2 q3 : Int) (a : Nat) (cost e : Int) (L : List (List Int)) (sm : List Int) (fl f : Int)
theorem loop4b (hp : p.ok = true) (hne : 1 ≤ p.sets.length) (hL : ∀ c ∈ L, c ∈ choR p p.sets []) (hs : PartS p sm) (he : e = 0 ∨ e = 7) (hcost : e = 0 → ∀ c ∈ L, cost ≤ total p c) (hf : f = 0 ∨ f = 7) (hgo : ∀ c ∈ L, Goes sm c → f = 0 ∧ fl ≤ total p c) (hLl : L.length ≤ 100000) :
    loopO false ⟨0, 0⟩ 4 lp4_1 4 2 (fr4b cost e L fl f 0) (hp4b y p q0 q1 q2 q3 a sm) = some (.exit 2, fr4b cost e L fl f L.length ++ [(139, .p (.bool false))], hp4b y p q0 q1 q2 q3 a sm) := by
  have h := for_all (mu := false) (m := ⟨0, 0⟩) (f := 4) (c := lp4_1) (nB := 4) (nA := 2) hd4_1 L.length (fr4b cost e L fl f) (hp4b y p q0 q1 q2 q3 a sm) (fun _ => true)
    (ex := (.exit 2, fr4b cost e L fl f L.length ++ [(139, .p (.bool false))], hp4b y p q0 q1 q2 q3 a sm)) (bad := (.ret, [], H00)) (by simp) (by simp) (by simp [lp4_1, code4, Tryz.f4, fr4b])
    (fun k hk => .inl ⟨rfl, _, _, round4b y p q0 q1 q2 q3 a cost e L sm fl f hp hne hL hs he hcost hf hgo k hk hLl, cut_full ⟨0, 0⟩ _ _ (hp4b y p q0 q1 q2 q3 a sm)⟩)
    (F := fr4b cost e L fl f 0) (H := hp4b y p q0 q1 q2 q3 a sm) (cut_full ⟨0, 0⟩ _ _ (hp4b y p q0 q1 q2 q3 a sm))
  rw [h, if_pos (by simp)]

def fr4e (F : List Int) (i j : Nat) : Fr := [(9, .ptr 2 0), (16, .own 1 0), (20, .p (iP fl)), (21, .p (iP f)), (30, .p (iP i)), (205, .p (iP sm.length)), (206, .p (iP i)), (223, .p (.sl (F.map iP))), (224, .p (iP F.length)), (225, .p (iP j))]
theorem round4e (hp : p.ok = true) (hs : PartS p sm) (i : Nat) (hi : i < p.sets.length) (h0 : sm.getD i 0 = 0) (j : Nat) (hj : j < (p.form i).length) (hfl : fl = floorP p sm) :
    E false ⟨0, 0⟩ 4 lp4_4 (fr4e sm fl f (p.form i) i j) (hp4b y p q0 q1 q2 q3 a sm) = some (.normal, fr4e sm fl f (p.form i) i (j + 1), ⟨[bYd y, bQ q0 q1 q2 q3, bR p, bN a] ++ [], [r04 p, rF sm] ++ [rN false, rF (sm.set i (p.form i)[j])]⟩) := by
  obtain ⟨hpf, h5, _⟩ := ok_fine hp
  have hFl := form_len hp hi
  have hw : IntKind.i64.wrap ((j : Int) + 1) = (j : Int) + 1 := wrap64 (by omega) (by omega)
  have hsl := hs.1
  have hil : i < sm.length := by omega
  have hne : ¬ sm = [] := by intro e; rw [e] at hil; simp at hil
  have hmono := floor_mono hp h0 (List.getElem_mem hj) hi hsl
  have h20 := clone20_W sm 1 true ⟨[bYd y, bQ q0 q1 q2 q3, bR p, bN a], [r04 p, rF sm]⟩ (by simp) rfl (by omega) hne
  have h18 := fun H => floor12_W p (sm.set i (p.form i)[j]) hpf (by simp; omega) H
  rw [List.map_set] at h18
  simp only [bYd, Yd.cs, bQ, bR, bN, r04, rF, rN, rW, List.map_cons, List.map_nil] at h20
  have hilI : (i : Int) < sm.length := by omega
  by_cases hsh : shapedE p (sm.set i (p.form i)[j]) true = 0
  · simp only [hsh, if_true] at h18
    have hnl : ¬ floorP p (sm.set i (p.form i)[j]) < fl := by omega
    simp [lp4_4, code4, Tryz.f4, fr4e, hp4b, bYd, Yd.cs, bQ, bR, bN, r04, rF, rN, rW, hj, h20, hil, hilI, setEl, h18, hnl, hw, List.map_set]
  · simp only [if_neg hsh] at h18
    simp [lp4_4, code4, Tryz.f4, fr4e, hp4b, bYd, Yd.cs, bQ, bR, bN, r04, rF, rN, rW, hj, h20, hil, hilI, setEl, h18, hsh, hw, List.map_set]

theorem loop4e (hp : p.ok = true) (hs : PartS p sm) (i : Nat) (hi : i < p.sets.length) (h0 : sm.getD i 0 = 0) (hfl : fl = floorP p sm) :
    loopO false ⟨0, 0⟩ 4 lp4_4 4 2 (fr4e sm fl f (p.form i) i 0) (hp4b y p q0 q1 q2 q3 a sm) = some (.exit 8, fr4e sm fl f (p.form i) i (p.form i).length ++ [(226, .p (.bool false))], hp4b y p q0 q1 q2 q3 a sm) := by
  have h := for_all (mu := false) (m := ⟨0, 0⟩) (f := 4) (c := lp4_4) (nB := 4) (nA := 2) hd4_4 (p.form i).length (fr4e sm fl f (p.form i) i) (hp4b y p q0 q1 q2 q3 a sm) (fun _ => true)
    (ex := (.exit 8, fr4e sm fl f (p.form i) i (p.form i).length ++ [(226, .p (.bool false))], hp4b y p q0 q1 q2 q3 a sm)) (bad := (.ret, [], H00)) (by simp) (by simp) (by simp [lp4_4, code4, Tryz.f4, fr4e])
    (fun j hj => .inl ⟨rfl, _, _, round4e y p q0 q1 q2 q3 a sm fl f hp hs i hi h0 j hj hfl, cut4b y p q0 q1 q2 q3 a sm _ _ _ _ rfl⟩)
    (F := fr4e sm fl f (p.form i) i 0) (H := hp4b y p q0 q1 q2 q3 a sm) (cut_full ⟨0, 0⟩ _ _ (hp4b y p q0 q1 q2 q3 a sm))
  rw [h, if_pos (by simp)]

def fr4d (i : Nat) : Fr := [(9, .ptr 2 0), (16, .own 1 0), (20, .p (iP fl)), (21, .p (iP f)), (205, .p (iP sm.length)), (206, .p (iP i))]
theorem round4d (hp : p.ok = true) (hs : PartS p sm) (hf : f = 0 ∨ f = 7) (hfl : f = 0 → fl = floorP p sm) (i : Nat) (hi : i < sm.length) :
    E false ⟨0, 0⟩ 4 lp4_3 (fr4d sm fl f i) (hp4b y p q0 q1 q2 q3 a sm) = some (.normal, fr4d sm fl f (i + 1), hp4b y p q0 q1 q2 q3 a sm) := by
  obtain ⟨hpf, h5, _⟩ := ok_fine hp
  have hsl := hs.1
  have hin : i < p.sets.length := by omega
  have hw : IntKind.i64.wrap ((i : Int) + 1) = (i : Int) + 1 := wrap64 (by omega) (by omega)
  have hg : sm.getD i 0 = sm[i] := by simp [List.getD_eq_getElem?_getD, hi]
  have hFe : p.form i = (p.sets[i]).forms := by simp [RProb.form, List.getD_eq_getElem?_getD, hin]
  by_cases h0 : sm[i] = 0
  · rcases hf with rfl | rfl
    · have hloop := loop4e y p q0 q1 q2 q3 a sm fl 0 hp hs i hin (by rw [hg, h0]) (hfl rfl)
      have h00 : ((0 : Nat) : Int) = 0 := rfl
      simp only [lp4_4, code4, Tryz.f4, fr4e, hp4b, bYd, Yd.cs, bQ, bR, bN, r04, rF, h00, List.map_cons, List.map_nil, hFe] at hloop
      simp [lp4_3, code4, Tryz.f4, fr4d, hp4b, bYd, Yd.cs, bQ, bR, bN, r04, rF, hi, hin, h0, hloop, hw]
    · simp [lp4_3, code4, Tryz.f4, fr4d, hp4b, bYd, Yd.cs, bQ, bR, bN, r04, rF, hi, hin, h0, hw]
  · simp [lp4_3, code4, Tryz.f4, fr4d, hp4b, bYd, Yd.cs, bQ, bR, bN, r04, rF, hi, hin, h0, hw]

theorem loop4d (hp : p.ok = true) (hs : PartS p sm) (hf : f = 0 ∨ f = 7) (hfl : f = 0 → fl = floorP p sm) :
    loopO false ⟨0, 0⟩ 4 lp4_3 4 2 (fr4d sm fl f 0) (hp4b y p q0 q1 q2 q3 a sm) = some (.exit 6, fr4d sm fl f sm.length ++ [(207, .p (.bool false))], hp4b y p q0 q1 q2 q3 a sm) := by
  have h := for_all (mu := false) (m := ⟨0, 0⟩) (f := 4) (c := lp4_3) (nB := 4) (nA := 2) hd4_3 sm.length (fr4d sm fl f) (hp4b y p q0 q1 q2 q3 a sm) (fun _ => true)
    (ex := (.exit 6, fr4d sm fl f sm.length ++ [(207, .p (.bool false))], hp4b y p q0 q1 q2 q3 a sm)) (bad := (.ret, [], H00)) (by simp) (by simp) (by simp [lp4_3, code4, Tryz.f4, fr4d])
    (fun i hi => .inl ⟨rfl, _, _, round4d y p q0 q1 q2 q3 a sm fl f hp hs hf hfl i hi, cut_full ⟨0, 0⟩ _ _ (hp4b y p q0 q1 q2 q3 a sm)⟩)
    (F := fr4d sm fl f 0) (H := hp4b y p q0 q1 q2 q3 a sm) (cut_full ⟨0, 0⟩ _ _ (hp4b y p q0 q1 q2 q3 a sm))
  rw [h, if_pos (by simp)]
end
end Go.Vi
end

section
/- Vi: layer 11: the law ReprBounds answers true. No conditions but those that stand with it. -/
namespace Go.Vi
open Go Go.Lib Go.Proofs
set_option maxRecDepth 100000
attribute [local simp] E_skip E_ret E_exit E_text E_draw E_seq E_cond E_block E_scope E_loop runOps runOp runDraw runVF runV finV gate FlOK wantD exec fin opd look putF norm constD constC fieldAddrD loadD storeD opCall lenD binD isShift intP strP numD indexAddrD indexD D.pd? D.pds? sub capsOf callD argsD argD D.nf unP cellD mkF H00 cD_agg cD_pagg cD_int cD_bool cD_str cD_sl cD_lit cells_encS cells_encU cells_encW cells_encR box_encU box_encW box_encR encU_agg encR_agg encW_agg cells_int one_int buildSliceD elsD splice
attribute [local simp] fnOut retOut resD retsD retD oneD D.noRefs D.noRef alone Hp.cut newRow Hp.live convD cells_bool one_bool one_sl cells_sl

theorem rep_b (n : Nat) : (List.replicate n false).map PD.bool = List.replicate n (PD.bool false) := by simp
theorem rep_0 (p : RProb) : p.zero.map iP = List.replicate p.sets.length (iP 0) := by simp [RProb.zero]

set_option maxHeartbeats 4000000 in
theorem law4_W (y : Yd) (hy : y.ok) (by_ : List Int) (hby : ∀ x ∈ by_, in8 x) (hbl : by_.length < 4611686018427387904) (less : Int) (hless : in16 less) (q0 q1 q2 q3 : Int) (hq : in8 q0 ∧ in8 q1 ∧ in8 q2 ∧ in8 q3) (H : Hp) :
    W 4 [.p (.agg y.cs), .p (.sl (by_.map b8)), .p (.int .u16 less), .p (.agg [b8 q0, b8 q1, b8 q2, b8 q3])] H = some (.ret (.p (.bool true)), H) := by
  refine W4_of (by simp [Yd.cs]) (by simp) ?_
  obtain ⟨p, hp, h1, hn4, h13⟩ := made13_W y hy
  obtain ⟨hpf, h5, h30, h10, hfl⟩ := ok_fine hp
  simp only [Yd.cs] at h13
  -- the numbers of the tree
  obtain ⟨b2, hb2, hb2l, hcut⟩ : ∃ b2 : List Int, (∀ x ∈ b2, 0 ≤ x ∧ x < 256) ∧ b2.length ≤ 1000 ∧ (0 ≤ (if (40 : Int) < by_.length then (40 : Int) else (by_.length : Int)) ∧ (if (40 : Int) < by_.length then (40 : Int) else (by_.length : Int)) ≤ by_.length ∧ (by_.map b8).take (if (40 : Int) < by_.length then (40 : Int) else (by_.length : Int)).toNat = b2.map b8) := by
    by_cases h : (40 : Int) < by_.length
    · refine ⟨by_.take 40, fun x hx => hby x (List.mem_of_mem_take hx), by simp; omega, ?_⟩
      rw [if_pos h]
      exact ⟨by omega, by omega, by simp⟩
    · refine ⟨by_, hby, by omega, ?_⟩
      rw [if_neg h]
      exact ⟨by omega, by omega, by rw [Int.toNat_natCast, List.take_of_length_le (by simp)]⟩
  obtain ⟨c0, c1, c2⟩ := hcut
  have hfit : fits 1 (by_.map b8) = true := by
    simp only [fits, List.all_eq_true, List.mem_map]
    rintro _ ⟨x, _, rfl⟩
    rfl
  let sp := List.replicate p.sets.length false
  have h14 := proof14_W p hp b2 h1 hb2 hb2l (p.sets.length + 1) p.sets.length sp (by simp [sp]) (by have := zB_le sp; simpa [sp] using this) rfl h5 3 [bYd y, bQ q0 q1 q2 q3, bR p, bN 0] [r04 p] 0 rfl (fun m n => by simp [bYd, Yd.cs, bQ, bR, bN, blkNo]) (Nat.zero_le _)
  have hkind := fun cost => accept_kind hp b2 cost sp rfl
  have hbounds : ∀ cost, ∀ c ∈ choR p p.sets [], (acceptA p cost (prT p b2 (p.sets.length + 1) 0 sp).1).2 = 0 → cost ≤ total p c := fun cost c hc h => bounds_ok hp hc h
  generalize hT : prT p b2 (p.sets.length + 1) 0 sp = T at *
  obtain ⟨T, a'⟩ := T
  simp only at hkind hbounds
  have h00 : ((0 : Nat) : Int) = 0 := rfl
  simp only [sp, rep_b, h00, bYd, Yd.cs, bQ, bR, bN, r04, List.map_cons, List.map_nil, List.set_cons_succ, List.set_cons_zero] at h14
  have h15 := fun H => best16_W p hpf H
  have h16 := fun H => all16_W p hp h1 H
  have h8 := fun H => works9_W H
  have hm1 : p.sets.length ≤ 140737488355328 := by omega
  have hm2 : (p.sets.length : Int) ≤ 4611686018427387904 := by omega
  have hm3 : p.sets.length * 8 ≤ 140737488355328 := by omega
  by_cases hL : choR p p.sets [] = []
  · have hb : bestA p = ([], 0, 5) := by
      unfold bestA bestR
      rw [if_pos hp, hL]; rfl
    rw [hb] at h15
    rw [hL] at h16
    simp only [List.map_nil] at h15 h16
    simp [code4, Tryz.f4, Yd.cs, h13, sliceD, boundD, hfit, c0, c1, c2, makeSliceD, hm1, hm2, h14, h15, h16, h8]
  · obtain ⟨b, n, hbr⟩ : ∃ b n, bestR p = some (b, n) := by
      rcases leastN_spec p (choR p p.sets []) with ⟨e, _⟩ | ⟨b, m, _, e, _⟩
      · exact absurd e hL
      · exact ⟨b, m, e⟩
    have hb : bestA p = (b, n, 0) := by unfold bestA; rw [if_pos hp, hbr]
    rw [hb] at h15
    obtain ⟨n0, n1⟩ := best_bound hp hbr
    unfold in16 at hless
    have wl : IntKind.i64.wrap less = less := wrap64 (by omega) (by omega)
    have w5 : IntKind.i64.wrap (5 - less) = 5 - less := wrap64 (by omega) (by omega)
    have wc : IntKind.i64.wrap (n + (5 - less)) = n + (5 - less) := wrap64 (by omega) (by omega)
    generalize hcost : n + (5 - less) = cost at *
    have h17 := fun H => accept23_W p hpf cost T H
    have hk := hkind cost
    have hbd := hbounds cost
    generalize hA : acceptA p cost T = ac at *
    obtain ⟨at_, e⟩ := ac
    simp only at h17 hk hbd
    have hLl : (choR p p.sets []).length ≤ 100000 := by
      rw [← all_choices hp]
      have : ∀ (l : List RSet) (Cs : List (List Int)), (∀ s ∈ l, s.forms.length ≤ 5) → (l.foldl stepL Cs).length ≤ 5 ^ l.length * Cs.length := by
        intro l
        induction l with
        | nil => intro Cs _; simp
        | cons s l ih =>
          intro Cs h
          have h1 := ih (stepL Cs s) fun t ht => h t (by simp [ht])
          have h2 := step_many (Cs := Cs) (h s (by simp))
          simp only [List.foldl_cons, List.length_cons]
          refine Nat.le_trans h1 (Nat.le_trans (Nat.mul_le_mul_left _ h2) ?_)
          rw [Nat.pow_succ, Nat.mul_assoc]
          exact Nat.le_refl _
      have h2 := this p.sets [[]] hfl
      have h3 : 5 ^ p.sets.length ≤ 5 ^ 5 := Nat.pow_le_pow_right (by omega) h5
      refine Nat.le_trans (List.length_filter_le _ _) (Nat.le_trans h2 ?_)
      simp only [List.length_singleton, Nat.mul_one]
      omega
    -- the part
    obtain ⟨sm, hs, l0⟩ := loop4a y p q0 q1 q2 q3 a' cost e (choR p p.sets []) hp hn4 hq
    have hsl := hs.1
    have h18 := fun H => floor12_W p sm hpf (by omega) H
    rw [part_shaped hp hs] at h18
    have hne2 : ¬ (choR p p.sets []).map encC = [] := by simpa using hL
    have hlen0 : ¬ ((choR p p.sets []).length : Int) = 0 := by
      intro h
      exact hL (List.length_eq_zero_iff.1 (by omega))
    have hgo : ∀ fl f : Int, (allowed p sm = true → fl = floorP p sm ∧ f = 0) → ∀ c ∈ choR p p.sets [], Goes sm c → f = 0 ∧ fl ≤ total p c := fun fl f h c hc hg => by
      obtain ⟨g1, g2, _⟩ := cho_facts hp hc
      obtain ⟨e1, e2⟩ := h (allowed_goes hg g2)
      exact ⟨e2, by rw [e1]; exact floor_le hp g1 hg⟩
    simp only [lp4_0, code4, Tryz.f4, fr4a, hp4a, bYd, Yd.cs, bQ, bR, bN, r04, rW, h00, rep_0, List.map_cons, List.map_nil] at l0
    cases ha : allowed p sm with
    | true =>
      rw [ha] at h18
      simp only [if_true] at h18
      have l1 := loop4b y p q0 q1 q2 q3 a' cost e (choR p p.sets []) sm (floorP p sm) 0 hp h1 (fun c hc => hc) hs hk (fun h c hc => hbd c hc h) (.inl rfl) (hgo _ _ fun _ => ⟨rfl, rfl⟩) hLl
      have l2 := loop4d y p q0 q1 q2 q3 a' sm (floorP p sm) 0 hp hs (.inl rfl) (fun _ => rfl)
      simp only [lp4_1, code4, Tryz.f4, fr4b, hp4b, bYd, Yd.cs, bQ, bR, bN, r04, rF, h00, List.map_cons, List.map_nil] at l1
      simp only [lp4_3, code4, Tryz.f4, fr4d, hp4b, bYd, Yd.cs, bQ, bR, bN, r04, rF, h00, List.map_cons, List.map_nil] at l2
      rcases hk with rfl | rfl
      · simp [code4, Tryz.f4, Yd.cs, h13, sliceD, boundD, hfit, c0, c1, c2, makeSliceD, hm1, hm2, hm3, h14, h15, h16, h8, hL, hlen0, wl, w5, hcost, wc, h17, l0, h18, l1, l2]
      · simp [code4, Tryz.f4, Yd.cs, h13, sliceD, boundD, hfit, c0, c1, c2, makeSliceD, hm1, hm2, hm3, h14, h15, h16, h8, hL, hlen0, wl, w5, hcost, wc, h17, l0, h18, l1, l2]
    | false =>
      rw [ha] at h18
      have h70 : ¬ ((7 : Int) = 0) := by decide
      simp only [Bool.false_eq_true, if_false, if_neg h70] at h18
      have l1 := loop4b y p q0 q1 q2 q3 a' cost e (choR p p.sets []) sm 0 7 hp h1 (fun c hc => hc) hs hk (fun h c hc => hbd c hc h) (.inr rfl) (hgo _ _ fun h => by rw [ha] at h; cases h) hLl
      have l2 := loop4d y p q0 q1 q2 q3 a' sm 0 7 hp hs (.inr rfl) (fun h => absurd h h70)
      simp only [lp4_1, code4, Tryz.f4, fr4b, hp4b, bYd, Yd.cs, bQ, bR, bN, r04, rF, h00, List.map_cons, List.map_nil] at l1
      simp only [lp4_3, code4, Tryz.f4, fr4d, hp4b, bYd, Yd.cs, bQ, bR, bN, r04, rF, h00, List.map_cons, List.map_nil] at l2
      rcases hk with rfl | rfl
      · simp [code4, Tryz.f4, Yd.cs, h13, sliceD, boundD, hfit, c0, c1, c2, makeSliceD, hm1, hm2, hm3, h14, h15, h16, h8, hL, hlen0, wl, w5, hcost, wc, h17, l0, h18, l1, l2]
      · simp [code4, Tryz.f4, Yd.cs, h13, sliceD, boundD, hfit, c0, c1, c2, makeSliceD, hm1, hm2, hm3, h14, h15, h16, h8, hL, hlen0, wl, w5, hcost, wc, h17, l0, h18, l1, l2]
end Go.Vi
end
