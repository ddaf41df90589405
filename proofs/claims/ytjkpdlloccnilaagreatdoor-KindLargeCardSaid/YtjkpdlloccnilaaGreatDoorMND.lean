/- It is proved here what functions of the program's layer 5 and of its specification compute; conditions stand with each. The least kind of a value. -/
import Derived.Test.YtjkpdlloccnilaaGreatDoorMNA
set_option linter.unusedVariables false
set_option linter.unusedSimpArgs false

section
/- layer 5: swardref05.least. No conditions but those that stand with each. -/
namespace Go.Vi
open Go Go.Lib Go.Proofs
set_option maxRecDepth 100000
attribute [local simp] E_skip E_ret E_exit E_text E_draw E_seq E_cond E_block E_scope E_loop runOps runOp drawR slotsOf Hp.kept_zero runDraw runVF runX runV finV gate FlOK FlOK0 wantD exec fin opd look putF norm constD constC fieldAddrD loadD storeD opCall lenD binD isShift intP strP numD indexAddrD indexD D.pd? D.pds? sub capsOf callD argsD argD D.nf unP cellD mkF H00 cD_agg cD_pagg cD_int cD_bool cD_str cD_sl cD_lit cells_int
attribute [local simp] fnOut retOut resD retsD retD oneD D.noRefs D.noRef alone Hp.cut
attribute [local simp] cells_encK encK_agg box_encK cells_enc enc_agg box_enc one_int one_str one_sl one_agg cD_own cD_ptr
attribute [local simp] newRow Hp.live one_encK

/-! What the two functions 'least' share. -/
def memL (v : Val) (q : Kd) (d : D) (X : List Blk) (A : List Arr) : Hp := ⟨bV v :: zB :: oB 5 0 0 0 d :: bK q :: X, A⟩
abbrev kN : Kd := .mk 1 0 0 0 []
theorem retL_k (k : Kd) (c : Blk) (X : List Blk) (A : List Arr) (H : Hp) : alone H (fnOut Tryz.prog [.cell 2 25, .tmp 3] 0 0 (some (.ret, [(2, .ptr 1 0), (3, .p (.bool true))], ⟨c :: bK k :: X, A⟩))) = some (.ret (joinR (some k)), H) := by
  simp [bK, joinR]
theorem retL_z (c : Blk) (X : List Blk) (A : List Arr) (H : Hp) : alone H (fnOut Tryz.prog [.cell 2 25, .tmp 3] 0 0 (some (.ret, [(2, .ptr 1 0), (3, .p (.bool false))], ⟨c :: zB :: X, A⟩))) = some (.ret (joinR none), H) := by
  simp [zB, encK, encKs, joinR]
theorem retL_row (l : List Kd) (d : D) (X : List Blk) (A : List Arr) (hg : GRow A 25 5 d (l.map encK)) (c : Blk) (H : Hp) :
    alone H (fnOut Tryz.prog [.cell 2 25, .tmp 3] 0 0 (some (.ret, [(2, .ptr 1 0), (3, .p (.bool true))], ⟨c :: oB 5 0 0 0 d :: X, A⟩))) = some (.ret (joinR (some (.mk 5 0 0 0 l))), H) := by
  have hp := hg.pd
  have hfz := hg.frz
  have he : encK (.mk 5 0 0 0 l) = .agg [.int .i64 5, .int .i64 0, .int .i64 0, .int .i64 0, .sl (l.map encK)] := encK_eq _
  rw [joinR, he]
  simp [oB, hp, hfz]

def fr66 (i : Nat) : Fr := [(1, .ptr 0 0), (2, .ptr 1 0), (4, .ptr 2 0), (5, .ptr 3 0), (6, .p (.int .i64 i))]
noncomputable def b66 : Code := cBlk (cFst (cSnd lp66_0))
theorem b66_eq : cFst (cSnd lp66_0) = .block 2 b66 := by kernel_rfl
section
variable (v : Val) (q : Kd)
theorem first66_W (i : Nat) (hi : i < v.ps.length) (d : D) (X : List Blk) (A : List Arr) : E false ⟨0, 0⟩ 66 (cFst lp66_0) (fr66 i) (memL v q d X A) = some (.normal, fr66 i ++ [(30, .p (.bool true))], memL v q d X A) := by
  simp [cFst, lp66_0, code66, Tryz.f66, fr66, memL, bV, hi]
theorem reg13_66 (i : Nat) (hi : i < v.ps.length) (d : D) (X : List Blk) (A : List Arr) (s : Option Kd) (hr : ∀ H, W 66 [.p (enc v.ps[i])] H = some (.ret (joinR s), H)) :
    E false ⟨0, 0⟩ 66 (cFst b66) (fr66 i ++ [(30, .p (.bool true))]) (memL v q d X A) = some (.normal, fr66 i ++ [(7, .ptr (X.length + 4) 0), (8, .p (.bool s.isSome))], memL v q d (X ++ [bK (s.getD kz)]) A) := by
  cases s <;> simp only [joinR] at hr <;> simp [b66, cFst, cSnd, cBlk, lp66_0, code66, Tryz.f66, fr66, memL, bV, hi, hr, splice, bK]
theorem no66 (i : Nat) (a d : D) (X : List Blk) (A : List Arr) : E false ⟨0, 0⟩ 66 (cFst (cSnd b66)) (fr66 i ++ [(7, a), (8, .p (.bool false))]) (memL v q d X A) =
    some (.ret, [(2, .ptr 1 0), (3, .p (.bool false))], memL v q d X A) := by
  simp [b66, cFst, cSnd, cBlk, lp66_0, code66, Tryz.f66, fr66, memL, splice, zB, buildD, buildD.go]
theorem yes66 (i : Nat) (a d : D) (X : List Blk) (A : List Arr) : E false ⟨0, 0⟩ 66 (cFst (cSnd b66)) (fr66 i ++ [(7, a), (8, .p (.bool true))]) (memL v q d X A) =
    some (.normal, fr66 i ++ [(7, a), (43, .p (.bool false))], memL v q d X A) := by
  simp [b66, cFst, cSnd, cBlk, lp66_0, code66, Tryz.f66, fr66, memL]
theorem reg16_66 (i : Nat) (d d' : D) (x : Kd) (X : List Blk) (A A' : List Arr) (hc : cellD d = true) (hc' : cellD d' = true) (h3 : cellsD d' = [d'])
    (h1 : appendD Tryz.prog false (memL v q d (X ++ [bK x]) A) 23 d (.lit false [encK x]) = some (.val d' (memL v q d (X ++ [bK x]) A'))) :
    E false ⟨0, 0⟩ 66 (cFst (cSnd (cSnd b66))) (fr66 i ++ [(7, .ptr (X.length + 4) 0), (43, .p (.bool false))]) (memL v q d (X ++ [bK x]) A) =
    some (.normal, fr66 i ++ [(7, .ptr (X.length + 4) 0)], memL v q d' (X ++ [bK x]) A') := by
  simp only [cellD] at hc hc'
  simp only [memL, bK, oB, bV] at h1
  simp [b66, cFst, cSnd, cBlk, lp66_0, code66, Tryz.f66, fr66, memL, bK, oB, bV, splice, buildSliceD, elsD, h1, h3, hc, hc']
theorem rest66_no (i : Nat) (d : D) (x : Kd) (X : List Blk) (A : List Arr) (h5 : v.k ≠ 5) :
    E false ⟨0, 0⟩ 66 (cSnd (cSnd (cSnd b66))) (fr66 i ++ [(7, .ptr (X.length + 4) 0)]) (memL v q d (X ++ [bK x]) A) =
    some (.normal, fr66 i ++ [(7, .ptr (X.length + 4) 0), (53, .p (.bool false))], memL v q d (X ++ [bK x]) A) := by
  have e := eq_false h5
  simp [b66, cFst, cSnd, cBlk, lp66_0, code66, Tryz.f66, fr66, memL, bV, e]
theorem rest66_set0 (i : Nat) (d : D) (x : Kd) (X : List Blk) (A : List Arr) (h5 : v.k = 5) (hr : ∀ H, W 25 [.p (encK q), .p (encK x)] H = some (.ret (joinR none), H)) :
    E false ⟨0, 0⟩ 66 (cSnd (cSnd (cSnd b66))) (fr66 i ++ [(7, .ptr (X.length + 4) 0)]) (memL v q d (X ++ [bK x]) A) =
    some (.ret, [(2, .ptr 1 0), (3, .p (.bool false))], memL v kz d (X ++ [bK x]) A) := by
  have e := eq_true h5
  simp only [joinR] at hr
  simp [b66, cFst, cSnd, cBlk, lp66_0, code66, Tryz.f66, fr66, memL, bV, bK, zB, e, hr, splice, buildD, buildD.go]
theorem rest66_set (i : Nat) (d : D) (x q' : Kd) (X : List Blk) (A : List Arr) (h5 : v.k = 5) (hr : ∀ H, W 25 [.p (encK q), .p (encK x)] H = some (.ret (joinR (some q')), H)) :
    E false ⟨0, 0⟩ 66 (cSnd (cSnd (cSnd b66))) (fr66 i ++ [(7, .ptr (X.length + 4) 0)]) (memL v q d (X ++ [bK x]) A) =
    some (.normal, fr66 i ++ [(61, .p (.bool false))], memL v q' d (X ++ [bK x]) A) := by
  have e := eq_true h5
  simp only [joinR] at hr
  simp [b66, cFst, cSnd, cBlk, lp66_0, code66, Tryz.f66, fr66, memL, bV, bK, zB, e, hr, splice, buildD, buildD.go]
theorem last66a (i : Nat) (hi : i < 4611686018427387904) (a b : D) (d : D) (X : List Blk) (A : List Arr) :
    E false ⟨0, 0⟩ 66 (cSnd (cSnd lp66_0)) (fr66 i ++ [(7, a), (53, b)]) (memL v q d X A) = some (.normal, fr66 (i + 1), memL v q d X A) := by
  have hw : IntKind.i64.wrap ((i : Int) + 1) = (i : Int) + 1 := wrap64 (by omega) (by omega)
  simp [cFst, cSnd, lp66_0, code66, Tryz.f66, fr66, hw]
theorem last66b (i : Nat) (hi : i < 4611686018427387904) (b : D) (d : D) (X : List Blk) (A : List Arr) :
    E false ⟨0, 0⟩ 66 (cSnd (cSnd lp66_0)) (fr66 i ++ [(61, b)]) (memL v q d X A) = some (.normal, fr66 (i + 1), memL v q d X A) := by
  have hw : IntKind.i64.wrap ((i : Int) + 1) = (i : Int) + 1 := wrap64 (by omega) (by omega)
  simp [cFst, cSnd, lp66_0, code66, Tryz.f66, fr66, hw]
/-! A round. -/
theorem round66_no (i : Nat) (hi : i < v.ps.length) (d : D) (X : List Blk) (A : List Arr)
    (hr : ∀ H, W 66 [.p (enc v.ps[i])] H = some (.ret (joinR none), H)) :
    E false ⟨0, 0⟩ 66 lp66_0 (fr66 i) (memL v q d X A) = some (.ret, [(2, .ptr 1 0), (3, .p (.bool false))], memL v q d (X ++ [bK kz]) A) := by
  rw [E_cut (c := lp66_0) (by rfl), first66_W v q i hi d X A]
  simp only
  rw [E_cut (by rfl), b66_eq, E_block, E_cut (by rfl), reg13_66 v q i hi d X A none hr]
  simp only [Option.isSome_none, Option.getD_none]
  rw [E_cut (by rfl), no66]
theorem round66_mid (i : Nat) (hi : i < v.ps.length) (hlt : v.ps.length < 1000) (d : D) (X : List Blk) (A : List Arr) (l : List Kd) (hg : GRow A 25 5 d (l.map encK)) (hl : l.length ≤ 1000) (x : Kd)
    (hr : ∀ H, W 66 [.p (enc v.ps[i])] H = some (.ret (joinR (some x)), H)) :
    ∃ d' A', GRow A' 25 5 d' ((l ++ [x]).map encK) ∧ ∀ e F1 H1, E false ⟨0, 0⟩ 66 (cSnd (cSnd (cSnd b66))) (fr66 i ++ [(7, .ptr (X.length + 4) 0)]) (memL v q d' (X ++ [bK x]) A') = some (e, F1, H1) →
      (e = .normal → E false ⟨0, 0⟩ 66 lp66_0 (fr66 i) (memL v q d X A) = E false ⟨0, 0⟩ 66 (cSnd (cSnd lp66_0)) F1 H1) ∧ (e = .ret → E false ⟨0, 0⟩ 66 lp66_0 (fr66 i) (memL v q d X A) = some (.ret, F1, H1)) := by
  have hfit : fits 5 [encK x] = true := fitK [x]
  obtain ⟨d', A', h1, h2, h3, _⟩ := hg.app (t := 23) (by_ := 56) (ys := [encK x]) (y := .lit false [encK x]) (memL v q d (X ++ [bK x]) A).B (by simp) (by simp) (by simp) (by omega) (by omega) zok25 (by simp [srcD]) (by simp) hfit (by simp; omega)
  have hcd := hg.cell
  have hcd' := h2.cell
  refine ⟨d', A', by simpa using h2, fun e F1 H1 hE => ?_⟩
  rw [E_cut (c := lp66_0) (by rfl), first66_W v q i hi d X A]
  simp only
  rw [E_cut (by rfl), b66_eq, E_block, E_cut (by rfl), reg13_66 v q i hi d X A (some x) hr]
  simp only [Option.isSome_some, Option.getD_some]
  rw [E_cut (by rfl), yes66]
  simp only
  rw [E_cut (by rfl), reg16_66 v q i d d' x X A A' hcd hcd' h3 h1]
  simp only
  rw [hE]
  exact ⟨fun h => by subst h; rfl, fun h => by subst h; rfl⟩

def Q66 (s : Option (List Kd × Kd)) (o : CO) : Prop :=
  match s with
  | none => ∃ X A, o = (.ret, [(2, .ptr 1 0), (3, .p (.bool false))], ⟨bV v :: zB :: X, A⟩)
  | some y => ∃ d X A, o = (.exit 1, [(1, .ptr 0 0), (2, .ptr 1 0), (4, .ptr 2 0), (5, .ptr 3 0), (6, .p (.int .i64 v.ps.length)), (30, .p (.bool false))], memL v y.2 d X A) ∧ GRow A 25 5 d (y.1.map encK)
def Rec66 (n : Int) : Prop := ∀ (u : Val) (H : Hp), u.nodes < n → u.shaped = true → u.nodes ≤ 200 → W 66 [.p (enc u)] H = some (.ret (joinR (leastG Kd.join u)), H)
theorem parts_okv {v : Val} (hs : v.shaped = true) : ∀ x ∈ v.ps, x.shaped = true := by
  rw [shaped_eq, Bool.and_eq_true, List.all_eq_true] at hs
  exact hs.1
theorem ps_nodesv {v u : Val} (h : u ∈ v.ps) : u.nodes < v.nodes := by
  have := nodesL_mem v.ps u h
  have := nodes_eq v
  omega
theorem top_bV (v : Val) : (bV v).top = 0 := by simp [bV, Blk.top, D.tops, D.top]
set_option maxHeartbeats 1000000 in
theorem loop66_ok (hs : v.shaped = true) (hn : v.nodes ≤ 200) (hrec : Rec66 v.nodes) :
    ∃ o, loopO false ⟨0, 0⟩ 66 lp66_0 4 0 (fr66 0) (memL v kN (.lit true []) [] []) = some o ∧ Q66 v (leastsG Kd.join (decide (v.k = 5)) v.ps kN) o := by
  have hlen := nodesL_len v.ps
  have hne := nodes_eq v
  refine for_ex (mu := false) (hd66_0) v.ps.length (fun i F H => ∃ l q d X A, F = fr66 i ∧ H = memL v q d X A ∧ GRow A 25 5 d (l.map encK) ∧ l.length = i ∧ q.shaped = true ∧ (q.nodes : Int) + 2 * nodesL (v.ps.drop i) ≤ 1 + 2 * nodesL v.ps ∧
      leastsG Kd.join (decide (v.k = 5)) v.ps kN = (leastsG Kd.join (decide (v.k = 5)) (v.ps.drop i) q).map fun y => (l ++ y.1, y.2)) (Q66 v (leastsG Kd.join (decide (v.k = 5)) v.ps kN)) ?_ ?_
    (F := fr66 0) (H := memL v kN (.lit true []) [] []) (F0 := fr66 0) (H0 := memL v kN (.lit true []) [] []) (by simp [cutD, fr66, frNo, memL, bK, bV, oB, zB, blkNo])
      ⟨[], kN, .lit true [], [], [], rfl, rfl, .inl ⟨rfl, rfl⟩, rfl, rfl, by simp [Kd.nodes, nodesKs], by simp⟩
  · rintro F H ⟨l, q, d, X, A, rfl, rfl, h1, h3, hq, hb, h5⟩
    rw [List.drop_length, leastsG] at h5
    refine ⟨(.exit 1, [(1, .ptr 0 0), (2, .ptr 1 0), (4, .ptr 2 0), (5, .ptr 3 0), (6, .p (.int .i64 v.ps.length)), (30, .p (.bool false))], memL v q d X A), ?_, by simp, ?_⟩
    · simp [lp66_0, code66, Tryz.f66, fr66, memL, bV]
    · rw [h5]
      exact ⟨d, X, A, rfl, by simpa using h1⟩
  · rintro i F H hi ⟨l, q, d, X, A, rfl, rfl, h1, h3, hq, hb, h5⟩
    have hx := List.getElem_mem hi
    have hxn := ps_nodesv hx
    have hxs := parts_okv hs _ hx
    have hr := fun H => hrec v.ps[i] H hxn hxs (by omega)
    rw [List.drop_eq_getElem_cons hi] at h5 hb
    simp only [leastsG] at h5
    simp only [nodesL] at hb
    have hpos := nodesL_pos (v.ps.drop (i + 1))
    obtain ⟨_, hok⟩ := least_ok v.ps[i] hxs (by omega)
    cases hc : leastG Kd.join v.ps[i] with
    | none =>
      left
      rw [hc] at hr h5
      refine ⟨_, round66_no v q i hi d X A hr, by simp, ?_⟩
      rw [h5]
      exact ⟨_, A, rfl⟩
    | some x =>
      rw [hc] at hr h5
      obtain ⟨x1, x2⟩ := hok x hc
      obtain ⟨d', A', g1, g2⟩ := round66_mid v q i hi (by omega) d X A l h1 (by omega) x hr
      have go : ∀ q' F1, q'.shaped = true → (q'.nodes : Int) ≤ q.nodes + 2 * v.ps[i].nodes →
          leastsG Kd.join (decide (v.k = 5)) v.ps kN = (leastsG Kd.join (decide (v.k = 5)) (v.ps.drop (i + 1)) q').map (fun y => (l ++ [x] ++ y.1, y.2)) →
          E false ⟨0, 0⟩ 66 (cSnd (cSnd (cSnd b66))) (fr66 i ++ [(7, .ptr (X.length + 4) 0)]) (memL v q d' (X ++ [bK x]) A') = some (.normal, F1, memL v q' d' (X ++ [bK x]) A') →
          E false ⟨0, 0⟩ 66 (cSnd (cSnd lp66_0)) F1 (memL v q' d' (X ++ [bK x]) A') = some (.normal, fr66 (i + 1), memL v q' d' (X ++ [bK x]) A') →
          ∃ F1 H1, E false ⟨0, 0⟩ 66 lp66_0 (fr66 i) (memL v q d X A) = some (.normal, F1, H1) ∧ ∃ F2 H2, cutD ⟨0, 0⟩ [1, 2, 4, 5, 6] 4 0 F1 H1 = some (F2, H2) ∧ (∃ l q d X A, F2 = fr66 (i + 1) ∧ H2 = memL v q d X A ∧ GRow A 25 5 d (l.map encK) ∧ l.length = i + 1 ∧ q.shaped = true ∧ (q.nodes : Int) + 2 * nodesL (v.ps.drop (i + 1)) ≤ 1 + 2 * nodesL v.ps ∧
            leastsG Kd.join (decide (v.k = 5)) v.ps kN = (leastsG Kd.join (decide (v.k = 5)) (v.ps.drop (i + 1)) q).map fun y => (l ++ y.1, y.2)) := by
        intro q' F1 hq' hn' h6 hE hL
        refine ⟨_, _, ((g2 _ _ _ hE).1 rfl).trans hL, ?_⟩
        obtain ⟨H', c1, c2⟩ := cutD_or ⟨0, 0⟩ [1, 2, 4, 5, 6] 4 0 (fr66 (i + 1)) (memL v q' d' (X ++ [bK x]) A')
        have hnorm : norm [1, 2, 4, 5, 6] (fr66 (i + 1)) = fr66 (i + 1) := rfl
        rw [hnorm] at c1 c2
        refine ⟨_, H', c1, l ++ [x], q', d', ?_⟩
        rcases c2 with rfl | ⟨rfl, k1, k2⟩
        · exact ⟨X ++ [bK x], A', rfl, rfl, g1, by simp [h3], hq', by omega, h6⟩
        · have hnr : D.noRef 4 0 d' = true := by
            rw [List.all_eq_true] at k2
            have := k2 (oB 5 0 0 0 d') (by simp [memL])
            simpa [oB, blkNo] using this
          exact ⟨[], A'.take 0, rfl, by simp [memL], g1.cut hnr, by simp [h3], hq', by omega, h6⟩
      by_cases h8 : v.k = 5
      · simp only [decide_eq_true h8, if_true] at h5
        have hj := fun H => join25_W q x H (by omega)
        cases hqx : q.join x with
        | none =>
          left
          rw [hqx] at hj
          simp only [hqx] at h5
          have hrest := rest66_set0 v q i d' x X A' h8 hj
          refine ⟨_, (g2 _ _ _ hrest).2 rfl, by simp, ?_⟩
          simp only [decide_eq_true h8]
          rw [h5]
          exact ⟨_, A', rfl⟩
        | some q' =>
          right
          rw [hqx] at hj
          simp only [hqx] at h5
          have hrest := rest66_set v q i d' x q' X A' h8 hj
          have hn' := joinP_nodes q x q' (by rw [join_same q x hq x1]; exact hqx)
          refine go q' _ (join_shaped q x q' hq x1 hqx) (by omega) ?_ hrest (last66b v q' i (by omega) _ d' _ A')
          simp only [decide_eq_true h8]
          rw [h5]
          cases leastsG Kd.join true (v.ps.drop (i + 1)) q' <;> simp
      · right
        simp only [decide_eq_false h8, Bool.false_eq_true, if_false] at h5
        refine go q _ hq (by have := nodes_posv v.ps[i]; omega) ?_ (rest66_no v q i d' x X A' h8) (last66a v q i (by omega) _ _ d' _ A')
        simp only [decide_eq_false h8]
        rw [h5]
        cases leastsG Kd.join false (v.ps.drop (i + 1)) q <;> simp
theorem one66_W : E false ⟨0, 0⟩ 66 (cFst code66) (mkF 0 [.p (enc v)]) H00 = some (.normal, [(1, .ptr 0 0), (2, .ptr 1 0)], ⟨[bV v, zB], []⟩) := by
  simp [cFst, code66, Tryz.f66, bV, zB]
theorem two66_1 (h : v.k = 1) : E false ⟨0, 0⟩ 66 (cFst (cSnd code66)) [(1, .ptr 0 0), (2, .ptr 1 0)] ⟨[bV v, zB], []⟩ = some (.ret, [(2, .ptr 1 0), (3, .p (.bool true))], ⟨[bV v, bK (.mk 2 v.n v.n 0 [])], []⟩) := by
  have e := eq_true h
  simp [cFst, cSnd, code66, Tryz.f66, bV, zB, bK, e, int39_W, splice]
theorem two66_2 (h : v.k = 2) : E false ⟨0, 0⟩ 66 (cFst (cSnd code66)) [(1, .ptr 0 0), (2, .ptr 1 0)] ⟨[bV v, zB], []⟩ = some (.ret, [(2, .ptr 1 0), (3, .p (.bool true))], ⟨[bV v, bK (.mk 3 0 0 0 [])], []⟩) := by
  have e := eq_true h
  have e1 : (v.k = 1) = False := eq_false (by omega)
  simp [cFst, cSnd, code66, Tryz.f66, bV, zB, bK, e, e1, bool54_W, splice]
theorem two66_3 (h : v.k = 3) : E false ⟨0, 0⟩ 66 (cFst (cSnd code66)) [(1, .ptr 0 0), (2, .ptr 1 0)] ⟨[bV v, zB], []⟩ = some (.ret, [(2, .ptr 1 0), (3, .p (.bool true))], ⟨[bV v, oB 4 0 0 0 (.lit true [])], []⟩) := by
  have e := eq_true h
  have e1 : (v.k = 1) = False := eq_false (by omega)
  have e2 : (v.k = 2) = False := eq_false (by omega)
  simp [cFst, cSnd, code66, Tryz.f66, bV, zB, oB, e, e1, e2, buildD, buildD.go, splice]
theorem two66_n (h1 : v.k ≠ 1) (h2 : v.k ≠ 2) (h3 : v.k ≠ 3) : E false ⟨0, 0⟩ 66 (cFst (cSnd code66)) [(1, .ptr 0 0), (2, .ptr 1 0)] ⟨[bV v, zB], []⟩ = some (.normal, [(1, .ptr 0 0), (2, .ptr 1 0), (21, .p (.bool false))], ⟨[bV v, zB], []⟩) := by
  have n1 := eq_false h1
  have n2 := eq_false h2
  have n3 := eq_false h3
  simp [cFst, cSnd, code66, Tryz.f66, bV, n1, n2, n3]
theorem three66_W (x : D) : E false ⟨0, 0⟩ 66 (cFst (cSnd (cSnd code66))) [(1, .ptr 0 0), (2, .ptr 1 0), (21, x)] ⟨[bV v, zB], []⟩ = some (.normal, [(1, .ptr 0 0), (2, .ptr 1 0), (4, .ptr 2 0)], ⟨[bV v, zB, oB 5 0 0 0 (.lit true [])], []⟩) := by
  simp [cFst, cSnd, code66, Tryz.f66, oB, buildD, buildD.go, splice]
theorem four66_W : E false ⟨0, 0⟩ 66 (cFst (cSnd (cSnd (cSnd code66)))) [(1, .ptr 0 0), (2, .ptr 1 0), (4, .ptr 2 0)] ⟨[bV v, zB, oB 5 0 0 0 (.lit true [])], []⟩ = some (.normal, [(1, .ptr 0 0), (2, .ptr 1 0), (4, .ptr 2 0), (5, .ptr 3 0)], memL v kN (.lit true []) [] []) := by
  simp [cFst, cSnd, code66, Tryz.f66, memL, bK, none105_W, splice]
theorem five66_W (hs : v.shaped = true) (hn : v.nodes ≤ 200) (hrec : Rec66 v.nodes) :
    (leastsG Kd.join (decide (v.k = 5)) v.ps kN = none → ∃ X A, E false ⟨0, 0⟩ 66 (cFst (cSnd (cSnd (cSnd (cSnd code66))))) [(1, .ptr 0 0), (2, .ptr 1 0), (4, .ptr 2 0), (5, .ptr 3 0)] (memL v kN (.lit true []) [] []) = some (.ret, [(2, .ptr 1 0), (3, .p (.bool false))], ⟨bV v :: zB :: X, A⟩)) ∧
    ∀ y, leastsG Kd.join (decide (v.k = 5)) v.ps kN = some y → ∃ d X A F, E false ⟨0, 0⟩ 66 (cFst (cSnd (cSnd (cSnd (cSnd code66))))) [(1, .ptr 0 0), (2, .ptr 1 0), (4, .ptr 2 0), (5, .ptr 3 0)] (memL v kN (.lit true []) [] []) = some (.normal, [(1, .ptr 0 0), (2, .ptr 1 0), (4, .ptr 2 0), (5, .ptr 3 0)] ++ F, memL v y.2 d X A) ∧ GRow A 25 5 d (y.1.map encK) ∧ ∃ a b, F = [(6, a), (30, b)] := by
  obtain ⟨o, hloop, hq⟩ := loop66_ok v hs hn hrec
  have h00 : ((0 : Nat) : Int) = 0 := rfl
  simp only [lp66_0, code66, Tryz.f66, fr66, memL, h00] at hloop
  refine ⟨fun e => ?_, fun y e => ?_⟩
  · rw [e] at hq
    obtain ⟨X, A, rfl⟩ := hq
    refine ⟨X, A, ?_⟩
    simp [cFst, cSnd, code66, Tryz.f66, memL] at hloop ⊢
    simp [hloop]
  · rw [e] at hq
    obtain ⟨d, X, A, rfl, hg⟩ := hq
    refine ⟨d, X, A, [(6, .p (.int .i64 v.ps.length)), (30, .p (.bool false))], ?_, hg, _, _, rfl⟩
    simp [cFst, cSnd, code66, Tryz.f66, memL] at hloop ⊢
    simp [hloop]
theorem six66_5 (q : Kd) (d : D) (X : List Blk) (A : List Arr) (a b : D) (h : v.k = 5) : E false ⟨0, 0⟩ 66 (cFst (cSnd (cSnd (cSnd (cSnd (cSnd code66)))))) [(1, .ptr 0 0), (2, .ptr 1 0), (4, .ptr 2 0), (5, .ptr 3 0), (6, a), (30, b)] (memL v q d X A) =
    some (.ret, [(2, .ptr 1 0), (3, .p (.bool true))], ⟨bV v :: bK (.mk 6 0 0 v.ps.length [q]) :: oB 5 0 0 0 d :: bK q :: X, A⟩) := by
  have e := eq_true h
  simp [cFst, cSnd, code66, Tryz.f66, memL, bV, bK, zB, e, set53_W, splice]
theorem six66_n (q : Kd) (d : D) (X : List Blk) (A : List Arr) (a b : D) (h : v.k ≠ 5) : E false ⟨0, 0⟩ 66 (cFst (cSnd (cSnd (cSnd (cSnd (cSnd code66)))))) [(1, .ptr 0 0), (2, .ptr 1 0), (4, .ptr 2 0), (5, .ptr 3 0), (6, a), (30, b)] (memL v q d X A) =
    some (.normal, [(1, .ptr 0 0), (2, .ptr 1 0), (4, .ptr 2 0), (5, .ptr 3 0), (65, .p (.bool false))], memL v q d X A) := by
  have e := eq_false h
  simp [cFst, cSnd, code66, Tryz.f66, memL, bV, e]
theorem seven66_W (q : Kd) (d : D) (X : List Blk) (A : List Arr) (x : D) (hc : cellD d = true) : E false ⟨0, 0⟩ 66 (cSnd (cSnd (cSnd (cSnd (cSnd (cSnd code66)))))) [(1, .ptr 0 0), (2, .ptr 1 0), (4, .ptr 2 0), (5, .ptr 3 0), (65, x)] (memL v q d X A) =
    some (.ret, [(2, .ptr 1 0), (3, .p (.bool true))], ⟨bV v :: oB 5 0 0 0 d :: oB 5 0 0 0 d :: bK q :: X, A⟩) := by
  simp only [cellD] at hc
  simp [cSnd, code66, Tryz.f66, memL, oB, zB, splice, hc]
end
theorem least66_W (v : Val) (H : Hp) (hs : v.shaped = true) (hn : v.nodes ≤ 200) : W 66 [.p (enc v)] H = some (.ret (joinR (leastG Kd.join v)), H) := by
  have key : ∀ (n : Nat) (v : Val) (H : Hp), v.nodes ≤ n → v.shaped = true → v.nodes ≤ 200 → W 66 [.p (enc v)] H = some (.ret (joinR (leastG Kd.join v)), H) := by
    intro n
    induction n with
    | zero => intro v H h _ _; have := nodes_posv v; omega
    | succ n ih =>
      intro v H hn hs hb
      refine W66_of rfl (by simp) ?_
      rw [leastG_eq, E_cut (by rfl), one66_W]
      simp only
      rw [E_cut (by rfl)]
      by_cases c1 : v.k = 1
      · rw [if_pos c1, two66_1 v c1]; exact retL_k _ _ _ _ H
      rw [if_neg c1]
      by_cases c2 : v.k = 2
      · rw [if_pos c2, two66_2 v c2]; exact retL_k _ _ _ _ H
      rw [if_neg c2]
      by_cases c3 : v.k = 3
      · rw [if_pos c3, two66_3 v c3]
        have he : encK (.mk 4 0 0 0 []) = .agg [.int .i64 4, .int .i64 0, .int .i64 0, .int .i64 0, .sl []] := rfl
        simp [oB, joinR, he]
      rw [if_neg c3, two66_n v c1 c2 c3]
      simp only
      rw [E_cut (by rfl), three66_W]
      simp only
      rw [E_cut (by rfl), four66_W]
      simp only
      rw [E_cut (by rfl)]
      obtain ⟨h1, h2⟩ := five66_W v hs hb fun u H hu hs hn => ih u H (by omega) hs hn
      cases hl : leastsG Kd.join (decide (v.k = 5)) v.ps kN with
      | none =>
        obtain ⟨X, A, h5⟩ := h1 hl
        rw [h5]
        exact retL_z _ X A H
      | some y =>
        obtain ⟨d, X, A, F, h5, hg, a, b, rfl⟩ := h2 y hl
        rw [h5]
        simp only [List.cons_append, List.nil_append]
        rw [E_cut (by rfl)]
        simp only [Option.map_some]
        by_cases c5 : v.k = 5
        · rw [six66_5 v _ _ _ _ _ _ c5, if_pos c5]
          exact retL_k _ _ _ _ H
        · rw [six66_n v _ _ _ _ _ _ c5, if_neg c5]
          simp only
          rw [seven66_W v _ _ _ _ _ hg.cell]
          exact retL_row y.1 d _ A hg _ H
  exact key v.nodes.toNat v H (by have := nodes_posv v; omega) hs hn
end Go.Vi
end

section
/- layer 5: kind.least. No conditions but those that stand with each. -/
namespace Go.Vi
open Go Go.Lib Go.Proofs
set_option maxRecDepth 100000
attribute [local simp] E_skip E_ret E_exit E_text E_draw E_seq E_cond E_block E_scope E_loop runOps runOp drawR slotsOf Hp.kept_zero runDraw runVF runX runV finV gate FlOK FlOK0 wantD exec fin opd look putF norm constD constC fieldAddrD loadD storeD opCall lenD binD isShift intP strP numD indexAddrD indexD D.pd? D.pds? sub capsOf callD argsD argD D.nf unP cellD mkF H00 cD_agg cD_pagg cD_int cD_bool cD_str cD_sl cD_lit cells_int
attribute [local simp] fnOut retOut resD retsD retD oneD D.noRefs D.noRef alone Hp.cut
attribute [local simp] cells_encK encK_agg box_encK cells_enc enc_agg box_enc one_int one_str one_sl one_agg cD_own cD_ptr
attribute [local simp] newRow Hp.live one_encK one_enc

theorem joinP_shaped {a b k : Kd} (ha : a.shaped = true) (hb : b.shaped = true) (h : a.joinP b = some k) : k.shaped = true := join_shaped a b k ha hb (by rw [← join_same a b ha hb]; exact h)
theorem leastP_ok {v : Val} (hs : v.shaped = true) (hn : v.nodes ≤ 200) : leastG Kd.joinP v = leastG Kd.joinP v ∧ ∀ k, leastG Kd.joinP v = some k → k.shaped = true ∧ (k.nodes : Int) ≤ 2 * v.nodes := by
  obtain ⟨h1, h2⟩ := least_ok v hs hn
  rw [h1]
  exact ⟨rfl, h2⟩
def fq63 (v : Val) (i : Nat) (T : Fr) : Fr := (1, .ptr 0 0) :: (2, .ptr 1 0) :: (4, .ptr 2 0) :: (5, .ptr 3 0) :: (T ++ [(28, .p (.sl (v.ps.map enc))), (29, .p (.int .i64 v.ps.length)), (30, .p (.int .i64 i))])
noncomputable def b63 : Code := cBlk (cFst (cSnd (cSnd lp63_0)))
theorem b63_eq : cFst (cSnd (cSnd lp63_0)) = .block 2 b63 := by kernel_rfl
section
variable (v : Val) (q : Kd)
theorem first63_W (i : Nat) (hi : i < v.ps.length) (d : D) (X : List Blk) (A : List Arr) : E false ⟨0, 0⟩ 63 (cFst lp63_0) (fq63 v i []) (memL v q d X A) = some (.normal, fq63 v i [] ++ [(31, .p (.bool true))], memL v q d X A) := by
  simp [cFst, lp63_0, code63, Tryz.f63, fq63, memL, bV, hi]
theorem second63_W (i : Nat) (d : D) (X : List Blk) (A : List Arr) : E false ⟨0, 0⟩ 63 (cFst (cSnd lp63_0)) (fq63 v i [] ++ [(31, .p (.bool true))]) (memL v q d X A) = some (.normal, fq63 v i [] ++ [(31, .p (.bool true))], memL v q d X A) := by
  simp [cFst, cSnd, lp63_0, code63, Tryz.f63, fq63]
theorem reg12_63 (i : Nat) (hi : i < v.ps.length) (d : D) (X : List Blk) (A : List Arr) :
    E false ⟨0, 0⟩ 63 (cFst b63) (fq63 v i [] ++ [(31, .p (.bool true))]) (memL v q d X A) = some (.normal, fq63 v i [(7, .ptr (X.length + 4) 0)], memL v q d (X ++ [bV v.ps[i]]) A) := by
  simp [b63, cFst, cSnd, cBlk, lp63_0, code63, Tryz.f63, fq63, memL, bV, hi, splice]
theorem reg13_63 (i : Nat) (u : Val) (d : D) (X : List Blk) (A : List Arr) (s : Option Kd) (hr : ∀ H, W 63 [.p (enc u)] H = some (.ret (joinR s), H)) :
    E false ⟨0, 0⟩ 63 (cFst (cSnd b63)) (fq63 v i [(7, .ptr (X.length + 4) 0)]) (memL v q d (X ++ [bV u]) A) = some (.normal, fq63 v i [(8, .ptr (X.length + 5) 0), (9, .p (.bool s.isSome))], memL v q d (X ++ [bV u] ++ [bK (s.getD kz)]) A) := by
  cases s <;> simp only [joinR] at hr <;> simp [b63, cFst, cSnd, cBlk, lp63_0, code63, Tryz.f63, fq63, memL, bV, hr, splice, bK]
theorem no63 (i : Nat) (a d : D) (X : List Blk) (A : List Arr) : E false ⟨0, 0⟩ 63 (cFst (cSnd (cSnd b63))) (fq63 v i [(8, a), (9, .p (.bool false))]) (memL v q d X A) =
    some (.ret, [(2, .ptr 1 0), (3, .p (.bool false))], memL v q d X A) := by
  simp [b63, cFst, cSnd, cBlk, lp63_0, code63, Tryz.f63, fq63, memL, splice, zB, buildD, buildD.go]
theorem yes63 (i : Nat) (a d : D) (X : List Blk) (A : List Arr) : E false ⟨0, 0⟩ 63 (cFst (cSnd (cSnd b63))) (fq63 v i [(8, a), (9, .p (.bool true))]) (memL v q d X A) =
    some (.normal, fq63 v i [(8, a)] ++ [(40, .p (.bool false))], memL v q d X A) := by
  simp [b63, cFst, cSnd, cBlk, lp63_0, code63, Tryz.f63, fq63, memL]
theorem reg16_63 (i : Nat) (d d' : D) (x : Kd) (X : List Blk) (A A' : List Arr) (hc : cellD d = true) (hc' : cellD d' = true) (h3 : cellsD d' = [d'])
    (h1 : appendD Tryz.prog false (memL v q d (X ++ [bK x]) A) 23 d (.lit false [encK x]) = some (.val d' (memL v q d (X ++ [bK x]) A'))) :
    E false ⟨0, 0⟩ 63 (cFst (cSnd (cSnd (cSnd b63)))) (fq63 v i [(8, .ptr (X.length + 4) 0)] ++ [(40, .p (.bool false))]) (memL v q d (X ++ [bK x]) A) =
    some (.normal, fq63 v i [(8, .ptr (X.length + 4) 0)], memL v q d' (X ++ [bK x]) A') := by
  simp only [cellD] at hc hc'
  simp only [memL, bK, oB, bV] at h1
  simp [b63, cFst, cSnd, cBlk, lp63_0, code63, Tryz.f63, fq63, memL, bK, oB, bV, splice, buildSliceD, elsD, h1, h3, hc, hc']
theorem rest63_no (i : Nat) (d : D) (x : Kd) (X : List Blk) (A : List Arr) (h5 : v.k ≠ 5) :
    E false ⟨0, 0⟩ 63 (cSnd (cSnd (cSnd (cSnd b63)))) (fq63 v i [(8, .ptr (X.length + 4) 0)]) (memL v q d (X ++ [bK x]) A) =
    some (.normal, fq63 v i [(8, .ptr (X.length + 4) 0)] ++ [(50, .p (.bool false))], memL v q d (X ++ [bK x]) A) := by
  have e := eq_false h5
  simp [b63, cFst, cSnd, cBlk, lp63_0, code63, Tryz.f63, fq63, memL, bV, e]
theorem rest63_set0 (i : Nat) (d : D) (x : Kd) (X : List Blk) (A : List Arr) (h5 : v.k = 5) (hr : ∀ H, W 70 [.p (encK q), .p (encK x)] H = some (.ret (joinR none), H)) :
    E false ⟨0, 0⟩ 63 (cSnd (cSnd (cSnd (cSnd b63)))) (fq63 v i [(8, .ptr (X.length + 4) 0)]) (memL v q d (X ++ [bK x]) A) =
    some (.ret, [(2, .ptr 1 0), (3, .p (.bool false))], memL v kz d (X ++ [bK x]) A) := by
  have e := eq_true h5
  simp only [joinR] at hr
  simp [b63, cFst, cSnd, cBlk, lp63_0, code63, Tryz.f63, fq63, memL, bV, bK, zB, e, hr, splice, buildD, buildD.go]
theorem rest63_set (i : Nat) (d : D) (x q' : Kd) (X : List Blk) (A : List Arr) (h5 : v.k = 5) (hr : ∀ H, W 70 [.p (encK q), .p (encK x)] H = some (.ret (joinR (some q')), H)) :
    E false ⟨0, 0⟩ 63 (cSnd (cSnd (cSnd (cSnd b63)))) (fq63 v i [(8, .ptr (X.length + 4) 0)]) (memL v q d (X ++ [bK x]) A) =
    some (.normal, fq63 v i [] ++ [(58, .p (.bool false))], memL v q' d (X ++ [bK x]) A) := by
  have e := eq_true h5
  simp only [joinR] at hr
  simp [b63, cFst, cSnd, cBlk, lp63_0, code63, Tryz.f63, fq63, memL, bV, bK, zB, e, hr, splice, buildD, buildD.go]
theorem last63a (i : Nat) (hi : i < 4611686018427387904) (a b : D) (d : D) (X : List Blk) (A : List Arr) :
    E false ⟨0, 0⟩ 63 (cSnd (cSnd (cSnd lp63_0))) (fq63 v i [(8, a)] ++ [(50, b)]) (memL v q d X A) = some (.normal, fq63 v (i + 1) [], memL v q d X A) := by
  have hw : IntKind.i64.wrap ((i : Int) + 1) = (i : Int) + 1 := wrap64 (by omega) (by omega)
  simp [cFst, cSnd, lp63_0, code63, Tryz.f63, fq63, hw]
theorem last63b (i : Nat) (hi : i < 4611686018427387904) (b : D) (d : D) (X : List Blk) (A : List Arr) :
    E false ⟨0, 0⟩ 63 (cSnd (cSnd (cSnd lp63_0))) (fq63 v i [] ++ [(58, b)]) (memL v q d X A) = some (.normal, fq63 v (i + 1) [], memL v q d X A) := by
  have hw : IntKind.i64.wrap ((i : Int) + 1) = (i : Int) + 1 := wrap64 (by omega) (by omega)
  simp [cFst, cSnd, lp63_0, code63, Tryz.f63, fq63, hw]
/-! A round. -/
theorem round63_no (i : Nat) (hi : i < v.ps.length) (d : D) (X : List Blk) (A : List Arr)
    (hr : ∀ H, W 63 [.p (enc v.ps[i])] H = some (.ret (joinR none), H)) :
    E false ⟨0, 0⟩ 63 lp63_0 (fq63 v i []) (memL v q d X A) = some (.ret, [(2, .ptr 1 0), (3, .p (.bool false))], memL v q d (X ++ [bV v.ps[i]] ++ [bK kz]) A) := by
  rw [E_cut (c := lp63_0) (by rfl), first63_W v q i hi d X A]
  simp only
  rw [E_cut (by rfl), second63_W]
  simp only
  rw [E_cut (by rfl), b63_eq, E_block, E_cut (by rfl), reg12_63 v q i hi d X A]
  simp only
  rw [E_cut (by rfl), reg13_63 v q i _ d X A none hr]
  simp only [Option.isSome_none, Option.getD_none]
  rw [E_cut (by rfl), no63]
theorem round63_mid (i : Nat) (hi : i < v.ps.length) (hlt : v.ps.length < 1000) (d : D) (X : List Blk) (A : List Arr) (l : List Kd) (hg : GRow A 25 5 d (l.map encK)) (hl : l.length ≤ 1000) (x : Kd)
    (hr : ∀ H, W 63 [.p (enc v.ps[i])] H = some (.ret (joinR (some x)), H)) :
    ∃ d' A', GRow A' 25 5 d' ((l ++ [x]).map encK) ∧ ∀ e F1 H1, E false ⟨0, 0⟩ 63 (cSnd (cSnd (cSnd (cSnd b63)))) (fq63 v i [(8, .ptr (X.length + 5) 0)]) (memL v q d' (X ++ [bV v.ps[i]] ++ [bK x]) A') = some (e, F1, H1) →
      (e = .normal → E false ⟨0, 0⟩ 63 lp63_0 (fq63 v i []) (memL v q d X A) = E false ⟨0, 0⟩ 63 (cSnd (cSnd (cSnd lp63_0))) F1 H1) ∧ (e = .ret → E false ⟨0, 0⟩ 63 lp63_0 (fq63 v i []) (memL v q d X A) = some (.ret, F1, H1)) := by
  have hfit : fits 5 [encK x] = true := fitK [x]
  obtain ⟨d', A', h1, h2, h3, _⟩ := hg.app (t := 23) (by_ := 56) (ys := [encK x]) (y := .lit false [encK x]) (memL v q d (X ++ [bV v.ps[i]] ++ [bK x]) A).B (by simp) (by simp) (by simp) (by omega) (by omega) zok25 (by simp [srcD]) (by simp) hfit (by simp; omega)
  have hcd := hg.cell
  have hcd' := h2.cell
  have r16 := reg16_63 v q i d d' x (X ++ [bV v.ps[i]]) A A' hcd hcd' h3 h1
  simp only [List.length_append, List.length_cons, List.length_nil, Nat.zero_add, Nat.add_assoc, Nat.reduceAdd] at r16
  refine ⟨d', A', by simpa using h2, fun e F1 H1 hE => ?_⟩
  rw [E_cut (c := lp63_0) (by rfl), first63_W v q i hi d X A]
  simp only
  rw [E_cut (by rfl), second63_W]
  simp only
  rw [E_cut (by rfl), b63_eq, E_block, E_cut (by rfl), reg12_63 v q i hi d X A]
  simp only
  rw [E_cut (by rfl), reg13_63 v q i _ d X A (some x) hr]
  simp only [Option.isSome_some, Option.getD_some]
  rw [E_cut (by rfl), yes63]
  simp only
  rw [E_cut (by rfl), r16]
  simp only
  rw [hE]
  exact ⟨fun h => by subst h; rfl, fun h => by subst h; rfl⟩

def Q63 (s : Option (List Kd × Kd)) (o : CO) : Prop :=
  match s with
  | none => ∃ X A, o = (.ret, [(2, .ptr 1 0), (3, .p (.bool false))], ⟨bV v :: zB :: X, A⟩)
  | some y => ∃ d X A, o = (.exit 1, [(1, .ptr 0 0), (2, .ptr 1 0), (4, .ptr 2 0), (5, .ptr 3 0), (28, .p (.sl (v.ps.map enc))), (29, .p (.int .i64 v.ps.length)), (30, .p (.int .i64 v.ps.length)), (31, .p (.bool false))], memL v y.2 d X A) ∧ GRow A 25 5 d (y.1.map encK)
def Rq63 (n : Int) : Prop := ∀ (u : Val) (H : Hp), u.nodes < n → u.shaped = true → u.nodes ≤ 200 → W 63 [.p (enc u)] H = some (.ret (joinR (leastG Kd.joinP u)), H)
set_option maxHeartbeats 1000000 in
theorem lq63_ok (hs : v.shaped = true) (hn : v.nodes ≤ 200) (hrec : Rq63 v.nodes) :
    ∃ o, loopO false ⟨0, 0⟩ 63 lp63_0 4 0 (fq63 v 0 []) (memL v kN (.lit true []) [] []) = some o ∧ Q63 v (leastsG Kd.joinP (decide (v.k = 5)) v.ps kN) o := by
  have hlen := nodesL_len v.ps
  have hne := nodes_eq v
  refine for_ex (mu := false) (hd63_0) v.ps.length (fun i F H => ∃ l q d X A, F = fq63 v i [] ∧ H = memL v q d X A ∧ GRow A 25 5 d (l.map encK) ∧ l.length = i ∧ q.shaped = true ∧ (q.nodes : Int) + 2 * nodesL (v.ps.drop i) ≤ 1 + 2 * nodesL v.ps ∧
      leastsG Kd.joinP (decide (v.k = 5)) v.ps kN = (leastsG Kd.joinP (decide (v.k = 5)) (v.ps.drop i) q).map fun y => (l ++ y.1, y.2)) (Q63 v (leastsG Kd.joinP (decide (v.k = 5)) v.ps kN)) ?_ ?_
    (F := fq63 v 0 []) (H := memL v kN (.lit true []) [] []) (F0 := fq63 v 0 []) (H0 := memL v kN (.lit true []) [] []) (by simp [cutD, fq63, frNo, memL, bK, bV, oB, zB, blkNo])
      ⟨[], kN, .lit true [], [], [], rfl, rfl, .inl ⟨rfl, rfl⟩, rfl, rfl, by simp [Kd.nodes, nodesKs], by simp⟩
  · rintro F H ⟨l, q, d, X, A, rfl, rfl, h1, h3, hq, hb, h5⟩
    rw [List.drop_length, leastsG] at h5
    refine ⟨(.exit 1, [(1, .ptr 0 0), (2, .ptr 1 0), (4, .ptr 2 0), (5, .ptr 3 0), (28, .p (.sl (v.ps.map enc))), (29, .p (.int .i64 v.ps.length)), (30, .p (.int .i64 v.ps.length)), (31, .p (.bool false))], memL v q d X A), ?_, by simp, ?_⟩
    · simp [lp63_0, code63, Tryz.f63, fq63, memL, bV]
    · rw [h5]
      exact ⟨d, X, A, rfl, by simpa using h1⟩
  · rintro i F H hi ⟨l, q, d, X, A, rfl, rfl, h1, h3, hq, hb, h5⟩
    have hx := List.getElem_mem hi
    have hxn := ps_nodesv hx
    have hxs := parts_okv hs _ hx
    have hr := fun H => hrec v.ps[i] H hxn hxs (by omega)
    rw [List.drop_eq_getElem_cons hi] at h5 hb
    simp only [leastsG] at h5
    simp only [nodesL] at hb
    have hpos := nodesL_pos (v.ps.drop (i + 1))
    obtain ⟨_, hok⟩ := leastP_ok hxs (by omega)
    cases hc : leastG Kd.joinP v.ps[i] with
    | none =>
      left
      rw [hc] at hr h5
      refine ⟨_, round63_no v q i hi d X A hr, by simp, ?_⟩
      rw [h5]
      exact ⟨_, A, rfl⟩
    | some x =>
      rw [hc] at hr h5
      obtain ⟨x1, x2⟩ := hok x hc
      obtain ⟨d', A', g1, g2⟩ := round63_mid v q i hi (by omega) d X A l h1 (by omega) x hr
      have go : ∀ q' F1, q'.shaped = true → (q'.nodes : Int) ≤ q.nodes + 2 * v.ps[i].nodes →
          leastsG Kd.joinP (decide (v.k = 5)) v.ps kN = (leastsG Kd.joinP (decide (v.k = 5)) (v.ps.drop (i + 1)) q').map (fun y => (l ++ [x] ++ y.1, y.2)) →
          E false ⟨0, 0⟩ 63 (cSnd (cSnd (cSnd (cSnd b63)))) (fq63 v i [(8, .ptr (X.length + 5) 0)]) (memL v q d' (X ++ [bV v.ps[i]] ++ [bK x]) A') = some (.normal, F1, memL v q' d' (X ++ [bV v.ps[i]] ++ [bK x]) A') →
          E false ⟨0, 0⟩ 63 (cSnd (cSnd (cSnd lp63_0))) F1 (memL v q' d' (X ++ [bV v.ps[i]] ++ [bK x]) A') = some (.normal, fq63 v (i + 1) [], memL v q' d' (X ++ [bV v.ps[i]] ++ [bK x]) A') →
          ∃ F1 H1, E false ⟨0, 0⟩ 63 lp63_0 (fq63 v i []) (memL v q d X A) = some (.normal, F1, H1) ∧ ∃ F2 H2, cutD ⟨0, 0⟩ [1, 2, 4, 5, 28, 29, 30] 4 0 F1 H1 = some (F2, H2) ∧ (∃ l q d X A, F2 = fq63 v (i + 1) [] ∧ H2 = memL v q d X A ∧ GRow A 25 5 d (l.map encK) ∧ l.length = i + 1 ∧ q.shaped = true ∧ (q.nodes : Int) + 2 * nodesL (v.ps.drop (i + 1)) ≤ 1 + 2 * nodesL v.ps ∧
            leastsG Kd.joinP (decide (v.k = 5)) v.ps kN = (leastsG Kd.joinP (decide (v.k = 5)) (v.ps.drop (i + 1)) q).map fun y => (l ++ y.1, y.2)) := by
        intro q' F1 hq' hn' h6 hE hL
        refine ⟨_, _, ((g2 _ _ _ hE).1 rfl).trans hL, ?_⟩
        obtain ⟨H', c1, c2⟩ := cutD_or ⟨0, 0⟩ [1, 2, 4, 5, 28, 29, 30] 4 0 (fq63 v (i + 1) []) (memL v q' d' (X ++ [bV v.ps[i]] ++ [bK x]) A')
        have hnorm : norm [1, 2, 4, 5, 28, 29, 30] (fq63 v (i + 1) []) = fq63 v (i + 1) [] := rfl
        rw [hnorm] at c1 c2
        refine ⟨_, H', c1, l ++ [x], q', d', ?_⟩
        rcases c2 with rfl | ⟨rfl, k1, k2⟩
        · exact ⟨X ++ [bV v.ps[i]] ++ [bK x], A', rfl, rfl, g1, by simp [h3], hq', by omega, h6⟩
        · have hnr : D.noRef 4 0 d' = true := by
            rw [List.all_eq_true] at k2
            have := k2 (oB 5 0 0 0 d') (by simp [memL])
            simpa [oB, blkNo] using this
          exact ⟨[], A'.take 0, rfl, by simp [memL], g1.cut hnr, by simp [h3], hq', by omega, h6⟩
      have e5 : (X ++ [bV v.ps[i]]).length + 4 = X.length + 5 := by simp
      by_cases h8 : v.k = 5
      · simp only [decide_eq_true h8, if_true] at h5
        have hj := fun H => join70_W q x H (by omega)
        cases hqx : q.joinP x with
        | none =>
          left
          rw [hqx] at hj
          simp only [hqx] at h5
          have hrest := rest63_set0 v q i d' x (X ++ [bV v.ps[i]]) A' h8 hj
          rw [e5] at hrest
          refine ⟨_, (g2 _ _ _ hrest).2 rfl, by simp, ?_⟩
          simp only [decide_eq_true h8]
          rw [h5]
          exact ⟨_, A', rfl⟩
        | some q' =>
          right
          rw [hqx] at hj
          simp only [hqx] at h5
          have hrest := rest63_set v q i d' x q' (X ++ [bV v.ps[i]]) A' h8 hj
          rw [e5] at hrest
          have hn' := joinP_nodes q x q' hqx
          refine go q' _ (joinP_shaped hq x1 hqx) (by omega) ?_ hrest (last63b v q' i (by omega) _ d' _ A')
          simp only [decide_eq_true h8]
          rw [h5]
          cases leastsG Kd.joinP true (v.ps.drop (i + 1)) q' <;> simp
      · right
        have hrest := rest63_no v q i d' x (X ++ [bV v.ps[i]]) A' h8
        rw [e5] at hrest
        simp only [decide_eq_false h8, Bool.false_eq_true, if_false] at h5
        refine go q _ hq (by have := nodes_posv v.ps[i]; omega) ?_ hrest (last63a v q i (by omega) _ _ d' _ A')
        simp only [decide_eq_false h8]
        rw [h5]
        cases leastsG Kd.joinP false (v.ps.drop (i + 1)) q <;> simp
theorem one63_W : E false ⟨0, 0⟩ 63 (cFst code63) (mkF 0 [.p (enc v)]) H00 = some (.normal, [(1, .ptr 0 0), (2, .ptr 1 0)], ⟨[bV v, zB], []⟩) := by
  simp [cFst, code63, Tryz.f63, bV, zB]
theorem two63_1 (h : v.k = 1) : E false ⟨0, 0⟩ 63 (cFst (cSnd code63)) [(1, .ptr 0 0), (2, .ptr 1 0)] ⟨[bV v, zB], []⟩ = some (.ret, [(2, .ptr 1 0), (3, .p (.bool true))], ⟨[bV v, bK (.mk 2 v.n v.n 0 [])], []⟩) := by
  have e := eq_true h
  simp [cFst, cSnd, code63, Tryz.f63, bV, zB, bK, e, whole98_W, splice]
theorem two63_2 (h : v.k = 2) : E false ⟨0, 0⟩ 63 (cFst (cSnd code63)) [(1, .ptr 0 0), (2, .ptr 1 0)] ⟨[bV v, zB], []⟩ = some (.ret, [(2, .ptr 1 0), (3, .p (.bool true))], ⟨[bV v, bK (.mk 3 0 0 0 [])], []⟩) := by
  have e := eq_true h
  have e1 : (v.k = 1) = False := eq_false (by omega)
  simp [cFst, cSnd, code63, Tryz.f63, bV, zB, bK, e, e1, truth99_W, splice]
theorem two63_3 (h : v.k = 3) : E false ⟨0, 0⟩ 63 (cFst (cSnd code63)) [(1, .ptr 0 0), (2, .ptr 1 0)] ⟨[bV v, zB], []⟩ = some (.ret, [(2, .ptr 1 0), (3, .p (.bool true))], ⟨[bV v, oB 4 0 0 0 (.lit true [])], []⟩) := by
  have e := eq_true h
  have e1 : (v.k = 1) = False := eq_false (by omega)
  have e2 : (v.k = 2) = False := eq_false (by omega)
  simp [cFst, cSnd, code63, Tryz.f63, bV, zB, oB, e, e1, e2, buildD, buildD.go, splice]
theorem two63_n (h1 : v.k ≠ 1) (h2 : v.k ≠ 2) (h3 : v.k ≠ 3) : E false ⟨0, 0⟩ 63 (cFst (cSnd code63)) [(1, .ptr 0 0), (2, .ptr 1 0)] ⟨[bV v, zB], []⟩ = some (.normal, [(1, .ptr 0 0), (2, .ptr 1 0), (22, .p (.bool false))], ⟨[bV v, zB], []⟩) := by
  have n1 := eq_false h1
  have n2 := eq_false h2
  have n3 := eq_false h3
  simp [cFst, cSnd, code63, Tryz.f63, bV, n1, n2, n3]
theorem three63_W (x : D) : E false ⟨0, 0⟩ 63 (cFst (cSnd (cSnd code63))) [(1, .ptr 0 0), (2, .ptr 1 0), (22, x)] ⟨[bV v, zB], []⟩ = some (.normal, [(1, .ptr 0 0), (2, .ptr 1 0), (4, .ptr 2 0)], ⟨[bV v, zB, oB 5 0 0 0 (.lit true [])], []⟩) := by
  simp [cFst, cSnd, code63, Tryz.f63, oB, buildD, buildD.go, splice]
theorem four63_W : E false ⟨0, 0⟩ 63 (cFst (cSnd (cSnd (cSnd code63)))) [(1, .ptr 0 0), (2, .ptr 1 0), (4, .ptr 2 0)] ⟨[bV v, zB, oB 5 0 0 0 (.lit true [])], []⟩ = some (.normal, [(1, .ptr 0 0), (2, .ptr 1 0), (4, .ptr 2 0), (5, .ptr 3 0)], memL v kN (.lit true []) [] []) := by
  simp [cFst, cSnd, code63, Tryz.f63, memL, bK, none100_W, splice]
theorem five63_W (hs : v.shaped = true) (hn : v.nodes ≤ 200) (hrec : Rq63 v.nodes) :
    (leastsG Kd.joinP (decide (v.k = 5)) v.ps kN = none → ∃ X A, E false ⟨0, 0⟩ 63 (cFst (cSnd (cSnd (cSnd (cSnd code63))))) [(1, .ptr 0 0), (2, .ptr 1 0), (4, .ptr 2 0), (5, .ptr 3 0)] (memL v kN (.lit true []) [] []) = some (.ret, [(2, .ptr 1 0), (3, .p (.bool false))], ⟨bV v :: zB :: X, A⟩)) ∧
    ∀ y, leastsG Kd.joinP (decide (v.k = 5)) v.ps kN = some y → ∃ d X A F, E false ⟨0, 0⟩ 63 (cFst (cSnd (cSnd (cSnd (cSnd code63))))) [(1, .ptr 0 0), (2, .ptr 1 0), (4, .ptr 2 0), (5, .ptr 3 0)] (memL v kN (.lit true []) [] []) = some (.normal, [(1, .ptr 0 0), (2, .ptr 1 0), (4, .ptr 2 0), (5, .ptr 3 0)] ++ F, memL v y.2 d X A) ∧ GRow A 25 5 d (y.1.map encK) ∧ ∃ a b c e', F = [(28, a), (29, b), (30, c), (31, e')] := by
  obtain ⟨o, hloop, hq⟩ := lq63_ok v hs hn hrec
  have h00 : ((0 : Nat) : Int) = 0 := rfl
  simp only [lp63_0, code63, Tryz.f63, fq63, memL, h00] at hloop
  refine ⟨fun e => ?_, fun y e => ?_⟩
  · rw [e] at hq
    obtain ⟨X, A, rfl⟩ := hq
    refine ⟨X, A, ?_⟩
    simp [cFst, cSnd, code63, Tryz.f63, memL, bV] at hloop ⊢
    simp [hloop]
  · rw [e] at hq
    obtain ⟨d, X, A, rfl, hg⟩ := hq
    refine ⟨d, X, A, [(28, .p (.sl (v.ps.map enc))), (29, .p (.int .i64 v.ps.length)), (30, .p (.int .i64 v.ps.length)), (31, .p (.bool false))], ?_, hg, _, _, _, _, rfl⟩
    simp [cFst, cSnd, code63, Tryz.f63, memL, bV] at hloop ⊢
    simp [hloop]
theorem six63_5 (q : Kd) (d : D) (X : List Blk) (A : List Arr) (a b c e' : D) (h : v.k = 5) : E false ⟨0, 0⟩ 63 (cFst (cSnd (cSnd (cSnd (cSnd (cSnd code63)))))) [(1, .ptr 0 0), (2, .ptr 1 0), (4, .ptr 2 0), (5, .ptr 3 0), (28, a), (29, b), (30, c), (31, e')] (memL v q d X A) =
    some (.ret, [(2, .ptr 1 0), (3, .p (.bool true))], ⟨bV v :: bK (.mk 6 0 0 v.ps.length [q]) :: oB 5 0 0 0 d :: bK q :: X, A⟩) := by
  have e := eq_true h
  simp [cFst, cSnd, code63, Tryz.f63, memL, bV, bK, zB, e, setOf101_W, splice]
theorem six63_n (q : Kd) (d : D) (X : List Blk) (A : List Arr) (a b c e' : D) (h : v.k ≠ 5) : E false ⟨0, 0⟩ 63 (cFst (cSnd (cSnd (cSnd (cSnd (cSnd code63)))))) [(1, .ptr 0 0), (2, .ptr 1 0), (4, .ptr 2 0), (5, .ptr 3 0), (28, a), (29, b), (30, c), (31, e')] (memL v q d X A) =
    some (.normal, [(1, .ptr 0 0), (2, .ptr 1 0), (4, .ptr 2 0), (5, .ptr 3 0), (63, .p (.bool false))], memL v q d X A) := by
  have e := eq_false h
  simp [cFst, cSnd, code63, Tryz.f63, memL, bV, e]
theorem seven63_W (q : Kd) (d : D) (X : List Blk) (A : List Arr) (x : D) (hc : cellD d = true) : E false ⟨0, 0⟩ 63 (cSnd (cSnd (cSnd (cSnd (cSnd (cSnd code63)))))) [(1, .ptr 0 0), (2, .ptr 1 0), (4, .ptr 2 0), (5, .ptr 3 0), (63, x)] (memL v q d X A) =
    some (.ret, [(2, .ptr 1 0), (3, .p (.bool true))], ⟨bV v :: oB 5 0 0 0 d :: oB 5 0 0 0 d :: bK q :: X, A⟩) := by
  simp only [cellD] at hc
  simp [cSnd, code63, Tryz.f63, memL, oB, zB, splice, hc]
end
theorem least63_W (v : Val) (H : Hp) (hs : v.shaped = true) (hn : v.nodes ≤ 200) : W 63 [.p (enc v)] H = some (.ret (joinR (leastG Kd.joinP v)), H) := by
  have key : ∀ (n : Nat) (v : Val) (H : Hp), v.nodes ≤ n → v.shaped = true → v.nodes ≤ 200 → W 63 [.p (enc v)] H = some (.ret (joinR (leastG Kd.joinP v)), H) := by
    intro n
    induction n with
    | zero => intro v H h _ _; have := nodes_posv v; omega
    | succ n ih =>
      intro v H hn hs hb
      refine W63_of rfl (by simp) ?_
      rw [leastG_eq, E_cut (by rfl), one63_W]
      simp only
      rw [E_cut (by rfl)]
      by_cases c1 : v.k = 1
      · rw [if_pos c1, two63_1 v c1]; exact retL_k _ _ _ _ H
      rw [if_neg c1]
      by_cases c2 : v.k = 2
      · rw [if_pos c2, two63_2 v c2]; exact retL_k _ _ _ _ H
      rw [if_neg c2]
      by_cases c3 : v.k = 3
      · rw [if_pos c3, two63_3 v c3]
        have he : encK (.mk 4 0 0 0 []) = .agg [.int .i64 4, .int .i64 0, .int .i64 0, .int .i64 0, .sl []] := rfl
        simp [oB, joinR, he]
      rw [if_neg c3, two63_n v c1 c2 c3]
      simp only
      rw [E_cut (by rfl), three63_W]
      simp only
      rw [E_cut (by rfl), four63_W]
      simp only
      rw [E_cut (by rfl)]
      obtain ⟨h1, h2⟩ := five63_W v hs hb fun u H hu hs hn => ih u H (by omega) hs hn
      cases hl : leastsG Kd.joinP (decide (v.k = 5)) v.ps kN with
      | none =>
        obtain ⟨X, A, h5⟩ := h1 hl
        rw [h5]
        exact retL_z _ X A H
      | some y =>
        obtain ⟨d, X, A, F, h5, hg, a, b, c, e', rfl⟩ := h2 y hl
        rw [h5]
        simp only [List.cons_append, List.nil_append]
        rw [E_cut (by rfl)]
        simp only [Option.map_some]
        by_cases c5 : v.k = 5
        · rw [six63_5 v _ _ _ _ _ _ _ _ c5, if_pos c5]
          exact retL_k _ _ _ _ H
        · rw [six63_n v _ _ _ _ _ _ _ _ c5, if_neg c5]
          simp only
          rw [seven63_W v _ _ _ _ _ hg.cell]
          exact retL_row y.1 d _ A hg _ H
  exact key v.nodes.toNat v H (by have := nodes_posv v; omega) hs hn
end Go.Vi
end

section
/- layer 5: kind.Least, swardref05.Least. No conditions but those that stand with each. -/
namespace Go.Vi
open Go Go.Lib Go.Proofs
set_option maxRecDepth 100000
attribute [local simp] E_skip E_ret E_exit E_text E_draw E_seq E_cond E_block E_scope E_loop runOps runOp drawR slotsOf Hp.kept_zero runDraw runVF runX runV finV gate FlOK FlOK0 wantD exec fin opd look putF norm constD constC fieldAddrD loadD storeD opCall lenD binD isShift intP strP numD indexAddrD indexD D.pd? D.pds? sub capsOf callD argsD argD D.nf unP cellD mkF H00 cD_agg cD_pagg cD_int cD_bool cD_str cD_sl cD_lit cells_int
attribute [local simp] fnOut retOut resD retsD retD oneD D.noRefs D.noRef alone Hp.cut
attribute [local simp] cells_encK encK_agg box_encK cells_enc enc_agg box_enc one_int one_str one_sl one_agg cD_own cD_ptr
attribute [local simp] newRow Hp.live one_encK one_enc

def leastK (v : Val) : Option Kd := leastG Kd.join v
/-- What kind.Least says. -/
def leastE (v : Val) : D := if v.valid = true then (match leastK v with | some k => if k.valid = true then .tup [.p (encK k), .p (.int .i64 0)] else .tup [.p (encK kz), .p (.int .i64 5)] | none => .tup [.p (encK kz), .p (.int .i64 5)]) else .tup [.p (encK kz), .p (.int .i64 2)]
theorem valid_okv {v : Val} (h : v.valid = true) : v.shaped = true ∧ v.nodes ≤ 200 := by
  rw [valid_iff] at h
  exact ⟨h.2, h.1.1⟩
section
variable (v : Val)
theorem least16_1 (h : v.valid = false) (H : Hp) : W 16 [.p (enc v)] H = some (.ret (.tup [.p (encK kz), .p (.int .i64 2)]), H) := by
  refine W16_of rfl (by simp) ?_
  have h61 := fun H => check29_W v H
  rw [h] at h61
  simp [code16, Tryz.f16, h61, buildD, buildD.go, splice, encK, encKs]
theorem least16_2 (h : v.valid = true) (hl : leastK v = none) (H : Hp) : W 16 [.p (enc v)] H = some (.ret (.tup [.p (encK kz), .p (.int .i64 5)]), H) := by
  refine W16_of rfl (by simp) ?_
  have h61 := fun H => check29_W v H
  obtain ⟨hs, hn⟩ := valid_okv h
  have h63 := fun H => least63_W v H hs hn
  rw [(least_ok v hs hn).1, show leastG Kd.join v = none from hl] at h63
  simp only [joinR] at h63
  simp [code16, Tryz.f16, h, h61, h63, buildD, buildD.go, splice, encK, encKs]
theorem least16_3 (h : v.valid = true) (k : Kd) (hl : leastK v = some k) (hk : k.valid = false) (H : Hp) : W 16 [.p (enc v)] H = some (.ret (.tup [.p (encK kz), .p (.int .i64 5)]), H) := by
  refine W16_of rfl (by simp) ?_
  have h61 := fun H => check29_W v H
  obtain ⟨hs, hn⟩ := valid_okv h
  have h63 := fun H => least63_W v H hs hn
  obtain ⟨h1, h2⟩ := least_ok v hs hn
  obtain ⟨k1, k2⟩ := h2 k hl
  rw [h1, show leastG Kd.join v = some k from hl] at h63
  simp only [joinR] at h63
  have h60 := fun H => valid60_W k H (by omega)
  simp [code16, Tryz.f16, h, h61, h63, h60, hk, buildD, buildD.go, splice, encK, encKs]
theorem least16_4 (h : v.valid = true) (k : Kd) (hl : leastK v = some k) (hk : k.valid = true) (H : Hp) : W 16 [.p (enc v)] H = some (.ret (.tup [.p (encK k), .p (.int .i64 0)]), H) := by
  refine W16_of rfl (by simp) ?_
  have h61 := fun H => check29_W v H
  obtain ⟨hs, hn⟩ := valid_okv h
  have h63 := fun H => least63_W v H hs hn
  obtain ⟨h1, h2⟩ := least_ok v hs hn
  obtain ⟨k1, k2⟩ := h2 k hl
  rw [h1, show leastG Kd.join v = some k from hl] at h63
  simp only [joinR] at h63
  have h60 := fun H => valid60_W k H (by omega)
  have h64 := fun H => copied64_W k H (by omega)
  simp [code16, Tryz.f16, h, h61, h63, h60, h64, hk, buildD, buildD.go, splice]
theorem least16_W (H : Hp) : W 16 [.p (enc v)] H = some (.ret (leastE v), H) := by
  unfold leastE
  cases h : v.valid with
  | false => exact least16_1 v h H
  | true =>
    simp only [if_true]
    cases hl : leastK v with
    | none => exact least16_2 v h hl H
    | some k =>
      cases hk : k.valid with
      | false => simpa [hk] using least16_3 v h k hl hk H
      | true => simpa [hk] using least16_4 v h k hl hk H
/-- What the reference says. -/
def leastV (v : Val) : Option Kd := (leastK v).bind fun k => if k.valid = true then some k else none
theorem least19_W (h : v.valid = true) (H : Hp) : W 19 [.p (enc v)] H = some (.ret (joinR (leastV v)), H) := by
  refine W19_of rfl (by simp) ?_
  obtain ⟨hs, hn⟩ := valid_okv h
  have h66 := fun H => least66_W v H hs hn
  obtain ⟨h1, h2⟩ := least_ok v hs hn
  unfold leastV
  cases hl : leastK v with
  | none =>
    rw [show leastG Kd.join v = none from hl] at h66
    simp only [joinR] at h66
    simp [code19, Tryz.f19, h66, joinR, buildD, buildD.go, splice, encK, encKs]
  | some k =>
    obtain ⟨k1, k2⟩ := h2 k hl
    rw [show leastG Kd.join v = some k from hl] at h66
    simp only [joinR] at h66
    have h21 := fun H => valid21_W k H
    cases hk : k.valid with
    | false => simp [code19, Tryz.f19, h66, h21, hk, joinR, buildD, buildD.go, splice, encK, encKs]
    | true => simp [code19, Tryz.f19, h66, h21, hk, joinR, buildD, buildD.go, splice]
end
end Go.Vi
end
