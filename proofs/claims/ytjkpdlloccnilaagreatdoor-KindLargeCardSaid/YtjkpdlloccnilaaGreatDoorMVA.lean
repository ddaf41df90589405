/- It is proved here what functions of the program's layer 5 and of its specification compute; conditions stand with each. Values, the first part. -/
import Derived.Test.YtjkpdlloccnilaaGreatDoorMG
set_option linter.unusedVariables false
set_option linter.unusedSimpArgs false

section
/- Vi: ref.Weigh (f63). No conditions. -/
namespace Go.Vi
open Go Go.Lib Go.Proofs
set_option maxRecDepth 100000

mutual
def Val.weigh : Val → Int → Int → Int
  | .mk _ _ _ ps, l, d => if l < 1 ∨ d < 1 then -1 else weighs ps (l - 1) (d - 1)
def weighs : List Val → Int → Int → Int
  | [], l, _ => l
  | v :: r, l, d => if 0 ≤ l then weighs r (v.weigh l d) d else l
end

theorem weigh_eq (v : Val) (l d : Int) : v.weigh l d = if l < 1 ∨ d < 1 then -1 else weighs v.ps (l - 1) (d - 1) := by
  obtain ⟨k, n, t, ps⟩ := v; simp [Val.weigh, Val.ps]

mutual
theorem weigh_le : ∀ (v : Val) (l d : Int), 0 ≤ l → v.weigh l d ≤ l - 1 ∧ -1 ≤ v.weigh l d
  | .mk k n t ps, l, d, h => by
    simp only [Val.weigh]
    split
    · omega
    · have := weighs_le ps (l - 1) (d - 1) (by omega); omega
theorem weighs_le : ∀ (ps : List Val) (l d : Int), -1 ≤ l → weighs ps l d ≤ l ∧ -1 ≤ weighs ps l d
  | [], l, d, h => by simp only [weighs]; omega
  | v :: r, l, d, h => by
    simp only [weighs]
    split
    · rename_i h0
      have h1 := weigh_le v l d h0
      have h2 := weighs_le r (v.weigh l d) d h1.2
      omega
    · omega
end

def st1 (v : Val) : Hp := ⟨[.cells [.p (.int .i64 v.k), .p (.int .i64 v.n), .p (.str v.t), .p (.sl (v.ps.map enc))]], []⟩
def fr63 (i : Nat) (l d : Int) : Fr := [(1, .p (.int .i64 l)), (2, .p (.int .i64 d)), (3, .ptr 0 0), (7, .p (.int .i64 i))]

theorem body63_end (v : Val) (i : Nat) (l d : Int) (h : ¬ (i < v.ps.length ∧ 0 ≤ l)) :
    E false ⟨0, 0⟩ 50 lp50_0 (fr63 i l d) (st1 v) = some (.exit 0, [(1, .p (.int .i64 l)), (2, .p (.int .i64 d)), (3, .ptr 0 0), (7, .p (.int .i64 i)), (24, .p (.bool false))], st1 v) := by
  by_cases hlt : i < v.ps.length
  · have hl : ¬ 0 ≤ l := fun h2 => h ⟨hlt, h2⟩
    simp [E_skip, E_ret, E_exit, E_text, E_seq, E_cond, E_block, E_loop, fr63, lp50_0, code50, Tryz.f50, runOps, runOp, wantD, exec, fin, opd, look, putF, norm, constD, constC, st1, fieldAddrD, loadD, opCall, lenD, binD, isShift, intP, hlt, hl]
  · simp [E_skip, E_ret, E_exit, E_text, E_seq, E_cond, E_block, E_loop, fr63, lp50_0, code50, Tryz.f50, runOps, runOp, wantD, exec, fin, opd, look, putF, norm, constD, constC, st1, fieldAddrD, loadD, opCall, lenD, binD, isShift, intP, hlt]

theorem body63_step (v : Val) (i : Nat) (l d : Int) (hlt : i < v.ps.length) (hl : 0 ≤ l) (hi : i < 9223372036854775807) (hd : 1 ≤ d) (hd2 : d < 9223372036854775807) (r : Int)
    (hr : ∀ H, W 50 [.p (enc v.ps[i]), .p (.int .i64 l), .p (.int .i64 (d - 1))] H = some (.ret (.p (.int .i64 r)), H)) :
    E false ⟨0, 0⟩ 50 lp50_0 (fr63 i l d) (st1 v) = some (.normal, fr63 (i + 1) r d, st1 v) := by
  have hw : IntKind.i64.wrap ((i : Int) + 1) = (i : Int) + 1 := wrap64 (by omega) (by omega)
  have hw2 : IntKind.i64.wrap (d - 1) = d - 1 := wrap64 (by omega) (by omega)
  simp [E_skip, E_ret, E_exit, E_text, E_seq, E_cond, E_block, E_loop, fr63, lp50_0, code50, Tryz.f50, runOps, runOp, wantD, exec, fin, opd, look, putF, norm, constD, constC, st1, fieldAddrD, loadD, opCall, lenD, binD, isShift, intP, hlt,
        numD, indexAddrD, D.pd?, cells_enc, sub, capsOf, callD, argsD, argD, D.nf, enc_agg, hr, unP, hw, hw2, hl]

theorem cut63 (v : Val) (i : Nat) (l d : Int) (F : Fr) (hF : norm [1, 2, 3, 7] F = fr63 i l d) : cutD ⟨0, 0⟩ [1, 2, 3, 7] 1 0 F (st1 v) = some (fr63 i l d, st1 v) := by
  simp [cutD, hF, fr63, frNo, st1, blkNo, D.noRef, D.noRefs, Hp.cut]

/-- What is known of calls of less depth. -/
def Rec63 (d : Int) : Prop := ∀ (u : Val) (l : Int) (H : Hp), 0 ≤ l → l < 4611686018427387904 → W 50 [.p (enc u), .p (.int .i64 l), .p (.int .i64 d)] H = some (.ret (.p (.int .i64 (u.weigh l d))), H)

theorem loop63_ok (v : Val) (d : Int) (hd : 1 ≤ d) (hd2 : d < 4611686018427387904) (hrec : Rec63 (d - 1)) : ∀ (m i : Nat) (l : Int) (F : Fr), m = v.ps.length - i → i ≤ v.ps.length → -1 ≤ l → (i : Int) + l < 4611686018427387904 →
    norm [1, 2, 3, 7] F = fr63 i l d →
    ∃ k b, loopO false ⟨0, 0⟩ 50 lp50_0 1 0 F (st1 v) = some (.exit 0, [(1, .p (.int .i64 (weighs (v.ps.drop i) l (d - 1)))), (2, .p (.int .i64 d)), (3, .ptr 0 0), (7, k), (24, b)], st1 v) := by
  intro m
  induction m with
  | zero =>
    intro i l F hm hi hl hb hF
    have hie : i = v.ps.length := by omega
    refine ⟨.p (.int .i64 i), .p (.bool false), ?_⟩
    rw [show weighs (v.ps.drop i) l (d - 1) = l by rw [hie, List.drop_length, weighs], loopO_eq, hd50_0, cut63 v _ _ _ F hF]
    simp only [body63_end v i l d (by omega)]
  | succ m ih =>
    intro i l F hm hi hl hb hF
    have hlt : i < v.ps.length := by omega
    rw [loopO_eq, hd50_0, cut63 v _ _ _ F hF, List.drop_eq_getElem_cons hlt, weighs]
    by_cases h0 : 0 ≤ l
    · have hw := weigh_le v.ps[i] l (d - 1) h0
      simp only [body63_step v i l d hlt h0 (by omega) hd (by omega) _ (fun H => hrec v.ps[i] l H h0 (by omega)), if_pos h0]
      exact ih (i + 1) _ (fr63 (i + 1) _ d) (by omega) (by omega) (by omega) (by omega) rfl
    · refine ⟨.p (.int .i64 i), .p (.bool false), ?_⟩
      simp only [body63_end v i l d (by omega), if_neg h0]

theorem weigh_step (v : Val) (l d : Int) (h0 : 0 ≤ l) (hl : l < 4611686018427387904) (hd2 : d < 4611686018427387904) (hrec : 1 ≤ d → Rec63 (d - 1)) (H : Hp) :
    W 50 [.p (enc v), .p (.int .i64 l), .p (.int .i64 d)] H = some (.ret (.p (.int .i64 (v.weigh l d))), H) := by
  refine W50_of rfl (by simp) ?_
  rw [weigh_eq]
  have fin1 : ∀ x : Int, alone H (fnOut Tryz.prog [.tmp 6] 0 0 (some (.ret, [(6, .p (.int .i64 x))], st1 v))) = some (.ret (.p (.int .i64 x)), H) := fun x => by
    simp [fnOut, retOut, resD, look, retsD, retD, argD, D.nf, D.pd?, oneD, D.noRefs, D.noRef, alone, Hp.cut]
  by_cases h1 : l < 1
  · have key : E false ⟨0, 0⟩ 50 code50 (mkF 0 [.p (enc v), .p (.int .i64 l), .p (.int .i64 d)]) H00 = some (.ret, [(6, .p (.int .i64 (-1)))], st1 v) := by
      simp [E_skip, E_ret, E_exit, E_text, E_seq, E_cond, E_block, E_loop, code50, Tryz.f50, mkF, H00, runOps, runOp, wantD, exec, fin, opd, look, putF, norm, constD, constC, box_enc, cellD, st1, binD, isShift, intP, h1]
    rw [key, fin1, if_pos (.inl h1)]
  · by_cases h2 : d < 1
    · have key : E false ⟨0, 0⟩ 50 code50 (mkF 0 [.p (enc v), .p (.int .i64 l), .p (.int .i64 d)]) H00 = some (.ret, [(6, .p (.int .i64 (-1)))], st1 v) := by
        simp [E_skip, E_ret, E_exit, E_text, E_seq, E_cond, E_block, E_loop, code50, Tryz.f50, mkF, H00, runOps, runOp, wantD, exec, fin, opd, look, putF, norm, constD, constC, box_enc, cellD, st1, binD, isShift, intP, h1, h2]
      rw [key, fin1, if_pos (.inr h2)]
    · have hw : IntKind.i64.wrap (l - 1) = l - 1 := wrap64 (by omega) (by omega)
      obtain ⟨k, b, hloop⟩ := loop63_ok v d (by omega) hd2 (hrec (by omega)) v.ps.length 0 (l - 1) (fr63 0 (l - 1) d) rfl (Nat.zero_le _) (by omega) (by omega) rfl
      have key : E false ⟨0, 0⟩ 50 code50 (mkF 0 [.p (enc v), .p (.int .i64 l), .p (.int .i64 d)]) H00 = some (.ret, [(6, .p (.int .i64 (weighs v.ps (l - 1) (d - 1))))], st1 v) := by
        have h00 : ((0 : Nat) : Int) = 0 := rfl
        simp only [lp50_0, code50, Tryz.f50, fr63, st1, h00, List.drop_zero] at hloop
        simp [E_skip, E_ret, E_exit, E_text, E_seq, E_cond, E_block, E_loop, code50, Tryz.f50, mkF, H00, runOps, runOp, wantD, exec, fin, opd, look, putF, norm, constD, constC, box_enc, cellD, st1, binD, isShift, intP, h1, h2, hw, hloop]
      rw [key, fin1, if_neg (by omega)]

theorem weigh_W : ∀ (n : Nat) (d : Int), d ≤ n → d < 4611686018427387904 → Rec63 d := by
  intro n
  induction n with
  | zero => intro d hn hd u l H h0 hl; exact weigh_step u l d h0 hl hd (fun h => absurd h (by omega)) H
  | succ n ih => intro d hn hd u l H h0 hl; exact weigh_step u l d h0 hl hd (fun _ => ih (d - 1) (by omega) (by omega)) H
end Go.Vi
end

section
/- Vi: ref.brief (f64). No conditions. -/
namespace Go.Vi
open Go Go.Lib Go.Proofs
set_option maxRecDepth 100000

mutual
def Val.brief : Val → Bool
  | .mk _ _ t ps => briefs ps && decide (t.size ≤ 30)
def briefs : List Val → Bool
  | [] => true
  | v :: r => Val.brief v && briefs r
end

def fr64v (i : Nat) : Fr := [(1, .ptr 0 0), (3, .p (.int .i64 i))]

theorem body64_end (v : Val) : E false ⟨0, 0⟩ 51 lp51_0 (fr64v v.ps.length) (st1 v) = some (.exit 0, [(1, .ptr 0 0), (3, .p (.int .i64 v.ps.length)), (8, .p (.bool false))], st1 v) := by
  simp [E_skip, E_ret, E_exit, E_text, E_seq, E_cond, E_block, E_loop, fr64v, lp51_0, code51, Tryz.f51, runOps, runOp, wantD, exec, fin, opd, look, putF, norm, constD, constC, st1, fieldAddrD, loadD, opCall, lenD, binD, isShift, intP]

theorem body64_step (v : Val) (i : Nat) (hlt : i < v.ps.length) (hlen : v.ps.length < 9223372036854775807) (b : Bool)
    (hr : ∀ H, W 51 [.p (enc v.ps[i])] H = some (.ret (.p (.bool b)), H)) :
    E false ⟨0, 0⟩ 51 lp51_0 (fr64v i) (st1 v) = if b = true then some (.normal, fr64v (i + 1), st1 v) else some (.ret, [(2, .p (.bool false))], st1 v) := by
  have hw : IntKind.i64.wrap ((i : Int) + 1) = (i : Int) + 1 := wrap64 (by omega) (by omega)
  cases b <;>
  simp [E_skip, E_ret, E_exit, E_text, E_seq, E_cond, E_block, E_loop, fr64v, lp51_0, code51, Tryz.f51, runOps, runOp, wantD, exec, fin, opd, look, putF, norm, constD, constC, st1, fieldAddrD, loadD, opCall, lenD, binD, isShift, intP, hlt,
        numD, indexAddrD, D.pd?, cells_enc, sub, capsOf, callD, argsD, argD, D.nf, enc_agg, hr, unP, hw]

theorem cut64 (v : Val) (i : Nat) (F : Fr) (hF : norm [1, 3] F = fr64v i) : cutD ⟨0, 0⟩ [1, 3] 1 0 F (st1 v) = some (fr64v i, st1 v) := by
  simp [cutD, hF, fr64v, frNo, st1, blkNo, D.noRef, D.noRefs, Hp.cut]

theorem loop64_okv (v : Val) (hlen : v.ps.length < 9223372036854775807) (hrec : ∀ u ∈ v.ps, ∀ H, W 51 [.p (enc u)] H = some (.ret (.p (.bool u.brief)), H)) : ∀ (m i : Nat) (F : Fr), m = v.ps.length - i → i ≤ v.ps.length →
    norm [1, 3] F = fr64v i →
    loopO false ⟨0, 0⟩ 51 lp51_0 1 0 F (st1 v) =
      if (v.ps.drop i).all Val.brief = true then some (.exit 0, [(1, .ptr 0 0), (3, .p (.int .i64 v.ps.length)), (8, .p (.bool false))], st1 v) else some (.ret, [(2, .p (.bool false))], st1 v) := by
  intro m
  induction m with
  | zero =>
    intro i F hm hi hF
    have hie : i = v.ps.length := by omega
    subst hie
    rw [loopO_eq, hd51_0, cut64 v _ F hF]
    simp only [body64_end]
    simp
  | succ m ih =>
    intro i F hm hi hF
    have hlt : i < v.ps.length := by omega
    rw [loopO_eq, hd51_0, cut64 v _ F hF]
    simp only [body64_step v i hlt hlen _ (hrec v.ps[i] (List.getElem_mem hlt))]
    rw [List.drop_eq_getElem_cons hlt]
    cases hb : v.ps[i].brief with
    | false => simp only [List.all_cons, hb, Bool.false_and, Bool.false_eq_true, if_false]
    | true =>
      simp only [if_true, List.all_cons, hb, Bool.true_and]
      exact ih (i + 1) (fr64v (i + 1)) (by omega) (by omega) rfl

theorem brief_eq (v : Val) : v.brief = (v.ps.all Val.brief && decide (v.t.size ≤ 30)) := by
  obtain ⟨k, n, t, ps⟩ := v
  have : ∀ l : List Val, briefs l = l.all Val.brief := by
    intro l; induction l with
    | nil => rfl
    | cons a r ih => simp [briefs, ih]
  show (briefs ps && _) = _
  rw [this]; rfl

theorem brief_W (v : Val) (hlen : v.ps.length < 9223372036854775807) (hrec : ∀ u ∈ v.ps, ∀ H, W 51 [.p (enc u)] H = some (.ret (.p (.bool u.brief)), H)) (H : Hp) :
    W 51 [.p (enc v)] H = some (.ret (.p (.bool v.brief)), H) := by
  refine W51_of rfl (by simp) ?_
  have hloop := loop64_okv v hlen hrec v.ps.length 0 (fr64v 0) rfl (Nat.zero_le _) rfl
  have hall : (v.ps.drop 0).all Val.brief = v.ps.all Val.brief := rfl
  rw [hall] at hloop
  have hb := brief_eq v
  have key : E false ⟨0, 0⟩ 51 code51 (mkF 0 [.p (enc v)]) H00 = some (.ret, [(2, .p (.bool v.brief))], st1 v) := by
    have h00 : ((0 : Nat) : Int) = 0 := rfl
    simp only [lp51_0, code51, Tryz.f51, fr64v, st1, h00] at hloop
    cases ha : v.ps.all Val.brief with
    | false =>
      rw [ha] at hb hloop
      simp only [Bool.false_eq_true, if_false] at hloop
      simp [E_skip, E_ret, E_exit, E_text, E_seq, E_cond, E_block, E_loop, code51, Tryz.f51, mkF, H00, runOps, runOp, wantD, exec, fin, opd, look, putF, norm, constD, constC, box_enc, cellD, hloop, hb, st1]
    | true =>
      rw [ha] at hb hloop
      simp only [if_true] at hloop
      simp [E_skip, E_ret, E_exit, E_text, E_seq, E_cond, E_block, E_loop, code51, Tryz.f51, mkF, H00, runOps, runOp, wantD, exec, fin, opd, look, putF, norm, constD, constC, box_enc, cellD, hloop, hb, st1,
        fieldAddrD, loadD, opCall, lenD, binD, isShift, intP]
      omega
  rw [key]
  simp [fnOut, retOut, resD, look, retsD, retD, argD, D.nf, D.pd?, oneD, D.noRefs, D.noRef, alone, Hp.cut]
end Go.Vi
end

section
/- Vi: ref.Small (f15), ref.Fits (f62), ref.Nodes (f23), ref.Depth (f24). No conditions. -/
namespace Go.Vi
open Go Go.Lib Go.Proofs
set_option maxRecDepth 100000
attribute [local simp] E_skip E_ret E_exit E_text E_seq E_cond E_block E_loop runOps runOp wantD exec fin opd look putF norm constD constC fieldAddrD loadD opCall lenD binD isShift intP numD indexAddrD D.pd? D.pds? cells_enc sub capsOf callD argsD argD D.nf enc_agg unP box_enc cellD mkF H00 st1

mutual
def Val.fine : Val → Prop
  | .mk _ _ _ ps => ps.length < 4611686018427387904 ∧ fines ps
def fines : List Val → Prop
  | [] => True
  | v :: r => v.fine ∧ fines r
end
mutual
def Val.nodes : Val → Int
  | .mk _ _ _ ps => 1 + nodesL ps
def nodesL : List Val → Int
  | [] => 0
  | v :: r => v.nodes + nodesL r
end
mutual
def Val.depth : Val → Int
  | .mk _ _ _ ps => depthL ps + 1
def depthL : List Val → Int
  | [] => 0
  | v :: r => max v.depth (depthL r)
end

theorem fine_len {v : Val} (h : v.fine) : v.ps.length < 4611686018427387904 := by cases v; exact h.1
theorem fines_mem : ∀ {l : List Val}, fines l → ∀ u ∈ l, u.fine
  | [], _, u, h => by cases h
  | v :: r, h, u, hu => by
    rcases List.mem_cons.1 hu with rfl | hu
    · exact h.1
    · exact fines_mem h.2 u hu
theorem fine_mem {v : Val} (h : v.fine) : ∀ u ∈ v.ps, u.fine := by cases v; exact fines_mem h.2

mutual
theorem nodes_posv : ∀ v : Val, 1 ≤ v.nodes
  | .mk _ _ _ ps => by simp only [Val.nodes]; have := nodesL_pos ps; omega
theorem nodesL_pos : ∀ l : List Val, 0 ≤ nodesL l
  | [] => by simp [nodesL]
  | v :: r => by simp only [nodesL]; have := nodes_posv v; have := nodesL_pos r; omega
end
theorem nodes_eq (v : Val) : v.nodes = 1 + nodesL v.ps := by cases v; rfl
theorem depth_eq (v : Val) : v.depth = depthL v.ps + 1 := by cases v; rfl

mutual
theorem weigh_nodes : ∀ (v : Val) (l d : Int), 0 ≤ l → 0 ≤ v.weigh l d → v.weigh l d = l - v.nodes
  | .mk k n t ps, l, d, h, h1 => by
    simp only [Val.weigh, Val.nodes] at h1 ⊢
    split at h1
    · omega
    · rename_i hc
      rw [if_neg hc]
      have := weighs_nodes ps (l - 1) (d - 1) (by omega) h1
      omega
theorem weighs_nodes : ∀ (ps : List Val) (l d : Int), -1 ≤ l → 0 ≤ weighs ps l d → weighs ps l d = l - nodesL ps
  | [], l, d, h, h1 => by simp [weighs, nodesL]
  | v :: r, l, d, h, h1 => by
    simp only [weighs, nodesL] at h1 ⊢
    split at h1
    · rename_i h0
      rw [if_pos h0]
      have hle := weigh_le v l d h0
      have h2 := weighs_nodes r (v.weigh l d) d hle.2 h1
      have h3 := weighs_le r (v.weigh l d) d hle.2
      have h4 := weigh_nodes v l d h0 (by omega)
      omega
    · omega
end

mutual
theorem nodes_fine : ∀ v : Val, v.nodes < 4611686018427387904 → v.fine
  | .mk k n t ps, h => by
    simp only [Val.nodes] at h
    exact ⟨by have := nodesL_len ps; omega, nodesL_fine ps (by omega)⟩
theorem nodesL_fine : ∀ l : List Val, nodesL l < 4611686018427387904 → fines l
  | [], _ => trivial
  | v :: r, h => by
    simp only [nodesL] at h
    have := nodes_posv v; have := nodesL_pos r
    exact ⟨nodes_fine v (by omega), nodesL_fine r (by omega)⟩
theorem nodesL_len : ∀ l : List Val, (l.length : Int) ≤ nodesL l
  | [] => by simp [nodesL]
  | v :: r => by simp only [nodesL, List.length_cons]; have := nodes_posv v; have := nodesL_len r; omega
end

theorem weigh_fine {v : Val} {l d : Int} (h0 : 0 ≤ l) (hl : l < 4611686018427387904) (h : 0 ≤ v.weigh l d) : v.fine :=
  nodes_fine v (by have := weigh_nodes v l d h0 h; omega)

mutual
theorem brief_fine : ∀ v : Val, v.fine → ∀ H, W 51 [.p (enc v)] H = some (.ret (.p (.bool v.brief)), H)
  | .mk k n t ps, h, H => brief_W (.mk k n t ps) (by have := h.1; simp only [Val.ps]; omega) (brief_fines ps h.2) H
theorem brief_fines : ∀ l : List Val, fines l → ∀ u ∈ l, ∀ H, W 51 [.p (enc u)] H = some (.ret (.p (.bool u.brief)), H)
  | [], _, u, hu, H => by cases hu
  | v :: r, h, u, hu, H => by
    rcases List.mem_cons.1 hu with e | hu
    · rw [e]; exact brief_fine v h.1 H
    · exact brief_fines r h.2 u hu H
end

theorem rec63 (d : Int) (hd : d < 4611686018427387904) : Rec63 d := weigh_W d.toNat d (by omega) hd

def Val.small (v : Val) : Bool := decide (0 ≤ v.weigh 260 12) && v.brief
def Val.fits (v : Val) : Bool := decide (0 ≤ v.weigh 200 8)

theorem small_W (v : Val) (H : Hp) : W 13 [.p (enc v)] H = some (.ret (.p (.bool v.small)), H) := by
  refine W13_of rfl (by simp) ?_
  have h1 := fun H => rec63 12 (by omega) v 260 H (by omega) (by omega)
  by_cases hw : 0 ≤ v.weigh 260 12
  · have h2 := brief_fine v (weigh_fine (by omega) (by omega) hw)
    have key : E false ⟨0, 0⟩ 13 code13 (mkF 0 [.p (enc v)]) H00 = some (.ret, [(2, .p (.bool v.small))], st1 v) := by
      simp [code13, Tryz.f13, h1, h2, hw, Val.small]
    rw [key]
    simp [fnOut, retOut, resD, retsD, retD, oneD, D.noRefs, D.noRef, alone, Hp.cut]
  · have key : E false ⟨0, 0⟩ 13 code13 (mkF 0 [.p (enc v)]) H00 = some (.ret, [(2, .p (.bool v.small))], st1 v) := by
      simp [code13, Tryz.f13, h1, hw, Val.small]
    rw [key]
    simp [fnOut, retOut, resD, retsD, retD, oneD, D.noRefs, D.noRef, alone, Hp.cut]

/-! ### Nodes -/
def fr23 (a : Int) (i : Nat) : Fr := [(1, .ptr 0 0), (3, .p (.int .i64 a)), (4, .p (.int .i64 i))]

theorem body23_end (v : Val) (a : Int) : E false ⟨0, 0⟩ 30 lp30_0 (fr23 a v.ps.length) (st1 v) =
    some (.exit 0, [(1, .ptr 0 0), (3, .p (.int .i64 a)), (4, .p (.int .i64 v.ps.length)), (9, .p (.bool false))], st1 v) := by
  simp [fr23, lp30_0, code30, Tryz.f30]

theorem body23_step (v : Val) (a : Int) (i : Nat) (hlt : i < v.ps.length) (hlen : v.ps.length < 9223372036854775807) (b : Int) (hab : 0 ≤ a + b ∧ a + b < 9223372036854775807)
    (hr : ∀ H, W 30 [.p (enc v.ps[i])] H = some (.ret (.p (.int .i64 b)), H)) : E false ⟨0, 0⟩ 30 lp30_0 (fr23 a i) (st1 v) = some (.normal, fr23 (a + b) (i + 1), st1 v) := by
  have hw : IntKind.i64.wrap ((i : Int) + 1) = (i : Int) + 1 := wrap64 (by omega) (by omega)
  have hw2 : IntKind.i64.wrap (a + b) = a + b := wrap64 (by omega) (by omega)
  simp [fr23, lp30_0, code30, Tryz.f30, hlt, hr, hw, hw2]

theorem cut23 (v : Val) (a : Int) (i : Nat) (F : Fr) (hF : norm [1, 3, 4] F = fr23 a i) : cutD ⟨0, 0⟩ [1, 3, 4] 1 0 F (st1 v) = some (fr23 a i, st1 v) := by
  simp only [cutD, hF]
  simp [fr23, frNo, blkNo, D.noRef, D.noRefs, Hp.cut]

theorem loop23_ok (v : Val) (hlen : v.ps.length < 9223372036854775807) (hrec : ∀ u ∈ v.ps, ∀ H, W 30 [.p (enc u)] H = some (.ret (.p (.int .i64 u.nodes)), H)) : ∀ (m i : Nat) (a : Int) (F : Fr),
    m = v.ps.length - i → i ≤ v.ps.length → 0 ≤ a → a + nodesL (v.ps.drop i) < 9223372036854775807 → norm [1, 3, 4] F = fr23 a i →
    loopO false ⟨0, 0⟩ 30 lp30_0 1 0 F (st1 v) = some (.exit 0, [(1, .ptr 0 0), (3, .p (.int .i64 (a + nodesL (v.ps.drop i)))), (4, .p (.int .i64 v.ps.length)), (9, .p (.bool false))], st1 v) := by
  intro m
  induction m with
  | zero =>
    intro i a F hm hi ha hb hF
    have hie : i = v.ps.length := by omega
    subst hie
    rw [loopO_eq, hd30_0, cut23 v _ _ F hF]
    simp only [body23_end, List.drop_length, nodesL]
    rw [Int.add_zero]
  | succ m ih =>
    intro i a F hm hi ha hb hF
    have hlt : i < v.ps.length := by omega
    rw [List.drop_eq_getElem_cons hlt, nodesL] at hb ⊢
    have h1 := nodes_posv v.ps[i]
    have h2 := nodesL_pos (v.ps.drop (i + 1))
    rw [loopO_eq, hd30_0, cut23 v _ _ F hF]
    simp only [body23_step v a i hlt hlen _ (by omega) (hrec v.ps[i] (List.getElem_mem hlt))]
    rw [ih (i + 1) (a + v.ps[i].nodes) (fr23 _ (i + 1)) (by omega) (by omega) (by omega) (by omega) rfl, Int.add_assoc]

theorem nodes_step (v : Val) (hn : v.nodes < 4611686018427387904) (hrec : ∀ u ∈ v.ps, ∀ H, W 30 [.p (enc u)] H = some (.ret (.p (.int .i64 u.nodes)), H)) (H : Hp) :
    W 30 [.p (enc v)] H = some (.ret (.p (.int .i64 v.nodes)), H) := by
  refine W30_of rfl (by simp) ?_
  rw [nodes_eq] at hn
  have hlen := nodesL_len v.ps
  have hloop := loop23_ok v (by omega) hrec v.ps.length 0 1 (fr23 1 0) rfl (Nat.zero_le _) (by omega) (by simp only [List.drop_zero]; omega) rfl
  have key : E false ⟨0, 0⟩ 30 code30 (mkF 0 [.p (enc v)]) H00 = some (.ret, [(2, .p (.int .i64 v.nodes))], st1 v) := by
    have h00 : ((0 : Nat) : Int) = 0 := rfl
    simp only [lp30_0, code30, Tryz.f30, fr23, st1, h00, List.drop_zero] at hloop
    rw [nodes_eq]
    simp [code30, Tryz.f30, hloop]
  rw [key]
  simp [fnOut, retOut, resD, retsD, retD, oneD, D.noRefs, D.noRef, alone, Hp.cut]

mutual
theorem nodes_W : ∀ v : Val, v.nodes < 4611686018427387904 → ∀ H, W 30 [.p (enc v)] H = some (.ret (.p (.int .i64 v.nodes)), H)
  | .mk k n t ps, h, H => nodes_step (.mk k n t ps) h (nodesL_W ps (by simp only [Val.nodes] at h; omega)) H
theorem nodesL_W : ∀ l : List Val, nodesL l < 4611686018427387904 → ∀ u ∈ l, ∀ H, W 30 [.p (enc u)] H = some (.ret (.p (.int .i64 u.nodes)), H)
  | [], _, u, hu, H => by cases hu
  | v :: r, h, u, hu, H => by
    simp only [nodesL] at h
    have h1 := nodes_posv v; have h2 := nodesL_pos r
    rcases List.mem_cons.1 hu with e | hu
    · rw [e]; exact nodes_W v (by omega) H
    · exact nodesL_W r (by omega) u hu H
end
end Go.Vi
end

section
/- Vi: ref.Equal (f22), ref.Lists (f77), none (f20), ref.Depth (f24). No conditions. -/
namespace Go.Vi
open Go Go.Lib Go.Proofs
set_option maxRecDepth 100000
attribute [local simp] E_skip E_ret E_exit E_text E_draw E_seq E_cond E_block E_loop runOps runOp runDraw drawR slotsOf Hp.kept_zero runX runVF runV finV gate FlOK FlOK0 wantD exec fin opd look putF norm constD constC fieldAddrD loadD opCall lenD binD isShift intP strP numD indexAddrD D.pd? D.pds? cells_enc sub capsOf callD argsD argD D.nf enc_agg unP box_enc cellD mkF H00 st1

mutual
def Val.eqb : Val → Val → Bool
  | .mk k n t ps, .mk k' n' t' ps' => decide (k = k') && decide (n = n') && decide (t = t') && eqbs ps ps'
def eqbs : List Val → List Val → Bool
  | [], [] => true
  | v :: r, u :: s => v.eqb u && eqbs r s
  | _, _ => false
end
mutual
theorem eqb_iff : ∀ (v u : Val), v.eqb u = true ↔ v = u
  | .mk k n t ps, .mk k' n' t' ps' => by
    simp only [Val.eqb, Bool.and_eq_true, decide_eq_true_eq, eqbs_iff ps ps', Val.mk.injEq, and_assoc]
theorem eqbs_iff : ∀ (l m : List Val), eqbs l m = true ↔ l = m
  | [], [] => by simp [eqbs]
  | v :: r, u :: s => by simp only [eqbs, Bool.and_eq_true, eqb_iff v u, eqbs_iff r s, List.cons.injEq]
  | [], _ :: _ => by simp [eqbs]
  | _ :: _, [] => by simp [eqbs]
end
theorem eqb_eq (v u : Val) : v.eqb u = (decide (v.k = u.k) && decide (v.n = u.n) && decide (v.t = u.t) && eqbs v.ps u.ps) := by cases v; cases u; rfl
theorem eqbs_len : ∀ {l m : List Val}, l.length ≠ m.length → eqbs l m = false
  | [], [], h => absurd rfl h
  | v :: r, u :: s, h => by
    simp only [eqbs, Bool.and_eq_false_iff]
    exact .inr (eqbs_len (by simpa using h))
  | [], _ :: _, _ => rfl
  | _ :: _, [], _ => rfl

def fr77 (a b : List Val) (i : Nat) : Fr := [(0, .p (.sl (a.map enc))), (1, .p (.sl (b.map enc))), (5, .p (.int .i64 i))]

theorem cut77 (a b : List Val) (i : Nat) (F : Fr) (hF : norm [0, 1, 5] F = fr77 a b i) : cutD ⟨0, 0⟩ [0, 1, 5] 0 0 F H00 = some (fr77 a b i, H00) := by
  simp only [cutD, hF]
  simp [fr77, frNo, blkNo, D.noRef, D.noRefs, Hp.cut]

def st2v (v u : Val) : Hp := ⟨[.cells [.p (.int .i64 v.k), .p (.int .i64 v.n), .p (.str v.t), .p (.sl (v.ps.map enc))], .cells [.p (.int .i64 u.k), .p (.int .i64 u.n), .p (.str u.t), .p (.sl (u.ps.map enc))]], []⟩

end Go.Vi
end

section
/- Vi: ref.in (f74), ref.order (f84), ref.letters (f109), none (f20). No conditions. -/
namespace Go.Vi
open Go Go.Lib Go.Proofs
set_option maxRecDepth 100000
attribute [local simp] E_skip E_ret E_exit E_text E_draw E_seq E_cond E_block E_loop runOps runOp runDraw drawR slotsOf Hp.kept_zero runX runVF runV finV gate FlOK FlOK0 wantD exec fin opd look putF norm constD constC fieldAddrD loadD opCall lenD binD isShift intP strP numD indexAddrD indexD D.pd? D.pds? cells_enc sub capsOf callD argsD argD D.nf enc_agg unP box_enc cellD mkF H00 st1

def inB (n lo hi : Int) : Bool := decide (lo ≤ n) && decide (n ≤ hi)
theorem in_W (n lo hi : Int) (H : Hp) : W 102 [.p (.int .i64 n), .p (.int .i64 lo), .p (.int .i64 hi)] H = some (.ret (.p (.bool (inB n lo hi))), H) := by
  refine W102_of rfl (by simp) ?_
  have key : E false ⟨0, 0⟩ 102 code102 (mkF 0 [.p (.int .i64 n), .p (.int .i64 lo), .p (.int .i64 hi)]) H00 = some (.ret, [(6, .p (.bool (inB n lo hi)))], H00) := by
    by_cases h1 : lo ≤ n <;> simp [code102, Tryz.f102, inB, h1]
  rw [key]
  simp [fnOut, retOut, resD, retsD, retD, oneD, D.noRefs, D.noRef, alone, Hp.cut]

def ordI (a b : Int) : Int := if a < b then -1 else if b < a then 1 else 0
theorem order_W (a b : Int) (H : Hp) : W 145 [.p (.int .i64 a), .p (.int .i64 b)] H = some (.ret (.p (.int .i64 (ordI a b))), H) := by
  refine W145_of rfl (by simp) ?_
  have key : E false ⟨0, 0⟩ 145 code145 (mkF 0 [.p (.int .i64 a), .p (.int .i64 b)]) H00 = some (.ret, [(4, .p (.int .i64 (ordI a b)))], H00) := by
    by_cases h1 : a < b
    · simp [code145, Tryz.f145, ordI, h1]
    · by_cases h2 : b < a <;> simp [code145, Tryz.f145, ordI, h1, h2]
  rw [key]
  simp [fnOut, retOut, resD, retsD, retD, oneD, D.noRefs, D.noRef, alone, Hp.cut]

def okB (b : UInt8) : Bool := decide (32 ≤ b.toNat) && decide (b.toNat ≤ 126) && decide (b.toNat ≠ 34) && decide (b.toNat ≠ 92)
def letters (s : ByteArray) : Bool := s.data.toList.all okB && decide (s.size ≤ 20)

theorem ba_size (s : ByteArray) : s.data.toList.length = s.size := rfl
def fr109 (s : ByteArray) (i : Nat) : Fr := [(0, .p (.str s)), (3, .p (.int .i64 i))]

theorem body109_end (s : ByteArray) : E false ⟨0, 0⟩ 103 lp103_0 (fr109 s s.size) H00 = some (.exit 0, [(0, .p (.str s)), (3, .p (.int .i64 s.size)), (7, .p (.bool false))], H00) := by
  simp [fr109, lp103_0, code103, Tryz.f103]

theorem body109_step (s : ByteArray) (i : Nat) (hlt : i < s.size) (hlen : s.size < 9223372036854775807) :
    E false ⟨0, 0⟩ 103 lp103_0 (fr109 s i) H00 = if okB (s[i]'hlt) = true then some (.normal, fr109 s (i + 1), H00) else some (.ret, [(2, .p (.bool false))], H00) := by
  have hw : IntKind.i64.wrap ((i : Int) + 1) = (i : Int) + 1 := wrap64 (by omega) (by omega)
  by_cases h1 : (s[i]'hlt).toNat < 32
  · have e1 : ((s[i]'hlt).toNat : Int) < 32 := by omega
    have h1' : ¬ 32 ≤ (s[i]'hlt).toNat := by omega
    simp [fr109, lp103_0, code103, Tryz.f103, hlt, okB, e1, h1']
  · have e1 : ¬ ((s[i]'hlt).toNat : Int) < 32 := by omega
    have h1' : 32 ≤ (s[i]'hlt).toNat := by omega
    by_cases h2 : 126 < (s[i]'hlt).toNat
    · have e2 : (126 : Int) < (s[i]'hlt).toNat := by omega
      have h2' : ¬ (s[i]'hlt).toNat ≤ 126 := by omega
      simp [fr109, lp103_0, code103, Tryz.f103, hlt, okB, e1, h1', e2, h2']
    · have e2 : ¬ (126 : Int) < (s[i]'hlt).toNat := by omega
      have h2' : (s[i]'hlt).toNat ≤ 126 := by omega
      by_cases h3 : (s[i]'hlt).toNat = 34
      · have e3 : ((s[i]'hlt).toNat : Int) = 34 := by omega
        simp [fr109, lp103_0, code103, Tryz.f103, hlt, okB, h3]
      · have e3 : ¬ ((s[i]'hlt).toNat : Int) = 34 := by omega
        by_cases h4 : (s[i]'hlt).toNat = 92
        · simp [fr109, lp103_0, code103, Tryz.f103, hlt, okB, h4]
        · have e4 : ¬ ((s[i]'hlt).toNat : Int) = 92 := by omega
          simp [fr109, lp103_0, code103, Tryz.f103, hlt, okB, e1, h1', e2, h2', e3, h3, e4, h4, hw]

theorem cut109 (s : ByteArray) (i : Nat) (F : Fr) (hF : norm [0, 3] F = fr109 s i) : cutD ⟨0, 0⟩ [0, 3] 0 0 F H00 = some (fr109 s i, H00) := by
  simp only [cutD, hF]
  simp [fr109, frNo, blkNo, D.noRef, D.noRefs, Hp.cut]

theorem loop109_ok (s : ByteArray) (hlen : s.size < 9223372036854775807) : ∀ (m i : Nat) (F : Fr), m = s.size - i → i ≤ s.size → norm [0, 3] F = fr109 s i →
    loopO false ⟨0, 0⟩ 103 lp103_0 0 0 F H00 = if (s.data.toList.drop i).all okB = true then
      some (.exit 0, [(0, .p (.str s)), (3, .p (.int .i64 s.size)), (7, .p (.bool false))], H00) else some (.ret, [(2, .p (.bool false))], H00) := by
  intro m
  induction m with
  | zero =>
    intro i F hm hi hF
    have hie : i = s.size := by omega
    subst hie
    rw [loopO_eq, hd103_0, cut109 s _ F hF]
    simp only [body109_end]
    rw [show s.data.toList.drop s.size = [] by rw [← ba_size, List.drop_length]]
    simp
  | succ m ih =>
    intro i F hm hi hF
    have hlt : i < s.size := by omega
    have hlt' : i < s.data.toList.length := by rw [ba_size]; exact hlt
    rw [List.drop_eq_getElem_cons hlt']
    rw [loopO_eq, hd103_0, cut109 s _ F hF]
    have eb : s[i]'hlt = s.data.toList[i] := rfl
    simp only [body109_step s i hlt hlen, eb]
    cases hb : okB s.data.toList[i] with
    | false => simp only [List.all_cons, hb, Bool.false_and, Bool.false_eq_true, if_false]
    | true =>
      simp only [if_true, List.all_cons, hb, Bool.true_and]
      exact ih (i + 1) (fr109 s (i + 1)) (by omega) (by omega) rfl

theorem letters_W (s : ByteArray) (hlen : s.size < 9223372036854775807) (H : Hp) : W 103 [.p (.str s)] H = some (.ret (.p (.bool (letters s))), H) := by
  refine W103_of rfl (by simp) ?_
  have key : E false ⟨0, 0⟩ 103 code103 (mkF 0 [.p (.str s)]) H00 = some (.ret, [(2, .p (.bool (letters s)))], H00) := by
    have hloop := loop109_ok s hlen s.size 0 (fr109 s 0) rfl (Nat.zero_le _) rfl
    have h00 : ((0 : Nat) : Int) = 0 := rfl
    simp only [lp103_0, code103, Tryz.f103, fr109, h00, List.drop_zero, H00] at hloop
    have hl : letters s = (s.data.toList.all okB && decide (s.size ≤ 20)) := rfl
    have h20 : ((s.size : Int) ≤ 20) = (s.size ≤ 20) := by apply propext; omega
    cases he : s.data.toList.all okB with
    | true =>
      rw [he] at hloop hl
      simp only [if_true] at hloop
      simp [code103, Tryz.f103, hloop, hl, h20]
    | false =>
      rw [he] at hloop hl
      simp only [Bool.false_eq_true, if_false] at hloop
      simp [code103, Tryz.f103, hloop, hl]
  rw [key]
  simp [fnOut, retOut, resD, retsD, retD, oneD, D.noRefs, D.noRef, alone, Hp.cut]
end Go.Vi
end

section
/- Vi: ref.Compare (f32). No conditions. -/
namespace Go.Vi
open Go Go.Lib Go.Proofs
set_option maxRecDepth 100000
attribute [local simp] E_skip E_ret E_exit E_text E_draw E_seq E_cond E_block E_scope E_loop runOps runOp runDraw drawR slotsOf Hp.kept_zero runX runVF runV finV gate FlOK FlOK0 wantD exec fin opd look putF norm constD constC fieldAddrD loadD opCall lenD binD isShift intP strP numD indexAddrD indexD D.pd? D.pds? cells_enc sub capsOf callD argsD argD D.nf enc_agg unP box_enc cellD mkF H00 st1

def lessB (s t : ByteArray) : Bool := Op.bytesLess s.data.toList t.data.toList
mutual
def Val.cmp : Val → Val → Int
  | .mk k n t ps, .mk k' n' t' ps' =>
    if k ≠ k' then ordI k k'
    else if k = 3 then (if t = t' then 0 else if lessB t t' = true then -1 else 1)
    else if k = 1 ∨ k = 2 ∨ ps.length ≠ ps'.length then ordI n n' + ordI ps.length ps'.length
    else cmpL ps ps'
def cmpL : List Val → List Val → Int
  | [], _ => 0
  | _ :: _, [] => 0
  | v :: r, u :: s => if v.cmp u ≠ 0 then v.cmp u else cmpL r s
end
theorem cmp_eq (v u : Val) : v.cmp u = if v.k ≠ u.k then ordI v.k u.k
    else if v.k = 3 then (if v.t = u.t then 0 else if lessB v.t u.t = true then -1 else 1)
    else if v.k = 1 ∨ v.k = 2 ∨ v.ps.length ≠ u.ps.length then ordI v.n u.n + ordI v.ps.length u.ps.length
    else cmpL v.ps u.ps := by cases v; cases u; rfl
theorem ordI_bd (a b : Int) : -1 ≤ ordI a b ∧ ordI a b ≤ 1 := by
  by_cases h1 : a < b
  · simp [ordI, h1]
  · by_cases h2 : b < a <;> simp [ordI, h1, h2]

def Cmp32 (v : Val) : Prop := ∀ (u : Val) (H : Hp), W 104 [.p (enc v), .p (enc u)] H = some (.ret (.p (.int .i64 (v.cmp u))), H)

def fr32 (i : Nat) : Fr := [(2, .ptr 0 0), (3, .ptr 1 0), (5, .p (.int .i64 i))]

theorem body32_end (v u : Val) : E false ⟨0, 0⟩ 104 lp104_0 (fr32 v.ps.length) (st2v v u) = some (.exit 0, [(2, .ptr 0 0), (3, .ptr 1 0), (5, .p (.int .i64 v.ps.length)), (64, .p (.bool false))], st2v v u) := by
  simp [fr32, st2v, lp104_0, code104, Tryz.f104]

theorem body32_step (v u : Val) (i : Nat) (hlt : i < v.ps.length) (hlu : i < u.ps.length) (hlen : v.ps.length < 9223372036854775807) (c : Int)
    (hr : ∀ H, W 104 [.p (enc v.ps[i]), .p (enc u.ps[i])] H = some (.ret (.p (.int .i64 c)), H)) :
    E false ⟨0, 0⟩ 104 lp104_0 (fr32 i) (st2v v u) = if c ≠ 0 then some (.ret, [(4, .p (.int .i64 c))], st2v v u) else some (.normal, fr32 (i + 1), st2v v u) := by
  have hw : IntKind.i64.wrap ((i : Int) + 1) = (i : Int) + 1 := wrap64 (by omega) (by omega)
  by_cases hc : c = 0
  · simp [fr32, st2v, lp104_0, code104, Tryz.f104, hlt, hlu, hr, hw, hc]
  · simp [fr32, st2v, lp104_0, code104, Tryz.f104, hlt, hlu, hr, hw, hc]

theorem cut32 (v u : Val) (i : Nat) (F : Fr) (hF : norm [2, 3, 5] F = fr32 i) : cutD ⟨0, 0⟩ [2, 3, 5] 2 0 F (st2v v u) = some (fr32 i, st2v v u) := by
  simp only [cutD, hF]
  simp [fr32, st2v, frNo, blkNo, D.noRef, D.noRefs, Hp.cut]

theorem loop32_ok (v u : Val) (hvu : v.ps.length = u.ps.length) (hlen : v.ps.length < 9223372036854775807) (hrec : ∀ x ∈ v.ps, Cmp32 x) : ∀ (m i : Nat) (F : Fr),
    m = v.ps.length - i → i ≤ v.ps.length → norm [2, 3, 5] F = fr32 i →
    loopO false ⟨0, 0⟩ 104 lp104_0 2 0 F (st2v v u) = if cmpL (v.ps.drop i) (u.ps.drop i) ≠ 0 then some (.ret, [(4, .p (.int .i64 (cmpL (v.ps.drop i) (u.ps.drop i))))], st2v v u)
      else some (.exit 0, [(2, .ptr 0 0), (3, .ptr 1 0), (5, .p (.int .i64 v.ps.length)), (64, .p (.bool false))], st2v v u) := by
  intro m
  induction m with
  | zero =>
    intro i F hm hi hF
    have hie : i = v.ps.length := by omega
    subst hie
    rw [loopO_eq, hd104_0, cut32 v u _ F hF]
    simp only [body32_end, List.drop_length, cmpL]
    simp
  | succ m ih =>
    intro i F hm hi hF
    have hlt : i < v.ps.length := by omega
    rw [List.drop_eq_getElem_cons hlt, List.drop_eq_getElem_cons (show i < u.ps.length by omega), cmpL]
    rw [loopO_eq, hd104_0, cut32 v u _ F hF]
    simp only [body32_step v u i hlt (by omega) hlen _ (fun H => hrec v.ps[i] (List.getElem_mem hlt) u.ps[i] H)]
    by_cases hc : v.ps[i].cmp u.ps[i] = 0
    · simp only [hc, ne_eq, not_true_eq_false, if_false]
      exact ih (i + 1) (fr32 (i + 1)) (by omega) (by omega) rfl
    · simp only [ne_eq, hc, not_false_eq_true, if_true]

theorem cmp_step (v u : Val) (hlen : v.ps.length < 4611686018427387904) (hrec : ∀ x ∈ v.ps, Cmp32 x) (H : Hp) :
    W 104 [.p (enc v), .p (enc u)] H = some (.ret (.p (.int .i64 (v.cmp u))), H) := by
  refine W104_of rfl (by simp) ?_
  have key : E false ⟨0, 0⟩ 104 code104 (mkF 0 [.p (enc v), .p (enc u)]) H00 = some (.ret, [(4, .p (.int .i64 (v.cmp u)))], st2v v u) := by
    rw [cmp_eq]
    by_cases h1 : v.k = u.k
    · by_cases h2 : u.k = 3
      · by_cases h3 : v.t = u.t
        · simp [code104, Tryz.f104, st2v, h1, h2, h3]
        · cases h4 : Op.bytesLess v.t.data.toList u.t.data.toList <;> simp [code104, Tryz.f104, st2v, h1, h2, h3, h4, lessB]
      · have ho := fun a b H => order_W a b H
        have hb1 := ordI_bd v.n u.n
        have hb2 := ordI_bd v.ps.length u.ps.length
        have hw : IntKind.i64.wrap (ordI v.n u.n + ordI v.ps.length u.ps.length) = ordI v.n u.n + ordI v.ps.length u.ps.length := wrap64 (by omega) (by omega)
        by_cases h5 : u.k = 1
        · simp [code104, Tryz.f104, st2v, h1, h5, ho, hw]
        · by_cases h6 : u.k = 2
          · simp [code104, Tryz.f104, st2v, h1, h6, ho, hw]
          · by_cases h7 : v.ps.length = u.ps.length
            · have hloop := loop32_ok v u h7 (by omega) hrec v.ps.length 0 (fr32 0) rfl (Nat.zero_le _) rfl
              have h00 : ((0 : Nat) : Int) = 0 := rfl
              simp only [lp104_0, code104, Tryz.f104, fr32, st2v, h00, List.drop_zero, h1, h7] at hloop
              by_cases hc : cmpL v.ps u.ps = 0
              · simp only [hc, ne_eq, not_true_eq_false, if_false] at hloop
                simp [code104, Tryz.f104, st2v, h1, h2, h5, h6, h7, hloop, hc]
              · simp only [ne_eq, hc, not_false_eq_true, if_true] at hloop
                simp [code104, Tryz.f104, st2v, h1, h2, h5, h6, h7, hloop]
            · have h7' : ¬ (v.ps.length : Int) = (u.ps.length : Int) := by omega
              simp [code104, Tryz.f104, st2v, h1, h2, h5, h6, h7, h7', ho, hw]
    · simp [code104, Tryz.f104, st2v, h1, order_W]
  rw [key]
  simp [fnOut, retOut, resD, retsD, retD, oneD, D.noRefs, D.noRef, alone, Hp.cut]

mutual
theorem cmp_W : ∀ v : Val, v.fine → Cmp32 v
  | .mk k n t ps, h => fun u H => cmp_step (.mk k n t ps) u h.1 (cmps_W ps h.2) H
theorem cmps_W : ∀ l : List Val, fines l → ∀ u ∈ l, Cmp32 u
  | [], _, u, hu => by cases hu
  | v :: r, h, u, hu => by
    rcases List.mem_cons.1 hu with e | hu
    · rw [e]; exact cmp_W v h.1
    · exact cmps_W r h.2 u hu
end
end Go.Vi
end

section
/- Vi: ref.shaped (f75), ref.Valid (f19). No conditions. -/
namespace Go.Vi
open Go Go.Lib Go.Proofs
set_option maxRecDepth 100000
attribute [local simp] E_skip E_ret E_exit E_text E_draw E_seq E_cond E_block E_scope E_loop runOps runOp runDraw drawR slotsOf Hp.kept_zero runX runVF runV finV gate FlOK FlOK0 wantD exec fin opd look putF norm constD constC fieldAddrD loadD opCall lenD binD isShift intP strP numD indexAddrD indexD D.pd? D.pds? cells_enc sub capsOf callD argsD argD D.nf enc_agg unP box_enc cellD mkF H00 st1

def sortedL : List Val → Bool
  | [] => true
  | [_] => true
  | v :: u :: r => decide (v.cmp u < 0) && sortedL (u :: r)

/-- What a value's own kind asks. -/
def own75 (k n : Int) (t : ByteArray) (ps : List Val) : Bool :=
  if k = 1 then inB n (-1000000000) 1000000000 && decide (t = ⟨#[]⟩) && decide (ps.length = 0)
  else if k = 2 then inB n 0 1 && decide (t = ⟨#[]⟩) && decide (ps.length = 0)
  else if k = 3 then decide (n = 0) && letters t && decide (ps.length = 0)
  else if k = 4 then decide (n = 0) && decide (t = ⟨#[]⟩) && inB ps.length 2 6
  else if k = 5 then sortedL ps && (decide (n = 0) && decide (t = ⟨#[]⟩))
  else false

mutual
def Val.shaped : Val → Bool
  | .mk k n t ps => shapeds ps && own75 k n t ps
def shapeds : List Val → Bool
  | [] => true
  | v :: r => v.shaped && shapeds r
end
theorem shapeds_all : ∀ l : List Val, shapeds l = l.all Val.shaped
  | [] => rfl
  | v :: r => by simp [shapeds, shapeds_all r]
theorem shaped_eq (v : Val) : v.shaped = (v.ps.all Val.shaped && own75 v.k v.n v.t v.ps) := by
  cases v; simp only [Val.shaped, shapeds_all]; rfl

def Shp75 (v : Val) : Prop := ∀ H : Hp, W 65 [.p (enc v)] H = some (.ret (.p (.bool v.shaped)), H)
def fr75 (i : Nat) : Fr := [(1, .ptr 0 0), (3, .p (.int .i64 i))]
def fr75b (i : Nat) : Fr := [(1, .ptr 0 0), (4, .p (.int .i64 i))]

theorem body75_end (v : Val) : E false ⟨0, 0⟩ 65 lp65_0 (fr75 v.ps.length) (st1 v) = some (.exit 0, [(1, .ptr 0 0), (3, .p (.int .i64 v.ps.length)), (9, .p (.bool false))], st1 v) := by
  simp [fr75, lp65_0, code65, Tryz.f65]

theorem body75_step (v : Val) (i : Nat) (hlt : i < v.ps.length) (hlen : v.ps.length < 9223372036854775807) (b : Bool)
    (hr : ∀ H, W 65 [.p (enc v.ps[i])] H = some (.ret (.p (.bool b)), H)) :
    E false ⟨0, 0⟩ 65 lp65_0 (fr75 i) (st1 v) = if b = true then some (.normal, fr75 (i + 1), st1 v) else some (.ret, [(2, .p (.bool false))], st1 v) := by
  have hw : IntKind.i64.wrap ((i : Int) + 1) = (i : Int) + 1 := wrap64 (by omega) (by omega)
  cases b <;> simp [fr75, lp65_0, code65, Tryz.f65, hlt, hr, hw]

theorem cut75 (v : Val) (i : Nat) (F : Fr) (hF : norm [1, 3] F = fr75 i) : cutD ⟨0, 0⟩ [1, 3] 1 0 F (st1 v) = some (fr75 i, st1 v) := by
  simp only [cutD, hF]
  simp [fr75, frNo, blkNo, D.noRef, D.noRefs, Hp.cut]

theorem loop75_ok (v : Val) (hlen : v.ps.length < 9223372036854775807) (hrec : ∀ u ∈ v.ps, Shp75 u) : ∀ (m i : Nat) (F : Fr), m = v.ps.length - i → i ≤ v.ps.length → norm [1, 3] F = fr75 i →
    loopO false ⟨0, 0⟩ 65 lp65_0 1 0 F (st1 v) =
      if (v.ps.drop i).all Val.shaped = true then some (.exit 0, [(1, .ptr 0 0), (3, .p (.int .i64 v.ps.length)), (9, .p (.bool false))], st1 v) else some (.ret, [(2, .p (.bool false))], st1 v) := by
  intro m
  induction m with
  | zero =>
    intro i F hm hi hF
    have hie : i = v.ps.length := by omega
    subst hie
    rw [loopO_eq, hd65_0, cut75 v _ F hF]
    simp only [body75_end]
    simp
  | succ m ih =>
    intro i F hm hi hF
    have hlt : i < v.ps.length := by omega
    rw [loopO_eq, hd65_0, cut75 v _ F hF]
    simp only [body75_step v i hlt hlen _ (hrec v.ps[i] (List.getElem_mem hlt))]
    rw [List.drop_eq_getElem_cons hlt]
    cases hb : v.ps[i].shaped with
    | false => simp only [List.all_cons, hb, Bool.false_and, Bool.false_eq_true, if_false]
    | true =>
      simp only [if_true, List.all_cons, hb, Bool.true_and]
      exact ih (i + 1) (fr75 (i + 1)) (by omega) (by omega) rfl

theorem body75b_end (v : Val) (i : Nat) (h : ¬ i < v.ps.length) : E false ⟨0, 0⟩ 65 lp65_1 (fr75b i) (st1 v) = some (.exit 3, [(1, .ptr 0 0), (4, .p (.int .i64 i)), (91, .p (.bool false))], st1 v) := by
  simp [fr75b, lp65_1, code65, Tryz.f65, h]

theorem body75b_step (v : Val) (j : Nat) (hlt : j + 1 < v.ps.length) (hlen : v.ps.length < 9223372036854775807) (c : Int)
    (hr : ∀ H, W 104 [.p (enc v.ps[j]), .p (enc v.ps[j + 1])] H = some (.ret (.p (.int .i64 c)), H)) :
    E false ⟨0, 0⟩ 65 lp65_1 (fr75b (j + 1)) (st1 v) = if c < 0 then some (.normal, fr75b (j + 2), st1 v) else some (.ret, [(2, .p (.bool false))], st1 v) := by
  have hj : j < v.ps.length := by omega
  have hw : IntKind.i64.wrap ((j : Int) + 1 + 1) = (j : Int) + 1 + 1 := wrap64 (by omega) (by omega)
  have hw2 : IntKind.i64.wrap (j : Int) = (j : Int) := wrap64 (by omega) (by omega)
  have hw3 : IntKind.i64.wrap ((j : Int) + 1 - 1) = (j : Int) := by rw [show (j : Int) + 1 - 1 = j by omega]; exact hw2
  have hpos : (0 : Int) ≤ (j : Int) + 1 := by omega
  have htn : ((j : Int) + 1).toNat = j + 1 := by omega
  have hlt' : (j : Int) + 1 < v.ps.length := by omega
  by_cases hc : c < 0
  · have hc' : ¬ 0 ≤ c := by omega
    simp [fr75b, lp65_1, code65, Tryz.f65, hlt, hlt', hj, hr, hw, hw2, hw3, hpos, htn, hc, hc']
    omega
  · have hc' : 0 ≤ c := by omega
    simp [fr75b, lp65_1, code65, Tryz.f65, hlt, hlt', hj, hr, hw, hw2, hw3, hpos, htn, hc, hc']

theorem cut75b (v : Val) (i : Nat) (F : Fr) (hF : norm [1, 4] F = fr75b i) : cutD ⟨0, 0⟩ [1, 4] 1 0 F (st1 v) = some (fr75b i, st1 v) := by
  simp only [cutD, hF]
  simp [fr75b, frNo, blkNo, D.noRef, D.noRefs, Hp.cut]

theorem loop75b_ok (v : Val) (hlen : v.ps.length < 9223372036854775807) (hrec : ∀ u ∈ v.ps, Cmp32 u) : ∀ (m j : Nat) (F : Fr), m = v.ps.length - j → norm [1, 4] F = fr75b (j + 1) →
    ∃ d, loopO false ⟨0, 0⟩ 65 lp65_1 1 0 F (st1 v) =
      if sortedL (v.ps.drop j) = true then some (.exit 3, [(1, .ptr 0 0), (4, d), (91, .p (.bool false))], st1 v) else some (.ret, [(2, .p (.bool false))], st1 v) := by
  intro m
  induction m with
  | zero =>
    intro j F hm hF
    refine ⟨.p (.int .i64 ((j + 1 : Nat) : Int)), ?_⟩
    rw [loopO_eq, hd65_1, cut75b v _ F hF]
    simp only [body75b_end v (j + 1) (by omega)]
    rw [List.drop_eq_nil_of_le (by omega)]
    simp [sortedL]
  | succ m ih =>
    intro j F hm hF
    by_cases hlt : j + 1 < v.ps.length
    · rw [loopO_eq, hd65_1, cut75b v _ F hF]
      rw [List.drop_eq_getElem_cons (show j < v.ps.length by omega), List.drop_eq_getElem_cons hlt, sortedL]
      simp only [body75b_step v j hlt hlen _ (fun H => hrec v.ps[j] (List.getElem_mem _) v.ps[j + 1] H)]
      by_cases hc : v.ps[j].cmp v.ps[j + 1] < 0
      · obtain ⟨d, hd⟩ := ih (j + 1) (fr75b (j + 2)) (by omega) rfl
        refine ⟨d, ?_⟩
        rw [List.drop_eq_getElem_cons hlt] at hd
        simp only [hc, if_true, decide_true, Bool.true_and]
        exact hd
      · refine ⟨.dead, ?_⟩
        simp only [hc, if_false, decide_false, Bool.false_and, Bool.false_eq_true]
    · refine ⟨.p (.int .i64 ((j + 1 : Nat) : Int)), ?_⟩
      rw [loopO_eq, hd65_1, cut75b v _ F hF]
      simp only [body75b_end v (j + 1) hlt]
      have hj : v.ps.drop j = [v.ps[j]'(by omega)] := by
        rw [List.drop_eq_getElem_cons (show j < v.ps.length by omega), List.drop_eq_nil_of_le (by omega)]
      rw [hj]
      simp [sortedL]

noncomputable def rest75 : Code := match code65 with | .seq _ (.seq _ r) => r | c => c
noncomputable def fst75 : Code := match code65 with | .seq _ (.seq r _) => r | c => c
noncomputable def ini75 : Code := match code65 with | .seq r _ => r | c => c
theorem code75_eq : code65 = .seq ini75 (.seq fst75 rest75) := rfl

/-- The own part, by kinds. -/
theorem rest75_1 (v : Val) (h1 : v.k = 1) (i b : D) : E false ⟨0, 0⟩ 65 rest75 [(1, .ptr 0 0), (3, i), (9, b)] (st1 v) = some (.ret, [(2, .p (.bool (own75 v.k v.n v.t v.ps)))], st1 v) := by
  have hin := fun n lo hi H => in_W n lo hi H
  cases hb : inB v.n (-1000000000) 1000000000 <;> by_cases ht : v.t = ⟨#[]⟩ <;> simp [rest75, code65, Tryz.f65, own75, h1, hin, hb, ht]

theorem rest75_2 (v : Val) (h1 : v.k = 2) (i b : D) : E false ⟨0, 0⟩ 65 rest75 [(1, .ptr 0 0), (3, i), (9, b)] (st1 v) = some (.ret, [(2, .p (.bool (own75 v.k v.n v.t v.ps)))], st1 v) := by
  have hin := fun n lo hi H => in_W n lo hi H
  cases hb : inB v.n 0 1 <;> by_cases ht : v.t = ⟨#[]⟩ <;> simp [rest75, code65, Tryz.f65, own75, h1, hin, hb, ht]

theorem rest75_3 (v : Val) (h1 : v.k = 3) (htx : v.t.size < 9223372036854775807) (i b : D) : E false ⟨0, 0⟩ 65 rest75 [(1, .ptr 0 0), (3, i), (9, b)] (st1 v) = some (.ret, [(2, .p (.bool (own75 v.k v.n v.t v.ps)))], st1 v) := by
  have hle := fun H => letters_W v.t htx H
  by_cases hn : v.n = 0
  · cases hb : letters v.t <;> simp [rest75, code65, Tryz.f65, own75, h1, hle, hb, hn]
  · simp [rest75, code65, Tryz.f65, own75, h1, hn]

theorem rest75_4 (v : Val) (h1 : v.k = 4) (i b : D) : E false ⟨0, 0⟩ 65 rest75 [(1, .ptr 0 0), (3, i), (9, b)] (st1 v) = some (.ret, [(2, .p (.bool (own75 v.k v.n v.t v.ps)))], st1 v) := by
  have hin := fun n lo hi H => in_W n lo hi H
  by_cases hn : v.n = 0
  · by_cases ht : v.t = ⟨#[]⟩ <;> simp [rest75, code65, Tryz.f65, own75, h1, hin, ht, hn]
  · simp [rest75, code65, Tryz.f65, own75, h1, hn]

theorem rest75_5 (v : Val) (h1 : v.k = 5) (hlen : v.ps.length < 9223372036854775807) (hcmp : ∀ u ∈ v.ps, Cmp32 u) (i b : D) :
    E false ⟨0, 0⟩ 65 rest75 [(1, .ptr 0 0), (3, i), (9, b)] (st1 v) = some (.ret, [(2, .p (.bool (own75 v.k v.n v.t v.ps)))], st1 v) := by
  obtain ⟨d, hloop⟩ := loop75b_ok v hlen hcmp v.ps.length 0 (fr75b 1) rfl rfl
  have h00 : ((1 : Nat) : Int) = 1 := rfl
  have h01 : ((0 + 1 : Nat) : Int) = 1 := rfl
  simp only [lp65_1, code65, Tryz.f65, fr75b, st1, h00, h01, List.drop_zero, h1] at hloop
  cases hs : sortedL v.ps with
  | false =>
    rw [hs] at hloop
    simp only [Bool.false_eq_true, if_false] at hloop
    simp [rest75, code65, Tryz.f65, own75, h1, hloop, hs]
  | true =>
    rw [hs] at hloop
    simp only [if_true] at hloop
    by_cases hn : v.n = 0
    · have h0 : (0 : Int) = v.n := hn.symm
      by_cases ht : v.t = ⟨#[]⟩
      · simp only [hn, ht] at hloop
        simp [rest75, code65, Tryz.f65, own75, h1, hloop, hs, hn, ht]
      · simp only [hn] at hloop
        simp [rest75, code65, Tryz.f65, own75, h1, hloop, hs, hn, ht]
    · simp [rest75, code65, Tryz.f65, own75, h1, hloop, hs, hn]

theorem rest75_n (v : Val) (h1 : v.k ≠ 1) (h2 : v.k ≠ 2) (h3 : v.k ≠ 3) (h4 : v.k ≠ 4) (h5 : v.k ≠ 5) (i b : D) :
    E false ⟨0, 0⟩ 65 rest75 [(1, .ptr 0 0), (3, i), (9, b)] (st1 v) = some (.ret, [(2, .p (.bool (own75 v.k v.n v.t v.ps)))], st1 v) := by
  simp [rest75, code65, Tryz.f65, own75, h1, h2, h3, h4, h5]

theorem rest75_ok (v : Val) (hlen : v.ps.length < 9223372036854775807) (htx : v.t.size < 9223372036854775807) (hcmp : ∀ u ∈ v.ps, Cmp32 u) (i b : D) :
    E false ⟨0, 0⟩ 65 rest75 [(1, .ptr 0 0), (3, i), (9, b)] (st1 v) = some (.ret, [(2, .p (.bool (own75 v.k v.n v.t v.ps)))], st1 v) := by
  by_cases h1 : v.k = 1
  · exact rest75_1 v h1 i b
  by_cases h2 : v.k = 2
  · exact rest75_2 v h2 i b
  by_cases h3 : v.k = 3
  · exact rest75_3 v h3 htx i b
  by_cases h4 : v.k = 4
  · exact rest75_4 v h4 i b
  by_cases h5 : v.k = 5
  · exact rest75_5 v h5 hlen hcmp i b
  exact rest75_n v h1 h2 h3 h4 h5 i b
end Go.Vi
end

section
/- Vi: ref.shaped (f75), ref.Valid (f19), the whole. No conditions. -/
namespace Go.Vi
open Go Go.Lib Go.Proofs
set_option maxRecDepth 100000
attribute [local simp] E_skip E_ret E_exit E_text E_draw E_seq E_cond E_block E_scope E_loop runOps runOp runDraw drawR slotsOf Hp.kept_zero runX runVF runV finV gate FlOK FlOK0 wantD exec fin opd look putF norm constD constC fieldAddrD loadD opCall lenD binD isShift intP strP numD indexAddrD indexD D.pd? D.pds? cells_enc sub capsOf callD argsD argD D.nf enc_agg unP box_enc cellD mkF H00 st1

theorem shaped_step (v : Val) (hlen : v.ps.length < 4611686018427387904) (htx : v.t.size < 9223372036854775807) (hrec : ∀ u ∈ v.ps, Shp75 u) (hcmp : ∀ u ∈ v.ps, Cmp32 u) : Shp75 v := by
  intro H
  refine W65_of rfl (by simp) ?_
  have key : E false ⟨0, 0⟩ 65 code65 (mkF 0 [.p (enc v)]) H00 = some (.ret, [(2, .p (.bool v.shaped))], st1 v) := by
    rw [shaped_eq, code75_eq]
    have hini : E false ⟨0, 0⟩ 65 ini75 (mkF 0 [.p (enc v)]) H00 = some (.normal, [(1, .ptr 0 0)], st1 v) := by
      simp [ini75, code65, Tryz.f65]
    have hloop := loop75_ok v (by omega) hrec v.ps.length 0 (fr75 0) rfl (Nat.zero_le _) rfl
    have h00 : ((0 : Nat) : Int) = 0 := rfl
    rw [E_seq, hini]
    simp only
    rw [E_seq]
    cases ha : v.ps.all Val.shaped with
    | false =>
      have hfst : E false ⟨0, 0⟩ 65 fst75 [(1, .ptr 0 0)] (st1 v) = some (.ret, [(2, .p (.bool false))], st1 v) := by
        simp only [lp65_0, code65, Tryz.f65, fr75, st1, h00, List.drop_zero, ha, Bool.false_eq_true, if_false] at hloop
        simp [fst75, code65, Tryz.f65, hloop]
      rw [hfst]
      simp
    | true =>
      have hfst : E false ⟨0, 0⟩ 65 fst75 [(1, .ptr 0 0)] (st1 v) = some (.normal, [(1, .ptr 0 0), (3, .p (.int .i64 v.ps.length)), (9, .p (.bool false))], st1 v) := by
        simp only [lp65_0, code65, Tryz.f65, fr75, st1, h00, List.drop_zero, ha, if_true] at hloop
        simp [fst75, code65, Tryz.f65, hloop]
      rw [hfst]
      simp only
      rw [rest75_ok v (by omega) htx hcmp, Bool.true_and]
  rw [key]
  simp [fnOut, retOut, resD, retsD, retD, oneD, D.noRefs, D.noRef, alone, Hp.cut]

mutual
theorem shaped_W : ∀ v : Val, v.fine → v.brief = true → Shp75 v
  | .mk k n t ps, h, hb => by
    simp only [Val.brief, Bool.and_eq_true, decide_eq_true_eq] at hb
    exact shaped_step (.mk k n t ps) h.1 (by have := hb.2; simp only [Val.t]; omega) (shapeds_W ps h.2 hb.1) (cmps_W ps h.2)
theorem shapeds_W : ∀ l : List Val, fines l → briefs l = true → ∀ u ∈ l, Shp75 u
  | [], _, _, u, hu => by cases hu
  | v :: r, h, hb, u, hu => by
    simp only [briefs, Bool.and_eq_true] at hb
    rcases List.mem_cons.1 hu with e | hu
    · rw [e]; exact shaped_W v h.1 hb.1
    · exact shapeds_W r h.2 hb.2 u hu
end

def Val.valid (v : Val) : Bool := decide (0 ≤ v.weigh 200 8) && v.shaped

theorem small_fine {v : Val} (h : v.small = true) : v.fine ∧ v.brief = true := by
  simp only [Val.small, Bool.and_eq_true, decide_eq_true_eq] at h
  exact ⟨weigh_fine (by omega) (by omega) h.1, h.2⟩

theorem valid_W (v : Val) (hs : v.fine) (hb : v.brief = true) (H : Hp) : W 17 [.p (enc v)] H = some (.ret (.p (.bool v.valid)), H) := by
  refine W17_of rfl (by simp) ?_
  have h1 := fun H => rec63 8 (by omega) v 200 H (by omega) (by omega)
  have h2 := shaped_W v hs hb
  have h2' : ∀ H, W 65 [.p (enc v)] H = some (.ret (.p (.bool v.shaped)), H) := h2
  have key : E false ⟨0, 0⟩ 17 code17 (mkF 0 [.p (enc v)]) H00 = some (.ret, [(2, .p (.bool v.valid))], st1 v) := by
    by_cases hw : 0 ≤ v.weigh 200 8
    · simp [code17, Tryz.f17, h1, h2', hw, Val.valid]
    · simp [code17, Tryz.f17, h1, hw, Val.valid]
  rw [key]
  simp [fnOut, retOut, resD, retsD, retD, oneD, D.noRefs, D.noRef, alone, Hp.cut]
end Go.Vi
end

section
/- Vi: ref.Depth (f24), none (f20). No conditions. -/
namespace Go.Vi
open Go Go.Lib Go.Proofs
set_option maxRecDepth 100000
attribute [local simp] E_skip E_ret E_exit E_text E_draw E_seq E_cond E_block E_scope E_loop runOps runOp runDraw drawR slotsOf Hp.kept_zero runX runVF runV finV gate FlOK FlOK0 wantD exec fin opd look putF norm constD constC fieldAddrD loadD opCall lenD binD isShift intP strP numD indexAddrD indexD D.pd? D.pds? cells_enc sub capsOf callD argsD argD D.nf enc_agg unP box_enc cellD mkF H00 st1

mutual
theorem depth_nodes : ∀ v : Val, 1 ≤ v.depth ∧ v.depth ≤ v.nodes
  | .mk _ _ _ ps => by simp only [Val.depth, Val.nodes]; have := depthL_nodes ps; omega
theorem depthL_nodes : ∀ l : List Val, 0 ≤ depthL l ∧ depthL l ≤ nodesL l
  | [] => by simp [depthL, nodesL]
  | v :: r => by simp only [depthL, nodesL]; have := depth_nodes v; have := depthL_nodes r; omega
end

def fr24 (a : Int) (i : Nat) : Fr := [(1, .ptr 0 0), (3, .p (.int .i64 a)), (4, .p (.int .i64 i))]

theorem body24_end (v : Val) (a : Int) : E false ⟨0, 0⟩ 31 lp31_0 (fr24 a v.ps.length) (st1 v) =
    some (.exit 0, [(1, .ptr 0 0), (3, .p (.int .i64 a)), (4, .p (.int .i64 v.ps.length)), (9, .p (.bool false))], st1 v) := by
  simp [fr24, lp31_0, code31, Tryz.f31]

theorem body24_step (v : Val) (a : Int) (i : Nat) (hlt : i < v.ps.length) (hlen : v.ps.length < 9223372036854775807) (b : Int)
    (hr : ∀ H, W 31 [.p (enc v.ps[i])] H = some (.ret (.p (.int .i64 b)), H)) : E false ⟨0, 0⟩ 31 lp31_0 (fr24 a i) (st1 v) = some (.normal, fr24 (max a b) (i + 1), st1 v) := by
  have hw : IntKind.i64.wrap ((i : Int) + 1) = (i : Int) + 1 := wrap64 (by omega) (by omega)
  have hm : (if a < b then b else a) = max a b := by split <;> omega
  simp [fr24, lp31_0, code31, Tryz.f31, hlt, hr, hw, hm]

theorem cut24 (v : Val) (a : Int) (i : Nat) (F : Fr) (hF : norm [1, 3, 4] F = fr24 a i) : cutD ⟨0, 0⟩ [1, 3, 4] 1 0 F (st1 v) = some (fr24 a i, st1 v) := by
  simp only [cutD, hF]
  simp [fr24, frNo, blkNo, D.noRef, D.noRefs, Hp.cut]

theorem loop24_ok (v : Val) (hlen : v.ps.length < 9223372036854775807) (hrec : ∀ u ∈ v.ps, ∀ H, W 31 [.p (enc u)] H = some (.ret (.p (.int .i64 u.depth)), H)) : ∀ (m i : Nat) (a : Int) (F : Fr),
    m = v.ps.length - i → i ≤ v.ps.length → 0 ≤ a → norm [1, 3, 4] F = fr24 a i →
    loopO false ⟨0, 0⟩ 31 lp31_0 1 0 F (st1 v) = some (.exit 0, [(1, .ptr 0 0), (3, .p (.int .i64 (max a (depthL (v.ps.drop i))))), (4, .p (.int .i64 v.ps.length)), (9, .p (.bool false))], st1 v) := by
  intro m
  induction m with
  | zero =>
    intro i a F hm hi ha hF
    have hie : i = v.ps.length := by omega
    subst hie
    rw [loopO_eq, hd31_0, cut24 v _ _ F hF]
    simp only [body24_end, List.drop_length, depthL]
    rw [show max a 0 = a by omega]
  | succ m ih =>
    intro i a F hm hi ha hF
    have hlt : i < v.ps.length := by omega
    rw [List.drop_eq_getElem_cons hlt, depthL]
    rw [loopO_eq, hd31_0, cut24 v _ _ F hF]
    simp only [body24_step v a i hlt hlen _ (hrec v.ps[i] (List.getElem_mem hlt))]
    rw [ih (i + 1) (max a v.ps[i].depth) (fr24 _ (i + 1)) (by omega) (by omega) (by omega) rfl]
    rw [show max (max a v.ps[i].depth) (depthL (v.ps.drop (i + 1))) = max a (max v.ps[i].depth (depthL (v.ps.drop (i + 1)))) by omega]

theorem depth_step (v : Val) (hn : v.nodes < 4611686018427387904) (hrec : ∀ u ∈ v.ps, ∀ H, W 31 [.p (enc u)] H = some (.ret (.p (.int .i64 u.depth)), H)) (H : Hp) :
    W 31 [.p (enc v)] H = some (.ret (.p (.int .i64 v.depth)), H) := by
  refine W31_of rfl (by simp) ?_
  have hd := depth_nodes v
  rw [depth_eq] at hd
  rw [nodes_eq] at hn hd
  have hlen := nodesL_len v.ps
  have hd0 := depthL_nodes v.ps
  have hloop := loop24_ok v (by omega) hrec v.ps.length 0 0 (fr24 0 0) rfl (Nat.zero_le _) (by omega) rfl
  have hw : IntKind.i64.wrap (depthL v.ps + 1) = depthL v.ps + 1 := wrap64 (by omega) (by omega)
  have key : E false ⟨0, 0⟩ 31 code31 (mkF 0 [.p (enc v)]) H00 = some (.ret, [(2, .p (.int .i64 v.depth))], st1 v) := by
    have h00 : ((0 : Nat) : Int) = 0 := rfl
    have hmx : max 0 (depthL v.ps) = depthL v.ps := by omega
    simp only [lp31_0, code31, Tryz.f31, fr24, st1, h00, List.drop_zero, hmx] at hloop
    rw [depth_eq]
    simp [code31, Tryz.f31, hloop, hw]
  rw [key]
  simp [fnOut, retOut, resD, retsD, retD, oneD, D.noRefs, D.noRef, alone, Hp.cut]

mutual
theorem depth_W : ∀ v : Val, v.nodes < 4611686018427387904 → ∀ H, W 31 [.p (enc v)] H = some (.ret (.p (.int .i64 v.depth)), H)
  | .mk k n t ps, h, H => depth_step (.mk k n t ps) h (depthL_W ps (by simp only [Val.nodes] at h; omega)) H
theorem depthL_W : ∀ l : List Val, nodesL l < 4611686018427387904 → ∀ u ∈ l, ∀ H, W 31 [.p (enc u)] H = some (.ret (.p (.int .i64 u.depth)), H)
  | [], _, u, hu, H => by cases hu
  | v :: r, h, u, hu, H => by
    simp only [nodesL] at h
    have h1 := nodes_posv v; have h2 := nodesL_pos r
    rcases List.mem_cons.1 hu with e | hu
    · rw [e]; exact depth_W v (by omega) H
    · exact depthL_W r (by omega) u hu H
end

/-! ### none -/
def Val.zero : Val := .mk 0 0 ⟨#[]⟩ []
theorem z25 : zeroOf Tryz.prog 29 = some (.agg #[.int .i64 0, .int .i64 0, .string ⟨#[]⟩, .slice none 0 0]) := by kernel_rfl
theorem build25 (F : Fr) : buildD Tryz.prog F 29 [] = some (.agg [.p (.int .i64 0), .p (.int .i64 0), .p (.str ⟨#[]⟩), .lit true []]) := by kernel_rfl
def Val.none (v : Val) : Bool := v.eqb Val.zero
theorem enc_zero : enc Val.zero = .agg [.int .i64 0, .int .i64 0, .str ⟨#[]⟩, .sl []] := rfl

end Go.Vi
end

section
/- Vi: value.weigh (f76), value.fits (f106). No conditions. -/
namespace Go.Vi
open Go Go.Lib Go.Proofs
set_option maxRecDepth 100000
attribute [local simp] E_skip E_ret E_exit E_text E_draw E_seq E_cond E_block E_scope E_loop runOps runOp runDraw drawR slotsOf Hp.kept_zero runX runVF runV finV gate FlOK FlOK0 wantD exec fin opd look putF norm constD constC fieldAddrD loadD storeD opCall lenD binD isShift intP strP numD indexAddrD indexD D.pd? D.pds? cells_enc sub capsOf callD argsD argD D.nf enc_agg unP box_enc cellD mkF H00 st1

theorem cD_aggv (l : List D) : cellsD (.agg l) = l := rfl
theorem cD_paggv (l : List PD) : cellsD (.p (.agg l)) = l.map .p := rfl
theorem cD_intv (k : IntKind) (n : Int) : cellsD (.p (.int k n)) = [.p (.int k n)] := rfl
theorem cD_boolv (b : Bool) : cellsD (.p (.bool b)) = [.p (.bool b)] := rfl
theorem cD_strv (s : ByteArray) : cellsD (.p (.str s)) = [.p (.str s)] := rfl
theorem cD_slv (l : List PD) : cellsD (.p (.sl l)) = [.p (.sl l)] := rfl
theorem cD_litv (b : Bool) (l : List PD) : cellsD (.lit b l) = [.lit b l] := rfl
attribute [local simp] cD_aggv cD_paggv cD_intv cD_boolv cD_strv cD_slv cD_litv

mutual
def Val.vw : Val → Int → Int → Int × Int
  | .mk _ _ _ ps, m, d => if m < 1 ∨ d < 1 then (m + 1, d + 1) else vws ps m d 1 0
def vws : List Val → Int → Int → Int → Int → Int × Int
  | [], _, _, n, x => (n, x + 1)
  | v :: r, m, d, n, x =>
    if m < n + (v.vw (m - n) (d - 1)).1 then (m + 1, d + 1) else vws r m d (n + (v.vw (m - n) (d - 1)).1) (max x (v.vw (m - n) (d - 1)).2)
end
theorem vw_eq (v : Val) (m d : Int) : v.vw m d = if m < 1 ∨ d < 1 then (m + 1, d + 1) else vws v.ps m d 1 0 := by cases v; rfl

mutual
theorem vw_bd : ∀ (v : Val) (m d : Int), 0 ≤ m → 0 ≤ d → (1 ≤ (v.vw m d).1 ∧ (v.vw m d).1 ≤ m + 1) ∧ (1 ≤ (v.vw m d).2 ∧ (v.vw m d).2 ≤ d + 1)
  | .mk k n t ps, m, d, hm, hd => by
    simp only [Val.vw]
    split
    · exact ⟨⟨by simp only; omega, by simp only; omega⟩, by simp only; omega, by simp only; omega⟩
    · exact vws_bd ps m d 1 0 (by omega) (by omega) (by omega) (by omega)
theorem vws_bd : ∀ (ps : List Val) (m d n x : Int), 1 ≤ n → n ≤ m → 0 ≤ x → x ≤ d ∧ 1 ≤ d → (1 ≤ (vws ps m d n x).1 ∧ (vws ps m d n x).1 ≤ m + 1) ∧ (1 ≤ (vws ps m d n x).2 ∧ (vws ps m d n x).2 ≤ d + 1)
  | [], m, d, n, x, h1, h2, h3, h4 => by simp only [vws]; omega
  | v :: r, m, d, n, x, h1, h2, h3, h4 => by
    simp only [vws]
    have hv := vw_bd v (m - n) (d - 1) (by omega) (by omega)
    split
    · exact ⟨⟨by simp only; omega, by simp only; omega⟩, by simp only; omega, by simp only; omega⟩
    · exact vws_bd r m d _ _ (by omega) (by omega) (by omega) (by omega)
end

theorem z81 : zeroOf Tryz.prog 193 = some (.agg #[.int .i64 0, .int .i64 0]) := by kernel_rfl
theorem pl81 : placesOf Tryz.prog 193 = some [(0, 1), (1, 1)] := by kernel_rfl
theorem build81_1 (F : Fr) (n : Int) : buildD Tryz.prog F 193 [(0, .const (.int .i64 n))] = some (.agg [.p (.int .i64 n), .p (.int .i64 0)]) := by
  simp [buildD, z81, pl81, buildD.go, splice]
theorem build81_2 (F : Fr) (s t : Tmp) (a b : Int) (ha : look F s = .p (.int .i64 a)) (hb : look F t = .p (.int .i64 b)) :
    buildD Tryz.prog F 193 [(0, .tmp s), (1, .tmp t)] = some (.agg [.p (.int .i64 a), .p (.int .i64 b)]) := by
  simp [buildD, z81, pl81, buildD.go, splice, ha, hb]
theorem z25' : zeroOf Tryz.prog 29 = some (.agg #[.int .i64 0, .int .i64 0, .string ⟨#[]⟩, .slice none 0 0]) := by kernel_rfl

def pr2 (n x : Int) : Blk := .cells [.p (.int .i64 n), .p (.int .i64 x)]
def box25 (v : Val) : Blk := .cells [.p (.int .i64 v.k), .p (.int .i64 v.n), .p (.str v.t), .p (.sl (v.ps.map enc))]
def fr76 (v : Val) (i : Nat) (m d : Int) : Fr := [(1, .p (.int .i64 m)), (2, .p (.int .i64 d)), (6, .ptr 1 0), (7, .ptr 2 0), (24, .p (.sl (v.ps.map enc))), (25, .p (.int .i64 v.ps.length)), (26, .p (.int .i64 i))]
def st76 (v : Val) (n x : Int) : Hp := ⟨[box25 v, pr2 0 0, pr2 n x], []⟩

theorem body76_end (v : Val) (m d n x : Int) : E false ⟨0, 0⟩ 178 lp178_0 (fr76 v v.ps.length m d) (st76 v n x) =
    some (.exit 0, fr76 v v.ps.length m d ++ [(27, .p (.bool false))], st76 v n x) := by
  simp [fr76, st76, lp178_0, code178, Tryz.f178]

theorem body76_step (v : Val) (i : Nat) (m d n x a b : Int) (hlt : i < v.ps.length) (hlen : (i : Int) + 1 ≤ n) (hm : 0 ≤ m) (hm2 : m < 4611686018427387904) (hd : 1 ≤ d) (hd2 : d < 4611686018427387904)
    (hn : 1 ≤ n) (hn2 : n ≤ m) (ha : 1 ≤ a) (ha2 : a ≤ m - n + 1)
    (hr : ∀ H, W 178 [.p (enc v.ps[i]), .p (.int .i64 (m - n)), .p (.int .i64 (d - 1))] H = some (.ret (.p (.agg [.int .i64 a, .int .i64 b])), H)) :
    E false ⟨0, 0⟩ 178 lp178_0 (fr76 v i m d) (st76 v n x) = if m < n + a then some (.ret, [(6, .ptr 1 0)], ⟨[box25 v, pr2 (m + 1) (d + 1), pr2 (n + a) (max x b), box25 v.ps[i], pr2 a b], []⟩)
      else some (.normal, fr76 v (i + 1) m d, ⟨[box25 v, pr2 0 0, pr2 (n + a) (max x b), box25 v.ps[i], pr2 a b], []⟩) := by
  have hw : IntKind.i64.wrap ((i : Int) + 1) = (i : Int) + 1 := wrap64 (by omega) (by omega)
  have hw1 : IntKind.i64.wrap (m - n) = m - n := wrap64 (by omega) (by omega)
  have hw2 : IntKind.i64.wrap (d - 1) = d - 1 := wrap64 (by omega) (by omega)
  have hw3 : IntKind.i64.wrap (n + a) = n + a := wrap64 (by omega) (by omega)
  have hw4 : IntKind.i64.wrap (m + 1) = m + 1 := wrap64 (by omega) (by omega)
  have hw5 : IntKind.i64.wrap (d + 1) = d + 1 := wrap64 (by omega) (by omega)
  have hmx : (if x < b then b else x) = max x b := by split <;> omega
  by_cases hc : m < n + a
  · simp [fr76, st76, pr2, box25, lp178_0, code178, Tryz.f178, hlt, hr, hw, hw1, hw2, hw3, hw4, hw5, hmx, hc, z25', z81, splice, build81_2]
  · simp [fr76, st76, pr2, box25, lp178_0, code178, Tryz.f178, hlt, hr, hw, hw1, hw2, hw3, hw4, hw5, hmx, hc, z25', z81, splice, build81_2]

theorem cut76 (v : Val) (i : Nat) (m d n x : Int) (F : Fr) (ex : List Blk) (hF : norm [1, 2, 6, 7, 24, 25, 26] F = fr76 v i m d) :
    cutD ⟨0, 0⟩ [1, 2, 6, 7, 24, 25, 26] 3 0 F ⟨[box25 v, pr2 0 0, pr2 n x] ++ ex, []⟩ = some (fr76 v i m d, st76 v n x) := by
  simp only [cutD, hF]
  simp [fr76, st76, pr2, box25, frNo, blkNo, D.noRef, D.noRefs, Hp.cut]

def Vw76 (d : Int) : Prop := ∀ (u : Val) (l : Int) (H : Hp), 0 ≤ l → l < 4611686018427387904 → W 178 [.p (enc u), .p (.int .i64 l), .p (.int .i64 d)] H = some (.ret (.p (.agg [.int .i64 (u.vw l d).1, .int .i64 (u.vw l d).2])), H)

theorem loop76_ok (v : Val) (m d : Int) (hm2 : m < 4611686018427387904) (hd : 1 ≤ d) (hd2 : d < 4611686018427387904) (hrec : Vw76 (d - 1)) :
    ∀ (k i : Nat) (n x : Int) (F : Fr) (ex : List Blk), k = v.ps.length - i → i ≤ v.ps.length → (i : Int) + 1 ≤ n → n ≤ m → 0 ≤ x → x ≤ d → norm [1, 2, 6, 7, 24, 25, 26] F = fr76 v i m d →
    (∃ n' x', loopO false ⟨0, 0⟩ 178 lp178_0 3 0 F ⟨[box25 v, pr2 0 0, pr2 n x] ++ ex, []⟩ = some (.exit 0, fr76 v v.ps.length m d ++ [(27, .p (.bool false))], st76 v n' x') ∧
      vws (v.ps.drop i) m d n x = (n', x' + 1) ∧ 0 ≤ x' ∧ x' ≤ d) ∨
    (∃ ex', loopO false ⟨0, 0⟩ 178 lp178_0 3 0 F ⟨[box25 v, pr2 0 0, pr2 n x] ++ ex, []⟩ = some (.ret, [(6, .ptr 1 0)], ⟨box25 v :: pr2 (m + 1) (d + 1) :: ex', []⟩) ∧
      vws (v.ps.drop i) m d n x = (m + 1, d + 1)) := by
  intro k
  induction k with
  | zero =>
    intro i n x F ex hk hi hn hn2 hx hx2 hF
    have hie : i = v.ps.length := by omega
    subst hie
    left
    refine ⟨n, x, ?_, by rw [List.drop_length, vws], hx, hx2⟩
    rw [loopO_eq, hd178_0, cut76 v _ m d n x F ex hF]
    simp only [body76_end]
  | succ k ih =>
    intro i n x F ex hk hi hn hn2 hx hx2 hF
    have hlt : i < v.ps.length := by omega
    have hv := vw_bd v.ps[i] (m - n) (d - 1) (by omega) (by omega)
    rw [loopO_eq, hd178_0, cut76 v _ m d n x F ex hF, List.drop_eq_getElem_cons hlt, vws]
    simp only [body76_step v i m d n x _ (v.ps[i].vw (m - n) (d - 1)).2 hlt hn (by omega) hm2 hd hd2 (by omega) hn2 hv.1.1 hv.1.2 (fun H => hrec v.ps[i] (m - n) H (by omega) (by omega))]
    by_cases hc : m < n + (v.ps[i].vw (m - n) (d - 1)).1
    · right
      simp only [hc, if_true]
      exact ⟨_, rfl, trivial⟩
    · simp only [hc, if_false]
      exact ih (i + 1) _ _ (fr76 v (i + 1) m d) [box25 v.ps[i], pr2 _ _] (by omega) (by omega) (by omega) (by omega) (by omega) (by omega) rfl

theorem a81 : aggOf Tryz.prog 193 = some true := by kernel_rfl

theorem vw_step (v : Val) (m d : Int) (hm : 0 ≤ m) (hm2 : m < 4611686018427387904) (hd0 : -4611686018427387904 < d) (hd2 : d < 4611686018427387904) (hrec : 1 ≤ d → Vw76 (d - 1)) (H : Hp) :
    W 178 [.p (enc v), .p (.int .i64 m), .p (.int .i64 d)] H = some (.ret (.p (.agg [.int .i64 (v.vw m d).1, .int .i64 (v.vw m d).2])), H) := by
  refine W178_of rfl (by simp) ?_
  have fin1 : ∀ (p q : Int) (ex : List Blk), alone H (fnOut Tryz.prog [.cell 6 193] 0 0 (some (.ret, [(6, .ptr 1 0)], ⟨box25 v :: pr2 p q :: ex, []⟩))) = some (.ret (.p (.agg [.int .i64 p, .int .i64 q])), H) := fun p q ex => by
    simp [fnOut, retOut, resD, retsD, retD, oneD, D.noRefs, D.noRef, alone, Hp.cut, pr2]
  have hw4 : IntKind.i64.wrap (m + 1) = m + 1 := wrap64 (by omega) (by omega)
  have hw5 : IntKind.i64.wrap (d + 1) = d + 1 := wrap64 (by omega) (by omega)
  suffices key : ∃ ex, E false ⟨0, 0⟩ 178 code178 (mkF 0 [.p (enc v), .p (.int .i64 m), .p (.int .i64 d)]) H00 = some (.ret, [(6, .ptr 1 0)], ⟨box25 v :: pr2 (v.vw m d).1 (v.vw m d).2 :: ex, []⟩) by
    obtain ⟨ex, key⟩ := key
    rw [key, fin1]
  rw [vw_eq]
  by_cases h1 : m < 1
  · refine ⟨[pr2 1 0], ?_⟩
    simp [code178, Tryz.f178, box25, pr2, h1, z81, build81_1, build81_2, splice, hw4, hw5]
  · by_cases h2 : d < 1
    · refine ⟨[pr2 1 0], ?_⟩
      simp [code178, Tryz.f178, box25, pr2, h1, h2, z81, build81_1, build81_2, splice, hw4, hw5]
    · have h00 : ((0 : Nat) : Int) = 0 := rfl
      rcases loop76_ok v m d hm2 (by omega) hd2 (hrec (by omega)) v.ps.length 0 1 0 (fr76 v 0 m d) [] rfl (Nat.zero_le _) (by omega) (by omega) (by omega) (by omega) rfl with ⟨n', x', hloop, hv, hx, hx2⟩ | ⟨ex', hloop, hv⟩
      · rw [List.drop_zero] at hv
        have hw6 : IntKind.i64.wrap (x' + 1) = x' + 1 := wrap64 (by omega) (by omega)
        refine ⟨[pr2 n' x'], ?_⟩
        simp only [lp178_0, code178, Tryz.f178, fr76, st76, box25, pr2, h00, List.append_nil, List.cons_append, List.nil_append] at hloop
        simp [code178, Tryz.f178, box25, pr2, h1, h2, z81, build81_1, build81_2, splice, hloop, hv, hw6]
      · rw [List.drop_zero] at hv
        refine ⟨ex', ?_⟩
        simp only [lp178_0, code178, Tryz.f178, fr76, box25, pr2, h00, List.append_nil, List.cons_append, List.nil_append] at hloop
        simp [code178, Tryz.f178, box25, pr2, h1, h2, z81, build81_1, build81_2, splice, hloop, hv]

theorem vw_W : ∀ (n : Nat) (d : Int), d ≤ n → -4611686018427387904 < d → d < 4611686018427387904 → Vw76 d := by
  intro n
  induction n with
  | zero => intro d hn h1 h2 u l H h0 hl; exact vw_step u l d h0 hl h1 h2 (fun h => absurd h (by omega)) H
  | succ n ih => intro d hn h1 h2 u l H h0 hl; exact vw_step u l d h0 hl h1 h2 (fun h => ih (d - 1) (by omega) (by omega) (by omega)) H

/-! ### What both weigh is the same -/
theorem vws_big : ∀ (r : List Val) (m d n x : Int), d ≤ x → m < (vws r m d n x).1 ∨ d < (vws r m d n x).2
  | [], m, d, n, x, h => by simp only [vws]; right; omega
  | v :: r, m, d, n, x, h => by
    simp only [vws]
    split
    · left; simp only; omega
    · exact vws_big r m d _ _ (by omega)

mutual
theorem vw_weigh : ∀ (v : Val) (m d : Int), 0 ≤ m → 0 ≤ d →
    (0 ≤ v.weigh m d → v.vw m d = (v.nodes, v.depth) ∧ v.nodes ≤ m ∧ v.depth ≤ d) ∧ (v.weigh m d < 0 → m < (v.vw m d).1 ∨ d < (v.vw m d).2)
  | .mk k n t ps, m, d, hm, hd => by
    simp only [Val.weigh, Val.vw, Val.nodes, Val.depth]
    by_cases hc : m < 1 ∨ d < 1
    · rw [if_pos hc, if_pos hc]
      exact ⟨fun h => by omega, fun _ => .inl (by simp only; omega)⟩
    · rw [if_neg hc, if_neg hc]
      have h := vws_weighs ps m d 1 0 (by omega) (by omega) (by omega) (by omega) (by omega)
      refine ⟨fun h0 => ?_, fun h0 => h.2 h0⟩
      obtain ⟨h1, h2, h3⟩ := h.1 h0
      have hp := depthL_nodes ps
      refine ⟨?_, by omega, by omega⟩
      rw [h1]
      exact Prod.ext (by simp only) (by simp only; omega)
theorem vws_weighs : ∀ (ps : List Val) (m d n x : Int), 1 ≤ n → n ≤ m → 0 ≤ x → x + 1 ≤ d → 1 ≤ d →
    (0 ≤ weighs ps (m - n) (d - 1) → vws ps m d n x = (n + nodesL ps, max x (depthL ps) + 1) ∧ n + nodesL ps ≤ m ∧ max x (depthL ps) + 1 ≤ d) ∧
    (weighs ps (m - n) (d - 1) < 0 → m < (vws ps m d n x).1 ∨ d < (vws ps m d n x).2)
  | [], m, d, n, x, h1, h2, h3, h4, h5 => by
    simp only [weighs, vws, nodesL, depthL]
    refine ⟨fun _ => ⟨Prod.ext (by simp only; omega) (by simp only; omega), by omega, by omega⟩, fun h => by omega⟩
  | v :: r, m, d, n, x, h1, h2, h3, h4, h5 => by
    simp only [weighs, vws, nodesL, depthL]
    rw [if_pos (show (0 : Int) ≤ m - n by omega)]
    have hv := vw_weigh v (m - n) (d - 1) (by omega) (by omega)
    have hb := vw_bd v (m - n) (d - 1) (by omega) (by omega)
    have hp := nodes_posv v
    have hdp := depth_nodes v
    have hr0 := nodesL_pos r
    by_cases hw : 0 ≤ v.weigh (m - n) (d - 1)
    · obtain ⟨e1, e2, e3⟩ := hv.1 hw
      have e4 := weigh_nodes v (m - n) (d - 1) (by omega) hw
      rw [e1, e4]
      simp only
      rw [if_neg (by omega), show m - n - v.nodes = m - (n + v.nodes) by omega]
      have h := vws_weighs r m d (n + v.nodes) (max x v.depth) (by omega) (by omega) (by omega) (by omega) h5
      refine ⟨fun h0 => ?_, fun h0 => h.2 h0⟩
      obtain ⟨f1, f2, f3⟩ := h.1 h0
      refine ⟨?_, by omega, by omega⟩
      rw [f1]
      exact Prod.ext (by simp only; omega) (by simp only; omega)
    · have hneg := weigh_le v (m - n) (d - 1) (by omega)
      have hle := weighs_le r (v.weigh (m - n) (d - 1)) (d - 1) hneg.2
      refine ⟨fun h0 => by omega, fun _ => ?_⟩
      split
      · left; simp only; omega
      · rename_i hc
        rcases hv.2 (by omega) with h | h
        · omega
        · exact vws_big r m d _ _ (by omega)
end
end Go.Vi
end

section
/- Vi: value.fits (f106), value.in (f72). No conditions. -/
namespace Go.Vi
open Go Go.Lib Go.Proofs
set_option maxRecDepth 100000
attribute [local simp] E_skip E_ret E_exit E_text E_draw E_seq E_cond E_block E_scope E_loop runOps runOp runDraw drawR slotsOf Hp.kept_zero runX runVF runV finV gate FlOK FlOK0 wantD exec fin opd look putF norm constD constC fieldAddrD loadD storeD opCall lenD binD isShift intP strP numD indexAddrD indexD D.pd? D.pds? cells_enc sub capsOf callD argsD argD D.nf enc_agg unP box_enc cellD mkF H00 st1 cD_aggv cD_paggv cD_intv cD_boolv cD_strv cD_slv cD_litv

theorem in72_W (n lo hi : Int) (H : Hp) : W 181 [.p (.int .i64 n), .p (.int .i64 lo), .p (.int .i64 hi)] H = some (.ret (.p (.bool (inB n lo hi))), H) := by
  refine W181_of rfl (by simp) ?_
  have key : E false ⟨0, 0⟩ 181 code181 (mkF 0 [.p (.int .i64 n), .p (.int .i64 lo), .p (.int .i64 hi)]) H00 = some (.ret, [(6, .p (.bool (inB n lo hi)))], H00) := by
    by_cases h1 : lo ≤ n <;> simp [code181, Tryz.f181, inB, h1]
  rw [key]
  simp [fnOut, retOut, resD, retsD, retD, oneD, D.noRefs, D.noRef, alone, Hp.cut]

theorem fits_vw (v : Val) : (decide ((v.vw 200 8).1 ≤ 200) && decide ((v.vw 200 8).2 ≤ 8)) = v.fits := by
  have h := vw_weigh v 200 8 (by omega) (by omega)
  unfold Val.fits
  by_cases hw : 0 ≤ v.weigh 200 8
  · obtain ⟨h1, h2, h3⟩ := h.1 hw
    simp [hw, h1, h2, h3]
  · rcases h.2 (by omega) with h1 | h1
    · have : ¬ (v.vw 200 8).1 ≤ 200 := by omega
      simp [hw, this]
    · have : ¬ (v.vw 200 8).2 ≤ 8 := by omega
      simp [hw, this]

theorem fits106_W (v : Val) (H : Hp) : W 142 [.p (enc v)] H = some (.ret (.p (.bool v.fits)), H) := by
  refine W142_of rfl (by simp) ?_
  have h1 : ∀ H, W 178 [.p (enc v), .p (.int .i64 200), .p (.int .i64 8)] H = some (.ret (.p (.agg [.int .i64 (v.vw 200 8).1, .int .i64 (v.vw 200 8).2])), H) :=
    fun H => vw_W 8 8 (by omega) (by omega) (by omega) v 200 H (by omega) (by omega)
  suffices key : ∃ H1, E false ⟨0, 0⟩ 142 code142 (mkF 0 [.p (enc v)]) H00 = some (.ret, [(2, .p (.bool v.fits))], ⟨H1, []⟩) by
    obtain ⟨H1, key⟩ := key
    rw [key]
    simp [fnOut, retOut, resD, retsD, retD, oneD, D.noRefs, D.noRef, alone, Hp.cut]
  rw [← fits_vw]
  refine ⟨[box25 v, pr2 (v.vw 200 8).1 (v.vw 200 8).2], ?_⟩
  by_cases hc : (v.vw 200 8).1 ≤ 200
  · simp [code142, Tryz.f142, h1, hc, box25, pr2, z81, splice]
  · simp [code142, Tryz.f142, h1, hc, box25, pr2, z81, splice]
end Go.Vi
end
