/- It is proved here what functions of the program's layer 5 and of its specification compute; conditions stand with each. Which values a kind has. -/
import Derived.Test.YtjkpdlloccnilaaGreatDoorMKR
import Derived.Test.YtjkpdlloccnilaaGreatDoorMVB
set_option linter.unusedVariables false
set_option linter.unusedSimpArgs false

section
/- layer 5: which values a kind has; swardref05.Is. No conditions but those that stand with each. -/
namespace Go.Vi
open Go Go.Lib Go.Proofs
set_option maxRecDepth 100000
attribute [local simp] E_skip E_ret E_exit E_text E_draw E_seq E_cond E_block E_scope E_loop runOps runOp drawR slotsOf Hp.kept_zero runDraw runVF runX runV finV gate FlOK FlOK0 wantD exec fin opd look putF norm constD constC fieldAddrD loadD storeD opCall lenD binD isShift intP strP numD indexAddrD indexD D.pd? D.pds? sub capsOf callD argsD argD D.nf unP cellD mkF H00 cD_agg cD_pagg cD_int cD_bool cD_str cD_sl cD_lit cells_int
attribute [local simp] fnOut retOut resD retsD retD oneD D.noRefs D.noRef alone Hp.cut
attribute [local simp] cells_encK encK_agg box_encK cells_enc enc_agg box_enc one_int one_str one_sl one_agg cD_own cD_ptr

mutual
/-- A value is of a kind. -/
def Kd.has : Kd → Val → Bool
  | .mk f lo hi mo ps, v =>
    if f = 2 then v.k == 1 && rangeB v.n lo hi
    else if f = 3 then v.k == 2
    else if f = 4 then v.k == 3
    else if f = 5 then v.k == 4 && decide (v.ps.length = ps.length) && hasZ ps v.ps
    else if f = 6 then v.k == 5 && decide ((v.ps.length : Int) ≤ mo) && hasA ps v.ps
    else false
def hasZ : List Kd → List Val → Bool
  | a :: r, v :: s => a.has v && hasZ r s
  | _, _ => true
def hasA : List Kd → List Val → Bool
  | a :: _, l => l.all fun v => a.has v
  | [], _ => true
end
theorem hasZ_zip : ∀ (l : List Kd) (m : List Val), hasZ l m = zipAll Kd.has l m
  | [], [] => by simp [hasZ, zipAll]
  | a :: r, v :: s => by simp only [hasZ, zipAll, hasZ_zip r s]
  | [], _ :: _ => by simp [hasZ, zipAll]
  | _ :: _, [] => by simp [hasZ, zipAll]
theorem hasK_eq (k : Kd) (v : Val) : k.has v = if k.f = 2 then v.k == 1 && rangeB v.n k.lo k.hi
    else if k.f = 3 then v.k == 2
    else if k.f = 4 then v.k == 3
    else if k.f = 5 then v.k == 4 && decide (v.ps.length = k.ps.length) && zipAll Kd.has k.ps v.ps
    else if k.f = 6 then v.k == 5 && decide ((v.ps.length : Int) ≤ k.mo) && hasA k.ps v.ps
    else false := by
  obtain ⟨f, lo, hi, mo, ps⟩ := k
  simp only [Kd.has, hasZ_zip]
  rfl
abbrev vz : Val := .mk 0 0 ⟨#[]⟩ []
def bV (v : Val) : Blk := .cells [.p (.int .i64 v.k), .p (.int .i64 v.n), .p (.str v.t), .p (.sl (v.ps.map enc))]
def st22 (k : Kd) (v : Val) : Hp := ⟨[bK k, bV v], []⟩
def fr22 (i : Nat) : Fr := [(2, .ptr 0 0), (3, .ptr 1 0), (5, .p (.int .i64 i))]
def fr22s (i : Nat) : Fr := [(2, .ptr 0 0), (3, .ptr 1 0), (6, .p (.int .i64 i))]
def Rec22 (n : Nat) : Prop := ∀ (u : Kd) (v : Val) (H : Hp), u.nodes < n → u.shaped = true → v.nodes < 4611686018427387904 → W 22 [.p (encK u), .p (enc v)] H = some (.ret (.p (.bool (u.has v))), H)
theorem ps_lenv {v : Val} (h : v.nodes < 4611686018427387904) : v.ps.length < 4611686018427387904 ∧ ∀ u ∈ v.ps, u.nodes < 4611686018427387904 := by
  refine ⟨fine_len (nodes_fine v h), fun u hu => ?_⟩
  have := nodes_memv v u hu
  omega
theorem loop22_ok (k : Kd) (v : Val) (hv : v.nodes < 4611686018427387904) (hs : ∀ x ∈ k.ps, x.shaped = true) (hl : v.ps.length = k.ps.length) (hrec : Rec22 k.nodes) : loopO false ⟨0, 0⟩ 22 lp22_0 2 0 (fr22 0) (st22 k v) =
    some (if zipAll Kd.has k.ps v.ps = true then (.exit 1, [(2, .ptr 0 0), (3, .ptr 1 0), (5, .p (.int .i64 v.ps.length)), (51, .p (.bool false))], st22 k v) else (.ret, [(4, .p (.bool false))], st22 k v)) := by
  obtain ⟨hla, hva⟩ := ps_lenv hv
  rw [← range_all2 Kd.has kz vz k.ps v.ps hl.symm, ← hl]
  refine for_all (hd22_0) v.ps.length fr22 (st22 k v) _ (by simp) (by simp) ?_ (fun i hi => ?_) (F := fr22 0) (H := st22 k v) (by simp [cutD, fr22, frNo, st22, bK, bV, blkNo])
  · simp [lp22_0, code22, Tryz.f22, fr22, st22, bK, bV]
  · have hik : i < k.ps.length := by omega
    have hr := fun H => hrec k.ps[i] v.ps[i] H (ps_nodes (List.getElem_mem hik)) (hs _ (List.getElem_mem hik)) (hva _ (List.getElem_mem hi))
    have hw : IntKind.i64.wrap ((i : Int) + 1) = (i : Int) + 1 := wrap64 (by omega) (by omega)
    rw [getD_get hi, getD_get hik]
    cases hb : k.ps[i].has v.ps[i] with
    | true =>
      left
      rw [hb] at hr
      refine ⟨rfl, fr22 (i + 1), st22 k v, ?_, by simp [cutD, fr22, frNo, st22, bK, bV, blkNo]⟩
      simp [lp22_0, code22, Tryz.f22, fr22, st22, bK, bV, hi, hik, hr, hw]
    | false =>
      right
      rw [hb] at hr
      refine ⟨rfl, ?_⟩
      simp [lp22_0, code22, Tryz.f22, fr22, st22, bK, bV, hi, hik, hr, hw]
theorem loop22s_ok (k a : Kd) (v : Val) (hv : v.nodes < 4611686018427387904) (hs : a.shaped = true) (hk : k.ps = [a]) (hrec : Rec22 k.nodes) : loopO false ⟨0, 0⟩ 22 lp22_1 2 0 (fr22s 0) (st22 k v) =
    some (if v.ps.all a.has = true then (.exit 3, [(2, .ptr 0 0), (3, .ptr 1 0), (6, .p (.int .i64 v.ps.length)), (83, .p (.bool false))], st22 k v) else (.ret, [(4, .p (.bool false))], st22 k v)) := by
  obtain ⟨hla, hva⟩ := ps_lenv hv
  rw [← range_all a.has vz v.ps]
  refine for_all (hd22_1) v.ps.length fr22s (st22 k v) _ (by simp) (by simp) ?_ (fun i hi => ?_) (F := fr22s 0) (H := st22 k v) (by simp [cutD, fr22s, frNo, st22, bK, bV, blkNo])
  · simp [lp22_1, code22, Tryz.f22, fr22s, st22, bK, bV]
  · have hr := fun H => hrec a v.ps[i] H (ps_nodes (k := k) (by rw [hk]; simp)) hs (hva _ (List.getElem_mem hi))
    have hw : IntKind.i64.wrap ((i : Int) + 1) = (i : Int) + 1 := wrap64 (by omega) (by omega)
    rw [getD_get hi]
    cases hb : a.has v.ps[i] with
    | true =>
      left
      rw [hb] at hr
      refine ⟨rfl, fr22s (i + 1), st22 k v, ?_, by simp [cutD, fr22s, frNo, st22, bK, bV, blkNo]⟩
      simp [lp22_1, code22, Tryz.f22, fr22s, st22, bK, bV, hi, hk, hr, hw]
    | false =>
      right
      rw [hb] at hr
      refine ⟨rfl, ?_⟩
      simp [lp22_1, code22, Tryz.f22, fr22s, st22, bK, bV, hi, hk, hr, hw]
set_option maxHeartbeats 1000000 in
theorem is22_W (k : Kd) (v : Val) (H : Hp) (hb : k.nodes < 4611686018427387904) (hs : k.shaped = true) (hv : v.nodes < 4611686018427387904) : W 22 [.p (encK k), .p (enc v)] H = some (.ret (.p (.bool (k.has v))), H) := by
  have key : ∀ (n : Nat) (k : Kd) (v : Val) (H : Hp), k.nodes ≤ n → k.nodes < 4611686018427387904 → k.shaped = true → v.nodes < 4611686018427387904 → W 22 [.p (encK k), .p (enc v)] H = some (.ret (.p (.bool (k.has v))), H) := by
    intro n
    induction n with
    | zero => intro k v H h _; have := nodes_pos k; omega
    | succ n ih =>
      intro k v H hn hb hs hv
      refine W22_of rfl (by simp) ?_
      have hrec : Rec22 k.nodes := fun u v H hu hs hv => ih u v H (by omega) (by omega) hs hv
      rw [hasK_eq]
      by_cases c2 : k.f = 2
      · have e := eq_true c2
        by_cases c : v.k = 1 <;> (first | have e1 := eq_false c | have e1 := eq_true c) <;> simp [code22, Tryz.f22, e, e1, in68_W]
      have n2 := eq_false c2
      by_cases c3 : k.f = 3
      · have e := eq_true c3
        by_cases c : v.k = 2 <;> (first | have e1 := eq_false c | have e1 := eq_true c) <;> simp [code22, Tryz.f22, n2, e, e1]
      have n3 := eq_false c3
      by_cases c4 : k.f = 4
      · have e := eq_true c4
        by_cases c : v.k = 3 <;> (first | have e1 := eq_false c | have e1 := eq_true c) <;> simp [code22, Tryz.f22, n2, n3, e, e1]
      have n4 := eq_false c4
      by_cases c5 : k.f = 5
      · have e := eq_true c5
        by_cases c : v.k = 4
        · have e1 := eq_true c
          by_cases hl : v.ps.length = k.ps.length
          · have hl3 : ((v.ps.length : Int) = k.ps.length) = True := eq_true (by omega)
            have hloop := loop22_ok k v hv (parts_ok hs) hl hrec
            have h00 : ((0 : Nat) : Int) = 0 := rfl
            simp only [lp22_0, code22, Tryz.f22, fr22, st22, bK, bV, h00] at hloop
            have hl2 := eq_true hl
            cases hz : zipAll Kd.has k.ps v.ps <;> rw [hz] at hloop <;> simp only [Bool.false_eq_true, if_false, if_true] at hloop <;> simp [code22, Tryz.f22, n2, n3, n4, e, e1, hl2, hl3, hloop]
          · have hl2 := eq_false hl
            have hl3 : ((v.ps.length : Int) = k.ps.length) = False := eq_false (by omega)
            simp [code22, Tryz.f22, n2, n3, n4, e, e1, hl2, hl3]
        · have e1 := eq_false c
          simp [code22, Tryz.f22, n2, n3, n4, e, e1]
      have n5 := eq_false c5
      by_cases c6 : k.f = 6
      · have e := eq_true c6
        by_cases c : v.k = 5
        · have e1 := eq_true c
          by_cases hl : (v.ps.length : Int) ≤ k.mo
          · obtain ⟨a, ha, _⟩ := set_part hs c6
            have hloop := loop22s_ok k a v hv (parts_ok hs a (by rw [ha]; simp)) ha hrec
            have h00 : ((0 : Nat) : Int) = 0 := rfl
            have hl2 := eq_true hl
            have hl3 : (k.mo < (v.ps.length : Int)) = False := eq_false (by omega)
            have hA : hasA k.ps v.ps = v.ps.all a.has := by rw [ha]; rfl
            rw [hA]
            simp only [lp22_1, code22, Tryz.f22, fr22s, st22, bK, bV, h00] at hloop
            cases hz : v.ps.all a.has <;> rw [hz] at hloop <;> simp only [Bool.false_eq_true, if_false, if_true] at hloop <;> simp [code22, Tryz.f22, n2, n3, n4, n5, e, e1, hl2, hl3, hloop]
          · have hl2 := eq_false hl
            have hl3 : (k.mo < (v.ps.length : Int)) = True := eq_true (by omega)
            simp [code22, Tryz.f22, n2, n3, n4, n5, e, e1, hl2, hl3]
        · have e1 := eq_false c
          simp [code22, Tryz.f22, n2, n3, n4, n5, e, e1]
      have n6 := eq_false c6
      simp [code22, Tryz.f22, n2, n3, n4, n5, n6]
  exact key k.nodes k v H (Nat.le_refl _) hb hs hv
end Go.Vi
end

section
/- layer 5: kind.is, kind.Is. No conditions but those that stand with each. -/
namespace Go.Vi
open Go Go.Lib Go.Proofs
set_option maxRecDepth 100000
attribute [local simp] E_skip E_ret E_exit E_text E_draw E_seq E_cond E_block E_scope E_loop runOps runOp drawR slotsOf Hp.kept_zero runDraw runVF runX runV finV gate FlOK FlOK0 wantD exec fin opd look putF norm constD constC fieldAddrD loadD storeD opCall lenD binD isShift intP strP numD indexAddrD indexD D.pd? D.pds? sub capsOf callD argsD argD D.nf unP cellD mkF H00 cD_agg cD_pagg cD_int cD_bool cD_str cD_sl cD_lit cells_int
attribute [local simp] fnOut retOut resD retsD retD oneD D.noRefs D.noRef alone Hp.cut
attribute [local simp] cells_encK encK_agg box_encK cells_enc enc_agg box_enc one_int one_str one_sl one_agg cD_own cD_ptr

theorem W97_ofH {args : List D} {H : Hp} (hp : ¬ (ch.pure 97 = true ∧ args.all (D.noRef 0 0) = true)) (hl : args.length ≤ 11) {o : Out × Hp}
    (h : fnOut Tryz.prog [.tmp 3] H.B.length H.A.length (E false ⟨0, 0⟩ 97 code97 (mkF 0 args) H) = some o) : W 97 args H = some o :=
  W_ofH Tryz.func97 rfl (by kernel_rfl) rfl rfl rfl rfl hp (by rw [Tryz.ntmps97]; exact hl) h
theorem W96_ofH {args : List D} {H : Hp} (hp : ¬ (ch.pure 96 = true ∧ args.all (D.noRef 0 0) = true)) (hl : args.length ≤ 9) {o : Out × Hp}
    (h : fnOut Tryz.prog [.tmp 4] H.B.length H.A.length (E false ⟨0, 0⟩ 96 code96 (mkF 0 args) H) = some o) : W 96 args H = some o :=
  W_ofH Tryz.func96 rfl (by kernel_rfl) rfl rfl rfl rfl hp (by rw [Tryz.ntmps96]; exact hl) h
theorem contains_WH (l : List Val) (g : Nat) (hg : g < 1000000000) (ho : (g == 1000000) = false) (k : Nat) (hlen : l.length < 9223372036854775807) (p : Val → Bool) (B : List Blk) (A : List Arr)
    (hr : ∀ u ∈ l, W g [.p (enc u), .ptr k 0] ⟨B, A⟩ = some (.ret (.p (.bool (p u))), ⟨B, A⟩)) :
    W 96 [.p (.sl (l.map enc)), .fn g [.ptr k 0]] ⟨B, A⟩ = some (.ret (.p (.bool (l.any p))), ⟨B, A⟩) := by
  refine W96_ofH (by simp [D.noRef, D.noRefs]) (by simp) ?_
  have h1 := idx133_WH l g hg ho k hlen p B A hr
  have h2 : decide (0 ≤ idxP p l 0) = l.any p := by
    have key : ∀ (l : List Val) (i : Nat), decide (0 ≤ idxP p l i) = l.any p := by
      intro l
      induction l with
      | nil => intro i; simp [idxP]
      | cons v r ih =>
        intro i
        simp only [idxP, List.any_cons]
        by_cases hb : p v = true
        · simp [hb]
        · simp [hb, ih (i + 1)]
    exact key l 0
  have key : E false ⟨0, 0⟩ 96 code96 (mkF 0 [.p (.sl (l.map enc)), .fn g [.ptr k 0]]) ⟨B, A⟩ = some (.ret, [(4, .p (.bool (l.any p)))], ⟨B, A⟩) := by
    simp [code96, Tryz.f96, h1, h2]
  rw [key]
  simp only [fnOut, retOut, resD, look, if_true, retsD, retD, argD, D.nf, D.pd?, Bool.false_eq_true, if_false, oneD]
  split
  · simp [Hp.cut]
  · rfl

def Rec62 (n : Nat) : Prop := ∀ (u : Kd) (v : Val) (H : Hp), u.nodes < n → u.shaped = true → v.nodes < 4611686018427387904 → W 62 [.p (encK u), .p (enc v)] H = some (.ret (.p (.bool (u.has v))), H)
theorem is97_W (k a : Kd) (v u : Val) (hk : k.ps = [a]) (hs : a.shaped = true) (hu : u.nodes < 4611686018427387904) (hrec : Rec62 k.nodes) :
    W 97 [.p (enc u), .ptr 0 0] ⟨[bK k, bV v], []⟩ = some (.ret (.p (.bool (!a.has u))), ⟨[bK k, bV v], []⟩) := by
  refine W97_ofH (by simp [D.noRef, D.noRefs]) (by simp) ?_
  have hr := fun H => hrec a u H (ps_nodes (k := k) (by rw [hk]; simp)) hs hu
  have key : E false ⟨0, 0⟩ 97 code97 (mkF 0 [.p (enc u), .ptr 0 0]) ⟨[bK k, bV v], []⟩ = some (.ret, [(3, .p (.bool (!a.has u)))], ⟨[bK k, bV v, bV u], []⟩) := by
    simp [code97, Tryz.f97, bK, bV, hk, hr]
  rw [key]
  simp [bK, bV, blkNo]
def m62 (k : Kd) (v : Val) : Hp := ⟨[bK k, bV v], []⟩
def fr62 (v : Val) (i : Nat) : Fr := [(2, .ptr 0 0), (53, .p (.sl (v.ps.map enc))), (54, .p (.int .i64 v.ps.length)), (55, .p (.int .i64 i))]
def Q62 (k : Kd) (v : Val) (s : Bool) (o : CO) : Prop :=
  if s = true then o = (.exit 1, [(2, .ptr 0 0), (53, .p (.sl (v.ps.map enc))), (54, .p (.int .i64 v.ps.length)), (55, .p (.int .i64 v.ps.length)), (56, .p (.bool false))], m62 k v)
  else ∃ X, o = (.ret, [(4, .p (.bool false))], ⟨X, []⟩)
theorem zip_drop {α β : Type} (q : α → β → Bool) (l : List α) (m : List β) (i : Nat) (h1 : i < l.length) (h2 : i < m.length) : zipAll q (l.drop i) (m.drop i) = (q l[i] m[i] && zipAll q (l.drop (i + 1)) (m.drop (i + 1))) := by
  rw [List.drop_eq_getElem_cons h1, List.drop_eq_getElem_cons h2]; rfl
theorem loop62_ok (k : Kd) (v : Val) (hv : v.nodes < 4611686018427387904) (hs : ∀ x ∈ k.ps, x.shaped = true) (hl : v.ps.length = k.ps.length) (hrec : Rec62 k.nodes) :
    ∃ o, loopO false ⟨0, 0⟩ 62 lp62_0 2 0 (fr62 v 0) (m62 k v) = some o ∧ Q62 k v (zipAll Kd.has k.ps v.ps) o := by
  obtain ⟨hla, hva⟩ := ps_lenv hv
  refine for_ex (mu := false) (hd62_0) v.ps.length (fun i F H => F = fr62 v i ∧ H = m62 k v ∧ zipAll Kd.has k.ps v.ps = zipAll Kd.has (k.ps.drop i) (v.ps.drop i)) (Q62 k v (zipAll Kd.has k.ps v.ps)) ?_ ?_
    (F := fr62 v 0) (H := m62 k v) (F0 := fr62 v 0) (H0 := m62 k v) (by simp [cutD, fr62, frNo, m62, bK, bV, blkNo]) ⟨rfl, rfl, rfl⟩
  · rintro F H ⟨rfl, rfl, h5⟩
    have h6 : zipAll Kd.has k.ps v.ps = true := by rw [h5, List.drop_length]; cases k.ps.drop v.ps.length <;> rfl
    refine ⟨_, ?_, ?_, by rw [h6]; exact rfl⟩
    · simp [lp62_0, code62, Tryz.f62, fr62, m62]
    · simp
  · rintro i F H hi ⟨rfl, rfl, h5⟩
    have hik : i < k.ps.length := by omega
    have hr := fun H => hrec k.ps[i] v.ps[i] H (ps_nodes (List.getElem_mem hik)) (hs _ (List.getElem_mem hik)) (hva _ (List.getElem_mem hi))
    have hw : IntKind.i64.wrap ((i : Int) + 1) = (i : Int) + 1 := wrap64 (by omega) (by omega)
    rw [zip_drop _ _ _ _ hik hi] at h5
    cases hb : k.ps[i].has v.ps[i] with
    | true =>
      right
      rw [hb] at hr h5
      refine ⟨fr62 v (i + 1), ⟨[bK k, bV v, bV v.ps[i]], []⟩, ?_, fr62 v (i + 1), m62 k v, by simp [cutD, fr62, frNo, m62, bK, bV, blkNo], rfl, rfl, by rw [h5]; rfl⟩
      simp [lp62_0, code62, Tryz.f62, fr62, m62, bK, bV, hi, hik, hr, hw, splice]
    | false =>
      left
      rw [hb] at hr h5
      refine ⟨(.ret, [(4, .p (.bool false))], ⟨[bK k, bV v, bV v.ps[i]], []⟩), ?_, by simp, by rw [h5]; exact ⟨_, rfl⟩⟩
      simp [lp62_0, code62, Tryz.f62, fr62, m62, bK, bV, hi, hik, hr, hw, splice]
set_option maxHeartbeats 1000000 in
theorem is62_W (k : Kd) (v : Val) (H : Hp) (hb : k.nodes < 4611686018427387904) (hs : k.shaped = true) (hv : v.nodes < 4611686018427387904) : W 62 [.p (encK k), .p (enc v)] H = some (.ret (.p (.bool (k.has v))), H) := by
  have key : ∀ (n : Nat) (k : Kd) (v : Val) (H : Hp), k.nodes ≤ n → k.nodes < 4611686018427387904 → k.shaped = true → v.nodes < 4611686018427387904 → W 62 [.p (encK k), .p (enc v)] H = some (.ret (.p (.bool (k.has v))), H) := by
    intro n
    induction n with
    | zero => intro k v H h _; have := nodes_pos k; omega
    | succ n ih =>
      intro k v H hn hb hs hv
      refine W62_of rfl (by simp) ?_
      have hrec : Rec62 k.nodes := fun u v H hu hs hv => ih u v H (by omega) (by omega) hs hv
      rw [hasK_eq]
      by_cases c2 : k.f = 2
      · have e := eq_true c2
        by_cases c : v.k = 1
        · have e1 := eq_true c
          by_cases c7 : k.lo ≤ v.n <;> (first | have e7 := eq_false c7 | have e7 := eq_true c7) <;> simp [code62, Tryz.f62, e, e1, e7, rangeB]
        · have e1 := eq_false c
          simp [code62, Tryz.f62, e, e1]
      have n2 := eq_false c2
      by_cases c3 : k.f = 3
      · have e := eq_true c3
        by_cases c : v.k = 2 <;> (first | have e1 := eq_false c | have e1 := eq_true c) <;> simp [code62, Tryz.f62, n2, e, e1]
      have n3 := eq_false c3
      by_cases c4 : k.f = 4
      · have e := eq_true c4
        by_cases c : v.k = 3 <;> (first | have e1 := eq_false c | have e1 := eq_true c) <;> simp [code62, Tryz.f62, n2, n3, e, e1]
      have n4 := eq_false c4
      by_cases c5 : k.f = 5
      · have e := eq_true c5
        by_cases c : v.k = 4
        · have e1 := eq_true c
          by_cases hl : v.ps.length = k.ps.length
          · have hl3 : ((v.ps.length : Int) = k.ps.length) = True := eq_true (by omega)
            obtain ⟨o, hloop, hq⟩ := loop62_ok k v hv (parts_ok hs) hl hrec
            have h00 : ((0 : Nat) : Int) = 0 := rfl
            simp only [lp62_0, code62, Tryz.f62, fr62, m62, bK, bV, h00] at hloop
            have hl2 := eq_true hl
            unfold Q62 at hq
            cases hz : zipAll Kd.has k.ps v.ps with
            | true =>
              rw [hz] at hq
              rw [if_pos rfl] at hq
              subst hq
              simp [code62, Tryz.f62, n2, n3, n4, e, e1, hl2, hl3, hloop, m62, bK, bV]
            | false =>
              rw [hz] at hq
              rw [if_neg (by simp)] at hq
              obtain ⟨X, rfl⟩ := hq
              simp [code62, Tryz.f62, n2, n3, n4, e, e1, hl2, hl3, hloop]
          · have hl2 := eq_false hl
            have hl3 : ((v.ps.length : Int) = k.ps.length) = False := eq_false (by omega)
            simp [code62, Tryz.f62, n2, n3, n4, e, e1, hl2, hl3]
        · have e1 := eq_false c
          simp [code62, Tryz.f62, n2, n3, n4, e, e1]
      have n5 := eq_false c5
      by_cases c6 : k.f = 6
      · have e := eq_true c6
        by_cases c : v.k = 5
        · have e1 := eq_true c
          by_cases hl : (v.ps.length : Int) ≤ k.mo
          · obtain ⟨a, ha, _⟩ := set_part hs c6
            have hsa := parts_ok hs a (by rw [ha]; simp)
            obtain ⟨hla, hva⟩ := ps_lenv hv
            have hc := contains_WH v.ps 97 (by decide) rfl 0 (by omega) (fun u => !a.has u) [bK k, bV v] [] fun u hu => is97_W k a v u ha hsa (hva u hu) hrec
            have hl2 := eq_true hl
            have hA : hasA k.ps v.ps = v.ps.all a.has := by rw [ha]; rfl
            have hn : (v.ps.any fun u => !a.has u) = !(v.ps.all a.has) := by
              induction v.ps with
              | nil => rfl
              | cons x r ih => simp [List.any_cons, List.all_cons, ih]
            rw [hn] at hc
            simp only [bK, bV] at hc
            rw [hA]
            cases hz : v.ps.all a.has <;> rw [hz] at hc <;> simp [code62, Tryz.f62, n2, n3, n4, n5, e, e1, hl2, hc, mkFn]
          · have hl2 := eq_false hl
            simp [code62, Tryz.f62, n2, n3, n4, n5, e, e1, hl2]
        · have e1 := eq_false c
          simp [code62, Tryz.f62, n2, n3, n4, n5, e, e1]
      have n6 := eq_false c6
      simp [code62, Tryz.f62, n2, n3, n4, n5, n6]
  exact key k.nodes k v H (Nat.le_refl _) hb hs hv

def isR (k : Kd) (v : Val) : D := if k.valid = true ∧ v.valid = true then .tup [.p (.bool (k.has v)), .p (.int .i64 0)] else .tup [.p (.bool false), .p (.int .i64 2)]
theorem is15_W (k : Kd) (v : Val) (H : Hp) (hb : k.nodes < 4611686018427387904) : W 15 [.p (encK k), .p (enc v)] H = some (.ret (isR k v), H) := by
  refine W15_of rfl (by simp) ?_
  have h60 := fun H => valid60_W k H hb
  have h61 := fun H => check29_W v H
  unfold isR
  cases hv : k.valid with
  | false => simp [code15, Tryz.f15, h60, hv]
  | true =>
    cases hv' : v.valid with
    | false => simp [code15, Tryz.f15, h60, h61, hv, hv']
    | true =>
      have := (valid_fine hv').2
      have h62 := fun H => is62_W k v H hb (valid_nodes hv).2 (by omega)
      simp [code15, Tryz.f15, h60, h61, hv, hv', h62]
end Go.Vi
end

section
/- layer 5: the least kind of a value, plain; small functions. No conditions but those that stand with each. -/
namespace Go.Vi
open Go Go.Lib Go.Proofs
set_option maxRecDepth 100000
attribute [local simp] E_skip E_ret E_exit E_text E_draw E_seq E_cond E_block E_scope E_loop runOps runOp drawR slotsOf Hp.kept_zero runDraw runVF runX runV finV gate FlOK FlOK0 wantD exec fin opd look putF norm constD constC fieldAddrD loadD storeD opCall lenD binD isShift intP strP numD indexAddrD indexD D.pd? D.pds? sub capsOf callD argsD argD D.nf unP cellD mkF H00 cD_agg cD_pagg cD_int cD_bool cD_str cD_sl cD_lit cells_int
attribute [local simp] fnOut retOut resD retsD retD oneD D.noRefs D.noRef alone Hp.cut
attribute [local simp] cells_encK encK_agg box_encK cells_enc enc_agg box_enc one_int one_str one_sl one_agg cD_own cD_ptr
attribute [local simp] newRow Hp.live one_encK splice buildD buildD.go buildSliceD elsD pl25

mutual
/-- The least kind of a value, with a join that is given. -/
def leastG (J : Kd → Kd → Option Kd) : Val → Option Kd
  | .mk k n _ ps =>
    if k = 1 then some (.mk 2 n n 0 [])
    else if k = 2 then some (.mk 3 0 0 0 [])
    else if k = 3 then some (.mk 4 0 0 0 [])
    else (leastsG J (decide (k = 5)) ps (.mk 1 0 0 0 [])).map fun x => if k = 5 then .mk 6 0 0 ps.length [x.2] else .mk 5 0 0 0 x.1
def leastsG (J : Kd → Kd → Option Kd) (s : Bool) : List Val → Kd → Option (List Kd × Kd)
  | [], q => some ([], q)
  | v :: r, q =>
    match leastG J v with
    | none => none
    | some x =>
      match (if s = true then J q x else some q) with
      | none => none
      | some q' => (leastsG J s r q').map fun y => (x :: y.1, y.2)
end
theorem leastG_eq (J : Kd → Kd → Option Kd) (v : Val) : leastG J v = if v.k = 1 then some (.mk 2 v.n v.n 0 [])
    else if v.k = 2 then some (.mk 3 0 0 0 [])
    else if v.k = 3 then some (.mk 4 0 0 0 [])
    else (leastsG J (decide (v.k = 5)) v.ps (.mk 1 0 0 0 [])).map fun x => if v.k = 5 then .mk 6 0 0 v.ps.length [x.2] else .mk 5 0 0 0 x.1 := by
  cases v; simp only [leastG]; rfl

theorem own_int {lo hi : Int} (h1 : -1000000000 ≤ lo) (h2 : lo ≤ hi) (h3 : hi ≤ 1000000000) : (Kd.mk 2 lo hi 0 []).own = true := by
  show ((decide (-1000000000 ≤ lo) && decide (lo ≤ 1000000000)) && (decide (lo ≤ hi) && decide (hi ≤ 1000000000)) && ((0 : Int) == 0) && decide ((0 : Nat) = 0)) = true
  rw [decide_eq_true h1, decide_eq_true (show lo ≤ 1000000000 by omega), decide_eq_true h2, decide_eq_true h3]
  rfl
theorem own_set {mo : Int} {l : List Kd} (h1 : 0 ≤ mo) (h2 : mo ≤ 199) (h3 : l.length = 1) : (Kd.mk 6 0 0 mo l).own = true := by
  show (((0 : Int) == 0) && ((0 : Int) == 0) && (decide (0 ≤ mo) && decide (mo ≤ 199)) && decide (l.length = 1)) = true
  rw [decide_eq_true h1, decide_eq_true h2, decide_eq_true h3]
  rfl
theorem own_tup {l : List Kd} (h1 : 2 ≤ l.length) (h2 : l.length ≤ 6) : (Kd.mk 5 0 0 0 l).own = true := by
  show ((((0 : Int) == 0) && ((0 : Int) == 0) && ((0 : Int) == 0)) && (decide (2 ≤ (l.length : Int)) && decide ((l.length : Int) ≤ 6))) = true
  rw [decide_eq_true (show 2 ≤ (l.length : Int) by omega), decide_eq_true (show (l.length : Int) ≤ 6 by omega)]
  rfl

/-! ### Joins of what is as defined -/
mutual
theorem join_shaped : ∀ (a b k : Kd), a.shaped = true → b.shaped = true → a.join b = some k → k.shaped = true
  | .mk f lo hi mo ps, .mk f' lo' hi' mo' ps', k, ha, hb, h => by
    simp only [Kd.join] at h
    by_cases h1 : f = 1
    · rw [if_pos h1] at h; injection h with h; rw [← h]; exact hb
    rw [if_neg h1] at h
    by_cases h2 : f' = 1
    · rw [if_pos h2] at h; injection h with h; rw [← h]; exact ha
    rw [if_neg h2] at h
    by_cases h3 : f ≠ f' ∨ ps.length ≠ ps'.length
    · rw [if_pos h3] at h; cases h
    rw [if_neg h3] at h
    have hff : f = f' := Classical.byContradiction fun e => h3 (.inl e)
    subst hff
    rw [shapedK_mk] at ha hb
    cases hj : joinKs ps ps' with
    | none => rw [hj] at h; cases h
    | some l =>
      rw [hj] at h
      injection h with h
      subst h
      obtain ⟨i1, i2⟩ := joinKs_shaped ps ps' l ha.1 hb.1 (by omega) hj
      rw [shapedK_mk]
      refine ⟨i1, ?_⟩
      rcases own_cases ha.2 with ⟨e, a1, a2, a3, a4⟩ | ⟨e, a1, a2, a3, a4, a5⟩ | ⟨e, a1, a2, a3, a4, a5⟩ | ⟨e, a1, a2, a3, a4, x, a5⟩ <;>
      rcases own_cases hb.2 with ⟨e', b1, b2, b3, b4⟩ | ⟨e', b1, b2, b3, b4, b5⟩ | ⟨e', b1, b2, b3, b4, b5⟩ | ⟨e', b1, b2, b3, b4, y, b5⟩ <;> try omega
      · subst a4 b4 a1 a2 a3 b1 b2 b3
        have : l = [] := List.eq_nil_of_length_eq_zero (by simpa using i2)
        subst this
        have e3 : f = 1 ∨ f = 3 ∨ f = 4 := e
        simp [Kd.own, Kd.f, Kd.plain, Kd.lo, Kd.hi, Kd.mo, Kd.ps, e3]
      · subst a5 b5 a4 b4
        have : l = [] := List.eq_nil_of_length_eq_zero (by simpa using i2)
        subst this
        subst e
        exact own_int (by omega) (by omega) (by omega)
      · subst e a1 a2 a3 b1 b2 b3
        exact own_tup (by omega) (by omega)
      · subst e a1 a2 a5 b1 b2
        have i2 : l.length = 1 := by simpa using i2
        exact own_set (by omega) (by omega) i2
theorem joinKs_shaped : ∀ (a b l : List Kd), (∀ k ∈ a, k.shaped = true) → (∀ k ∈ b, k.shaped = true) → a.length = b.length → joinKs a b = some l → (∀ k ∈ l, k.shaped = true) ∧ l.length = a.length
  | [], [], l, _, _, _, h => by simp only [joinKs] at h; injection h with h; subst h; simp
  | _ :: _, [], l, _, _, hl, h => by simp at hl
  | [], _ :: _, l, _, _, hl, h => by simp at hl
  | a :: r, b :: s, l, ha, hb, hl, h => by
    simp only [joinKs] at h
    split at h
    · rename_i x hx
      cases hj : joinKs r s with
      | none => rw [hj] at h; cases h
      | some m =>
        rw [hj] at h
        injection h with h
        subst h
        have h1 := join_shaped a b x (ha a (by simp)) (hb b (by simp)) hx
        have h2 := joinKs_shaped r s m (fun k hk => ha k (by simp [hk])) (fun k hk => hb k (by simp [hk])) (by simpa using hl) hj
        refine ⟨fun k hk => ?_, by simp [h2.2]⟩
        rcases List.mem_cons.1 hk with rfl | hk
        · exact h1
        · exact h2.1 k hk
    · cases h
end

/-! ### The least kinds of values as defined -/
theorem own75_cases {k n : Int} {t : ByteArray} {ps : List Val} (h : own75 k n t ps = true) :
    (k = 1 ∧ -1000000000 ≤ n ∧ n ≤ 1000000000) ∨ k = 2 ∨ k = 3 ∨ (k = 4 ∧ 2 ≤ ps.length ∧ ps.length ≤ 6) ∨ k = 5 := by
  unfold own75 at h
  by_cases c1 : k = 1
  · rw [if_pos c1] at h
    simp only [inB, Bool.and_eq_true, decide_eq_true_eq] at h
    exact .inl ⟨c1, by omega, by omega⟩
  rw [if_neg c1] at h
  by_cases c2 : k = 2
  · exact .inr (.inl c2)
  rw [if_neg c2] at h
  by_cases c3 : k = 3
  · exact .inr (.inr (.inl c3))
  rw [if_neg c3] at h
  by_cases c4 : k = 4
  · rw [if_pos c4] at h
    simp only [inB, Bool.and_eq_true, decide_eq_true_eq] at h
    exact .inr (.inr (.inr (.inl ⟨c4, by omega, by omega⟩)))
  rw [if_neg c4] at h
  by_cases c5 : k = 5
  · exact .inr (.inr (.inr (.inr c5)))
  · rw [if_neg c5] at h; cases h
mutual
theorem least_ok : ∀ (v : Val), v.shaped = true → v.nodes ≤ 200 → leastG Kd.joinP v = leastG Kd.join v ∧ ∀ k, leastG Kd.join v = some k → k.shaped = true ∧ (k.nodes : Int) ≤ 2 * v.nodes
  | .mk k n t ps, hs, hn => by
    simp only [Val.shaped, Bool.and_eq_true] at hs
    simp only [Val.nodes] at hn ⊢
    have hps := nodesL_pos ps
    have hlen := nodesL_len ps
    simp only [leastG]
    by_cases c1 : k = 1
    · rw [if_pos c1, if_pos c1]
      refine ⟨rfl, fun x hx => ?_⟩
      injection hx with hx
      subst hx
      rcases own75_cases hs.2 with ⟨_, h1, h2⟩ | h | h | ⟨h, _⟩ | h <;> try omega
      refine ⟨?_, by simp [Kd.nodes, nodesKs]; omega⟩
      rw [shapedK_mk]
      exact ⟨by simp, own_int (by omega) (by omega) (by omega)⟩
    rw [if_neg c1, if_neg c1]
    by_cases c2 : k = 2
    · rw [if_pos c2, if_pos c2]
      refine ⟨rfl, fun x hx => ?_⟩
      injection hx with hx
      subst hx
      exact ⟨by rfl, by simp [Kd.nodes, nodesKs]; omega⟩
    rw [if_neg c2, if_neg c2]
    by_cases c3 : k = 3
    · rw [if_pos c3, if_pos c3]
      refine ⟨rfl, fun x hx => ?_⟩
      injection hx with hx
      subst hx
      exact ⟨by rfl, by simp [Kd.nodes, nodesKs]; omega⟩
    rw [if_neg c3, if_neg c3]
    obtain ⟨h1, h2⟩ := leasts_ok (decide (k = 5)) ps (.mk 1 0 0 0 []) (by rw [shapeds_all] at hs; exact fun v hv => List.all_eq_true.1 hs.1 v hv) (by omega) rfl
    rw [h1]
    refine ⟨rfl, fun x hx => ?_⟩
    cases hl : leastsG Kd.join (decide (k = 5)) ps (.mk 1 0 0 0 []) with
    | none => rw [hl] at hx; cases hx
    | some y =>
      rw [hl] at hx
      obtain ⟨g1, g2, g3, g4, g5⟩ := h2 y hl
      simp only [Option.map_some, Option.some.injEq] at hx
      have hz : ((Kd.mk 1 0 0 0 []).nodes : Int) = 1 := rfl
      by_cases c5 : k = 5
      · rw [if_pos c5] at hx
        subst hx
        refine ⟨?_, by simp only [Kd.nodes, nodesKs]; omega⟩
        rw [shapedK_mk]
        exact ⟨by simpa using g2, own_set (by omega) (by omega) rfl⟩
      · rw [if_neg c5] at hx
        subst hx
        refine ⟨?_, by simp only [Kd.nodes]; omega⟩
        rcases own75_cases hs.2 with ⟨h, _⟩ | h | h | ⟨h, h8, h9⟩ | h <;> try omega
        rw [shapedK_mk]
        exact ⟨g1, own_tup (by omega) (by omega)⟩
theorem leasts_ok : ∀ (s : Bool) (l : List Val) (q : Kd), (∀ v ∈ l, v.shaped = true) → nodesL l ≤ 200 → q.shaped = true → leastsG Kd.joinP s l q = leastsG Kd.join s l q ∧
    ∀ x, leastsG Kd.join s l q = some x → (∀ k ∈ x.1, k.shaped = true) ∧ x.2.shaped = true ∧ x.1.length = l.length ∧ (nodesKs x.1 : Int) ≤ 2 * nodesL l ∧ (x.2.nodes : Int) ≤ q.nodes + 2 * nodesL l
  | s, [], q, _, _, hq => by
    simp only [leastsG]
    refine ⟨trivial, fun x hx => ?_⟩
    injection hx with hx
    subst hx
    simp [hq, nodesKs, nodesL]
  | s, v :: r, q, hs, hn, hq => by
    have hr := nodesL_pos r
    have hv := nodes_posv v
    simp only [nodesL] at hn
    obtain ⟨e1, e2⟩ := least_ok v (hs v (by simp)) (by omega)
    simp only [leastsG, e1]
    cases hl : leastG Kd.join v with
    | none => exact ⟨rfl, fun x hx => by cases hx⟩
    | some k =>
      obtain ⟨k1, k2⟩ := e2 k hl
      have key : (if s = true then q.joinP k else some q) = (if s = true then q.join k else some q) := by
        rw [join_same q k hq k1]
      simp only [key]
      cases hj : (if s = true then q.join k else some q) with
      | none => exact ⟨rfl, fun x hx => by cases hx⟩
      | some q' =>
        have hq' : q'.shaped = true ∧ (q'.nodes : Int) ≤ q.nodes + 2 * v.nodes := by
          cases s with
          | false =>
            simp only [Bool.false_eq_true, if_false, Option.some.injEq] at hj
            subst hj
            exact ⟨hq, by omega⟩
          | true =>
            simp only [if_true] at hj
            have := joinP_nodes q k q' (by rw [join_same q k hq k1]; exact hj)
            exact ⟨join_shaped q k q' hq k1 hj, by omega⟩
        obtain ⟨f1, f2⟩ := leasts_ok s r q' (fun v hv => hs v (by simp [hv])) (by omega) hq'.1
        simp only [f1]
        refine ⟨trivial, fun x hx => ?_⟩
        cases hm : leastsG Kd.join s r q' with
        | none => rw [hm] at hx; cases hx
        | some y =>
          rw [hm] at hx
          injection hx with hx
          subst hx
          obtain ⟨g1, g2, g3, g4, g5⟩ := f2 y hm
          simp only [nodesKs, nodesL, List.length_cons]
          refine ⟨fun z hz => ?_, g2, by omega, by omega, by omega⟩
          rcases List.mem_cons.1 hz with rfl | hz
          · exact k1
          · exact g1 z hz
end

/-! ### Small functions -/
theorem enc2 (n m : Int) : encK (.mk 2 n m 0 []) = .agg [.int .i64 2, .int .i64 n, .int .i64 m, .int .i64 0, .sl []] := rfl
theorem enc3 : encK (.mk 3 0 0 0 []) = .agg [.int .i64 3, .int .i64 0, .int .i64 0, .int .i64 0, .sl []] := rfl
theorem enc1 : encK (.mk 1 0 0 0 []) = .agg [.int .i64 1, .int .i64 0, .int .i64 0, .int .i64 0, .sl []] := rfl
theorem enc6 (n : Int) (q : Kd) : encK (.mk 6 0 0 n [q]) = .agg [.int .i64 6, .int .i64 0, .int .i64 0, .int .i64 n, .sl [encK q]] := rfl
theorem int39_W (n m : Int) (H : Hp) : W 39 [.p (.int .i64 n), .p (.int .i64 m)] H = some (.ret (.p (encK (.mk 2 n m 0 []))), H) := by
  refine W39_of rfl (by simp) ?_
  simp [code39, Tryz.f39, enc2]
theorem whole98_W (n m : Int) (H : Hp) : W 98 [.p (.int .i64 n), .p (.int .i64 m)] H = some (.ret (.p (encK (.mk 2 n m 0 []))), H) := by
  refine W98_of rfl (by simp) ?_
  simp [code98, Tryz.f98, enc2]
theorem bool54_W (H : Hp) : W 54 [] H = some (.ret (.p (encK (.mk 3 0 0 0 []))), H) := by
  refine W54_of rfl (by simp) ?_
  simp [code54, Tryz.f54, enc3]
theorem truth99_W (H : Hp) : W 99 [] H = some (.ret (.p (encK (.mk 3 0 0 0 []))), H) := by
  refine W99_of rfl (by simp) ?_
  simp [code99, Tryz.f99, enc3]
theorem none105_W (H : Hp) : W 105 [] H = some (.ret (.p (encK (.mk 1 0 0 0 []))), H) := by
  refine W105_of rfl (by simp) ?_
  simp [code105, Tryz.f105, enc1]
theorem none100_W (H : Hp) : W 100 [] H = some (.ret (.p (encK (.mk 1 0 0 0 []))), H) := by
  refine W100_of rfl (by simp) ?_
  simp [code100, Tryz.f100, enc1]
theorem set53_W (n : Int) (q : Kd) (H : Hp) : W 53 [.p (.int .i64 n), .p (encK q)] H = some (.ret (.p (encK (.mk 6 0 0 n [q]))), H) := by
  refine W53_of rfl (by simp) ?_
  have hf : fits 5 [encK q] = true := fitK [q]
  simp [code53, Tryz.f53, enc6, hf, zok25, srcD, D.frz]
theorem setOf101_W (n : Int) (q : Kd) (H : Hp) : W 101 [.p (.int .i64 n), .p (encK q)] H = some (.ret (.p (encK (.mk 6 0 0 n [q]))), H) := by
  refine W101_of rfl (by simp) ?_
  have hf : fits 5 [encK q] = true := fitK [q]
  simp [code101, Tryz.f101, enc6, hf, zok25, srcD, D.frz]
end Go.Vi
end
