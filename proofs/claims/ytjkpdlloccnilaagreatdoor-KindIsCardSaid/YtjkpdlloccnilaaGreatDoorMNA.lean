/- It is proved here what functions of the program's layer 5 and of its specification compute; conditions stand with each. Which values a kind has; the least kind of a value. -/
import Derived.Test.YtjkpdlloccnilaaGreatDoorMKR
import Derived.Test.YtjkpdlloccnilaaGreatDoorMVB
set_option linter.unusedVariables false
set_option linter.unusedSimpArgs false

section
/- layer 5: which values a kind has; swardref05.Is. No conditions but those that stand with each. -/
namespace Go.Vi
open Go Go.Lib Go.Proofs
set_option maxRecDepth 100000
attribute [local simp] E_skip E_ret E_exit E_text E_draw E_seq E_cond E_block E_scope E_loop runOps runOp drawR slotsOf Hp.kept_zero runDraw runVF runX runV finV gate FlOK FlOK0 wantD exec fin opd look putF norm constD constC fieldAddrD loadD storeD opCall lenD binD isShift intP strP numD indexAddrD indexD D.pd? D.pds? sub capsOf callD argsD argD D.nf unP cellD mkF H00 cD_agg cD_pagg cD_int cD_bool cD_str cD_sl cD_lit cells_int
attribute [local simp] fnOut retOut resD retsD retD oneD D.noRefs D.noRef alone Hp.cut
attribute [local simp] cells_encK encK_agg box_encK cells_enc enc_agg box_enc one_int one_str one_sl one_agg cD_own cD_ptr

mutual
/-- A value is of a kind. -/
def Kd.has : Kd → Val → Bool
  | .mk f lo hi mo ps, v =>
    if f = 2 then v.k == 1 && rangeB v.n lo hi
    else if f = 3 then v.k == 2
    else if f = 4 then v.k == 3
    else if f = 5 then v.k == 4 && decide (v.ps.length = ps.length) && hasZ ps v.ps
    else if f = 6 then v.k == 5 && decide ((v.ps.length : Int) ≤ mo) && hasA ps v.ps
    else false
def hasZ : List Kd → List Val → Bool
  | a :: r, v :: s => a.has v && hasZ r s
  | _, _ => true
def hasA : List Kd → List Val → Bool
  | a :: _, l => l.all fun v => a.has v
  | [], _ => true
end
theorem hasZ_zip : ∀ (l : List Kd) (m : List Val), hasZ l m = zipAll Kd.has l m
  | [], [] => by simp [hasZ, zipAll]
  | a :: r, v :: s => by simp only [hasZ, zipAll, hasZ_zip r s]
  | [], _ :: _ => by simp [hasZ, zipAll]
  | _ :: _, [] => by simp [hasZ, zipAll]
theorem hasK_eq (k : Kd) (v : Val) : k.has v = if k.f = 2 then v.k == 1 && rangeB v.n k.lo k.hi
    else if k.f = 3 then v.k == 2
    else if k.f = 4 then v.k == 3
    else if k.f = 5 then v.k == 4 && decide (v.ps.length = k.ps.length) && zipAll Kd.has k.ps v.ps
    else if k.f = 6 then v.k == 5 && decide ((v.ps.length : Int) ≤ k.mo) && hasA k.ps v.ps
    else false := by
  obtain ⟨f, lo, hi, mo, ps⟩ := k
  simp only [Kd.has, hasZ_zip]
  rfl
abbrev vz : Val := .mk 0 0 ⟨#[]⟩ []
def bV (v : Val) : Blk := .cells [.p (.int .i64 v.k), .p (.int .i64 v.n), .p (.str v.t), .p (.sl (v.ps.map enc))]
def st22 (k : Kd) (v : Val) : Hp := ⟨[bK k, bV v], []⟩
def fr22 (i : Nat) : Fr := [(2, .ptr 0 0), (3, .ptr 1 0), (5, .p (.int .i64 i))]
def fr22s (i : Nat) : Fr := [(2, .ptr 0 0), (3, .ptr 1 0), (6, .p (.int .i64 i))]
def Rec22 (n : Nat) : Prop := ∀ (u : Kd) (v : Val) (H : Hp), u.nodes < n → u.shaped = true → v.nodes < 4611686018427387904 → W 22 [.p (encK u), .p (enc v)] H = some (.ret (.p (.bool (u.has v))), H)
theorem ps_lenv {v : Val} (h : v.nodes < 4611686018427387904) : v.ps.length < 4611686018427387904 ∧ ∀ u ∈ v.ps, u.nodes < 4611686018427387904 := by
  refine ⟨fine_len (nodes_fine v h), fun u hu => ?_⟩
  have := nodes_memv v u hu
  omega
theorem loop22_ok (k : Kd) (v : Val) (hv : v.nodes < 4611686018427387904) (hs : ∀ x ∈ k.ps, x.shaped = true) (hl : v.ps.length = k.ps.length) (hrec : Rec22 k.nodes) : loopO false ⟨0, 0⟩ 22 lp22_0 2 0 (fr22 0) (st22 k v) =
    some (if zipAll Kd.has k.ps v.ps = true then (.exit 1, [(2, .ptr 0 0), (3, .ptr 1 0), (5, .p (.int .i64 v.ps.length)), (51, .p (.bool false))], st22 k v) else (.ret, [(4, .p (.bool false))], st22 k v)) := by
  obtain ⟨hla, hva⟩ := ps_lenv hv
  rw [← range_all2 Kd.has kz vz k.ps v.ps hl.symm, ← hl]
  refine for_all (hd22_0) v.ps.length fr22 (st22 k v) _ (by simp) (by simp) ?_ (fun i hi => ?_) (F := fr22 0) (H := st22 k v) (by simp [cutD, fr22, frNo, st22, bK, bV, blkNo])
  · simp [lp22_0, code22, Tryz.f22, fr22, st22, bK, bV]
  · have hik : i < k.ps.length := by omega
    have hr := fun H => hrec k.ps[i] v.ps[i] H (ps_nodes (List.getElem_mem hik)) (hs _ (List.getElem_mem hik)) (hva _ (List.getElem_mem hi))
    have hw : IntKind.i64.wrap ((i : Int) + 1) = (i : Int) + 1 := wrap64 (by omega) (by omega)
    rw [getD_get hi, getD_get hik]
    cases hb : k.ps[i].has v.ps[i] with
    | true =>
      left
      rw [hb] at hr
      refine ⟨rfl, fr22 (i + 1), st22 k v, ?_, by simp [cutD, fr22, frNo, st22, bK, bV, blkNo]⟩
      simp [lp22_0, code22, Tryz.f22, fr22, st22, bK, bV, hi, hik, hr, hw]
    | false =>
      right
      rw [hb] at hr
      refine ⟨rfl, ?_⟩
      simp [lp22_0, code22, Tryz.f22, fr22, st22, bK, bV, hi, hik, hr, hw]
theorem loop22s_ok (k a : Kd) (v : Val) (hv : v.nodes < 4611686018427387904) (hs : a.shaped = true) (hk : k.ps = [a]) (hrec : Rec22 k.nodes) : loopO false ⟨0, 0⟩ 22 lp22_1 2 0 (fr22s 0) (st22 k v) =
    some (if v.ps.all a.has = true then (.exit 3, [(2, .ptr 0 0), (3, .ptr 1 0), (6, .p (.int .i64 v.ps.length)), (83, .p (.bool false))], st22 k v) else (.ret, [(4, .p (.bool false))], st22 k v)) := by
  obtain ⟨hla, hva⟩ := ps_lenv hv
  rw [← range_all a.has vz v.ps]
  refine for_all (hd22_1) v.ps.length fr22s (st22 k v) _ (by simp) (by simp) ?_ (fun i hi => ?_) (F := fr22s 0) (H := st22 k v) (by simp [cutD, fr22s, frNo, st22, bK, bV, blkNo])
  · simp [lp22_1, code22, Tryz.f22, fr22s, st22, bK, bV]
  · have hr := fun H => hrec a v.ps[i] H (ps_nodes (k := k) (by rw [hk]; simp)) hs (hva _ (List.getElem_mem hi))
    have hw : IntKind.i64.wrap ((i : Int) + 1) = (i : Int) + 1 := wrap64 (by omega) (by omega)
    rw [getD_get hi]
    cases hb : a.has v.ps[i] with
    | true =>
      left
      rw [hb] at hr
      refine ⟨rfl, fr22s (i + 1), st22 k v, ?_, by simp [cutD, fr22s, frNo, st22, bK, bV, blkNo]⟩
      simp [lp22_1, code22, Tryz.f22, fr22s, st22, bK, bV, hi, hk, hr, hw]
    | false =>
      right
      rw [hb] at hr
      refine ⟨rfl, ?_⟩
      simp [lp22_1, code22, Tryz.f22, fr22s, st22, bK, bV, hi, hk, hr, hw]
set_option maxHeartbeats 1000000 in
theorem is22_W (k : Kd) (v : Val) (H : Hp) (hb : k.nodes < 4611686018427387904) (hs : k.shaped = true) (hv : v.nodes < 4611686018427387904) : W 22 [.p (encK k), .p (enc v)] H = some (.ret (.p (.bool (k.has v))), H) := by
  have key : ∀ (n : Nat) (k : Kd) (v : Val) (H : Hp), k.nodes ≤ n → k.nodes < 4611686018427387904 → k.shaped = true → v.nodes < 4611686018427387904 → W 22 [.p (encK k), .p (enc v)] H = some (.ret (.p (.bool (k.has v))), H) := by
    intro n
    induction n with
    | zero => intro k v H h _; have := nodes_pos k; omega
    | succ n ih =>
      intro k v H hn hb hs hv
      refine W22_of rfl (by simp) ?_
      have hrec : Rec22 k.nodes := fun u v H hu hs hv => ih u v H (by omega) (by omega) hs hv
      rw [hasK_eq]
      by_cases c2 : k.f = 2
      · have e := eq_true c2
        by_cases c : v.k = 1 <;> (first | have e1 := eq_false c | have e1 := eq_true c) <;> simp [code22, Tryz.f22, e, e1, in68_W]
      have n2 := eq_false c2
      by_cases c3 : k.f = 3
      · have e := eq_true c3
        by_cases c : v.k = 2 <;> (first | have e1 := eq_false c | have e1 := eq_true c) <;> simp [code22, Tryz.f22, n2, e, e1]
      have n3 := eq_false c3
      by_cases c4 : k.f = 4
      · have e := eq_true c4
        by_cases c : v.k = 3 <;> (first | have e1 := eq_false c | have e1 := eq_true c) <;> simp [code22, Tryz.f22, n2, n3, e, e1]
      have n4 := eq_false c4
      by_cases c5 : k.f = 5
      · have e := eq_true c5
        by_cases c : v.k = 4
        · have e1 := eq_true c
          by_cases hl : v.ps.length = k.ps.length
          · have hl3 : ((v.ps.length : Int) = k.ps.length) = True := eq_true (by omega)
            have hloop := loop22_ok k v hv (parts_ok hs) hl hrec
            have h00 : ((0 : Nat) : Int) = 0 := rfl
            simp only [lp22_0, code22, Tryz.f22, fr22, st22, bK, bV, h00] at hloop
            have hl2 := eq_true hl
            cases hz : zipAll Kd.has k.ps v.ps <;> rw [hz] at hloop <;> simp only [Bool.false_eq_true, if_false, if_true] at hloop <;> simp [code22, Tryz.f22, n2, n3, n4, e, e1, hl2, hl3, hloop]
          · have hl2 := eq_false hl
            have hl3 : ((v.ps.length : Int) = k.ps.length) = False := eq_false (by omega)
            simp [code22, Tryz.f22, n2, n3, n4, e, e1, hl2, hl3]
        · have e1 := eq_false c
          simp [code22, Tryz.f22, n2, n3, n4, e, e1]
      have n5 := eq_false c5
      by_cases c6 : k.f = 6
      · have e := eq_true c6
        by_cases c : v.k = 5
        · have e1 := eq_true c
          by_cases hl : (v.ps.length : Int) ≤ k.mo
          · obtain ⟨a, ha, _⟩ := set_part hs c6
            have hloop := loop22s_ok k a v hv (parts_ok hs a (by rw [ha]; simp)) ha hrec
            have h00 : ((0 : Nat) : Int) = 0 := rfl
            have hl2 := eq_true hl
            have hl3 : (k.mo < (v.ps.length : Int)) = False := eq_false (by omega)
            have hA : hasA k.ps v.ps = v.ps.all a.has := by rw [ha]; rfl
            rw [hA]
            simp only [lp22_1, code22, Tryz.f22, fr22s, st22, bK, bV, h00] at hloop
            cases hz : v.ps.all a.has <;> rw [hz] at hloop <;> simp only [Bool.false_eq_true, if_false, if_true] at hloop <;> simp [code22, Tryz.f22, n2, n3, n4, n5, e, e1, hl2, hl3, hloop]
          · have hl2 := eq_false hl
            have hl3 : (k.mo < (v.ps.length : Int)) = True := eq_true (by omega)
            simp [code22, Tryz.f22, n2, n3, n4, n5, e, e1, hl2, hl3]
        · have e1 := eq_false c
          simp [code22, Tryz.f22, n2, n3, n4, n5, e, e1]
      have n6 := eq_false c6
      simp [code22, Tryz.f22, n2, n3, n4, n5, n6]
  exact key k.nodes k v H (Nat.le_refl _) hb hs hv
end Go.Vi
end

section
/- layer 5: kind.is, kind.Is. No conditions but those that stand with each. -/
namespace Go.Vi
open Go Go.Lib Go.Proofs
set_option maxRecDepth 100000
attribute [local simp] E_skip E_ret E_exit E_text E_draw E_seq E_cond E_block E_scope E_loop runOps runOp drawR slotsOf Hp.kept_zero runDraw runVF runX runV finV gate FlOK FlOK0 wantD exec fin opd look putF norm constD constC fieldAddrD loadD storeD opCall lenD binD isShift intP strP numD indexAddrD indexD D.pd? D.pds? sub capsOf callD argsD argD D.nf unP cellD mkF H00 cD_agg cD_pagg cD_int cD_bool cD_str cD_sl cD_lit cells_int
attribute [local simp] fnOut retOut resD retsD retD oneD D.noRefs D.noRef alone Hp.cut
attribute [local simp] cells_encK encK_agg box_encK cells_enc enc_agg box_enc one_int one_str one_sl one_agg cD_own cD_ptr

theorem W97_ofH {args : List D} {H : Hp} (hp : ¬ (ch.pure 97 = true ∧ args.all (D.noRef 0 0) = true)) (hl : args.length ≤ 11) {o : Out × Hp}
    (h : fnOut Tryz.prog [.tmp 3] H.B.length H.A.length (E false ⟨0, 0⟩ 97 code97 (mkF 0 args) H) = some o) : W 97 args H = some o :=
  W_ofH Tryz.func97 rfl (by kernel_rfl) rfl rfl rfl rfl hp (by rw [Tryz.ntmps97]; exact hl) h
theorem W96_ofH {args : List D} {H : Hp} (hp : ¬ (ch.pure 96 = true ∧ args.all (D.noRef 0 0) = true)) (hl : args.length ≤ 9) {o : Out × Hp}
    (h : fnOut Tryz.prog [.tmp 4] H.B.length H.A.length (E false ⟨0, 0⟩ 96 code96 (mkF 0 args) H) = some o) : W 96 args H = some o :=
  W_ofH Tryz.func96 rfl (by kernel_rfl) rfl rfl rfl rfl hp (by rw [Tryz.ntmps96]; exact hl) h
theorem contains_WH (l : List Val) (g : Nat) (hg : g < 1000000000) (ho : (g == 1000000) = false) (k : Nat) (hlen : l.length < 9223372036854775807) (p : Val → Bool) (B : List Blk) (A : List Arr)
    (hr : ∀ u ∈ l, W g [.p (enc u), .ptr k 0] ⟨B, A⟩ = some (.ret (.p (.bool (p u))), ⟨B, A⟩)) :
    W 96 [.p (.sl (l.map enc)), .fn g [.ptr k 0]] ⟨B, A⟩ = some (.ret (.p (.bool (l.any p))), ⟨B, A⟩) := by
  refine W96_ofH (by simp [D.noRef, D.noRefs]) (by simp) ?_
  have h1 := idx133_WH l g hg ho k hlen p B A hr
  have h2 : decide (0 ≤ idxP p l 0) = l.any p := by
    have key : ∀ (l : List Val) (i : Nat), decide (0 ≤ idxP p l i) = l.any p := by
      intro l
      induction l with
      | nil => intro i; simp [idxP]
      | cons v r ih =>
        intro i
        simp only [idxP, List.any_cons]
        by_cases hb : p v = true
        · simp [hb]
        · simp [hb, ih (i + 1)]
    exact key l 0
  have key : E false ⟨0, 0⟩ 96 code96 (mkF 0 [.p (.sl (l.map enc)), .fn g [.ptr k 0]]) ⟨B, A⟩ = some (.ret, [(4, .p (.bool (l.any p)))], ⟨B, A⟩) := by
    simp [code96, Tryz.f96, h1, h2]
  rw [key]
  simp only [fnOut, retOut, resD, look, if_true, retsD, retD, argD, D.nf, D.pd?, Bool.false_eq_true, if_false, oneD]
  split
  · simp [Hp.cut]
  · rfl

def Rec62 (n : Nat) : Prop := ∀ (u : Kd) (v : Val) (H : Hp), u.nodes < n → u.shaped = true → v.nodes < 4611686018427387904 → W 62 [.p (encK u), .p (enc v)] H = some (.ret (.p (.bool (u.has v))), H)
theorem is97_W (k a : Kd) (v u : Val) (hk : k.ps = [a]) (hs : a.shaped = true) (hu : u.nodes < 4611686018427387904) (hrec : Rec62 k.nodes) :
    W 97 [.p (enc u), .ptr 0 0] ⟨[bK k, bV v], []⟩ = some (.ret (.p (.bool (!a.has u))), ⟨[bK k, bV v], []⟩) := by
  refine W97_ofH (by simp [D.noRef, D.noRefs]) (by simp) ?_
  have hr := fun H => hrec a u H (ps_nodes (k := k) (by rw [hk]; simp)) hs hu
  have key : E false ⟨0, 0⟩ 97 code97 (mkF 0 [.p (enc u), .ptr 0 0]) ⟨[bK k, bV v], []⟩ = some (.ret, [(3, .p (.bool (!a.has u)))], ⟨[bK k, bV v, bV u], []⟩) := by
    simp [code97, Tryz.f97, bK, bV, hk, hr]
  rw [key]
  simp [bK, bV, blkNo]
def m62 (k : Kd) (v : Val) : Hp := ⟨[bK k, bV v], []⟩
def fr62 (v : Val) (i : Nat) : Fr := [(2, .ptr 0 0), (53, .p (.sl (v.ps.map enc))), (54, .p (.int .i64 v.ps.length)), (55, .p (.int .i64 i))]
def Q62 (k : Kd) (v : Val) (s : Bool) (o : CO) : Prop :=
  if s = true then o = (.exit 1, [(2, .ptr 0 0), (53, .p (.sl (v.ps.map enc))), (54, .p (.int .i64 v.ps.length)), (55, .p (.int .i64 v.ps.length)), (56, .p (.bool false))], m62 k v)
  else ∃ X, o = (.ret, [(4, .p (.bool false))], ⟨X, []⟩)
theorem zip_drop {α β : Type} (q : α → β → Bool) (l : List α) (m : List β) (i : Nat) (h1 : i < l.length) (h2 : i < m.length) : zipAll q (l.drop i) (m.drop i) = (q l[i] m[i] && zipAll q (l.drop (i + 1)) (m.drop (i + 1))) := by
  rw [List.drop_eq_getElem_cons h1, List.drop_eq_getElem_cons h2]; rfl
theorem loop62_ok (k : Kd) (v : Val) (hv : v.nodes < 4611686018427387904) (hs : ∀ x ∈ k.ps, x.shaped = true) (hl : v.ps.length = k.ps.length) (hrec : Rec62 k.nodes) :
    ∃ o, loopO false ⟨0, 0⟩ 62 lp62_0 2 0 (fr62 v 0) (m62 k v) = some o ∧ Q62 k v (zipAll Kd.has k.ps v.ps) o := by
  obtain ⟨hla, hva⟩ := ps_lenv hv
  refine for_ex (mu := false) (hd62_0) v.ps.length (fun i F H => F = fr62 v i ∧ H = m62 k v ∧ zipAll Kd.has k.ps v.ps = zipAll Kd.has (k.ps.drop i) (v.ps.drop i)) (Q62 k v (zipAll Kd.has k.ps v.ps)) ?_ ?_
    (F := fr62 v 0) (H := m62 k v) (F0 := fr62 v 0) (H0 := m62 k v) (by simp [cutD, fr62, frNo, m62, bK, bV, blkNo]) ⟨rfl, rfl, rfl⟩
  · rintro F H ⟨rfl, rfl, h5⟩
    have h6 : zipAll Kd.has k.ps v.ps = true := by rw [h5, List.drop_length]; cases k.ps.drop v.ps.length <;> rfl
    refine ⟨_, ?_, ?_, by rw [h6]; exact rfl⟩
    · simp [lp62_0, code62, Tryz.f62, fr62, m62]
    · simp
  · rintro i F H hi ⟨rfl, rfl, h5⟩
    have hik : i < k.ps.length := by omega
    have hr := fun H => hrec k.ps[i] v.ps[i] H (ps_nodes (List.getElem_mem hik)) (hs _ (List.getElem_mem hik)) (hva _ (List.getElem_mem hi))
    have hw : IntKind.i64.wrap ((i : Int) + 1) = (i : Int) + 1 := wrap64 (by omega) (by omega)
    rw [zip_drop _ _ _ _ hik hi] at h5
    cases hb : k.ps[i].has v.ps[i] with
    | true =>
      right
      rw [hb] at hr h5
      refine ⟨fr62 v (i + 1), ⟨[bK k, bV v, bV v.ps[i]], []⟩, ?_, fr62 v (i + 1), m62 k v, by simp [cutD, fr62, frNo, m62, bK, bV, blkNo], rfl, rfl, by rw [h5]; rfl⟩
      simp [lp62_0, code62, Tryz.f62, fr62, m62, bK, bV, hi, hik, hr, hw, splice]
    | false =>
      left
      rw [hb] at hr h5
      refine ⟨(.ret, [(4, .p (.bool false))], ⟨[bK k, bV v, bV v.ps[i]], []⟩), ?_, by simp, by rw [h5]; exact ⟨_, rfl⟩⟩
      simp [lp62_0, code62, Tryz.f62, fr62, m62, bK, bV, hi, hik, hr, hw, splice]
set_option maxHeartbeats 1000000 in
theorem is62_W (k : Kd) (v : Val) (H : Hp) (hb : k.nodes < 4611686018427387904) (hs : k.shaped = true) (hv : v.nodes < 4611686018427387904) : W 62 [.p (encK k), .p (enc v)] H = some (.ret (.p (.bool (k.has v))), H) := by
  have key : ∀ (n : Nat) (k : Kd) (v : Val) (H : Hp), k.nodes ≤ n → k.nodes < 4611686018427387904 → k.shaped = true → v.nodes < 4611686018427387904 → W 62 [.p (encK k), .p (enc v)] H = some (.ret (.p (.bool (k.has v))), H) := by
    intro n
    induction n with
    | zero => intro k v H h _; have := nodes_pos k; omega
    | succ n ih =>
      intro k v H hn hb hs hv
      refine W62_of rfl (by simp) ?_
      have hrec : Rec62 k.nodes := fun u v H hu hs hv => ih u v H (by omega) (by omega) hs hv
      rw [hasK_eq]
      by_cases c2 : k.f = 2
      · have e := eq_true c2
        by_cases c : v.k = 1
        · have e1 := eq_true c
          by_cases c7 : k.lo ≤ v.n <;> (first | have e7 := eq_false c7 | have e7 := eq_true c7) <;> simp [code62, Tryz.f62, e, e1, e7, rangeB]
        · have e1 := eq_false c
          simp [code62, Tryz.f62, e, e1]
      have n2 := eq_false c2
      by_cases c3 : k.f = 3
      · have e := eq_true c3
        by_cases c : v.k = 2 <;> (first | have e1 := eq_false c | have e1 := eq_true c) <;> simp [code62, Tryz.f62, n2, e, e1]
      have n3 := eq_false c3
      by_cases c4 : k.f = 4
      · have e := eq_true c4
        by_cases c : v.k = 3 <;> (first | have e1 := eq_false c | have e1 := eq_true c) <;> simp [code62, Tryz.f62, n2, n3, e, e1]
      have n4 := eq_false c4
      by_cases c5 : k.f = 5
      · have e := eq_true c5
        by_cases c : v.k = 4
        · have e1 := eq_true c
          by_cases hl : v.ps.length = k.ps.length
          · have hl3 : ((v.ps.length : Int) = k.ps.length) = True := eq_true (by omega)
            obtain ⟨o, hloop, hq⟩ := loop62_ok k v hv (parts_ok hs) hl hrec
            have h00 : ((0 : Nat) : Int) = 0 := rfl
            simp only [lp62_0, code62, Tryz.f62, fr62, m62, bK, bV, h00] at hloop
            have hl2 := eq_true hl
            unfold Q62 at hq
            cases hz : zipAll Kd.has k.ps v.ps with
            | true =>
              rw [hz] at hq
              rw [if_pos rfl] at hq
              subst hq
              simp [code62, Tryz.f62, n2, n3, n4, e, e1, hl2, hl3, hloop, m62, bK, bV]
            | false =>
              rw [hz] at hq
              rw [if_neg (by simp)] at hq
              obtain ⟨X, rfl⟩ := hq
              simp [code62, Tryz.f62, n2, n3, n4, e, e1, hl2, hl3, hloop]
          · have hl2 := eq_false hl
            have hl3 : ((v.ps.length : Int) = k.ps.length) = False := eq_false (by omega)
            simp [code62, Tryz.f62, n2, n3, n4, e, e1, hl2, hl3]
        · have e1 := eq_false c
          simp [code62, Tryz.f62, n2, n3, n4, e, e1]
      have n5 := eq_false c5
      by_cases c6 : k.f = 6
      · have e := eq_true c6
        by_cases c : v.k = 5
        · have e1 := eq_true c
          by_cases hl : (v.ps.length : Int) ≤ k.mo
          · obtain ⟨a, ha, _⟩ := set_part hs c6
            have hsa := parts_ok hs a (by rw [ha]; simp)
            obtain ⟨hla, hva⟩ := ps_lenv hv
            have hc := contains_WH v.ps 97 (by decide) rfl 0 (by omega) (fun u => !a.has u) [bK k, bV v] [] fun u hu => is97_W k a v u ha hsa (hva u hu) hrec
            have hl2 := eq_true hl
            have hA : hasA k.ps v.ps = v.ps.all a.has := by rw [ha]; rfl
            have hn : (v.ps.any fun u => !a.has u) = !(v.ps.all a.has) := by
              induction v.ps with
              | nil => rfl
              | cons x r ih => simp [List.any_cons, List.all_cons, ih]
            rw [hn] at hc
            simp only [bK, bV] at hc
            rw [hA]
            cases hz : v.ps.all a.has <;> rw [hz] at hc <;> simp [code62, Tryz.f62, n2, n3, n4, n5, e, e1, hl2, hc, mkFn]
          · have hl2 := eq_false hl
            simp [code62, Tryz.f62, n2, n3, n4, n5, e, e1, hl2]
        · have e1 := eq_false c
          simp [code62, Tryz.f62, n2, n3, n4, n5, e, e1]
      have n6 := eq_false c6
      simp [code62, Tryz.f62, n2, n3, n4, n5, n6]
  exact key k.nodes k v H (Nat.le_refl _) hb hs hv

def isR (k : Kd) (v : Val) : D := if k.valid = true ∧ v.valid = true then .tup [.p (.bool (k.has v)), .p (.int .i64 0)] else .tup [.p (.bool false), .p (.int .i64 2)]
theorem is15_W (k : Kd) (v : Val) (H : Hp) (hb : k.nodes < 4611686018427387904) : W 15 [.p (encK k), .p (enc v)] H = some (.ret (isR k v), H) := by
  refine W15_of rfl (by simp) ?_
  have h60 := fun H => valid60_W k H hb
  have h61 := fun H => check29_W v H
  unfold isR
  cases hv : k.valid with
  | false => simp [code15, Tryz.f15, h60, hv]
  | true =>
    cases hv' : v.valid with
    | false => simp [code15, Tryz.f15, h60, h61, hv, hv']
    | true =>
      have := (valid_fine hv').2
      have h62 := fun H => is62_W k v H hb (valid_nodes hv).2 (by omega)
      simp [code15, Tryz.f15, h60, h61, hv, hv', h62]
end Go.Vi
end

section
/- layer 5: the least kind of a value, plain; small functions. No conditions but those that stand with each. -/
namespace Go.Vi
open Go Go.Lib Go.Proofs
set_option maxRecDepth 100000
attribute [local simp] E_skip E_ret E_exit E_text E_draw E_seq E_cond E_block E_scope E_loop runOps runOp drawR slotsOf Hp.kept_zero runDraw runVF runX runV finV gate FlOK FlOK0 wantD exec fin opd look putF norm constD constC fieldAddrD loadD storeD opCall lenD binD isShift intP strP numD indexAddrD indexD D.pd? D.pds? sub capsOf callD argsD argD D.nf unP cellD mkF H00 cD_agg cD_pagg cD_int cD_bool cD_str cD_sl cD_lit cells_int
attribute [local simp] fnOut retOut resD retsD retD oneD D.noRefs D.noRef alone Hp.cut
attribute [local simp] cells_encK encK_agg box_encK cells_enc enc_agg box_enc one_int one_str one_sl one_agg cD_own cD_ptr
attribute [local simp] newRow Hp.live one_encK splice buildD buildD.go buildSliceD elsD pl25

mutual
/-- The least kind of a value, with a join that is given. -/
def leastG (J : Kd → Kd → Option Kd) : Val → Option Kd
  | .mk k n _ ps =>
    if k = 1 then some (.mk 2 n n 0 [])
    else if k = 2 then some (.mk 3 0 0 0 [])
    else if k = 3 then some (.mk 4 0 0 0 [])
    else (leastsG J (decide (k = 5)) ps (.mk 1 0 0 0 [])).map fun x => if k = 5 then .mk 6 0 0 ps.length [x.2] else .mk 5 0 0 0 x.1
def leastsG (J : Kd → Kd → Option Kd) (s : Bool) : List Val → Kd → Option (List Kd × Kd)
  | [], q => some ([], q)
  | v :: r, q =>
    match leastG J v with
    | none => none
    | some x =>
      match (if s = true then J q x else some q) with
      | none => none
      | some q' => (leastsG J s r q').map fun y => (x :: y.1, y.2)
end
theorem leastG_eq (J : Kd → Kd → Option Kd) (v : Val) : leastG J v = if v.k = 1 then some (.mk 2 v.n v.n 0 [])
    else if v.k = 2 then some (.mk 3 0 0 0 [])
    else if v.k = 3 then some (.mk 4 0 0 0 [])
    else (leastsG J (decide (v.k = 5)) v.ps (.mk 1 0 0 0 [])).map fun x => if v.k = 5 then .mk 6 0 0 v.ps.length [x.2] else .mk 5 0 0 0 x.1 := by
  cases v; simp only [leastG]; rfl

theorem own_int {lo hi : Int} (h1 : -1000000000 ≤ lo) (h2 : lo ≤ hi) (h3 : hi ≤ 1000000000) : (Kd.mk 2 lo hi 0 []).own = true := by
  show ((decide (-1000000000 ≤ lo) && decide (lo ≤ 1000000000)) && (decide (lo ≤ hi) && decide (hi ≤ 1000000000)) && ((0 : Int) == 0) && decide ((0 : Nat) = 0)) = true
  rw [decide_eq_true h1, decide_eq_true (show lo ≤ 1000000000 by omega), decide_eq_true h2, decide_eq_true h3]
  rfl
theorem own_set {mo : Int} {l : List Kd} (h1 : 0 ≤ mo) (h2 : mo ≤ 199) (h3 : l.length = 1) : (Kd.mk 6 0 0 mo l).own = true := by
  show (((0 : Int) == 0) && ((0 : Int) == 0) && (decide (0 ≤ mo) && decide (mo ≤ 199)) && decide (l.length = 1)) = true
  rw [decide_eq_true h1, decide_eq_true h2, decide_eq_true h3]
  rfl
theorem own_tup {l : List Kd} (h1 : 2 ≤ l.length) (h2 : l.length ≤ 6) : (Kd.mk 5 0 0 0 l).own = true := by
  show ((((0 : Int) == 0) && ((0 : Int) == 0) && ((0 : Int) == 0)) && (decide (2 ≤ (l.length : Int)) && decide ((l.length : Int) ≤ 6))) = true
  rw [decide_eq_true (show 2 ≤ (l.length : Int) by omega), decide_eq_true (show (l.length : Int) ≤ 6 by omega)]
  rfl

/-! ### Joins of what is as defined -/
mutual
theorem join_shaped : ∀ (a b k : Kd), a.shaped = true → b.shaped = true → a.join b = some k → k.shaped = true
  | .mk f lo hi mo ps, .mk f' lo' hi' mo' ps', k, ha, hb, h => by
    simp only [Kd.join] at h
    by_cases h1 : f = 1
    · rw [if_pos h1] at h; injection h with h; rw [← h]; exact hb
    rw [if_neg h1] at h
    by_cases h2 : f' = 1
    · rw [if_pos h2] at h; injection h with h; rw [← h]; exact ha
    rw [if_neg h2] at h
    by_cases h3 : f ≠ f' ∨ ps.length ≠ ps'.length
    · rw [if_pos h3] at h; cases h
    rw [if_neg h3] at h
    have hff : f = f' := Classical.byContradiction fun e => h3 (.inl e)
    subst hff
    rw [shapedK_mk] at ha hb
    cases hj : joinKs ps ps' with
    | none => rw [hj] at h; cases h
    | some l =>
      rw [hj] at h
      injection h with h
      subst h
      obtain ⟨i1, i2⟩ := joinKs_shaped ps ps' l ha.1 hb.1 (by omega) hj
      rw [shapedK_mk]
      refine ⟨i1, ?_⟩
      rcases own_cases ha.2 with ⟨e, a1, a2, a3, a4⟩ | ⟨e, a1, a2, a3, a4, a5⟩ | ⟨e, a1, a2, a3, a4, a5⟩ | ⟨e, a1, a2, a3, a4, x, a5⟩ <;>
      rcases own_cases hb.2 with ⟨e', b1, b2, b3, b4⟩ | ⟨e', b1, b2, b3, b4, b5⟩ | ⟨e', b1, b2, b3, b4, b5⟩ | ⟨e', b1, b2, b3, b4, y, b5⟩ <;> try omega
      · subst a4 b4 a1 a2 a3 b1 b2 b3
        have : l = [] := List.eq_nil_of_length_eq_zero (by simpa using i2)
        subst this
        have e3 : f = 1 ∨ f = 3 ∨ f = 4 := e
        simp [Kd.own, Kd.f, Kd.plain, Kd.lo, Kd.hi, Kd.mo, Kd.ps, e3]
      · subst a5 b5 a4 b4
        have : l = [] := List.eq_nil_of_length_eq_zero (by simpa using i2)
        subst this
        subst e
        exact own_int (by omega) (by omega) (by omega)
      · subst e a1 a2 a3 b1 b2 b3
        exact own_tup (by omega) (by omega)
      · subst e a1 a2 a5 b1 b2
        have i2 : l.length = 1 := by simpa using i2
        exact own_set (by omega) (by omega) i2
theorem joinKs_shaped : ∀ (a b l : List Kd), (∀ k ∈ a, k.shaped = true) → (∀ k ∈ b, k.shaped = true) → a.length = b.length → joinKs a b = some l → (∀ k ∈ l, k.shaped = true) ∧ l.length = a.length
  | [], [], l, _, _, _, h => by simp only [joinKs] at h; injection h with h; subst h; simp
  | _ :: _, [], l, _, _, hl, h => by simp at hl
  | [], _ :: _, l, _, _, hl, h => by simp at hl
  | a :: r, b :: s, l, ha, hb, hl, h => by
    simp only [joinKs] at h
    split at h
    · rename_i x hx
      cases hj : joinKs r s with
      | none => rw [hj] at h; cases h
      | some m =>
        rw [hj] at h
        injection h with h
        subst h
        have h1 := join_shaped a b x (ha a (by simp)) (hb b (by simp)) hx
        have h2 := joinKs_shaped r s m (fun k hk => ha k (by simp [hk])) (fun k hk => hb k (by simp [hk])) (by simpa using hl) hj
        refine ⟨fun k hk => ?_, by simp [h2.2]⟩
        rcases List.mem_cons.1 hk with rfl | hk
        · exact h1
        · exact h2.1 k hk
    · cases h
end

/-! ### The least kinds of values as defined -/
theorem own75_cases {k n : Int} {t : ByteArray} {ps : List Val} (h : own75 k n t ps = true) :
    (k = 1 ∧ -1000000000 ≤ n ∧ n ≤ 1000000000) ∨ k = 2 ∨ k = 3 ∨ (k = 4 ∧ 2 ≤ ps.length ∧ ps.length ≤ 6) ∨ k = 5 := by
  unfold own75 at h
  by_cases c1 : k = 1
  · rw [if_pos c1] at h
    simp only [inB, Bool.and_eq_true, decide_eq_true_eq] at h
    exact .inl ⟨c1, by omega, by omega⟩
  rw [if_neg c1] at h
  by_cases c2 : k = 2
  · exact .inr (.inl c2)
  rw [if_neg c2] at h
  by_cases c3 : k = 3
  · exact .inr (.inr (.inl c3))
  rw [if_neg c3] at h
  by_cases c4 : k = 4
  · rw [if_pos c4] at h
    simp only [inB, Bool.and_eq_true, decide_eq_true_eq] at h
    exact .inr (.inr (.inr (.inl ⟨c4, by omega, by omega⟩)))
  rw [if_neg c4] at h
  by_cases c5 : k = 5
  · exact .inr (.inr (.inr (.inr c5)))
  · rw [if_neg c5] at h; cases h
mutual
theorem least_ok : ∀ (v : Val), v.shaped = true → v.nodes ≤ 200 → leastG Kd.joinP v = leastG Kd.join v ∧ ∀ k, leastG Kd.join v = some k → k.shaped = true ∧ (k.nodes : Int) ≤ 2 * v.nodes
  | .mk k n t ps, hs, hn => by
    simp only [Val.shaped, Bool.and_eq_true] at hs
    simp only [Val.nodes] at hn ⊢
    have hps := nodesL_pos ps
    have hlen := nodesL_len ps
    simp only [leastG]
    by_cases c1 : k = 1
    · rw [if_pos c1, if_pos c1]
      refine ⟨rfl, fun x hx => ?_⟩
      injection hx with hx
      subst hx
      rcases own75_cases hs.2 with ⟨_, h1, h2⟩ | h | h | ⟨h, _⟩ | h <;> try omega
      refine ⟨?_, by simp [Kd.nodes, nodesKs]; omega⟩
      rw [shapedK_mk]
      exact ⟨by simp, own_int (by omega) (by omega) (by omega)⟩
    rw [if_neg c1, if_neg c1]
    by_cases c2 : k = 2
    · rw [if_pos c2, if_pos c2]
      refine ⟨rfl, fun x hx => ?_⟩
      injection hx with hx
      subst hx
      exact ⟨by rfl, by simp [Kd.nodes, nodesKs]; omega⟩
    rw [if_neg c2, if_neg c2]
    by_cases c3 : k = 3
    · rw [if_pos c3, if_pos c3]
      refine ⟨rfl, fun x hx => ?_⟩
      injection hx with hx
      subst hx
      exact ⟨by rfl, by simp [Kd.nodes, nodesKs]; omega⟩
    rw [if_neg c3, if_neg c3]
    obtain ⟨h1, h2⟩ := leasts_ok (decide (k = 5)) ps (.mk 1 0 0 0 []) (by rw [shapeds_all] at hs; exact fun v hv => List.all_eq_true.1 hs.1 v hv) (by omega) rfl
    rw [h1]
    refine ⟨rfl, fun x hx => ?_⟩
    cases hl : leastsG Kd.join (decide (k = 5)) ps (.mk 1 0 0 0 []) with
    | none => rw [hl] at hx; cases hx
    | some y =>
      rw [hl] at hx
      obtain ⟨g1, g2, g3, g4, g5⟩ := h2 y hl
      simp only [Option.map_some, Option.some.injEq] at hx
      have hz : ((Kd.mk 1 0 0 0 []).nodes : Int) = 1 := rfl
      by_cases c5 : k = 5
      · rw [if_pos c5] at hx
        subst hx
        refine ⟨?_, by simp only [Kd.nodes, nodesKs]; omega⟩
        rw [shapedK_mk]
        exact ⟨by simpa using g2, own_set (by omega) (by omega) rfl⟩
      · rw [if_neg c5] at hx
        subst hx
        refine ⟨?_, by simp only [Kd.nodes]; omega⟩
        rcases own75_cases hs.2 with ⟨h, _⟩ | h | h | ⟨h, h8, h9⟩ | h <;> try omega
        rw [shapedK_mk]
        exact ⟨g1, own_tup (by omega) (by omega)⟩
theorem leasts_ok : ∀ (s : Bool) (l : List Val) (q : Kd), (∀ v ∈ l, v.shaped = true) → nodesL l ≤ 200 → q.shaped = true → leastsG Kd.joinP s l q = leastsG Kd.join s l q ∧
    ∀ x, leastsG Kd.join s l q = some x → (∀ k ∈ x.1, k.shaped = true) ∧ x.2.shaped = true ∧ x.1.length = l.length ∧ (nodesKs x.1 : Int) ≤ 2 * nodesL l ∧ (x.2.nodes : Int) ≤ q.nodes + 2 * nodesL l
  | s, [], q, _, _, hq => by
    simp only [leastsG]
    refine ⟨trivial, fun x hx => ?_⟩
    injection hx with hx
    subst hx
    simp [hq, nodesKs, nodesL]
  | s, v :: r, q, hs, hn, hq => by
    have hr := nodesL_pos r
    have hv := nodes_posv v
    simp only [nodesL] at hn
    obtain ⟨e1, e2⟩ := least_ok v (hs v (by simp)) (by omega)
    simp only [leastsG, e1]
    cases hl : leastG Kd.join v with
    | none => exact ⟨rfl, fun x hx => by cases hx⟩
    | some k =>
      obtain ⟨k1, k2⟩ := e2 k hl
      have key : (if s = true then q.joinP k else some q) = (if s = true then q.join k else some q) := by
        rw [join_same q k hq k1]
      simp only [key]
      cases hj : (if s = true then q.join k else some q) with
      | none => exact ⟨rfl, fun x hx => by cases hx⟩
      | some q' =>
        have hq' : q'.shaped = true ∧ (q'.nodes : Int) ≤ q.nodes + 2 * v.nodes := by
          cases s with
          | false =>
            simp only [Bool.false_eq_true, if_false, Option.some.injEq] at hj
            subst hj
            exact ⟨hq, by omega⟩
          | true =>
            simp only [if_true] at hj
            have := joinP_nodes q k q' (by rw [join_same q k hq k1]; exact hj)
            exact ⟨join_shaped q k q' hq k1 hj, by omega⟩
        obtain ⟨f1, f2⟩ := leasts_ok s r q' (fun v hv => hs v (by simp [hv])) (by omega) hq'.1
        simp only [f1]
        refine ⟨trivial, fun x hx => ?_⟩
        cases hm : leastsG Kd.join s r q' with
        | none => rw [hm] at hx; cases hx
        | some y =>
          rw [hm] at hx
          injection hx with hx
          subst hx
          obtain ⟨g1, g2, g3, g4, g5⟩ := f2 y hm
          simp only [nodesKs, nodesL, List.length_cons]
          refine ⟨fun z hz => ?_, g2, by omega, by omega, by omega⟩
          rcases List.mem_cons.1 hz with rfl | hz
          · exact k1
          · exact g1 z hz
end

/-! ### Small functions -/
theorem enc2 (n m : Int) : encK (.mk 2 n m 0 []) = .agg [.int .i64 2, .int .i64 n, .int .i64 m, .int .i64 0, .sl []] := rfl
theorem enc3 : encK (.mk 3 0 0 0 []) = .agg [.int .i64 3, .int .i64 0, .int .i64 0, .int .i64 0, .sl []] := rfl
theorem enc1 : encK (.mk 1 0 0 0 []) = .agg [.int .i64 1, .int .i64 0, .int .i64 0, .int .i64 0, .sl []] := rfl
theorem enc6 (n : Int) (q : Kd) : encK (.mk 6 0 0 n [q]) = .agg [.int .i64 6, .int .i64 0, .int .i64 0, .int .i64 n, .sl [encK q]] := rfl
theorem int39_W (n m : Int) (H : Hp) : W 39 [.p (.int .i64 n), .p (.int .i64 m)] H = some (.ret (.p (encK (.mk 2 n m 0 []))), H) := by
  refine W39_of rfl (by simp) ?_
  simp [code39, Tryz.f39, enc2]
theorem whole98_W (n m : Int) (H : Hp) : W 98 [.p (.int .i64 n), .p (.int .i64 m)] H = some (.ret (.p (encK (.mk 2 n m 0 []))), H) := by
  refine W98_of rfl (by simp) ?_
  simp [code98, Tryz.f98, enc2]
theorem bool54_W (H : Hp) : W 54 [] H = some (.ret (.p (encK (.mk 3 0 0 0 []))), H) := by
  refine W54_of rfl (by simp) ?_
  simp [code54, Tryz.f54, enc3]
theorem truth99_W (H : Hp) : W 99 [] H = some (.ret (.p (encK (.mk 3 0 0 0 []))), H) := by
  refine W99_of rfl (by simp) ?_
  simp [code99, Tryz.f99, enc3]
theorem none105_W (H : Hp) : W 105 [] H = some (.ret (.p (encK (.mk 1 0 0 0 []))), H) := by
  refine W105_of rfl (by simp) ?_
  simp [code105, Tryz.f105, enc1]
theorem none100_W (H : Hp) : W 100 [] H = some (.ret (.p (encK (.mk 1 0 0 0 []))), H) := by
  refine W100_of rfl (by simp) ?_
  simp [code100, Tryz.f100, enc1]
theorem set53_W (n : Int) (q : Kd) (H : Hp) : W 53 [.p (.int .i64 n), .p (encK q)] H = some (.ret (.p (encK (.mk 6 0 0 n [q]))), H) := by
  refine W53_of rfl (by simp) ?_
  have hf : fits 5 [encK q] = true := fitK [q]
  simp [code53, Tryz.f53, enc6, hf, zok25, srcD, D.frz]
theorem setOf101_W (n : Int) (q : Kd) (H : Hp) : W 101 [.p (.int .i64 n), .p (encK q)] H = some (.ret (.p (encK (.mk 6 0 0 n [q]))), H) := by
  refine W101_of rfl (by simp) ?_
  have hf : fits 5 [encK q] = true := fitK [q]
  simp [code101, Tryz.f101, enc6, hf, zok25, srcD, D.frz]
end Go.Vi
end

section
/- layer 5: swardref05.least. No conditions but those that stand with each. -/
namespace Go.Vi
open Go Go.Lib Go.Proofs
set_option maxRecDepth 100000
attribute [local simp] E_skip E_ret E_exit E_text E_draw E_seq E_cond E_block E_scope E_loop runOps runOp drawR slotsOf Hp.kept_zero runDraw runVF runX runV finV gate FlOK FlOK0 wantD exec fin opd look putF norm constD constC fieldAddrD loadD storeD opCall lenD binD isShift intP strP numD indexAddrD indexD D.pd? D.pds? sub capsOf callD argsD argD D.nf unP cellD mkF H00 cD_agg cD_pagg cD_int cD_bool cD_str cD_sl cD_lit cells_int
attribute [local simp] fnOut retOut resD retsD retD oneD D.noRefs D.noRef alone Hp.cut
attribute [local simp] cells_encK encK_agg box_encK cells_enc enc_agg box_enc one_int one_str one_sl one_agg cD_own cD_ptr
attribute [local simp] newRow Hp.live one_encK

/-! What the two functions 'least' share. -/
def memL (v : Val) (q : Kd) (d : D) (X : List Blk) (A : List Arr) : Hp := ⟨bV v :: zB :: oB 5 0 0 0 d :: bK q :: X, A⟩
abbrev kN : Kd := .mk 1 0 0 0 []
theorem retL_k (k : Kd) (c : Blk) (X : List Blk) (A : List Arr) (H : Hp) : alone H (fnOut Tryz.prog [.cell 2 25, .tmp 3] 0 0 (some (.ret, [(2, .ptr 1 0), (3, .p (.bool true))], ⟨c :: bK k :: X, A⟩))) = some (.ret (joinR (some k)), H) := by
  simp [bK, joinR]
theorem retL_z (c : Blk) (X : List Blk) (A : List Arr) (H : Hp) : alone H (fnOut Tryz.prog [.cell 2 25, .tmp 3] 0 0 (some (.ret, [(2, .ptr 1 0), (3, .p (.bool false))], ⟨c :: zB :: X, A⟩))) = some (.ret (joinR none), H) := by
  simp [zB, encK, encKs, joinR]
theorem retL_row (l : List Kd) (d : D) (X : List Blk) (A : List Arr) (hg : GRow A 25 5 d (l.map encK)) (c : Blk) (H : Hp) :
    alone H (fnOut Tryz.prog [.cell 2 25, .tmp 3] 0 0 (some (.ret, [(2, .ptr 1 0), (3, .p (.bool true))], ⟨c :: oB 5 0 0 0 d :: X, A⟩))) = some (.ret (joinR (some (.mk 5 0 0 0 l))), H) := by
  have hp := hg.pd
  have hfz := hg.frz
  have he : encK (.mk 5 0 0 0 l) = .agg [.int .i64 5, .int .i64 0, .int .i64 0, .int .i64 0, .sl (l.map encK)] := encK_eq _
  rw [joinR, he]
  simp [oB, hp, hfz]

def fr66 (i : Nat) : Fr := [(1, .ptr 0 0), (2, .ptr 1 0), (4, .ptr 2 0), (5, .ptr 3 0), (6, .p (.int .i64 i))]
noncomputable def b66 : Code := cBlk (cFst (cSnd lp66_0))
theorem b66_eq : cFst (cSnd lp66_0) = .block 2 b66 := by kernel_rfl
section
variable (v : Val) (q : Kd)
theorem first66_W (i : Nat) (hi : i < v.ps.length) (d : D) (X : List Blk) (A : List Arr) : E false ⟨0, 0⟩ 66 (cFst lp66_0) (fr66 i) (memL v q d X A) = some (.normal, fr66 i ++ [(30, .p (.bool true))], memL v q d X A) := by
  simp [cFst, lp66_0, code66, Tryz.f66, fr66, memL, bV, hi]
theorem reg13_66 (i : Nat) (hi : i < v.ps.length) (d : D) (X : List Blk) (A : List Arr) (s : Option Kd) (hr : ∀ H, W 66 [.p (enc v.ps[i])] H = some (.ret (joinR s), H)) :
    E false ⟨0, 0⟩ 66 (cFst b66) (fr66 i ++ [(30, .p (.bool true))]) (memL v q d X A) = some (.normal, fr66 i ++ [(7, .ptr (X.length + 4) 0), (8, .p (.bool s.isSome))], memL v q d (X ++ [bK (s.getD kz)]) A) := by
  cases s <;> simp only [joinR] at hr <;> simp [b66, cFst, cSnd, cBlk, lp66_0, code66, Tryz.f66, fr66, memL, bV, hi, hr, splice, bK]
theorem no66 (i : Nat) (a d : D) (X : List Blk) (A : List Arr) : E false ⟨0, 0⟩ 66 (cFst (cSnd b66)) (fr66 i ++ [(7, a), (8, .p (.bool false))]) (memL v q d X A) =
    some (.ret, [(2, .ptr 1 0), (3, .p (.bool false))], memL v q d X A) := by
  simp [b66, cFst, cSnd, cBlk, lp66_0, code66, Tryz.f66, fr66, memL, splice, zB, buildD, buildD.go]
theorem yes66 (i : Nat) (a d : D) (X : List Blk) (A : List Arr) : E false ⟨0, 0⟩ 66 (cFst (cSnd b66)) (fr66 i ++ [(7, a), (8, .p (.bool true))]) (memL v q d X A) =
    some (.normal, fr66 i ++ [(7, a), (43, .p (.bool false))], memL v q d X A) := by
  simp [b66, cFst, cSnd, cBlk, lp66_0, code66, Tryz.f66, fr66, memL]
theorem reg16_66 (i : Nat) (d d' : D) (x : Kd) (X : List Blk) (A A' : List Arr) (hc : cellD d = true) (hc' : cellD d' = true) (h3 : cellsD d' = [d'])
    (h1 : appendD Tryz.prog false (memL v q d (X ++ [bK x]) A) 23 d (.lit false [encK x]) = some (.val d' (memL v q d (X ++ [bK x]) A'))) :
    E false ⟨0, 0⟩ 66 (cFst (cSnd (cSnd b66))) (fr66 i ++ [(7, .ptr (X.length + 4) 0), (43, .p (.bool false))]) (memL v q d (X ++ [bK x]) A) =
    some (.normal, fr66 i ++ [(7, .ptr (X.length + 4) 0)], memL v q d' (X ++ [bK x]) A') := by
  simp only [cellD] at hc hc'
  simp only [memL, bK, oB, bV] at h1
  simp [b66, cFst, cSnd, cBlk, lp66_0, code66, Tryz.f66, fr66, memL, bK, oB, bV, splice, buildSliceD, elsD, h1, h3, hc, hc']
theorem rest66_no (i : Nat) (d : D) (x : Kd) (X : List Blk) (A : List Arr) (h5 : v.k ≠ 5) :
    E false ⟨0, 0⟩ 66 (cSnd (cSnd (cSnd b66))) (fr66 i ++ [(7, .ptr (X.length + 4) 0)]) (memL v q d (X ++ [bK x]) A) =
    some (.normal, fr66 i ++ [(7, .ptr (X.length + 4) 0), (53, .p (.bool false))], memL v q d (X ++ [bK x]) A) := by
  have e := eq_false h5
  simp [b66, cFst, cSnd, cBlk, lp66_0, code66, Tryz.f66, fr66, memL, bV, e]
theorem rest66_set0 (i : Nat) (d : D) (x : Kd) (X : List Blk) (A : List Arr) (h5 : v.k = 5) (hr : ∀ H, W 25 [.p (encK q), .p (encK x)] H = some (.ret (joinR none), H)) :
    E false ⟨0, 0⟩ 66 (cSnd (cSnd (cSnd b66))) (fr66 i ++ [(7, .ptr (X.length + 4) 0)]) (memL v q d (X ++ [bK x]) A) =
    some (.ret, [(2, .ptr 1 0), (3, .p (.bool false))], memL v kz d (X ++ [bK x]) A) := by
  have e := eq_true h5
  simp only [joinR] at hr
  simp [b66, cFst, cSnd, cBlk, lp66_0, code66, Tryz.f66, fr66, memL, bV, bK, zB, e, hr, splice, buildD, buildD.go]
theorem rest66_set (i : Nat) (d : D) (x q' : Kd) (X : List Blk) (A : List Arr) (h5 : v.k = 5) (hr : ∀ H, W 25 [.p (encK q), .p (encK x)] H = some (.ret (joinR (some q')), H)) :
    E false ⟨0, 0⟩ 66 (cSnd (cSnd (cSnd b66))) (fr66 i ++ [(7, .ptr (X.length + 4) 0)]) (memL v q d (X ++ [bK x]) A) =
    some (.normal, fr66 i ++ [(61, .p (.bool false))], memL v q' d (X ++ [bK x]) A) := by
  have e := eq_true h5
  simp only [joinR] at hr
  simp [b66, cFst, cSnd, cBlk, lp66_0, code66, Tryz.f66, fr66, memL, bV, bK, zB, e, hr, splice, buildD, buildD.go]
theorem last66a (i : Nat) (hi : i < 4611686018427387904) (a b : D) (d : D) (X : List Blk) (A : List Arr) :
    E false ⟨0, 0⟩ 66 (cSnd (cSnd lp66_0)) (fr66 i ++ [(7, a), (53, b)]) (memL v q d X A) = some (.normal, fr66 (i + 1), memL v q d X A) := by
  have hw : IntKind.i64.wrap ((i : Int) + 1) = (i : Int) + 1 := wrap64 (by omega) (by omega)
  simp [cFst, cSnd, lp66_0, code66, Tryz.f66, fr66, hw]
theorem last66b (i : Nat) (hi : i < 4611686018427387904) (b : D) (d : D) (X : List Blk) (A : List Arr) :
    E false ⟨0, 0⟩ 66 (cSnd (cSnd lp66_0)) (fr66 i ++ [(61, b)]) (memL v q d X A) = some (.normal, fr66 (i + 1), memL v q d X A) := by
  have hw : IntKind.i64.wrap ((i : Int) + 1) = (i : Int) + 1 := wrap64 (by omega) (by omega)
  simp [cFst, cSnd, lp66_0, code66, Tryz.f66, fr66, hw]
/-! A round. -/
theorem round66_no (i : Nat) (hi : i < v.ps.length) (d : D) (X : List Blk) (A : List Arr)
    (hr : ∀ H, W 66 [.p (enc v.ps[i])] H = some (.ret (joinR none), H)) :
    E false ⟨0, 0⟩ 66 lp66_0 (fr66 i) (memL v q d X A) = some (.ret, [(2, .ptr 1 0), (3, .p (.bool false))], memL v q d (X ++ [bK kz]) A) := by
  rw [E_cut (c := lp66_0) (by rfl), first66_W v q i hi d X A]
  simp only
  rw [E_cut (by rfl), b66_eq, E_block, E_cut (by rfl), reg13_66 v q i hi d X A none hr]
  simp only [Option.isSome_none, Option.getD_none]
  rw [E_cut (by rfl), no66]
theorem round66_mid (i : Nat) (hi : i < v.ps.length) (hlt : v.ps.length < 1000) (d : D) (X : List Blk) (A : List Arr) (l : List Kd) (hg : GRow A 25 5 d (l.map encK)) (hl : l.length ≤ 1000) (x : Kd)
    (hr : ∀ H, W 66 [.p (enc v.ps[i])] H = some (.ret (joinR (some x)), H)) :
    ∃ d' A', GRow A' 25 5 d' ((l ++ [x]).map encK) ∧ ∀ e F1 H1, E false ⟨0, 0⟩ 66 (cSnd (cSnd (cSnd b66))) (fr66 i ++ [(7, .ptr (X.length + 4) 0)]) (memL v q d' (X ++ [bK x]) A') = some (e, F1, H1) →
      (e = .normal → E false ⟨0, 0⟩ 66 lp66_0 (fr66 i) (memL v q d X A) = E false ⟨0, 0⟩ 66 (cSnd (cSnd lp66_0)) F1 H1) ∧ (e = .ret → E false ⟨0, 0⟩ 66 lp66_0 (fr66 i) (memL v q d X A) = some (.ret, F1, H1)) := by
  have hfit : fits 5 [encK x] = true := fitK [x]
  obtain ⟨d', A', h1, h2, h3, _⟩ := hg.app (t := 23) (by_ := 56) (ys := [encK x]) (y := .lit false [encK x]) (memL v q d (X ++ [bK x]) A).B (by simp) (by simp) (by simp) (by omega) (by omega) zok25 (by simp [srcD]) (by simp) hfit (by simp; omega)
  have hcd := hg.cell
  have hcd' := h2.cell
  refine ⟨d', A', by simpa using h2, fun e F1 H1 hE => ?_⟩
  rw [E_cut (c := lp66_0) (by rfl), first66_W v q i hi d X A]
  simp only
  rw [E_cut (by rfl), b66_eq, E_block, E_cut (by rfl), reg13_66 v q i hi d X A (some x) hr]
  simp only [Option.isSome_some, Option.getD_some]
  rw [E_cut (by rfl), yes66]
  simp only
  rw [E_cut (by rfl), reg16_66 v q i d d' x X A A' hcd hcd' h3 h1]
  simp only
  rw [hE]
  exact ⟨fun h => by subst h; rfl, fun h => by subst h; rfl⟩

def Q66 (s : Option (List Kd × Kd)) (o : CO) : Prop :=
  match s with
  | none => ∃ X A, o = (.ret, [(2, .ptr 1 0), (3, .p (.bool false))], ⟨bV v :: zB :: X, A⟩)
  | some y => ∃ d X A, o = (.exit 1, [(1, .ptr 0 0), (2, .ptr 1 0), (4, .ptr 2 0), (5, .ptr 3 0), (6, .p (.int .i64 v.ps.length)), (30, .p (.bool false))], memL v y.2 d X A) ∧ GRow A 25 5 d (y.1.map encK)
def Rec66 (n : Int) : Prop := ∀ (u : Val) (H : Hp), u.nodes < n → u.shaped = true → u.nodes ≤ 200 → W 66 [.p (enc u)] H = some (.ret (joinR (leastG Kd.join u)), H)
theorem parts_okv {v : Val} (hs : v.shaped = true) : ∀ x ∈ v.ps, x.shaped = true := by
  rw [shaped_eq, Bool.and_eq_true, List.all_eq_true] at hs
  exact hs.1
theorem ps_nodesv {v u : Val} (h : u ∈ v.ps) : u.nodes < v.nodes := by
  have := nodesL_mem v.ps u h
  have := nodes_eq v
  omega
theorem top_bV (v : Val) : (bV v).top = 0 := by simp [bV, Blk.top, D.tops, D.top]
set_option maxHeartbeats 1000000 in
theorem loop66_ok (hs : v.shaped = true) (hn : v.nodes ≤ 200) (hrec : Rec66 v.nodes) :
    ∃ o, loopO false ⟨0, 0⟩ 66 lp66_0 4 0 (fr66 0) (memL v kN (.lit true []) [] []) = some o ∧ Q66 v (leastsG Kd.join (decide (v.k = 5)) v.ps kN) o := by
  have hlen := nodesL_len v.ps
  have hne := nodes_eq v
  refine for_ex (mu := false) (hd66_0) v.ps.length (fun i F H => ∃ l q d X A, F = fr66 i ∧ H = memL v q d X A ∧ GRow A 25 5 d (l.map encK) ∧ l.length = i ∧ q.shaped = true ∧ (q.nodes : Int) + 2 * nodesL (v.ps.drop i) ≤ 1 + 2 * nodesL v.ps ∧
      leastsG Kd.join (decide (v.k = 5)) v.ps kN = (leastsG Kd.join (decide (v.k = 5)) (v.ps.drop i) q).map fun y => (l ++ y.1, y.2)) (Q66 v (leastsG Kd.join (decide (v.k = 5)) v.ps kN)) ?_ ?_
    (F := fr66 0) (H := memL v kN (.lit true []) [] []) (F0 := fr66 0) (H0 := memL v kN (.lit true []) [] []) (by simp [cutD, fr66, frNo, memL, bK, bV, oB, zB, blkNo])
      ⟨[], kN, .lit true [], [], [], rfl, rfl, .inl ⟨rfl, rfl⟩, rfl, rfl, by simp [Kd.nodes, nodesKs], by simp⟩
  · rintro F H ⟨l, q, d, X, A, rfl, rfl, h1, h3, hq, hb, h5⟩
    rw [List.drop_length, leastsG] at h5
    refine ⟨(.exit 1, [(1, .ptr 0 0), (2, .ptr 1 0), (4, .ptr 2 0), (5, .ptr 3 0), (6, .p (.int .i64 v.ps.length)), (30, .p (.bool false))], memL v q d X A), ?_, by simp, ?_⟩
    · simp [lp66_0, code66, Tryz.f66, fr66, memL, bV]
    · rw [h5]
      exact ⟨d, X, A, rfl, by simpa using h1⟩
  · rintro i F H hi ⟨l, q, d, X, A, rfl, rfl, h1, h3, hq, hb, h5⟩
    have hx := List.getElem_mem hi
    have hxn := ps_nodesv hx
    have hxs := parts_okv hs _ hx
    have hr := fun H => hrec v.ps[i] H hxn hxs (by omega)
    rw [List.drop_eq_getElem_cons hi] at h5 hb
    simp only [leastsG] at h5
    simp only [nodesL] at hb
    have hpos := nodesL_pos (v.ps.drop (i + 1))
    obtain ⟨_, hok⟩ := least_ok v.ps[i] hxs (by omega)
    cases hc : leastG Kd.join v.ps[i] with
    | none =>
      left
      rw [hc] at hr h5
      refine ⟨_, round66_no v q i hi d X A hr, by simp, ?_⟩
      rw [h5]
      exact ⟨_, A, rfl⟩
    | some x =>
      rw [hc] at hr h5
      obtain ⟨x1, x2⟩ := hok x hc
      obtain ⟨d', A', g1, g2⟩ := round66_mid v q i hi (by omega) d X A l h1 (by omega) x hr
      have go : ∀ q' F1, q'.shaped = true → (q'.nodes : Int) ≤ q.nodes + 2 * v.ps[i].nodes →
          leastsG Kd.join (decide (v.k = 5)) v.ps kN = (leastsG Kd.join (decide (v.k = 5)) (v.ps.drop (i + 1)) q').map (fun y => (l ++ [x] ++ y.1, y.2)) →
          E false ⟨0, 0⟩ 66 (cSnd (cSnd (cSnd b66))) (fr66 i ++ [(7, .ptr (X.length + 4) 0)]) (memL v q d' (X ++ [bK x]) A') = some (.normal, F1, memL v q' d' (X ++ [bK x]) A') →
          E false ⟨0, 0⟩ 66 (cSnd (cSnd lp66_0)) F1 (memL v q' d' (X ++ [bK x]) A') = some (.normal, fr66 (i + 1), memL v q' d' (X ++ [bK x]) A') →
          ∃ F1 H1, E false ⟨0, 0⟩ 66 lp66_0 (fr66 i) (memL v q d X A) = some (.normal, F1, H1) ∧ ∃ F2 H2, cutD ⟨0, 0⟩ [1, 2, 4, 5, 6] 4 0 F1 H1 = some (F2, H2) ∧ (∃ l q d X A, F2 = fr66 (i + 1) ∧ H2 = memL v q d X A ∧ GRow A 25 5 d (l.map encK) ∧ l.length = i + 1 ∧ q.shaped = true ∧ (q.nodes : Int) + 2 * nodesL (v.ps.drop (i + 1)) ≤ 1 + 2 * nodesL v.ps ∧
            leastsG Kd.join (decide (v.k = 5)) v.ps kN = (leastsG Kd.join (decide (v.k = 5)) (v.ps.drop (i + 1)) q).map fun y => (l ++ y.1, y.2)) := by
        intro q' F1 hq' hn' h6 hE hL
        refine ⟨_, _, ((g2 _ _ _ hE).1 rfl).trans hL, ?_⟩
        obtain ⟨H', c1, c2⟩ := cutD_or ⟨0, 0⟩ [1, 2, 4, 5, 6] 4 0 (fr66 (i + 1)) (memL v q' d' (X ++ [bK x]) A')
        have hnorm : norm [1, 2, 4, 5, 6] (fr66 (i + 1)) = fr66 (i + 1) := rfl
        rw [hnorm] at c1 c2
        refine ⟨_, H', c1, l ++ [x], q', d', ?_⟩
        rcases c2 with rfl | ⟨rfl, k1, k2⟩
        · exact ⟨X ++ [bK x], A', rfl, rfl, g1, by simp [h3], hq', by omega, h6⟩
        · have hnr : D.noRef 4 0 d' = true := by
            rw [List.all_eq_true] at k2
            have := k2 (oB 5 0 0 0 d') (by simp [memL])
            simpa [oB, blkNo] using this
          exact ⟨[], A'.take 0, rfl, by simp [memL], g1.cut hnr, by simp [h3], hq', by omega, h6⟩
      by_cases h8 : v.k = 5
      · simp only [decide_eq_true h8, if_true] at h5
        have hj := fun H => join25_W q x H (by omega)
        cases hqx : q.join x with
        | none =>
          left
          rw [hqx] at hj
          simp only [hqx] at h5
          have hrest := rest66_set0 v q i d' x X A' h8 hj
          refine ⟨_, (g2 _ _ _ hrest).2 rfl, by simp, ?_⟩
          simp only [decide_eq_true h8]
          rw [h5]
          exact ⟨_, A', rfl⟩
        | some q' =>
          right
          rw [hqx] at hj
          simp only [hqx] at h5
          have hrest := rest66_set v q i d' x q' X A' h8 hj
          have hn' := joinP_nodes q x q' (by rw [join_same q x hq x1]; exact hqx)
          refine go q' _ (join_shaped q x q' hq x1 hqx) (by omega) ?_ hrest (last66b v q' i (by omega) _ d' _ A')
          simp only [decide_eq_true h8]
          rw [h5]
          cases leastsG Kd.join true (v.ps.drop (i + 1)) q' <;> simp
      · right
        simp only [decide_eq_false h8, Bool.false_eq_true, if_false] at h5
        refine go q _ hq (by have := nodes_posv v.ps[i]; omega) ?_ (rest66_no v q i d' x X A' h8) (last66a v q i (by omega) _ _ d' _ A')
        simp only [decide_eq_false h8]
        rw [h5]
        cases leastsG Kd.join false (v.ps.drop (i + 1)) q <;> simp
theorem one66_W : E false ⟨0, 0⟩ 66 (cFst code66) (mkF 0 [.p (enc v)]) H00 = some (.normal, [(1, .ptr 0 0), (2, .ptr 1 0)], ⟨[bV v, zB], []⟩) := by
  simp [cFst, code66, Tryz.f66, bV, zB]
theorem two66_1 (h : v.k = 1) : E false ⟨0, 0⟩ 66 (cFst (cSnd code66)) [(1, .ptr 0 0), (2, .ptr 1 0)] ⟨[bV v, zB], []⟩ = some (.ret, [(2, .ptr 1 0), (3, .p (.bool true))], ⟨[bV v, bK (.mk 2 v.n v.n 0 [])], []⟩) := by
  have e := eq_true h
  simp [cFst, cSnd, code66, Tryz.f66, bV, zB, bK, e, int39_W, splice]
theorem two66_2 (h : v.k = 2) : E false ⟨0, 0⟩ 66 (cFst (cSnd code66)) [(1, .ptr 0 0), (2, .ptr 1 0)] ⟨[bV v, zB], []⟩ = some (.ret, [(2, .ptr 1 0), (3, .p (.bool true))], ⟨[bV v, bK (.mk 3 0 0 0 [])], []⟩) := by
  have e := eq_true h
  have e1 : (v.k = 1) = False := eq_false (by omega)
  simp [cFst, cSnd, code66, Tryz.f66, bV, zB, bK, e, e1, bool54_W, splice]
theorem two66_3 (h : v.k = 3) : E false ⟨0, 0⟩ 66 (cFst (cSnd code66)) [(1, .ptr 0 0), (2, .ptr 1 0)] ⟨[bV v, zB], []⟩ = some (.ret, [(2, .ptr 1 0), (3, .p (.bool true))], ⟨[bV v, oB 4 0 0 0 (.lit true [])], []⟩) := by
  have e := eq_true h
  have e1 : (v.k = 1) = False := eq_false (by omega)
  have e2 : (v.k = 2) = False := eq_false (by omega)
  simp [cFst, cSnd, code66, Tryz.f66, bV, zB, oB, e, e1, e2, buildD, buildD.go, splice]
theorem two66_n (h1 : v.k ≠ 1) (h2 : v.k ≠ 2) (h3 : v.k ≠ 3) : E false ⟨0, 0⟩ 66 (cFst (cSnd code66)) [(1, .ptr 0 0), (2, .ptr 1 0)] ⟨[bV v, zB], []⟩ = some (.normal, [(1, .ptr 0 0), (2, .ptr 1 0), (21, .p (.bool false))], ⟨[bV v, zB], []⟩) := by
  have n1 := eq_false h1
  have n2 := eq_false h2
  have n3 := eq_false h3
  simp [cFst, cSnd, code66, Tryz.f66, bV, n1, n2, n3]
theorem three66_W (x : D) : E false ⟨0, 0⟩ 66 (cFst (cSnd (cSnd code66))) [(1, .ptr 0 0), (2, .ptr 1 0), (21, x)] ⟨[bV v, zB], []⟩ = some (.normal, [(1, .ptr 0 0), (2, .ptr 1 0), (4, .ptr 2 0)], ⟨[bV v, zB, oB 5 0 0 0 (.lit true [])], []⟩) := by
  simp [cFst, cSnd, code66, Tryz.f66, oB, buildD, buildD.go, splice]
theorem four66_W : E false ⟨0, 0⟩ 66 (cFst (cSnd (cSnd (cSnd code66)))) [(1, .ptr 0 0), (2, .ptr 1 0), (4, .ptr 2 0)] ⟨[bV v, zB, oB 5 0 0 0 (.lit true [])], []⟩ = some (.normal, [(1, .ptr 0 0), (2, .ptr 1 0), (4, .ptr 2 0), (5, .ptr 3 0)], memL v kN (.lit true []) [] []) := by
  simp [cFst, cSnd, code66, Tryz.f66, memL, bK, none105_W, splice]
theorem five66_W (hs : v.shaped = true) (hn : v.nodes ≤ 200) (hrec : Rec66 v.nodes) :
    (leastsG Kd.join (decide (v.k = 5)) v.ps kN = none → ∃ X A, E false ⟨0, 0⟩ 66 (cFst (cSnd (cSnd (cSnd (cSnd code66))))) [(1, .ptr 0 0), (2, .ptr 1 0), (4, .ptr 2 0), (5, .ptr 3 0)] (memL v kN (.lit true []) [] []) = some (.ret, [(2, .ptr 1 0), (3, .p (.bool false))], ⟨bV v :: zB :: X, A⟩)) ∧
    ∀ y, leastsG Kd.join (decide (v.k = 5)) v.ps kN = some y → ∃ d X A F, E false ⟨0, 0⟩ 66 (cFst (cSnd (cSnd (cSnd (cSnd code66))))) [(1, .ptr 0 0), (2, .ptr 1 0), (4, .ptr 2 0), (5, .ptr 3 0)] (memL v kN (.lit true []) [] []) = some (.normal, [(1, .ptr 0 0), (2, .ptr 1 0), (4, .ptr 2 0), (5, .ptr 3 0)] ++ F, memL v y.2 d X A) ∧ GRow A 25 5 d (y.1.map encK) ∧ ∃ a b, F = [(6, a), (30, b)] := by
  obtain ⟨o, hloop, hq⟩ := loop66_ok v hs hn hrec
  have h00 : ((0 : Nat) : Int) = 0 := rfl
  simp only [lp66_0, code66, Tryz.f66, fr66, memL, h00] at hloop
  refine ⟨fun e => ?_, fun y e => ?_⟩
  · rw [e] at hq
    obtain ⟨X, A, rfl⟩ := hq
    refine ⟨X, A, ?_⟩
    simp [cFst, cSnd, code66, Tryz.f66, memL] at hloop ⊢
    simp [hloop]
  · rw [e] at hq
    obtain ⟨d, X, A, rfl, hg⟩ := hq
    refine ⟨d, X, A, [(6, .p (.int .i64 v.ps.length)), (30, .p (.bool false))], ?_, hg, _, _, rfl⟩
    simp [cFst, cSnd, code66, Tryz.f66, memL] at hloop ⊢
    simp [hloop]
theorem six66_5 (q : Kd) (d : D) (X : List Blk) (A : List Arr) (a b : D) (h : v.k = 5) : E false ⟨0, 0⟩ 66 (cFst (cSnd (cSnd (cSnd (cSnd (cSnd code66)))))) [(1, .ptr 0 0), (2, .ptr 1 0), (4, .ptr 2 0), (5, .ptr 3 0), (6, a), (30, b)] (memL v q d X A) =
    some (.ret, [(2, .ptr 1 0), (3, .p (.bool true))], ⟨bV v :: bK (.mk 6 0 0 v.ps.length [q]) :: oB 5 0 0 0 d :: bK q :: X, A⟩) := by
  have e := eq_true h
  simp [cFst, cSnd, code66, Tryz.f66, memL, bV, bK, zB, e, set53_W, splice]
theorem six66_n (q : Kd) (d : D) (X : List Blk) (A : List Arr) (a b : D) (h : v.k ≠ 5) : E false ⟨0, 0⟩ 66 (cFst (cSnd (cSnd (cSnd (cSnd (cSnd code66)))))) [(1, .ptr 0 0), (2, .ptr 1 0), (4, .ptr 2 0), (5, .ptr 3 0), (6, a), (30, b)] (memL v q d X A) =
    some (.normal, [(1, .ptr 0 0), (2, .ptr 1 0), (4, .ptr 2 0), (5, .ptr 3 0), (65, .p (.bool false))], memL v q d X A) := by
  have e := eq_false h
  simp [cFst, cSnd, code66, Tryz.f66, memL, bV, e]
theorem seven66_W (q : Kd) (d : D) (X : List Blk) (A : List Arr) (x : D) (hc : cellD d = true) : E false ⟨0, 0⟩ 66 (cSnd (cSnd (cSnd (cSnd (cSnd (cSnd code66)))))) [(1, .ptr 0 0), (2, .ptr 1 0), (4, .ptr 2 0), (5, .ptr 3 0), (65, x)] (memL v q d X A) =
    some (.ret, [(2, .ptr 1 0), (3, .p (.bool true))], ⟨bV v :: oB 5 0 0 0 d :: oB 5 0 0 0 d :: bK q :: X, A⟩) := by
  simp only [cellD] at hc
  simp [cSnd, code66, Tryz.f66, memL, oB, zB, splice, hc]
end
theorem least66_W (v : Val) (H : Hp) (hs : v.shaped = true) (hn : v.nodes ≤ 200) : W 66 [.p (enc v)] H = some (.ret (joinR (leastG Kd.join v)), H) := by
  have key : ∀ (n : Nat) (v : Val) (H : Hp), v.nodes ≤ n → v.shaped = true → v.nodes ≤ 200 → W 66 [.p (enc v)] H = some (.ret (joinR (leastG Kd.join v)), H) := by
    intro n
    induction n with
    | zero => intro v H h _ _; have := nodes_posv v; omega
    | succ n ih =>
      intro v H hn hs hb
      refine W66_of rfl (by simp) ?_
      rw [leastG_eq, E_cut (by rfl), one66_W]
      simp only
      rw [E_cut (by rfl)]
      by_cases c1 : v.k = 1
      · rw [if_pos c1, two66_1 v c1]; exact retL_k _ _ _ _ H
      rw [if_neg c1]
      by_cases c2 : v.k = 2
      · rw [if_pos c2, two66_2 v c2]; exact retL_k _ _ _ _ H
      rw [if_neg c2]
      by_cases c3 : v.k = 3
      · rw [if_pos c3, two66_3 v c3]
        have he : encK (.mk 4 0 0 0 []) = .agg [.int .i64 4, .int .i64 0, .int .i64 0, .int .i64 0, .sl []] := rfl
        simp [oB, joinR, he]
      rw [if_neg c3, two66_n v c1 c2 c3]
      simp only
      rw [E_cut (by rfl), three66_W]
      simp only
      rw [E_cut (by rfl), four66_W]
      simp only
      rw [E_cut (by rfl)]
      obtain ⟨h1, h2⟩ := five66_W v hs hb fun u H hu hs hn => ih u H (by omega) hs hn
      cases hl : leastsG Kd.join (decide (v.k = 5)) v.ps kN with
      | none =>
        obtain ⟨X, A, h5⟩ := h1 hl
        rw [h5]
        exact retL_z _ X A H
      | some y =>
        obtain ⟨d, X, A, F, h5, hg, a, b, rfl⟩ := h2 y hl
        rw [h5]
        simp only [List.cons_append, List.nil_append]
        rw [E_cut (by rfl)]
        simp only [Option.map_some]
        by_cases c5 : v.k = 5
        · rw [six66_5 v _ _ _ _ _ _ c5, if_pos c5]
          exact retL_k _ _ _ _ H
        · rw [six66_n v _ _ _ _ _ _ c5, if_neg c5]
          simp only
          rw [seven66_W v _ _ _ _ _ hg.cell]
          exact retL_row y.1 d _ A hg _ H
  exact key v.nodes.toNat v H (by have := nodes_posv v; omega) hs hn
end Go.Vi
end

section
/- layer 5: kind.least. No conditions but those that stand with each. -/
namespace Go.Vi
open Go Go.Lib Go.Proofs
set_option maxRecDepth 100000
attribute [local simp] E_skip E_ret E_exit E_text E_draw E_seq E_cond E_block E_scope E_loop runOps runOp drawR slotsOf Hp.kept_zero runDraw runVF runX runV finV gate FlOK FlOK0 wantD exec fin opd look putF norm constD constC fieldAddrD loadD storeD opCall lenD binD isShift intP strP numD indexAddrD indexD D.pd? D.pds? sub capsOf callD argsD argD D.nf unP cellD mkF H00 cD_agg cD_pagg cD_int cD_bool cD_str cD_sl cD_lit cells_int
attribute [local simp] fnOut retOut resD retsD retD oneD D.noRefs D.noRef alone Hp.cut
attribute [local simp] cells_encK encK_agg box_encK cells_enc enc_agg box_enc one_int one_str one_sl one_agg cD_own cD_ptr
attribute [local simp] newRow Hp.live one_encK one_enc

theorem joinP_shaped {a b k : Kd} (ha : a.shaped = true) (hb : b.shaped = true) (h : a.joinP b = some k) : k.shaped = true := join_shaped a b k ha hb (by rw [← join_same a b ha hb]; exact h)
theorem leastP_ok {v : Val} (hs : v.shaped = true) (hn : v.nodes ≤ 200) : leastG Kd.joinP v = leastG Kd.joinP v ∧ ∀ k, leastG Kd.joinP v = some k → k.shaped = true ∧ (k.nodes : Int) ≤ 2 * v.nodes := by
  obtain ⟨h1, h2⟩ := least_ok v hs hn
  rw [h1]
  exact ⟨rfl, h2⟩
def fq63 (v : Val) (i : Nat) (T : Fr) : Fr := (1, .ptr 0 0) :: (2, .ptr 1 0) :: (4, .ptr 2 0) :: (5, .ptr 3 0) :: (T ++ [(28, .p (.sl (v.ps.map enc))), (29, .p (.int .i64 v.ps.length)), (30, .p (.int .i64 i))])
noncomputable def b63 : Code := cBlk (cFst (cSnd (cSnd lp63_0)))
theorem b63_eq : cFst (cSnd (cSnd lp63_0)) = .block 2 b63 := by kernel_rfl
section
variable (v : Val) (q : Kd)
theorem first63_W (i : Nat) (hi : i < v.ps.length) (d : D) (X : List Blk) (A : List Arr) : E false ⟨0, 0⟩ 63 (cFst lp63_0) (fq63 v i []) (memL v q d X A) = some (.normal, fq63 v i [] ++ [(31, .p (.bool true))], memL v q d X A) := by
  simp [cFst, lp63_0, code63, Tryz.f63, fq63, memL, bV, hi]
theorem second63_W (i : Nat) (d : D) (X : List Blk) (A : List Arr) : E false ⟨0, 0⟩ 63 (cFst (cSnd lp63_0)) (fq63 v i [] ++ [(31, .p (.bool true))]) (memL v q d X A) = some (.normal, fq63 v i [] ++ [(31, .p (.bool true))], memL v q d X A) := by
  simp [cFst, cSnd, lp63_0, code63, Tryz.f63, fq63]
theorem reg12_63 (i : Nat) (hi : i < v.ps.length) (d : D) (X : List Blk) (A : List Arr) :
    E false ⟨0, 0⟩ 63 (cFst b63) (fq63 v i [] ++ [(31, .p (.bool true))]) (memL v q d X A) = some (.normal, fq63 v i [(7, .ptr (X.length + 4) 0)], memL v q d (X ++ [bV v.ps[i]]) A) := by
  simp [b63, cFst, cSnd, cBlk, lp63_0, code63, Tryz.f63, fq63, memL, bV, hi, splice]
theorem reg13_63 (i : Nat) (u : Val) (d : D) (X : List Blk) (A : List Arr) (s : Option Kd) (hr : ∀ H, W 63 [.p (enc u)] H = some (.ret (joinR s), H)) :
    E false ⟨0, 0⟩ 63 (cFst (cSnd b63)) (fq63 v i [(7, .ptr (X.length + 4) 0)]) (memL v q d (X ++ [bV u]) A) = some (.normal, fq63 v i [(8, .ptr (X.length + 5) 0), (9, .p (.bool s.isSome))], memL v q d (X ++ [bV u] ++ [bK (s.getD kz)]) A) := by
  cases s <;> simp only [joinR] at hr <;> simp [b63, cFst, cSnd, cBlk, lp63_0, code63, Tryz.f63, fq63, memL, bV, hr, splice, bK]
theorem no63 (i : Nat) (a d : D) (X : List Blk) (A : List Arr) : E false ⟨0, 0⟩ 63 (cFst (cSnd (cSnd b63))) (fq63 v i [(8, a), (9, .p (.bool false))]) (memL v q d X A) =
    some (.ret, [(2, .ptr 1 0), (3, .p (.bool false))], memL v q d X A) := by
  simp [b63, cFst, cSnd, cBlk, lp63_0, code63, Tryz.f63, fq63, memL, splice, zB, buildD, buildD.go]
theorem yes63 (i : Nat) (a d : D) (X : List Blk) (A : List Arr) : E false ⟨0, 0⟩ 63 (cFst (cSnd (cSnd b63))) (fq63 v i [(8, a), (9, .p (.bool true))]) (memL v q d X A) =
    some (.normal, fq63 v i [(8, a)] ++ [(40, .p (.bool false))], memL v q d X A) := by
  simp [b63, cFst, cSnd, cBlk, lp63_0, code63, Tryz.f63, fq63, memL]
theorem reg16_63 (i : Nat) (d d' : D) (x : Kd) (X : List Blk) (A A' : List Arr) (hc : cellD d = true) (hc' : cellD d' = true) (h3 : cellsD d' = [d'])
    (h1 : appendD Tryz.prog false (memL v q d (X ++ [bK x]) A) 23 d (.lit false [encK x]) = some (.val d' (memL v q d (X ++ [bK x]) A'))) :
    E false ⟨0, 0⟩ 63 (cFst (cSnd (cSnd (cSnd b63)))) (fq63 v i [(8, .ptr (X.length + 4) 0)] ++ [(40, .p (.bool false))]) (memL v q d (X ++ [bK x]) A) =
    some (.normal, fq63 v i [(8, .ptr (X.length + 4) 0)], memL v q d' (X ++ [bK x]) A') := by
  simp only [cellD] at hc hc'
  simp only [memL, bK, oB, bV] at h1
  simp [b63, cFst, cSnd, cBlk, lp63_0, code63, Tryz.f63, fq63, memL, bK, oB, bV, splice, buildSliceD, elsD, h1, h3, hc, hc']
theorem rest63_no (i : Nat) (d : D) (x : Kd) (X : List Blk) (A : List Arr) (h5 : v.k ≠ 5) :
    E false ⟨0, 0⟩ 63 (cSnd (cSnd (cSnd (cSnd b63)))) (fq63 v i [(8, .ptr (X.length + 4) 0)]) (memL v q d (X ++ [bK x]) A) =
    some (.normal, fq63 v i [(8, .ptr (X.length + 4) 0)] ++ [(50, .p (.bool false))], memL v q d (X ++ [bK x]) A) := by
  have e := eq_false h5
  simp [b63, cFst, cSnd, cBlk, lp63_0, code63, Tryz.f63, fq63, memL, bV, e]
theorem rest63_set0 (i : Nat) (d : D) (x : Kd) (X : List Blk) (A : List Arr) (h5 : v.k = 5) (hr : ∀ H, W 70 [.p (encK q), .p (encK x)] H = some (.ret (joinR none), H)) :
    E false ⟨0, 0⟩ 63 (cSnd (cSnd (cSnd (cSnd b63)))) (fq63 v i [(8, .ptr (X.length + 4) 0)]) (memL v q d (X ++ [bK x]) A) =
    some (.ret, [(2, .ptr 1 0), (3, .p (.bool false))], memL v kz d (X ++ [bK x]) A) := by
  have e := eq_true h5
  simp only [joinR] at hr
  simp [b63, cFst, cSnd, cBlk, lp63_0, code63, Tryz.f63, fq63, memL, bV, bK, zB, e, hr, splice, buildD, buildD.go]
theorem rest63_set (i : Nat) (d : D) (x q' : Kd) (X : List Blk) (A : List Arr) (h5 : v.k = 5) (hr : ∀ H, W 70 [.p (encK q), .p (encK x)] H = some (.ret (joinR (some q')), H)) :
    E false ⟨0, 0⟩ 63 (cSnd (cSnd (cSnd (cSnd b63)))) (fq63 v i [(8, .ptr (X.length + 4) 0)]) (memL v q d (X ++ [bK x]) A) =
    some (.normal, fq63 v i [] ++ [(58, .p (.bool false))], memL v q' d (X ++ [bK x]) A) := by
  have e := eq_true h5
  simp only [joinR] at hr
  simp [b63, cFst, cSnd, cBlk, lp63_0, code63, Tryz.f63, fq63, memL, bV, bK, zB, e, hr, splice, buildD, buildD.go]
theorem last63a (i : Nat) (hi : i < 4611686018427387904) (a b : D) (d : D) (X : List Blk) (A : List Arr) :
    E false ⟨0, 0⟩ 63 (cSnd (cSnd (cSnd lp63_0))) (fq63 v i [(8, a)] ++ [(50, b)]) (memL v q d X A) = some (.normal, fq63 v (i + 1) [], memL v q d X A) := by
  have hw : IntKind.i64.wrap ((i : Int) + 1) = (i : Int) + 1 := wrap64 (by omega) (by omega)
  simp [cFst, cSnd, lp63_0, code63, Tryz.f63, fq63, hw]
theorem last63b (i : Nat) (hi : i < 4611686018427387904) (b : D) (d : D) (X : List Blk) (A : List Arr) :
    E false ⟨0, 0⟩ 63 (cSnd (cSnd (cSnd lp63_0))) (fq63 v i [] ++ [(58, b)]) (memL v q d X A) = some (.normal, fq63 v (i + 1) [], memL v q d X A) := by
  have hw : IntKind.i64.wrap ((i : Int) + 1) = (i : Int) + 1 := wrap64 (by omega) (by omega)
  simp [cFst, cSnd, lp63_0, code63, Tryz.f63, fq63, hw]
/-! A round. -/
theorem round63_no (i : Nat) (hi : i < v.ps.length) (d : D) (X : List Blk) (A : List Arr)
    (hr : ∀ H, W 63 [.p (enc v.ps[i])] H = some (.ret (joinR none), H)) :
    E false ⟨0, 0⟩ 63 lp63_0 (fq63 v i []) (memL v q d X A) = some (.ret, [(2, .ptr 1 0), (3, .p (.bool false))], memL v q d (X ++ [bV v.ps[i]] ++ [bK kz]) A) := by
  rw [E_cut (c := lp63_0) (by rfl), first63_W v q i hi d X A]
  simp only
  rw [E_cut (by rfl), second63_W]
  simp only
  rw [E_cut (by rfl), b63_eq, E_block, E_cut (by rfl), reg12_63 v q i hi d X A]
  simp only
  rw [E_cut (by rfl), reg13_63 v q i _ d X A none hr]
  simp only [Option.isSome_none, Option.getD_none]
  rw [E_cut (by rfl), no63]
theorem round63_mid (i : Nat) (hi : i < v.ps.length) (hlt : v.ps.length < 1000) (d : D) (X : List Blk) (A : List Arr) (l : List Kd) (hg : GRow A 25 5 d (l.map encK)) (hl : l.length ≤ 1000) (x : Kd)
    (hr : ∀ H, W 63 [.p (enc v.ps[i])] H = some (.ret (joinR (some x)), H)) :
    ∃ d' A', GRow A' 25 5 d' ((l ++ [x]).map encK) ∧ ∀ e F1 H1, E false ⟨0, 0⟩ 63 (cSnd (cSnd (cSnd (cSnd b63)))) (fq63 v i [(8, .ptr (X.length + 5) 0)]) (memL v q d' (X ++ [bV v.ps[i]] ++ [bK x]) A') = some (e, F1, H1) →
      (e = .normal → E false ⟨0, 0⟩ 63 lp63_0 (fq63 v i []) (memL v q d X A) = E false ⟨0, 0⟩ 63 (cSnd (cSnd (cSnd lp63_0))) F1 H1) ∧ (e = .ret → E false ⟨0, 0⟩ 63 lp63_0 (fq63 v i []) (memL v q d X A) = some (.ret, F1, H1)) := by
  have hfit : fits 5 [encK x] = true := fitK [x]
  obtain ⟨d', A', h1, h2, h3, _⟩ := hg.app (t := 23) (by_ := 56) (ys := [encK x]) (y := .lit false [encK x]) (memL v q d (X ++ [bV v.ps[i]] ++ [bK x]) A).B (by simp) (by simp) (by simp) (by omega) (by omega) zok25 (by simp [srcD]) (by simp) hfit (by simp; omega)
  have hcd := hg.cell
  have hcd' := h2.cell
  have r16 := reg16_63 v q i d d' x (X ++ [bV v.ps[i]]) A A' hcd hcd' h3 h1
  simp only [List.length_append, List.length_cons, List.length_nil, Nat.zero_add, Nat.add_assoc, Nat.reduceAdd] at r16
  refine ⟨d', A', by simpa using h2, fun e F1 H1 hE => ?_⟩
  rw [E_cut (c := lp63_0) (by rfl), first63_W v q i hi d X A]
  simp only
  rw [E_cut (by rfl), second63_W]
  simp only
  rw [E_cut (by rfl), b63_eq, E_block, E_cut (by rfl), reg12_63 v q i hi d X A]
  simp only
  rw [E_cut (by rfl), reg13_63 v q i _ d X A (some x) hr]
  simp only [Option.isSome_some, Option.getD_some]
  rw [E_cut (by rfl), yes63]
  simp only
  rw [E_cut (by rfl), r16]
  simp only
  rw [hE]
  exact ⟨fun h => by subst h; rfl, fun h => by subst h; rfl⟩

def Q63 (s : Option (List Kd × Kd)) (o : CO) : Prop :=
  match s with
  | none => ∃ X A, o = (.ret, [(2, .ptr 1 0), (3, .p (.bool false))], ⟨bV v :: zB :: X, A⟩)
  | some y => ∃ d X A, o = (.exit 1, [(1, .ptr 0 0), (2, .ptr 1 0), (4, .ptr 2 0), (5, .ptr 3 0), (28, .p (.sl (v.ps.map enc))), (29, .p (.int .i64 v.ps.length)), (30, .p (.int .i64 v.ps.length)), (31, .p (.bool false))], memL v y.2 d X A) ∧ GRow A 25 5 d (y.1.map encK)
def Rq63 (n : Int) : Prop := ∀ (u : Val) (H : Hp), u.nodes < n → u.shaped = true → u.nodes ≤ 200 → W 63 [.p (enc u)] H = some (.ret (joinR (leastG Kd.joinP u)), H)
set_option maxHeartbeats 1000000 in
theorem lq63_ok (hs : v.shaped = true) (hn : v.nodes ≤ 200) (hrec : Rq63 v.nodes) :
    ∃ o, loopO false ⟨0, 0⟩ 63 lp63_0 4 0 (fq63 v 0 []) (memL v kN (.lit true []) [] []) = some o ∧ Q63 v (leastsG Kd.joinP (decide (v.k = 5)) v.ps kN) o := by
  have hlen := nodesL_len v.ps
  have hne := nodes_eq v
  refine for_ex (mu := false) (hd63_0) v.ps.length (fun i F H => ∃ l q d X A, F = fq63 v i [] ∧ H = memL v q d X A ∧ GRow A 25 5 d (l.map encK) ∧ l.length = i ∧ q.shaped = true ∧ (q.nodes : Int) + 2 * nodesL (v.ps.drop i) ≤ 1 + 2 * nodesL v.ps ∧
      leastsG Kd.joinP (decide (v.k = 5)) v.ps kN = (leastsG Kd.joinP (decide (v.k = 5)) (v.ps.drop i) q).map fun y => (l ++ y.1, y.2)) (Q63 v (leastsG Kd.joinP (decide (v.k = 5)) v.ps kN)) ?_ ?_
    (F := fq63 v 0 []) (H := memL v kN (.lit true []) [] []) (F0 := fq63 v 0 []) (H0 := memL v kN (.lit true []) [] []) (by simp [cutD, fq63, frNo, memL, bK, bV, oB, zB, blkNo])
      ⟨[], kN, .lit true [], [], [], rfl, rfl, .inl ⟨rfl, rfl⟩, rfl, rfl, by simp [Kd.nodes, nodesKs], by simp⟩
  · rintro F H ⟨l, q, d, X, A, rfl, rfl, h1, h3, hq, hb, h5⟩
    rw [List.drop_length, leastsG] at h5
    refine ⟨(.exit 1, [(1, .ptr 0 0), (2, .ptr 1 0), (4, .ptr 2 0), (5, .ptr 3 0), (28, .p (.sl (v.ps.map enc))), (29, .p (.int .i64 v.ps.length)), (30, .p (.int .i64 v.ps.length)), (31, .p (.bool false))], memL v q d X A), ?_, by simp, ?_⟩
    · simp [lp63_0, code63, Tryz.f63, fq63, memL, bV]
    · rw [h5]
      exact ⟨d, X, A, rfl, by simpa using h1⟩
  · rintro i F H hi ⟨l, q, d, X, A, rfl, rfl, h1, h3, hq, hb, h5⟩
    have hx := List.getElem_mem hi
    have hxn := ps_nodesv hx
    have hxs := parts_okv hs _ hx
    have hr := fun H => hrec v.ps[i] H hxn hxs (by omega)
    rw [List.drop_eq_getElem_cons hi] at h5 hb
    simp only [leastsG] at h5
    simp only [nodesL] at hb
    have hpos := nodesL_pos (v.ps.drop (i + 1))
    obtain ⟨_, hok⟩ := leastP_ok hxs (by omega)
    cases hc : leastG Kd.joinP v.ps[i] with
    | none =>
      left
      rw [hc] at hr h5
      refine ⟨_, round63_no v q i hi d X A hr, by simp, ?_⟩
      rw [h5]
      exact ⟨_, A, rfl⟩
    | some x =>
      rw [hc] at hr h5
      obtain ⟨x1, x2⟩ := hok x hc
      obtain ⟨d', A', g1, g2⟩ := round63_mid v q i hi (by omega) d X A l h1 (by omega) x hr
      have go : ∀ q' F1, q'.shaped = true → (q'.nodes : Int) ≤ q.nodes + 2 * v.ps[i].nodes →
          leastsG Kd.joinP (decide (v.k = 5)) v.ps kN = (leastsG Kd.joinP (decide (v.k = 5)) (v.ps.drop (i + 1)) q').map (fun y => (l ++ [x] ++ y.1, y.2)) →
          E false ⟨0, 0⟩ 63 (cSnd (cSnd (cSnd (cSnd b63)))) (fq63 v i [(8, .ptr (X.length + 5) 0)]) (memL v q d' (X ++ [bV v.ps[i]] ++ [bK x]) A') = some (.normal, F1, memL v q' d' (X ++ [bV v.ps[i]] ++ [bK x]) A') →
          E false ⟨0, 0⟩ 63 (cSnd (cSnd (cSnd lp63_0))) F1 (memL v q' d' (X ++ [bV v.ps[i]] ++ [bK x]) A') = some (.normal, fq63 v (i + 1) [], memL v q' d' (X ++ [bV v.ps[i]] ++ [bK x]) A') →
          ∃ F1 H1, E false ⟨0, 0⟩ 63 lp63_0 (fq63 v i []) (memL v q d X A) = some (.normal, F1, H1) ∧ ∃ F2 H2, cutD ⟨0, 0⟩ [1, 2, 4, 5, 28, 29, 30] 4 0 F1 H1 = some (F2, H2) ∧ (∃ l q d X A, F2 = fq63 v (i + 1) [] ∧ H2 = memL v q d X A ∧ GRow A 25 5 d (l.map encK) ∧ l.length = i + 1 ∧ q.shaped = true ∧ (q.nodes : Int) + 2 * nodesL (v.ps.drop (i + 1)) ≤ 1 + 2 * nodesL v.ps ∧
            leastsG Kd.joinP (decide (v.k = 5)) v.ps kN = (leastsG Kd.joinP (decide (v.k = 5)) (v.ps.drop (i + 1)) q).map fun y => (l ++ y.1, y.2)) := by
        intro q' F1 hq' hn' h6 hE hL
        refine ⟨_, _, ((g2 _ _ _ hE).1 rfl).trans hL, ?_⟩
        obtain ⟨H', c1, c2⟩ := cutD_or ⟨0, 0⟩ [1, 2, 4, 5, 28, 29, 30] 4 0 (fq63 v (i + 1) []) (memL v q' d' (X ++ [bV v.ps[i]] ++ [bK x]) A')
        have hnorm : norm [1, 2, 4, 5, 28, 29, 30] (fq63 v (i + 1) []) = fq63 v (i + 1) [] := rfl
        rw [hnorm] at c1 c2
        refine ⟨_, H', c1, l ++ [x], q', d', ?_⟩
        rcases c2 with rfl | ⟨rfl, k1, k2⟩
        · exact ⟨X ++ [bV v.ps[i]] ++ [bK x], A', rfl, rfl, g1, by simp [h3], hq', by omega, h6⟩
        · have hnr : D.noRef 4 0 d' = true := by
            rw [List.all_eq_true] at k2
            have := k2 (oB 5 0 0 0 d') (by simp [memL])
            simpa [oB, blkNo] using this
          exact ⟨[], A'.take 0, rfl, by simp [memL], g1.cut hnr, by simp [h3], hq', by omega, h6⟩
      have e5 : (X ++ [bV v.ps[i]]).length + 4 = X.length + 5 := by simp
      by_cases h8 : v.k = 5
      · simp only [decide_eq_true h8, if_true] at h5
        have hj := fun H => join70_W q x H (by omega)
        cases hqx : q.joinP x with
        | none =>
          left
          rw [hqx] at hj
          simp only [hqx] at h5
          have hrest := rest63_set0 v q i d' x (X ++ [bV v.ps[i]]) A' h8 hj
          rw [e5] at hrest
          refine ⟨_, (g2 _ _ _ hrest).2 rfl, by simp, ?_⟩
          simp only [decide_eq_true h8]
          rw [h5]
          exact ⟨_, A', rfl⟩
        | some q' =>
          right
          rw [hqx] at hj
          simp only [hqx] at h5
          have hrest := rest63_set v q i d' x q' (X ++ [bV v.ps[i]]) A' h8 hj
          rw [e5] at hrest
          have hn' := joinP_nodes q x q' hqx
          refine go q' _ (joinP_shaped hq x1 hqx) (by omega) ?_ hrest (last63b v q' i (by omega) _ d' _ A')
          simp only [decide_eq_true h8]
          rw [h5]
          cases leastsG Kd.joinP true (v.ps.drop (i + 1)) q' <;> simp
      · right
        have hrest := rest63_no v q i d' x (X ++ [bV v.ps[i]]) A' h8
        rw [e5] at hrest
        simp only [decide_eq_false h8, Bool.false_eq_true, if_false] at h5
        refine go q _ hq (by have := nodes_posv v.ps[i]; omega) ?_ hrest (last63a v q i (by omega) _ _ d' _ A')
        simp only [decide_eq_false h8]
        rw [h5]
        cases leastsG Kd.joinP false (v.ps.drop (i + 1)) q <;> simp
theorem one63_W : E false ⟨0, 0⟩ 63 (cFst code63) (mkF 0 [.p (enc v)]) H00 = some (.normal, [(1, .ptr 0 0), (2, .ptr 1 0)], ⟨[bV v, zB], []⟩) := by
  simp [cFst, code63, Tryz.f63, bV, zB]
theorem two63_1 (h : v.k = 1) : E false ⟨0, 0⟩ 63 (cFst (cSnd code63)) [(1, .ptr 0 0), (2, .ptr 1 0)] ⟨[bV v, zB], []⟩ = some (.ret, [(2, .ptr 1 0), (3, .p (.bool true))], ⟨[bV v, bK (.mk 2 v.n v.n 0 [])], []⟩) := by
  have e := eq_true h
  simp [cFst, cSnd, code63, Tryz.f63, bV, zB, bK, e, whole98_W, splice]
theorem two63_2 (h : v.k = 2) : E false ⟨0, 0⟩ 63 (cFst (cSnd code63)) [(1, .ptr 0 0), (2, .ptr 1 0)] ⟨[bV v, zB], []⟩ = some (.ret, [(2, .ptr 1 0), (3, .p (.bool true))], ⟨[bV v, bK (.mk 3 0 0 0 [])], []⟩) := by
  have e := eq_true h
  have e1 : (v.k = 1) = False := eq_false (by omega)
  simp [cFst, cSnd, code63, Tryz.f63, bV, zB, bK, e, e1, truth99_W, splice]
theorem two63_3 (h : v.k = 3) : E false ⟨0, 0⟩ 63 (cFst (cSnd code63)) [(1, .ptr 0 0), (2, .ptr 1 0)] ⟨[bV v, zB], []⟩ = some (.ret, [(2, .ptr 1 0), (3, .p (.bool true))], ⟨[bV v, oB 4 0 0 0 (.lit true [])], []⟩) := by
  have e := eq_true h
  have e1 : (v.k = 1) = False := eq_false (by omega)
  have e2 : (v.k = 2) = False := eq_false (by omega)
  simp [cFst, cSnd, code63, Tryz.f63, bV, zB, oB, e, e1, e2, buildD, buildD.go, splice]
theorem two63_n (h1 : v.k ≠ 1) (h2 : v.k ≠ 2) (h3 : v.k ≠ 3) : E false ⟨0, 0⟩ 63 (cFst (cSnd code63)) [(1, .ptr 0 0), (2, .ptr 1 0)] ⟨[bV v, zB], []⟩ = some (.normal, [(1, .ptr 0 0), (2, .ptr 1 0), (22, .p (.bool false))], ⟨[bV v, zB], []⟩) := by
  have n1 := eq_false h1
  have n2 := eq_false h2
  have n3 := eq_false h3
  simp [cFst, cSnd, code63, Tryz.f63, bV, n1, n2, n3]
theorem three63_W (x : D) : E false ⟨0, 0⟩ 63 (cFst (cSnd (cSnd code63))) [(1, .ptr 0 0), (2, .ptr 1 0), (22, x)] ⟨[bV v, zB], []⟩ = some (.normal, [(1, .ptr 0 0), (2, .ptr 1 0), (4, .ptr 2 0)], ⟨[bV v, zB, oB 5 0 0 0 (.lit true [])], []⟩) := by
  simp [cFst, cSnd, code63, Tryz.f63, oB, buildD, buildD.go, splice]
theorem four63_W : E false ⟨0, 0⟩ 63 (cFst (cSnd (cSnd (cSnd code63)))) [(1, .ptr 0 0), (2, .ptr 1 0), (4, .ptr 2 0)] ⟨[bV v, zB, oB 5 0 0 0 (.lit true [])], []⟩ = some (.normal, [(1, .ptr 0 0), (2, .ptr 1 0), (4, .ptr 2 0), (5, .ptr 3 0)], memL v kN (.lit true []) [] []) := by
  simp [cFst, cSnd, code63, Tryz.f63, memL, bK, none100_W, splice]
theorem five63_W (hs : v.shaped = true) (hn : v.nodes ≤ 200) (hrec : Rq63 v.nodes) :
    (leastsG Kd.joinP (decide (v.k = 5)) v.ps kN = none → ∃ X A, E false ⟨0, 0⟩ 63 (cFst (cSnd (cSnd (cSnd (cSnd code63))))) [(1, .ptr 0 0), (2, .ptr 1 0), (4, .ptr 2 0), (5, .ptr 3 0)] (memL v kN (.lit true []) [] []) = some (.ret, [(2, .ptr 1 0), (3, .p (.bool false))], ⟨bV v :: zB :: X, A⟩)) ∧
    ∀ y, leastsG Kd.joinP (decide (v.k = 5)) v.ps kN = some y → ∃ d X A F, E false ⟨0, 0⟩ 63 (cFst (cSnd (cSnd (cSnd (cSnd code63))))) [(1, .ptr 0 0), (2, .ptr 1 0), (4, .ptr 2 0), (5, .ptr 3 0)] (memL v kN (.lit true []) [] []) = some (.normal, [(1, .ptr 0 0), (2, .ptr 1 0), (4, .ptr 2 0), (5, .ptr 3 0)] ++ F, memL v y.2 d X A) ∧ GRow A 25 5 d (y.1.map encK) ∧ ∃ a b c e', F = [(28, a), (29, b), (30, c), (31, e')] := by
  obtain ⟨o, hloop, hq⟩ := lq63_ok v hs hn hrec
  have h00 : ((0 : Nat) : Int) = 0 := rfl
  simp only [lp63_0, code63, Tryz.f63, fq63, memL, h00] at hloop
  refine ⟨fun e => ?_, fun y e => ?_⟩
  · rw [e] at hq
    obtain ⟨X, A, rfl⟩ := hq
    refine ⟨X, A, ?_⟩
    simp [cFst, cSnd, code63, Tryz.f63, memL, bV] at hloop ⊢
    simp [hloop]
  · rw [e] at hq
    obtain ⟨d, X, A, rfl, hg⟩ := hq
    refine ⟨d, X, A, [(28, .p (.sl (v.ps.map enc))), (29, .p (.int .i64 v.ps.length)), (30, .p (.int .i64 v.ps.length)), (31, .p (.bool false))], ?_, hg, _, _, _, _, rfl⟩
    simp [cFst, cSnd, code63, Tryz.f63, memL, bV] at hloop ⊢
    simp [hloop]
theorem six63_5 (q : Kd) (d : D) (X : List Blk) (A : List Arr) (a b c e' : D) (h : v.k = 5) : E false ⟨0, 0⟩ 63 (cFst (cSnd (cSnd (cSnd (cSnd (cSnd code63)))))) [(1, .ptr 0 0), (2, .ptr 1 0), (4, .ptr 2 0), (5, .ptr 3 0), (28, a), (29, b), (30, c), (31, e')] (memL v q d X A) =
    some (.ret, [(2, .ptr 1 0), (3, .p (.bool true))], ⟨bV v :: bK (.mk 6 0 0 v.ps.length [q]) :: oB 5 0 0 0 d :: bK q :: X, A⟩) := by
  have e := eq_true h
  simp [cFst, cSnd, code63, Tryz.f63, memL, bV, bK, zB, e, setOf101_W, splice]
theorem six63_n (q : Kd) (d : D) (X : List Blk) (A : List Arr) (a b c e' : D) (h : v.k ≠ 5) : E false ⟨0, 0⟩ 63 (cFst (cSnd (cSnd (cSnd (cSnd (cSnd code63)))))) [(1, .ptr 0 0), (2, .ptr 1 0), (4, .ptr 2 0), (5, .ptr 3 0), (28, a), (29, b), (30, c), (31, e')] (memL v q d X A) =
    some (.normal, [(1, .ptr 0 0), (2, .ptr 1 0), (4, .ptr 2 0), (5, .ptr 3 0), (63, .p (.bool false))], memL v q d X A) := by
  have e := eq_false h
  simp [cFst, cSnd, code63, Tryz.f63, memL, bV, e]
theorem seven63_W (q : Kd) (d : D) (X : List Blk) (A : List Arr) (x : D) (hc : cellD d = true) : E false ⟨0, 0⟩ 63 (cSnd (cSnd (cSnd (cSnd (cSnd (cSnd code63)))))) [(1, .ptr 0 0), (2, .ptr 1 0), (4, .ptr 2 0), (5, .ptr 3 0), (63, x)] (memL v q d X A) =
    some (.ret, [(2, .ptr 1 0), (3, .p (.bool true))], ⟨bV v :: oB 5 0 0 0 d :: oB 5 0 0 0 d :: bK q :: X, A⟩) := by
  simp only [cellD] at hc
  simp [cSnd, code63, Tryz.f63, memL, oB, zB, splice, hc]
end
theorem least63_W (v : Val) (H : Hp) (hs : v.shaped = true) (hn : v.nodes ≤ 200) : W 63 [.p (enc v)] H = some (.ret (joinR (leastG Kd.joinP v)), H) := by
  have key : ∀ (n : Nat) (v : Val) (H : Hp), v.nodes ≤ n → v.shaped = true → v.nodes ≤ 200 → W 63 [.p (enc v)] H = some (.ret (joinR (leastG Kd.joinP v)), H) := by
    intro n
    induction n with
    | zero => intro v H h _ _; have := nodes_posv v; omega
    | succ n ih =>
      intro v H hn hs hb
      refine W63_of rfl (by simp) ?_
      rw [leastG_eq, E_cut (by rfl), one63_W]
      simp only
      rw [E_cut (by rfl)]
      by_cases c1 : v.k = 1
      · rw [if_pos c1, two63_1 v c1]; exact retL_k _ _ _ _ H
      rw [if_neg c1]
      by_cases c2 : v.k = 2
      · rw [if_pos c2, two63_2 v c2]; exact retL_k _ _ _ _ H
      rw [if_neg c2]
      by_cases c3 : v.k = 3
      · rw [if_pos c3, two63_3 v c3]
        have he : encK (.mk 4 0 0 0 []) = .agg [.int .i64 4, .int .i64 0, .int .i64 0, .int .i64 0, .sl []] := rfl
        simp [oB, joinR, he]
      rw [if_neg c3, two63_n v c1 c2 c3]
      simp only
      rw [E_cut (by rfl), three63_W]
      simp only
      rw [E_cut (by rfl), four63_W]
      simp only
      rw [E_cut (by rfl)]
      obtain ⟨h1, h2⟩ := five63_W v hs hb fun u H hu hs hn => ih u H (by omega) hs hn
      cases hl : leastsG Kd.joinP (decide (v.k = 5)) v.ps kN with
      | none =>
        obtain ⟨X, A, h5⟩ := h1 hl
        rw [h5]
        exact retL_z _ X A H
      | some y =>
        obtain ⟨d, X, A, F, h5, hg, a, b, c, e', rfl⟩ := h2 y hl
        rw [h5]
        simp only [List.cons_append, List.nil_append]
        rw [E_cut (by rfl)]
        simp only [Option.map_some]
        by_cases c5 : v.k = 5
        · rw [six63_5 v _ _ _ _ _ _ _ _ c5, if_pos c5]
          exact retL_k _ _ _ _ H
        · rw [six63_n v _ _ _ _ _ _ _ _ c5, if_neg c5]
          simp only
          rw [seven63_W v _ _ _ _ _ hg.cell]
          exact retL_row y.1 d _ A hg _ H
  exact key v.nodes.toNat v H (by have := nodes_posv v; omega) hs hn
end Go.Vi
end

section
/- layer 5: kind.Least, swardref05.Least. No conditions but those that stand with each. -/
namespace Go.Vi
open Go Go.Lib Go.Proofs
set_option maxRecDepth 100000
attribute [local simp] E_skip E_ret E_exit E_text E_draw E_seq E_cond E_block E_scope E_loop runOps runOp drawR slotsOf Hp.kept_zero runDraw runVF runX runV finV gate FlOK FlOK0 wantD exec fin opd look putF norm constD constC fieldAddrD loadD storeD opCall lenD binD isShift intP strP numD indexAddrD indexD D.pd? D.pds? sub capsOf callD argsD argD D.nf unP cellD mkF H00 cD_agg cD_pagg cD_int cD_bool cD_str cD_sl cD_lit cells_int
attribute [local simp] fnOut retOut resD retsD retD oneD D.noRefs D.noRef alone Hp.cut
attribute [local simp] cells_encK encK_agg box_encK cells_enc enc_agg box_enc one_int one_str one_sl one_agg cD_own cD_ptr
attribute [local simp] newRow Hp.live one_encK one_enc

def leastK (v : Val) : Option Kd := leastG Kd.join v
/-- What kind.Least says. -/
def leastE (v : Val) : D := if v.valid = true then (match leastK v with | some k => if k.valid = true then .tup [.p (encK k), .p (.int .i64 0)] else .tup [.p (encK kz), .p (.int .i64 5)] | none => .tup [.p (encK kz), .p (.int .i64 5)]) else .tup [.p (encK kz), .p (.int .i64 2)]
theorem valid_okv {v : Val} (h : v.valid = true) : v.shaped = true ∧ v.nodes ≤ 200 := by
  rw [valid_iff] at h
  exact ⟨h.2, h.1.1⟩
section
variable (v : Val)
theorem least16_1 (h : v.valid = false) (H : Hp) : W 16 [.p (enc v)] H = some (.ret (.tup [.p (encK kz), .p (.int .i64 2)]), H) := by
  refine W16_of rfl (by simp) ?_
  have h61 := fun H => check29_W v H
  rw [h] at h61
  simp [code16, Tryz.f16, h61, buildD, buildD.go, splice, encK, encKs]
theorem least16_2 (h : v.valid = true) (hl : leastK v = none) (H : Hp) : W 16 [.p (enc v)] H = some (.ret (.tup [.p (encK kz), .p (.int .i64 5)]), H) := by
  refine W16_of rfl (by simp) ?_
  have h61 := fun H => check29_W v H
  obtain ⟨hs, hn⟩ := valid_okv h
  have h63 := fun H => least63_W v H hs hn
  rw [(least_ok v hs hn).1, show leastG Kd.join v = none from hl] at h63
  simp only [joinR] at h63
  simp [code16, Tryz.f16, h, h61, h63, buildD, buildD.go, splice, encK, encKs]
theorem least16_3 (h : v.valid = true) (k : Kd) (hl : leastK v = some k) (hk : k.valid = false) (H : Hp) : W 16 [.p (enc v)] H = some (.ret (.tup [.p (encK kz), .p (.int .i64 5)]), H) := by
  refine W16_of rfl (by simp) ?_
  have h61 := fun H => check29_W v H
  obtain ⟨hs, hn⟩ := valid_okv h
  have h63 := fun H => least63_W v H hs hn
  obtain ⟨h1, h2⟩ := least_ok v hs hn
  obtain ⟨k1, k2⟩ := h2 k hl
  rw [h1, show leastG Kd.join v = some k from hl] at h63
  simp only [joinR] at h63
  have h60 := fun H => valid60_W k H (by omega)
  simp [code16, Tryz.f16, h, h61, h63, h60, hk, buildD, buildD.go, splice, encK, encKs]
theorem least16_4 (h : v.valid = true) (k : Kd) (hl : leastK v = some k) (hk : k.valid = true) (H : Hp) : W 16 [.p (enc v)] H = some (.ret (.tup [.p (encK k), .p (.int .i64 0)]), H) := by
  refine W16_of rfl (by simp) ?_
  have h61 := fun H => check29_W v H
  obtain ⟨hs, hn⟩ := valid_okv h
  have h63 := fun H => least63_W v H hs hn
  obtain ⟨h1, h2⟩ := least_ok v hs hn
  obtain ⟨k1, k2⟩ := h2 k hl
  rw [h1, show leastG Kd.join v = some k from hl] at h63
  simp only [joinR] at h63
  have h60 := fun H => valid60_W k H (by omega)
  have h64 := fun H => copied64_W k H (by omega)
  simp [code16, Tryz.f16, h, h61, h63, h60, h64, hk, buildD, buildD.go, splice]
theorem least16_W (H : Hp) : W 16 [.p (enc v)] H = some (.ret (leastE v), H) := by
  unfold leastE
  cases h : v.valid with
  | false => exact least16_1 v h H
  | true =>
    simp only [if_true]
    cases hl : leastK v with
    | none => exact least16_2 v h hl H
    | some k =>
      cases hk : k.valid with
      | false => simpa [hk] using least16_3 v h k hl hk H
      | true => simpa [hk] using least16_4 v h k hl hk H
/-- What the reference says. -/
def leastV (v : Val) : Option Kd := (leastK v).bind fun k => if k.valid = true then some k else none
theorem least19_W (h : v.valid = true) (H : Hp) : W 19 [.p (enc v)] H = some (.ret (joinR (leastV v)), H) := by
  refine W19_of rfl (by simp) ?_
  obtain ⟨hs, hn⟩ := valid_okv h
  have h66 := fun H => least66_W v H hs hn
  obtain ⟨h1, h2⟩ := least_ok v hs hn
  unfold leastV
  cases hl : leastK v with
  | none =>
    rw [show leastG Kd.join v = none from hl] at h66
    simp only [joinR] at h66
    simp [code19, Tryz.f19, h66, joinR, buildD, buildD.go, splice, encK, encKs]
  | some k =>
    obtain ⟨k1, k2⟩ := h2 k hl
    rw [show leastG Kd.join v = some k from hl] at h66
    simp only [joinR] at h66
    have h21 := fun H => valid21_W k H
    cases hk : k.valid with
    | false => simp [code19, Tryz.f19, h66, h21, hk, joinR, buildD, buildD.go, splice, encK, encKs]
    | true => simp [code19, Tryz.f19, h66, h21, hk, joinR, buildD, buildD.go, splice]
end
end Go.Vi
end
