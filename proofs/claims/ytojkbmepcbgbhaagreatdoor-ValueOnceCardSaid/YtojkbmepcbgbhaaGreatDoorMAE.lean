/- It is proved here what the program's functions on maps compute; conditions stand with each. -/
import Derived.Test.YtojkbmepcbgbhaaGreatDoorMX
import Derived.Test.YtojkbmepcbgbhaaGreatDoorML8
set_option linter.unusedVariables false
set_option linter.unusedSimpArgs false

section
/- Vi: maps: value.find (f99), value.find$1 (f134), value.Lay$1 (f102), value.isMap (f98). No conditions. -/
namespace Go.Vi
open Go Go.Lib Go.Proofs
set_option maxRecDepth 100000
attribute [local simp] E_skip E_ret E_exit E_text E_draw E_seq E_cond E_block E_scope E_loop runOps runOp runDraw runVF runV finV gate FlOK wantD exec fin opd look putF norm constD constC fieldAddrD loadD storeD opCall lenD binD isShift intP strP numD indexAddrD indexD D.pd? D.pds? cells_enc sub capsOf callD argsD argD D.nf enc_agg unP box_enc cellD mkF H00 st1 cD_agg cD_pagg cD_int cD_bool cD_str cD_sl cD_lit

def Val.k0 (v : Val) : Val := v.ps.headD Val.zero
def Val.k1 (v : Val) : Val := v.ps.getD 1 Val.zero
def Val.pair (v : Val) : Bool := decide (v.k = 4) && decide (v.ps.length = 2)
theorem k0_at {v : Val} (h : 0 < v.ps.length) : v.k0 = v.ps[0] := by
  obtain ⟨k, n, t, ps⟩ := v
  cases ps with
  | nil => simp [Val.ps] at h
  | cons a r => rfl
theorem k1_at {v : Val} (h : 1 < v.ps.length) : v.k1 = v.ps[1] := by
  unfold Val.k1
  rw [List.getD_eq_getElem?_getD, List.getElem?_eq_getElem h]; rfl
theorem pair_two {v : Val} (h : v.pair = true) : v.k = 4 ∧ v.ps.length = 2 := by simpa [Val.pair] using h
theorem k0_mem {v : Val} (h : v.pair = true) : v.k0 ∈ v.ps := by
  have := (pair_two h).2
  rw [k0_at (by omega)]; exact List.getElem_mem _
theorem k1_mem {v : Val} (h : v.pair = true) : v.k1 ∈ v.ps := by
  have := (pair_two h).2
  rw [k1_at (by omega)]; exact List.getElem_mem _

theorem clo102_W (u key : Val) (h0 : 0 < u.ps.length) (hx : u.k0.fine) (k : Nat) (B : List Blk) (A : List Arr) (hk : B[k]? = some (box25 key)) (hB : B.all (blkNo B.length A.length) = true) :
    W 103 [.p (enc u), .ptr k 0] ⟨B, A⟩ = some (.ret (.p (.bool (decide (u.k0.pc key = 0)))), ⟨B, A⟩) := by
  refine W103_ofH (by rintro ⟨_, h⟩; simp [D.noRef] at h) (by simp) ?_
  have hr := fun H => compare_W u.k0 hx key H
  rw [k0_at h0] at hr ⊢
  have hkl : k < B.length := (List.getElem?_eq_some_iff.1 hk).1
  have key : E false ⟨0, 0⟩ 103 code103 (mkF 0 [.p (enc u), .ptr k 0]) ⟨B, A⟩ = some (.ret, [(3, .p (.bool (decide (u.ps[0].pc key = 0))))], ⟨B ++ [box25 u], A⟩) := by
    have h2 : (B ++ [box25 u])[k]? = some (box25 key) := by rw [List.getElem?_append_left hkl]; exact hk
    simp only [box25] at h2 ⊢
    simp [code103, Tryz.f103, h0, hr, h2]
  rw [key]
  simp [fnOut, retOut, resD, retsD, retD, oneD, D.noRefs, D.noRef, Hp.cut]
  simpa using hB

theorem clo134_W (u key : Val) (h0 : 0 < u.ps.length) (hx : u.k0.fine) (k : Nat) (B : List Blk) (A : List Arr) (hk : B[k]? = some (box25 key)) (hB : B.all (blkNo B.length A.length) = true) :
    W 135 [.p (enc u), .ptr k 0] ⟨B, A⟩ = some (.ret (.p (.bool (decide (u.k0.pc key = 0)))), ⟨B, A⟩) := by
  refine W_ofH Tryz.func135 rfl (by kernel_rfl) rfl (by rintro ⟨_, h⟩; simp [D.noRef] at h) (by rw [Tryz.ntmps135]; simp) ?_
  rw [show Tryz.f135.results.toList = [.tmp 3] from rs135]
  have hr := fun H => compare_W u.k0 hx key H
  rw [k0_at h0] at hr ⊢
  have hkl : k < B.length := (List.getElem?_eq_some_iff.1 hk).1
  have key : E false ⟨0, 0⟩ 135 code135 (mkF 0 [.p (enc u), .ptr k 0]) ⟨B, A⟩ = some (.ret, [(3, .p (.bool (decide (u.ps[0].pc key = 0))))], ⟨B ++ [box25 u], A⟩) := by
    have h2 : (B ++ [box25 u])[k]? = some (box25 key) := by rw [List.getElem?_append_left hkl]; exact hk
    simp only [box25] at h2 ⊢
    simp [code135, Tryz.f135, h0, hr, h2]
  refine (congrArg (fnOut Tryz.prog [.tmp 3] B.length A.length) key).trans ?_
  simp [fnOut, retOut, resD, retsD, retD, oneD, D.noRefs, D.noRef, Hp.cut]
  simpa using hB

/-- The place of a key. -/
def findP (key : Val) (l : List Val) : Int := idxP (fun u => decide (u.k0.pc key = 0)) l 0
def keyIn (key : Val) (l : List Val) : Bool := l.any fun u => decide (u.k0.pc key = 0)
theorem findP_in (key : Val) (l : List Val) : decide (0 ≤ findP key l) = keyIn key l := by
  have : ∀ (l : List Val) (i : Nat), decide (0 ≤ idxP (fun u => decide (u.k0.pc key = 0)) l i) = keyIn key l := by
    intro l
    induction l with
    | nil => intro i; simp [idxP, keyIn]
    | cons v r ih =>
      intro i
      simp only [idxP, keyIn, List.any_cons]
      by_cases hb : v.k0.pc key = 0
      · simp [hb]
      · simp only [hb, decide_false, Bool.false_eq_true, if_false, Bool.false_or]; exact ih (i + 1)
  exact this l 0

theorem find99_W (l : List Val) (key : Val) (hlen : l.length < 9223372036854775807) (hp : ∀ u ∈ l, 0 < u.ps.length ∧ u.k0.fine) (H : Hp) :
    W 100 [.p (.sl (l.map enc)), .p (enc key)] H = some (.ret (.p (.int .i64 (findP key l))), H) := by
  refine W100_of rfl (by simp) ?_
  have h1 := idx133_WH l 135 (by decide) (by decide) 0 hlen (fun u => decide (u.k0.pc key = 0)) [box25 key] []
    (fun u hu => clo134_W u key (hp u hu).1 (hp u hu).2 0 [box25 key] [] rfl (by simp [box25, blkNo, D.noRefs, D.noRef]))
  simp only [box25] at h1
  have key' : E false ⟨0, 0⟩ 100 code100 (mkF 0 [.p (.sl (l.map enc)), .p (enc key)]) H00 = some (.ret, [(4, .p (.int .i64 (findP key l)))], ⟨[box25 key], []⟩) := by
    simp only [box25]
    simp [code100, Tryz.f100, mkFn, h1, findP]
  rw [key']
  simp [fnOut, retOut, resD, retsD, retD, oneD, D.noRefs, D.noRef, alone, Hp.cut]

/-! ### Is it a map? -/
def mapL (pre : List Val) : List Val → Bool
  | [] => true
  | p :: r => p.pair && !keyIn p.k0 pre && mapL (pre ++ [p]) r
def Val.isMap (v : Val) : Bool := v.isSet && mapL [] v.ps

def fr98 (v : Val) (i : Nat) : Fr := [(1, .ptr 0 0), (9, .p (.sl (v.ps.map enc))), (10, .p (.int .i64 v.ps.length)), (11, .p (.int .i64 i))]
theorem body98_end (v : Val) (B : List Blk) : E false ⟨0, 0⟩ 99 lp99_0 (fr98 v v.ps.length) ⟨box25 v :: B, []⟩ = some (.exit 0, fr98 v v.ps.length ++ [(12, .p (.bool false))], ⟨box25 v :: B, []⟩) := by
  simp [fr98, lp99_0, code99, Tryz.f99]

theorem body98_step (v : Val) (i : Nat) (hlt : i < v.ps.length) (hlen : v.ps.length < 9223372036854775807) (hd : v.ps[i].ps.length < 9223372036854775807)
    (hr : v.ps[i].pair = true → ∀ H, W 100 [.p (.sl ((v.ps.map enc).take i)), .p (enc v.ps[i].k0)] H = some (.ret (.p (.int .i64 (findP v.ps[i].k0 (v.ps.take i)))), H)) :
    E false ⟨0, 0⟩ 99 lp99_0 (fr98 v i) ⟨[box25 v], []⟩ = if (v.ps[i].pair && !keyIn v.ps[i].k0 (v.ps.take i)) = true then some (.normal, fr98 v (i + 1), ⟨[box25 v, box25 v.ps[i]], []⟩)
      else some (.ret, [(2, .p (.bool false))], ⟨[box25 v, box25 v.ps[i]], []⟩) := by
  have hw : IntKind.i64.wrap ((i : Int) + 1) = (i : Int) + 1 := wrap64 (by omega) (by omega)
  have flt : fits 4 ((v.ps.map enc).take i) = true := by rw [← List.map_take]; exact fit_l _
  have fll : fits 4 (v.ps.map enc) = true := fit_l _
  have hil : i ≤ v.ps.length := by omega
  by_cases h4 : v.ps[i].k = 4
  · by_cases h2 : v.ps[i].ps.length = 2
    · have hp : v.ps[i].pair = true := by simp [Val.pair, h4, h2]
      have h0 : 0 < v.ps[i].ps.length := by omega
      have hr := hr hp
      rw [← findP_in]
      rw [k0_at h0] at hr ⊢
      generalize findP v.ps[i].ps[0] (v.ps.take i) = fp at hr ⊢
      by_cases hf : 0 ≤ fp
      · simp [fr98, lp99_0, code99, Tryz.f99, box25, hlt, hw, h4, h2, hr, hf, hp, h0, z25', splice, sliceD, boundD, flt, fll, hil]
      · simp [fr98, lp99_0, code99, Tryz.f99, box25, hlt, hw, h4, h2, hr, hf, hp, h0, z25', splice, sliceD, boundD, flt, fll, hil]
    · have hp : v.ps[i].pair = false := by simp [Val.pair, h2]
      have h2' : ¬ (v.ps[i].ps.length : Int) = 2 := by omega
      simp [fr98, lp99_0, code99, Tryz.f99, box25, hlt, hw, h4, h2, h2', hp, z25', splice]
  · have hp : v.ps[i].pair = false := by simp [Val.pair, h4]
    simp [fr98, lp99_0, code99, Tryz.f99, box25, hlt, hw, h4, hp, z25', splice]
end Go.Vi
end

section
/- Vi: maps: value.isMap (f98), ref.IsMap (f54). No conditions. -/
namespace Go.Vi
open Go Go.Lib Go.Proofs
set_option maxRecDepth 100000
attribute [local simp] E_skip E_ret E_exit E_text E_draw E_seq E_cond E_block E_scope E_loop runOps runOp runDraw runVF runV finV gate FlOK wantD exec fin opd look putF norm constD constC fieldAddrD loadD storeD opCall lenD binD isShift intP strP numD indexAddrD indexD D.pd? D.pds? cells_enc sub capsOf callD argsD argD D.nf enc_agg unP box_enc cellD mkF H00 st1 cD_agg cD_pagg cD_int cD_bool cD_str cD_sl cD_lit

theorem mapL_eq (l : List Val) (i : Nat) (hi : i < l.length) : mapL (l.take i) (l.drop i) = (l[i].pair && !keyIn l[i].k0 (l.take i) && mapL (l.take (i + 1)) (l.drop (i + 1))) := by
  rw [List.drop_eq_getElem_cons hi, mapL, List.take_succ_eq_append_getElem hi]

theorem cut98 (v : Val) (i : Nat) (F : Fr) (B : List Blk) (hF : norm [1, 9, 10, 11] F = fr98 v i) : cutD ⟨0, 0⟩ [1, 9, 10, 11] 1 0 F ⟨box25 v :: B, []⟩ = some (fr98 v i, ⟨[box25 v], []⟩) := by
  simp only [cutD, hF]
  simp [fr98, box25, frNo, blkNo, D.noRef, D.noRefs, Hp.cut]

theorem loop98_ok (v : Val) (hlen : v.ps.length < 9223372036854775807) (hf : v.fine) : ∀ (m i : Nat) (F : Fr) (B : List Blk), m = v.ps.length - i → i ≤ v.ps.length → (∀ u ∈ v.ps.take i, u.pair = true) → norm [1, 9, 10, 11] F = fr98 v i →
    (mapL (v.ps.take i) (v.ps.drop i) = true ∧ loopO false ⟨0, 0⟩ 99 lp99_0 1 0 F ⟨box25 v :: B, []⟩ = some (.exit 0, fr98 v v.ps.length ++ [(12, .p (.bool false))], ⟨[box25 v], []⟩)) ∨
    (mapL (v.ps.take i) (v.ps.drop i) = false ∧ ∃ u, loopO false ⟨0, 0⟩ 99 lp99_0 1 0 F ⟨box25 v :: B, []⟩ = some (.ret, [(2, .p (.bool false))], ⟨[box25 v, box25 u], []⟩)) := by
  intro m
  induction m with
  | zero =>
    intro i F B hm hi hp hF
    have hie : i = v.ps.length := by omega
    subst hie
    left
    rw [loopO_eq, hd99_0, cut98 v _ F B hF]
    simp only [body98_end, List.drop_length, mapL, and_self]
  | succ m ih =>
    intro i F B hm hi hp hF
    have hlt : i < v.ps.length := by omega
    have hmem : v.ps[i] ∈ v.ps := List.getElem_mem hlt
    have hfi := fine_mem hf _ hmem
    rw [loopO_eq, hd99_0, cut98 v _ F B hF, mapL_eq v.ps i hlt]
    have hr : v.ps[i].pair = true → ∀ H, W 100 [.p (.sl ((v.ps.map enc).take i)), .p (enc v.ps[i].k0)] H = some (.ret (.p (.int .i64 (findP v.ps[i].k0 (v.ps.take i)))), H) := fun hpi H => by
      rw [← List.map_take]
      refine find99_W (v.ps.take i) v.ps[i].k0 (by simp; omega) (fun u hu => ?_) H
      have hpu := hp u hu
      have := (pair_two hpu).2
      exact ⟨by omega, fine_mem (fine_mem hf u (List.mem_of_mem_take hu)) _ (k0_mem hpu)⟩
    simp only [body98_step v i hlt hlen (by have := fine_len hfi; omega) hr]
    cases hc : v.ps[i].pair && !keyIn v.ps[i].k0 (v.ps.take i) with
    | false =>
      right
      simp only [Bool.false_and, Bool.false_eq_true, if_false, true_and]
      exact ⟨_, rfl⟩
    | true =>
      simp only [Bool.true_and, if_true]
      refine ih (i + 1) (fr98 v (i + 1)) [box25 v.ps[i]] (by omega) (by omega) (fun u hu => ?_) rfl
      rw [List.take_succ_eq_append_getElem hlt] at hu
      simp only [Bool.and_eq_true] at hc
      rcases List.mem_append.1 hu with h | h
      · exact hp u h
      · simp only [List.mem_singleton] at h; rw [h]; exact hc.1

theorem isMap98_W (v : Val) (H : Hp) : W 99 [.p (enc v)] H = some (.ret (.p (.bool v.isMap)), H) := by
  refine W99_of rfl (by simp) ?_
  have h1 := fun H => isSet85_W v H
  have fin98 : (∃ B, E false ⟨0, 0⟩ 99 code99 (mkF 0 [.p (enc v)]) H00 = some (.ret, [(2, .p (.bool v.isMap))], ⟨B, []⟩)) →
      alone H (fnOut Tryz.prog [.tmp 2] 0 0 (E false ⟨0, 0⟩ 99 code99 (mkF 0 [.p (enc v)]) H00)) = some (.ret (.p (.bool v.isMap)), H) := by
    rintro ⟨B, h⟩
    rw [h]
    simp [fnOut, retOut, resD, retsD, retD, oneD, D.noRefs, D.noRef, alone, Hp.cut]
  apply fin98
  cases hs : v.isSet with
  | false =>
    have : v.isMap = false := by simp [Val.isMap, hs]
    rw [hs] at h1
    exact ⟨_, by simp [code99, Tryz.f99, h1, this]; rfl⟩
  | true =>
    rw [hs] at h1
    obtain ⟨hv, _⟩ := isSet_valid hs
    have hm : v.isMap = mapL [] v.ps := by simp [Val.isMap, hs]
    have hl := valid_len hv
    have hf : v.fine := nodes_fine v (by have := ((valid_iff v).1 hv).1.1; omega)
    have h00 : ((0 : Nat) : Int) = 0 := rfl
    rcases loop98_ok v (by omega) hf v.ps.length 0 (fr98 v 0) [] rfl (Nat.zero_le _) (by simp) rfl with ⟨ha, hloop⟩ | ⟨ha, u, hloop⟩
    · rw [List.take_zero, List.drop_zero] at ha
      rw [hm, ha]
      simp only [lp99_0, code99, Tryz.f99, fr98, box25, h00] at hloop
      exact ⟨_, by simp [code99, Tryz.f99, h1, box25, hloop]; rfl⟩
    · rw [List.take_zero, List.drop_zero] at ha
      rw [hm, ha]
      simp only [lp99_0, code99, Tryz.f99, fr98, box25, h00] at hloop
      exact ⟨_, by simp [code99, Tryz.f99, h1, box25, hloop]; rfl⟩

/-! ### The document's maps -/
def adjI (l : List Val) (i : Nat) : Bool := if h : i < l.length then l[i].pair && (if h0 : 0 < i then decide (¬ (l[i - 1]'(by omega)).k0.cmp l[i].k0 = 0) else true) else false
def rIsMap (v : Val) : Bool := (List.range v.ps.length).all (adjI v.ps) && decide (v.k = 5)

def fr54 (i : Nat) : Fr := [(1, .ptr 0 0), (3, .p (.int .i64 i))]
theorem body54_end (v : Val) (B : List Blk) : E false ⟨0, 0⟩ 55 lp55_0 (fr54 v.ps.length) ⟨box25 v :: B, []⟩ = some (.exit 0, fr54 v.ps.length ++ [(9, .p (.bool false))], ⟨box25 v :: B, []⟩) := by
  simp [fr54, lp55_0, code55, Tryz.f55, box25]

theorem body54_step (v : Val) (i : Nat) (hlt : i < v.ps.length) (hlen : v.ps.length < 9223372036854775807) (hd : v.ps[i].ps.length < 9223372036854775807) (hp : 0 < i → (v.ps[i - 1]'(by omega)).pair = true)
    (hr : (h0 : 0 < i) → v.ps[i].pair = true → ∀ H, W 33 [.p (enc (v.ps[i - 1]'(by omega)).k0), .p (enc v.ps[i].k0)] H = some (.ret (.p (.int .i64 ((v.ps[i - 1]'(by omega)).k0.cmp v.ps[i].k0))), H)) :
    E false ⟨0, 0⟩ 55 lp55_0 (fr54 i) ⟨[box25 v], []⟩ = if adjI v.ps i = true then some (.normal, fr54 (i + 1), ⟨[box25 v, box25 v.ps[i]], []⟩)
      else some (.ret, [(2, .p (.bool false))], ⟨[box25 v, box25 v.ps[i]], []⟩) := by
  have hw : IntKind.i64.wrap ((i : Int) + 1) = (i : Int) + 1 := wrap64 (by omega) (by omega)
  by_cases h4 : v.ps[i].k = 4
  · by_cases h2 : v.ps[i].ps.length = 2
    · have hpi : v.ps[i].pair = true := by simp [Val.pair, h4, h2]
      have e0 : 0 < v.ps[i].ps.length := by omega
      by_cases h0 : 0 < i
      · have hr := hr h0 hpi
        have hpp := hp h0
        have e1 : 0 < (v.ps[i - 1]'(by omega)).ps.length := by have := (pair_two hpp).2; omega
        have hw1 : IntKind.i64.wrap ((i : Int) - 1) = (i : Int) - 1 := wrap64 (by omega) (by omega)
        have et : ((i : Int) - 1).toNat = i - 1 := by omega
        have ez : 0 ≤ (i : Int) - 1 := by omega
        have el : i - 1 < v.ps.length := by omega
        have h1i : (1 : Int) ≤ i := by omega
        rw [k0_at e0, k0_at e1] at hr
        have ha : adjI v.ps i = decide (¬ (v.ps[i - 1]'(by omega)).ps[0].cmp v.ps[i].ps[0] = 0) := by
          unfold adjI
          rw [dif_pos hlt, hpi, dif_pos h0, k0_at e0, k0_at e1]; rfl
        rw [ha]
        generalize (v.ps[i - 1]'(by omega)).ps[0].cmp v.ps[i].ps[0] = c at hr ⊢
        by_cases hc : c = 0
        · simp [fr54, lp55_0, code55, Tryz.f55, box25, hlt, hw, h4, h2, hr, hc, h0, e0, e1, hw1, et, ez, el, h1i, z25', splice]
        · simp [fr54, lp55_0, code55, Tryz.f55, box25, hlt, hw, h4, h2, hr, hc, h0, e0, e1, hw1, et, ez, el, h1i, z25', splice]
      · have hi0 : i = 0 := by omega
        have ha : adjI v.ps i = true := by
          unfold adjI
          rw [dif_pos hlt, hpi, dif_neg h0]; rfl
        rw [ha]
        subst hi0
        simp [fr54, lp55_0, code55, Tryz.f55, box25, hlt, h4, h2, e0, z25', splice]
        decide
    · have ha : adjI v.ps i = false := by simp [adjI, hlt, Val.pair, h2]
      have h2' : ¬ (v.ps[i].ps.length : Int) = 2 := by omega
      simp [fr54, lp55_0, code55, Tryz.f55, box25, hlt, hw, h4, h2, h2', ha, z25', splice]
  · have ha : adjI v.ps i = false := by simp [adjI, hlt, Val.pair, h4]
    simp [fr54, lp55_0, code55, Tryz.f55, box25, hlt, hw, h4, ha, z25', splice]

theorem cut54 (v : Val) (i : Nat) (F : Fr) (B : List Blk) (hF : norm [1, 3] F = fr54 i) : cutD ⟨0, 0⟩ [1, 3] 1 0 F ⟨box25 v :: B, []⟩ = some (fr54 i, ⟨[box25 v], []⟩) := by
  simp only [cutD, hF]
  simp [fr54, box25, frNo, blkNo, D.noRef, D.noRefs, Hp.cut]

theorem loop54_ok (v : Val) (hlen : v.ps.length < 9223372036854775807) (hf : v.fine) : ∀ (m i : Nat) (F : Fr) (B : List Blk), m = v.ps.length - i → i ≤ v.ps.length → (∀ j, j < i → adjI v.ps j = true) → norm [1, 3] F = fr54 i →
    ((∀ j, j < v.ps.length → adjI v.ps j = true) ∧ loopO false ⟨0, 0⟩ 55 lp55_0 1 0 F ⟨box25 v :: B, []⟩ = some (.exit 0, fr54 v.ps.length ++ [(9, .p (.bool false))], ⟨[box25 v], []⟩)) ∨
    ((∃ j, j < v.ps.length ∧ adjI v.ps j = false) ∧ ∃ u, loopO false ⟨0, 0⟩ 55 lp55_0 1 0 F ⟨box25 v :: B, []⟩ = some (.ret, [(2, .p (.bool false))], ⟨[box25 v, box25 u], []⟩)) := by
  intro m
  induction m with
  | zero =>
    intro i F B hm hi hp hF
    have hie : i = v.ps.length := by omega
    subst hie
    left
    refine ⟨hp, ?_⟩
    rw [loopO_eq, hd55_0, cut54 v _ F B hF]
    simp only [body54_end]
  | succ m ih =>
    intro i F B hm hi hp hF
    have hlt : i < v.ps.length := by omega
    have hfi := fine_mem hf _ (List.getElem_mem hlt)
    have hpp : ∀ j (hj : j < v.ps.length), j < i → v.ps[j].pair = true := fun j hj hji => by
      have := hp j hji
      unfold adjI at this
      rw [dif_pos hj, Bool.and_eq_true] at this
      exact this.1
    rw [loopO_eq, hd55_0, cut54 v _ F B hF]
    have hr : (h0 : 0 < i) → v.ps[i].pair = true → ∀ H, W 33 [.p (enc (v.ps[i - 1]'(by omega)).k0), .p (enc v.ps[i].k0)] H = some (.ret (.p (.int .i64 ((v.ps[i - 1]'(by omega)).k0.cmp v.ps[i].k0))), H) := fun h0 _ H =>
      cmp_W _ (fine_mem (fine_mem hf _ (List.getElem_mem (by omega))) _ (k0_mem (hpp (i - 1) (by omega) (by omega)))) _ H
    simp only [body54_step v i hlt hlen (by have := fine_len hfi; omega) (fun h0 => hpp (i - 1) (by omega) (by omega)) hr]
    cases hc : adjI v.ps i with
    | false =>
      right
      simp only [Bool.false_eq_true, if_false]
      exact ⟨⟨i, hlt, hc⟩, _, rfl⟩
    | true =>
      simp only [if_true]
      refine ih (i + 1) (fr54 (i + 1)) [box25 v.ps[i]] (by omega) (by omega) (fun j hj => ?_) rfl
      by_cases e : j = i
      · rw [e]; exact hc
      · exact hp j (by omega)

theorem isMap54_W (v : Val) (hf : v.fine) (H : Hp) : W 55 [.p (enc v)] H = some (.ret (.p (.bool (rIsMap v))), H) := by
  refine W55_of rfl (by simp) ?_
  have h1 := fun H => isSet38_W v H
  have hl := fine_len hf
  have h00 : ((0 : Nat) : Int) = 0 := rfl
  have fin54 : (∃ B, E false ⟨0, 0⟩ 55 code55 (mkF 0 [.p (enc v)]) H00 = some (.ret, [(2, .p (.bool (rIsMap v)))], ⟨B, []⟩)) →
      alone H (fnOut Tryz.prog [.tmp 2] 0 0 (E false ⟨0, 0⟩ 55 code55 (mkF 0 [.p (enc v)]) H00)) = some (.ret (.p (.bool (rIsMap v))), H) := by
    rintro ⟨B, h⟩
    rw [h]
    simp [fnOut, retOut, resD, retsD, retD, oneD, D.noRefs, D.noRef, alone, Hp.cut]
  apply fin54
  rcases loop54_ok v (by omega) hf v.ps.length 0 (fr54 0) [] rfl (Nat.zero_le _) (fun j h => by omega) rfl with ⟨ha, hloop⟩ | ⟨⟨j, hj, ha⟩, u, hloop⟩
  · have hm : rIsMap v = decide (v.k = 5) := by
      unfold rIsMap
      rw [List.all_eq_true.2 (fun j hj => ha j (List.mem_range.1 hj))]; rfl
    rw [hm]
    simp only [lp55_0, code55, Tryz.f55, fr54, box25, h00] at hloop
    exact ⟨_, by simp [code55, Tryz.f55, h1, box25, hloop]; rfl⟩
  · have hm : rIsMap v = false := by
      unfold rIsMap
      rw [show (List.range v.ps.length).all (adjI v.ps) = false from by
        rw [← Bool.not_eq_true, List.all_eq_true]
        intro h
        have := h j (List.mem_range.2 hj)
        rw [ha] at this; cases this]
      rfl
    rw [hm]
    simp only [lp55_0, code55, Tryz.f55, fr54, box25, h00] at hloop
    exact ⟨_, by simp [code55, Tryz.f55, h1, box25, hloop]; rfl⟩
end Go.Vi
end

section
/- Vi: maps, plainly: what is a map has increasing keys. No conditions. -/
namespace Go.Vi
open Go Go.Lib Go.Proofs

theorem pair_ps {p : Val} (h : p.pair = true) : p.ps = [p.k0, p.k1] := by
  have h2 := (pair_two h).2
  rw [k0_at (by omega), k1_at (by omega)]
  obtain ⟨k, n, t, ps⟩ := p
  simp only [Val.ps] at h2 ⊢
  match ps, h2 with
  | [a, b], _ => rfl

theorem pair_cmp {p q : Val} (hp : p.pair = true) (hq : q.pair = true) : p.cmp q = if p.k0.cmp q.k0 ≠ 0 then p.k0.cmp q.k0 else if p.k1.cmp q.k1 ≠ 0 then p.k1.cmp q.k1 else 0 := by
  have h1 := (pair_two hp).1
  have h2 := (pair_two hq).1
  have l1 := (pair_two hp).2
  have l2 := (pair_two hq).2
  rw [cmp_eq, if_neg (by rw [h1, h2]; simp), if_neg (by rw [h1]; decide), if_neg (by rw [h1, l1, l2]; decide), pair_ps hp, pair_ps hq]
  simp only [cmpL]

theorem key_le {p q : Val} (hp : p.pair = true) (hq : q.pair = true) (h : p.cmp q < 0) : p.k0.cmp q.k0 ≤ 0 := by
  rw [pair_cmp hp hq] at h
  split at h <;> omega
theorem key_lt {p q : Val} (hp : p.pair = true) (hq : q.pair = true) (h : p.k0.cmp q.k0 < 0) : p.cmp q < 0 := by
  rw [pair_cmp hp hq, if_pos (by omega)]; exact h

/-- Pairs with increasing keys. -/
structure Keyed (l : List Val) : Prop where
  pair : ∀ p ∈ l, p.pair = true
  up : Up (l.map Val.k0)

theorem k0_shaped {p : Val} (hp : p.pair = true) (hs : p.shaped = true) : p.k0.shaped = true := shaped_mem hs _ (k0_mem hp)
theorem k1_shaped {p : Val} (hp : p.pair = true) (hs : p.shaped = true) : p.k1.shaped = true := shaped_mem hs _ (k1_mem hp)

theorem mapL_iff : ∀ (l pre : List Val), mapL pre l = true ↔ (∀ p ∈ l, p.pair = true) ∧ (∀ u ∈ pre, ∀ p ∈ l, u.k0.pc p.k0 ≠ 0) ∧ l.Pairwise fun p q => p.k0.pc q.k0 ≠ 0
  | [], pre => by simp [mapL]
  | p :: r, pre => by
    rw [mapL, Bool.and_eq_true, Bool.and_eq_true, mapL_iff r (pre ++ [p]), List.pairwise_cons]
    have hk : (!keyIn p.k0 pre) = true ↔ ∀ u ∈ pre, u.k0.pc p.k0 ≠ 0 := by
      unfold keyIn
      rw [Bool.not_eq_true', ← Bool.not_eq_true, List.any_eq_true]
      simp
    rw [hk]
    constructor
    · rintro ⟨⟨h1, h2⟩, h3, h4, h5⟩
      refine ⟨fun q hq => ?_, fun u hu q hq => ?_, fun q hq => h4 p (by simp) q hq, h5⟩
      · rcases List.mem_cons.1 hq with e | hq
        · rw [e]; exact h1
        · exact h3 q hq
      · rcases List.mem_cons.1 hq with e | hq
        · rw [e]; exact h2 u hu
        · exact h4 u (by simp [hu]) q hq
    · rintro ⟨h1, h2, h3, h4⟩
      refine ⟨⟨h1 p (by simp), fun u hu => h2 u hu p (by simp)⟩, fun q hq => h1 q (by simp [hq]), fun u hu q hq => ?_, h4⟩
      rcases List.mem_append.1 hu with hu | hu
      · exact h2 u hu q (by simp [hq])
      · simp only [List.mem_singleton] at hu; rw [hu]; exact h3 q hq

theorem mapL_keyed {l : List Val} (hs : Shp l) (hu : Up l) : mapL [] l = true ↔ Keyed l := by
  rw [mapL_iff]
  constructor
  · rintro ⟨h1, _, h3⟩
    refine ⟨h1, ?_⟩
    unfold Up
    rw [List.pairwise_map]
    refine (h3.and hu).imp_of_mem fun {p q} hp hq h => ?_
    have hpc := pc_cmp p.k0 q.k0 (k0_shaped (h1 p hp) (hs p hp)) (k0_shaped (h1 q hq) (hs q hq))
    have := key_le (h1 p hp) (h1 q hq) h.2
    have h2 := h.1
    rw [hpc] at h2
    omega
  · rintro ⟨h1, h2⟩
    refine ⟨h1, by simp, ?_⟩
    unfold Up at h2
    rw [List.pairwise_map] at h2
    refine h2.imp_of_mem fun {p q} hp hq h => ?_
    rw [pc_cmp p.k0 q.k0 (k0_shaped (h1 p hp) (hs p hp)) (k0_shaped (h1 q hq) (hs q hq))]
    omega

theorem adj_up {l : List Val} (hs : Shp l) (h : ∀ i (hi : i + 1 < l.length), (l[i]'(by omega)).cmp l[i + 1] < 0) : Up l := by
  refine up_incr.2 (sorted_incr l hs ?_)
  induction l with
  | nil => rfl
  | cons v r ih =>
    cases r with
    | nil => rfl
    | cons u r =>
      simp only [sortedL, Bool.and_eq_true, decide_eq_true_eq]
      refine ⟨h 0 (by simp), ih (fun x hx => hs x (by simp at hx ⊢; right; exact hx)) fun i hi => ?_⟩
      exact h (i + 1) (by simp at hi ⊢; omega)

theorem rMap_keyed {l : List Val} (hs : Shp l) (hu : Up l) : (List.range l.length).all (adjI l) = true ↔ Keyed l := by
  rw [List.all_eq_true]
  constructor
  · intro h
    have hp : ∀ i (hi : i < l.length), l[i].pair = true := fun i hi => by
      have := h i (List.mem_range.2 hi)
      unfold adjI at this
      rw [dif_pos hi, Bool.and_eq_true] at this
      exact this.1
    have hpm : ∀ p ∈ l, p.pair = true := fun p hp' => by
      obtain ⟨i, hi, rfl⟩ := List.getElem_of_mem hp'
      exact hp i hi
    refine ⟨hpm, adj_up (fun x hx => ?_) fun i hi => ?_⟩
    · obtain ⟨p, hp', rfl⟩ := List.mem_map.1 hx
      exact k0_shaped (hpm p hp') (hs p hp')
    · rw [List.length_map] at hi
      have h1 := h (i + 1) (List.mem_range.2 hi)
      unfold adjI at h1
      rw [dif_pos hi, dif_pos (by omega), Bool.and_eq_true] at h1
      have h2 := of_decide_eq_true h1.2
      have h3 := key_le (hp i (by omega)) (hp (i + 1) hi) (up_incr.1 hu i (i + 1) (by omega) hi (by omega))
      simp only [List.getElem_map]
      simp only [Nat.add_sub_cancel] at h2
      omega
  · rintro ⟨h1, h2⟩ i hi
    have hi := List.mem_range.1 hi
    unfold adjI
    rw [dif_pos hi, h1 _ (List.getElem_mem hi)]
    split
    · rename_i h0
      have := up_incr.1 h2 (i - 1) i (by simp; omega) (by simpa using hi) (by omega)
      simp only [List.getElem_map] at this
      simp only [Bool.true_and]
      exact decide_eq_true (by omega)
    · rfl

theorem isMap_keyed {v : Val} (h : v.isMap = true) : v.isSet = true ∧ Keyed v.ps := by
  simp only [Val.isMap, Bool.and_eq_true] at h
  obtain ⟨hv, hk⟩ := isSet_valid h.1
  exact ⟨h.1, (mapL_keyed (valid_parts hv).2.1 (up_incr.2 (set_incr h.1))).1 h.2⟩

/-- Both sides take the same values for maps. -/
theorem isMap_same (v : Val) : v.isMap = (v.valid && rIsMap v) := by
  unfold Val.isMap rIsMap
  cases hs : v.isSet with
  | false =>
    have h2 := hs
    simp only [Val.isSet] at h2
    rw [Bool.false_and, Bool.and_left_comm, h2, Bool.and_false]
  | true =>
    obtain ⟨hv, hk⟩ := isSet_valid hs
    rw [hv, hk, Bool.true_and, Bool.true_and]
    simp only [decide_true, Bool.and_true]
    rw [Bool.eq_iff_iff, mapL_keyed (valid_parts hv).2.1 (up_incr.2 (set_incr hs)), rMap_keyed (valid_parts hv).2.1 (up_incr.2 (set_incr hs))]
end Go.Vi
end

section
/- Vi: maps: ref.Look (f56), value.Look (f51), ref.Tuple (f137), ref.Pair (f104). No conditions. -/
namespace Go.Vi
open Go Go.Lib Go.Proofs
set_option maxRecDepth 100000
attribute [local simp] E_skip E_ret E_exit E_text E_draw E_seq E_cond E_block E_scope E_loop runOps runOp runDraw runVF runV finV gate FlOK wantD exec fin opd look putF norm constD constC fieldAddrD loadD storeD opCall lenD binD isShift intP strP numD indexAddrD indexD D.pd? D.pds? cells_enc sub capsOf callD argsD argD D.nf enc_agg unP box_enc cellD mkF H00 st1 cD_agg cD_pagg cD_int cD_bool cD_str cD_sl cD_lit

def lookR (key : Val) : List Val → Option Val
  | [] => none
  | p :: r => if p.k0.cmp key = 0 then some p.k1 else lookR key r

def fr56 (i : Nat) : Fr := [(2, .ptr 0 0), (3, .ptr 1 0), (4, .ptr 2 0), (6, .p (.int .i64 i))]
def st56 (m key : Val) (z : Blk) : Hp := ⟨[box25 m, box25 key, z], []⟩
theorem body56_end (m key : Val) : E false ⟨0, 0⟩ 57 lp57_0 (fr56 m.ps.length) (st56 m key zeroB) = some (.exit 0, fr56 m.ps.length ++ [(11, .p (.bool false))], st56 m key zeroB) := by
  simp [fr56, st56, box25, lp57_0, code57, Tryz.f57]

theorem body56_step (m key : Val) (i : Nat) (hlt : i < m.ps.length) (hlen : m.ps.length < 9223372036854775807) (hp : m.ps[i].pair = true) (c : Int)
    (hr : ∀ H, W 33 [.p (enc m.ps[i].k0), .p (enc key)] H = some (.ret (.p (.int .i64 c)), H)) :
    E false ⟨0, 0⟩ 57 lp57_0 (fr56 i) (st56 m key zeroB) = if c = 0 then some (.ret, [(4, .ptr 2 0), (5, .p (.bool true))], st56 m key (box25 m.ps[i].k1)) else some (.normal, fr56 (i + 1), st56 m key zeroB) := by
  have hw : IntKind.i64.wrap ((i : Int) + 1) = (i : Int) + 1 := wrap64 (by omega) (by omega)
  have h2 := (pair_two hp).2
  have e0 : 0 < m.ps[i].ps.length := by omega
  have e1 : 1 < m.ps[i].ps.length := by omega
  rw [k0_at e0] at hr
  rw [k1_at e1]
  by_cases hc : c = 0
  · rw [if_pos hc]
    simp [fr56, st56, box25, zeroB, lp57_0, code57, Tryz.f57, hlt, hr, hc, e0, e1, splice]
  · rw [if_neg hc]
    simp [fr56, st56, box25, zeroB, lp57_0, code57, Tryz.f57, hlt, hr, hc, e0, e1, hw, splice]

theorem cut56 (m key : Val) (F : Fr) : cutD ⟨0, 0⟩ [2, 3, 4, 6] 3 0 F (st56 m key zeroB) = some (norm [2, 3, 4, 6] F, st56 m key zeroB) := cut_full ⟨0, 0⟩ _ F (st56 m key zeroB)

theorem loop56_ok (m key : Val) (hf : m.fine) (hp : ∀ p ∈ m.ps, p.pair = true) : ∀ (n i : Nat) (F : Fr), n = m.ps.length - i → i ≤ m.ps.length → norm [2, 3, 4, 6] F = fr56 i →
    (lookR key (m.ps.drop i) = none ∧ loopO false ⟨0, 0⟩ 57 lp57_0 3 0 F (st56 m key zeroB) = some (.exit 0, fr56 m.ps.length ++ [(11, .p (.bool false))], st56 m key zeroB)) ∨
    ∃ v, lookR key (m.ps.drop i) = some v ∧ loopO false ⟨0, 0⟩ 57 lp57_0 3 0 F (st56 m key zeroB) = some (.ret, [(4, .ptr 2 0), (5, .p (.bool true))], st56 m key (box25 v)) := by
  have hlen := fine_len hf
  intro n
  induction n with
  | zero =>
    intro i F hn hi hF
    have hie : i = m.ps.length := by omega
    subst hie
    left
    rw [loopO_eq, hd57_0, cut56, hF]
    simp only [body56_end, List.drop_length, lookR, and_self]
  | succ n ih =>
    intro i F hn hi hF
    have hlt : i < m.ps.length := by omega
    have hmem := List.getElem_mem hlt
    rw [loopO_eq, hd57_0, cut56, hF, List.drop_eq_getElem_cons hlt, lookR]
    have hr := fun H => cmp_W m.ps[i].k0 (fine_mem (fine_mem hf _ hmem) _ (k0_mem (hp _ hmem))) key H
    simp only [body56_step m key i hlt (by omega) (hp _ hmem) _ hr]
    by_cases hc : m.ps[i].k0.cmp key = 0
    · right
      simp only [if_pos hc]
      exact ⟨_, rfl, rfl⟩
    · simp only [if_neg hc]
      exact ih (i + 1) (fr56 (i + 1)) (by omega) (by omega) rfl

def Look56 (m key : Val) : List D := match lookR key m.ps with | some v => [.p (enc v), .p (.bool true)] | none => [.p (enc Val.zero), .p (.bool false)]

theorem look56_W (m key : Val) (hf : m.fine) (hp : ∀ p ∈ m.ps, p.pair = true) (H : Hp) : W 57 [.p (enc m), .p (enc key)] H = some (.ret (.tup (Look56 m key)), H) := by
  refine W57_of rfl (by simp) ?_
  have h00 : ((0 : Nat) : Int) = 0 := rfl
  unfold Look56
  rcases loop56_ok m key hf hp m.ps.length 0 (fr56 0) rfl (Nat.zero_le _) rfl with ⟨ha, hloop⟩ | ⟨v, ha, hloop⟩
  · rw [List.drop_zero] at ha
    rw [ha]
    simp only [lp57_0, code57, Tryz.f57, fr56, st56, box25, zeroB, h00] at hloop
    have key : E false ⟨0, 0⟩ 57 code57 (mkF 0 [.p (enc m), .p (enc key)]) H00 = some (.ret, [(4, .ptr 2 0), (5, .p (.bool false))], st56 m key zeroB) := by
      simp [code57, Tryz.f57, st56, box25, zeroB, hloop, z25', build25, splice]
    rw [key, enc_zero]
    simp [fnOut, retOut, resD, retsD, retD, oneD, D.noRefs, D.noRef, alone, Hp.cut, st56, zeroB]
  · rw [List.drop_zero] at ha
    rw [ha]
    simp only [lp57_0, code57, Tryz.f57, fr56, st56, box25, zeroB, h00] at hloop
    have key : E false ⟨0, 0⟩ 57 code57 (mkF 0 [.p (enc m), .p (enc key)]) H00 = some (.ret, [(4, .ptr 2 0), (5, .p (.bool true))], st56 m key (box25 v)) := by
      simp [code57, Tryz.f57, st56, box25, hloop, z25']
    rw [key]
    simp [fnOut, retOut, resD, retsD, retD, oneD, D.noRefs, D.noRef, alone, Hp.cut, st56, box25]

theorem idx_look (key : Val) : ∀ (l : List Val) (j : Nat), (∀ u ∈ l, u.k0.pc key = u.k0.cmp key) →
    (lookR key l = none ∧ idxP (fun u => decide (u.k0.pc key = 0)) l j = -1) ∨ ∃ i, ∃ hi : i < l.length, lookR key l = some l[i].k1 ∧ idxP (fun u => decide (u.k0.pc key = 0)) l j = ((i + j : Nat) : Int)
  | [], j, _ => .inl ⟨rfl, rfl⟩
  | p :: r, j, h => by
    simp only [lookR, idxP]
    have e : decide (p.k0.pc key = 0) = decide (p.k0.cmp key = 0) := by rw [h p (by simp)]
    simp only [e]
    by_cases hc : p.k0.cmp key = 0
    · right
      refine ⟨0, by simp, ?_⟩
      simp [hc]
    · simp only [hc, decide_false, Bool.false_eq_true, if_false]
      rcases idx_look key r (j + 1) (fun u hu => h u (by simp [hu])) with ⟨h1, h2⟩ | ⟨i, hi, h1, h2⟩
      · exact .inl ⟨h1, h2⟩
      · refine .inr ⟨i + 1, by simp; omega, by simpa using h1, ?_⟩
        rw [h2]; congr 1; omega

def Look51 (m key : Val) : List D :=
  if (m.isMap && key.valid) = true then (match lookR key m.ps with | some v => [.p (enc v), .p (.int .i64 0)] | none => [.p (enc Val.zero), .p (.int .i64 5)]) else [.p (enc Val.zero), .p (.int .i64 2)]

theorem look51_W (m key : Val) (H : Hp) : W 52 [.p (enc m), .p (enc key)] H = some (.ret (.tup (Look51 m key)), H) := by
  refine W52_of rfl (by simp) ?_
  have h98 := fun H => isMap98_W m H
  have h71 := fun H => valid71_W key H
  unfold Look51
  have fin0 : ∀ e : Int, E false ⟨0, 0⟩ 52 code52 (mkF 0 [.p (enc m), .p (enc key)]) H00 = some (.ret, [(4, .ptr 2 0), (5, .p (.int .i64 e))], ⟨[box25 m, box25 key, zeroB], []⟩) →
      alone H (fnOut Tryz.prog [.cell 4 25, .tmp 5] 0 0 (E false ⟨0, 0⟩ 52 code52 (mkF 0 [.p (enc m), .p (enc key)]) H00)) = some (.ret (.tup [.p (enc Val.zero), .p (.int .i64 e)]), H) := fun e h1 => by
    rw [h1, enc_zero]
    simp [fnOut, retOut, resD, retsD, retD, oneD, D.noRefs, D.noRef, alone, Hp.cut, box25, zeroB]
  cases hm : m.isMap with
  | false =>
    rw [hm] at h98
    exact fin0 2 (by simp [code52, Tryz.f52, box25, zeroB, h98, z25', build25, splice])
  | true =>
    rw [hm] at h98
    cases hv : key.valid with
    | false =>
      rw [hv] at h71
      exact fin0 2 (by simp [code52, Tryz.f52, box25, zeroB, h98, h71, z25', build25, splice])
    | true =>
      rw [hv] at h71
      obtain ⟨hs, hk⟩ := isMap_keyed hm
      obtain ⟨hvm, _⟩ := isSet_valid hs
      have hl := valid_len hvm
      obtain ⟨p1, p2, p3⟩ := valid_parts hvm
      have h99 := fun H => find99_W m.ps key (by omega) (fun u hu => ⟨by have := (pair_two (hk.pair u hu)).2; omega, fine_mem (p1 u hu) _ (k0_mem (hk.pair u hu))⟩) H
      rcases idx_look key m.ps 0 (fun u hu => pc_cmp _ _ (k0_shaped (hk.pair u hu) (p2 u hu)) (valid_shaped hv)) with ⟨h1, h2⟩ | ⟨i, hi, h1, h2⟩
      · have e : findP key m.ps = -1 := h2
        rw [e] at h99
        rw [h1]
        exact fin0 5 (by simp [code52, Tryz.f52, box25, zeroB, h98, h71, h99, z25', build25, splice])
      · have e : findP key m.ps = (i : Int) := h2
        rw [e] at h99
        have hmem := List.getElem_mem hi
        have l2 := (pair_two (hk.pair _ hmem)).2
        have e1 : 1 < m.ps[i].ps.length := by omega
        have hvk := (valid_mem (valid_mem hvm hmem).1 (k1_mem (hk.pair _ hmem))).1
        have h73 := fun H => copied_W m.ps[i].k1 (by have := ((valid_iff _).1 hvk).1.1; omega) H
        rw [k1_at e1] at h73 h1
        have hin : ¬ ((i : Int) < 0) := by omega
        rw [h1]
        have key' : E false ⟨0, 0⟩ 52 code52 (mkF 0 [.p (enc m), .p (enc key)]) H00 = some (.ret, [(4, .ptr 2 0), (5, .p (.int .i64 0))], ⟨[box25 m, box25 key, box25 m.ps[i].ps[1]], []⟩) := by
          simp [code52, Tryz.f52, box25, h98, h71, h99, h73, hin, hi, e1, z25', build25, splice]
        rw [key']
        simp [fnOut, retOut, resD, retsD, retD, oneD, D.noRefs, D.noRef, alone, Hp.cut, box25]

def tupV (l : List Val) : Val := .mk 4 0 ⟨#[]⟩ l
@[simp] theorem tupV_k (l : List Val) : (tupV l).k = 4 := rfl
@[simp] theorem tupV_n (l : List Val) : (tupV l).n = 0 := rfl
@[simp] theorem tupV_t (l : List Val) : (tupV l).t = ⟨#[]⟩ := rfl
@[simp] theorem tupV_ps (l : List Val) : (tupV l).ps = l := rfl
theorem enc_tup (l : List Val) : enc (tupV l) = .agg [.int .i64 4, .int .i64 0, .str ⟨#[]⟩, .sl (l.map enc)] := by rw [enc_eq]; rfl

theorem tuple137_W (l : List Val) (H : Hp) : W 138 [.p (.sl (l.map enc))] H = some (.ret (.p (enc (tupV l))), H) := by
  refine W138_of rfl (by simp) ?_
  have key : E false ⟨0, 0⟩ 138 code138 (mkF 0 [.p (.sl (l.map enc))]) H00 = some (.ret, [(2, .ptr 0 0)], ⟨[box25 (tupV l)], []⟩) := by
    simp [code138, Tryz.f138, box25, z25', build25_kp, splice]
  rw [key, enc_tup]
  simp [fnOut, retOut, resD, retsD, retD, oneD, D.noRefs, D.noRef, alone, Hp.cut, box25]

theorem pair104_W (a b : Val) (H : Hp) : W 105 [.p (enc a), .p (enc b)] H = some (.ret (.p (enc (tupV [a, b]))), H) := by
  refine W105_of rfl (by simp) ?_
  have h1 := fun H => tuple137_W [a, b] H
  simp only [List.map_cons, List.map_nil, enc_agg] at h1
  have key : E false ⟨0, 0⟩ 105 code105 (mkF 0 [.p (enc a), .p (enc b)]) H00 = some (.ret, [(4, .ptr 2 0)], ⟨[box25 a, box25 b, box25 (tupV [a, b])], []⟩) := by
    simp [code105, Tryz.f105, box25, z25', buildSliceD, elsD, one_int, one_str, one_sl, one_enc, len_enc, all_one, splice, h1]
  rw [key, enc_tup]
  simp [fnOut, retOut, resD, retsD, retD, oneD, D.noRefs, D.noRef, alone, Hp.cut, box25]
end Go.Vi
end

section
/- Vi: maps: ref.Keys (f55), ref.Lay (f57). No conditions. -/
namespace Go.Vi
open Go Go.Lib Go.Proofs
set_option maxRecDepth 100000
attribute [local simp] E_skip E_ret E_exit E_text E_draw E_seq E_cond E_block E_scope E_loop runOps runOp runDraw runVF runV finV gate FlOK wantD exec fin opd look putF norm constD constC fieldAddrD loadD storeD opCall lenD binD isShift intP strP numD indexAddrD indexD D.pd? D.pds? cells_enc sub capsOf callD argsD argD D.nf enc_agg unP box_enc cellD mkF H00 st1 cD_agg cD_pagg cD_int cD_bool cD_str cD_sl cD_lit

def fr55 (n i : Nat) : Fr := [(1, .ptr 0 0), (2, .ptr 1 0), (3, .own 0 n), (4, .p (.int .i64 i))]
def st55 (m : Val) (out : List Val) : Hp := ⟨[box25 m, zeroB], [rowF out]⟩
theorem body55_end (m : Val) (out : List Val) : E false ⟨0, 0⟩ 56 lp56_0 (fr55 out.length m.ps.length) (st55 m out) = some (.exit 0, fr55 out.length m.ps.length ++ [(9, .p (.bool false))], st55 m out) := by
  simp [fr55, st55, box25, zeroB, lp56_0, code56, Tryz.f56]
theorem body55_step (m : Val) (out : List Val) (i : Nat) (hlt : i < m.ps.length) (hlen : m.ps.length ≤ 1000000) (hout : out.length ≤ i) (hp : m.ps[i].pair = true) :
    E false ⟨0, 0⟩ 56 lp56_0 (fr55 out.length i) (st55 m out) = some (.normal, fr55 (out ++ [m.ps[i].k0]).length (i + 1), st55 m (out ++ [m.ps[i].k0])) := by
  have hw : IntKind.i64.wrap ((i : Int) + 1) = (i : Int) + 1 := wrap64 (by omega) (by omega)
  have hby : (out.length + 1) * 56 ≤ 140737488355328 := by omega
  have h2 := (pair_two hp).2
  have e0 : 0 < m.ps[i].ps.length := by omega
  rw [k0_at e0]
  simp [fr55, st55, box25, zeroB, rowF, lp56_0, code56, Tryz.f56, hlt, e0, hw, z25', buildSliceD, elsD, one_int, one_str, one_sl, one_enc, len_enc, all_one, appendD, srcD, Hp.live, zok25, fits_enc, hby, splice]
theorem cut55 (m : Val) (out : List Val) (F : Fr) : cutD ⟨0, 0⟩ [1, 2, 3, 4] 2 1 F (st55 m out) = some (norm [1, 2, 3, 4] F, st55 m out) := cut_full ⟨0, 0⟩ _ F (st55 m out)

theorem loop55_ok (m : Val) (hlen : m.ps.length ≤ 1000000) (hp : ∀ p ∈ m.ps, p.pair = true) : ∀ (n i : Nat) (out : List Val) (F : Fr), n = m.ps.length - i → i ≤ m.ps.length → out.length ≤ i → norm [1, 2, 3, 4] F = fr55 out.length i →
    loopO false ⟨0, 0⟩ 56 lp56_0 2 1 F (st55 m out) = some (.exit 0, fr55 (out ++ (m.ps.drop i).map Val.k0).length m.ps.length ++ [(9, .p (.bool false))], st55 m (out ++ (m.ps.drop i).map Val.k0)) := by
  intro n
  induction n with
  | zero =>
    intro i out F hn hi ho hF
    have hie : i = m.ps.length := by omega
    subst hie
    rw [loopO_eq, hd56_0, cut55, hF]
    simp only [body55_end, List.drop_length, List.map_nil, List.append_nil]
  | succ n ih =>
    intro i out F hn hi ho hF
    have hlt : i < m.ps.length := by omega
    rw [loopO_eq, hd56_0, cut55, hF, List.drop_eq_getElem_cons hlt]
    simp only [body55_step m out i hlt hlen ho (hp _ (List.getElem_mem hlt))]
    rw [ih (i + 1) _ _ (by omega) (by omega) (by simp; omega) rfl]
    simp only [List.map_cons, List.append_assoc, List.singleton_append]

theorem keys55_W (m : Val) (hlen : m.ps.length ≤ 200000) (hf : m.fine) (hp : ∀ p ∈ m.ps, p.pair = true) (H : Hp) : W 56 [.p (enc m)] H = some (.ret (.p (enc (setV (foldW [] (m.ps.map Val.k0))))), H) := by
  refine W56_of rfl (by simp) ?_
  have hloop := loop55_ok m (by omega) hp m.ps.length 0 [] (fr55 0 0) rfl (Nat.zero_le _) (Nat.le_refl _) rfl
  have h00 : ((0 : Nat) : Int) = 0 := rfl
  rw [List.drop_zero, List.nil_append] at hloop
  have h61 := fun H => set61_W (m.ps.map Val.k0) (by simp; omega) (fun u hu => by
    obtain ⟨p, hp', rfl⟩ := List.mem_map.1 hu
    exact fine_mem (fine_mem hf _ hp') _ (k0_mem (hp p hp'))) H
  generalize m.ps.map Val.k0 = out at *
  simp only [lp56_0, code56, Tryz.f56, fr55, st55, box25, zeroB, rowF, h00, List.length_nil, List.map_nil, decide_true] at hloop
  rw [enc_set] at h61 ⊢
  have key : ∃ A, E false ⟨0, 0⟩ 56 code56 (mkF 0 [.p (enc m)]) H00 = some (.ret, [(2, .ptr 1 0)], ⟨[box25 m, box25 (setV (foldW [] out))], A⟩) :=
    ⟨_, by simp [code56, Tryz.f56, box25, zeroB, rowF, newRow, z25', hloop, h61, splice, Hp.live]; rfl⟩
  obtain ⟨A, key⟩ := key
  rw [key]
  simp [fnOut, retOut, resD, retsD, retD, oneD, D.noRefs, D.noRef, alone, Hp.cut, box25]

/-! ### Lay -/
def fr57 (d : D) (i : Nat) : Fr := [(3, .ptr 0 0), (4, .ptr 1 0), (6, .ptr 3 0), (7, d), (8, .p (.int .i64 i))]
def B57 (m key v : Val) : List Blk := [box25 m, box25 key, box25 v, zeroB]
def rowJ (n : Nat) (l : List Val) : Arr := ⟨n, 25, 4, false, true, l.map enc⟩
theorem body57_end (m key v : Val) (d : D) (A : List Arr) : E false ⟨0, 0⟩ 58 lp58_0 (fr57 d m.ps.length) ⟨B57 m key v, A⟩ = some (.exit 0, fr57 d m.ps.length ++ [(17, .p (.bool false))], ⟨B57 m key v, A⟩) := by
  simp [fr57, B57, box25, zeroB, lp58_0, code58, Tryz.f58]

theorem body57_skip (m key v : Val) (d : D) (A : List Arr) (i : Nat) (hlt : i < m.ps.length) (hlen : m.ps.length ≤ 1000000) (hp : m.ps[i].pair = true)
    (hr : ∀ H, W 33 [.p (enc m.ps[i].k0), .p (enc key)] H = some (.ret (.p (.int .i64 0)), H)) :
    E false ⟨0, 0⟩ 58 lp58_0 (fr57 d i) ⟨B57 m key v, A⟩ = some (.normal, fr57 d (i + 1), ⟨B57 m key v, A⟩) := by
  have hw : IntKind.i64.wrap ((i : Int) + 1) = (i : Int) + 1 := wrap64 (by omega) (by omega)
  have h2 := (pair_two hp).2
  have e0 : 0 < m.ps[i].ps.length := by omega
  rw [k0_at e0] at hr
  simp [fr57, B57, box25, zeroB, lp58_0, code58, Tryz.f58, hlt, e0, hw, hr]

theorem body57_first (m key v pr : Val) (i : Nat) (hlt : i < m.ps.length) (hlen : m.ps.length ≤ 1000000) (hp : m.ps[i].pair = true) (c : Int) (hc : c ≠ 0)
    (hr : ∀ H, W 33 [.p (enc m.ps[i].k0), .p (enc key)] H = some (.ret (.p (.int .i64 c)), H)) :
    E false ⟨0, 0⟩ 58 lp58_0 (fr57 (.lit false [enc pr]) i) ⟨B57 m key v, []⟩ = some (.normal, fr57 (.own 0 0) (i + 1), ⟨B57 m key v, [rowJ 0 [pr, m.ps[i]]]⟩) := by
  have hw : IntKind.i64.wrap ((i : Int) + 1) = (i : Int) + 1 := wrap64 (by omega) (by omega)
  have h2 := (pair_two hp).2
  have e0 : 0 < m.ps[i].ps.length := by omega
  rw [k0_at e0] at hr
  simp [fr57, B57, box25, zeroB, rowJ, lp58_0, code58, Tryz.f58, hlt, e0, hw, hr, hc, z25', buildSliceD, elsD, one_int, one_str, one_sl, one_enc, len_enc, all_one, appendD, srcD, Hp.live, zok25, fits_enc, splice, newRow]

theorem body57_next (m key v : Val) (n : Nat) (l : List Val) (hl : l.length ≤ 2000000) (hne : l ≠ []) (i : Nat) (hlt : i < m.ps.length) (hlen : m.ps.length ≤ 1000000) (hp : m.ps[i].pair = true) (c : Int) (hc : c ≠ 0)
    (hr : ∀ H, W 33 [.p (enc m.ps[i].k0), .p (enc key)] H = some (.ret (.p (.int .i64 c)), H)) :
    E false ⟨0, 0⟩ 58 lp58_0 (fr57 (.own 0 n) i) ⟨B57 m key v, [rowJ n l]⟩ = some (.normal, fr57 (.own 0 (n + 1)) (i + 1), ⟨B57 m key v, [rowJ (n + 1) (l ++ [m.ps[i]])]⟩) := by
  have hw : IntKind.i64.wrap ((i : Int) + 1) = (i : Int) + 1 := wrap64 (by omega) (by omega)
  have h2 := (pair_two hp).2
  have e0 : 0 < m.ps[i].ps.length := by omega
  have hby : (l.length + 1) * 56 ≤ 140737488355328 := by omega
  rw [k0_at e0] at hr
  simp [fr57, B57, box25, zeroB, rowJ, lp58_0, code58, Tryz.f58, hlt, e0, hw, hr, hc, z25', buildSliceD, elsD, one_int, one_str, one_sl, one_enc, len_enc, all_one, appendD, srcD, Hp.live, zok25, fits_enc, splice, hby, hne]

theorem cut57 (m key v : Val) (d : D) (A : List Arr) (i : Nat) (F : Fr) (hF : norm [3, 4, 6, 7, 8] F = fr57 d i) (hd : D.noRef 4 0 d = true → A = []) : cutD ⟨0, 0⟩ [3, 4, 6, 7, 8] 4 0 F ⟨B57 m key v, A⟩ = some (fr57 d i, ⟨B57 m key v, A⟩) := by
  simp only [cutD, hF]
  split
  · rename_i h
    have : D.noRef 4 0 d = true := by
      have h := h.1
      simp [fr57, frNo, D.noRef] at h
      exact h
    rw [hd this]
    simp [Hp.cut, B57]
  · rfl

/-- The pairs with other keys. -/
def lessK (key : Val) (l : List Val) : List Val := l.filter fun p => decide (p.k0.cmp key ≠ 0)
theorem lessK_cons (key p : Val) (l : List Val) : lessK key (p :: l) = if p.k0.cmp key = 0 then lessK key l else p :: lessK key l := by
  unfold lessK
  rw [List.filter_cons]
  by_cases h : p.k0.cmp key = 0 <;> simp [h]

theorem loop57_own (m key v : Val) (hlen : m.ps.length ≤ 1000000) (hf : m.fine) (hp : ∀ p ∈ m.ps, p.pair = true) : ∀ (k i n : Nat) (l : List Val) (F : Fr), k = m.ps.length - i → i ≤ m.ps.length → l.length ≤ i + 2 → l ≠ [] → norm [3, 4, 6, 7, 8] F = fr57 (.own 0 n) i →
    ∃ n', loopO false ⟨0, 0⟩ 58 lp58_0 4 0 F ⟨B57 m key v, [rowJ n l]⟩ = some (.exit 0, fr57 (.own 0 n') m.ps.length ++ [(17, .p (.bool false))], ⟨B57 m key v, [rowJ n' (l ++ lessK key (m.ps.drop i))]⟩) := by
  intro k
  induction k with
  | zero =>
    intro i n l F hk hi hl hne hF
    have hie : i = m.ps.length := by omega
    subst hie
    refine ⟨n, ?_⟩
    rw [loopO_eq, hd58_0, cut57 m key v _ _ _ F hF (by simp [D.noRef])]
    simp only [body57_end, List.drop_length, lessK, List.filter_nil, List.append_nil]
  | succ k ih =>
    intro i n l F hk hi hl hne hF
    have hlt : i < m.ps.length := by omega
    have hmem := List.getElem_mem hlt
    rw [loopO_eq, hd58_0, cut57 m key v _ _ _ F hF (by simp [D.noRef]), List.drop_eq_getElem_cons hlt, lessK_cons]
    have hr := fun H => cmp_W m.ps[i].k0 (fine_mem (fine_mem hf _ hmem) _ (k0_mem (hp _ hmem))) key H
    by_cases hc : m.ps[i].k0.cmp key = 0
    · rw [hc] at hr
      simp only [if_pos hc, body57_skip m key v _ _ i hlt hlen (hp _ hmem) hr]
      exact ih (i + 1) n l _ (by omega) (by omega) (by omega) hne rfl
    · simp only [if_neg hc, body57_next m key v n l (by omega) hne i hlt hlen (hp _ hmem) _ hc hr]
      obtain ⟨n', h⟩ := ih (i + 1) (n + 1) (l ++ [m.ps[i]]) (fr57 (.own 0 (n + 1)) (i + 1)) (by omega) (by omega) (by simp; omega) (by simp) rfl
      exact ⟨n', by rw [h]; simp only [List.append_assoc, List.singleton_append]⟩

theorem loop57_ok (m key v pr : Val) (hlen : m.ps.length ≤ 1000000) (hf : m.fine) (hp : ∀ p ∈ m.ps, p.pair = true) : ∀ (k i : Nat) (F : Fr), k = m.ps.length - i → i ≤ m.ps.length → norm [3, 4, 6, 7, 8] F = fr57 (.lit false [enc pr]) i →
    (lessK key (m.ps.drop i) = [] ∧ loopO false ⟨0, 0⟩ 58 lp58_0 4 0 F ⟨B57 m key v, []⟩ = some (.exit 0, fr57 (.lit false [enc pr]) m.ps.length ++ [(17, .p (.bool false))], ⟨B57 m key v, []⟩)) ∨
    ∃ n', loopO false ⟨0, 0⟩ 58 lp58_0 4 0 F ⟨B57 m key v, []⟩ = some (.exit 0, fr57 (.own 0 n') m.ps.length ++ [(17, .p (.bool false))], ⟨B57 m key v, [rowJ n' (pr :: lessK key (m.ps.drop i))]⟩) := by
  intro k
  induction k with
  | zero =>
    intro i F hk hi hF
    have hie : i = m.ps.length := by omega
    subst hie
    left
    rw [loopO_eq, hd58_0, cut57 m key v _ _ _ F hF (fun _ => rfl)]
    simp only [body57_end, List.drop_length, lessK, List.filter_nil, and_self]
  | succ k ih =>
    intro i F hk hi hF
    have hlt : i < m.ps.length := by omega
    have hmem := List.getElem_mem hlt
    rw [loopO_eq, hd58_0, cut57 m key v _ _ _ F hF (fun _ => rfl), List.drop_eq_getElem_cons hlt, lessK_cons]
    have hr := fun H => cmp_W m.ps[i].k0 (fine_mem (fine_mem hf _ hmem) _ (k0_mem (hp _ hmem))) key H
    by_cases hc : m.ps[i].k0.cmp key = 0
    · rw [hc] at hr
      simp only [if_pos hc, body57_skip m key v _ _ i hlt hlen (hp _ hmem) hr]
      exact ih (i + 1) _ (by omega) (by omega) rfl
    · right
      simp only [if_neg hc, body57_first m key v pr i hlt hlen (hp _ hmem) _ hc hr]
      exact loop57_own m key v hlen hf hp k (i + 1) 0 [pr, m.ps[i]] _ (by omega) (by omega) (by simp) (by simp) rfl

theorem lay57_W (m key v : Val) (hlen : m.ps.length ≤ 200000) (hf : m.fine) (hfk : key.fine) (hfv : v.fine) (hp : ∀ p ∈ m.ps, p.pair = true) (H : Hp) :
    W 58 [.p (enc m), .p (enc key), .p (enc v)] H = some (.ret (.p (enc (setV (foldW [] (tupV [key, v] :: lessK key m.ps))))), H) := by
  refine W58_of rfl (by simp) ?_
  have h00 : ((0 : Nat) : Int) = 0 := rfl
  have hfp : (tupV [key, v]).fine := ⟨by simp, hfk, hfv, trivial⟩
  have h104 := fun H => pair104_W key v H
  have h61 := fun H => set61_W (tupV [key, v] :: lessK key m.ps) (by have : (lessK key m.ps).length ≤ m.ps.length := List.length_filter_le _ _; simp; omega) (fun u hu => by
    rcases List.mem_cons.1 hu with e | hu
    · rw [e]; exact hfp
    · exact fine_mem hf _ (List.mem_filter.1 hu).1) H
  generalize hpr : tupV [key, v] = pr at *
  have hloop := loop57_ok m key v pr (by omega) hf hp m.ps.length 0 (fr57 (.lit false [enc pr]) 0) rfl (Nat.zero_le _) rfl
  rw [List.drop_zero] at hloop
  generalize lessK key m.ps = out at *
  rw [enc_set] at h61 ⊢
  simp only [List.map_cons] at h61
  suffices key' : ∃ A, E false ⟨0, 0⟩ 58 code58 (mkF 0 [.p (enc m), .p (enc key), .p (enc v)]) H00 = some (.ret, [(6, .ptr 3 0)], ⟨[box25 m, box25 key, box25 v, box25 (setV (foldW [] (pr :: out)))], A⟩) by
    obtain ⟨A, key'⟩ := key'
    rw [key']
    simp [fnOut, retOut, resD, retsD, retD, oneD, D.noRefs, D.noRef, alone, Hp.cut, box25]
  rcases hloop with ⟨rfl, hloop⟩ | ⟨n', hloop⟩
  · simp only [lp58_0, code58, Tryz.f58, fr57, B57, box25, zeroB, rowJ, h00] at hloop
    simp only [List.map_nil] at h61
    exact ⟨_, by simp [code58, Tryz.f58, box25, zeroB, z25', h104, hloop, h61, splice, buildSliceD, elsD, one_int, one_str, one_sl, one_enc, len_enc, all_one]; rfl⟩
  · simp only [lp58_0, code58, Tryz.f58, fr57, B57, box25, zeroB, rowJ, h00, List.map_cons] at hloop
    exact ⟨_, by simp [code58, Tryz.f58, box25, zeroB, z25', h104, hloop, h61, splice, buildSliceD, elsD, one_int, one_str, one_sl, one_enc, len_enc, all_one, Hp.live]; rfl⟩
end Go.Vi
end

section
/- Vi: maps: slices.SortFunc (f103) of values, value.Keys (f53). No conditions. -/
namespace Go.Vi
open Go Go.Lib Go.Proofs
set_option maxRecDepth 100000
attribute [local simp] E_skip E_ret E_exit E_text E_draw E_seq E_cond E_block E_scope E_loop runOps runOp runDraw runVF runV finV gate FlOK wantD exec fin opd look putF norm constD constC fieldAddrD loadD storeD opCall lenD binD isShift intP strP numD indexAddrD indexD D.pd? D.pds? cells_enc sub capsOf callD argsD argD D.nf enc_agg unP box_enc cellD mkF H00 st1 cD_agg cD_pagg cD_int cD_bool cD_str cD_sl cD_lit

theorem W_x {f : FuncId} (hf : f < YB) (hx : isX f = true) {args : List D} {H : Hp} {r : Out × Hp} (h : doesX W f args H = some r) : W f args H = some r := by
  refine calW_of ?_
  unfold calF
  rw [if_neg (Nat.not_le.2 hf), if_pos (show others.is f = true from hx)]
  exact h

theorem cmpV_enc (a b : Val) (ha : a.fine) (sa : a.shaped = true) (sb : b.shaped = true) : cmpV W 84 (enc a) (enc b) = a.cmp b := by
  unfold cmpV
  rw [less_W a b ha sa sb]

theorem sortOK_enc (l : List Val) (hl : l.length < 4611686018427387904) (hf : ∀ u ∈ l, u.fine) (hs : Shp l) : SortOK W 84 (l.map enc) where
  few := by decide
  len := by simpa using hl
  sh x hx := by
    obtain ⟨u, _, rfl⟩ := List.mem_map.1 hx
    exact ⟨_, _, _, _, enc_eq u, rfl, rfl, rfl, rfl⟩
  cal x hx y hy := by
    obtain ⟨u, hu, rfl⟩ := List.mem_map.1 hx
    obtain ⟨v, hv, rfl⟩ := List.mem_map.1 hy
    rw [cmpV_enc u v (hf u hu) (hs u hu) (hs v hv), less_W u v (hf u hu) (hs u hu) (hs v hv)]
  irr x hx := by
    obtain ⟨u, hu, rfl⟩ := List.mem_map.1 hx
    rw [cmpV_enc u u (hf u hu) (hs u hu) (hs u hu), cmp_self (hs u hu)]; decide
  tr x hx y hy z hz := by
    obtain ⟨u, hu, rfl⟩ := List.mem_map.1 hx
    obtain ⟨v, hv, rfl⟩ := List.mem_map.1 hy
    obtain ⟨t, ht, rfl⟩ := List.mem_map.1 hz
    rw [cmpV_enc u v (hf u hu) (hs u hu) (hs v hv), cmpV_enc v t (hf v hv) (hs v hv) (hs t ht), cmpV_enc u t (hf u hu) (hs u hu) (hs t ht)]
    exact cmp_trans u v t (hs u hu) (hs v hv) (hs t ht)
  ntr x hx y hy z hz := by
    obtain ⟨u, hu, rfl⟩ := List.mem_map.1 hx
    obtain ⟨v, hv, rfl⟩ := List.mem_map.1 hy
    obtain ⟨t, ht, rfl⟩ := List.mem_map.1 hz
    rw [cmpV_enc u v (hf u hu) (hs u hu) (hs v hv), cmpV_enc v t (hf v hv) (hs v hv) (hs t ht), cmpV_enc u t (hf u hu) (hs u hu) (hs t ht)]
    intro h1 h2 h3
    have a1 := cmp_anti u v (hs u hu) (hs v hv)
    have a2 := cmp_anti v t (hs v hv) (hs t ht)
    by_cases e1 : u.cmp v = 0
    · rw [(cmp_zero u v (hs u hu) (hs v hv)).1 e1] at h3; exact h2 h3
    · have k1 : v.cmp u < 0 := by omega
      have := cmp_trans v u t (hs v hv) (hs u hu) (hs t ht) k1 h3
      exact h2 this
  anti x hx y hy := by
    obtain ⟨u, hu, rfl⟩ := List.mem_map.1 hx
    obtain ⟨v, hv, rfl⟩ := List.mem_map.1 hy
    rw [cmpV_enc u v (hf u hu) (hs u hu) (hs v hv), cmpV_enc v u (hf v hv) (hs v hv) (hs u hu)]
    intro h1 h2
    have a1 := cmp_anti u v (hs u hu) (hs v hv)
    rw [(cmp_zero u v (hs u hu) (hs v hv)).1 (by omega)]

/-- Sorting gives the one list that is increasing. -/
theorem sortL_enc (l l' : List Val) (hl : l.length < 4611686018427387904) (hf : ∀ u ∈ l, u.fine) (hs : Shp l) (hp : l'.Perm l) (hu : Up l') : sortL W 84 (l.map enc) = l'.map enc := by
  refine sortL_eq (sortOK_enc l hl hf hs) ⟨hp.map enc, ?_⟩
  rw [List.pairwise_map]
  refine hu.imp_of_mem fun {x y} hx hy h => ?_
  have hx' := hp.mem_iff.1 hx
  have hy' := hp.mem_iff.1 hy
  rw [cmpV_enc y x (hf y hy') (hs y hy') (hs x hx')]
  have := cmp_anti x y (hs x hx') (hs y hy')
  omega

theorem sort103_W (l l' : List Val) (hl : l.length < 4611686018427387904) (hf : ∀ u ∈ l, u.fine) (hs : Shp l) (hp : l'.Perm l) (hu : Up l') (B : List Blk) (n ty : Nat) (nil : Bool) :
    W 104 [.own 0 n, .p (.fn 84)] ⟨B, [⟨n, ty, 4, nil, false, l.map enc⟩]⟩ = some (.ret (.tup []), ⟨B, [⟨n, ty, 4, nil, false, l'.map enc⟩]⟩) := by
  refine W_x (by decide) rfl ?_
  show sortD W [.own 0 n, .p (.fn 84)] ⟨B, [⟨n, ty, 4, nil, false, l.map enc⟩]⟩ = _
  simp only [sortD, Hp.live, List.getElem?_cons_zero, if_true]
  by_cases h0 : l.map enc = []
  · rw [if_pos h0]
    have : l = [] := by simpa using h0
    subst this
    rw [hp.eq_nil]
  · rw [if_neg h0, if_pos ⟨sortOK_enc l hl hf hs, by trivial⟩, sortL_enc l l' hl hf hs hp hu]
    rfl

def rowK (l : List Val) : Arr := ⟨l.length, 25, 4, decide (l.length = 0), false, l.map enc⟩
def fr53 (m : Val) (n i : Nat) : Fr := [(2, .ptr 1 0), (4, .own 0 n), (12, .p (.sl (m.ps.map enc))), (13, .p (.int .i64 m.ps.length)), (14, .p (.int .i64 i))]
theorem body53_end (m : Val) (out : List Val) (B : List Blk) : E true ⟨0, 0⟩ 54 lp54_0 (fr53 m out.length m.ps.length) ⟨box25 m :: zeroB :: B, [rowK out]⟩ = some (.exit 0, fr53 m out.length m.ps.length ++ [(15, .p (.bool false))], ⟨box25 m :: zeroB :: B, [rowK out]⟩) := by
  simp [fr53, lp54_0, code54, Tryz.f54]
theorem body53_step (m : Val) (out : List Val) (i : Nat) (hlt : i < m.ps.length) (hlen : m.ps.length ≤ 1000000) (hout : out.length ≤ i) (hp : m.ps[i].pair = true) :
    E true ⟨0, 0⟩ 54 lp54_0 (fr53 m out.length i) ⟨[box25 m, zeroB], [rowK out]⟩ = some (.normal, fr53 m (out ++ [m.ps[i].k0]).length (i + 1), ⟨[box25 m, zeroB, box25 m.ps[i]], [rowK (out ++ [m.ps[i].k0])]⟩) := by
  have hw : IntKind.i64.wrap ((i : Int) + 1) = (i : Int) + 1 := wrap64 (by omega) (by omega)
  have hby : (out.length + 1) * 56 ≤ 140737488355328 := by omega
  have h2 := (pair_two hp).2
  have e0 : 0 < m.ps[i].ps.length := by omega
  rw [k0_at e0]
  simp [fr53, box25, zeroB, rowK, lp54_0, code54, Tryz.f54, hlt, e0, hw, z25', buildSliceD, elsD, one_int, one_str, one_sl, one_enc, len_enc, all_one, appendD, srcD, Hp.live, zok25, fits_enc, hby, splice]

theorem cut53 (m : Val) (out : List Val) (i : Nat) (F : Fr) (B : List Blk) (hF : norm [2, 4, 12, 13, 14] F = fr53 m out.length i) : cutD ⟨0, 0⟩ [2, 4, 12, 13, 14] 2 1 F ⟨box25 m :: zeroB :: B, [rowK out]⟩ = some (fr53 m out.length i, ⟨[box25 m, zeroB], [rowK out]⟩) := by
  simp only [cutD, hF]
  simp [fr53, box25, zeroB, frNo, blkNo, D.noRef, D.noRefs, Hp.cut]

theorem loop53_ok (m : Val) (hlen : m.ps.length ≤ 1000000) (hp : ∀ p ∈ m.ps, p.pair = true) : ∀ (n i : Nat) (out : List Val) (F : Fr) (B : List Blk), n = m.ps.length - i → i ≤ m.ps.length → out.length ≤ i → norm [2, 4, 12, 13, 14] F = fr53 m out.length i →
    loopO true ⟨0, 0⟩ 54 lp54_0 2 1 F ⟨box25 m :: zeroB :: B, [rowK out]⟩ = some (.exit 0, fr53 m (out ++ (m.ps.drop i).map Val.k0).length m.ps.length ++ [(15, .p (.bool false))], ⟨[box25 m, zeroB], [rowK (out ++ (m.ps.drop i).map Val.k0)]⟩) := by
  intro n
  induction n with
  | zero =>
    intro i out F B hn hi ho hF
    have hie : i = m.ps.length := by omega
    subst hie
    rw [loopO_eq, hd54_0, cut53 m out _ F B hF]
    simp only [body53_end, List.drop_length, List.map_nil, List.append_nil]
  | succ n ih =>
    intro i out F B hn hi ho hF
    have hlt : i < m.ps.length := by omega
    rw [loopO_eq, hd54_0, cut53 m out _ F B hF, List.drop_eq_getElem_cons hlt]
    simp only [body53_step m out i hlt hlen ho (hp _ (List.getElem_mem hlt))]
    rw [ih (i + 1) (out ++ [m.ps[i].k0]) (fr53 m (out ++ [m.ps[i].k0]).length (i + 1)) [box25 m.ps[i]] (by omega) (by omega) (by simp; omega) rfl]
    simp only [List.map_cons, List.append_assoc, List.singleton_append]

def Keys53 (m : Val) : List D := if m.isMap = true then Made (m.ps.map Val.k0) else [.p (enc Val.zero), .p (.int .i64 2)]

theorem nodes_keys : ∀ (l : List Val), (∀ p ∈ l, p.pair = true) → nodesL (l.map Val.k0) ≤ nodesL l
  | [], _ => by simp [nodesL]
  | p :: r, h => by
    have h1 := nodes_keys r fun q hq => h q (by simp [hq])
    have h2 := nodes_eq p
    rw [pair_ps (h p (by simp))] at h2
    simp only [nodesL] at h2
    have h3 := nodes_pos p.k1
    simp only [List.map_cons, nodesL]
    omega

theorem keys53_W (m : Val) (H : Hp) : W 54 [.p (enc m)] H = some (.ret (.tup (Keys53 m)), H) := by
  refine W54_of rfl (by simp) ?_
  have h98 := fun H => isMap98_W m H
  have h00 : ((0 : Nat) : Int) = 0 := rfl
  unfold Keys53
  cases hm : m.isMap with
  | false =>
    rw [hm] at h98
    have key : E true ⟨0, 0⟩ 54 code54 (mkF 0 [.p (enc m)]) H00 = some (.ret, [(2, .ptr 1 0), (3, .p (.int .i64 2))], ⟨[box25 m, zeroB], []⟩) := by
      simp [code54, Tryz.f54, box25, zeroB, h98, z25', build25, splice]
    rw [key, enc_zero]
    simp [fnOut, retOut, resD, retsD, retD, oneD, D.noRefs, D.noRef, alone, Hp.cut, box25, zeroB]
  | true =>
    rw [hm] at h98
    obtain ⟨hs, hk⟩ := isMap_keyed hm
    obtain ⟨hvm, _⟩ := isSet_valid hs
    have hl := valid_len hvm
    obtain ⟨p1, p2, p3⟩ := valid_parts hvm
    have hnod := nodes_keys m.ps hk.pair
    have hn1 := ((valid_iff m).1 hvm).1.1
    rw [nodes_eq m] at hn1
    have hloop := loop53_ok m (by omega) hk.pair m.ps.length 0 [] (fr53 m 0 0) [] rfl (Nat.zero_le _) (Nat.le_refl _) rfl
    rw [List.drop_zero, List.nil_append] at hloop
    have hsh : Shp (m.ps.map Val.k0) := fun x hx => by
      obtain ⟨p, hp', rfl⟩ := List.mem_map.1 hx
      exact k0_shaped (hk.pair p hp') (p2 p hp')
    have hfi : ∀ u ∈ m.ps.map Val.k0, u.fine := fun u hu => by
      obtain ⟨p, hp', rfl⟩ := List.mem_map.1 hu
      exact fine_mem (p1 p hp') _ (k0_mem (hk.pair p hp'))
    have h103 := fun B nil => sort103_W (m.ps.map Val.k0) (m.ps.map Val.k0) (by simp; omega) hfi hsh (List.Perm.refl _) hk.up B (m.ps.map Val.k0).length 25 nil
    have h86 := fun H => made_W (m.ps.map Val.k0) (by omega) H
    rw [made_two] at h86 ⊢
    generalize m.ps.map Val.k0 = out at *
    simp only [lp54_0, code54, Tryz.f54, fr53, box25, zeroB, rowK, h00, List.length_nil, List.map_nil, decide_true] at hloop
    simp only [if_true]
    have key : ∃ A, E true ⟨0, 0⟩ 54 code54 (mkF 0 [.p (enc m)]) H00 = some (.ret, [(2, .ptr 1 0), (3, .p (.int .i64 (mdE out)))], ⟨[box25 m, box25 (mdV out)], A⟩) :=
      ⟨_, by simp [code54, Tryz.f54, box25, zeroB, rowK, newRow, z25', h98, hloop, h103, h86, splice, Hp.live]; rfl⟩
    obtain ⟨A, key⟩ := key
    rw [key]
    simp [fnOut, retOut, resD, retsD, retD, oneD, D.noRefs, D.noRef, alone, Hp.cut, box25]
end Go.Vi
end

section
/- Vi: maps: slices.IndexFunc (f133) and slices.DeleteFunc (f100) on a row of the call's own. No conditions. -/
namespace Go.Vi
open Go Go.Lib Go.Proofs
set_option maxRecDepth 100000
attribute [local simp] E_skip E_ret E_exit E_text E_draw E_seq E_cond E_block E_scope E_loop runOps runOp runDraw runVF runV finV gate FlOK wantD exec fin opd look putF norm constD constC fieldAddrD loadD storeD opCall lenD binD isShift intP strP numD indexAddrD indexD D.pd? D.pds? cells_enc sub capsOf callD argsD argD D.nf enc_agg unP box_enc cellD mkF H00 st1 cD_agg cD_pagg cD_int cD_bool cD_str cD_sl cD_lit cD_own

def rowD (l : List Val) : Arr := ⟨0, 25, 4, false, false, l.map enc⟩
def cloL : D := .fn 103 [.ptr 1 0]
def isK (key : Val) (u : Val) : Bool := decide (u.k0.pc key = 0)
def A2 (l : List Val) : List Arr := [rowD l, row0]

theorem setEl_enc (a b : Val) : setEl (enc a) 0 [.int .i64 b.k, .int .i64 b.n, .str b.t, .sl (b.ps.map enc)] = enc b := by
  rw [enc_eq a, enc_eq b]; rfl

theorem B57_ok (m key v : Val) (nA : Nat) : (B57 m key v).all (blkNo (B57 m key v).length nA) = true := by simp [B57, box25, zeroB, blkNo, D.noRefs, D.noRef]

theorem cloB (m key v u : Val) (h0 : 0 < u.ps.length) (hx : u.k0.fine) (A : List Arr) : W 103 [.p (enc u), .ptr 1 0] ⟨B57 m key v, A⟩ = some (.ret (.p (.bool (isK key u))), ⟨B57 m key v, A⟩) :=
  clo102_W u key h0 hx 1 (B57 m key v) A rfl (B57_ok m key v A.length)

def fr133o (n i : Nat) : Fr := [(0, .own 0 0), (1, cloL), (7, .p (.int .i64 n)), (8, .p (.int .i64 i))]
theorem body133o_end (l : List Val) (H : Hp) : E false ⟨0, 0⟩ 134 lp134_0 (fr133o l.length l.length) H = some (.exit 0, fr133o l.length l.length ++ [(9, .p (.bool false))], H) := by
  simp [fr133o, cloL, lp134_0, code134, Tryz.f134]
theorem body133o_step (l : List Val) (i : Nat) (hlt : i < l.length) (hlen : l.length < 9223372036854775807) (B : List Blk) (b : Bool)
    (hr : W 103 [.p (enc l[i]), .ptr 1 0] ⟨B, A2 l⟩ = some (.ret (.p (.bool b)), ⟨B, A2 l⟩)) :
    E false ⟨0, 0⟩ 134 lp134_0 (fr133o l.length i) ⟨B, A2 l⟩ = if b = true then some (.ret, [(4, .p (.int .i64 i))], ⟨B, A2 l⟩) else some (.normal, fr133o l.length (i + 1), ⟨B, A2 l⟩) := by
  have hw : IntKind.i64.wrap ((i : Int) + 1) = (i : Int) + 1 := wrap64 (by omega) (by omega)
  simp only [A2, rowD, row0] at hr ⊢
  cases b <;> simp [fr133o, cloL, lp134_0, code134, Tryz.f134, hlt, hr, hw, Hp.live]

theorem loop133o_ok (l : List Val) (hlen : l.length < 9223372036854775807) (B : List Blk) (p : Val → Bool)
    (hr : ∀ u ∈ l, W 103 [.p (enc u), .ptr 1 0] ⟨B, A2 l⟩ = some (.ret (.p (.bool (p u))), ⟨B, A2 l⟩)) : ∀ (m i : Nat) (F : Fr), m = l.length - i → i ≤ l.length → norm [0, 1, 7, 8] F = fr133o l.length i →
    loopO false ⟨0, 0⟩ 134 lp134_0 B.length 2 F ⟨B, A2 l⟩ = if idxP p (l.drop i) i = -1 then some (.exit 0, fr133o l.length l.length ++ [(9, .p (.bool false))], ⟨B, A2 l⟩)
      else some (.ret, [(4, .p (.int .i64 (idxP p (l.drop i) i)))], ⟨B, A2 l⟩) := by
  intro m
  induction m with
  | zero =>
    intro i F hm hi hF
    have hie : i = l.length := by omega
    subst hie
    rw [loopO_eq, hd134_0, show cutD ⟨0, 0⟩ [0, 1, 7, 8] B.length 2 F ⟨B, A2 l⟩ = some (norm [0, 1, 7, 8] F, ⟨B, A2 l⟩) from cut_full _ _ _ ⟨B, A2 l⟩, hF]
    simp only [body133o_end, List.drop_length, idxP, if_true]
  | succ m ih =>
    intro i F hm hi hF
    have hlt : i < l.length := by omega
    rw [loopO_eq, hd134_0, show cutD ⟨0, 0⟩ [0, 1, 7, 8] B.length 2 F ⟨B, A2 l⟩ = some (norm [0, 1, 7, 8] F, ⟨B, A2 l⟩) from cut_full _ _ _ ⟨B, A2 l⟩, hF, List.drop_eq_getElem_cons hlt, idxP]
    simp only [body133o_step l i hlt hlen B _ (hr l[i] (List.getElem_mem hlt))]
    cases hb : p l[i] with
    | true =>
      have : ¬ (i : Int) = -1 := by omega
      simp only [if_true, if_neg this]
    | false =>
      simp only [Bool.false_eq_true, if_false]
      exact ih (i + 1) (fr133o l.length (i + 1)) (by omega) (by omega) rfl

theorem idx133_WO (l : List Val) (hlen : l.length < 9223372036854775807) (B : List Blk) (hB : B.all (blkNo B.length 2) = true) (p : Val → Bool)
    (hr : ∀ u ∈ l, W 103 [.p (enc u), .ptr 1 0] ⟨B, A2 l⟩ = some (.ret (.p (.bool (p u))), ⟨B, A2 l⟩)) :
    W 134 [.own 0 0, cloL] ⟨B, A2 l⟩ = some (.ret (.p (.int .i64 (idxP p l 0))), ⟨B, A2 l⟩) := by
  refine W_ofH Tryz.func134 rfl (by kernel_rfl) rfl (by simp [D.noRef, D.noRefs]) (by rw [Tryz.ntmps134]; simp) ?_
  rw [show Tryz.f134.results.toList = [.tmp 4] from rs134]
  have hloop := loop133o_ok l hlen B p hr l.length 0 (fr133o l.length 0) rfl (Nat.zero_le _) rfl
  have h00 : ((0 : Nat) : Int) = 0 := rfl
  have key : E false ⟨0, 0⟩ 134 code134 (mkF 0 [.own 0 0, cloL]) ⟨B, A2 l⟩ = some (.ret, [(4, .p (.int .i64 (idxP p l 0)))], ⟨B, A2 l⟩) := by
    simp only [lp134_0, code134, Tryz.f134, fr133o, h00, List.drop_zero, cloL, A2, rowD, row0] at hloop
    simp only [cloL, A2, rowD, row0]
    by_cases he : idxP p l 0 = -1
    · simp only [he, if_true] at hloop
      simp [code134, Tryz.f134, Hp.live, hloop, he]
    · simp only [he, if_false] at hloop
      simp [code134, Tryz.f134, Hp.live, hloop]
  refine (congrArg (fnOut Tryz.prog [.tmp 4] B.length (A2 l).length) key).trans ?_
  simp only [fnOut, retOut, resD, look, if_true, retsD, retD, argD, D.nf, D.pd?, Bool.false_eq_true, if_false, oneD]
  split
  · simp [Hp.cut]
  · rfl

/-! ### DeleteFunc -/
def fr100 (i j : Nat) : Fr := [(0, .own 0 0), (1, cloL), (5, .p (.int .i64 i)), (6, .p (.int .i64 j))]
theorem body100_end (m key v : Val) (es : List Val) (i : Nat) : E false ⟨0, 0⟩ 101 lp101_0 (fr100 i es.length) ⟨B57 m key v, A2 es⟩ = some (.exit 0, fr100 i es.length ++ [(19, .p (.bool false))], ⟨B57 m key v, A2 es⟩) := by
  simp [fr100, cloL, A2, rowD, row0, lp101_0, code101, Tryz.f101, Hp.live]

theorem body100_step (m key v : Val) (es : List Val) (i j : Nat) (hij : i ≤ j) (hlt : j < es.length) (hlen : es.length < 9223372036854775807) (b : Bool)
    (hr : W 103 [.p (enc es[j]), .ptr 1 0] ⟨B57 m key v ++ [box25 es[j]], A2 es⟩ = some (.ret (.p (.bool b)), ⟨B57 m key v ++ [box25 es[j]], A2 es⟩)) :
    E false ⟨0, 0⟩ 101 lp101_0 (fr100 i j) ⟨B57 m key v, A2 es⟩ = some (.normal, fr100 (if b = true then i else i + 1) (j + 1), ⟨B57 m key v ++ [box25 es[j]], A2 (if b = true then es else es.set i es[j])⟩) := by
  have hw : IntKind.i64.wrap ((i : Int) + 1) = (i : Int) + 1 := wrap64 (by omega) (by omega)
  have hwj : IntKind.i64.wrap ((j : Int) + 1) = (j : Int) + 1 := wrap64 (by omega) (by omega)
  have hil : i < es.length := by omega
  have hse := setEl_enc es[i] es[j]
  simp only [A2, rowD, row0, B57, box25, zeroB] at hr ⊢
  simp only [List.cons_append, List.nil_append] at hr ⊢
  cases b
  · simp [fr100, cloL, lp101_0, code101, Tryz.f101, hlt, hil, hr, hw, hwj, Hp.live, z25', splice, hse, List.map_set, one_int, one_str, one_sl]
  · simp [fr100, cloL, lp101_0, code101, Tryz.f101, hlt, hil, hr, hw, hwj, Hp.live, z25', splice]
end Go.Vi
end

section
/- Vi: maps: slices.DeleteFunc (f100), slices.Clone (f101), as value.Lay calls them. No conditions. -/
namespace Go.Vi
open Go Go.Lib Go.Proofs
set_option maxRecDepth 100000
attribute [local simp] E_skip E_ret E_exit E_text E_draw E_seq E_cond E_block E_scope E_loop runOps runOp runDraw runVF runV finV gate FlOK wantD exec fin opd look putF norm constD constC fieldAddrD loadD storeD opCall lenD binD isShift intP strP numD indexAddrD indexD D.pd? D.pds? cells_enc sub capsOf callD argsD argD D.nf enc_agg unP box_enc cellD mkF H00 st1 cD_agg cD_pagg cD_int cD_bool cD_str cD_sl cD_lit cD_own

def delL (key : Val) (l : List Val) : List Val := l.filter fun u => !isK key u
theorem delL_cons (key u : Val) (l : List Val) : delL key (u :: l) = if isK key u = true then delL key l else u :: delL key l := by
  unfold delL
  rw [List.filter_cons]
  cases isK key u <;> rfl

theorem cut100 (m key v : Val) (es : List Val) (i j : Nat) (F : Fr) (B : List Blk) (hF : norm [0, 1, 5, 6] F = fr100 i j) : cutD ⟨0, 0⟩ [0, 1, 5, 6] 4 2 F ⟨B57 m key v ++ B, A2 es⟩ = some (fr100 i j, ⟨B57 m key v, A2 es⟩) := by
  simp only [cutD, hF]
  simp [fr100, cloL, A2, B57, box25, zeroB, frNo, blkNo, D.noRef, D.noRefs, Hp.cut]

theorem loop100_ok (m key v : Val) : ∀ (k : Nat) (es : List Val) (i j : Nat) (F : Fr) (B : List Blk), k = es.length - j → i ≤ j → j ≤ es.length → es.length < 9223372036854775807 → (∀ u ∈ es, 0 < u.ps.length ∧ u.k0.fine) → norm [0, 1, 5, 6] F = fr100 i j →
    ∃ es' i', loopO false ⟨0, 0⟩ 101 lp101_0 4 2 F ⟨B57 m key v ++ B, A2 es⟩ = some (.exit 0, fr100 i' es.length ++ [(19, .p (.bool false))], ⟨B57 m key v, A2 es'⟩) ∧
      es'.length = es.length ∧ es'.take i' = es.take i ++ delL key (es.drop j) ∧ i' ≤ i + (es.length - j) := by
  intro k
  induction k with
  | zero =>
    intro es i j F B hk hij hj hlen hes hF
    have hje : j = es.length := by omega
    subst hje
    refine ⟨es, i, ?_, rfl, by simp [delL], by omega⟩
    rw [loopO_eq, hd101_0, cut100 m key v es i _ F B hF]
    simp only [body100_end]
  | succ k ih =>
    intro es i j F B hk hij hj hlen hes hF
    have hlt : j < es.length := by omega
    have hmem := List.getElem_mem hlt
    rw [loopO_eq, hd101_0, cut100 m key v es i _ F B hF]
    have hr : W 103 [.p (enc es[j]), .ptr 1 0] ⟨B57 m key v ++ [box25 es[j]], A2 es⟩ = some (.ret (.p (.bool (isK key es[j]))), ⟨B57 m key v ++ [box25 es[j]], A2 es⟩) :=
      clo102_W es[j] key (hes _ hmem).1 (hes _ hmem).2 1 (B57 m key v ++ [box25 es[j]]) (A2 es) rfl (by simp [B57, box25, zeroB, blkNo, D.noRefs, D.noRef])
    simp only [body100_step m key v es i j hij hlt hlen _ hr]
    rw [List.drop_eq_getElem_cons hlt, delL_cons]
    cases hb : isK key es[j] with
    | true =>
      simp only [if_true]
      obtain ⟨es', i', h1, h2, h3, h4⟩ := ih es i (j + 1) (fr100 i (j + 1)) [box25 es[j]] (by omega) (by omega) (by omega) hlen hes rfl
      exact ⟨es', i', h1, h2, h3, by omega⟩
    | false =>
      simp only [Bool.false_eq_true, if_false]
      have hl : (es.set i es[j]).length = es.length := by simp
      obtain ⟨es', i', h1, h2, h3, h4⟩ := ih (es.set i es[j]) (i + 1) (j + 1) (fr100 (i + 1) (j + 1)) [box25 es[j]] (by rw [hl]; omega) (by omega) (by rw [hl]; omega) (by rw [hl]; exact hlen) (fun u hu => by
        rcases List.mem_or_eq_of_mem_set hu with h | h
        · exact hes u h
        · rw [h]; exact hes _ hmem) rfl
      rw [hl] at h1 h2 h4
      refine ⟨es', i', h1, h2, ?_, by omega⟩
      rw [h3, List.drop_set_of_lt (by omega), List.take_succ_eq_append_getElem (by simp; omega), List.take_set_of_le (Nat.le_refl i), List.getElem_set_self, List.append_assoc]
      rfl

theorem idx_split (p : Val → Bool) : ∀ (l : List Val) (j : Nat), (idxP p l j = -1 ∧ l.filter (fun u => !p u) = l) ∨
    ∃ i, i < l.length ∧ idxP p l j = ((i + j : Nat) : Int) ∧ l.filter (fun u => !p u) = l.take i ++ (l.drop (i + 1)).filter fun u => !p u
  | [], j => .inl ⟨rfl, rfl⟩
  | u :: r, j => by
    simp only [idxP]
    cases hp : p u with
    | true => exact .inr ⟨0, by simp, by simp, by simp [List.filter_cons, hp]⟩
    | false =>
      simp only [Bool.false_eq_true, if_false]
      rcases idx_split p r (j + 1) with ⟨h1, h2⟩ | ⟨i, h1, h2, h3⟩
      · exact .inl ⟨h1, by simp [List.filter_cons, hp, h2]⟩
      · exact .inr ⟨i + 1, by simp; omega, by rw [h2]; congr 1; omega, by simp [List.filter_cons, hp, h3]⟩

theorem delete_W (m key v : Val) (l : List Val) (hlen : l.length ≤ 1000000) (hl : ∀ u ∈ l, 0 < u.ps.length ∧ u.k0.fine) :
    ∃ A, W 101 [.own 0 0, cloL] ⟨B57 m key v, [rowD l]⟩ = some (.ret (.p (.sl ((delL key l).map enc))), ⟨B57 m key v, A⟩) := by
  have h133 := idx133_WO l (by omega) (B57 m key v) (B57_ok m key v 2) (isK key) (fun u hu => cloB m key v u (hl u hu).1 (hl u hu).2 (A2 l))
  have e0 : E false ⟨0, 0⟩ 101 (delC del0 0) (mkF 0 [.own 0 0, cloL]) ⟨B57 m key v, [rowD l]⟩ = some (.normal, [(0, .own 0 0), (1, cloL)], ⟨B57 m key v, A2 l⟩) := by
    simp [delC, del0, Tryz.f101, A2, rowD, row0, newRow, cloL]
  have e1 : E false ⟨0, 0⟩ 101 (delC del0 1) [(0, .own 0 0), (1, cloL)] ⟨B57 m key v, A2 l⟩ = some (.normal, [(0, .own 0 0), (1, cloL), (5, .p (.int .i64 (idxP (isK key) l 0)))], ⟨B57 m key v, A2 l⟩) := by
    simp only [cloL, A2, rowD, row0] at h133 ⊢
    simp [delC, del0, Tryz.f101, h133, openOwn, Hp.live]
  have fin : ∀ A a, D.noRef 4 1 (.p (.sl a)) = true → retF 4 1 [(4, .p (.sl a))] ⟨B57 m key v, A⟩ = some (.ret (.p (.sl a)), ⟨B57 m key v, A.take 1⟩) := fun A a _ => by
    simp [retF, B57, box25, zeroB, blkNo, D.noRef, D.noRefs, Hp.cut]
  have hgo : W 101 [.own 0 0, cloL] ⟨B57 m key v, [rowD l]⟩ = W 101 [.own 0 0, cloL] ⟨B57 m key v, [rowD l]⟩ := rfl
  rcases idx_split (isK key) l 0 with ⟨h1, h2⟩ | ⟨i, hi, h1, h2⟩
  · refine ⟨[{ rowD l with fz := true }], W_x (by decide) rfl ?_⟩
    show deleteD W [.own 0 0, cloL] ⟨B57 m key v, [rowD l]⟩ = _
    rw [h1] at e1
    have e2 : E false ⟨0, 0⟩ 101 (delC del0 2) [(0, .own 0 0), (1, cloL), (5, .p (.int .i64 (-1)))] ⟨B57 m key v, A2 l⟩ = some (.ret, [(4, .own 0 0)], ⟨B57 m key v, A2 l⟩) := by
      simp [delC, del0, Tryz.f101]
    simp only [deleteD, List.length_cons, List.length_nil, if_true, e0, nextD, e1, e2]
    rw [show delL key l = l from h2]
    simp [retF, B57, box25, zeroB, blkNo, D.noRef, D.noRefs, Hp.cut, A2, rowD, row0, Hp.live]
  · obtain ⟨es', i', h3, h4, h5, h6⟩ := loop100_ok m key v (l.length - (i + 1)) l i (i + 1) (fr100 i (i + 1)) [] rfl (by omega) (by omega) (by omega) hl rfl
    refine ⟨[{ rowD es' with ver := 1, fz := true, els := (es'.map enc).take i' }], W_x (by decide) rfl ?_⟩
    show deleteD W [.own 0 0, cloL] ⟨B57 m key v, [rowD l]⟩ = _
    rw [h1] at e1
    have hw : IntKind.i64.wrap ((i : Int) + 1) = (i : Int) + 1 := wrap64 (by omega) (by omega)
    have hne : ¬ ((i : Int) = -1) := by omega
    have e2 : E false ⟨0, 0⟩ 101 (delC del0 2) [(0, .own 0 0), (1, cloL), (5, .p (.int .i64 ((i + 0 : Nat) : Int)))] ⟨B57 m key v, A2 l⟩ = some (.normal, [(0, .own 0 0), (1, cloL), (5, .p (.int .i64 (i : Int))), (12, .p (.bool false))], ⟨B57 m key v, A2 l⟩) := by
      simp [delC, del0, Tryz.f101, hne]
    have e3 : ∃ F, E false ⟨0, 0⟩ 101 (delC del0 3) [(0, .own 0 0), (1, cloL), (5, .p (.int .i64 (i : Int))), (12, .p (.bool false))] ⟨B57 m key v, A2 l⟩ = some (.normal, F, ⟨B57 m key v, A2 es'⟩) ∧ look F 0 = .own 0 0 ∧ look F 5 = .p (.int .i64 i') := by
      simp only [lp101_0, code101, Tryz.f101, fr100, cloL, A2, rowD, row0, B57, List.append_nil, Int.natCast_add, Int.cast_ofNat_Int] at h3
      simp only [cloL, A2, rowD, row0, B57]
      exact ⟨_, by simp [delC, del0, Tryz.f101, hw, h3]; rfl, rfl, rfl⟩
    obtain ⟨F, e3, f0, f5⟩ := e3
    have e4 : tailD F ⟨B57 m key v, A2 es'⟩ = some ([(4, .p (.sl ((es'.map enc).take i')))], ⟨B57 m key v, [{ rowD es' with ver := 1, fz := true, els := (es'.map enc).take i' }, row0]⟩) := by
      have hlt : i' < es'.length := by omega
      simp [tailD, f0, f5, A2, rowD, Hp.live, hlt]
    simp only [deleteD, List.length_cons, List.length_nil, if_true, e0, nextD, e1, e2, e3, e4]
    have e5 : (delL key l).map enc = (es'.map enc).take i' := by
      rw [← List.map_take, h5]
      exact congrArg (List.map enc) h2
    rw [e5]
    exact fin _ _ rfl

theorem clone_W (x : Val) (r : List Val) (hlen : (x :: r).length ≤ 1000000) (B : List Blk) : W 102 [.p (.sl ((x :: r).map enc))] ⟨B, []⟩ = some (.ret (.own 0 0), ⟨B, [rowD (x :: r)]⟩) := by
  refine W_x (by decide) rfl ?_
  show cloneD [.p (.sl ((x :: r).map enc))] ⟨B, []⟩ = _
  have h1 := fit_l (x :: r)
  have h2 : ((x :: r).map enc).length * 56 ≤ 140737488355328 := by simp at hlen ⊢; omega
  simp only [List.map_cons] at h1 h2
  simp only [cloneD, List.map_cons]
  rw [if_pos ⟨h1, h2⟩]
  rfl
theorem clone_nil (H : Hp) : W 102 [.p (.sl [])] H = some (.ret (.p (.sl [])), H) := W_x (by decide) rfl rfl

theorem delete_nil (m key v : Val) : ∃ A, W 101 [.p (.sl []), cloL] ⟨B57 m key v, []⟩ = some (.ret (.p (.sl [])), ⟨B57 m key v, A⟩) := by
  have h133 := idx133_WH [] 103 (by decide) (by decide) 1 (by decide) (isK key) (B57 m key v) [row0] (fun u hu => by cases hu)
  refine ⟨[], W_x (by decide) rfl ?_⟩
  show deleteD W [.p (.sl []), cloL] ⟨B57 m key v, []⟩ = _
  have e0 : E false ⟨0, 0⟩ 101 (delC del0 0) (mkF 0 [.p (.sl []), cloL]) ⟨B57 m key v, []⟩ = some (.normal, [(0, .p (.sl [])), (1, cloL)], ⟨B57 m key v, [row0]⟩) := by
    simp [delC, del0, Tryz.f101, row0, newRow, cloL]
  have e1 : E false ⟨0, 0⟩ 101 (delC del0 1) [(0, .p (.sl [])), (1, cloL)] ⟨B57 m key v, [row0]⟩ = some (.normal, [(0, .p (.sl [])), (1, cloL), (5, .p (.int .i64 (-1)))], ⟨B57 m key v, [row0]⟩) := by
    simp only [idxP, List.map_nil] at h133
    simp only [cloL]
    simp [delC, del0, Tryz.f101, h133]
  have e2 : E false ⟨0, 0⟩ 101 (delC del0 2) [(0, .p (.sl [])), (1, cloL), (5, .p (.int .i64 (-1)))] ⟨B57 m key v, [row0]⟩ = some (.ret, [(4, .p (.sl []))], ⟨B57 m key v, [row0]⟩) := by
    simp [delC, del0, Tryz.f101]
  simp only [deleteD, List.length_cons, List.length_nil, if_true, e0, nextD, e1, e2]
  simp [retF, B57, box25, zeroB, blkNo, D.noRef, D.noRefs, Hp.cut]
end Go.Vi
end

section
/- Vi: maps: value.Lay (f52). No conditions. -/
namespace Go.Vi
open Go Go.Lib Go.Proofs
set_option maxRecDepth 100000
attribute [local simp] E_skip E_ret E_exit E_text E_draw E_seq E_cond E_block E_scope E_loop runOps runOp runDraw runVF runV finV gate FlOK wantD exec fin opd look putF norm constD constC fieldAddrD loadD storeD opCall lenD binD isShift intP strP numD indexAddrD indexD D.pd? D.pds? cells_enc sub capsOf callD argsD argD D.nf enc_agg unP box_enc cellD mkF H00 st1 cD_agg cD_pagg cD_int cD_bool cD_str cD_sl cD_lit cD_own

theorem tup_shaped {a b : Val} (ha : a.shaped = true) (hb : b.shaped = true) : (tupV [a, b]).shaped = true := by
  rw [shaped_eq]
  simp [ha, hb, own75, inB]

theorem build25_kl (F : Fr) (k : Int) (d : Tmp) (l : List PD) (hd : look F d = .lit false l) :
    buildD Tryz.prog F 25 [(0, .const (.int .i64 k)), (3, .tmp d)] = some (.agg [.p (.int .i64 k), .p (.int .i64 0), .p (.str ⟨#[]⟩), .lit false l]) := by
  have pl25 : placesOf Tryz.prog 25 = some [(0, 1), (1, 1), (2, 1), (3, 1)] := by kernel_rfl
  simp [buildD, z25', pl25, buildD.go, splice, hd]

def Lay52 (m key v : Val) : List D := if (m.isMap && key.valid && v.valid) = true then Made (mg (delL key m.ps) [tupV [key, v]]) else [.p (enc Val.zero), .p (.int .i64 2)]

theorem nodes_filter (p : Val → Bool) : ∀ l : List Val, nodesL (l.filter p) ≤ nodesL l
  | [] => Int.le_refl _
  | u :: r => by
    have h1 := nodes_filter p r
    have h2 := nodes_pos u
    rw [List.filter_cons]
    split <;> simp only [nodesL] <;> omega

theorem lay52_W (m key v : Val) (H : Hp) : W 53 [.p (enc m), .p (enc key), .p (enc v)] H = some (.ret (.tup (Lay52 m key v)), H) := by
  refine W53_of rfl (by simp) ?_
  have h98 := fun H => isMap98_W m H
  have hk71 := fun H => valid71_W key H
  have hv71 := fun H => valid71_W v H
  unfold Lay52
  have bad : E false ⟨0, 0⟩ 53 code53 (mkF 0 [.p (enc m), .p (enc key), .p (enc v)]) H00 = some (.ret, [(6, .ptr 3 0), (7, .p (.int .i64 2))], ⟨[box25 m, box25 key, box25 v, zeroB], []⟩) →
      alone H (fnOut Tryz.prog [.cell 6 25, .tmp 7] 0 0 (E false ⟨0, 0⟩ 53 code53 (mkF 0 [.p (enc m), .p (enc key), .p (enc v)]) H00)) = some (.ret (.tup [.p (enc Val.zero), .p (.int .i64 2)]), H) := fun h => by
    rw [h, enc_zero]
    simp [fnOut, retOut, resD, retsD, retD, oneD, D.noRefs, D.noRef, alone, Hp.cut, zeroB]
  cases hm : m.isMap with
  | false =>
    rw [hm] at h98
    exact bad (by simp [code53, Tryz.f53, h98, box25, zeroB, z25', build25, splice])
  | true =>
  rw [hm] at h98
  cases hk : key.valid with
  | false =>
    rw [hk] at hk71
    exact bad (by simp [code53, Tryz.f53, h98, hk71, box25, zeroB, z25', build25, splice])
  | true =>
  rw [hk] at hk71
  cases hv : v.valid with
  | false =>
    rw [hv] at hv71
    exact bad (by simp [code53, Tryz.f53, h98, hk71, hv71, box25, zeroB, z25', build25, splice])
  | true =>
  rw [hv] at hv71
  obtain ⟨hs, hkd⟩ := isMap_keyed hm
  obtain ⟨hvm, _⟩ := isSet_valid hs
  have hl := valid_len hvm
  obtain ⟨p1, p2, p3⟩ := valid_parts hvm
  have n1 := ((valid_iff m).1 hvm).1.1
  have n2 := ((valid_iff key).1 hk).1.1
  have n3 := ((valid_iff v).1 hv).1.1
  rw [nodes_eq m] at n1
  have hdm : ∀ u ∈ delL key m.ps, u ∈ m.ps := fun u hu => (List.mem_filter.1 hu).1
  have hdl : (delL key m.ps).length ≤ m.ps.length := List.length_filter_le _ _
  have hdn : nodesL (delL key m.ps) ≤ nodesL m.ps := nodes_filter _ _
  have h87 := fun H => joined_W (delL key m.ps) [tupV [key, v]] (by omega) (by simp) (fun u hu => p1 u (hdm u hu)) (fun u hu => p2 u (hdm u hu)) (fun u hu => by
    simp only [List.mem_singleton] at hu
    rw [hu]; exact tup_shaped (valid_shaped hk) (valid_shaped hv)) H
  have h86 := fun H => made_W (mg (delL key m.ps) [tupV [key, v]]) (by
    have := nodesL_mg (delL key m.ps) [tupV [key, v]]
    simp only [nodesL, nodes_eq (tupV [key, v]), tupV_ps] at this
    omega) H
  rw [made_two] at h86 ⊢
  simp only [if_true, Bool.and_self]
  simp only [List.map_cons, List.map_nil, enc_tup] at h87
  generalize mg (delL key m.ps) [tupV [key, v]] = out at *
  suffices key' : ∃ X A, E false ⟨0, 0⟩ 53 code53 (mkF 0 [.p (enc m), .p (enc key), .p (enc v)]) H00 = some (.ret, [(6, .ptr 3 0), (7, .p (.int .i64 (mdE out)))], ⟨box25 m :: box25 key :: box25 v :: box25 (mdV out) :: X, A⟩) by
    obtain ⟨X, A, key'⟩ := key'
    rw [key']
    simp [fnOut, retOut, resD, retsD, retD, oneD, D.noRefs, D.noRef, alone, Hp.cut, box25]
  have key0 : ∃ A, (∃ A0 d, W 102 [.p (.sl (m.ps.map enc))] ⟨B57 m key v, []⟩ = some (.ret d, ⟨B57 m key v, A0⟩) ∧ argsD true A0 [d, cloL] = some ([d, cloL], A0) ∧
      W 101 [d, cloL] ⟨B57 m key v, A0⟩ = some (.ret (.p (.sl ((delL key m.ps).map enc))), ⟨B57 m key v, A⟩)) := by
    cases hps : m.ps with
    | nil =>
      obtain ⟨A, hA⟩ := delete_nil m key v
      exact ⟨A, [], _, clone_nil _, by simp [cloL], hA⟩
    | cons x r =>
      obtain ⟨A, hA⟩ := delete_W m key v (x :: r) (by rw [← hps]; omega) (fun u hu => by
        rw [← hps] at hu
        have := (pair_two (hkd.pair u hu)).2
        exact ⟨by omega, fine_mem (p1 u hu) _ (k0_mem (hkd.pair u hu))⟩)
      exact ⟨A, [rowD (x :: r)], _, clone_W x r (by rw [← hps]; omega) _, by simp [cloL, rowD, Hp.live], hA⟩
  obtain ⟨A, A0, d, h101, hd, h100⟩ := key0
  generalize delL key m.ps = rest at *
  simp only [B57, box25, zeroB] at h101 h100
  simp only [cloL] at hd h100
  have ca : ∀ l : List PD, (PD.agg l).cells = l := fun _ => rfl
  have oa : ∀ l : List PD, (PD.agg l).one = false := fun _ => rfl
  exact ⟨_, _, by simp [code53, Tryz.f53, h98, hk71, hv71, box25, z25', mkFn, ca, oa, h101, hd, h100, h87, h86, build25, build25_kl, splice, buildSliceD, elsD, z23, cells_sl, one_int, one_str, one_sl, one_enc, len_enc, all_one]; exact ⟨rfl, rfl⟩⟩
end Go.Vi
end

section
/- Vi: maps, plainly: both sides' keys and layings are the same. No conditions. -/
namespace Go.Vi
open Go Go.Lib Go.Proofs

theorem fold_id {l : List Val} (hs : Shp l) (hu : Up l) : foldW [] l = l := by
  obtain ⟨h1, h2, h3⟩ := foldW_up l [] (fun _ h => by cases h) hs List.Pairwise.nil
  exact up_ext _ _ h2 hs h1 hu fun x => by rw [h3 x]; simp

theorem depth_keys : ∀ (l : List Val), (∀ p ∈ l, p.pair = true) → depthL (l.map Val.k0) ≤ depthL l
  | [], _ => Int.le_refl _
  | p :: r, h => by
    have h1 := depth_keys r fun q hq => h q (by simp [hq])
    have h2 := depth_eq p
    rw [pair_ps (h p (by simp))] at h2
    simp only [depthL] at h2
    simp only [List.map_cons, depthL]
    have := depthL_mem [p.k0, p.k1] p.k0 (by simp)
    simp only [depthL] at this
    omega

theorem keys_fit {m : Val} (h : m.valid = true) (hp : ∀ p ∈ m.ps, p.pair = true) : (setV (m.ps.map Val.k0)).fits = true := by
  obtain ⟨⟨h1, h2⟩, _⟩ := (valid_iff m).1 h
  rw [nodes_eq m] at h1
  rw [depth_eq m] at h2
  rw [fits_iff, nodes_eq, depth_eq, setV_ps]
  have := nodes_keys m.ps hp
  have := depth_keys m.ps hp
  omega

theorem delL_lessK {key : Val} {l : List Val} (h : ∀ u ∈ l, u.k0.pc key = u.k0.cmp key) : delL key l = lessK key l := by
  unfold delL lessK
  refine List.filter_congr fun u hu => ?_
  simp only [isK, h u hu, ne_eq, decide_not]

theorem lay_same {m key v : Val} (hk : Keyed m.ps) (hs : Shp m.ps) (hu : Up m.ps) (hkey : key.shaped = true) (hv : v.shaped = true) :
    foldW [] (tupV [key, v] :: lessK key m.ps) = mg (delL key m.ps) [tupV [key, v]] := by
  have e := delL_lessK (key := key) (l := m.ps) fun u hu => pc_cmp _ _ (k0_shaped (hk.pair u hu) (hs u hu)) hkey
  rw [e]
  have ht := tup_shaped hkey hv
  have s1 : Shp (lessK key m.ps) := fun u hu => hs u (List.mem_filter.1 hu).1
  have u1 : Up (lessK key m.ps) := hu.filter _
  have s2 : Shp [tupV [key, v]] := fun u hu => by simp only [List.mem_singleton] at hu; rw [hu]; exact ht
  obtain ⟨h1, h2, h3⟩ := foldW_up (tupV [key, v] :: lessK key m.ps) [] (fun _ h => by cases h) (fun u hu => by
    rcases List.mem_cons.1 hu with e | hu
    · rw [e]; exact ht
    · exact s1 u hu) List.Pairwise.nil
  obtain ⟨h4, h5⟩ := mg_up (lessK key m.ps) [tupV [key, v]] s1 s2 u1 (List.pairwise_singleton _ _)
  refine up_ext _ _ h2 (fun x hx => ?_) h1 h4 fun x => ?_
  · rcases (h5 x).1 hx with h | h
    · exact s1 x h
    · exact s2 x h
  · rw [h3 x, h5 x]
    simp only [List.not_mem_nil, false_or, or_false, List.mem_cons]
    exact Or.comm
end Go.Vi
end
