/- It is proved here what the program's functions on sets compute, the first part; conditions stand with each. -/
import Derived.Test.YtojkbmepcbgbhaaGreatDoorMV
set_option linter.unusedVariables false
set_option linter.unusedSimpArgs false

section
/- Vi: value.isSet (f85), ref.IsSet (f38), value.made (f86), slices.BinarySearchFunc (f130), value.has (f90). No conditions. -/
namespace Go.Vi
open Go Go.Lib Go.Proofs
set_option maxRecDepth 100000
attribute [local simp] E_skip E_ret E_exit E_text E_draw E_seq E_cond E_block E_scope E_loop runOps runOp runDraw runVF runV finV gate FlOK wantD exec fin opd look putF norm constD constC fieldAddrD loadD storeD opCall lenD binD isShift intP strP numD indexAddrD indexD D.pd? D.pds? cells_enc sub capsOf callD argsD argD D.nf enc_agg unP box_enc cellD mkF H00 st1 cD_agg cD_pagg cD_int cD_bool cD_str cD_sl cD_lit

def Val.isSet (v : Val) : Bool := v.valid && decide (v.k = 5)

theorem isSet85_W (v : Val) (H : Hp) : W 86 [.p (enc v)] H = some (.ret (.p (.bool v.isSet)), H) := by
  refine W86_of rfl (by simp) ?_
  have h1 := fun H => valid71_W v H
  have key : E false ⟨0, 0⟩ 86 code86 (mkF 0 [.p (enc v)]) H00 = some (.ret, [(2, .p (.bool v.isSet))], st1 v) := by
    cases hv : v.valid with
    | false =>
      have : v.isSet = false := by simp [Val.isSet, hv]
      rw [hv] at h1
      simp [code86, Tryz.f86, h1, this]
    | true =>
      have : v.isSet = decide (v.k = 5) := by simp [Val.isSet, hv]
      rw [hv] at h1
      simp [code86, Tryz.f86, h1, this]
  rw [key]
  simp [fnOut, retOut, resD, retsD, retD, oneD, D.noRefs, D.noRef, alone, Hp.cut]

theorem isSet38_W (v : Val) (H : Hp) : W 39 [.p (enc v)] H = some (.ret (.p (.bool (decide (v.k = 5)))), H) := by
  refine W39_of rfl (by simp) ?_
  have key : E false ⟨0, 0⟩ 39 code39 (mkF 0 [.p (enc v)]) H00 = some (.ret, [(2, .p (.bool (decide (v.k = 5))))], st1 v) := by
    simp [code39, Tryz.f39]
  rw [key]
  simp [fnOut, retOut, resD, retsD, retD, oneD, D.noRefs, D.noRef, alone, Hp.cut]

def setV (l : List Val) : Val := .mk 5 0 ⟨#[]⟩ l
@[simp] theorem setV_k (l : List Val) : (setV l).k = 5 := rfl
@[simp] theorem setV_n (l : List Val) : (setV l).n = 0 := rfl
@[simp] theorem setV_t (l : List Val) : (setV l).t = ⟨#[]⟩ := rfl
@[simp] theorem setV_ps (l : List Val) : (setV l).ps = l := rfl
theorem build25_kp (F : Fr) (k : Int) (d : Tmp) (l : List PD) (hd : look F d = .p (.sl l)) :
    buildD Tryz.prog F 25 [(0, .const (.int .i64 k)), (3, .tmp d)] = some (.agg [.p (.int .i64 k), .p (.int .i64 0), .p (.str ⟨#[]⟩), .p (.sl l)]) := by
  have pl25 : placesOf Tryz.prog 25 = some [(0, 1), (1, 1), (2, 1), (3, 1)] := by kernel_rfl
  simp [buildD, z25', pl25, buildD.go, splice, hd]
def Made (l : List Val) : List D := if (setV l).fits = true then [.p (enc (setV l)), .p (.int .i64 0)] else [.p (enc Val.zero), .p (.int .i64 3)]

theorem made_W (l : List Val) (h : nodesL l ≤ 1000000) (H : Hp) : W 87 [.p (.sl (l.map enc))] H = some (.ret (.tup (Made l)), H) := by
  refine W87_of rfl (by simp) ?_
  have h1 := fun H => all_W l h H
  have h2 := fun H => fits106_W (setV l) H
  have e : enc (setV l) = .agg [.int .i64 5, .int .i64 0, .str ⟨#[]⟩, .sl (l.map enc)] := by rw [enc_eq]; rfl
  unfold Made
  cases hf : (setV l).fits with
  | false =>
    rw [hf, e] at h2
    have key : ∃ B, E false ⟨0, 0⟩ 87 code87 (mkF 0 [.p (.sl (l.map enc))]) H00 = some (.ret, [(2, .ptr 0 0), (3, .p (.int .i64 3))], ⟨zeroB :: B, []⟩) :=
      ⟨_, by simp [code87, Tryz.f87, zeroB, z25', h1, h2, build25, build25_kp, splice]; rfl⟩
    obtain ⟨B, key⟩ := key
    rw [key, enc_zero]
    simp [fnOut, retOut, resD, retsD, retD, oneD, D.noRefs, D.noRef, alone, Hp.cut, zeroB]
  | true =>
    rw [hf, e] at h2
    have key : ∃ B, E false ⟨0, 0⟩ 87 code87 (mkF 0 [.p (.sl (l.map enc))]) H00 = some (.ret, [(2, .ptr 0 0), (3, .p (.int .i64 0))], ⟨box25 (setV l) :: B, []⟩) :=
      ⟨_, by simp [code87, Tryz.f87, box25, z25', h1, h2, build25, build25_kp, splice]; rfl⟩
    obtain ⟨B, key⟩ := key
    rw [key, e]
    simp [fnOut, retOut, resD, retsD, retD, oneD, D.noRefs, D.noRef, alone, Hp.cut, box25]

/-! ### The search in a sorted list -/
def fr130 (l : List Val) (i j : Nat) : Fr := [(0, .p (.sl (l.map enc))), (2, .p (.fn 84)), (4, .ptr 0 0), (8, .p (.int .i64 l.length)), (9, .p (.int .i64 i)), (10, .p (.int .i64 j))]

theorem body130_end (l : List Val) (v : Val) (i : Nat) : E false ⟨0, 0⟩ 131 lp131_0 (fr130 l i i) (st1 v) = some (.exit 0, fr130 l i i ++ [(17, .p (.bool false))], st1 v) := by
  simp [fr130, lp131_0, code131, Tryz.f131]

theorem body130_step (l : List Val) (v : Val) (i j : Nat) (hlt : i < j) (hj : j ≤ l.length) (hlen : l.length < 4611686018427387904) (c : Int) (hm : (i + j) / 2 < l.length)
    (hr : ∀ H, W 84 [.p (enc l[(i + j) / 2]), .p (enc v)] H = some (.ret (.p (.int .i64 c)), H)) :
    E false ⟨0, 0⟩ 131 lp131_0 (fr130 l i j) (st1 v) = some (.normal, if c < 0 then fr130 l ((i + j) / 2 + 1) j else fr130 l i ((i + j) / 2), st1 v) := by
  have hw : IntKind.i64.wrap ((i : Int) + j) = (i : Int) + j := wrap64 (by omega) (by omega)
  have hu : IntKind.u64.wrap ((i : Int) + j) = (i : Int) + j := by simp [IntKind.wrap, IntKind.bits, IntKind.signed]; omega
  have hs : shiftP .shr .u64 ((i : Int) + j) 1 = some (.int .u64 (((i + j) / 2 : Nat) : Int)) := by
    have e : ((i : Int) + j) = ((i + j : Nat) : Int) := by omega
    rw [e]
    simp only [shiftP, IntKind.bits]
    rw [if_neg (by omega), Int.fdiv_eq_ediv_of_nonneg _ (by simp)]
    simp
  have hm2 : IntKind.i64.wrap (((i + j) / 2 : Nat) : Int) = (((i + j) / 2 : Nat) : Int) := wrap64 (by omega) (by omega)
  have hm3 : IntKind.i64.wrap ((((i + j) / 2 : Nat) : Int) + 1) = (((i + j) / 2 : Nat) : Int) + 1 := wrap64 (by omega) (by omega)
  generalize (i + j) / 2 = m at *
  by_cases hc : c < 0
  · simp [fr130, lp131_0, code131, Tryz.f131, hlt, hw, hu, hc, convD, hs, hm2, hm3, hm, hr]
  · simp [fr130, lp131_0, code131, Tryz.f131, hlt, hw, hu, hc, convD, hs, hm2, hm3, hm, hr]

/-- A sorted list: each is less than all behind it. -/
def Incr (l : List Val) : Prop := ∀ (a b : Nat) (ha : a < l.length) (hb : b < l.length), a < b → l[a].cmp l[b] < 0

theorem sorted_incr : ∀ (l : List Val), (∀ u ∈ l, u.shaped = true) → sortedL l = true → Incr l
  | [], _, _ => fun a b ha => by simp at ha
  | [v], _, _ => fun a b ha hb hab => by simp at ha hb; omega
  | v :: u :: r, hs, h => by
    simp only [sortedL, Bool.and_eq_true, decide_eq_true_eq] at h
    have ih := sorted_incr (u :: r) (fun x hx => hs x (by simp [hx])) h.2
    have h1 : ∀ b (hb : b < (u :: r).length), v.cmp (u :: r)[b] < 0 := fun b hb => by
      cases b with
      | zero => simpa using h.1
      | succ b => exact cmp_trans v u _ (hs v (by simp)) (hs u (by simp)) (hs _ (List.mem_cons_of_mem _ (List.getElem_mem hb))) h.1 (ih 0 (b + 1) (by simp) hb (by omega))
    intro a b ha hb hab
    cases b with
    | zero => omega
    | succ b =>
      cases a with
      | zero => exact h1 b (by simpa using hb)
      | succ a => exact ih a b (by simpa using ha) (by simpa using hb) (by omega)

theorem incr_sorted : ∀ (l : List Val), Incr l → sortedL l = true
  | [], _ => rfl
  | [_], _ => rfl
  | v :: u :: r, h => by
    simp only [sortedL, Bool.and_eq_true, decide_eq_true_eq]
    exact ⟨h 0 1 (by simp) (by simp) (by omega), incr_sorted (u :: r) fun a b ha hb hab => h (a + 1) (b + 1) (by simpa using ha) (by simpa using hb) (by omega)⟩

theorem less_W (a b : Val) (ha : a.fine) (sa : a.shaped = true) (sb : b.shaped = true) (H : Hp) : W 84 [.p (enc a), .p (enc b)] H = some (.ret (.p (.int .i64 (a.cmp b))), H) := by
  rw [compare_W a ha b H, pc_cmp a b sa sb]

theorem loop130_ok (l : List Val) (v : Val) (hf : ∀ u ∈ l, u.fine) (hs : ∀ u ∈ l, u.shaped = true) (hv : v.shaped = true) (hi : Incr l) (hlen : l.length < 4611686018427387904) : ∀ (n i j : Nat) (F : Fr), j - i ≤ n → i ≤ j → j ≤ l.length → norm [0, 2, 4, 8, 9, 10] F = fr130 l i j →
    (∀ k (hk : k < l.length), k < i → l[k].cmp v < 0) → (∀ k (hk : k < l.length), j ≤ k → ¬ l[k].cmp v < 0) →
    ∃ r, r ≤ l.length ∧ (∀ k (hk : k < l.length), k < r → l[k].cmp v < 0) ∧ (∀ k (hk : k < l.length), r ≤ k → ¬ l[k].cmp v < 0) ∧
      loopO false ⟨0, 0⟩ 131 lp131_0 1 0 F (st1 v) = some (.exit 0, fr130 l r r ++ [(17, .p (.bool false))], st1 v) := by
  have hcut : ∀ F, cutD ⟨0, 0⟩ [0, 2, 4, 8, 9, 10] 1 0 F (st1 v) = some (norm [0, 2, 4, 8, 9, 10] F, st1 v) := fun F => cut_full ⟨0, 0⟩ _ F (st1 v)
  intro n
  induction n with
  | zero =>
    intro i j F hn hij hj hF h1 h2
    have : i = j := by omega
    subst this
    exact ⟨i, hj, h1, h2, by rw [loopO_eq, hd131_0, hcut, hF]; simp only [body130_end]⟩
  | succ n ih =>
    intro i j F hn hij hj hF h1 h2
    by_cases hlt : i < j
    · have hm : (i + j) / 2 < l.length := by omega
      rw [loopO_eq, hd131_0, hcut, hF]
      have hc := fun H => less_W l[(i + j) / 2] v (hf _ (List.getElem_mem hm)) (hs _ (List.getElem_mem hm)) hv H
      simp only [body130_step l v i j hlt hj hlen _ hm hc]
      by_cases hneg : l[(i + j) / 2].cmp v < 0
      · simp only [if_pos hneg]
        exact ih ((i + j) / 2 + 1) j (fr130 l ((i + j) / 2 + 1) j) (by omega) (by omega) hj rfl (fun k hk hkm => by
          by_cases e : k = (i + j) / 2
          · subst e; exact hneg
          · exact cmp_trans _ _ _ (hs _ (List.getElem_mem hk)) (hs _ (List.getElem_mem hm)) hv (hi k _ hk hm (by omega)) hneg) h2
      · simp only [if_neg hneg]
        exact ih i ((i + j) / 2) (fr130 l i ((i + j) / 2)) (by omega) (by omega) (by omega) rfl h1 (fun k hk hkm hlt' => by
          by_cases e : k = (i + j) / 2
          · subst e; exact hneg hlt'
          · exact hneg (cmp_trans _ _ _ (hs _ (List.getElem_mem hm)) (hs _ (List.getElem_mem hk)) hv (hi _ k hm hk (by omega)) hlt'))
    · have : i = j := by omega
      subst this
      exact ⟨i, hj, h1, h2, by rw [loopO_eq, hd131_0, hcut, hF]; simp only [body130_end]⟩

def inL (v : Val) (l : List Val) : Bool := l.any (fun u => decide (u.cmp v = 0))

theorem inL_at {l : List Val} {v : Val} {r : Nat} (h1 : ∀ k (hk : k < l.length), k < r → l[k].cmp v < 0) (h2 : ∀ k (hk : k < l.length), r ≤ k → ¬ l[k].cmp v < 0) (hs : ∀ u ∈ l, u.shaped = true) (hv : v.shaped = true) (hi : Incr l) :
    inL v l = if h : r < l.length then decide (l[r].cmp v = 0) else false := by
  rw [Bool.eq_iff_iff, inL, List.any_eq_true]
  constructor
  · rintro ⟨u, hu, hc⟩
    obtain ⟨k, hk, rfl⟩ := List.getElem_of_mem hu
    rw [decide_eq_true_eq] at hc
    have hrk : r ≤ k := by
      by_cases h : r ≤ k
      · exact h
      · have := h1 k hk (by omega); omega
    by_cases e : r = k
    · subst e; simp [hk, hc]
    · have h3 := hi r k (by omega) hk (by omega)
      have h4 : l[k] = v := (cmp_zero _ _ (hs _ hu) hv).1 hc
      rw [h4] at h3
      exact absurd h3 (h2 r (by omega) (Nat.le_refl r))
  · intro h
    by_cases hr : r < l.length
    · rw [dif_pos hr] at h
      exact ⟨_, List.getElem_mem hr, h⟩
    · rw [dif_neg hr] at h; cases h

theorem has90_W (l : List Val) (v : Val) (hf : ∀ u ∈ l, u.fine) (hs : ∀ u ∈ l, u.shaped = true) (hv : v.shaped = true) (hi : Incr l) (hlen : l.length < 4611686018427387904) (H : Hp) :
    W 91 [.p (.sl (l.map enc)), .p (enc v)] H = some (.ret (.p (.bool (inL v l))), H) := by
  have h130 : ∃ r : Int, ∀ H, W 131 [.p (.sl (l.map enc)), .p (enc v), .p (.fn 84)] H = some (.ret (.tup [.p (.int .i64 r), .p (.bool (inL v l))]), H) := by
    obtain ⟨r, hr, h1, h2, hloop⟩ := loop130_ok l v hf hs hv hi hlen l.length 0 l.length (fr130 l 0 l.length) (by omega) (by omega) (Nat.le_refl _) rfl (fun k _ h => by omega) (fun k hk h => by omega)
    refine ⟨r, fun H => W131_of rfl (by simp) ?_⟩
    rw [inL_at h1 h2 hs hv hi]
    have h00 : ((0 : Nat) : Int) = 0 := rfl
    simp only [lp131_0, code131, Tryz.f131, fr130, st1, h00] at hloop
    have key : E false ⟨0, 0⟩ 131 code131 (mkF 0 [.p (.sl (l.map enc)), .p (enc v), .p (.fn 84)]) H00 = some (.ret, [(6, .p (.int .i64 r)), (7, .p (.bool (if h : r < l.length then decide (l[r].cmp v = 0) else false)))], st1 v) := by
      by_cases hrl : r < l.length
      · have hc := fun H => less_W l[r] v (hf _ (List.getElem_mem hrl)) (hs _ (List.getElem_mem hrl)) hv H
        simp [code131, Tryz.f131, hloop, hrl, hc]
      · simp [code131, Tryz.f131, hloop, hrl]
    rw [key]
    simp [fnOut, retOut, resD, retsD, retD, oneD, D.noRefs, D.noRef, alone, Hp.cut]
  obtain ⟨r, h130⟩ := h130
  refine W91_of rfl (by simp) ?_
  have key : E false ⟨0, 0⟩ 91 code91 (mkF 0 [.p (.sl (l.map enc)), .p (enc v)]) H00 = some (.ret, [(4, .p (.bool (inL v l)))], st1 v) := by
    simp [code91, Tryz.f91, h130]
  rw [key]
  simp [fnOut, retOut, resD, retsD, retD, oneD, D.noRefs, D.noRef, alone, Hp.cut]
end Go.Vi
end

section
/- Vi: ref.with (f105), ref.Set (f61), ref.Has (f39), ref.kept (f91). No conditions. -/
namespace Go.Vi
open Go Go.Lib Go.Proofs
set_option maxRecDepth 100000
attribute [local simp] E_skip E_ret E_exit E_text E_draw E_seq E_cond E_block E_scope E_loop runOps runOp runDraw runVF runV finV gate FlOK wantD exec fin opd look putF norm constD constC fieldAddrD loadD storeD opCall lenD binD isShift intP strP numD indexAddrD indexD D.pd? D.pds? cells_enc sub capsOf callD argsD argD D.nf enc_agg unP box_enc cellD mkF H00 st1 cD_agg cD_pagg cD_int cD_bool cD_str cD_sl cD_lit

/-! ### with -/
def fr105 (l : List Val) (i : Nat) : Fr := [(0, .p (.sl (l.map enc))), (3, .ptr 0 0), (5, .p (.int .i64 i))]
def st105 (v : Val) : Hp := ⟨[box25 v], [row0]⟩
def kP (v : Val) : List Val → Nat
  | [] => 0
  | u :: r => if u.cmp v < 0 then kP v r + 1 else 0
theorem kP_le (v : Val) : ∀ l : List Val, kP v l ≤ l.length
  | [] => Nat.le_refl _
  | u :: r => by simp only [kP]; split <;> simp [kP_le v r]
theorem kP_not (v : Val) : ∀ (l : List Val) (h : kP v l < l.length), ¬ l[kP v l].cmp v < 0
  | [], h => by simp at h
  | u :: r, h => by
    by_cases hc : u.cmp v < 0
    · have e : kP v (u :: r) = kP v r + 1 := by simp [kP, hc]
      have := kP_not v r (by rw [e] at h; simpa using h)
      simp only [e, List.getElem_cons_succ]; exact this
    · have e : kP v (u :: r) = 0 := by simp [kP, hc]
      simp only [e, List.getElem_cons_zero]; exact hc

theorem body105_end (l : List Val) (v : Val) : E false ⟨0, 0⟩ 106 lp106_0 (fr105 l l.length) (st105 v) = some (.exit 0, fr105 l l.length ++ [(18, .p (.bool false))], st105 v) := by
  simp [fr105, st105, box25, lp106_0, code106, Tryz.f106]
theorem body105_stop (l : List Val) (v : Val) (i : Nat) (hlt : i < l.length) (c : Int) (hc : ¬ c < 0) (hr : ∀ H, W 33 [.p (enc l[i]), .p (enc v)] H = some (.ret (.p (.int .i64 c)), H)) :
    E false ⟨0, 0⟩ 106 lp106_0 (fr105 l i) (st105 v) = some (.exit 0, fr105 l i ++ [(18, .p (.bool false))], st105 v) := by
  simp [fr105, st105, box25, lp106_0, code106, Tryz.f106, hlt, hr, hc]
theorem body105_step (l : List Val) (v : Val) (i : Nat) (hlt : i < l.length) (hlen : l.length < 9223372036854775807) (c : Int) (hc : c < 0) (hr : ∀ H, W 33 [.p (enc l[i]), .p (enc v)] H = some (.ret (.p (.int .i64 c)), H)) :
    E false ⟨0, 0⟩ 106 lp106_0 (fr105 l i) (st105 v) = some (.normal, fr105 l (i + 1), st105 v) := by
  have hw : IntKind.i64.wrap ((i : Int) + 1) = (i : Int) + 1 := wrap64 (by omega) (by omega)
  simp [fr105, st105, box25, lp106_0, code106, Tryz.f106, hlt, hr, hc, hw]

theorem loop105_ok (l : List Val) (v : Val) (hlen : l.length < 9223372036854775807) (hf : ∀ u ∈ l, u.fine) : ∀ (m i : Nat) (F : Fr), m = l.length - i → i ≤ l.length → norm [0, 3, 5] F = fr105 l i →
    loopO false ⟨0, 0⟩ 106 lp106_0 1 1 F (st105 v) = some (.exit 0, fr105 l (i + kP v (l.drop i)) ++ [(18, .p (.bool false))], st105 v) := by
  have hcut : ∀ F, cutD ⟨0, 0⟩ [0, 3, 5] 1 1 F (st105 v) = some (norm [0, 3, 5] F, st105 v) := fun F => cut_full ⟨0, 0⟩ _ F (st105 v)
  intro m
  induction m with
  | zero =>
    intro i F hm hi hF
    have hie : i = l.length := by omega
    subst hie
    rw [loopO_eq, hd106_0, hcut, hF]
    simp only [body105_end, List.drop_length, kP, Nat.add_zero]
  | succ m ih =>
    intro i F hm hi hF
    have hlt : i < l.length := by omega
    rw [loopO_eq, hd106_0, hcut, hF, List.drop_eq_getElem_cons hlt, kP]
    have hr := fun H => cmp_W l[i] (hf _ (List.getElem_mem hlt)) v H
    by_cases hc : l[i].cmp v < 0
    · simp only [body105_step l v i hlt hlen _ hc hr, if_pos hc]
      rw [ih (i + 1) (fr105 l (i + 1)) (by omega) (by omega) rfl]
      rw [show i + 1 + kP v (l.drop (i + 1)) = i + (kP v (l.drop (i + 1)) + 1) by omega]
    · simp only [body105_stop l v i hlt _ hc hr, if_neg hc, Nat.add_zero]

/-- A list with a value in its place. -/
def withL (l : List Val) (v : Val) : List Val :=
  if h : kP v l < l.length then (if l[kP v l].cmp v = 0 then l else l.take (kP v l) ++ v :: l.drop (kP v l)) else l.take (kP v l) ++ v :: l.drop (kP v l)

set_option maxHeartbeats 1000000 in
theorem with105_W (l : List Val) (v : Val) (hlen : l.length ≤ 1000000) (hf : ∀ u ∈ l, u.fine) (H : Hp) : W 106 [.p (.sl (l.map enc)), .p (enc v)] H = some (.ret (.p (.sl ((withL l v).map enc))), H) := by
  have hloop := loop105_ok l v (by omega) hf l.length 0 (fr105 l 0) rfl (Nat.zero_le _) rfl
  have h00 : ((0 : Nat) : Int) = 0 := rfl
  rw [List.drop_zero, Nat.zero_add] at hloop
  have hk := kP_le v l
  unfold withL
  have hn := kP_not v l
  generalize kP v l = k at *
  simp only [lp106_0, code106, Tryz.f106, fr105, st105, box25, row0, h00] at hloop
  have fl : ∀ m : List Val, fits 4 (m.map enc) = true := fun m => by
    simp only [fits, List.all_eq_true, List.mem_map]
    rintro _ ⟨u, _, rfl⟩
    rw [len_enc, all_one]; rfl
  have flt : fits 4 ((l.map enc).take k) = true := by rw [← List.map_take]; exact fl _
  have fld : fits 4 ((l.map enc).drop k) = true := by rw [← List.map_drop]; exact fl _
  have fln : fits 4 [] = true := rfl
  have hb : (k + 1 + (l.length - k)) * 56 ≤ 140737488355328 := by omega
  have hb1 : (min k l.length + 1) * 56 ≤ 140737488355328 := by omega
  have hb2 : (min k l.length) * 56 ≤ 140737488355328 := by omega
  have hb3 : (1 + (l.length - k)) * 56 ≤ 140737488355328 := by omega
  have hb4 : k * 56 ≤ 140737488355328 := by omega
  have hb5 : (k + 1) * 56 ≤ 140737488355328 := by omega
  have hb6 : (1 + l.length) * 56 ≤ 140737488355328 := by omega
  have hb7 : (l.length + 1) * 56 ≤ 140737488355328 := by omega
  have hb8 : l.length * 56 ≤ 140737488355328 := by omega
  have tkl : (l.map enc).take l.length = l.map enc := List.take_of_length_le (by simp)
  have dkl : (l.map enc).drop l.length = [] := List.drop_of_length_le (by simp)
  have fll : fits 4 (l.map enc) = true := fl l
  have hmin : min k l.length = k := by omega
  have ins : (∀ hk : k < l.length, ¬ l[k].cmp v = 0) → W 106 [.p (.sl (l.map enc)), .p (enc v)] H = some (.ret (.p (.sl ((l.take k ++ v :: l.drop k).map enc))), H) := fun hne => by
    refine W106_of rfl (by simp) ?_
    have key : ∃ n nil fz, E false ⟨0, 0⟩ 106 code106 (mkF 0 [.p (.sl (l.map enc)), .p (enc v)]) H00 = some (.ret, [(4, .own 1 n)], ⟨[box25 v], [row0, ⟨n, 25, 4, nil, fz, (l.map enc).take k ++ enc v :: (l.map enc).drop k⟩]⟩) := by
      by_cases hlt : k < l.length
      · have hc := hne hlt
        have hr := fun H => cmp_W l[k] (hf _ (List.getElem_mem hlt)) v H
        by_cases h0 : k = 0
        · subst h0
          exact ⟨_, _, _, by simp [code106, Tryz.f106, box25, row0, newRow, hloop, hlt, hr, hc, sliceD, boundD, buildSliceD, elsD, one_int, one_str, one_sl, one_enc, len_enc, all_one, appendD, srcD, Hp.live, zok25, fits_enc, fl, fln, flt, fld, splice, hk, z25', hb, hb1, hb2, hb3, hb4, hb5, hb6, hb7, hb8, tkl, dkl, fll]; exact ⟨rfl, rfl, rfl⟩⟩
        · have hne2 : ((l.map enc).take k).isEmpty = false := by cases l with
            | nil => simp at hlt
            | cons a b => cases k with
              | zero => exact absurd rfl h0
              | succ k => simp
          exact ⟨_, _, _, by simp [code106, Tryz.f106, box25, row0, newRow, hloop, hlt, hr, hc, sliceD, boundD, buildSliceD, elsD, one_int, one_str, one_sl, one_enc, len_enc, all_one, appendD, srcD, Hp.live, zok25, fits_enc, fl, fln, flt, fld, splice, hk, z25', hb, hb1, hb2, hb3, hb4, hb5, hb6, hb7, hb8, tkl, dkl, fll, hmin, hne2]; exact ⟨rfl, rfl, rfl⟩⟩
      · have hkl : k = l.length := by omega
        by_cases h0 : l = []
        · have hk0 : k = 0 := by rw [hkl, h0]; rfl
          clear hkl
          subst hk0
          exact ⟨_, _, _, by simp [code106, Tryz.f106, box25, row0, newRow, hloop, hlt, sliceD, boundD, buildSliceD, elsD, one_int, one_str, one_sl, one_enc, len_enc, all_one, appendD, srcD, Hp.live, zok25, fits_enc, fl, fln, flt, fld, splice, hk, z25', hb, hb1, hb2, hb3, hb4, hb5, hb6, hb7, hb8, tkl, dkl, fll]; exact ⟨rfl, rfl, rfl⟩⟩
        · have hne2 : (l.map enc).isEmpty = false := by cases l with
            | nil => exact absurd rfl h0
            | cons a b => rfl
          subst hkl
          exact ⟨_, _, _, by simp [code106, Tryz.f106, box25, row0, newRow, hloop, sliceD, boundD, buildSliceD, elsD, one_int, one_str, one_sl, one_enc, len_enc, all_one, appendD, srcD, Hp.live, zok25, fits_enc, fl, fln, flt, fld, splice, hk, z25', hb, hb1, hb2, hb3, hb4, hb5, hb6, hb7, hb8, tkl, dkl, fll, hmin, hne2]; exact ⟨rfl, rfl, rfl⟩⟩
    obtain ⟨n, nil, fz, key⟩ := key
    rw [key]
    simp [fnOut, retOut, resD, retsD, retD, oneD, D.noRefs, D.noRef, alone, Hp.cut, Hp.live, List.map_take, List.map_drop]
  by_cases hlt : k < l.length
  · rw [dif_pos hlt]
    by_cases hc : l[k].cmp v = 0
    · rw [if_pos hc]
      have hr := fun H => cmp_W l[k] (hf _ (List.getElem_mem hlt)) v H
      rw [hc] at hr
      refine W106_of rfl (by simp) ?_
      have key : E false ⟨0, 0⟩ 106 code106 (mkF 0 [.p (.sl (l.map enc)), .p (enc v)]) H00 = some (.ret, [(4, .p (.sl (l.map enc)))], st105 v) := by
        simp [code106, Tryz.f106, box25, row0, newRow, st105, hloop, hlt, hr]
      rw [key]
      simp [fnOut, retOut, resD, retsD, retD, oneD, D.noRefs, D.noRef, alone, Hp.cut]
    · rw [if_neg hc]
      exact ins fun _ => hc
  · rw [dif_neg hlt]
    exact ins fun hk => absurd hk hlt

/-! ### Set -/
def foldW (out l : List Val) : List Val := l.foldl withL out
theorem withL_len (l : List Val) (v : Val) : (withL l v).length ≤ l.length + 1 := by
  have := kP_le v l
  unfold withL
  split
  · split
    · omega
    · simp; omega
  · simp; omega
theorem withL_mem {l : List Val} {v u : Val} (h : u ∈ withL l v) : u ∈ l ∨ u = v := by
  unfold withL at h
  have key : u ∈ l.take (kP v l) ++ v :: l.drop (kP v l) → u ∈ l ∨ u = v := fun h => by
    rcases List.mem_append.1 h with h | h
    · exact .inl (List.mem_of_mem_take h)
    · rcases List.mem_cons.1 h with h | h
      · exact .inr h
      · exact .inl (List.mem_of_mem_drop h)
  split at h
  · split at h
    · exact .inl h
    · exact key h
  · exact key h

theorem cD_own (i n : Nat) : cellsD (.own i n) = [.own i n] := rfl
theorem build25_ko (F : Fr) (k : Int) (d : Tmp) (i n : Nat) (hd : look F d = .own i n) :
    buildD Tryz.prog F 25 [(0, .const (.int .i64 k)), (3, .tmp d)] = some (.agg [.p (.int .i64 k), .p (.int .i64 0), .p (.str ⟨#[]⟩), .own i n]) := by
  have pl25 : placesOf Tryz.prog 25 = some [(0, 1), (1, 1), (2, 1), (3, 1)] := by kernel_rfl
  simp [buildD, z25', pl25, buildD.go, splice, hd, cD_own]
def st61 (A : List Arr) : Hp := ⟨[zeroB], A⟩
def fr61 (l : List Val) (d : D) (i : Nat) : Fr := [(0, .p (.sl (l.map enc))), (2, .ptr 0 0), (3, d), (4, .p (.int .i64 i))]

theorem body61_end (l : List Val) (d : D) : E false ⟨0, 0⟩ 62 lp62_0 (fr61 l d l.length) (st61 [row0]) = some (.exit 0, fr61 l d l.length ++ [(8, .p (.bool false))], st61 [row0]) := by
  simp [fr61, st61, lp62_0, code62, Tryz.f62]
theorem body61_zero (l : List Val) (hlt : 0 < l.length) (hr : ∀ H, W 106 [.p (.sl []), .p (enc l[0])] H = some (.ret (.p (.sl ((withL [] l[0]).map enc))), H)) :
    E false ⟨0, 0⟩ 62 lp62_0 (fr61 l (.own 0 0) 0) (st61 [row0]) = some (.normal, fr61 l (.p (.sl ((withL [] l[0]).map enc))) 1, st61 [row0]) := by
  have hw : IntKind.i64.wrap 1 = 1 := wrap64 (by omega) (by omega)
  simp [fr61, st61, row0, Hp.live, lp62_0, code62, Tryz.f62, hlt, hr, hw]
theorem body61_step (l out : List Val) (i : Nat) (hlt : i < l.length) (hlen : l.length < 9223372036854775807) (hr : ∀ H, W 106 [.p (.sl (out.map enc)), .p (enc l[i])] H = some (.ret (.p (.sl ((withL out l[i]).map enc))), H)) :
    E false ⟨0, 0⟩ 62 lp62_0 (fr61 l (.p (.sl (out.map enc))) i) (st61 [row0]) = some (.normal, fr61 l (.p (.sl ((withL out l[i]).map enc))) (i + 1), st61 [row0]) := by
  have hw : IntKind.i64.wrap ((i : Int) + 1) = (i : Int) + 1 := wrap64 (by omega) (by omega)
  simp [fr61, st61, row0, lp62_0, code62, Tryz.f62, hlt, hr, hw]

theorem cut61 (F : Fr) : cutD ⟨0, 0⟩ [0, 2, 3, 4] 1 1 F (st61 [row0]) = some (norm [0, 2, 3, 4] F, st61 [row0]) := cut_full ⟨0, 0⟩ _ F (st61 [row0])

theorem loop61_ok (l : List Val) (hlen : l.length ≤ 500000) (hf : ∀ u ∈ l, u.fine) : ∀ (m i : Nat) (out : List Val) (F : Fr), m = l.length - i → i ≤ l.length → out.length ≤ i → (∀ u ∈ out, u.fine) → norm [0, 2, 3, 4] F = fr61 l (.p (.sl (out.map enc))) i →
    loopO false ⟨0, 0⟩ 62 lp62_0 1 1 F (st61 [row0]) = some (.exit 0, fr61 l (.p (.sl ((foldW out (l.drop i)).map enc))) l.length ++ [(8, .p (.bool false))], st61 [row0]) := by
  intro m
  induction m with
  | zero =>
    intro i out F hm hi ho hfo hF
    have hie : i = l.length := by omega
    subst hie
    rw [loopO_eq, hd62_0, cut61, hF]
    simp only [body61_end, List.drop_length, foldW, List.foldl_nil]
  | succ m ih =>
    intro i out F hm hi ho hfo hF
    have hlt : i < l.length := by omega
    rw [loopO_eq, hd62_0, cut61, hF]
    have hr := fun H => with105_W out l[i] (by omega) hfo H
    simp only [body61_step l out i hlt (by omega) hr]
    have hl := withL_len out l[i]
    rw [ih (i + 1) (withL out l[i]) _ (by omega) (by omega) (by omega) (fun u hu => by
      rcases withL_mem hu with h | h
      · exact hfo u h
      · rw [h]; exact hf _ (List.getElem_mem hlt)) rfl]
    rw [List.drop_eq_getElem_cons hlt]
    rfl

theorem set61_W (l : List Val) (hlen : l.length ≤ 500000) (hf : ∀ u ∈ l, u.fine) (H : Hp) : W 62 [.p (.sl (l.map enc))] H = some (.ret (.p (enc (setV (foldW [] l)))), H) := by
  refine W62_of rfl (by simp) ?_
  have h00 : ((0 : Nat) : Int) = 0 := rfl
  have e : ∀ r : List Val, enc (setV r) = .agg [.int .i64 5, .int .i64 0, .str ⟨#[]⟩, .sl (r.map enc)] := fun r => by rw [enc_eq]; rfl
  by_cases h0 : l = []
  · subst h0
    have hloop : loopO false ⟨0, 0⟩ 62 lp62_0 1 1 (fr61 [] (.own 0 0) 0) (st61 [row0]) = some (.exit 0, fr61 [] (.own 0 0) 0 ++ [(8, .p (.bool false))], st61 [row0]) := by
      rw [loopO_eq, hd62_0, cut61, show norm [0, 2, 3, 4] (fr61 [] (.own 0 0) 0) = fr61 [] (.own 0 0) 0 from rfl]
      have := body61_end [] (.own 0 0)
      simp only [List.length_nil] at this
      simp only [this]
    simp only [lp62_0, code62, Tryz.f62, fr61, st61, zeroB, row0, h00, List.map_nil] at hloop
    have key : ∃ A, E false ⟨0, 0⟩ 62 code62 (mkF 0 [.p (.sl [])]) H00 = some (.ret, [(2, .ptr 0 0)], ⟨[.cells [.p (.int .i64 5), .p (.int .i64 0), .p (.str ⟨#[]⟩), .own 0 0]], row0 :: A⟩) :=
      ⟨_, by simp [code62, Tryz.f62, zeroB, row0, newRow, z25', hloop, build25_ko, splice, Hp.live, cD_own]; rfl⟩
    obtain ⟨A, key⟩ := key
    rw [List.map_nil, key, e]
    simp [fnOut, retOut, resD, retsD, retD, oneD, D.noRefs, D.noRef, alone, Hp.cut, foldW, Hp.live, row0]
  · have hpos : 0 < l.length := List.length_pos_iff.2 h0
    have hloop : loopO false ⟨0, 0⟩ 62 lp62_0 1 1 (fr61 l (.own 0 0) 0) (st61 [row0]) = some (.exit 0, fr61 l (.p (.sl ((foldW [] l).map enc))) l.length ++ [(8, .p (.bool false))], st61 [row0]) := by
      rw [loopO_eq, hd62_0, cut61, show norm [0, 2, 3, 4] (fr61 l (.own 0 0) 0) = fr61 l (.own 0 0) 0 from rfl]
      have hr := fun H => with105_W [] l[0] (by simp) (by simp) H
      simp only [List.map_nil] at hr
      simp only [body61_zero l hpos hr]
      have hl := withL_len [] l[0]
      rw [loop61_ok l hlen hf (l.length - 1) 1 (withL [] l[0]) _ rfl (by omega) (by simpa using hl) (fun u hu => by
        rcases withL_mem hu with h | h
        · cases h
        · rw [h]; exact hf _ (List.getElem_mem hpos)) rfl]
      cases l with
      | nil => exact absurd rfl h0
      | cons a b => rfl
    simp only [lp62_0, code62, Tryz.f62, fr61, st61, zeroB, row0, h00] at hloop
    have key : ∃ A, E false ⟨0, 0⟩ 62 code62 (mkF 0 [.p (.sl (l.map enc))]) H00 = some (.ret, [(2, .ptr 0 0)], ⟨[.cells [.p (.int .i64 5), .p (.int .i64 0), .p (.str ⟨#[]⟩), .p (.sl ((foldW [] l).map enc))]], A⟩) :=
      ⟨_, by simp [code62, Tryz.f62, zeroB, row0, newRow, z25', hloop, build25_kp, splice, Hp.live]; rfl⟩
    obtain ⟨A, key⟩ := key
    rw [key, e]
    simp [fnOut, retOut, resD, retsD, retD, oneD, D.noRefs, D.noRef, alone, Hp.cut]
end Go.Vi
end

section
/- Vi: ref.Has (f39), ref.kept (f91), Meet (f42), Minus (f43), Within (f44), Union (f41). No conditions. -/
namespace Go.Vi
open Go Go.Lib Go.Proofs
set_option maxRecDepth 100000
attribute [local simp] E_skip E_ret E_exit E_text E_draw E_seq E_cond E_block E_scope E_loop runOps runOp runDraw runVF runV finV gate FlOK wantD exec fin opd look putF norm constD constC fieldAddrD loadD storeD opCall lenD binD isShift intP strP numD indexAddrD indexD D.pd? D.pds? cells_enc sub capsOf callD argsD argD D.nf enc_agg unP box_enc cellD mkF H00 st1 cD_agg cD_pagg cD_int cD_bool cD_str cD_sl cD_lit cD_own

/-! ### Has -/
theorem inL_cons (v u : Val) (r : List Val) : inL v (u :: r) = (decide (u.cmp v = 0) || inL v r) := rfl
def fr39 (i : Nat) : Fr := [(2, .ptr 0 0), (3, .ptr 1 0), (5, .p (.int .i64 i))]
theorem body39_end (s v : Val) : E false ⟨0, 0⟩ 40 lp40_0 (fr39 s.ps.length) (st2 s v) = some (.exit 0, fr39 s.ps.length ++ [(10, .p (.bool false))], st2 s v) := by
  simp [fr39, st2, lp40_0, code40, Tryz.f40]
theorem body39_step (s v : Val) (i : Nat) (hlt : i < s.ps.length) (hlen : s.ps.length < 9223372036854775807) (c : Int) (hr : ∀ H, W 33 [.p (enc s.ps[i]), .p (enc v)] H = some (.ret (.p (.int .i64 c)), H)) :
    E false ⟨0, 0⟩ 40 lp40_0 (fr39 i) (st2 s v) = if c = 0 then some (.ret, [(4, .p (.bool true))], st2 s v) else some (.normal, fr39 (i + 1), st2 s v) := by
  have hw : IntKind.i64.wrap ((i : Int) + 1) = (i : Int) + 1 := wrap64 (by omega) (by omega)
  by_cases hc : c = 0
  · rw [if_pos hc]
    simp [fr39, st2, lp40_0, code40, Tryz.f40, hlt, hr, hc]
  · rw [if_neg hc]
    simp [fr39, st2, lp40_0, code40, Tryz.f40, hlt, hr, hc, hw]
theorem cut39 (s v : Val) (F : Fr) : cutD ⟨0, 0⟩ [2, 3, 5] 2 0 F (st2 s v) = some (norm [2, 3, 5] F, st2 s v) := cut_full ⟨0, 0⟩ _ F (st2 s v)

theorem loop39_ok (s v : Val) (hf : s.fine) : ∀ (m i : Nat) (F : Fr), m = s.ps.length - i → i ≤ s.ps.length → norm [2, 3, 5] F = fr39 i →
    loopO false ⟨0, 0⟩ 40 lp40_0 2 0 F (st2 s v) = if inL v (s.ps.drop i) = true then some (.ret, [(4, .p (.bool true))], st2 s v) else some (.exit 0, fr39 s.ps.length ++ [(10, .p (.bool false))], st2 s v) := by
  have hlen := fine_len hf
  intro m
  induction m with
  | zero =>
    intro i F hm hi hF
    have hie : i = s.ps.length := by omega
    subst hie
    rw [loopO_eq, hd40_0, cut39, hF]
    simp only [body39_end, List.drop_length, inL, List.any_nil, Bool.false_eq_true, if_false]
  | succ m ih =>
    intro i F hm hi hF
    have hlt : i < s.ps.length := by omega
    rw [loopO_eq, hd40_0, cut39, hF, List.drop_eq_getElem_cons hlt]
    have hr := fun H => cmp_W s.ps[i] (fine_mem hf _ (List.getElem_mem hlt)) v H
    simp only [body39_step s v i hlt (by omega) _ hr]
    by_cases hc : s.ps[i].cmp v = 0
    · have e : inL v (s.ps[i] :: s.ps.drop (i + 1)) = true := by rw [inL_cons, hc]; rfl
      simp only [if_pos hc, if_pos e]
    · have e : inL v (s.ps[i] :: s.ps.drop (i + 1)) = inL v (s.ps.drop (i + 1)) := by rw [inL_cons, decide_eq_false hc, Bool.false_or]
      simp only [if_neg hc, e]
      exact ih (i + 1) (fr39 (i + 1)) (by omega) (by omega) rfl

theorem has39_W (s v : Val) (hf : s.fine) (H : Hp) : W 40 [.p (enc s), .p (enc v)] H = some (.ret (.p (.bool (inL v s.ps))), H) := by
  refine W40_of rfl (by simp) ?_
  have hloop := loop39_ok s v hf s.ps.length 0 (fr39 0) rfl (Nat.zero_le _) rfl
  have h00 : ((0 : Nat) : Int) = 0 := rfl
  rw [List.drop_zero] at hloop
  simp only [lp40_0, code40, Tryz.f40, fr39, st2, h00] at hloop
  have key : E false ⟨0, 0⟩ 40 code40 (mkF 0 [.p (enc s), .p (enc v)]) H00 = some (.ret, [(4, .p (.bool (inL v s.ps)))], st2 s v) := by
    cases hb : inL v s.ps with
    | true => rw [hb] at hloop; simp only [if_true] at hloop; simp [code40, Tryz.f40, hloop, st2]
    | false => rw [hb] at hloop; simp only [Bool.false_eq_true, if_false] at hloop; simp [code40, Tryz.f40, hloop, st2]
  rw [key]
  simp [fnOut, retOut, resD, retsD, retD, oneD, D.noRefs, D.noRef, alone, Hp.cut]

/-! ### kept -/
def rowF (out : List Val) : Arr := ⟨out.length, 25, 4, decide (out.length = 0), true, out.map enc⟩
def fr91 (is : Bool) (out : List Val) (i : Nat) : Fr := [(2, .p (.bool is)), (3, .ptr 0 0), (4, .ptr 1 0), (6, .ptr 2 0), (7, .own 0 out.length), (8, .p (.int .i64 i))]
def st91 (a b : Val) (out : List Val) : Hp := ⟨[box25 a, box25 b, zeroB], [rowF out]⟩

theorem body91_end (a b : Val) (is : Bool) (out : List Val) : E false ⟨0, 0⟩ 92 lp92_0 (fr91 is out a.ps.length) (st91 a b out) = some (.exit 0, fr91 is out a.ps.length ++ [(13, .p (.bool false))], st91 a b out) := by
  simp [fr91, st91, box25, zeroB, lp92_0, code92, Tryz.f92]
theorem body91_step (a b : Val) (is : Bool) (out : List Val) (i : Nat) (hlt : i < a.ps.length) (hlen : a.ps.length ≤ 1000000) (hout : out.length ≤ i) (c : Bool) (hr : ∀ H, W 40 [.p (enc b), .p (enc a.ps[i])] H = some (.ret (.p (.bool c)), H)) :
    E false ⟨0, 0⟩ 92 lp92_0 (fr91 is out i) (st91 a b out) = some (.normal, fr91 is (if c = is then out ++ [a.ps[i]] else out) (i + 1), st91 a b (if c = is then out ++ [a.ps[i]] else out)) := by
  have hw : IntKind.i64.wrap ((i : Int) + 1) = (i : Int) + 1 := wrap64 (by omega) (by omega)
  have hby : (out.length + 1) * 56 ≤ 140737488355328 := by omega
  by_cases hc : c = is
  · rw [if_pos hc]
    have hc' : (c == is) = true := by simp [hc]
    simp [fr91, st91, box25, zeroB, rowF, lp92_0, code92, Tryz.f92, hlt, hr, hc, hc', hw, z25', buildSliceD, elsD, one_int, one_str, one_sl, one_enc, len_enc, all_one, appendD, srcD, Hp.live, zok25, fits_enc, hby, splice]
  · rw [if_neg hc]
    have hc' : (c == is) = false := by simp [hc]
    simp [fr91, st91, box25, zeroB, rowF, lp92_0, code92, Tryz.f92, hlt, hr, hc, hc', hw]

theorem cut91 (a b : Val) (out : List Val) (F : Fr) : cutD ⟨0, 0⟩ [2, 3, 4, 6, 7, 8] 3 1 F (st91 a b out) = some (norm [2, 3, 4, 6, 7, 8] F, st91 a b out) := cut_full ⟨0, 0⟩ _ F (st91 a b out)

/-- The values of a list that are in another one, or are not. -/
def keepL (l m : List Val) (is : Bool) : List Val := l.filter fun u => inL u m == is

theorem keepL_cons (u : Val) (l m : List Val) (is : Bool) : keepL (u :: l) m is = if inL u m = is then u :: keepL l m is else keepL l m is := by
  simp only [keepL, List.filter_cons, beq_iff_eq]
theorem loop91_ok (a b : Val) (is : Bool) (hlen : a.ps.length ≤ 1000000) (hf : b.fine) : ∀ (m i : Nat) (out : List Val) (F : Fr), m = a.ps.length - i → i ≤ a.ps.length → out.length ≤ i → norm [2, 3, 4, 6, 7, 8] F = fr91 is out i →
    loopO false ⟨0, 0⟩ 92 lp92_0 3 1 F (st91 a b out) = some (.exit 0, fr91 is (out ++ keepL (a.ps.drop i) b.ps is) a.ps.length ++ [(13, .p (.bool false))], st91 a b (out ++ keepL (a.ps.drop i) b.ps is)) := by
  intro m
  induction m with
  | zero =>
    intro i out F hm hi ho hF
    have hie : i = a.ps.length := by omega
    subst hie
    rw [loopO_eq, hd92_0, cut91, hF]
    simp only [body91_end, List.drop_length, keepL, List.filter_nil, List.append_nil]
  | succ m ih =>
    intro i out F hm hi ho hF
    have hlt : i < a.ps.length := by omega
    rw [loopO_eq, hd92_0, cut91, hF, List.drop_eq_getElem_cons hlt]
    have hr := fun H => has39_W b a.ps[i] hf H
    simp only [body91_step a b is out i hlt hlen ho _ hr]
    by_cases hc : inL a.ps[i] b.ps = is
    · have e : keepL (a.ps[i] :: a.ps.drop (i + 1)) b.ps is = a.ps[i] :: keepL (a.ps.drop (i + 1)) b.ps is := by rw [keepL_cons, if_pos hc]
      simp only [if_pos hc, e]
      rw [ih (i + 1) _ _ (by omega) (by omega) (by simp; omega) rfl]
      simp only [List.append_assoc, List.singleton_append]
    · have e : keepL (a.ps[i] :: a.ps.drop (i + 1)) b.ps is = keepL (a.ps.drop (i + 1)) b.ps is := by rw [keepL_cons, if_neg hc]
      simp only [if_neg hc, e]
      exact ih (i + 1) _ _ (by omega) (by omega) (by omega) rfl

theorem kept91_W (a b : Val) (is : Bool) (hlen : a.ps.length ≤ 1000000) (hf : b.fine) (H : Hp) : W 92 [.p (enc a), .p (enc b), .p (.bool is)] H = some (.ret (.p (enc (setV (keepL a.ps b.ps is)))), H) := by
  refine W92_of rfl (by simp) ?_
  have hloop := loop91_ok a b is hlen hf a.ps.length 0 [] (fr91 is [] 0) rfl (Nat.zero_le _) (Nat.le_refl _) rfl
  have h00 : ((0 : Nat) : Int) = 0 := rfl
  have e : ∀ r : List Val, enc (setV r) = .agg [.int .i64 5, .int .i64 0, .str ⟨#[]⟩, .sl (r.map enc)] := fun r => by rw [enc_eq]; rfl
  rw [List.drop_zero, List.nil_append] at hloop
  generalize keepL a.ps b.ps is = out at *
  simp only [lp92_0, code92, Tryz.f92, fr91, st91, box25, zeroB, rowF, h00, List.length_nil, List.map_nil, decide_true] at hloop
  have key : ∃ B, E false ⟨0, 0⟩ 92 code92 (mkF 0 [.p (enc a), .p (enc b), .p (.bool is)]) H00 = some (.ret, [(6, .ptr 2 0)], ⟨B :: box25 b :: [.cells [.p (.int .i64 5), .p (.int .i64 0), .p (.str ⟨#[]⟩), .own 0 out.length]], [rowF out]⟩) :=
    ⟨_, by simp [code92, Tryz.f92, box25, zeroB, rowF, newRow, z25', hloop, build25_ko, splice, Hp.live, cD_own]; rfl⟩
  obtain ⟨B, key⟩ := key
  rw [key, e]
  simp [fnOut, retOut, resD, retsD, retD, oneD, D.noRefs, D.noRef, alone, Hp.cut, Hp.live, rowF]

theorem meet42_W (a b : Val) (hlen : a.ps.length ≤ 1000000) (hf : b.fine) (H : Hp) : W 43 [.p (enc a), .p (enc b)] H = some (.ret (.p (enc (setV (keepL a.ps b.ps true)))), H) := by
  refine W43_of rfl (by simp) ?_
  have h1 := fun H => kept91_W a b true hlen hf H
  have e : ∀ r : List Val, enc (setV r) = .agg [.int .i64 5, .int .i64 0, .str ⟨#[]⟩, .sl (r.map enc)] := fun r => by rw [enc_eq]; rfl
  rw [e] at h1
  have key : ∃ B, E false ⟨0, 0⟩ 43 code43 (mkF 0 [.p (enc a), .p (enc b)]) H00 = some (.ret, [(4, .ptr 2 0)], ⟨B :: box25 b :: [box25 (setV (keepL a.ps b.ps true))], []⟩) :=
    ⟨_, by simp [code43, Tryz.f43, box25, z25', h1, splice]; rfl⟩
  obtain ⟨B, key⟩ := key
  rw [key, e]
  simp [fnOut, retOut, resD, retsD, retD, oneD, D.noRefs, D.noRef, alone, Hp.cut, box25]

theorem minus43_W (a b : Val) (hlen : a.ps.length ≤ 1000000) (hf : b.fine) (H : Hp) : W 44 [.p (enc a), .p (enc b)] H = some (.ret (.p (enc (setV (keepL a.ps b.ps false)))), H) := by
  refine W44_of rfl (by simp) ?_
  have h1 := fun H => kept91_W a b false hlen hf H
  have e : ∀ r : List Val, enc (setV r) = .agg [.int .i64 5, .int .i64 0, .str ⟨#[]⟩, .sl (r.map enc)] := fun r => by rw [enc_eq]; rfl
  rw [e] at h1
  have key : ∃ B, E false ⟨0, 0⟩ 44 code44 (mkF 0 [.p (enc a), .p (enc b)]) H00 = some (.ret, [(4, .ptr 2 0)], ⟨B :: box25 b :: [box25 (setV (keepL a.ps b.ps false))], []⟩) :=
    ⟨_, by simp [code44, Tryz.f44, box25, z25', h1, splice]; rfl⟩
  obtain ⟨B, key⟩ := key
  rw [key, e]
  simp [fnOut, retOut, resD, retsD, retD, oneD, D.noRefs, D.noRef, alone, Hp.cut, box25]

theorem within44_W (a b : Val) (hlen : a.ps.length ≤ 1000000) (hf : b.fine) (H : Hp) : W 45 [.p (enc a), .p (enc b)] H = some (.ret (.p (.bool (decide ((keepL a.ps b.ps false).length = 0)))), H) := by
  refine W45_of rfl (by simp) ?_
  have h1 := fun H => minus43_W a b hlen hf H
  have e : ∀ r : List Val, enc (setV r) = .agg [.int .i64 5, .int .i64 0, .str ⟨#[]⟩, .sl (r.map enc)] := fun r => by rw [enc_eq]; rfl
  rw [e] at h1
  have key : E false ⟨0, 0⟩ 45 code45 (mkF 0 [.p (enc a), .p (enc b)]) H00 = some (.ret, [(4, .p (.bool (decide ((keepL a.ps b.ps false).length = 0))))], st2 a b) := by
    simp [code45, Tryz.f45, st2, box25, z25', h1, splice, partD]
  rw [key]
  simp [fnOut, retOut, resD, retsD, retD, oneD, D.noRefs, D.noRef, alone, Hp.cut]
end Go.Vi
end

section
/- Vi: ref.Union (f41), value.merged (f127), value.joined (f87), value.Union (f33), value.Has (f37), result (f40). No conditions. -/
namespace Go.Vi
open Go Go.Lib Go.Proofs
set_option maxRecDepth 100000
attribute [local simp] E_skip E_ret E_exit E_text E_draw E_seq E_cond E_block E_scope E_loop runOps runOp runDraw runVF runV finV gate FlOK wantD exec fin opd look putF norm constD constC fieldAddrD loadD storeD opCall lenD binD isShift intP strP numD indexAddrD indexD D.pd? D.pds? cells_enc sub capsOf callD argsD argD D.nf enc_agg unP box_enc cellD mkF H00 st1 cD_agg cD_pagg cD_int cD_bool cD_str cD_sl cD_lit cD_own

theorem fit_l (m : List Val) : fits 4 (m.map enc) = true := by
  simp only [fits, List.all_eq_true, List.mem_map]
  rintro _ ⟨u, _, rfl⟩
  rw [len_enc, all_one]; rfl
theorem fit_n : fits 4 [] = true := rfl
theorem enc_set (r : List Val) : enc (setV r) = .agg [.int .i64 5, .int .i64 0, .str ⟨#[]⟩, .sl (r.map enc)] := by rw [enc_eq]; rfl

theorem union41_W (a b : Val) (ha : a.ps.length ≤ 200000) (hb : b.ps.length ≤ 200000) (hfa : a.fine) (hfb : b.fine) (H : Hp) : W 42 [.p (enc a), .p (enc b)] H = some (.ret (.p (enc (setV (foldW [] (a.ps ++ b.ps))))), H) := by
  refine W42_of rfl (by simp) ?_
  have h1 := fun H => set61_W (a.ps ++ b.ps) (by simp; omega) (fun u hu => by
    rcases List.mem_append.1 hu with h | h
    · exact fine_mem hfa _ h
    · exact fine_mem hfb _ h) H
  rw [enc_set] at h1
  have key : ∃ A, E false ⟨0, 0⟩ 42 code42 (mkF 0 [.p (enc a), .p (enc b)]) H00 = some (.ret, [(4, .ptr 2 0)], ⟨[box25 a, box25 b, box25 (setV (foldW [] (a.ps ++ b.ps)))], A⟩) := by
    have k1 : a.ps.length * 56 ≤ 140737488355328 := by omega
    have k2 : b.ps.length * 56 ≤ 140737488355328 := by omega
    have k3 : (a.ps.length + b.ps.length) * 56 ≤ 140737488355328 := by omega
    by_cases e1 : a.ps = []
    · by_cases e2 : b.ps = []
      · rw [e1, e2] at h1 ⊢
        simp only [List.append_nil, List.map_nil] at h1 ⊢
        exact ⟨_, by simp [code42, Tryz.f42, box25, e1, e2, z25', h1, splice, appendD, srcD, fit_n, zok25]; rfl⟩
      · have i2 : (b.ps.map enc).isEmpty = false := by cases h : b.ps with
          | nil => exact absurd h e2
          | cons x y => rfl
        rw [e1] at h1 ⊢
        simp only [List.nil_append] at h1 ⊢
        exact ⟨_, by simp [code42, Tryz.f42, box25, e1, e2, z25', h1, splice, appendD, srcD, fit_l, fit_n, zok25, k1, k2, k3, newRow, Hp.live]; rfl⟩
    · by_cases e2 : b.ps = []
      · rw [e2] at h1 ⊢
        simp only [List.append_nil] at h1 ⊢
        exact ⟨_, by simp [code42, Tryz.f42, box25, e1, e2, z25', h1, splice, appendD, srcD, fit_l, fit_n, zok25, k1, k2, k3, newRow, Hp.live]; rfl⟩
      · rw [List.map_append] at h1
        exact ⟨_, by simp [code42, Tryz.f42, box25, e1, e2, z25', h1, splice, appendD, srcD, fit_l, fit_n, zok25, k1, k2, k3, newRow, Hp.live]; rfl⟩
  obtain ⟨A, key⟩ := key
  rw [key, enc_set]
  simp [fnOut, retOut, resD, retsD, retD, oneD, D.noRefs, D.noRef, alone, Hp.cut, box25]

/-! ### merged -/
def rowG (n : Nat) (out : List Val) : Arr := ⟨n, 25, 4, decide (n = 0), true, out.map enc⟩
def fr127 (a b : List Val) (n i k : Nat) : Fr := [(0, .p (.sl (a.map enc))), (1, .p (.sl (b.map enc))), (2, .p (.fn 84)), (7, .own 1 n), (8, .p (.int .i64 i)), (9, .p (.int .i64 k))]
def st127 (n : Nat) (out : List Val) : Hp := ⟨[], [row0, rowG n out]⟩
def end127 (n : Nat) (nil : Bool) (out : List Val) : Hp := ⟨[], [row0, ⟨n, 25, 4, nil, true, out.map enc⟩]⟩

theorem body127_a (a b : List Val) (n k : Nat) (out : List Val) (hk : k ≤ b.length) (hb : (out.length + (b.length - k)) * 56 ≤ 140737488355328) :
    ∃ nil, E false ⟨0, 0⟩ 128 lp128_0 (fr127 a b n a.length k) (st127 n out) = some (.exit 0, [(7, .own 1 (n + 1))], end127 (n + 1) nil (out ++ b.drop k)) := by
  have fld : fits 4 ((b.map enc).drop k) = true := by rw [← List.map_drop]; exact fit_l _
  have tkl : (b.map enc).take b.length = b.map enc := List.take_of_length_le (by simp)
  exact ⟨_, by simp [fr127, st127, end127, row0, rowG, lp128_0, code128, Tryz.f128, sliceD, boundD, appendD, srcD, Hp.live, zok25, fit_l, fld, hk, hb, tkl, List.map_drop]; rfl⟩

theorem body127_b (a b : List Val) (n i : Nat) (out : List Val) (hi : i < a.length) (hb : (out.length + (a.length - i)) * 56 ≤ 140737488355328) :
    ∃ nil, E false ⟨0, 0⟩ 128 lp128_0 (fr127 a b n i b.length) (st127 n out) = some (.exit 0, [(7, .own 1 (n + 1))], end127 (n + 1) nil (out ++ a.drop i)) := by
  have fld : fits 4 ((a.map enc).drop i) = true := by rw [← List.map_drop]; exact fit_l _
  have tkl : (a.map enc).take a.length = a.map enc := List.take_of_length_le (by simp)
  have hne : ¬ (i : Int) = a.length := by omega
  have hle : i ≤ a.length := by omega
  have hne2 : ¬ i = a.length := by omega
  exact ⟨_, by simp [fr127, st127, end127, row0, rowG, lp128_0, code128, Tryz.f128, sliceD, boundD, appendD, srcD, Hp.live, zok25, fit_l, fld, hb, hne, hne2, hle, tkl, List.map_drop]; rfl⟩

theorem body127_step (a b : List Val) (n i k : Nat) (out : List Val) (hi : i < a.length) (hk : k < b.length) (hla : a.length ≤ 1000000) (hlb : b.length ≤ 1000000) (hb : out.length ≤ 2000000) (c : Int)
    (hr : ∀ H, W 84 [.p (enc a[i]), .p (enc b[k])] H = some (.ret (.p (.int .i64 c)), H)) :
    ∃ F', norm [0, 1, 2, 7, 8, 9] F' = fr127 a b (n + 1) (if c ≤ 0 then i + 1 else i) (if 0 ≤ c then k + 1 else k) ∧
      E false ⟨0, 0⟩ 128 lp128_0 (fr127 a b n i k) (st127 n out) = some (.normal, F', st127 (n + 1) (out ++ [if c ≤ 0 then a[i] else b[k]])) := by
  have hw : IntKind.i64.wrap ((i : Int) + 1) = (i : Int) + 1 := wrap64 (by omega) (by omega)
  have hw2 : IntKind.i64.wrap ((k : Int) + 1) = (k : Int) + 1 := wrap64 (by omega) (by omega)
  have hne : ¬ (i : Int) = a.length := by omega
  have hne2 : ¬ i = a.length := by omega
  have hne3 : ¬ (k : Int) = b.length := by omega
  have hne4 : ¬ k = b.length := by omega
  have hby : (out.length + 1) * 56 ≤ 140737488355328 := by omega
  by_cases h1 : c ≤ 0
  · by_cases h2 : 0 ≤ c
    · rw [if_pos h1, if_pos h1, if_pos h2]
      refine ⟨fr127 a b (n + 1) (i + 1) (k + 1), rfl, ?_⟩
      simp [fr127, st127, row0, rowG, lp128_0, code128, Tryz.f128, hi, hk, hr, hw, hw2, hne, hne2, hne3, hne4, h1, h2, z25', buildSliceD, elsD, one_int, one_str, one_sl, one_enc, len_enc, all_one, appendD, srcD, Hp.live, zok25, fits_enc, hby, splice]
    · rw [if_pos h1, if_pos h1, if_neg h2]
      refine ⟨fr127 a b (n + 1) (i + 1) k ++ [(60, .p (.bool false))], rfl, ?_⟩
      simp [fr127, st127, row0, rowG, lp128_0, code128, Tryz.f128, hi, hk, hr, hw, hw2, hne, hne2, hne3, hne4, h1, h2, z25', buildSliceD, elsD, one_int, one_str, one_sl, one_enc, len_enc, all_one, appendD, srcD, Hp.live, zok25, fits_enc, hby, splice]
  · have h2 : 0 ≤ c := by omega
    rw [if_neg h1, if_neg h1, if_pos h2]
    refine ⟨fr127 a b (n + 1) i (k + 1), rfl, ?_⟩
    simp [fr127, st127, row0, rowG, lp128_0, code128, Tryz.f128, hi, hk, hr, hw, hw2, hne, hne2, hne3, hne4, h1, h2, z25', buildSliceD, elsD, one_int, one_str, one_sl, one_enc, len_enc, all_one, appendD, srcD, Hp.live, zok25, fits_enc, hby, splice]

/-- Two lists as one, with what is equal in both once. -/
def mg : List Val → List Val → List Val
  | [], m => m
  | v :: r, [] => v :: r
  | v :: r, u :: s => if v.cmp u < 0 then v :: mg r (u :: s) else if v.cmp u = 0 then v :: mg r s else u :: mg (v :: r) s
termination_by l m => l.length + m.length

theorem cut127 (F : Fr) (n : Nat) (out : List Val) : cutD ⟨0, 0⟩ [0, 1, 2, 7, 8, 9] 0 2 F (st127 n out) = some (norm [0, 1, 2, 7, 8, 9] F, st127 n out) := cut_full ⟨0, 0⟩ _ F (st127 n out)

theorem loop127_ok (a b : List Val) (hla : a.length ≤ 1000000) (hlb : b.length ≤ 1000000) (hf : ∀ u ∈ a, u.fine) (sa : ∀ u ∈ a, u.shaped = true) (sb : ∀ u ∈ b, u.shaped = true) :
    ∀ (m n i k : Nat) (out : List Val) (F : Fr), (a.length - i) + (b.length - k) ≤ m → i ≤ a.length → k ≤ b.length → out.length ≤ i + k → norm [0, 1, 2, 7, 8, 9] F = fr127 a b n i k →
    ∃ n' nil, loopO false ⟨0, 0⟩ 128 lp128_0 0 2 F (st127 n out) = some (.exit 0, [(7, .own 1 n')], end127 n' nil (out ++ mg (a.drop i) (b.drop k))) := by
  intro m
  induction m with
  | zero =>
    intro n i k out F hm hi hk ho hF
    have hie : i = a.length := by omega
    subst hie
    rw [loopO_eq, hd128_0, cut127, hF]
    obtain ⟨nil, h⟩ := body127_a a b n k out hk (by omega)
    refine ⟨n + 1, nil, ?_⟩
    simp only [h, List.drop_length, mg]
  | succ m ih =>
    intro n i k out F hm hi hk ho hF
    rw [loopO_eq, hd128_0, cut127, hF]
    by_cases hie : i = a.length
    · subst hie
      obtain ⟨nil, h⟩ := body127_a a b n k out hk (by omega)
      refine ⟨n + 1, nil, ?_⟩
      simp only [h, List.drop_length, mg]
    have hi' : i < a.length := by omega
    by_cases hke : k = b.length
    · subst hke
      obtain ⟨nil, h⟩ := body127_b a b n i out hi' (by omega)
      refine ⟨n + 1, nil, ?_⟩
      have e : mg (a.drop i) (b.drop b.length) = a.drop i := by rw [List.drop_length, List.drop_eq_getElem_cons hi', mg]
      simp only [h, e]
    have hk' : k < b.length := by omega
    have hr := fun H => less_W a[i] b[k] (hf _ (List.getElem_mem hi')) (sa _ (List.getElem_mem hi')) (sb _ (List.getElem_mem hk')) H
    obtain ⟨F', hF', h⟩ := body127_step a b n i k out hi' hk' hla hlb (by omega) _ hr
    simp only [h]
    have hl : (out ++ [if a[i].cmp b[k] ≤ 0 then a[i] else b[k]]).length = out.length + 1 := by simp
    obtain ⟨n', nil, h2⟩ := ih (n + 1) _ _ _ F' (by split <;> split <;> omega) (by split <;> omega) (by split <;> omega) (by rw [hl]; split <;> split <;> omega) hF'
    refine ⟨n', nil, ?_⟩
    rw [h2]
    have e : mg (a.drop i) (b.drop k) = (if a[i].cmp b[k] ≤ 0 then a[i] else b[k]) :: mg (a.drop (if a[i].cmp b[k] ≤ 0 then i + 1 else i)) (b.drop (if 0 ≤ a[i].cmp b[k] then k + 1 else k)) := by
      conv => lhs; rw [List.drop_eq_getElem_cons hi', List.drop_eq_getElem_cons hk', mg]
      by_cases h1 : a[i].cmp b[k] < 0
      · rw [if_pos h1, if_pos (by omega), if_pos (by omega), if_neg (by omega), ← List.drop_eq_getElem_cons hk']
      · rw [if_neg h1]
        by_cases h0 : a[i].cmp b[k] = 0
        · rw [if_pos h0, if_pos (by omega), if_pos (by omega), if_pos (by omega)]
        · rw [if_neg h0, if_neg (by omega), if_neg (by omega), if_pos (by omega), ← List.drop_eq_getElem_cons hi']
    rw [e, List.append_assoc, List.singleton_append]

theorem merged_W (a b : List Val) (hla : a.length ≤ 1000000) (hlb : b.length ≤ 1000000) (hf : ∀ u ∈ a, u.fine) (sa : ∀ u ∈ a, u.shaped = true) (sb : ∀ u ∈ b, u.shaped = true) (H : Hp) :
    W 128 [.p (.sl (a.map enc)), .p (.sl (b.map enc)), .p (.fn 84)] H = some (.ret (.p (.sl ((mg a b).map enc))), H) := by
  refine W128_of rfl (by simp) ?_
  obtain ⟨n', nil, hloop⟩ := loop127_ok a b hla hlb hf sa sb (a.length + b.length) 0 0 0 [] (fr127 a b 0 0 0) (by omega) (by omega) (by omega) (by simp) rfl
  rw [List.drop_zero, List.drop_zero, List.nil_append] at hloop
  have h00 : ((0 : Nat) : Int) = 0 := rfl
  simp only [lp128_0, code128, Tryz.f128, fr127, st127, rowG, row0, h00, List.map_nil, decide_true] at hloop
  have key : E false ⟨0, 0⟩ 128 code128 (mkF 0 [.p (.sl (a.map enc)), .p (.sl (b.map enc)), .p (.fn 84)]) H00 = some (.ret, [(6, .own 1 n')], end127 n' nil (mg a b)) := by
    simp [code128, Tryz.f128, row0, newRow, E_label, hloop]
  rw [key]
  simp [fnOut, retOut, resD, retsD, retD, oneD, D.noRefs, D.noRef, alone, Hp.cut, Hp.live, end127]

/-! ### joined, of two lists -/
def fr87 (a b : List Val) (d : D) (i : Nat) : Fr := [(3, d), (6, .p (.sl [.sl (a.map enc), .sl (b.map enc)])), (7, .p (.int .i64 2)), (8, .p (.int .i64 i))]

theorem mg_nil (a : List Val) : mg [] a = a := by rw [mg]

theorem joined_W (a b : List Val) (hla : a.length ≤ 1000000) (hlb : b.length ≤ 1000000) (hf : ∀ u ∈ a, u.fine) (sa : ∀ u ∈ a, u.shaped = true) (sb : ∀ u ∈ b, u.shaped = true) (H : Hp) :
    W 88 [.p (.sl [.sl (a.map enc), .sl (b.map enc)])] H = some (.ret (.p (.sl ((mg a b).map enc))), H) := by
  refine W88_of rfl (by simp) ?_
  have h1 := fun H => merged_W [] a (by simp) hla (by simp) (by simp) sa H
  have h2 := fun H => merged_W a b hla hlb hf sa sb H
  rw [mg_nil] at h1
  simp only [List.map_nil] at h1
  have w1 : IntKind.i64.wrap 1 = 1 := wrap64 (by omega) (by omega)
  have w2 : IntKind.i64.wrap 2 = 2 := wrap64 (by omega) (by omega)
  have hcut : ∀ F, cutD ⟨0, 0⟩ [3, 6, 7, 8] 0 2 F ⟨[], [row0, row0]⟩ = some (norm [3, 6, 7, 8] F, ⟨[], [row0, row0]⟩) := fun F => cut_full ⟨0, 0⟩ _ F ⟨[], [row0, row0]⟩
  have b0 : E false ⟨0, 0⟩ 88 lp88_0 (fr87 a b (.own 1 0) 0) ⟨[], [row0, row0]⟩ = some (.normal, fr87 a b (.p (.sl (a.map enc))) 1, ⟨[], [row0, row0]⟩) := by
    simp [fr87, row0, Hp.live, lp88_0, code88, Tryz.f88, h1, w1, PD.cells]
  have b1 : E false ⟨0, 0⟩ 88 lp88_0 (fr87 a b (.p (.sl (a.map enc))) 1) ⟨[], [row0, row0]⟩ = some (.normal, fr87 a b (.p (.sl ((mg a b).map enc))) 2, ⟨[], [row0, row0]⟩) := by
    simp [fr87, row0, Hp.live, lp88_0, code88, Tryz.f88, h2, w2, PD.cells]
  have b2 : E false ⟨0, 0⟩ 88 lp88_0 (fr87 a b (.p (.sl ((mg a b).map enc))) 2) ⟨[], [row0, row0]⟩ = some (.exit 0, fr87 a b (.p (.sl ((mg a b).map enc))) 2 ++ [(9, .p (.bool false))], ⟨[], [row0, row0]⟩) := by
    simp [fr87, row0, lp88_0, code88, Tryz.f88]
  have hloop : loopO false ⟨0, 0⟩ 88 lp88_0 0 2 (fr87 a b (.own 1 0) 0) ⟨[], [row0, row0]⟩ = some (.exit 0, fr87 a b (.p (.sl ((mg a b).map enc))) 2 ++ [(9, .p (.bool false))], ⟨[], [row0, row0]⟩) := by
    rw [loopO_eq, hd88_0, hcut, show norm [3, 6, 7, 8] (fr87 a b (.own 1 0) 0) = fr87 a b (.own 1 0) 0 from rfl]
    simp only [b0]
    rw [loopO_eq, hd88_0, hcut, show norm [3, 6, 7, 8] (fr87 a b (.p (.sl (a.map enc))) 1) = fr87 a b (.p (.sl (a.map enc))) 1 from rfl]
    simp only [b1]
    rw [loopO_eq, hd88_0, hcut, show norm [3, 6, 7, 8] (fr87 a b (.p (.sl ((mg a b).map enc))) 2) = fr87 a b (.p (.sl ((mg a b).map enc))) 2 from rfl]
    simp only [b2]
  have h00 : ((0 : Nat) : Int) = 0 := rfl
  have h02 : ((2 : Nat) : Int) = 2 := rfl
  simp only [lp88_0, code88, Tryz.f88, fr87, row0, h00, h02] at hloop
  have key : ∃ A, E false ⟨0, 0⟩ 88 code88 (mkF 0 [.p (.sl [.sl (a.map enc), .sl (b.map enc)])]) H00 = some (.ret, [(2, .p (.sl ((mg a b).map enc)))], ⟨[], A⟩) :=
    ⟨_, by simp [code88, Tryz.f88, row0, newRow, hloop]; rfl⟩
  obtain ⟨A, key⟩ := key
  rw [key]
  simp [fnOut, retOut, resD, retsD, retD, oneD, D.noRefs, D.noRef, alone, Hp.cut]
end Go.Vi
end

section
/- Vi: value.Union (f33), value.Has (f37), result (f40). No conditions. -/
namespace Go.Vi
open Go Go.Lib Go.Proofs
set_option maxRecDepth 100000
attribute [local simp] E_skip E_ret E_exit E_text E_draw E_seq E_cond E_block E_scope E_loop runOps runOp runDraw runVF runV finV gate FlOK wantD exec fin opd look putF norm constD constC fieldAddrD loadD storeD opCall lenD binD isShift intP strP numD indexAddrD indexD D.pd? D.pds? cells_enc sub capsOf callD argsD argD D.nf enc_agg unP box_enc cellD mkF H00 st1 cD_agg cD_pagg cD_int cD_bool cD_str cD_sl cD_lit cD_own

theorem isSet_valid {v : Val} (h : v.isSet = true) : v.valid = true ∧ v.k = 5 := by simpa [Val.isSet] using h
theorem valid_len {v : Val} (h : v.valid = true) : v.ps.length ≤ 200 := by
  have h1 := (valid_fine h).2
  have h2 := nodes_eq v
  have h3 := nodesL_len v.ps
  omega
theorem valid_parts {v : Val} (h : v.valid = true) : (∀ u ∈ v.ps, u.fine) ∧ (∀ u ∈ v.ps, u.shaped = true) ∧ (∀ u ∈ v.ps, u.valid = true) :=
  ⟨fun u hu => fine_mem (valid_fine h).1 u hu, fun u hu => valid_shaped (valid_mem h hu).1, fun u hu => (valid_mem h hu).1⟩
theorem set_incr {v : Val} (h : v.isSet = true) : Incr v.ps := by
  obtain ⟨h1, h2⟩ := isSet_valid h
  have h3 := valid_shaped h1
  refine sorted_incr _ (valid_parts h1).2.1 ?_
  rw [shaped_eq, Bool.and_eq_true] at h3
  have h4 := h3.2
  simp only [own75, h2] at h4
  simp at h4
  exact h4.1

theorem result_W (s : Val) (e : Int) (w : Val) (hs : s.fine) (H : Hp) : W 41 [.p (enc s), .p (.int .i64 e), .p (enc w)] H =
    some (.ret (.p (.bool (if w.fits = true then decide (e = 0) && s.eqb w else decide (e = 3) && s.none))), H) := by
  refine W41_of rfl (by simp) ?_
  have h1 := fun H => fits_W w H
  have h2 := fun H => none_W s hs H
  have h3 := fun H => equal_W s hs w H
  have key : ∃ B, E false ⟨0, 0⟩ 41 code41 (mkF 0 [.p (enc s), .p (.int .i64 e), .p (enc w)]) H00 = some (.ret, [(6, .p (.bool (if w.fits = true then decide (e = 0) && s.eqb w else decide (e = 3) && s.none)))], ⟨B, []⟩) := by
    cases hf : w.fits with
    | false =>
      rw [hf] at h1
      by_cases he : e = 3
      · exact ⟨_, by simp [code41, Tryz.f41, h1, h2, h3, he]; rfl⟩
      · exact ⟨_, by simp [code41, Tryz.f41, h1, h2, h3, he]; rfl⟩
    | true =>
      rw [hf] at h1
      by_cases he : e = 0
      · exact ⟨_, by simp [code41, Tryz.f41, h1, h2, h3, he]; rfl⟩
      · exact ⟨_, by simp [code41, Tryz.f41, h1, h2, h3, he]; rfl⟩
  obtain ⟨B, key⟩ := key
  rw [key]
  simp [fnOut, retOut, resD, retsD, retD, oneD, D.noRefs, D.noRef, alone, Hp.cut]

theorem has37_W (s v : Val) (H : Hp) : W 38 [.p (enc s), .p (enc v)] H = some (.ret (.tup (if (s.isSet && v.valid) = true then [.p (.bool (inL v s.ps)), .p (.int .i64 0)] else [.p (.bool false), .p (.int .i64 2)])), H) := by
  refine W38_of rfl (by simp) ?_
  have h1 := fun H => isSet85_W s H
  have h2 := fun H => valid71_W v H
  have fin1 : ∀ (x : Bool) (y : Int), alone H (fnOut Tryz.prog [.tmp 4, .tmp 5] 0 0 (some (.ret, [(4, .p (.bool x)), (5, .p (.int .i64 y))], st2 s v))) = some (.ret (.tup [.p (.bool x), .p (.int .i64 y)]), H) := fun x y => by
    simp [fnOut, retOut, resD, look, retsD, retD, argD, D.nf, D.pd?, oneD, D.noRefs, D.noRef, alone, Hp.cut]
  cases hs : s.isSet with
  | false =>
    rw [hs] at h1
    have key : E false ⟨0, 0⟩ 38 code38 (mkF 0 [.p (enc s), .p (enc v)]) H00 = some (.ret, [(4, .p (.bool false)), (5, .p (.int .i64 2))], st2 s v) := by
      simp [code38, Tryz.f38, h1, st2]
    rw [key, fin1]; simp
  | true =>
    rw [hs] at h1
    cases hv : v.valid with
    | false =>
      rw [hv] at h2
      have key : E false ⟨0, 0⟩ 38 code38 (mkF 0 [.p (enc s), .p (enc v)]) H00 = some (.ret, [(4, .p (.bool false)), (5, .p (.int .i64 2))], st2 s v) := by
        simp [code38, Tryz.f38, h1, h2, st2]
      rw [key, fin1]; simp
    | true =>
      rw [hv] at h2
      obtain ⟨hsv, _⟩ := isSet_valid hs
      obtain ⟨p1, p2, _⟩ := valid_parts hsv
      have hlen := valid_len hsv
      have h3 := fun H => has90_W s.ps v p1 p2 (valid_shaped hv) (set_incr hs) (by omega) H
      have key : E false ⟨0, 0⟩ 38 code38 (mkF 0 [.p (enc s), .p (enc v)]) H00 = some (.ret, [(4, .p (.bool (inL v s.ps))), (5, .p (.int .i64 0))], st2 s v) := by
        simp [code38, Tryz.f38, h1, h2, h3, st2]
      rw [key, fin1]; simp

theorem nodesL_mg : ∀ (a b : List Val), nodesL (mg a b) ≤ nodesL a + nodesL b := by
  intro a b
  fun_induction mg a b with
  | case1 m => simp [nodesL]
  | case2 v r => simp [nodesL]
  | case3 v r u s h ih => simp only [nodesL] at *; omega
  | case4 v r u s h h0 ih => simp only [nodesL] at *; have := nodes_pos u; omega
  | case5 v r u s h h0 ih => simp only [nodesL] at *; omega

theorem z23 : zeroOf Tryz.prog 23 = some (.slice none 0 0) := by kernel_rfl
theorem cells_sl (l : List PD) : (PD.sl l).cells = [.sl l] := rfl
theorem union33_W (a b : Val) (H : Hp) : W 34 [.p (enc a), .p (enc b)] H = some (.ret (.tup (if (a.isSet && b.isSet) = true then Made (mg a.ps b.ps) else [.p (enc Val.zero), .p (.int .i64 2)])), H) := by
  refine W34_of rfl (by simp) ?_
  have h1 := fun H => isSet85_W a H
  have h2 := fun H => isSet85_W b H
  have fin1 : ∀ (x : Val) (y : Int), alone H (fnOut Tryz.prog [.cell 4 25, .tmp 5] 0 0 (some (.ret, [(4, .ptr 2 0), (5, .p (.int .i64 y))], ⟨[box25 a, box25 b, box25 x], []⟩))) = some (.ret (.tup [.p (enc x), .p (.int .i64 y)]), H) := fun x y => by
    rw [enc_eq x]
    simp [fnOut, retOut, resD, look, retsD, retD, argD, D.nf, D.pd?, oneD, D.noRefs, D.noRef, alone, Hp.cut, box25]
  have zb : box25 Val.zero = .cells [.p (.int .i64 0), .p (.int .i64 0), .p (.str ⟨#[]⟩), .p (.sl [])] := rfl
  cases hs : a.isSet with
  | false =>
    rw [hs] at h1
    have key : E false ⟨0, 0⟩ 34 code34 (mkF 0 [.p (enc a), .p (enc b)]) H00 = some (.ret, [(4, .ptr 2 0), (5, .p (.int .i64 2))], ⟨[box25 a, box25 b, zeroB], []⟩) := by
      simp [code34, Tryz.f34, h1, box25, zeroB, z25', build25, splice]
    rw [key, enc_zero]
    simp [fnOut, retOut, resD, retsD, retD, oneD, D.noRefs, D.noRef, alone, Hp.cut, zeroB]
  | true =>
    rw [hs] at h1
    cases hv : b.isSet with
    | false =>
      rw [hv] at h2
      have key : E false ⟨0, 0⟩ 34 code34 (mkF 0 [.p (enc a), .p (enc b)]) H00 = some (.ret, [(4, .ptr 2 0), (5, .p (.int .i64 2))], ⟨[box25 a, box25 b, zeroB], []⟩) := by
        simp [code34, Tryz.f34, h1, h2, box25, zeroB, z25', build25, splice]
      rw [key, enc_zero]
      simp [fnOut, retOut, resD, retsD, retD, oneD, D.noRefs, D.noRef, alone, Hp.cut, zeroB]
    | true =>
      rw [hv] at h2
      obtain ⟨va, _⟩ := isSet_valid hs
      obtain ⟨vb, _⟩ := isSet_valid hv
      obtain ⟨p1, p2, _⟩ := valid_parts va
      obtain ⟨q1, q2, _⟩ := valid_parts vb
      have la := valid_len va
      have lb := valid_len vb
      have na := (valid_fine va).2
      have nb := (valid_fine vb).2
      have ea := nodes_eq a
      have eb := nodes_eq b
      have h3 := fun H => joined_W a.ps b.ps (by omega) (by omega) p1 p2 q2 H
      have h4 := fun H => made_W (mg a.ps b.ps) (by have := nodesL_mg a.ps b.ps; omega) H
      unfold Made at h4 ⊢
      cases hf : (setV (mg a.ps b.ps)).fits with
      | true =>
        simp only [hf, if_true] at h4
        rw [enc_set] at h4
        have key : E false ⟨0, 0⟩ 34 code34 (mkF 0 [.p (enc a), .p (enc b)]) H00 = some (.ret, [(4, .ptr 2 0), (5, .p (.int .i64 0))], ⟨[box25 a, box25 b, box25 (setV (mg a.ps b.ps))], []⟩) := by
          simp [code34, Tryz.f34, h1, h2, h3, h4, box25, z25', build25, splice, buildSliceD, elsD, z23, cells_sl, one_sl]
        rw [key, fin1]; simp
      | false =>
        simp only [hf, Bool.false_eq_true, if_false] at h4
        rw [enc_zero] at h4
        have key : E false ⟨0, 0⟩ 34 code34 (mkF 0 [.p (enc a), .p (enc b)]) H00 = some (.ret, [(4, .ptr 2 0), (5, .p (.int .i64 3))], ⟨[box25 a, box25 b, box25 Val.zero], []⟩) := by
          rw [zb]
          simp [code34, Tryz.f34, h1, h2, h3, h4, box25, z25', build25, splice, buildSliceD, elsD, z23, cells_sl, one_sl]
        rw [key, fin1]; simp
end Go.Vi
end
