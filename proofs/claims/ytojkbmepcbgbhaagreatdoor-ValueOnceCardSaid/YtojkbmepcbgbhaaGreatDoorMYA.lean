/- It is proved here what the program's function that packs a value computes; conditions stand with each. -/
import Derived.Test.YtojkbmepcbgbhaaGreatDoorMX
set_option linter.unusedVariables false
set_option linter.unusedSimpArgs false

section
/- Vi: value.packed (f92), value.Bytes (f46), slices.Equal (f95). No conditions. -/
namespace Go.Vi
open Go Go.Lib Go.Proofs
set_option maxRecDepth 100000
attribute [local simp] E_skip E_ret E_exit E_text E_draw E_seq E_cond E_block E_scope E_loop runOps runOp runDraw runVF runV finV gate FlOK wantD exec fin opd look putF norm constD constC fieldAddrD loadD storeD opCall lenD binD isShift intP strP numD indexAddrD indexD D.pd? D.pds? cells_enc sub capsOf callD argsD argD D.nf enc_agg unP box_enc cellD mkF H00 st1 cD_agg cD_pagg cD_int cD_bool cD_str cD_sl cD_lit cD_own

def encU (l : List Int) : List PD := l.map (PD.int .u8)
theorem fit_u (l : List Int) : fits 1 (encU l) = true := by simp [fits, encU, one_int, cells_int]
theorem encU_len (l : List Int) : (encU l).length = l.length := by simp [encU]
def ba (t : ByteArray) : List Int := t.data.toList.map fun c => (c.toNat : Int)
def num4 (m : Int) : List Int := [m / 16777216 % 256, m / 65536 % 256, m / 256 % 256, m % 256]

mutual
def pk : Val → List Int
  | .mk k n t ps =>
    if k = 1 then 1 :: num4 (n + 1000000000)
    else if k = 2 then [2, n]
    else if k = 3 then 3 :: (t.size : Int) :: ba t
    else k :: (ps.length : Int) :: pks ps
def pks : List Val → List Int
  | [] => []
  | v :: r => pk v ++ pks r
end
theorem zok5 : zOK Tryz.prog 5 1 = true := by kernel_rfl
theorem z5 : zeroOf Tryz.prog 5 = some (.int .u8 0) := by kernel_rfl
theorem u8w {x : Int} (h : 0 ≤ x) (h2 : x ≤ 255) : IntKind.u8.wrap x = x := by simp [IntKind.wrap, IntKind.bits, IntKind.signed]; omega
theorem u8m (x : Int) : IntKind.u8.wrap x = x % 256 := by simp [IntKind.wrap, IntKind.bits, IntKind.signed]
theorem u32w {x : Int} (h : 0 ≤ x) (h2 : x ≤ 4294967295) : IntKind.u32.wrap x = x := by simp [IntKind.wrap, IntKind.bits, IntKind.signed]; omega

def fin92 (H : Hp) (B : List Blk) (A : List Arr) (m : Nat) (l : List Int) : Prop := alone H (fnOut Tryz.prog [.tmp 2] 0 0 (some (.ret, [(2, .own 1 m)], ⟨B, A⟩))) = some (.ret (.p (.sl (encU l))), H)

theorem pack_int (n : Int) (h1 : -1000000000 ≤ n) (h2 : n ≤ 1000000000) (v : Val) (hv : v.k = 1) (hk : v.kind = .ifc 120 (.agg [.int .i64 n])) :
    ∃ B, E false ⟨0, 0⟩ 93 code93 (mkF 0 [.p (enc v)]) H00 = some (.ret, [(2, .own 1 0)], ⟨B, [⟨0, 5, 1, true, true, []⟩, ⟨0, 5, 1, false, true, encU (1 :: num4 (n + 1000000000))⟩]⟩) := by
  have h117 := fun H => of_W v H
  rw [hk] at h117
  have w1 : IntKind.u8.wrap v.k = 1 := by rw [hv]; exact u8w (by omega) (by omega)
  have w2 : IntKind.i64.wrap (n + 1000000000) = n + 1000000000 := wrap64 (by omega) (by omega)
  have w3 : IntKind.u32.wrap (n + 1000000000) = n + 1000000000 := u32w (by omega) (by omega)
  have s1 : ∀ q : Nat, q ≤ 31 → shiftP .shr .u32 (n + 1000000000) q = some (.int .u32 ((n + 1000000000) / (2 ^ q : Int))) := fun q hq => by
    simp only [shiftP, IntKind.bits]
    rw [if_neg (by omega), Int.fdiv_eq_ediv_of_nonneg _ (by exact_mod_cast Nat.zero_le _)]
    simp
    rw [Nat.min_eq_left (by omega)]
  obtain ⟨_, s119⟩ := us119
  have s24 : shiftP .shr .u32 (n + 1000000000) 24 = some (.int .u32 ((n + 1000000000) / 16777216)) := by have := s1 24 (by omega); simpa using this
  have s16 : shiftP .shr .u32 (n + 1000000000) 16 = some (.int .u32 ((n + 1000000000) / 65536)) := by have := s1 16 (by omega); simpa using this
  have s8 : shiftP .shr .u32 (n + 1000000000) 8 = some (.int .u32 ((n + 1000000000) / 256)) := by have := s1 8 (by omega); simpa using this
  exact ⟨_, by simp [code93, Tryz.f93, h117, assertD, s119, w1, w2, w3, s24, s16, s8, convD, z119, z5, zok5, splice, buildSliceD, elsD, one_int, cells_int, appendD, srcD, Hp.live, newRow, encU, num4, u8m, fits]; rfl⟩

theorem pack_bool (n : Int) (h1 : 0 ≤ n) (h2 : n ≤ 1) (v : Val) (hv : v.k = 2) (hk : v.kind = .ifc 121 (.agg [.int .i64 n])) :
    ∃ B, E false ⟨0, 0⟩ 93 code93 (mkF 0 [.p (enc v)]) H00 = some (.ret, [(2, .own 1 0)], ⟨B, [⟨0, 5, 1, true, true, []⟩, ⟨0, 5, 1, false, true, encU [2, n]⟩]⟩) := by
  have h117 := fun H => of_W v H
  rw [hk] at h117
  have w1 : IntKind.u8.wrap v.k = 2 := by rw [hv]; exact u8w (by omega) (by omega)
  have w2 : IntKind.u8.wrap n = n := u8w (by omega) (by omega)
  obtain ⟨_, s119⟩ := us119
  obtain ⟨_, s120⟩ := us120
  exact ⟨_, by simp [code93, Tryz.f93, h117, assertD, s119, s120, w1, w2, convD, z119, z120, z5, zok5, splice, buildSliceD, elsD, one_int, cells_int, appendD, srcD, Hp.live, newRow, encU, fits]; rfl⟩

theorem ba_len (t : ByteArray) : (ba t).length = t.size := by rw [ba, List.length_map]; rfl
theorem all_true {α : Type} (a : Array α) : a.all (fun _ => true) = true := by simp
theorem pack_text (t : ByteArray) (ht : t.size ≤ 255) (v : Val) (hv : v.k = 3) (hk : v.kind = .ifc 124 (.agg [.str t])) :
    ∃ B, E false ⟨0, 0⟩ 93 code93 (mkF 0 [.p (enc v)]) H00 = some (.ret, [(2, .own 1 1)], ⟨B, [⟨0, 5, 1, true, true, []⟩, ⟨1, 5, 1, false, true, encU (3 :: (t.size : Int) :: ba t)⟩]⟩) := by
  have h117 := fun H => of_W v H
  rw [hk] at h117
  have w1 : IntKind.u8.wrap v.k = 3 := by rw [hv]; exact u8w (by omega) (by omega)
  have w2 : IntKind.u8.wrap (t.size : Int) = t.size := u8w (by omega) (by omega)
  obtain ⟨_, s119⟩ := us119
  obtain ⟨_, s120⟩ := us120
  obtain ⟨_, s123⟩ := us123
  have hb : (2 + t.size) ≤ 140737488355328 := by omega
  have hall : t.data.all (fun _ => true) 0 t.size = true := all_true t.data
  exact ⟨_, by simp [code93, Tryz.f93, h117, assertD, s119, s120, s123, w1, w2, convD, z119, z120, z123, z5, zok5, splice, buildSliceD, elsD, one_int, cells_int, appendD, srcD, Hp.live, newRow, encU, ba, fits, hb, hall]; rfl⟩
end Go.Vi
end

section
/- Vi: value.packed (f92) whole, value.Bytes (f46), slices.Equal (f95). No conditions. -/
namespace Go.Vi
open Go Go.Lib Go.Proofs
set_option maxRecDepth 100000
attribute [local simp] E_skip E_ret E_exit E_text E_draw E_seq E_cond E_block E_scope E_loop runOps runOp runDraw runVF runV finV gate FlOK wantD exec fin opd look putF norm constD constC fieldAddrD loadD storeD opCall lenD binD isShift intP strP numD indexAddrD indexD D.pd? D.pds? cells_enc sub capsOf callD argsD argD D.nf enc_agg unP box_enc cellD mkF H00 st1 cD_agg cD_pagg cD_int cD_bool cD_str cD_sl cD_lit cD_own

theorem pks_app : ∀ a b : List Val, pks (a ++ b) = pks a ++ pks b
  | [], b => rfl
  | v :: r, b => by simp [pks, pks_app r b]
theorem pks_take (l : List Val) (i : Nat) (h : i < l.length) : pks (l.take (i + 1)) = pks (l.take i) ++ pk l[i] := by
  rw [List.take_succ_eq_append_getElem h, pks_app]; simp [pks]
theorem pks_take_len (l : List Val) (i : Nat) : (pks (l.take i)).length ≤ (pks l).length := by
  have h := pks_app (l.take i) (l.drop i)
  rw [List.take_append_drop] at h
  rw [h, List.length_append]; omega

def rb0 : Arr := ⟨0, 5, 1, true, true, []⟩
def rowB (m : Nat) (l : List Int) : Arr := ⟨m, 5, 1, false, true, encU l⟩
def fr92 (ps : List Val) (i : Nat) : Fr := [(3, .own 1 i), (67, .p (.sl (ps.map enc))), (68, .p (.int .i64 ps.length)), (69, .p (.int .i64 i))]
def st92 (v : Val) (ex : List Blk) (i : Nat) (l : List Int) : Hp := ⟨box25 v :: ex, [rb0, rowB i l]⟩

theorem body92_end (v : Val) (ps : List Val) (l : List Int) : E false ⟨0, 0⟩ 93 lp93_0 (fr92 ps ps.length) (st92 v [] ps.length l) = some (.exit 1, fr92 ps ps.length ++ [(70, .p (.bool false))], st92 v [] ps.length l) := by
  simp [fr92, st92, lp93_0, code93, Tryz.f93]

theorem body92_step (v : Val) (ps : List Val) (i : Nat) (l q : List Int) (hlt : i < ps.length) (hlen : ps.length ≤ 1000000) (hb : l.length + q.length ≤ 100000000)
    (hr : ∀ H, W 93 [.p (enc ps[i])] H = some (.ret (.p (.sl (encU q))), H)) :
    E false ⟨0, 0⟩ 93 lp93_0 (fr92 ps i) (st92 v [] i l) = some (.normal, fr92 ps (i + 1), st92 v [box25 ps[i]] (i + 1) (l ++ q)) := by
  have hw : IntKind.i64.wrap ((i : Int) + 1) = (i : Int) + 1 := wrap64 (by omega) (by omega)
  have hby : l.length + q.length ≤ 140737488355328 := by omega
  have e : encU (l ++ q) = encU l ++ encU q := by simp [encU]
  have fu := fit_u q
  simp [fr92, st92, rb0, rowB, box25, lp93_0, code93, Tryz.f93, hlt, hw, hr, z25', zok5, splice, appendD, srcD, Hp.live, encU_len, hby, e, fu]

theorem cut92 (v : Val) (ex : List Blk) (ps : List Val) (i : Nat) (l : List Int) (F : Fr) (hF : norm [3, 67, 68, 69] F = fr92 ps i) : cutD ⟨0, 0⟩ [3, 67, 68, 69] 1 2 F (st92 v ex i l) = some (fr92 ps i, st92 v [] i l) := by
  simp only [cutD, hF]
  simp [fr92, st92, box25, frNo, blkNo, D.noRefs, D.noRef, Hp.cut]

theorem loop92_ok (v : Val) (ps : List Val) (l0 : List Int) (hlen : ps.length ≤ 1000000) (hb : l0.length + (pks ps).length ≤ 100000000) (hrec : ∀ u ∈ ps, ∀ H, W 93 [.p (enc u)] H = some (.ret (.p (.sl (encU (pk u)))), H)) :
    ∀ (m i : Nat) (F : Fr) (ex : List Blk), m = ps.length - i → i ≤ ps.length → norm [3, 67, 68, 69] F = fr92 ps i →
    loopO false ⟨0, 0⟩ 93 lp93_0 1 2 F (st92 v ex i (l0 ++ pks (ps.take i))) = some (.exit 1, fr92 ps ps.length ++ [(70, .p (.bool false))], st92 v [] ps.length (l0 ++ pks ps)) := by
  intro m
  induction m with
  | zero =>
    intro i F ex hm hi hF
    have hie : i = ps.length := by omega
    subst hie
    rw [loopO_eq, hd93_0, cut92 v ex ps _ _ F hF]
    simp only [body92_end, List.take_length]
  | succ m ih =>
    intro i F ex hm hi hF
    have hlt : i < ps.length := by omega
    rw [loopO_eq, hd93_0, cut92 v ex ps _ _ F hF]
    have hbd : (l0 ++ pks (ps.take i)).length + (pk ps[i]).length ≤ 100000000 := by
      have h1 := pks_take ps i hlt
      have h2 := pks_take_len ps (i + 1)
      rw [h1, List.length_append] at h2
      rw [List.length_append]; omega
    simp only [body92_step v ps i _ _ hlt hlen hbd (hrec ps[i] (List.getElem_mem hlt))]
    rw [List.append_assoc, ← pks_take ps i hlt]
    exact ih (i + 1) (fr92 ps (i + 1)) _ (by omega) (by omega) rfl

theorem pack_list (v : Val) (T : TypeId) (k : Int) (hkT : (k = 4 ∧ T = 126) ∨ (k = 5 ∧ T = 145)) (hv : v.k = k) (hk : v.kind = .ifc T (.agg [.sl (v.ps.map enc)])) (hlen : v.ps.length ≤ 255) (hb : (pks v.ps).length ≤ 10000000)
    (hrec : ∀ u ∈ v.ps, ∀ H, W 93 [.p (enc u)] H = some (.ret (.p (.sl (encU (pk u)))), H)) :
    E false ⟨0, 0⟩ 93 code93 (mkF 0 [.p (enc v)]) H00 = some (.ret, [(2, .own 1 v.ps.length)], st92 v [] v.ps.length ([k, (v.ps.length : Int)] ++ pks v.ps)) := by
  have h117 := fun H => of_W v H
  rw [hk] at h117
  have w2 : IntKind.u8.wrap (v.ps.length : Int) = v.ps.length := u8w (by omega) (by omega)
  obtain ⟨_, s119⟩ := us119
  obtain ⟨_, s120⟩ := us120
  obtain ⟨_, s123⟩ := us123
  obtain ⟨_, s125⟩ := us125
  obtain ⟨_, s144⟩ := us144
  have hloop := loop92_ok v v.ps [k, (v.ps.length : Int)] (by omega) (by simp; omega) hrec v.ps.length 0 (fr92 v.ps 0) [] rfl (Nat.zero_le _) rfl
  have h00 : ((0 : Nat) : Int) = 0 := rfl
  have hn : pks [] = [] := rfl
  have eu : encU [k, (v.ps.length : Int)] = [.int .u8 k, .int .u8 v.ps.length] := rfl
  simp only [List.take_zero, hn, List.append_nil] at hloop
  rcases hkT with ⟨rfl, rfl⟩ | ⟨rfl, rfl⟩
  · have w1 : IntKind.u8.wrap v.k = 4 := by rw [hv]; exact u8w (by omega) (by omega)
    simp only [lp93_0, code93, Tryz.f93, fr92, st92, rb0, rowB, box25, h00, eu] at hloop
    simp [code93, Tryz.f93, st92, box25, rb0, rowB, h117, assertD, s119, s120, s123, s125, w1, w2, convD, z119, z120, z123, z5, zok5, splice, buildSliceD, elsD, one_int, cells_int, appendD, srcD, Hp.live, newRow, fits, hloop]
  · have w1 : IntKind.u8.wrap v.k = 5 := by rw [hv]; exact u8w (by omega) (by omega)
    simp only [lp93_0, code93, Tryz.f93, fr92, st92, rb0, rowB, box25, h00, eu] at hloop
    simp [code93, Tryz.f93, st92, box25, rb0, rowB, h117, assertD, s119, s120, s123, s144, w1, w2, convD, z119, z120, z123, z5, zok5, splice, buildSliceD, elsD, one_int, cells_int, appendD, srcD, Hp.live, newRow, fits, hloop]

theorem shaped_cases {v : Val} (h : v.shaped = true) : (v.k = 1 ∧ -1000000000 ≤ v.n ∧ v.n ≤ 1000000000 ∧ v.t = ⟨#[]⟩ ∧ v.ps = []) ∨ (v.k = 2 ∧ 0 ≤ v.n ∧ v.n ≤ 1 ∧ v.t = ⟨#[]⟩ ∧ v.ps = []) ∨
    (v.k = 3 ∧ v.n = 0 ∧ letters v.t = true ∧ v.t.size ≤ 20 ∧ v.ps = []) ∨ (v.k = 4 ∧ v.n = 0 ∧ v.t = ⟨#[]⟩ ∧ 2 ≤ v.ps.length ∧ v.ps.length ≤ 6) ∨ (v.k = 5 ∧ v.n = 0 ∧ v.t = ⟨#[]⟩ ∧ sortedL v.ps = true) := by
  rw [shaped_eq, Bool.and_eq_true] at h
  have ho := h.2
  have empty : v.ps.length = 0 → v.ps = [] := List.eq_nil_of_length_eq_zero
  by_cases h1 : v.k = 1
  · simp only [own75, h1, if_true, inB, Bool.and_eq_true, decide_eq_true_eq] at ho
    exact .inl ⟨h1, ho.1.1.1, ho.1.1.2, ho.1.2, empty ho.2⟩
  by_cases h2 : v.k = 2
  · simp only [own75, h2, if_true, inB, Bool.and_eq_true, decide_eq_true_eq] at ho
    simp at ho
    exact .inr (.inl ⟨h2, ho.1.1.1, ho.1.1.2, ho.1.2, ho.2⟩)
  by_cases h3 : v.k = 3
  · simp only [own75, h3, if_true, Bool.and_eq_true, decide_eq_true_eq] at ho
    simp at ho
    refine .inr (.inr (.inl ⟨h3, ho.1.1, ho.1.2, ?_, ho.2⟩))
    have := ho.1.2
    simp only [letters, Bool.and_eq_true, decide_eq_true_eq] at this
    exact this.2
  by_cases h4 : v.k = 4
  · simp only [own75, h4, if_true, inB, Bool.and_eq_true, decide_eq_true_eq] at ho
    simp at ho
    exact .inr (.inr (.inr (.inl ⟨h4, ho.1.1, ho.1.2, by omega, by omega⟩)))
  by_cases h5 : v.k = 5
  · simp only [own75, h5, if_true, Bool.and_eq_true, decide_eq_true_eq] at ho
    simp at ho
    exact .inr (.inr (.inr (.inr ⟨h5, ho.2.1, ho.2.2, ho.1⟩)))
  · simp [own75, h1, h2, h3, h4, h5] at ho

theorem pk_eq (v : Val) : pk v = if v.k = 1 then 1 :: num4 (v.n + 1000000000) else if v.k = 2 then [2, v.n] else if v.k = 3 then 3 :: (v.t.size : Int) :: ba v.t else v.k :: (v.ps.length : Int) :: pks v.ps := by
  cases v; rw [pk]; rfl

mutual
theorem pk_len : ∀ v : Val, v.shaped = true → ((pk v).length : Int) ≤ 25 * v.nodes
  | .mk k n t ps, h => by
    have hp := pks_len ps (shaped_mem h)
    have h0 := nodesL_pos ps
    have hn := nodes_eq (.mk k n t ps)
    rw [pk_eq]
    generalize (Val.mk k n t ps).nodes = N at *
    simp only [k_mk, n_mk, t_mk, ps_mk] at hn ⊢
    rcases shaped_cases h with ⟨h1, h2⟩ | ⟨h1, h2⟩ | ⟨h1, h2, _, h3, _⟩ | ⟨h1, h2⟩ | ⟨h1, h2⟩ <;> simp only [k_mk, n_mk, t_mk, ps_mk] at h1 <;> simp only [h1, if_true]
    · simp [num4]; omega
    · simp; omega
    · simp only [k_mk, n_mk, t_mk, ps_mk] at h3
      simp [ba_len]; omega
    · simp; omega
    · simp; omega
theorem pks_len : ∀ l : List Val, (∀ u ∈ l, u.shaped = true) → ((pks l).length : Int) ≤ 25 * nodesL l
  | [], _ => by simp [pks, nodesL]
  | v :: r, h => by
    have h1 := pk_len v (h v (by simp))
    have h2 := pks_len r (fun u hu => h u (by simp [hu]))
    simp only [pks, nodesL, List.length_append]
    omega
end

theorem packed_step (v : Val) (h : v.shaped = true) (hn : v.nodes ≤ 250) (hrec : ∀ u ∈ v.ps, ∀ H, W 93 [.p (enc u)] H = some (.ret (.p (.sl (encU (pk u)))), H)) (H : Hp) : W 93 [.p (enc v)] H = some (.ret (.p (.sl (encU (pk v)))), H) := by
  refine W93_of rfl (by simp) ?_
  have en := nodes_eq v
  have h0 := nodesL_len v.ps
  rw [pk_eq]
  rcases shaped_cases h with ⟨h1, h2, h3, h4, h5⟩ | ⟨h1, h2, h3, h4, h5⟩ | ⟨h1, h2, h3, h4, h5⟩ | ⟨h1, h2, h3, h4, h5⟩ | ⟨h1, h2, h3, h4⟩
  · have hk : v.kind = .ifc 120 (.agg [.int .i64 v.n]) := by simp [Val.kind, h1, h4, h5]
    obtain ⟨B, key⟩ := pack_int v.n h2 h3 v h1 hk
    rw [key, if_pos h1]
    simp [fnOut, retOut, resD, look, retsD, retD, argD, D.nf, D.pd?, oneD, D.noRefs, D.noRef, alone, Hp.cut, Hp.live]
  · have hk : v.kind = .ifc 121 (.agg [.int .i64 v.n]) := by simp [Val.kind, h1, h4, h5]
    obtain ⟨B, key⟩ := pack_bool v.n h2 h3 v h1 hk
    rw [key, if_neg (by omega), if_pos h1]
    simp [fnOut, retOut, resD, look, retsD, retD, argD, D.nf, D.pd?, oneD, D.noRefs, D.noRef, alone, Hp.cut, Hp.live]
  · have hk : v.kind = .ifc 124 (.agg [.str v.t]) := by simp [Val.kind, h1, h2, h5]
    obtain ⟨B, key⟩ := pack_text v.t (by omega) v h1 hk
    rw [key, if_neg (by omega), if_neg (by omega), if_pos h1]
    simp [fnOut, retOut, resD, look, retsD, retD, argD, D.nf, D.pd?, oneD, D.noRefs, D.noRef, alone, Hp.cut, Hp.live]
  · have hk : v.kind = .ifc 126 (.agg [.sl (v.ps.map enc)]) := by simp [Val.kind, h1, h2, h3]
    have hl := pks_len v.ps (shaped_mem h)
    rw [pack_list v 126 4 (.inl ⟨rfl, rfl⟩) h1 hk (by omega) (by omega) hrec, if_neg (by omega), if_neg (by omega), if_neg (by omega), h1]
    simp [fnOut, retOut, resD, look, retsD, retD, argD, D.nf, D.pd?, oneD, D.noRefs, D.noRef, alone, Hp.cut, Hp.live, st92, rb0, rowB]
  · have hk : v.kind = .ifc 145 (.agg [.sl (v.ps.map enc)]) := by simp [Val.kind, h1, h2, h3]
    have hl := pks_len v.ps (shaped_mem h)
    rw [pack_list v 145 5 (.inr ⟨rfl, rfl⟩) h1 hk (by omega) (by omega) hrec, if_neg (by omega), if_neg (by omega), if_neg (by omega), h1]
    simp [fnOut, retOut, resD, look, retsD, retD, argD, D.nf, D.pd?, oneD, D.noRefs, D.noRef, alone, Hp.cut, Hp.live, st92, rb0, rowB]

mutual
theorem packed_W : ∀ v : Val, v.shaped = true → v.nodes ≤ 250 → ∀ H, W 93 [.p (enc v)] H = some (.ret (.p (.sl (encU (pk v)))), H)
  | .mk k n t ps, h, hn => packed_step (.mk k n t ps) h hn (packeds_W ps (shaped_mem h) (by have := nodes_eq (.mk k n t ps); simp only [ps_mk] at this; omega))
theorem packeds_W : ∀ l : List Val, (∀ u ∈ l, u.shaped = true) → nodesL l ≤ 250 → ∀ u ∈ l, ∀ H, W 93 [.p (enc u)] H = some (.ret (.p (.sl (encU (pk u)))), H)
  | [], _, _, u, hu => by cases hu
  | v :: r, h, hn, u, hu => by
    have h1 := nodes_pos v
    have h2 := nodesL_pos r
    simp only [nodesL] at hn
    rcases List.mem_cons.1 hu with e | hu
    · rw [e]; exact packed_W v (h v (by simp)) (by omega)
    · exact packeds_W r (fun x hx => h x (by simp [hx])) (by omega) u hu
end

theorem bytes46_W (v : Val) (H : Hp) : W 47 [.p (enc v)] H = some (.ret (.tup (if v.valid = true then [.p (.sl (encU (pk v))), .p (.int .i64 0)] else [.p (.sl []), .p (.int .i64 2)])), H) := by
  refine W47_of rfl (by simp) ?_
  have h1 := fun H => valid71_W v H
  cases hv : v.valid with
  | false =>
    rw [hv] at h1
    have key : E false ⟨0, 0⟩ 47 code47 (mkF 0 [.p (enc v)]) H00 = some (.ret, [(2, .own 1 0), (3, .p (.int .i64 2))], ⟨[box25 v], [rb0, rb0]⟩) := by
      simp [code47, Tryz.f47, box25, rb0, h1, newRow]
    rw [key]
    simp [fnOut, retOut, resD, look, retsD, retD, argD, D.nf, D.pd?, oneD, D.noRefs, D.noRef, alone, Hp.cut, Hp.live, rb0]
  | true =>
    rw [hv] at h1
    have h2 := fun H => packed_W v (valid_shaped hv) (by have := (valid_fine hv).2; omega) H
    have key : ∃ A, E false ⟨0, 0⟩ 47 code47 (mkF 0 [.p (enc v)]) H00 = some (.ret, [(2, .p (.sl (encU (pk v)))), (3, .p (.int .i64 0))], ⟨[box25 v], A⟩) :=
      ⟨_, by simp [code47, Tryz.f47, box25, h1, h2, newRow]; rfl⟩
    obtain ⟨A, key⟩ := key
    rw [key]
    simp [fnOut, retOut, resD, look, retsD, retD, argD, D.nf, D.pd?, oneD, D.noRefs, D.noRef, alone, Hp.cut]
end Go.Vi
end
