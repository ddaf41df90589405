/- It is proved here what the program's functions that read and write texts and bytes compute, the fourth part; conditions stand with each. -/
import Derived.Test.YtapnoihkfocgkaaGreatDoorMAC
set_option linter.unusedVariables false
set_option linter.unusedSimpArgs false

section
/- Vi: ref.Bytes (f49). No conditions. -/
namespace Go.Vi
open Go Go.Lib Go.Proofs
set_option maxRecDepth 100000
attribute [local simp] E_skip E_ret E_exit E_text E_draw E_seq E_cond E_block E_scope E_loop runOps runOp runDraw runVF runV finV gate FlOK wantD exec fin opd look putF norm constD constC fieldAddrD loadD storeD opCall lenD binD isShift intP strP numD indexAddrD indexD D.pd? D.pds? cells_enc sub capsOf callD argsD argD D.nf enc_agg unP box_enc cellD mkF H00 st1 cD_agg cD_pagg cD_int cD_bool cD_str cD_sl cD_lit cD_own

theorem rb_int (v : Val) (hv : v.k = 1) (h1 : -1000000000 ≤ v.n) (h2 : v.n ≤ 1000000000) :
    E false ⟨0, 0⟩ 49 code49 (mkF 0 [.p (enc v)]) H00 = some (.ret, [(2, .own 1 0)], ⟨[box25 v], [rb0, ⟨0, 5, 1, false, true, encU (1 :: num4 (v.n + 1000000000))⟩]⟩) := by
  have w1 : IntKind.u8.wrap v.k = 1 := by rw [hv]; exact u8w (by omega) (by omega)
  have w1' : IntKind.u8.wrap 1 = 1 := u8w (by omega) (by omega)
  have w2 : IntKind.i64.wrap (v.n + 1000000000) = v.n + 1000000000 := wrap64 (by omega) (by omega)
  obtain ⟨m, hm⟩ : ∃ m, v.n + 1000000000 = m := ⟨_, rfl⟩
  have m0 : 0 ≤ m := by omega
  have s1 : ∀ q : Nat, q ≤ 31 → shiftP .shr .i64 m q = some (.int .i64 (m / (2 ^ q : Int))) := fun q hq => by
    simp only [shiftP, IntKind.bits]
    rw [if_neg (by omega), Int.fdiv_eq_ediv_of_nonneg _ (by exact_mod_cast Nat.zero_le _)]
    simp
    rw [Nat.min_eq_left (by omega)]
  have s24 : shiftP .shr .i64 m 24 = some (.int .i64 (m / 16777216)) := by have := s1 24 (by omega); simpa using this
  have s16 : shiftP .shr .i64 m 16 = some (.int .i64 (m / 65536)) := by have := s1 16 (by omega); simpa using this
  have s8 : shiftP .shr .i64 m 8 = some (.int .i64 (m / 256)) := by have := s1 8 (by omega); simpa using this
  rw [hm] at w2
  simp only [num4, hm]
  simp [code49, Tryz.f49, hv, w1, w1', hm, w2, s24, s16, s8, convD, z5, zok5, splice, buildSliceD, elsD, one_int, cells_int, appendD, srcD, Hp.live, newRow, encU, u8m, fits, box25, rb0]
theorem rb_bool (v : Val) (hv : v.k = 2) (h1 : 0 ≤ v.n) (h2 : v.n ≤ 1) :
    E false ⟨0, 0⟩ 49 code49 (mkF 0 [.p (enc v)]) H00 = some (.ret, [(2, .own 1 0)], ⟨[box25 v], [rb0, ⟨0, 5, 1, false, true, encU [2, v.n]⟩]⟩) := by
  have w1' : IntKind.u8.wrap 2 = 2 := u8w (by omega) (by omega)
  have w2 : IntKind.u8.wrap v.n = v.n := u8w (by omega) (by omega)
  simp [code49, Tryz.f49, hv, w1', w2, convD, z5, zok5, splice, buildSliceD, elsD, one_int, cells_int, appendD, srcD, Hp.live, newRow, encU, fits, box25, rb0]
theorem rb_text (v : Val) (hv : v.k = 3) (ht : v.t.size ≤ 20) :
    E false ⟨0, 0⟩ 49 code49 (mkF 0 [.p (enc v)]) H00 = some (.ret, [(2, .own 1 1)], ⟨[box25 v], [rb0, ⟨1, 5, 1, false, true, encU (3 :: (v.t.size : Int) :: ba v.t)⟩]⟩) := by
  have w1' : IntKind.u8.wrap 3 = 3 := u8w (by omega) (by omega)
  have w2 : IntKind.u8.wrap (v.t.size : Int) = v.t.size := u8w (by omega) (by omega)
  have hb : (2 + v.t.size) ≤ 140737488355328 := by omega
  have hall : v.t.data.all (fun _ => true) 0 v.t.size = true := all_true v.t.data
  simp [code49, Tryz.f49, hv, w1', w2, convD, z5, zok5, splice, buildSliceD, elsD, one_int, cells_int, appendD, srcD, Hp.live, newRow, encU, ba, fits, hb, hall, box25, rb0]

def fr49 (i : Nat) : Fr := [(1, .ptr 0 0), (3, .own 1 i), (5, .p (.int .i64 i))]
def st49 (v : Val) (i : Nat) (l : List Int) : Hp := ⟨[box25 v], [rb0, rowB i l]⟩
theorem body49_end (v : Val) (l : List Int) : E false ⟨0, 0⟩ 49 lp49_0 (fr49 v.ps.length) (st49 v v.ps.length l) = some (.exit 1, fr49 v.ps.length ++ [(62, .p (.bool false))], st49 v v.ps.length l) := by
  simp [fr49, st49, box25, lp49_0, code49, Tryz.f49]
theorem body49_step (v : Val) (i : Nat) (l q : List Int) (hlt : i < v.ps.length) (hlen : v.ps.length ≤ 1000000) (hb : l.length + q.length ≤ 100000000)
    (hr : ∀ H, W 49 [.p (enc v.ps[i])] H = some (.ret (.p (.sl (encU q))), H)) :
    E false ⟨0, 0⟩ 49 lp49_0 (fr49 i) (st49 v i l) = some (.normal, fr49 (i + 1), st49 v (i + 1) (l ++ q)) := by
  have hw : IntKind.i64.wrap ((i : Int) + 1) = (i : Int) + 1 := wrap64 (by omega) (by omega)
  have hby : l.length + q.length ≤ 140737488355328 := by omega
  have e : encU (l ++ q) = encU l ++ encU q := by simp [encU]
  have fu := fit_u q
  simp [fr49, st49, rb0, rowB, box25, lp49_0, code49, Tryz.f49, hlt, hw, hr, zok5, splice, appendD, srcD, Hp.live, encU_len, hby, e, fu]
theorem loop49_ok (v : Val) (l0 : List Int) (hlen : v.ps.length ≤ 1000000) (hb : l0.length + (pks v.ps).length ≤ 100000000) (hrec : ∀ u ∈ v.ps, ∀ H, W 49 [.p (enc u)] H = some (.ret (.p (.sl (encU (pk u)))), H)) :
    ∀ (m i : Nat) (F : Fr), m = v.ps.length - i → i ≤ v.ps.length → norm [1, 3, 5] F = fr49 i →
    loopO false ⟨0, 0⟩ 49 lp49_0 1 2 F (st49 v i (l0 ++ pks (v.ps.take i))) = some (.exit 1, fr49 v.ps.length ++ [(62, .p (.bool false))], st49 v v.ps.length (l0 ++ pks v.ps)) := by
  have hcut : ∀ F i l, cutD ⟨0, 0⟩ [1, 3, 5] 1 2 F (st49 v i l) = some (norm [1, 3, 5] F, st49 v i l) := fun F i l => cut_full ⟨0, 0⟩ _ F (st49 v i l)
  intro m
  induction m with
  | zero =>
    intro i F hm hi hF
    have hie : i = v.ps.length := by omega
    subst hie
    rw [loopO_eq, hd49_0, hcut, hF]
    simp only [body49_end, List.take_length]
  | succ m ih =>
    intro i F hm hi hF
    have hlt : i < v.ps.length := by omega
    rw [loopO_eq, hd49_0, hcut, hF]
    have hbd : (l0 ++ pks (v.ps.take i)).length + (pk v.ps[i]).length ≤ 100000000 := by
      have h1 := pks_take v.ps i hlt
      have h2 := pks_take_len v.ps (i + 1)
      rw [h1, List.length_append] at h2
      rw [List.length_append]; omega
    simp only [body49_step v i _ _ hlt hlen hbd (hrec v.ps[i] (List.getElem_mem hlt))]
    rw [List.append_assoc, ← pks_take v.ps i hlt]
    exact ih (i + 1) (fr49 (i + 1)) (by omega) (by omega) rfl

theorem rb_list (v : Val) (k : Int) (hk : k = 4 ∨ k = 5) (hv : v.k = k) (hlen : v.ps.length ≤ 255) (hb : (pks v.ps).length ≤ 10000000)
    (hrec : ∀ u ∈ v.ps, ∀ H, W 49 [.p (enc u)] H = some (.ret (.p (.sl (encU (pk u)))), H)) :
    E false ⟨0, 0⟩ 49 code49 (mkF 0 [.p (enc v)]) H00 = some (.ret, [(2, .own 1 v.ps.length)], st49 v v.ps.length ([k, (v.ps.length : Int)] ++ pks v.ps)) := by
  have w2 : IntKind.u8.wrap (v.ps.length : Int) = v.ps.length := u8w (by omega) (by omega)
  have hloop := loop49_ok v [k, (v.ps.length : Int)] (by omega) (by simp; omega) hrec v.ps.length 0 (fr49 0) rfl (Nat.zero_le _) rfl
  have h00 : ((0 : Nat) : Int) = 0 := rfl
  have hn : pks [] = [] := rfl
  have eu : encU [k, (v.ps.length : Int)] = [.int .u8 k, .int .u8 v.ps.length] := rfl
  simp only [List.take_zero, hn, List.append_nil] at hloop
  rcases hk with rfl | rfl
  · have w1 : IntKind.u8.wrap 4 = 4 := u8w (by omega) (by omega)
    simp only [lp49_0, code49, Tryz.f49, fr49, st49, rb0, rowB, box25, h00, eu, hv] at hloop
    simp [code49, Tryz.f49, st49, box25, rb0, rowB, hv, w1, w2, convD, z5, zok5, splice, buildSliceD, elsD, one_int, cells_int, appendD, srcD, Hp.live, newRow, fits, hloop]
  · have w1 : IntKind.u8.wrap 5 = 5 := u8w (by omega) (by omega)
    simp only [lp49_0, code49, Tryz.f49, fr49, st49, rb0, rowB, box25, h00, eu, hv] at hloop
    simp [code49, Tryz.f49, st49, box25, rb0, rowB, hv, w1, w2, convD, z5, zok5, splice, buildSliceD, elsD, one_int, cells_int, appendD, srcD, Hp.live, newRow, fits, hloop]

theorem rbytes_step (v : Val) (h : v.shaped = true) (hn : v.nodes ≤ 250) (hrec : ∀ u ∈ v.ps, ∀ H, W 49 [.p (enc u)] H = some (.ret (.p (.sl (encU (pk u)))), H)) (H : Hp) : W 49 [.p (enc v)] H = some (.ret (.p (.sl (encU (pk v)))), H) := by
  refine W49_of rfl (by simp) ?_
  have en := nodes_eq v
  have h0 := nodesL_len v.ps
  have hl := pks_len v.ps (shaped_mem h)
  rw [pk_eq]
  rcases shaped_cases h with ⟨h1, h2, h3, h4, h5⟩ | ⟨h1, h2, h3, h4, h5⟩ | ⟨h1, h2, h3, h4, h5⟩ | ⟨h1, h2, h3, h4, h5⟩ | ⟨h1, h2, h3, h4⟩
  · rw [rb_int v h1 h2 h3, if_pos h1]
    simp [fnOut, retOut, resD, look, retsD, retD, argD, D.nf, D.pd?, oneD, D.noRefs, D.noRef, alone, Hp.cut, Hp.live, rb0]
  · rw [rb_bool v h1 h2 h3, if_neg (by omega), if_pos h1]
    simp [fnOut, retOut, resD, look, retsD, retD, argD, D.nf, D.pd?, oneD, D.noRefs, D.noRef, alone, Hp.cut, Hp.live, rb0]
  · rw [rb_text v h1 h4, if_neg (by omega), if_neg (by omega), if_pos h1]
    simp [fnOut, retOut, resD, look, retsD, retD, argD, D.nf, D.pd?, oneD, D.noRefs, D.noRef, alone, Hp.cut, Hp.live, rb0]
  · rw [rb_list v 4 (.inl rfl) h1 (by omega) (by omega) hrec, if_neg (by omega), if_neg (by omega), if_neg (by omega), h1]
    simp [fnOut, retOut, resD, look, retsD, retD, argD, D.nf, D.pd?, oneD, D.noRefs, D.noRef, alone, Hp.cut, Hp.live, st49, rb0, rowB]
  · rw [rb_list v 5 (.inr rfl) h1 (by omega) (by omega) hrec, if_neg (by omega), if_neg (by omega), if_neg (by omega), h1]
    simp [fnOut, retOut, resD, look, retsD, retD, argD, D.nf, D.pd?, oneD, D.noRefs, D.noRef, alone, Hp.cut, Hp.live, st49, rb0, rowB]
mutual
theorem rbytes_W : ∀ v : Val, v.shaped = true → v.nodes ≤ 250 → ∀ H, W 49 [.p (enc v)] H = some (.ret (.p (.sl (encU (pk v)))), H)
  | .mk k n t ps, h, hn => rbytes_step (.mk k n t ps) h hn (rbytess_W ps (shaped_mem h) (by have := nodes_eq (.mk k n t ps); simp only [ps_mk] at this; omega))
theorem rbytess_W : ∀ l : List Val, (∀ u ∈ l, u.shaped = true) → nodesL l ≤ 250 → ∀ u ∈ l, ∀ H, W 49 [.p (enc u)] H = some (.ret (.p (.sl (encU (pk u)))), H)
  | [], _, _, u, hu => by cases hu
  | v :: r, h, hn, u, hu => by
    have h1 := nodes_pos v
    have h2 := nodesL_pos r
    simp only [nodesL] at hn
    rcases List.mem_cons.1 hu with e | hu
    · rw [e]; exact rbytes_W v (h v (by simp)) (by omega)
    · exact rbytess_W r (fun x hx => h x (by simp [hx])) (by omega) u hu
end
end Go.Vi
end

section
/- Vi: what is packed is read back. No conditions. -/
namespace Go.Vi
open Go Go.Lib Go.Proofs

theorem drop_byI {b : List UInt8} {f : Nat} {x : Int} {r : List Int} (h : (bI b).drop f = x :: r) : f < b.length ∧ byI b f = x ∧ (bI b).drop (f + 1) = r := by
  have h1 : f < (bI b).length := by
    rcases Nat.lt_or_ge f (bI b).length with h1 | h1
    · exact h1
    · rw [List.drop_of_length_le h1] at h; cases h
  rw [List.drop_eq_getElem_cons h1] at h
  injection h with e1 e2
  have h2 : f < b.length := by rw [bI_len] at h1; exact h1
  exact ⟨h2, by rw [← bI_at b f h2]; exact e1, e2⟩
theorem bI_inj : ∀ {a c : List UInt8}, bI a = bI c → a = c
  | [], [], _ => rfl
  | [], _ :: _, h => by simp [bI] at h
  | _ :: _, [], h => by simp [bI] at h
  | x :: a, y :: c, h => by
    simp only [bI, List.map_cons] at h
    injection h with h1 h2
    have : x = y := UInt8.toNat_inj.1 (by exact_mod_cast h1)
    rw [this, bI_inj (a := a) (c := c) h2]
theorem drop_pre {α : Type} {b a r : List α} {f : Nat} (h : b.drop f = a ++ r) : b.drop (f + a.length) = r ∧ (b.drop f).take a.length = a := by
  constructor
  · have h2 := congrArg (List.drop a.length) h
    rwa [List.drop_drop, List.drop_left] at h2
  · rw [h, List.take_left]

def PB (d : Nat) (v : Val) : Prop := v.shaped = true → v.depth ≤ d → v.nodes ≤ 250 → ∀ (b : List UInt8) (f : Nat) (r : List Int), (bI b).drop f = pk v ++ r → un b d f = some (v, f + (pk v).length)
theorem loads_P {d : Nat} : ∀ (ps : List Val), (∀ u ∈ ps, PB d u) → (∀ u ∈ ps, u.shaped = true) → depthL ps ≤ d → nodesL ps ≤ 250 → ∀ (b : List UInt8) (f : Nat) (r : List Int), (bI b).drop f = pks ps ++ r →
    loads (rU b d) ps.length f 0 = some (ps, f + (pks ps).length, 0)
  | [], _, _, _, _, b, f, r, h => by simp [loads, pks]
  | p :: ps, hb, hs, hd, hn, b, f, r, h => by
    simp only [depthL] at hd
    simp only [nodesL] at hn
    have h0 := nodesL_pos ps
    have hp := nodes_pos p
    simp only [pks, List.append_assoc] at h
    have h1 := hb p (by simp) (hs p (by simp)) (by omega) (by omega) b f _ h
    have h2 := loads_P ps (fun u hu => hb u (by simp [hu])) (fun u hu => hs u (by simp [hu])) (by omega) (by omega) b (f + (pk p).length) r (drop_pre h).1
    have hu : rU b d f 0 = some (p, f + (pk p).length, 0) := by simp [rU, h1]
    simp only [List.length_cons, loads, hu, h2, pks, List.length_append]
    rw [Nat.add_assoc]
theorem un_P : ∀ (d : Nat) (v : Val), PB d v
  | 0, v => fun _ hd => by
    exfalso
    cases v with
    | mk k n t ps =>
      have := depthL_nn ps
      simp only [Val.depth] at hd
      omega
  | d + 1, v => fun hs hd hn b f r h => by
    rcases shaped_k v hs with ⟨n, rfl, h1, h2⟩ | rfl | rfl | ⟨t, rfl, ht⟩ | ⟨ps, rfl, hps⟩ | ⟨ps, rfl, hps⟩
    · have e : pk (.mk 1 n ⟨#[]⟩ []) = 1 :: num4 (n + 1000000000) := by rw [pk]; simp
      rw [e] at h ⊢
      simp only [num4, List.cons_append] at h
      obtain ⟨l0, b0, h⟩ := drop_byI h
      obtain ⟨l1, b1, h⟩ := drop_byI h
      obtain ⟨l2, b2, h⟩ := drop_byI h
      obtain ⟨l3, b3, h⟩ := drop_byI h
      obtain ⟨l4, b4, h⟩ := drop_byI h
      unfold un
      rw [if_neg (by omega), if_pos b0, if_neg (by omega)]
      have : x4 b f = n + 1000000000 := by
        unfold x4
        rw [b1, show f + 2 = f + 1 + 1 by omega, b2, show f + 3 = f + 1 + 1 + 1 by omega, b3, show f + 4 = f + 1 + 1 + 1 + 1 by omega, b4]
        omega
      rw [this, show n + 1000000000 - 1000000000 = n by omega]
      rfl
    · have e : pk (.mk 2 0 ⟨#[]⟩ []) = [2, 0] := by rw [pk]; simp
      rw [e] at h ⊢
      simp only [List.cons_append] at h
      obtain ⟨l0, b0, h⟩ := drop_byI h
      obtain ⟨l1, b1, h⟩ := drop_byI h
      unfold un
      rw [if_neg (by omega), if_neg (by omega), if_pos b0, if_neg (by omega), b1]
      rfl
    · have e : pk (.mk 2 1 ⟨#[]⟩ []) = [2, 1] := by rw [pk]; simp
      rw [e] at h ⊢
      simp only [List.cons_append] at h
      obtain ⟨l0, b0, h⟩ := drop_byI h
      obtain ⟨l1, b1, h⟩ := drop_byI h
      unfold un
      rw [if_neg (by omega), if_neg (by omega), if_pos b0, if_neg (by omega), b1]
      rfl
    · have e : pk (.mk 3 0 t []) = 3 :: (t.size : Int) :: ba t := by rw [pk]; simp
      rw [e] at h ⊢
      simp only [List.cons_append] at h
      obtain ⟨l0, b0, h⟩ := drop_byI h
      obtain ⟨l1, b1, h⟩ := drop_byI h
      have hl := congrArg List.length h
      rw [List.length_drop, bI_len, List.length_append, ba_len] at hl
      have ht2 := (drop_pre h).2
      have hseg : (b.drop (f + 1 + 1)).take t.size = t.data.toList := by
        apply bI_inj
        rw [ba_len] at ht2
        have : bI ((b.drop (f + 1 + 1)).take t.size) = ((bI b).drop (f + 1 + 1)).take t.size := by simp [bI, List.map_take, List.map_drop]
        rw [this, ht2]; rfl
      unfold un
      rw [if_neg (by omega), if_neg (by omega), if_neg (by omega), if_pos b0, b1]
      rw [show ((t.size : Int)).toNat = t.size by omega, if_neg (by omega), show f + 2 = f + 1 + 1 by omega, hseg]
      have et : (⟨t.data.toList.toArray⟩ : ByteArray) = t := by simp
      rw [et]
      simp only [List.length_cons, ba_len]
      rw [show f + 1 + 1 + t.size = f + (t.size + 1 + 1) by omega]
    all_goals
      simp only [Val.nodes] at hn
      simp only [Val.depth] at hd
      have h0 := nodesL_len ps
    · have e : pk (.mk 4 0 ⟨#[]⟩ ps) = 4 :: (ps.length : Int) :: pks ps := by rw [pk]; simp
      rw [e] at h ⊢
      simp only [List.cons_append] at h
      obtain ⟨l0, b0, h⟩ := drop_byI h
      obtain ⟨l1, b1, h⟩ := drop_byI h
      have hl := loads_P ps (fun u _ => un_P d u) hps (by omega) (by omega) b (f + 1 + 1) r h
      unfold un
      rw [if_neg (by omega), if_neg (by omega), if_neg (by omega), if_neg (by omega), if_pos (.inl b0), if_neg (by omega), b1, show ((ps.length : Int)).toNat = ps.length by omega, show f + 2 = f + 1 + 1 by omega]
      have hl' : loads (fun a x => Option.map (fun p => (p.1, p.2, (0 : Int))) (un b d a)) ps.length (f + 1 + 1) 0 = some (ps, f + 1 + 1 + (pks ps).length, 0) := hl
      rw [hl', b0]
      simp only [List.length_cons]
      rw [show f + 1 + 1 + (pks ps).length = f + ((pks ps).length + 1 + 1) by omega]
    · have e : pk (.mk 5 0 ⟨#[]⟩ ps) = 5 :: (ps.length : Int) :: pks ps := by rw [pk]; simp
      rw [e] at h ⊢
      simp only [List.cons_append] at h
      obtain ⟨l0, b0, h⟩ := drop_byI h
      obtain ⟨l1, b1, h⟩ := drop_byI h
      have hl := loads_P ps (fun u _ => un_P d u) hps (by omega) (by omega) b (f + 1 + 1) r h
      unfold un
      rw [if_neg (by omega), if_neg (by omega), if_neg (by omega), if_neg (by omega), if_pos (.inr b0), if_neg (by omega), b1, show ((ps.length : Int)).toNat = ps.length by omega, show f + 2 = f + 1 + 1 by omega]
      have hl' : loads (fun a x => Option.map (fun p => (p.1, p.2, (0 : Int))) (un b d a)) ps.length (f + 1 + 1) 0 = some (ps, f + 1 + 1 + (pks ps).length, 0) := hl
      rw [hl', b0]
      simp only [List.length_cons]
      rw [show f + 1 + 1 + (pks ps).length = f + ((pks ps).length + 1 + 1) by omega]

/-! ### The bytes as bytes -/
mutual
theorem pk_bd : ∀ v : Val, v.shaped = true → v.nodes ≤ 250 → ∀ x ∈ pk v, 0 ≤ x ∧ x ≤ 255
  | .mk k n t ps, h, hn => by
    have hm := shaped_mem h
    have h0 := nodesL_len ps
    have h3 := pks_bd ps hm (by simp only [Val.nodes] at hn; omega)
    simp only [Val.nodes] at hn
    intro x hx
    rw [pk_eq] at hx
    simp only [k_mk, n_mk, t_mk, ps_mk] at hx
    rcases shaped_cases h with ⟨h1, h2, _⟩ | ⟨h1, h2, h4, _⟩ | ⟨h1, h2, _, h4, _⟩ | ⟨h1, h2⟩ | ⟨h1, h2⟩ <;> simp only [k_mk] at h1 <;> simp only [h1, if_true, Int.reduceEq, if_false] at hx
    · simp only [num4, List.mem_cons, List.not_mem_nil, or_false] at hx
      rcases hx with rfl | rfl | rfl | rfl | rfl <;> omega
    · simp only [n_mk] at h2 h4
      simp only [List.mem_cons, List.not_mem_nil, or_false] at hx
      rcases hx with rfl | rfl <;> omega
    · simp only [t_mk] at h4
      simp only [List.mem_cons] at hx
      rcases hx with rfl | rfl | hx
      · omega
      · omega
      · simp only [ba, List.mem_map] at hx
        obtain ⟨c, _, rfl⟩ := hx
        have := c.toNat_lt
        omega
    · simp only [List.mem_cons] at hx
      rcases hx with rfl | rfl | hx
      · omega
      · omega
      · exact h3 x hx
    · simp only [List.mem_cons] at hx
      rcases hx with rfl | rfl | hx
      · omega
      · omega
      · exact h3 x hx
theorem pks_bd : ∀ l : List Val, (∀ u ∈ l, u.shaped = true) → nodesL l ≤ 250 → ∀ x ∈ pks l, 0 ≤ x ∧ x ≤ 255
  | [], _, _, x, hx => by simp [pks] at hx
  | v :: r, h, hn, x, hx => by
    simp only [nodesL] at hn
    have h1 := nodes_pos v
    have h2 := nodesL_pos r
    simp only [pks, List.mem_append] at hx
    rcases hx with hx | hx
    · exact pk_bd v (h v (by simp)) (by omega) x hx
    · exact pks_bd r (fun u hu => h u (by simp [hu])) (by omega) x hx
end
def bytesOf (l : List Int) : List UInt8 := l.map fun x => UInt8.ofNat x.toNat
theorem bI_of : ∀ l : List Int, (∀ x ∈ l, 0 ≤ x ∧ x ≤ 255) → bI (bytesOf l) = l
  | [], _ => rfl
  | x :: r, h => by
    have hx := h x (by simp)
    have ih := bI_of r (fun y hy => h y (by simp [hy]))
    simp only [bI, bytesOf, List.map_cons, List.map_map] at ih ⊢
    rw [ih]
    congr 1
    simp; omega
theorem pLoad_pk {v : Val} (hv : v.valid = true) : ∃ b : List UInt8, bI b = pk v ∧ b.length ≤ 6000 ∧ pLoad b = some v := by
  obtain ⟨⟨hn, hd⟩, hs⟩ := (valid_iff v).1 hv
  have e := bI_of (pk v) (pk_bd v hs (by omega))
  have hl := pk_len v hs
  refine ⟨bytesOf (pk v), e, ?_, ?_⟩
  · rw [← bI_len, e]; omega
  · have h := un_P 8 v hs (by omega) (by omega) (bytesOf (pk v)) 0 [] (by rw [List.drop_zero, List.append_nil, e])
    unfold pLoad
    rw [h]
    simp only
    rw [if_pos ⟨hv, e.symm⟩]
end Go.Vi
end
