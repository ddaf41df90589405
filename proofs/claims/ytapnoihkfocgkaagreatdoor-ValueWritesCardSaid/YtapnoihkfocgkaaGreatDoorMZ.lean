/- It is proved here what the program's functions that read and write bytes compute, the second part; conditions stand with each. -/
import Derived.Test.YtapnoihkfocgkaaGreatDoorMY
set_option linter.unusedVariables false
set_option linter.unusedSimpArgs false

section
/- Vi: the reader's unpacked (f94). No conditions. -/
namespace Go.Vi
open Go Go.Lib Go.Proofs
set_option maxRecDepth 100000

mutual
theorem blk_mono {nB nA nB' nA' : Nat} (hB : nB ≤ nB') (hA : nA ≤ nA') : ∀ (b : Blk), blkNo nB nA b = true → blkNo nB' nA' b = true
  | .cells l, h => noRefs_mono hB hA l h
  | .sit _ _, _ => rfl
  | .lp _ _ _ F _ _ _, h => by
    simp only [blkNo, frNo, List.all_eq_true] at h ⊢
    exact fun p hp => noRef_mono hB hA p.2 (h p hp)
end

/-- The caller's memory, with the reader at any place. -/
structure Rd (s : ByteArray) (q n nA : Nat) (M : Nat → List Blk) : Prop where
  len : ∀ a, (M a).length = n
  all : ∀ a, (M a).all (blkNo n nA) = true
  at_ : ∀ a, (M a)[q]? = some (rdr s a)
  set : ∀ a b : Nat, (M a).set q (rdr s (b : Int)) = M b

theorem Rd.lt {s : ByteArray} {q n nA : Nat} {M : Nat → List Blk} (h : Rd s q n nA M) : q < n := by
  have := (List.getElem?_eq_some_iff.1 (h.at_ 0)).1
  rw [h.len] at this; exact this

/-- More blocks behind it. -/
theorem Rd.app {s : ByteArray} {q n nA : Nat} {M : Nat → List Blk} (h : Rd s q n nA M) (X : List Blk) (nA' : Nat) (hA : nA ≤ nA') (hX : X.all (blkNo (n + X.length) nA') = true) : Rd s q (n + X.length) nA' (fun a => M a ++ X) where
  len a := by rw [List.length_append, h.len]
  all a := by
    rw [List.all_append, Bool.and_eq_true]
    refine ⟨?_, hX⟩
    have := h.all a
    rw [List.all_eq_true] at this ⊢
    exact fun b hb => blk_mono (by omega) hA b (this b hb)
  at_ a := by rw [List.getElem?_append_left (by rw [h.len]; exact h.lt)]; exact h.at_ a
  set a b := by
    show (M a ++ X).set q (rdr s (b : Int)) = M b ++ X
    rw [List.set_append_left _ _ (by rw [h.len]; exact h.lt), h.set]

theorem Rd.next {s : ByteArray} {q n nA : Nat} {M : Nat → List Blk} (h : Rd s q n nA M) (hs : s.size ≤ 1000000) {a : Nat} {A : List Arr} (hA : A.length = nA) (ha : a < s.size) :
    W 131 [.ptr q 0] ⟨M a, A⟩ = some (.ret (.p (.int .i64 (byI s.data.toList a))), ⟨M (a + 1), A⟩) := by
  rw [next_ok q s a ⟨M a, A⟩ hs ha (h.at_ a) (by rw [h.len, hA]; exact h.all a)]
  have := h.set a (a + 1)
  rw [show ((a + 1 : Nat) : Int) = (a : Int) + 1 by omega] at this
  show some (_, (⟨(M a).set q (rdr s ((a : Int) + 1)), A⟩ : Hp)) = _
  rw [this]
theorem Rd.stop {s : ByteArray} {q n nA : Nat} {M : Nat → List Blk} (h : Rd s q n nA M) {a : Nat} {A : List Arr} (hA : A.length = nA) (ha : s.size ≤ a) : W 131 [.ptr q 0] ⟨M a, A⟩ = some (.pan (wrongP a), ⟨M a, A⟩) :=
  next_no q s a ⟨M a, A⟩ ha (h.at_ a) (by rw [h.len, hA]; exact h.all a)
theorem Rd.yes {s : ByteArray} {q n nA : Nat} {M : Nat → List Blk} (h : Rd s q n nA M) {a : Nat} {A : List Arr} (hA : A.length = nA) : ∃ d, W 111 [.ptr q 0, .p (.bool true)] ⟨M a, A⟩ = some (.ret d, ⟨M a, A⟩) :=
  want_yes q ⟨M a, A⟩ (by rw [h.len, hA]; exact h.all a)
theorem Rd.no {s : ByteArray} {q n nA : Nat} {M : Nat → List Blk} (h : Rd s q n nA M) {a : Nat} {A : List Arr} (hA : A.length = nA) : W 111 [.ptr q 0, .p (.bool false)] ⟨M a, A⟩ = some (.pan (wrongP a), ⟨M a, A⟩) :=
  want_no q s a ⟨M a, A⟩ (h.at_ a) (by rw [h.len, hA]; exact h.all a)

/-- What unpacked reads: nothing, or a value and the place behind it. -/
def un (b : List UInt8) : Nat → Nat → Option (Val × Nat)
  | 0, _ => none
  | d + 1, f =>
    if b.length ≤ f then none
    else if byI b f = 1 then (if b.length < f + 5 then none else some (.mk 1 (x4 b f - 1000000000) ⟨#[]⟩ [], f + 5))
    else if byI b f = 2 then (if b.length < f + 2 then none else some (.mk 2 (byI b (f + 1)) ⟨#[]⟩ [], f + 2))
    else if byI b f = 3 then (if b.length < f + 2 ∨ b.length < f + 2 + (byI b (f + 1)).toNat then none else some (.mk 3 0 ⟨((b.drop (f + 2)).take (byI b (f + 1)).toNat).toArray⟩ [], f + 2 + (byI b (f + 1)).toNat))
    else if byI b f = 4 ∨ byI b f = 5 then
      (if b.length < f + 2 then none else
      match loads (fun a _ => (un b d a).map fun p => (p.1, p.2, 0)) (byI b (f + 1)).toNat (f + 2) 0 with
      | none => none
      | some (l, e, _) => some (.mk (byI b f) 0 ⟨#[]⟩ l, e))
    else none

attribute [local simp] E_skip E_ret E_exit E_text E_draw E_seq E_cond E_block E_scope E_loop runOps runOp runDraw runVF runV finV gate FlOK wantD exec fin opd look putF norm constD constC fieldAddrD loadD storeD opCall lenD binD isShift intP strP numD indexAddrD indexD D.pd? D.pds? cells_enc sub capsOf callD argsD argD D.nf enc_agg unP box_enc cellD mkF H00 st1 cD_agg cD_pagg cD_int cD_bool cD_str cD_sl cD_lit cD_own

theorem set_n {L : List Blk} {n : Nat} (h : L.length = n) (x z : Blk) (X : List Blk) : (L ++ x :: X).set n z = L ++ z :: X := by
  rw [List.set_append_right _ _ (by omega), h, Nat.sub_self]; rfl
theorem set_n1 {L : List Blk} {n : Nat} (h : L.length = n) (x y z : Blk) (X : List Blk) : (L ++ x :: y :: X).set (n + 1) z = L ++ x :: z :: X := by
  rw [List.set_append_right _ _ (by omega), h, show n + 1 - n = 1 by omega]; rfl
theorem get_n {L : List Blk} {n : Nat} (h : L.length = n) (x : Blk) (X : List Blk) : (L ++ x :: X)[n]? = some x := by
  rw [List.getElem?_append_right (by omega), h, Nat.sub_self]; rfl
theorem get_n1 {L : List Blk} {n : Nat} (h : L.length = n) (x y : Blk) (X : List Blk) : (L ++ x :: y :: X)[n + 1]? = some y := by
  rw [List.getElem?_append_right (by omega), h, show n + 1 - n = 1 by omega]; rfl

/-- A value that was read is handed over. -/
theorem fin94 (n nA : Nat) (L : List Blk) (A : List Arr) (hL : L.length = n) (hA : A.length = nA) (hall : L.all (blkNo n nA) = true) (v : Val) (y : Blk) (X : List Blk) :
    fnOut Tryz.prog [.cell 4 25] n nA (some (.ret, [(4, .ptr n 0)], ⟨L ++ box25 v :: y :: X, A⟩)) = some (.ret (.p (enc v)), ⟨L, A⟩) := by
  have hc : ((L ++ box25 v :: y :: X).take n).all (blkNo n nA) = true := by rw [List.take_left' hL]; exact hall
  have hg := get_n hL (box25 v) (y :: X)
  have tB : (L ++ box25 v :: y :: X).take n = L := List.take_left' hL
  have tA : A.take nA = A := List.take_of_length_le (by omega)
  simp only [box25] at *
  rw [enc_eq]
  simp [fnOut, retOut, resD, retsD, retD, oneD, D.noRefs, D.noRef, Hp.cut, hg, tB, tA]
  exact fun b hb => List.all_eq_true.1 hall b hb

def cB (k n : Int) (t : ByteArray) (qd : D) : Blk := .cells [.p (.int .i64 k), .p (.int .i64 n), .p (.str t), qd]
theorem fin94l (n nA : Nat) (L : List Blk) (A : List Arr) (hL : L.length = n) (hA : A.length = nA) (hall : L.all (blkNo n nA) = true) (k m : Int) (t : ByteArray) (X : List Blk) :
    fnOut Tryz.prog [.cell 4 25] n nA (some (.ret, [(4, .ptr n 0)], ⟨L ++ cB k m t (.lit true []) :: X, A⟩)) = some (.ret (.p (enc (.mk k m t []))), ⟨L, A⟩) := by
  have hg := get_n hL (cB k m t (.lit true [])) X
  have tB : (L ++ cB k m t (.lit true []) :: X).take n = L := List.take_left' hL
  have tA : A.take nA = A := List.take_of_length_le (by omega)
  simp only [cB] at *
  rw [enc_eq]
  simp [fnOut, retOut, resD, retsD, retD, oneD, D.noRefs, D.noRef, Hp.cut, hg, tB, tA, k_mk, n_mk, t_mk, ps_mk]
  exact fun b hb => List.all_eq_true.1 hall b hb
theorem fin94o (n nA : Nat) (L : List Blk) (A : List Arr) (hL : L.length = n) (hA : A.length = nA) (hall : L.all (blkNo n nA) = true) (k m : Int) (t : ByteArray) (w : Nat) (acc : List Val) (X : List Blk) :
    fnOut Tryz.prog [.cell 4 25] n nA (some (.ret, [(4, .ptr n 0)], ⟨L ++ cB k m t (.own nA w) :: X, A ++ [rowL w acc]⟩)) = some (.ret (.p (enc (.mk k m t acc))), ⟨L, A⟩) := by
  have hg := get_n hL (cB k m t (.own nA w)) X
  have tB : (L ++ cB k m t (.own nA w) :: X).take n = L := List.take_left' hL
  have tA : (A ++ [rowL w acc]).take nA = A := List.take_left' hA
  have hlive : (A ++ [rowL w acc])[nA]? = some (rowL w acc) := by
    rw [List.getElem?_append_right (by omega), hA, Nat.sub_self]; rfl
  simp only [cB, rowL] at *
  rw [enc_eq]
  simp [fnOut, retOut, resD, retsD, retD, oneD, D.noRefs, D.noRef, Hp.cut, Hp.live, hg, tB, tA, k_mk, n_mk, t_mk, ps_mk, hlive]
  exact fun b hb => List.all_eq_true.1 hall b hb

variable {s : ByteArray} {q n nA : Nat} {M : Nat → List Blk} {A : List Arr}

theorem un94_bool (rd : Rd s q n nA M) (hA : A.length = nA) (hs : s.size ≤ 1000000) (d : Int) (hd : 1 ≤ d) (a : Nat) (h1 : a + 2 ≤ s.size) (hk : byI s.data.toList a = 2) :
    E false ⟨0, 0⟩ 94 code94 (mkF 0 [.ptr q 0, .p (.int .i64 d)]) ⟨M a, A⟩ = some (.ret, [(4, .ptr n 0)], ⟨M (a + 2) ++ cB 2 (byI s.data.toList (a + 1)) ⟨#[]⟩ (.lit true []) :: [cB 2 (byI s.data.toList (a + 1)) ⟨#[]⟩ (.lit true [])], A⟩) := by
  have r1 := rd.app [zeroB] nA (Nat.le_refl _) rfl
  have r2 := rd.app [zeroB, cB 2 0 ⟨#[]⟩ (.lit true [])] nA (Nat.le_refl _) rfl
  obtain ⟨dd, hy⟩ := r1.yes (a := a) hA
  have n1 := r1.next hs (a := a) hA (by omega)
  have n2 := r2.next hs (a := a + 1) hA (by omega)
  have hl := rd.len
  have c1 : (0 : Int) < d := by omega
  rw [hk] at n1
  simp only [zeroB, cB] at hy n1 n2
  have w2 : IntKind.i64.wrap 2 = 2 := wrap64 (by omega) (by omega)
  have S1 := fun a x y z X => set_n1 (hl a) x y z X
  have S0 := fun a x z X => set_n (hl a) x z X
  have G1 := fun a x y X => get_n1 (hl a) x y X
  have G0 := fun a x X => get_n (hl a) x X
  simp [code94, Tryz.f94, zeroB, cB, hy, n1, n2, hl, c1, z25', build25_t0, splice, S1, S0, G1, G0]

theorem finp (rs : List ResultVar) (n nA : Nat) (L : List Blk) (A : List Arr) (hL : L.length = n) (hA : A.length = nA) (hall : L.all (blkNo n nA) = true) (x : PD) (F : Fr) (X : List Blk) (Y : List Arr) :
    fnOut Tryz.prog rs n nA (some (.pan x, F, ⟨L ++ X, A ++ Y⟩)) = some (.pan x, ⟨L, A⟩) := by
  simp only [fnOut, Hp.cut]
  rw [List.take_left' hL, List.take_left' hA, if_pos hall]

theorem un94_d0 (rd : Rd s q n nA M) (hA : A.length = nA) (d : Int) (hd : d < 1) (a : Nat) :
    E false ⟨0, 0⟩ 94 code94 (mkF 0 [.ptr q 0, .p (.int .i64 d)]) ⟨M a, A⟩ = some (.pan (wrongP a), [], ⟨M a ++ [zeroB], A⟩) := by
  have r1 := rd.app [zeroB] nA (Nat.le_refl _) rfl
  have hno := r1.no (a := a) hA
  have hl := rd.len
  have c1 : ¬ (0 : Int) < d := by omega
  simp only [zeroB] at hno
  simp [code94, Tryz.f94, zeroB, hno, hl, c1, z25']

theorem un94_end (rd : Rd s q n nA M) (hA : A.length = nA) (d : Int) (hd : 1 ≤ d) (a : Nat) (h : s.size ≤ a) :
    E false ⟨0, 0⟩ 94 code94 (mkF 0 [.ptr q 0, .p (.int .i64 d)]) ⟨M a, A⟩ = some (.pan (wrongP a), [], ⟨M a ++ [zeroB], A⟩) := by
  have r1 := rd.app [zeroB] nA (Nat.le_refl _) rfl
  obtain ⟨dd, hy⟩ := r1.yes (a := a) hA
  have n1 := r1.stop (a := a) hA h
  have hl := rd.len
  have c1 : (0 : Int) < d := by omega
  simp only [zeroB] at hy n1
  simp [code94, Tryz.f94, zeroB, hy, n1, hl, c1, z25']

theorem un94_bshort (rd : Rd s q n nA M) (hA : A.length = nA) (hs : s.size ≤ 1000000) (d : Int) (hd : 1 ≤ d) (a : Nat) (h0 : a < s.size) (h1 : s.size ≤ a + 1) (hk : byI s.data.toList a = 2) :
    E false ⟨0, 0⟩ 94 code94 (mkF 0 [.ptr q 0, .p (.int .i64 d)]) ⟨M a, A⟩ = some (.pan (wrongP (a + 1 : Nat)), [], ⟨M (a + 1) ++ [zeroB, cB 2 0 ⟨#[]⟩ (.lit true [])], A⟩) := by
  have r1 := rd.app [zeroB] nA (Nat.le_refl _) rfl
  have r2 := rd.app [zeroB, cB 2 0 ⟨#[]⟩ (.lit true [])] nA (Nat.le_refl _) rfl
  obtain ⟨dd, hy⟩ := r1.yes (a := a) hA
  have n1 := r1.next hs (a := a) hA (by omega)
  have n2 := r2.stop (a := a + 1) hA h1
  have hl := rd.len
  have c1 : (0 : Int) < d := by omega
  rw [hk] at n1
  simp only [zeroB, cB] at hy n1 n2
  have S1 := fun a x y z X => set_n1 (hl a) x y z X
  have G1 := fun a x y X => get_n1 (hl a) x y X
  simp [code94, Tryz.f94, zeroB, cB, hy, n1, n2, hl, c1, z25', build25_t0, splice, S1, G1]

theorem un94_other (rd : Rd s q n nA M) (hA : A.length = nA) (hs : s.size ≤ 1000000) (d : Int) (hd : 1 ≤ d) (a : Nat) (h0 : a < s.size)
    (n1' : ¬ byI s.data.toList a = 1) (n2' : ¬ byI s.data.toList a = 2) (n3' : ¬ byI s.data.toList a = 3) (n4' : ¬ byI s.data.toList a = 4) (n5' : ¬ byI s.data.toList a = 5) :
    E false ⟨0, 0⟩ 94 code94 (mkF 0 [.ptr q 0, .p (.int .i64 d)]) ⟨M a, A⟩ = some (.pan (wrongP (a + 1 : Nat)), [], ⟨M (a + 1) ++ [zeroB, cB (byI s.data.toList a) 0 ⟨#[]⟩ (.lit true [])], A⟩) := by
  have r1 := rd.app [zeroB] nA (Nat.le_refl _) rfl
  have r2 := rd.app [zeroB, cB (byI s.data.toList a) 0 ⟨#[]⟩ (.lit true [])] nA (Nat.le_refl _) rfl
  obtain ⟨dd, hy⟩ := r1.yes (a := a) hA
  have n1 := r1.next hs (a := a) hA (by omega)
  have hno := r2.no (a := a + 1) hA
  have hl := rd.len
  have c1 : (0 : Int) < d := by omega
  simp only [zeroB, cB] at hy n1 hno
  have S1 := fun a x y z X => set_n1 (hl a) x y z X
  have G1 := fun a x y X => get_n1 (hl a) x y X
  simp [code94, Tryz.f94, zeroB, cB, hy, n1, hno, hl, c1, z25', build25_t0, splice, S1, G1, n1', n2', n3', n4', n5']

/-! ### The four bytes of a number -/
def frI (q n : Nat) (i : Nat) : Fr := [(0, .ptr q 0), (4, .ptr n 0), (5, .ptr (n + 1) 0), (22, .p (.int .i64 i))]
theorem bodyI_end (q n : Nat) (H : Hp) : E false ⟨0, 0⟩ 94 lp94_0 (frI q n 4) H = some (.exit 1, frI q n 4 ++ [(23, .p (.bool false))], H) := by
  simp [frI, lp94_0, code94, Tryz.f94]
theorem bodyI_step (rd : Rd s q n nA M) (hA : A.length = nA) (hs : s.size ≤ 1000000) (a i : Nat) (hi : i < 4) (x : Int) (hx : 0 ≤ x) (hx2 : x ≤ 100000000) (h : a < s.size) :
    E false ⟨0, 0⟩ 94 lp94_0 (frI q n i) ⟨M a ++ [zeroB, cB 1 x ⟨#[]⟩ (.lit true [])], A⟩ = some (.normal, frI q n (i + 1), ⟨M (a + 1) ++ [zeroB, cB 1 (256 * x + byI s.data.toList a) ⟨#[]⟩ (.lit true [])], A⟩) := by
  have r2 := rd.app [zeroB, cB 1 x ⟨#[]⟩ (.lit true [])] nA (Nat.le_refl _) rfl
  have n2 := r2.next hs (a := a) hA h
  have hl := rd.len
  have hw : IntKind.i64.wrap ((i : Int) + 1) = (i : Int) + 1 := wrap64 (by omega) (by omega)
  have bd := byI_bd s.data.toList a
  have hw3 : IntKind.i64.wrap (256 * x) = 256 * x := wrap64 (by omega) (by omega)
  have hw4 : IntKind.i64.wrap (256 * x + byI s.data.toList a) = 256 * x + byI s.data.toList a := wrap64 (by omega) (by omega)
  have c1 : (i : Int) < 4 := by omega
  simp only [zeroB, cB] at n2
  have S1 := fun a x y z X => set_n1 (hl a) x y z X
  have G1 := fun a x y X => get_n1 (hl a) x y X
  simp [frI, lp94_0, code94, Tryz.f94, zeroB, cB, n2, hl, c1, hw, hw3, hw4, splice, S1, G1]
theorem bodyI_stop (rd : Rd s q n nA M) (hA : A.length = nA) (a i : Nat) (hi : i < 4) (x : Int) (h : s.size ≤ a) :
    E false ⟨0, 0⟩ 94 lp94_0 (frI q n i) ⟨M a ++ [zeroB, cB 1 x ⟨#[]⟩ (.lit true [])], A⟩ = some (.pan (wrongP a), [], ⟨M a ++ [zeroB, cB 1 x ⟨#[]⟩ (.lit true [])], A⟩) := by
  have r2 := rd.app [zeroB, cB 1 x ⟨#[]⟩ (.lit true [])] nA (Nat.le_refl _) rfl
  have n2 := r2.stop (a := a) hA h
  have c1 : (i : Int) < 4 := by omega
  simp only [zeroB, cB] at n2
  simp [frI, lp94_0, code94, Tryz.f94, zeroB, cB, n2, c1]

theorem loopI (rd : Rd s q n nA M) (hA : A.length = nA) (hs : s.size ≤ 1000000) (a : Nat) :
    (a + 4 ≤ s.size → loopO false ⟨0, 0⟩ 94 lp94_0 (n + 2) nA (frI q n 0) ⟨M a ++ [zeroB, cB 1 0 ⟨#[]⟩ (.lit true [])], A⟩ =
      some (.exit 1, frI q n 4 ++ [(23, .p (.bool false))], ⟨M (a + 4) ++ [zeroB, cB 1 (256 * (256 * (256 * byI s.data.toList a + byI s.data.toList (a + 1)) + byI s.data.toList (a + 2)) + byI s.data.toList (a + 3)) ⟨#[]⟩ (.lit true [])], A⟩)) ∧
    (s.size < a + 4 → ∃ a' x, loopO false ⟨0, 0⟩ 94 lp94_0 (n + 2) nA (frI q n 0) ⟨M a ++ [zeroB, cB 1 0 ⟨#[]⟩ (.lit true [])], A⟩ = some (.pan (wrongP (a' : Nat)), [], ⟨M a' ++ [zeroB, cB 1 x ⟨#[]⟩ (.lit true [])], A⟩)) := by
  have hcut : ∀ F a x, cutD ⟨0, 0⟩ [0, 4, 5, 22] (n + 2) nA F ⟨M a ++ [zeroB, cB 1 x ⟨#[]⟩ (.lit true [])], A⟩ = some (norm [0, 4, 5, 22] F, ⟨M a ++ [zeroB, cB 1 x ⟨#[]⟩ (.lit true [])], A⟩) := fun F a x => by
    have := cut_full ⟨0, 0⟩ [0, 4, 5, 22] F ⟨M a ++ [zeroB, cB 1 x ⟨#[]⟩ (.lit true [])], A⟩
    simp only [List.length_append, rd.len, List.length_cons, List.length_nil, hA] at this
    exact this
  have hn : ∀ i, norm [0, 4, 5, 22] (frI q n i) = frI q n i := fun _ => rfl
  have d0 := byI_bd s.data.toList a
  have d1 := byI_bd s.data.toList (a + 1)
  have d2 := byI_bd s.data.toList (a + 1 + 1)
  have z : (256 * 0 + byI s.data.toList a : Int) = byI s.data.toList a := by omega
  constructor
  · intro h
    rw [loopO_eq, hd94_0, hcut, hn]
    simp only [bodyI_step rd hA hs a 0 (by omega) 0 (by omega) (by omega) (by omega), z]
    rw [loopO_eq, hd94_0, hcut, hn]
    simp only [bodyI_step rd hA hs (a + 1) 1 (by omega) _ d0.1 (by omega) (by omega)]
    rw [loopO_eq, hd94_0, hcut, hn]
    simp only [bodyI_step rd hA hs (a + 1 + 1) 2 (by omega) (256 * byI s.data.toList a + byI s.data.toList (a + 1)) (by omega) (by omega) (by omega)]
    rw [loopO_eq, hd94_0, hcut, hn]
    simp only [bodyI_step rd hA hs (a + 1 + 1 + 1) 3 (by omega) (256 * (256 * byI s.data.toList a + byI s.data.toList (a + 1)) + byI s.data.toList (a + 1 + 1)) (by omega) (by omega) (by omega)]
    rw [loopO_eq, hd94_0, hcut, hn]
    simp only [Nat.reduceAdd, bodyI_end]
  · intro h
    by_cases h0 : s.size ≤ a
    · refine ⟨a, 0, ?_⟩
      rw [loopO_eq, hd94_0, hcut, hn]
      simp only [bodyI_stop rd hA a 0 (by omega) 0 h0]
    by_cases h1 : s.size ≤ a + 1
    · refine ⟨a + 1, byI s.data.toList a, ?_⟩
      rw [loopO_eq, hd94_0, hcut, hn]
      simp only [bodyI_step rd hA hs a 0 (by omega) 0 (by omega) (by omega) (by omega), z]
      rw [loopO_eq, hd94_0, hcut, hn]
      simp only [bodyI_stop rd hA (a + 1) 1 (by omega) _ h1]
    by_cases h2 : s.size ≤ a + 2
    · refine ⟨a + 1 + 1, 256 * byI s.data.toList a + byI s.data.toList (a + 1), ?_⟩
      rw [loopO_eq, hd94_0, hcut, hn]
      simp only [bodyI_step rd hA hs a 0 (by omega) 0 (by omega) (by omega) (by omega), z]
      rw [loopO_eq, hd94_0, hcut, hn]
      simp only [bodyI_step rd hA hs (a + 1) 1 (by omega) _ d0.1 (by omega) (by omega)]
      rw [loopO_eq, hd94_0, hcut, hn]
      simp only [bodyI_stop rd hA (a + 1 + 1) 2 (by omega) _ h2]
    · refine ⟨a + 1 + 1 + 1, 256 * (256 * byI s.data.toList a + byI s.data.toList (a + 1)) + byI s.data.toList (a + 1 + 1), ?_⟩
      rw [loopO_eq, hd94_0, hcut, hn]
      simp only [bodyI_step rd hA hs a 0 (by omega) 0 (by omega) (by omega) (by omega), z]
      rw [loopO_eq, hd94_0, hcut, hn]
      simp only [bodyI_step rd hA hs (a + 1) 1 (by omega) _ d0.1 (by omega) (by omega)]
      rw [loopO_eq, hd94_0, hcut, hn]
      simp only [bodyI_step rd hA hs (a + 1 + 1) 2 (by omega) (256 * byI s.data.toList a + byI s.data.toList (a + 1)) (by omega) (by omega) (by omega)]
      rw [loopO_eq, hd94_0, hcut, hn]
      simp only [bodyI_stop rd hA (a + 1 + 1 + 1) 3 (by omega) _ (by omega)]

theorem un94_int (rd : Rd s q n nA M) (hA : A.length = nA) (hs : s.size ≤ 1000000) (d : Int) (hd : 1 ≤ d) (a : Nat) (h1 : a + 5 ≤ s.size) (hk : byI s.data.toList a = 1) :
    E false ⟨0, 0⟩ 94 code94 (mkF 0 [.ptr q 0, .p (.int .i64 d)]) ⟨M a, A⟩ = some (.ret, [(4, .ptr n 0)], ⟨M (a + 5) ++ cB 1 (x4 s.data.toList a - 1000000000) ⟨#[]⟩ (.lit true []) :: [cB 1 (x4 s.data.toList a - 1000000000) ⟨#[]⟩ (.lit true [])], A⟩) := by
  have r1 := rd.app [zeroB] nA (Nat.le_refl _) rfl
  obtain ⟨dd, hy⟩ := r1.yes (a := a) hA
  have n1 := r1.next hs (a := a) hA (by omega)
  have hl := rd.len
  have c1 : (0 : Int) < d := by omega
  rw [hk] at n1
  have hloop := (loopI rd hA hs (a + 1)).1 (by omega)
  have ex : 256 * (256 * (256 * byI s.data.toList (a + 1) + byI s.data.toList (a + 1 + 1)) + byI s.data.toList (a + 1 + 2)) + byI s.data.toList (a + 1 + 3) = x4 s.data.toList a := rfl
  rw [ex] at hloop
  have xb := x4_bd s.data.toList a
  have w3 : IntKind.i64.wrap (x4 s.data.toList a - 1000000000) = x4 s.data.toList a - 1000000000 := wrap64 (by omega) (by omega)
  have h00 : ((0 : Nat) : Int) = 0 := rfl
  simp only [zeroB, cB] at hy n1
  simp only [lp94_0, code94, Tryz.f94, frI, zeroB, cB, h00] at hloop
  have S1 := fun a x y z X => set_n1 (hl a) x y z X
  have S0 := fun a x z X => set_n (hl a) x z X
  have G1 := fun a x y X => get_n1 (hl a) x y X
  have G0 := fun a x X => get_n (hl a) x X
  simp [code94, Tryz.f94, zeroB, cB, hy, n1, hl, hA, c1, z25', build25_t0, splice, S1, S0, G1, G0, hloop, w3]

theorem un94_ishort (rd : Rd s q n nA M) (hA : A.length = nA) (hs : s.size ≤ 1000000) (d : Int) (hd : 1 ≤ d) (a : Nat) (h0 : a < s.size) (h1 : s.size < a + 5) (hk : byI s.data.toList a = 1) :
    ∃ (a' : Nat) (X : List Blk), E false ⟨0, 0⟩ 94 code94 (mkF 0 [.ptr q 0, .p (.int .i64 d)]) ⟨M a, A⟩ = some (.pan (wrongP a'), [], ⟨M a' ++ X, A⟩) := by
  have r1 := rd.app [zeroB] nA (Nat.le_refl _) rfl
  obtain ⟨dd, hy⟩ := r1.yes (a := a) hA
  have n1 := r1.next hs (a := a) hA (by omega)
  have hl := rd.len
  have c1 : (0 : Int) < d := by omega
  rw [hk] at n1
  obtain ⟨a', x, hloop⟩ := (loopI rd hA hs (a + 1)).2 (by omega)
  have h00 : ((0 : Nat) : Int) = 0 := rfl
  simp only [zeroB, cB] at hy n1
  simp only [lp94_0, code94, Tryz.f94, frI, zeroB, cB, h00] at hloop
  have S1 := fun a x y z X => set_n1 (hl a) x y z X
  have G1 := fun a x y X => get_n1 (hl a) x y X
  exact ⟨a', [zeroB, cB 1 x ⟨#[]⟩ (.lit true [])], by simp [code94, Tryz.f94, zeroB, cB, hy, n1, hl, hA, c1, z25', build25_t0, splice, S1, G1, hloop]⟩
end Go.Vi
end

section
/- Vi: the reader's unpacked (f94): texts, tuples and sets. No conditions. -/
namespace Go.Vi
open Go Go.Lib Go.Proofs
set_option maxRecDepth 100000
attribute [local simp] E_skip E_ret E_exit E_text E_draw E_seq E_cond E_block E_scope E_loop runOps runOp runDraw runVF runV finV gate FlOK wantD exec fin opd look putF norm constD constC fieldAddrD loadD storeD opCall lenD binD isShift intP strP numD indexAddrD indexD D.pd? D.pds? cells_enc sub capsOf callD argsD argD D.nf enc_agg unP box_enc cellD mkF H00 st1 cD_agg cD_pagg cD_int cD_bool cD_str cD_sl cD_lit cD_own
variable {s : ByteArray} {q n nA : Nat} {M : Nat → List Blk} {A : List Arr}

theorem un94_text (rd : Rd s q n nA M) (hA : A.length = nA) (hs : s.size ≤ 1000000) (d : Int) (hd : 1 ≤ d) (a m : Nat) (h1 : a + 2 ≤ s.size) (hk : byI s.data.toList a = 3) (hm : byI s.data.toList (a + 1) = m) (h2 : a + 2 + m ≤ s.size) :
    E false ⟨0, 0⟩ 94 code94 (mkF 0 [.ptr q 0, .p (.int .i64 d)]) ⟨M a, A⟩ = some (.ret, [(4, .ptr n 0)], ⟨M (a + 2 + m) ++ cB 3 0 (s.extract (a + 2) (a + 2 + m)) (.lit true []) :: [cB 3 0 (s.extract (a + 2) (a + 2 + m)) (.lit true [])], A⟩) := by
  have r1 := rd.app [zeroB] nA (Nat.le_refl _) rfl
  have r2 := rd.app [zeroB, cB 3 0 ⟨#[]⟩ (.lit true [])] nA (Nat.le_refl _) rfl
  have r3 := rd.app [zeroB, cB 3 0 (s.extract (a + 2) (a + 2 + m)) (.lit true [])] nA (Nat.le_refl _) rfl
  obtain ⟨dd, hy⟩ := r1.yes (a := a) hA
  have n1 := r1.next hs (a := a) hA (by omega)
  have n2 := r2.next hs (a := a + 1) hA (by omega)
  obtain ⟨d2, hy2⟩ := r2.yes (a := a + 2) hA
  have q2 := r2.at_ (a + 2)
  have q3 := r3.at_ (a + 2)
  have s3 := r3.set (a + 2) (a + 2 + m)
  have hl := rd.len
  have c1 : (0 : Int) < d := by omega
  rw [hk] at n1
  rw [hm] at n2
  have e2 : ((a + 2 : Nat) : Int) = (a : Int) + 2 := by omega
  have e3 : ((a + 2 + m : Nat) : Int) = (a : Int) + 2 + m := by omega
  simp only [zeroB, cB, rdr, e2, e3] at hy n1 n2 hy2 q2 q3 s3
  have w1 : IntKind.i64.wrap ((s.size : Int) - (a + 2)) = (s.size : Int) - (a + 2) := wrap64 (by omega) (by omega)
  have w2 : IntKind.i64.wrap ((a : Int) + 2 + m) = (a : Int) + 2 + m := wrap64 (by omega) (by omega)
  have c2 : (m : Int) ≤ s.size - (a + 2) := by omega
  have t2 : ((a : Int) + 2).toNat = a + 2 := by omega
  have t3 : ((a : Int) + 2 + m).toNat = a + 2 + m := by omega
  have p2 : 0 ≤ (a : Int) + 2 := by omega
  have p3 : (a : Int) + 2 ≤ a + 2 + m := by omega
  have p4 : (a : Int) + 2 + m ≤ s.size := by omega
  have S1 := fun a x y z X => set_n1 (hl a) x y z X
  have S0 := fun a x z X => set_n (hl a) x z X
  have G1 := fun a x y X => get_n1 (hl a) x y X
  have G0 := fun a x X => get_n (hl a) x X
  simp [code94, Tryz.f94, zeroB, cB, hy, n1, n2, hy2, q2, q3, s3, hl, c1, c2, w1, w2, t2, t3, p2, p3, p4, sliceD, boundD, z25', build25_t0, splice, S1, S0, G1, G0]

theorem un94_tshort1 (rd : Rd s q n nA M) (hA : A.length = nA) (hs : s.size ≤ 1000000) (d : Int) (hd : 1 ≤ d) (a : Nat) (k : Int) (h0 : a < s.size) (h1 : s.size ≤ a + 1) (hk : byI s.data.toList a = k) (hk3 : k = 3 ∨ k = 4 ∨ k = 5) :
    E false ⟨0, 0⟩ 94 code94 (mkF 0 [.ptr q 0, .p (.int .i64 d)]) ⟨M a, A⟩ = some (.pan (wrongP (a + 1 : Nat)), [], ⟨M (a + 1) ++ [zeroB, cB k 0 ⟨#[]⟩ (.lit true [])], A⟩) := by
  have r1 := rd.app [zeroB] nA (Nat.le_refl _) rfl
  have r2 := rd.app [zeroB, cB k 0 ⟨#[]⟩ (.lit true [])] nA (Nat.le_refl _) rfl
  obtain ⟨dd, hy⟩ := r1.yes (a := a) hA
  have n1 := r1.next hs (a := a) hA (by omega)
  have n2 := r2.stop (a := a + 1) hA h1
  have hl := rd.len
  have c1 : (0 : Int) < d := by omega
  rw [hk] at n1
  simp only [zeroB, cB] at hy n1 n2
  have S1 := fun a x y z X => set_n1 (hl a) x y z X
  have G1 := fun a x y X => get_n1 (hl a) x y X
  rcases hk3 with rfl | rfl | rfl <;> simp [code94, Tryz.f94, zeroB, cB, hy, n1, n2, hl, c1, z25', build25_t0, splice, S1, G1]

theorem un94_tshort2 (rd : Rd s q n nA M) (hA : A.length = nA) (hs : s.size ≤ 1000000) (d : Int) (hd : 1 ≤ d) (a m : Nat) (h1 : a + 2 ≤ s.size) (hk : byI s.data.toList a = 3) (hm : byI s.data.toList (a + 1) = m) (h2 : s.size < a + 2 + m) :
    E false ⟨0, 0⟩ 94 code94 (mkF 0 [.ptr q 0, .p (.int .i64 d)]) ⟨M a, A⟩ = some (.pan (wrongP (a + 2 : Nat)), [], ⟨M (a + 2) ++ [zeroB, cB 3 0 ⟨#[]⟩ (.lit true [])], A⟩) := by
  have r1 := rd.app [zeroB] nA (Nat.le_refl _) rfl
  have r2 := rd.app [zeroB, cB 3 0 ⟨#[]⟩ (.lit true [])] nA (Nat.le_refl _) rfl
  obtain ⟨dd, hy⟩ := r1.yes (a := a) hA
  have n1 := r1.next hs (a := a) hA (by omega)
  have n2 := r2.next hs (a := a + 1) hA (by omega)
  have hno := r2.no (a := a + 2) hA
  have q2 := r2.at_ (a + 2)
  have hl := rd.len
  have c1 : (0 : Int) < d := by omega
  rw [hk] at n1
  rw [hm] at n2
  have e2 : ((a + 2 : Nat) : Int) = (a : Int) + 2 := by omega
  rw [e2]
  simp only [zeroB, cB, rdr, e2] at hy n1 n2 hno q2
  have w1 : IntKind.i64.wrap ((s.size : Int) - (a + 2)) = (s.size : Int) - (a + 2) := wrap64 (by omega) (by omega)
  have c2 : ¬ (m : Int) ≤ s.size - (a + 2) := by omega
  have S1 := fun a x y z X => set_n1 (hl a) x y z X
  have G1 := fun a x y X => get_n1 (hl a) x y X
  simp [code94, Tryz.f94, zeroB, cB, hy, n1, n2, hno, q2, hl, c1, c2, w1, z25', build25_t0, splice, S1, G1]

/-! ### Tuples and sets -/
def frU (q n : Nat) (d m : Int) (i : Nat) : Fr := [(0, .ptr q 0), (1, .p (.int .i64 d)), (4, .ptr n 0), (5, .ptr (n + 1) 0), (88, .p (.int .i64 m)), (89, .p (.int .i64 i))]
def stU (M : Nat → List Blk) (A : List Arr) (k : Int) (a : Nat) (qd : D) (G : List Blk) (Y : List Arr) : Hp := ⟨M a ++ zeroB :: cB k 0 ⟨#[]⟩ qd :: G, A ++ Y⟩

theorem bodyU_end (q n : Nat) (d : Int) (m : Nat) (H : Hp) : E false ⟨0, 0⟩ 94 lp94_1 (frU q n d m m) H = some (.exit 3, frU q n d m m ++ [(90, .p (.bool false))], H) := by
  simp [frU, lp94_1, code94, Tryz.f94]

theorem bodyU_fail (d : Int) (hd : 1 ≤ d) (hd2 : d ≤ 100) (m i : Nat) (hi : i < m) (k : Int) (a a' : Nat) (qd : D) (G : List Blk) (Y : List Arr)
    (hr : W 94 [.ptr q 0, .p (.int .i64 (d - 1))] (stU M A k a qd G Y) = some (.pan (wrongP a'), stU M A k a' qd G Y)) :
    E false ⟨0, 0⟩ 94 lp94_1 (frU q n d m i) (stU M A k a qd G Y) = some (.pan (wrongP a'), [], stU M A k a' qd G Y) := by
  have hw : IntKind.i64.wrap (d - 1) = d - 1 := wrap64 (by omega) (by omega)
  simp only [stU] at hr
  simp [frU, stU, lp94_1, code94, Tryz.f94, hw, hi, hr]

theorem set_n2 {L : List Blk} {n : Nat} (h : L.length = n) (x y z w : Blk) (G : List Blk) : (L ++ x :: y :: (G ++ [z])).set (n + (G.length + 1 + 1)) w = L ++ x :: y :: (G ++ [w]) := by
  rw [List.set_append_right _ _ (by omega), h, show n + (G.length + 1 + 1) - n = G.length + 1 + 1 by omega]
  simp [set_last]
theorem get_n2 {L : List Blk} {n : Nat} (h : L.length = n) (x y z : Blk) (G : List Blk) : (L ++ x :: y :: (G ++ [z]))[n + (G.length + 1 + 1)]? = some z := by
  rw [List.getElem?_append_right (by omega), h, show n + (G.length + 1 + 1) - n = G.length + 1 + 1 by omega]
  simp

theorem bodyU_first (rd : Rd s q n nA M) (hA : A.length = nA) (d : Int) (hd : 1 ≤ d) (hd2 : d ≤ 100) (m i : Nat) (hi : i < m) (hm : m ≤ 255) (k : Int) (a nx : Nat) (x : Val) (G : List Blk)
    (hr : W 94 [.ptr q 0, .p (.int .i64 (d - 1))] (stU M A k a (.lit true []) G []) = some (.ret (.p (enc x)), stU M A k nx (.lit true []) G [])) :
    E false ⟨0, 0⟩ 94 lp94_1 (frU q n d m i) (stU M A k a (.lit true []) G []) = some (.normal, frU q n d m (i + 1), stU M A k nx (.own nA 0) (G ++ [box25 x]) [rowL 0 [x]]) := by
  have hw : IntKind.i64.wrap (d - 1) = d - 1 := wrap64 (by omega) (by omega)
  have hw2 : IntKind.i64.wrap ((i : Int) + 1) = (i : Int) + 1 := wrap64 (by omega) (by omega)
  have hl := rd.len
  simp only [stU, zeroB, cB] at hr
  have S1 := fun a x y z X => set_n1 (hl a) x y z X
  have G1 := fun a x y X => get_n1 (hl a) x y X
  have S2 := fun a x y z w G => set_n2 (hl a) x y z w G
  have G2 := fun a x y z G => get_n2 (hl a) x y z G
  simp only [List.append_nil] at hr
  simp [frU, stU, zeroB, cB, rowL, box25, lp94_1, code94, Tryz.f94, hw, hw2, hi, hr, hl, hA, z25', splice, S1, G1, S2, G2, buildSliceD, elsD, one_int, one_str, one_sl, one_enc, len_enc, all_one, appendD, srcD, Hp.live, zok25, fits_enc, fit_n, newRow]

theorem bodyU_next (rd : Rd s q n nA M) (hA : A.length = nA) (d : Int) (hd : 1 ≤ d) (hd2 : d ≤ 100) (m i : Nat) (hi : i < m) (hm : m ≤ 255) (k : Int) (a nx w : Nat) (acc : List Val) (hacc : acc.length ≤ 1000) (x : Val) (G : List Blk)
    (hr : W 94 [.ptr q 0, .p (.int .i64 (d - 1))] (stU M A k a (.own nA w) G [rowL w acc]) = some (.ret (.p (enc x)), stU M A k nx (.own nA w) G [rowL w acc])) :
    E false ⟨0, 0⟩ 94 lp94_1 (frU q n d m i) (stU M A k a (.own nA w) G [rowL w acc]) = some (.normal, frU q n d m (i + 1), stU M A k nx (.own nA (w + 1)) (G ++ [box25 x]) [rowL (w + 1) (acc ++ [x])]) := by
  have hw : IntKind.i64.wrap (d - 1) = d - 1 := wrap64 (by omega) (by omega)
  have hw2 : IntKind.i64.wrap ((i : Int) + 1) = (i : Int) + 1 := wrap64 (by omega) (by omega)
  have hby : (acc.length + 1) * 56 ≤ 140737488355328 := by omega
  have hl := rd.len
  have gA : ∀ r : Arr, (A ++ [r])[nA]? = some r := fun r => by rw [List.getElem?_append_right (by omega), hA, Nat.sub_self]; rfl
  have sA : ∀ r r' : Arr, (A ++ [r]).set nA r' = A ++ [r'] := fun r r' => by rw [List.set_append_right _ _ (by omega), hA, Nat.sub_self]; rfl
  simp only [stU, zeroB, cB, rowL] at hr
  have S1 := fun a x y z X => set_n1 (hl a) x y z X
  have G1 := fun a x y X => get_n1 (hl a) x y X
  have S2 := fun a x y z w G => set_n2 (hl a) x y z w G
  have G2 := fun a x y z G => get_n2 (hl a) x y z G
  simp [frU, stU, zeroB, cB, rowL, box25, lp94_1, code94, Tryz.f94, hw, hw2, hi, hr, hl, z25', splice, S1, G1, S2, G2, gA, sA, hby, buildSliceD, elsD, one_int, one_str, one_sl, one_enc, len_enc, all_one, appendD, srcD, Hp.live, zok25, fits_enc, fit_n, newRow]

/-- The state for the parts read so far. -/
def IU (M : Nat → List Blk) (A : List Arr) (nA : Nat) (k : Int) (acc : List Val) (a : Nat) (H : Hp) : Prop :=
  (acc = [] ∧ ∃ G, H = stU M A k a (.lit true []) G [] ∧ G.all (blkNo 0 0) = true) ∨ (acc ≠ [] ∧ ∃ w G, H = stU M A k a (.own nA w) G [rowL w acc] ∧ G.all (blkNo 0 0) = true)

theorem IU_cut (rd : Rd s q n nA M) (hA : A.length = nA) (k : Int) (acc : List Val) (a : Nat) (F : Fr) (H : Hp) (hI : IU M A nA k acc a H) :
    ∃ H0, cutD ⟨0, 0⟩ [0, 1, 4, 5, 88, 89] (n + 2) nA F H = some (norm [0, 1, 4, 5, 88, 89] F, H0) ∧ IU M A nA k acc a H0 := by
  unfold cutD
  split
  · rename_i hc
    have tk : ∀ (x y : Blk) (G : List Blk), (M a ++ x :: y :: G).take (n + 2) = M a ++ [x, y] := fun x y G => by
      rw [show M a ++ x :: y :: G = (M a ++ [x, y]) ++ G by simp]
      exact List.take_left' (by simp [rd.len])
    rcases hI with ⟨h, G, rfl, hG⟩ | ⟨h, w, G, rfl, hG⟩
    · refine ⟨_, rfl, .inl ⟨h, [], ?_, rfl⟩⟩
      simp only [stU, Hp.cut, List.append_nil]
      rw [tk, List.take_of_length_le (by omega)]
    · exfalso
      have h2 := hc.2
      simp only [stU] at h2
      rw [tk, List.all_append, Bool.and_eq_true] at h2
      have h3 := h2.2
      simp [cB, zeroB, blkNo, D.noRefs, D.noRef] at h3
  · exact ⟨_, rfl, hI⟩

/-- Unpacked, at a depth. -/
def Un94 (s : ByteArray) (q : Nat) (d : Nat) : Prop := ∀ (n nA : Nat) (M : Nat → List Blk) (A : List Arr), Rd s q n nA M → A.length = nA → ∀ a : Nat,
  match un s.data.toList d a with
  | some (v, e) => W 94 [.ptr q 0, .p (.int .i64 d)] ⟨M a, A⟩ = some (.ret (.p (enc v)), ⟨M e, A⟩)
  | none => ∃ a' : Nat, W 94 [.ptr q 0, .p (.int .i64 d)] ⟨M a, A⟩ = some (.pan (wrongP a'), ⟨M a', A⟩)
end Go.Vi
end

section
/- Vi: the reader's unpacked (f94) whole. No conditions. -/
namespace Go.Vi
open Go Go.Lib Go.Proofs
set_option maxRecDepth 100000
variable {s : ByteArray} {q n nA : Nat} {M : Nat → List Blk} {A : List Arr}

theorem callU {d : Nat} (ih : Un94 s q d) (rd : Rd s q n nA M) (hA : A.length = nA) (k : Int) (a : Nat) (qd : D) (G : List Blk) (Y : List Arr) (hG : G.all (blkNo 0 0) = true)
    (hqd : blkNo 0 (nA + Y.length) (cB k 0 ⟨#[]⟩ qd) = true) :
    match un s.data.toList d a with
    | some (v, e) => W 94 [.ptr q 0, .p (.int .i64 d)] (stU M A k a qd G Y) = some (.ret (.p (enc v)), stU M A k e qd G Y)
    | none => ∃ a' : Nat, W 94 [.ptr q 0, .p (.int .i64 d)] (stU M A k a qd G Y) = some (.pan (wrongP a'), stU M A k a' qd G Y) := by
  have hX : (zeroB :: cB k 0 ⟨#[]⟩ qd :: G).all (blkNo (n + (zeroB :: cB k 0 ⟨#[]⟩ qd :: G).length) (nA + Y.length)) = true := by
    rw [List.all_cons, List.all_cons, Bool.and_eq_true, Bool.and_eq_true]
    refine ⟨rfl, blk_mono (Nat.zero_le _) (Nat.le_refl _) _ hqd, ?_⟩
    rw [List.all_eq_true] at hG ⊢
    exact fun b hb => blk_mono (Nat.zero_le _) (Nat.zero_le _) b (hG b hb)
  have r := rd.app (zeroB :: cB k 0 ⟨#[]⟩ qd :: G) (nA + Y.length) (by omega) hX
  exact ih _ _ _ (A ++ Y) r (by rw [List.length_append, hA]) a

def rU (b : List UInt8) (d : Nat) : Nat → Int → Option (Val × Nat × Int) := fun a _ => (un b d a).map fun p => (p.1, p.2, 0)

theorem loopU {d : Nat} (ih : Un94 s q d) (hd2 : d ≤ 90) (rd : Rd s q n nA M) (hA : A.length = nA) (m : Nat) (hm : m ≤ 255) (k : Int) :
    ∀ (j i a : Nat) (acc : List Val) (F : Fr) (H : Hp), j = m - i → i ≤ m → acc.length = i → IU M A nA k acc a H → norm [0, 1, 4, 5, 88, 89] F = frU q n ((d + 1 : Nat) : Int) m i →
    (∃ ps e H1, loads (rU s.data.toList d) j a 0 = some (ps, e, 0) ∧ loopO false ⟨0, 0⟩ 94 lp94_1 (n + 2) nA F H = some (.exit 3, frU q n ((d + 1 : Nat) : Int) m m ++ [(90, .p (.bool false))], H1) ∧ IU M A nA k (acc ++ ps) e H1) ∨
    (loads (rU s.data.toList d) j a 0 = none ∧ ∃ (a' : Nat) (X : List Blk) (Y : List Arr), loopO false ⟨0, 0⟩ 94 lp94_1 (n + 2) nA F H = some (.pan (wrongP a'), [], ⟨M a' ++ X, A ++ Y⟩)) := by
  have hd1 : (1 : Int) ≤ ((d + 1 : Nat) : Int) := by omega
  have hd3 : ((d + 1 : Nat) : Int) ≤ 100 := by omega
  have hdd : ((d + 1 : Nat) : Int) - 1 = (d : Int) := by omega
  intro j
  induction j with
  | zero =>
    intro i a acc F H hj hi ha hI hF
    have hie : i = m := by omega
    subst hie
    obtain ⟨H0, hc, hI0⟩ := IU_cut rd hA k acc a F H hI
    refine .inl ⟨[], a, H0, rfl, ?_, by rw [List.append_nil]; exact hI0⟩
    rw [loopO_eq, hd94_1, hc, hF]
    simp only [bodyU_end]
  | succ j ihj =>
    intro i a acc F H hj hi ha hI hF
    have hlt : i < m := by omega
    obtain ⟨H0, hc, hI0⟩ := IU_cut rd hA k acc a F H hI
    rw [loopO_eq, hd94_1, hc, hF]
    simp only [loads]
    have gx : ∀ (G : List Blk) (x : Val), G.all (blkNo 0 0) = true → (G ++ [box25 x]).all (blkNo 0 0) = true := fun G x h => by
      rw [List.all_append, h]; rfl
    cases hun : un s.data.toList d a with
    | none =>
      right
      have hr : rU s.data.toList d a 0 = none := by simp [rU, hun]
      rw [hr]
      refine ⟨rfl, ?_⟩
      rcases hI0 with ⟨h, G, rfl, hG⟩ | ⟨h, w, G, rfl, hG⟩
      · have hc2 := callU ih rd hA k a (.lit true []) G [] hG rfl
        rw [hun] at hc2
        obtain ⟨a', hc2⟩ := hc2
        have hb := bodyU_fail (q := q) (n := n) ((d + 1 : Nat) : Int) hd1 hd3 m i hlt k a a' (.lit true []) G [] (by rw [hdd]; exact hc2)
        exact ⟨a', _, [], by simp only [hb]; rfl⟩
      · have hc2 := callU ih rd hA k a (.own nA w) G [rowL w acc] hG (by simp [blkNo, cB, D.noRefs, D.noRef])
        rw [hun] at hc2
        obtain ⟨a', hc2⟩ := hc2
        have hb := bodyU_fail (q := q) (n := n) ((d + 1 : Nat) : Int) hd1 hd3 m i hlt k a a' (.own nA w) G [rowL w acc] (by rw [hdd]; exact hc2)
        exact ⟨a', _, [rowL w acc], by simp only [hb]; rfl⟩
    | some p =>
      obtain ⟨x, nx⟩ := p
      have hr : rU s.data.toList d a 0 = some (x, nx, 0) := by simp [rU, hun]
      rw [hr]
      have step : ∃ H1, E false ⟨0, 0⟩ 94 lp94_1 (frU q n ((d + 1 : Nat) : Int) m i) H0 = some (.normal, frU q n ((d + 1 : Nat) : Int) m (i + 1), H1) ∧ IU M A nA k (acc ++ [x]) nx H1 := by
        rcases hI0 with ⟨h, G, rfl, hG⟩ | ⟨h, w, G, rfl, hG⟩
        · have hc2 := callU ih rd hA k a (.lit true []) G [] hG rfl
          rw [hun] at hc2
          have hb := bodyU_first rd hA ((d + 1 : Nat) : Int) hd1 hd3 m i hlt hm k a nx x G (by rw [hdd]; exact hc2)
          exact ⟨_, hb, .inr ⟨by simp, 0, _, by rw [h]; rfl, gx G x hG⟩⟩
        · have hc2 := callU ih rd hA k a (.own nA w) G [rowL w acc] hG (by simp [blkNo, cB, D.noRefs, D.noRef])
          rw [hun] at hc2
          have hb := bodyU_next rd hA ((d + 1 : Nat) : Int) hd1 hd3 m i hlt hm k a nx w acc (by omega) x G (by rw [hdd]; exact hc2)
          exact ⟨_, hb, .inr ⟨by simp, w + 1, _, rfl, gx G x hG⟩⟩
      obtain ⟨H1, hb, hI1⟩ := step
      simp only [hb]
      rcases ihj (i + 1) nx (acc ++ [x]) (frU q n ((d + 1 : Nat) : Int) m (i + 1)) H1 (by omega) (by omega) (by simp; omega) hI1 rfl with ⟨ps, e, H2, h1, h2, h3⟩ | ⟨h1, h2⟩
      · left
        refine ⟨x :: ps, e, H2, by rw [h1], h2, ?_⟩
        simpa using h3
      · right
        exact ⟨by rw [h1], h2⟩

attribute [local simp] E_skip E_ret E_exit E_text E_draw E_seq E_cond E_block E_scope E_loop runOps runOp runDraw runVF runV finV gate FlOK wantD exec fin opd look putF norm constD constC fieldAddrD loadD storeD opCall lenD binD isShift intP strP numD indexAddrD indexD D.pd? D.pds? cells_enc sub capsOf callD argsD argD D.nf enc_agg unP box_enc cellD mkF H00 st1 cD_agg cD_pagg cD_int cD_bool cD_str cD_sl cD_lit cD_own

theorem un94_list (rd : Rd s q n nA M) (hA : A.length = nA) (hs : s.size ≤ 1000000) (d : Int) (hd : 1 ≤ d) (a m : Nat) (k : Int) (hk45 : k = 4 ∨ k = 5) (h1 : a + 2 ≤ s.size) (hk : byI s.data.toList a = k) (hm : byI s.data.toList (a + 1) = m)
    (e : Nat) (qd : D) (G : List Blk) (Y : List Arr) (hqd : qd = .lit true [] ∨ ∃ w, qd = .own nA w)
    (hloop : loopO false ⟨0, 0⟩ 94 lp94_1 (n + 2) nA (frU q n d m 0) (stU M A k (a + 2) (.lit true []) [] []) = some (.exit 3, frU q n d m m ++ [(90, .p (.bool false))], stU M A k e qd G Y)) :
    E false ⟨0, 0⟩ 94 code94 (mkF 0 [.ptr q 0, .p (.int .i64 d)]) ⟨M a, A⟩ = some (.ret, [(4, .ptr n 0)], ⟨M e ++ cB k 0 ⟨#[]⟩ qd :: cB k 0 ⟨#[]⟩ qd :: G, A ++ Y⟩) := by
  have r1 := rd.app [zeroB] nA (Nat.le_refl _) rfl
  have r2 := rd.app [zeroB, cB k 0 ⟨#[]⟩ (.lit true [])] nA (Nat.le_refl _) rfl
  obtain ⟨dd, hy⟩ := r1.yes (a := a) hA
  have n1 := r1.next hs (a := a) hA (by omega)
  have n2 := r2.next hs (a := a + 1) hA (by omega)
  have hl := rd.len
  have c1 : (0 : Int) < d := by omega
  rw [hk] at n1
  rw [hm] at n2
  simp only [zeroB, cB] at hy n1 n2
  have h00 : ((0 : Nat) : Int) = 0 := rfl
  simp only [lp94_1, code94, Tryz.f94, frU, stU, zeroB, cB, h00, List.append_nil] at hloop
  have S1 := fun a x y z X => set_n1 (hl a) x y z X
  have S0 := fun a x z X => set_n (hl a) x z X
  have G1 := fun a x y X => get_n1 (hl a) x y X
  have G0 := fun a x X => get_n (hl a) x X
  rcases hk45 with rfl | rfl <;> rcases hqd with rfl | ⟨w, rfl⟩ <;> simp [code94, Tryz.f94, zeroB, cB, hy, n1, n2, hl, hA, c1, z25', build25_t0, splice, S1, S0, G1, G0, hloop]

theorem un94_lfail (rd : Rd s q n nA M) (hA : A.length = nA) (hs : s.size ≤ 1000000) (d : Int) (hd : 1 ≤ d) (a m : Nat) (k : Int) (hk45 : k = 4 ∨ k = 5) (h1 : a + 2 ≤ s.size) (hk : byI s.data.toList a = k) (hm : byI s.data.toList (a + 1) = m)
    (x : PD) (B : List Blk) (Y : List Arr)
    (hloop : loopO false ⟨0, 0⟩ 94 lp94_1 (n + 2) nA (frU q n d m 0) (stU M A k (a + 2) (.lit true []) [] []) = some (.pan x, [], ⟨B, Y⟩)) :
    E false ⟨0, 0⟩ 94 code94 (mkF 0 [.ptr q 0, .p (.int .i64 d)]) ⟨M a, A⟩ = some (.pan x, [], ⟨B, Y⟩) := by
  have r1 := rd.app [zeroB] nA (Nat.le_refl _) rfl
  have r2 := rd.app [zeroB, cB k 0 ⟨#[]⟩ (.lit true [])] nA (Nat.le_refl _) rfl
  obtain ⟨dd, hy⟩ := r1.yes (a := a) hA
  have n1 := r1.next hs (a := a) hA (by omega)
  have n2 := r2.next hs (a := a + 1) hA (by omega)
  have hl := rd.len
  have c1 : (0 : Int) < d := by omega
  rw [hk] at n1
  rw [hm] at n2
  simp only [zeroB, cB] at hy n1 n2
  have h00 : ((0 : Nat) : Int) = 0 := rfl
  simp only [lp94_1, code94, Tryz.f94, frU, stU, zeroB, cB, h00, List.append_nil] at hloop
  have S1 := fun a x y z X => set_n1 (hl a) x y z X
  have G1 := fun a x y X => get_n1 (hl a) x y X
  rcases hk45 with rfl | rfl <;> simp [code94, Tryz.f94, zeroB, cB, hy, n1, n2, hl, hA, c1, z25', build25_t0, splice, S1, G1, hloop]
end Go.Vi
end

section
/- Vi: the reader's unpacked (f94) whole. No conditions. -/
namespace Go.Vi
open Go Go.Lib Go.Proofs
set_option maxRecDepth 100000

theorem extract_eq (s : ByteArray) (i m : Nat) : s.extract i (i + m) = ⟨((s.data.toList.drop i).take m).toArray⟩ := by
  rw [ba_ext]
  simp [ByteArray.data_extract, List.extract]

theorem un94_W (s : ByteArray) (q : Nat) (hs : s.size ≤ 1000000) : ∀ d : Nat, d ≤ 90 → Un94 s q d := by
  intro d
  induction d with
  | zero =>
    intro _ n nA M A rd hA a
    refine ⟨a, W94_ofH (by rintro ⟨_, h⟩; simp [D.noRef] at h) (by simp) ?_⟩
    show fnOut Tryz.prog [.cell 4 25] (M a).length A.length _ = _
    rw [un94_d0 rd hA ((0 : Nat) : Int) (by omega) a, rd.len, hA]
    have := finp [.cell 4 25] n nA (M a) A (rd.len a) hA (rd.all a) (wrongP a) [] [zeroB] []
    rwa [List.append_nil] at this
  | succ d ih =>
    intro hd n nA M A rd hA a
    have hd1 : (1 : Int) ≤ ((d + 1 : Nat) : Int) := by omega
    have ihd := ih (by omega)
    have hl : s.data.toList.length = s.size := rfl
    have W94 : ∀ o, fnOut Tryz.prog [.cell 4 25] (M a).length A.length (E false ⟨0, 0⟩ 94 code94 (mkF 0 [.ptr q 0, .p (.int .i64 ((d + 1 : Nat) : Int))]) ⟨M a, A⟩) = some o → W 94 [.ptr q 0, .p (.int .i64 ((d + 1 : Nat) : Int))] ⟨M a, A⟩ = some o :=
      fun o h => W94_ofH (by rintro ⟨_, h⟩; simp [D.noRef] at h) (by simp) h
    have pan : ∀ (a' : Nat) (X : List Blk) (Y : List Arr), E false ⟨0, 0⟩ 94 code94 (mkF 0 [.ptr q 0, .p (.int .i64 ((d + 1 : Nat) : Int))]) ⟨M a, A⟩ = some (.pan (wrongP a'), [], ⟨M a' ++ X, A ++ Y⟩) →
        ∃ a' : Nat, W 94 [.ptr q 0, .p (.int .i64 ((d + 1 : Nat) : Int))] ⟨M a, A⟩ = some (.pan (wrongP a'), ⟨M a', A⟩) := fun a' X Y h => by
      refine ⟨a', W94 _ ?_⟩
      rw [h, rd.len, hA]
      exact finp _ n nA (M a') A (rd.len a') hA (rd.all a') _ _ X Y
    have pan0 : ∀ (a' : Nat) (X : List Blk), E false ⟨0, 0⟩ 94 code94 (mkF 0 [.ptr q 0, .p (.int .i64 ((d + 1 : Nat) : Int))]) ⟨M a, A⟩ = some (.pan (wrongP a'), [], ⟨M a' ++ X, A⟩) →
        ∃ a' : Nat, W 94 [.ptr q 0, .p (.int .i64 ((d + 1 : Nat) : Int))] ⟨M a, A⟩ = some (.pan (wrongP a'), ⟨M a', A⟩) := fun a' X h => pan a' X [] (by rw [List.append_nil]; exact h)
    unfold un
    rw [hl]
    have bd := byI_bd s.data.toList (a + 1)
    have hn : byI s.data.toList (a + 1) = (((byI s.data.toList (a + 1)).toNat : Nat) : Int) := by omega
    have hn2 : (byI s.data.toList (a + 1)).toNat ≤ 255 := by omega
    by_cases h0 : s.size ≤ a
    · rw [if_pos h0]
      exact pan0 a _ (un94_end rd hA _ hd1 a h0)
    rw [if_neg h0]
    by_cases k1 : byI s.data.toList a = 1
    · rw [if_pos k1]
      by_cases h5 : s.size < a + 5
      · rw [if_pos h5]
        obtain ⟨a', X, h⟩ := un94_ishort rd hA hs _ hd1 a (by omega) h5 k1
        exact pan0 a' X h
      · rw [if_neg h5]
        refine W94 _ ?_
        rw [un94_int rd hA hs _ hd1 a (by omega) k1, rd.len, hA]
        exact fin94l n nA _ A (rd.len _) hA (rd.all _) _ _ _ _
    rw [if_neg k1]
    by_cases k2 : byI s.data.toList a = 2
    · rw [if_pos k2]
      by_cases h2 : s.size < a + 2
      · rw [if_pos h2]
        exact pan0 (a + 1) _ (un94_bshort rd hA hs _ hd1 a (by omega) (by omega) k2)
      · rw [if_neg h2]
        refine W94 _ ?_
        rw [un94_bool rd hA hs _ hd1 a (by omega) k2, rd.len, hA]
        exact fin94l n nA _ A (rd.len _) hA (rd.all _) _ _ _ _
    rw [if_neg k2]
    by_cases k3 : byI s.data.toList a = 3
    · rw [if_pos k3]
      by_cases h2 : s.size < a + 2
      · rw [if_pos (.inl h2)]
        exact pan0 (a + 1) _ (un94_tshort1 rd hA hs _ hd1 a 3 (by omega) (by omega) k3 (.inl rfl))
      by_cases h3 : s.size < a + 2 + (byI s.data.toList (a + 1)).toNat
      · rw [if_pos (.inr h3)]
        exact pan0 (a + 2) _ (un94_tshort2 rd hA hs _ hd1 a _ (by omega) k3 hn h3)
      · rw [if_neg (by omega)]
        refine W94 _ ?_
        rw [un94_text rd hA hs _ hd1 a _ (by omega) k3 hn (by omega), rd.len, hA]
        rw [extract_eq]
        exact fin94l n nA _ A (rd.len _) hA (rd.all _) _ _ _ _
    rw [if_neg k3]
    by_cases k45 : byI s.data.toList a = 4 ∨ byI s.data.toList a = 5
    · rw [if_pos k45]
      by_cases h2 : s.size < a + 2
      · rw [if_pos h2]
        exact pan0 (a + 1) _ (un94_tshort1 rd hA hs _ hd1 a _ (by omega) (by omega) rfl (.inr k45))
      · rw [if_neg h2]
        rcases loopU ihd (by omega) rd hA (byI s.data.toList (a + 1)).toNat hn2 (byI s.data.toList a) (byI s.data.toList (a + 1)).toNat 0 (a + 2) [] (frU q n ((d + 1 : Nat) : Int) (byI s.data.toList (a + 1)).toNat 0)
          (stU M A (byI s.data.toList a) (a + 2) (.lit true []) [] []) rfl (Nat.zero_le _) rfl (.inl ⟨rfl, [], rfl, rfl⟩) rfl with ⟨ps, e, H1, hl1, hloop, hI⟩ | ⟨hl1, a', X, Y, hloop⟩
        · have hl2 : loads (fun a x => Option.map (fun p => (p.1, p.2, (0 : Int))) (un s.data.toList d a)) (byI s.data.toList (a + 1)).toNat (a + 2) 0 = some (ps, e, 0) := hl1
          rw [hl2]
          rw [List.nil_append] at hI
          refine W94 _ ?_
          rcases hI with ⟨h, G, rfl, hG⟩ | ⟨h, w, G, rfl, hG⟩
          · rw [un94_list rd hA hs _ hd1 a _ (byI s.data.toList a) k45 (by omega) rfl hn e (.lit true []) G [] (.inl rfl) hloop, rd.len, hA, h, List.append_nil]
            exact fin94l n nA _ A (rd.len _) hA (rd.all _) _ _ _ _
          · rw [un94_list rd hA hs _ hd1 a _ (byI s.data.toList a) k45 (by omega) rfl hn e (.own nA w) G [rowL w ps] (.inr ⟨w, rfl⟩) hloop, rd.len, hA]
            exact fin94o n nA _ A (rd.len _) hA (rd.all _) _ _ _ _ _ _
        · have hl2 : loads (fun a x => Option.map (fun p => (p.1, p.2, (0 : Int))) (un s.data.toList d a)) (byI s.data.toList (a + 1)).toNat (a + 2) 0 = none := hl1
          rw [hl2]
          exact pan a' X Y (un94_lfail rd hA hs _ hd1 a _ (byI s.data.toList a) k45 (by omega) rfl hn _ _ _ hloop)
    rw [if_neg k45]
    exact pan0 (a + 1) _ (un94_other rd hA hs _ hd1 a (by omega) k1 k2 k3 (fun h => k45 (.inl h)) (fun h => k45 (.inr h)))
end Go.Vi
end

section
/- Vi: slices.Equal (f95) of bytes. No conditions. -/
namespace Go.Vi
open Go Go.Lib Go.Proofs
set_option maxRecDepth 100000
attribute [local simp] E_skip E_ret E_exit E_text E_draw E_seq E_cond E_block E_scope E_loop runOps runOp runDraw runVF runV finV gate FlOK wantD exec fin opd look putF norm constD constC fieldAddrD loadD storeD opCall lenD binD isShift intP strP numD indexAddrD indexD D.pd? D.pds? cells_enc sub capsOf callD argsD argD D.nf enc_agg unP box_enc cellD mkF H00 st1 cD_agg cD_pagg cD_int cD_bool cD_str cD_sl cD_lit cD_own

def fr95 (a b : List Int) (i : Nat) : Fr := [(0, .p (.sl (encU a))), (1, .p (.sl (encU b))), (12, .p (.int .i64 a.length)), (13, .p (.int .i64 i))]
theorem encU_at (a : List Int) (i : Nat) (h : i < a.length) : (encU a)[i]? = some (.int .u8 a[i]) := by simp [encU, h]
theorem body95_end (a b : List Int) : E false ⟨0, 0⟩ 95 lp95_0 (fr95 a b a.length) H00 = some (.exit 0, fr95 a b a.length ++ [(14, .p (.bool false))], H00) := by
  simp [fr95, lp95_0, code95, Tryz.f95]
theorem body95_same (a b : List Int) (i : Nat) (hi : i < a.length) (hb : i < b.length) (hlen : a.length ≤ 100000000) (h : a[i] = b[i]) :
    E false ⟨0, 0⟩ 95 lp95_0 (fr95 a b i) H00 = some (.normal, fr95 a b (i + 1), H00) := by
  have hw : IntKind.i64.wrap ((i : Int) + 1) = (i : Int) + 1 := wrap64 (by omega) (by omega)
  have ga := encU_at a i hi
  have gb := encU_at b i hb
  simp [fr95, lp95_0, code95, Tryz.f95, hi, ga, gb, hw, h, cells_int]
theorem body95_diff (a b : List Int) (i : Nat) (hi : i < a.length) (hb : i < b.length) (h : ¬ a[i] = b[i]) :
    E false ⟨0, 0⟩ 95 lp95_0 (fr95 a b i) H00 = some (.ret, [(4, .p (.bool false))], H00) := by
  have ga := encU_at a i hi
  have gb := encU_at b i hb
  simp [fr95, lp95_0, code95, Tryz.f95, hi, ga, gb, h, cells_int]

theorem loop95_ok (a b : List Int) (hab : a.length = b.length) (hlen : a.length ≤ 100000000) : ∀ (m i : Nat) (F : Fr), m = a.length - i → i ≤ a.length → norm [0, 1, 12, 13] F = fr95 a b i →
    loopO false ⟨0, 0⟩ 95 lp95_0 0 0 F H00 = if a.drop i = b.drop i then some (.exit 0, fr95 a b a.length ++ [(14, .p (.bool false))], H00) else some (.ret, [(4, .p (.bool false))], H00) := by
  have hcut : ∀ F, cutD ⟨0, 0⟩ [0, 1, 12, 13] 0 0 F H00 = some (norm [0, 1, 12, 13] F, H00) := fun F => cut_full ⟨0, 0⟩ _ F H00
  intro m
  induction m with
  | zero =>
    intro i F hm hi hF
    have hie : i = a.length := by omega
    subst hie
    rw [loopO_eq, hd95_0, hcut, hF]
    simp only [body95_end]
    rw [if_pos (by rw [List.drop_length, hab, List.drop_length])]
  | succ m ih =>
    intro i F hm hi hF
    have hlt : i < a.length := by omega
    have hlb : i < b.length := by omega
    rw [loopO_eq, hd95_0, hcut, hF]
    rw [List.drop_eq_getElem_cons hlt, List.drop_eq_getElem_cons hlb]
    by_cases h : a[i] = b[i]
    · simp only [body95_same a b i hlt hlb hlen h]
      rw [ih (i + 1) (fr95 a b (i + 1)) (by omega) (by omega) rfl]
      by_cases h2 : a.drop (i + 1) = b.drop (i + 1)
      · rw [if_pos h2, if_pos (by rw [h, h2])]
      · rw [if_neg h2, if_neg (fun e => h2 (List.cons.inj e).2)]
    · simp only [body95_diff a b i hlt hlb h]
      rw [if_neg (fun e => h (List.cons.inj e).1)]

theorem equal95_W (a b : List Int) (hlen : a.length ≤ 100000000) (H : Hp) : W 95 [.p (.sl (encU a)), .p (.sl (encU b))] H = some (.ret (.p (.bool (decide (a = b)))), H) := by
  refine W95_of rfl (by simp) ?_
  have fin1 : ∀ (x : Bool), alone H (fnOut Tryz.prog [.tmp 4] 0 0 (some (.ret, [(4, .p (.bool x))], H00))) = some (.ret (.p (.bool x)), H) := fun x => by
    simp [fnOut, retOut, resD, look, retsD, retD, argD, D.nf, D.pd?, oneD, D.noRefs, D.noRef, alone, Hp.cut]
  by_cases hab : a.length = b.length
  · have hloop := loop95_ok a b hab hlen a.length 0 (fr95 a b 0) rfl (Nat.zero_le _) rfl
    rw [List.drop_zero, List.drop_zero] at hloop
    have h00 : ((0 : Nat) : Int) = 0 := rfl
    have key : E false ⟨0, 0⟩ 95 code95 (mkF 0 [.p (.sl (encU a)), .p (.sl (encU b))]) H00 = some (.ret, [(4, .p (.bool (decide (a = b))))], H00) := by
      by_cases h : a = b
      · rw [if_pos h] at hloop
        rw [decide_eq_true h]
        simp only [lp95_0, code95, Tryz.f95, fr95, H00, h00, ← hab] at hloop
        simp [code95, Tryz.f95, encU_len, hab, hloop]
        rw [hab] at hloop
        simp [hloop]
      · rw [if_neg h] at hloop
        rw [decide_eq_false h]
        simp only [lp95_0, code95, Tryz.f95, fr95, H00, h00] at hloop
        rw [hab] at hloop
        simp [code95, Tryz.f95, encU_len, hab, hloop]
    rw [key, fin1]
  · have hne : ¬ (a.length : Int) = b.length := by omega
    have hne2 : ¬ a = b := fun e => hab (by rw [e])
    have key : E false ⟨0, 0⟩ 95 code95 (mkF 0 [.p (.sl (encU a)), .p (.sl (encU b))]) H00 = some (.ret, [(4, .p (.bool false))], H00) := by
      simp [code95, Tryz.f95, encU_len, hab, hne]
    rw [key, fin1, decide_eq_false hne2]
end Go.Vi
end

section
/- Vi: value.Load (f47). No conditions. -/
namespace Go.Vi
open Go Go.Lib Go.Proofs
set_option maxRecDepth 100000
attribute [local simp] E_skip E_ret E_exit E_text E_draw E_seq E_cond E_block E_scope E_loop runOps runOp runDraw runVF runV finV gate FlOK wantD exec fin opd look putF norm constD constC fieldAddrD loadD storeD opCall lenD binD isShift intP strP numD indexAddrD indexD D.pd? D.pds? cells_enc sub capsOf callD argsD argD D.nf enc_agg unP box_enc cellD mkF H00 st1 cD_agg cD_pagg cD_int cD_bool cD_str cD_sl cD_lit cD_own

theorem W_attempt {args : List D} {H : Hp} {r : Out × Hp} (h : attemptD W args H = some r) : W 78 args H = some r := by
  refine calW_of ?_
  unfold calF
  rw [if_neg (by decide), if_pos (show others.is 78 = true from rfl)]
  show doesX _ 78 args H = some r
  unfold doesX
  rw [if_neg (by decide), if_pos rfl]
  exact h

def ML (s : ByteArray) (a : Nat) : List Blk := [zeroB, zeroB, rdr s a, .cells [.ptr 2 0], .cells [.p (.bool false)]]
theorem rdML (s : ByteArray) : Rd s 2 5 0 (ML s) where
  len _ := rfl
  all _ := rfl
  at_ _ := rfl
  set _ _ := rfl

theorem W93_ofH {args : List D} {H : Hp} (hp : ¬ (ch.pure 93 = true ∧ args.all (D.noRef 0 0) = true)) (hl : args.length ≤ 4) {o : Out × Hp}
    (h : fnOut Tryz.prog [] H.B.length H.A.length (E false ⟨0, 0⟩ 93 code93 (mkF 0 args) H) = some o) : W 93 args H = some o :=
  W_ofH Tryz.func93 rfl (by kernel_rfl) rfl hp (by rw [Tryz.ntmps93]; exact hl) h

theorem clo93_ok (s : ByteArray) (hs : s.size ≤ 1000000) (v : Val) (e : Nat) (h : un s.data.toList 8 0 = some (v, e)) :
    ∃ d, W 93 [.ptr 3 0, .ptr 1 0] ⟨ML s 0, []⟩ = some (.ret d, ⟨[zeroB, box25 v, rdr s e, .cells [.ptr 2 0], .cells [.p (.bool false)]], []⟩) := by
  have h94 := un94_W s 2 hs 8 (by omega) 5 0 (ML s) [] (rdML s) rfl 0
  rw [h] at h94
  have h08 : ((8 : Nat) : Int) = 8 := rfl
  have h00 : ((0 : Nat) : Int) = 0 := rfl
  simp only [ML, rdr, zeroB, h08, h00] at h94
  have key : ∃ F, E false ⟨0, 0⟩ 93 code93 (mkF 0 [.ptr 3 0, .ptr 1 0]) ⟨ML s 0, []⟩ = some (.normal, F, ⟨[zeroB, box25 v, rdr s e, .cells [.ptr 2 0], .cells [.p (.bool false)]], []⟩) :=
    ⟨_, by simp [code93, Tryz.f93, ML, rdr, zeroB, box25, h94, splice]; rfl⟩
  obtain ⟨F, key⟩ := key
  refine ⟨oneD [], W93_ofH (by rintro ⟨_, h⟩; simp [D.noRef] at h) (by simp) ?_⟩
  rw [key]
  rfl

theorem clo93_no (s : ByteArray) (hs : s.size ≤ 1000000) (h : un s.data.toList 8 0 = none) :
    ∃ a' : Nat, W 93 [.ptr 3 0, .ptr 1 0] ⟨ML s 0, []⟩ = some (.pan (wrongP a'), ⟨ML s a', []⟩) := by
  have h94 := un94_W s 2 hs 8 (by omega) 5 0 (ML s) [] (rdML s) rfl 0
  rw [h] at h94
  obtain ⟨a', h94⟩ := h94
  have h08 : ((8 : Nat) : Int) = 8 := rfl
  have h00 : ((0 : Nat) : Int) = 0 := rfl
  simp only [ML, rdr, zeroB, h08, h00] at h94
  have key : E false ⟨0, 0⟩ 93 code93 (mkF 0 [.ptr 3 0, .ptr 1 0]) ⟨ML s 0, []⟩ = some (.pan (wrongP a'), [], ⟨ML s a', []⟩) := by
    simp [code93, Tryz.f93, ML, rdr, zeroB, h94]
  refine ⟨a', W93_ofH (by rintro ⟨_, h⟩; simp [D.noRef] at h) (by simp) ?_⟩
  rw [key]
  rfl

def HL (s : ByteArray) : Hp := ⟨[zeroB, zeroB, rdr s 0, .cells [.ptr 2 0]], []⟩
theorem att_ok (s : ByteArray) (hs : s.size ≤ 1000000) (v : Val) (e : Nat) (h : un s.data.toList 8 0 = some (v, e)) :
    W 78 [.fn 93 [.ptr 3 0, .ptr 1 0]] (HL s) = some (.ret (.p (.bool true)), ⟨[zeroB, box25 v, rdr s e, .cells [.ptr 2 0]], []⟩) := by
  obtain ⟨d, h93⟩ := clo93_ok s hs v e h
  refine W_attempt ?_
  have h93' : W 93 [.ptr 3 0, .ptr 1 0] ⟨(HL s).B ++ [.cells [.p (.bool false)]], []⟩ = _ := h93
  unfold attemptD
  simp only [capsOf]
  rw [if_pos (by decide)]
  simp only [argsD, argD, Bool.false_eq_true, if_false, D.nf, D.pd?]
  rw [show (⟨(HL s).B ++ [Blk.cells [.p (.bool false)]], (HL s).A⟩ : Hp) = ⟨(HL s).B ++ [Blk.cells [.p (.bool false)]], []⟩ from rfl, h93']
  rfl
theorem att_no (s : ByteArray) (hs : s.size ≤ 1000000) (h : un s.data.toList 8 0 = none) :
    ∃ a' : Nat, W 78 [.fn 93 [.ptr 3 0, .ptr 1 0]] (HL s) = some (.ret (.p (.bool false)), ⟨[zeroB, zeroB, rdr s a', .cells [.ptr 2 0]], []⟩) := by
  obtain ⟨a', h93⟩ := clo93_no s hs h
  refine ⟨a', W_attempt ?_⟩
  have h93' : W 93 [.ptr 3 0, .ptr 1 0] ⟨(HL s).B ++ [.cells [.p (.bool false)]], []⟩ = _ := h93
  unfold attemptD
  simp only [capsOf]
  rw [if_pos (by decide)]
  simp only [argsD, argD, Bool.false_eq_true, if_false, D.nf, D.pd?]
  rw [show (⟨(HL s).B ++ [Blk.cells [.p (.bool false)]], (HL s).A⟩ : Hp) = ⟨(HL s).B ++ [Blk.cells [.p (.bool false)]], []⟩ from rfl, h93']
  rfl

def bI (b : List UInt8) : List Int := b.map fun c => (c.toNat : Int)
theorem encB_U (b : List UInt8) : encB b = encU (bI b) := by simp [encB, encU, bI]
def pLoad (b : List UInt8) : Option Val :=
  match un b 8 0 with
  | some (v, _) => if v.valid = true ∧ pk v = bI b then some v else none
  | none => none

theorem z84 : zeroOf Tryz.prog 84 = some (.pointer none) := by kernel_rfl
theorem bd86 (F : Fr) (x : ByteArray) (t : Tmp) (h : look F t = .p (.str x)) : buildD Tryz.prog F 86 [(0, .tmp t)] = some (.agg [.p (.str x), .p (.int .i64 0)]) := by
  have z : zeroOf Tryz.prog 86 = some (.agg #[.string ⟨#[]⟩, .int .i64 0]) := by kernel_rfl
  have pl : placesOf Tryz.prog 86 = some [(0, 1), (1, 1)] := by kernel_rfl
  simp [buildD, z, pl, buildD.go, splice, h]

theorem cD_nilP : cellsD (.p .nilP) = [.p .nilP] := rfl
theorem cD_ptr (i o : Nat) : cellsD (.ptr i o) = [.ptr i o] := rfl
theorem pload_W (b : List UInt8) (hb : b.length ≤ 100000) (H : Hp) : W 47 [.p (.sl (encB b))] H =
    some (.ret (.tup (match pLoad b with | some v => [.p (enc v), .p (.int .i64 0)] | none => [.p (enc Val.zero), .p (.int .i64 4)])), H) := by
  refine W47_of rfl (by simp) ?_
  have hs : (⟨b.toArray⟩ : ByteArray).size ≤ 1000000 := by show b.toArray.size ≤ _; simp; omega
  have hl : (⟨b.toArray⟩ : ByteArray).data.toList = b := by simp
  have bp := bytesP_enc b
  have fin1 : ∀ (v : Val) (x : Int) (B : List Blk), alone H (fnOut Tryz.prog [.cell 2 25, .tmp 3] 0 0 (some (.ret, [(2, .ptr 0 0), (3, .p (.int .i64 x))], ⟨box25 v :: B, []⟩))) = some (.ret (.tup [.p (enc v), .p (.int .i64 x)]), H) := fun v x B => by
    rw [enc_eq v]
    simp [fnOut, retOut, resD, look, retsD, retD, argD, D.nf, D.pd?, oneD, D.noRefs, D.noRef, alone, Hp.cut, box25]
  have finz : ∀ (B : List Blk), alone H (fnOut Tryz.prog [.cell 2 25, .tmp 3] 0 0 (some (.ret, [(2, .ptr 0 0), (3, .p (.int .i64 4))], ⟨zeroB :: B, []⟩))) = some (.ret (.tup [.p (enc Val.zero), .p (.int .i64 4)]), H) := fun B => by
    rw [enc_zero]
    simp [fnOut, retOut, resD, look, retsD, retD, argD, D.nf, D.pd?, oneD, D.noRefs, D.noRef, alone, Hp.cut, zeroB]
  unfold pLoad
  cases hu : un b 8 0 with
  | none =>
    obtain ⟨a', h78⟩ := att_no ⟨b.toArray⟩ hs (by rw [hl]; exact hu)
    have h00 : ((0 : Nat) : Int) = 0 := rfl
    simp only [HL, rdr, zeroB, h00] at h78
    have key : ∃ B, E false ⟨0, 0⟩ 47 code47 (mkF 0 [.p (.sl (encB b))]) H00 = some (.ret, [(2, .ptr 0 0), (3, .p (.int .i64 4))], ⟨zeroB :: B, []⟩) :=
      ⟨_, by simp [code47, Tryz.f47, zeroB, rdr, bp, convD, z25', z84, bd86, build25, splice, cD_nilP, cD_ptr, mkFn, h78]; rfl⟩
    obtain ⟨B, key⟩ := key
    rw [key, finz]
  | some p =>
    obtain ⟨v, e⟩ := p
    have h78 := att_ok ⟨b.toArray⟩ hs v e (by rw [hl]; exact hu)
    have h00 : ((0 : Nat) : Int) = 0 := rfl
    simp only [HL, rdr, zeroB, box25, h00] at h78
    have h71 := fun H => valid71_W v H
    cases hv : v.valid with
    | false =>
      rw [hv] at h71
      have key : ∃ B, E false ⟨0, 0⟩ 47 code47 (mkF 0 [.p (.sl (encB b))]) H00 = some (.ret, [(2, .ptr 0 0), (3, .p (.int .i64 4))], ⟨zeroB :: B, []⟩) :=
        ⟨_, by simp [code47, Tryz.f47, zeroB, rdr, bp, convD, z25', z84, bd86, build25, splice, cD_nilP, cD_ptr, mkFn, h78, h71]; rfl⟩
      obtain ⟨B, key⟩ := key
      rw [key, finz]
      simp [hv]
    | true =>
      rw [hv] at h71
      have hn := (valid_fine hv).2
      have h92 := fun H => packed_W v (valid_shaped hv) (by omega) H
      have hlen := pk_len v (valid_shaped hv)
      have h95 := fun H => equal95_W (pk v) (bI b) (by omega) H
      rw [← encB_U] at h95
      by_cases hpk : pk v = bI b
      · rw [decide_eq_true hpk] at h95
        have key : ∃ B, E false ⟨0, 0⟩ 47 code47 (mkF 0 [.p (.sl (encB b))]) H00 = some (.ret, [(2, .ptr 0 0), (3, .p (.int .i64 0))], ⟨box25 v :: B, []⟩) :=
          ⟨_, by simp [code47, Tryz.f47, zeroB, rdr, box25, bp, convD, z25', z84, bd86, build25, splice, cD_nilP, cD_ptr, mkFn, h78, h71, h92, h95]; rfl⟩
        obtain ⟨B, key⟩ := key
        rw [key, fin1]
        simp [hv, hpk]
      · rw [decide_eq_false hpk] at h95
        have key : ∃ B, E false ⟨0, 0⟩ 47 code47 (mkF 0 [.p (.sl (encB b))]) H00 = some (.ret, [(2, .ptr 0 0), (3, .p (.int .i64 4))], ⟨zeroB :: B, []⟩) :=
          ⟨_, by simp [code47, Tryz.f47, zeroB, rdr, bp, convD, z25', z84, bd86, build25, splice, cD_nilP, cD_ptr, mkFn, h78, h71, h92, h95]; rfl⟩
        obtain ⟨B, key⟩ := key
        rw [key, finz]
        simp [hv, hpk]
end Go.Vi
end

section
/- Vi: value.Load and ref.Load answer alike. No conditions. -/
namespace Go.Vi
open Go Go.Lib Go.Proofs

theorem loads_A {b : List UInt8} {d : Nat} (h : ∀ (f : Nat) (l : Int) (v : Val) (e : Nat) (q : Int), rload b d f l = some (v, e, q) → un b d f = some (v, e) ∧ q = l - v.nodes) :
    ∀ (m f : Nat) (l : Int) (ps : List Val) (e : Nat) (q : Int), loads (rload b d) m f l = some (ps, e, q) → loads (rU b d) m f 0 = some (ps, e, 0) ∧ q = l - nodesL ps
  | 0, f, l, ps, e, q, h0 => by
    simp only [loads, Option.some.injEq, Prod.mk.injEq] at h0
    obtain ⟨rfl, rfl, rfl⟩ := h0
    exact ⟨rfl, by simp [nodesL]⟩
  | m + 1, f, l, ps, e, q, h0 => by
    simp only [loads] at h0
    cases hr : rload b d f l with
    | none => rw [hr] at h0; cases h0
    | some p =>
      obtain ⟨x, nx, rest⟩ := p
      rw [hr] at h0
      simp only at h0
      obtain ⟨h1, h2⟩ := h f l x nx rest hr
      cases hl2 : loads (rload b d) m nx rest with
      | none => rw [hl2] at h0; cases h0
      | some p2 =>
        obtain ⟨ps2, e2, q2⟩ := p2
        rw [hl2] at h0
        simp only [Option.some.injEq, Prod.mk.injEq] at h0
        obtain ⟨rfl, rfl, rfl⟩ := h0
        obtain ⟨i1, i2⟩ := loads_A h m nx rest ps2 e2 q2 hl2
        have hu : rU b d f 0 = some (x, nx, 0) := by simp [rU, h1]
        refine ⟨by simp only [loads, hu, i1], ?_⟩
        simp only [nodesL]; omega

theorem loads_B {b : List UInt8} {d : Nat} (h : ∀ (f : Nat) (l : Int) (v : Val) (e : Nat), un b d f = some (v, e) → v.nodes ≤ l → rload b d f l = some (v, e, l - v.nodes)) :
    ∀ (m f : Nat) (l : Int) (ps : List Val) (e : Nat) (q : Int), loads (rU b d) m f 0 = some (ps, e, q) → nodesL ps ≤ l → loads (rload b d) m f l = some (ps, e, l - nodesL ps)
  | 0, f, l, ps, e, q, h0, hn => by
    simp only [loads, Option.some.injEq, Prod.mk.injEq] at h0
    obtain ⟨rfl, rfl, _⟩ := h0
    simp [loads, nodesL]
  | m + 1, f, l, ps, e, q, h0, hn => by
    simp only [loads] at h0
    cases hr : un b d f with
    | none => simp [rU, hr] at h0
    | some p =>
      obtain ⟨x, nx⟩ := p
      have hu : rU b d f 0 = some (x, nx, 0) := by simp [rU, hr]
      rw [hu] at h0
      simp only at h0
      cases hl2 : loads (rU b d) m nx 0 with
      | none => rw [hl2] at h0; cases h0
      | some p2 =>
        obtain ⟨ps2, e2, q2⟩ := p2
        rw [hl2] at h0
        simp only [Option.some.injEq, Prod.mk.injEq] at h0
        obtain ⟨rfl, rfl, rfl⟩ := h0
        simp only [nodesL] at hn ⊢
        have h2 := nodesL_pos ps2
        have i1 := h f l x nx hr (by omega)
        have i2 := loads_B h m nx (l - x.nodes) ps2 e2 q2 hl2 (by omega)
        simp only [loads, i1, i2]
        rw [show l - x.nodes - nodesL ps2 = l - (x.nodes + nodesL ps2) by omega]

theorem nodes_leaf (k n : Int) (t : ByteArray) : (Val.mk k n t []).nodes = 1 := by simp [Val.nodes, nodesL]

theorem load_A (b : List UInt8) : ∀ (d f : Nat) (l : Int) (v : Val) (e : Nat) (q : Int), rload b d f l = some (v, e, q) → un b d f = some (v, e) ∧ q = l - v.nodes
  | 0, f, l, v, e, q, h => by simp [rload] at h
  | d + 1, f, l, v, e, q, h => by
    unfold rload at h
    unfold un
    split at h
    · cases h
    rename_i h1
    rw [if_neg (by omega)]
    by_cases k1 : byI b f = 1
    · rw [if_pos k1] at h ⊢
      split at h
      · cases h
      · rename_i h5
        simp only [Option.some.injEq, Prod.mk.injEq] at h
        obtain ⟨rfl, rfl, rfl⟩ := h
        rw [if_neg h5, nodes_leaf]; exact ⟨rfl, rfl⟩
    rw [if_neg k1] at h ⊢
    by_cases k2 : byI b f = 2
    · rw [if_pos k2] at h ⊢
      simp only [Option.some.injEq, Prod.mk.injEq] at h
      obtain ⟨rfl, rfl, rfl⟩ := h
      rw [if_neg (by omega), nodes_leaf]; exact ⟨rfl, rfl⟩
    rw [if_neg k2] at h ⊢
    by_cases k3 : byI b f = 3
    · rw [if_pos k3] at h ⊢
      split at h
      · cases h
      · rename_i h5
        simp only [Option.some.injEq, Prod.mk.injEq] at h
        obtain ⟨rfl, rfl, rfl⟩ := h
        rw [if_neg (by omega), nodes_leaf]; exact ⟨rfl, rfl⟩
    rw [if_neg k3] at h ⊢
    by_cases k45 : byI b f = 4 ∨ byI b f = 5
    · rw [if_pos k45] at h ⊢
      rw [if_neg (by omega)]
      cases hl : loads (rload b d) (byI b (f + 1)).toNat (f + 2) (l - 1) with
      | none => rw [hl] at h; cases h
      | some p =>
        obtain ⟨ps, e2, q2⟩ := p
        rw [hl] at h
        simp only [Option.some.injEq, Prod.mk.injEq] at h
        obtain ⟨rfl, rfl, rfl⟩ := h
        obtain ⟨i1, i2⟩ := loads_A (load_A b d) _ _ _ _ _ _ hl
        have i3 : loads (fun a x => Option.map (fun p => (p.1, p.2, (0 : Int))) (un b d a)) (byI b (f + 1)).toNat (f + 2) 0 = some (ps, e2, 0) := i1
        rw [i3]
        refine ⟨rfl, ?_⟩
        simp only [Val.nodes]; omega
    · rw [if_neg k45] at h; cases h

theorem load_B (b : List UInt8) : ∀ (d f : Nat) (l : Int) (v : Val) (e : Nat), un b d f = some (v, e) → v.nodes ≤ l → rload b d f l = some (v, e, l - v.nodes)
  | 0, f, l, v, e, h, hn => by simp [un] at h
  | d + 1, f, l, v, e, h, hn => by
    have hp := nodes_pos v
    unfold un at h
    unfold rload
    split at h
    · cases h
    rename_i h1
    have bd := byI_bd b (f + 1)
    by_cases k1 : byI b f = 1
    · rw [if_pos k1] at h ⊢
      split at h
      · cases h
      · rename_i h5
        simp only [Option.some.injEq, Prod.mk.injEq] at h
        obtain ⟨rfl, rfl⟩ := h
        rw [if_neg (by omega), if_neg h5, nodes_leaf]
    rw [if_neg k1] at h ⊢
    by_cases k2 : byI b f = 2
    · rw [if_pos k2] at h ⊢
      split at h
      · cases h
      · simp only [Option.some.injEq, Prod.mk.injEq] at h
        obtain ⟨rfl, rfl⟩ := h
        rw [if_neg (by omega), nodes_leaf]
    rw [if_neg k2] at h ⊢
    by_cases k3 : byI b f = 3
    · rw [if_pos k3] at h ⊢
      split at h
      · cases h
      · simp only [Option.some.injEq, Prod.mk.injEq] at h
        obtain ⟨rfl, rfl⟩ := h
        rw [if_neg (by omega), if_neg (by omega), nodes_leaf]
    rw [if_neg k3] at h ⊢
    by_cases k45 : byI b f = 4 ∨ byI b f = 5
    · rw [if_pos k45] at h ⊢
      split at h
      · cases h
      cases hl : loads (fun a x => Option.map (fun p => (p.1, p.2, (0 : Int))) (un b d a)) (byI b (f + 1)).toNat (f + 2) 0 with
      | none => rw [hl] at h; cases h
      | some p =>
        obtain ⟨ps, e2, q2⟩ := p
        rw [hl] at h
        simp only [Option.some.injEq, Prod.mk.injEq] at h
        obtain ⟨rfl, rfl⟩ := h
        simp only [Val.nodes] at hn ⊢
        have h0 := nodesL_pos ps
        have i1 := loads_B (load_B b d) _ _ (l - 1) _ _ _ (show loads (rU b d) (byI b (f + 1)).toNat (f + 2) 0 = some (ps, e2, q2) from hl) (by omega)
        rw [if_neg (by omega), i1]
        simp only
        rw [show l - 1 - nodesL ps = l - (1 + nodesL ps) by omega]
    · rw [if_neg k45] at h; cases h
end Go.Vi
end

section
/- Vi: what is read is written the same: value.Load and ref.Load answer alike. No conditions. -/
namespace Go.Vi
open Go Go.Lib Go.Proofs

/-- The bytes between two places. -/
def seg (b : List UInt8) (f e : Nat) : List Int := ((bI b).drop f).take (e - f)
theorem seg_self (b : List UInt8) (f : Nat) : seg b f f = [] := by simp [seg]
theorem bI_len (b : List UInt8) : (bI b).length = b.length := by simp [bI]
theorem bI_at (b : List UInt8) (f : Nat) (h : f < b.length) : (bI b)[f]'(by rw [bI_len]; exact h) = byI b f := by
  simp [bI, byI, h]
theorem seg_step (b : List UInt8) (f e : Nat) (h : f < e) (h2 : f < b.length) : seg b f e = byI b f :: seg b (f + 1) e := by
  unfold seg
  rw [List.drop_eq_getElem_cons (by rw [bI_len]; exact h2), bI_at b f h2, show e - f = (e - (f + 1)) + 1 by omega, List.take_succ_cons]
theorem seg_app (b : List UInt8) (f g e : Nat) (h : f ≤ g) (h2 : g ≤ e) : seg b f e = seg b f g ++ seg b g e := by
  unfold seg
  rw [show e - f = (g - f) + (e - g) by omega, List.take_add, List.drop_drop, show f + (g - f) = g by omega]
theorem seg_all (b : List UInt8) : seg b 0 b.length = bI b := by
  unfold seg
  rw [List.drop_zero, List.take_of_length_le (by rw [bI_len]; omega)]

theorem num4_x (b : List UInt8) (f : Nat) : num4 (x4 b f) = [byI b (f + 1), byI b (f + 2), byI b (f + 3), byI b (f + 4)] := by
  have d1 := byI_bd b (f + 1)
  have d2 := byI_bd b (f + 2)
  have d3 := byI_bd b (f + 3)
  have d4 := byI_bd b (f + 4)
  unfold num4 x4
  congr 1
  · omega
  congr 1
  · omega
  congr 1
  · omega
  congr 1
  omega

theorem loads_R {b : List UInt8} {d : Nat} (h : ∀ (f : Nat) (v : Val) (e : Nat), un b d f = some (v, e) → v.shaped = true → f ≤ e ∧ e ≤ b.length ∧ seg b f e = pk v) :
    ∀ (m f : Nat) (ps : List Val) (e : Nat) (q : Int), loads (rU b d) m f 0 = some (ps, e, q) → f ≤ b.length → (∀ u ∈ ps, u.shaped = true) → f ≤ e ∧ e ≤ b.length ∧ seg b f e = pks ps ∧ ps.length = m
  | 0, f, ps, e, q, h0, hf, hs => by
    simp only [loads, Option.some.injEq, Prod.mk.injEq] at h0
    obtain ⟨rfl, rfl, _⟩ := h0
    exact ⟨Nat.le_refl _, hf, by rw [seg_self]; rfl, rfl⟩
  | m + 1, f, ps, e, q, h0, hf, hs => by
    simp only [loads] at h0
    cases hr : un b d f with
    | none => simp [rU, hr] at h0
    | some p =>
      obtain ⟨x, nx⟩ := p
      have hu : rU b d f 0 = some (x, nx, 0) := by simp [rU, hr]
      rw [hu] at h0
      simp only at h0
      cases hl2 : loads (rU b d) m nx 0 with
      | none => rw [hl2] at h0; cases h0
      | some p2 =>
        obtain ⟨ps2, e2, q2⟩ := p2
        rw [hl2] at h0
        simp only [Option.some.injEq, Prod.mk.injEq] at h0
        obtain ⟨rfl, rfl, rfl⟩ := h0
        obtain ⟨a1, a2, a3⟩ := h f x nx hr (hs x (by simp))
        obtain ⟨c1, c2, c3, c4⟩ := loads_R h m nx ps2 e2 q2 hl2 a2 (fun u hu => hs u (by simp [hu]))
        exact ⟨by omega, c2, by rw [seg_app b f nx e2 a1 c1, a3, c3]; rfl, by simp [c4]⟩

theorem ba_seg (b : List UInt8) (f m : Nat) : ba ⟨((b.drop f).take m).toArray⟩ = seg b f (f + m) := by
  simp [ba, seg, bI, List.map_take, List.map_drop]
theorem size_seg (b : List UInt8) (f m : Nat) (h : f + m ≤ b.length) : (⟨((b.drop f).take m).toArray⟩ : ByteArray).size = m := by
  show ((b.drop f).take m).toArray.size = m
  simp; omega

theorem pk_45 (k n : Int) (t : ByteArray) (ps : List Val) (h1 : ¬ k = 1) (h2 : ¬ k = 2) (h3 : ¬ k = 3) : pk (.mk k n t ps) = k :: (ps.length : Int) :: pks ps := by
  rw [pk_eq, if_neg (show ¬ (Val.mk k n t ps).k = 1 from h1), if_neg (show ¬ (Val.mk k n t ps).k = 2 from h2), if_neg (show ¬ (Val.mk k n t ps).k = 3 from h3)]; rfl
theorem pk_3 (n : Int) (t : ByteArray) (ps : List Val) : pk (.mk 3 n t ps) = 3 :: (t.size : Int) :: ba t := by
  rw [pk_eq, if_neg (show ¬ (Val.mk 3 n t ps).k = 1 by simp [k_mk]), if_neg (show ¬ (Val.mk 3 n t ps).k = 2 by simp [k_mk]), if_pos (show (Val.mk 3 n t ps).k = 3 from rfl)]; rfl
theorem un_R (b : List UInt8) : ∀ (d f : Nat) (v : Val) (e : Nat), un b d f = some (v, e) → v.shaped = true → f ≤ e ∧ e ≤ b.length ∧ seg b f e = pk v
  | 0, f, v, e, h, hs => by simp [un] at h
  | d + 1, f, v, e, h, hs => by
    have bd := byI_bd b (f + 1)
    unfold un at h
    split at h
    · cases h
    rename_i h1
    by_cases k1 : byI b f = 1
    · rw [if_pos k1] at h
      split at h
      · cases h
      · rename_i h5
        simp only [Option.some.injEq, Prod.mk.injEq] at h
        obtain ⟨rfl, rfl⟩ := h
        refine ⟨by omega, by omega, ?_⟩
        rw [seg_step b f _ (by omega) (by omega), seg_step b (f + 1) _ (by omega) (by omega), seg_step b (f + 1 + 1) _ (by omega) (by omega), seg_step b (f + 1 + 1 + 1) _ (by omega) (by omega), seg_step b (f + 1 + 1 + 1 + 1) _ (by omega) (by omega), seg_self]
        rw [pk_eq]
        simp only [k_mk, n_mk, if_true]
        rw [show x4 b f - 1000000000 + 1000000000 = x4 b f by omega, num4_x, k1]
    rw [if_neg k1] at h
    by_cases k2 : byI b f = 2
    · rw [if_pos k2] at h
      split at h
      · cases h
      · simp only [Option.some.injEq, Prod.mk.injEq] at h
        obtain ⟨rfl, rfl⟩ := h
        refine ⟨by omega, by omega, ?_⟩
        rw [seg_step b f _ (by omega) (by omega), seg_step b (f + 1) _ (by omega) (by omega), seg_self, pk_eq]
        simp [k_mk, n_mk, k2]
    rw [if_neg k2] at h
    by_cases k3 : byI b f = 3
    · rw [if_pos k3] at h
      split at h
      · cases h
      · simp only [Option.some.injEq, Prod.mk.injEq] at h
        obtain ⟨rfl, rfl⟩ := h
        refine ⟨by omega, by omega, ?_⟩
        rw [seg_step b f _ (by omega) (by omega), seg_step b (f + 1) _ (by omega) (by omega), pk_3]
        rw [ba_seg, size_seg _ _ _ (by omega), k3]
        rw [show (((byI b (f + 1)).toNat : Nat) : Int) = byI b (f + 1) by omega]
    rw [if_neg k3] at h
    by_cases k45 : byI b f = 4 ∨ byI b f = 5
    · rw [if_pos k45] at h
      split at h
      · cases h
      cases hl : loads (fun a x => Option.map (fun p => (p.1, p.2, (0 : Int))) (un b d a)) (byI b (f + 1)).toNat (f + 2) 0 with
      | none => rw [hl] at h; cases h
      | some p =>
        obtain ⟨ps, e2, q2⟩ := p
        rw [hl] at h
        simp only [Option.some.injEq, Prod.mk.injEq] at h
        obtain ⟨rfl, rfl⟩ := h
        obtain ⟨c1, c2, c3, c4⟩ := loads_R (un_R b d) _ _ _ _ _ (show loads (rU b d) (byI b (f + 1)).toNat (f + 2) 0 = some (ps, e2, q2) from hl) (by omega) (shaped_mem hs)
        refine ⟨by omega, c2, ?_⟩
        rw [seg_step b f _ (by omega) (by omega), seg_step b (f + 1) _ (by omega) (by omega), pk_45 _ _ _ _ k1 k2 k3]
        rw [c4, show (((byI b (f + 1)).toNat : Nat) : Int) = byI b (f + 1) by omega, show f + 1 + 1 = f + 2 by omega, c3]
    · rw [if_neg k45] at h; cases h

/-- Both answer alike. -/
theorem load_same (b : List UInt8) : pLoad b = rLoad b := by
  unfold pLoad rLoad
  cases hu : un b 8 0 with
  | none =>
    cases hr : rload b 8 0 200 with
    | none => rfl
    | some p =>
      obtain ⟨v, e, q⟩ := p
      have := (load_A b 8 0 200 v e q hr).1
      rw [hu] at this; cases this
  | some p =>
    obtain ⟨v, e⟩ := p
    simp only
    by_cases hv : v.valid = true
    · have hn := (valid_fine hv).2
      rw [load_B b 8 0 200 v e hu (by omega)]
      simp only
      obtain ⟨c1, c2, c3⟩ := un_R b 8 0 v e hu (valid_shaped hv)
      by_cases he : e = b.length
      · subst he
        rw [seg_all] at c3
        rw [if_pos ⟨hv, c3.symm⟩, if_pos ⟨rfl, hv⟩]
      · have hne : ¬ pk v = bI b := fun hh => by
          have h1 : (seg b 0 e).length = e := by unfold seg; rw [List.length_take, List.length_drop, bI_len]; omega
          rw [c3, hh, bI_len] at h1
          exact he h1.symm
        rw [if_neg (fun h => hne h.2), if_neg (fun h => he h.1)]
    · rw [if_neg (fun h => hv h.1)]
      cases hr : rload b 8 0 200 with
      | none => rfl
      | some p2 =>
        obtain ⟨v2, e2, q2⟩ := p2
        have := (load_A b 8 0 200 v2 e2 q2 hr).1
        rw [hu] at this
        simp only [Option.some.injEq, Prod.mk.injEq] at this
        obtain ⟨rfl, rfl⟩ := this
        simp only
        rw [if_neg (fun h => hv h.2)]
end Go.Vi
end
