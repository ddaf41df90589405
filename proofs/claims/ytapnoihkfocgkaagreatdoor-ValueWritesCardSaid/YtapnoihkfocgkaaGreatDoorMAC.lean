/- It is proved here what the program's functions that read and write texts compute, the third part; conditions stand with each. -/
import Derived.Test.YtapnoihkfocgkaaGreatDoorMAB
set_option linter.unusedVariables false
set_option linter.unusedSimpArgs false

section
/- Vi: the reader's number (f116). No conditions. -/
namespace Go.Vi
open Go Go.Lib Go.Proofs
set_option maxRecDepth 100000
attribute [local simp] E_skip E_ret E_exit E_text E_draw E_seq E_cond E_block E_scope E_loop runOps runOp runDraw runVF runV finV gate FlOK wantD exec fin opd look putF norm constD constC fieldAddrD loadD storeD opCall lenD binD isShift intP strP numD indexAddrD indexD D.pd? D.pds? cells_enc sub capsOf callD argsD argD D.nf enc_agg unP box_enc cellD mkF H00 st1 cD_agg cD_pagg cD_int cD_bool cD_str cD_sl cD_lit cD_own

theorem finC (r n nA : Nat) (L : List Blk) (A : List Arr) (hL : L.length = n) (hA : A.length = nA) (hall : L.all (blkNo n nA) = true) (k m : Int) (t : ByteArray) (X : List Blk) :
    fnOut Tryz.prog [.cell r 25] n nA (some (.ret, [(r, .ptr n 0)], ⟨L ++ cB k m t (.lit true []) :: X, A⟩)) = some (.ret (.p (enc (.mk k m t []))), ⟨L, A⟩) := by
  have hg := get_n hL (cB k m t (.lit true [])) X
  have tB : (L ++ cB k m t (.lit true []) :: X).take n = L := List.take_left' hL
  have tA : A.take nA = A := List.take_of_length_le (by omega)
  simp only [cB] at *
  rw [enc_eq]
  simp [fnOut, retOut, resD, retsD, retD, oneD, D.noRefs, D.noRef, Hp.cut, hg, tB, tA, k_mk, n_mk, t_mk, ps_mk]
  exact fun b hb => List.all_eq_true.1 hall b hb
theorem finCp (r n nA : Nat) (L : List Blk) (A : List Arr) (hL : L.length = n) (hA : A.length = nA) (hall : L.all (blkNo n nA) = true) (k m : Int) (t : ByteArray) (ps : List Val) (X : List Blk) :
    fnOut Tryz.prog [.cell r 25] n nA (some (.ret, [(r, .ptr n 0)], ⟨L ++ cB k m t (.p (.sl (ps.map enc))) :: X, A⟩)) = some (.ret (.p (enc (.mk k m t ps))), ⟨L, A⟩) := by
  have hg := get_n hL (cB k m t (.p (.sl (ps.map enc)))) X
  have tB : (L ++ cB k m t (.p (.sl (ps.map enc))) :: X).take n = L := List.take_left' hL
  have tA : A.take nA = A := List.take_of_length_le (by omega)
  simp only [cB] at *
  rw [enc_eq]
  simp [fnOut, retOut, resD, retsD, retD, oneD, D.noRefs, D.noRef, Hp.cut, hg, tB, tA, k_mk, n_mk, t_mk, ps_mk]
  exact fun b hb => List.all_eq_true.1 hall b hb

variable {b : List UInt8} {q n nA : Nat} {M : Nat → List Blk} {A : List Arr}

def fr116 (n : Nat) (sgn x : Int) : Fr := [(2, .ptr n 0), (3, .p (.int .i64 sgn)), (5, .p (.int .i64 x)), (18, .ptr (n + 1) 0)]
def st116 (L : List Blk) (ds : List UInt8) (i : Nat) (A : List Arr) : Hp := ⟨L ++ [zeroB, .sit (S ds) i], A⟩
theorem body116_end (L : List Blk) (hL : L.length = n) (ds : List UInt8) (sgn x : Int) : E false ⟨0, 0⟩ 116 lp116_0 (fr116 n sgn x) (st116 L ds ds.length A) = some (.exit 0, fr116 n sgn x ++ [(19, .tup [.p (.bool false)]), (20, .p (.bool false))], st116 L ds ds.length A) := by
  have G1 := fun x y X => get_n1 hL x y X
  simp [fr116, st116, lp116_0, code116, Tryz.f116, G1, S_size]
theorem body116_step (L : List Blk) (hL : L.length = n) (ds : List UInt8) (sgn x : Int) (i : Nat) (c : UInt8) (r : List UInt8) (h : ds.drop i = c :: r) (hd : digB c = true) (h0 : 0 ≤ x) (hx : x ≤ 10000000000) :
    E false ⟨0, 0⟩ 116 lp116_0 (fr116 n sgn x) (st116 L ds i A) = some (.normal, fr116 n sgn (10 * x + ((c.toNat : Int) - 48)), st116 L ds (i + 1) A) := by
  obtain ⟨hlt, hg, _⟩ := drop_at h
  have he := drop_el h
  simp only [digB, Bool.and_eq_true, decide_eq_true_eq] at hd
  have hsz : i < (S ds).size := by rw [S_size]; exact hlt
  have hdec := decode_ascii (S ds) i hsz (by rw [S_at, he]; omega)
  rw [S_at, he] at hdec
  have G1 := fun x y X => get_n1 hL x y X
  have S1 := fun x y z X => set_n1 hL x y z X
  have w1 : IntKind.i32.wrap ((c.toNat : Int) - 48) = (c.toNat : Int) - 48 := by simp [IntKind.wrap, IntKind.bits, IntKind.signed]; omega
  have w2 : IntKind.i64.wrap ((c.toNat : Int) - 48) = (c.toNat : Int) - 48 := wrap64 (by omega) (by omega)
  have w3 : IntKind.i64.wrap (10 * x) = 10 * x := wrap64 (by omega) (by omega)
  have w4 : IntKind.i64.wrap (10 * x + ((c.toNat : Int) - 48)) = 10 * x + ((c.toNat : Int) - 48) := wrap64 (by omega) (by omega)
  simp [fr116, st116, lp116_0, code116, Tryz.f116, G1, S1, S_size, hlt, hdec, w1, w2, w3, w4, convD]
theorem loop116 (L : List Blk) (hL : L.length = n) (hA : A.length = nA) (ds : List UInt8) (sgn : Int) : ∀ (l : List UInt8) (i : Nat) (x : Int) (F : Fr), ds.drop i = l → i ≤ ds.length → l.all digB = true → 0 ≤ x → (x + 1) * 10 ^ l.length ≤ 10000000000 → norm [2, 3, 5, 18] F = fr116 n sgn x →
    loopO false ⟨0, 0⟩ 116 lp116_0 (n + 2) nA F (st116 L ds i A) = some (.exit 0, fr116 n sgn (dval x l) ++ [(19, .tup [.p (.bool false)]), (20, .p (.bool false))], st116 L ds ds.length A) := by
  have hcut : ∀ F i, cutD ⟨0, 0⟩ [2, 3, 5, 18] (n + 2) nA F (st116 L ds i A) = some (norm [2, 3, 5, 18] F, st116 L ds i A) := fun F i => by
    have := cut_full ⟨0, 0⟩ [2, 3, 5, 18] F (st116 L ds i A)
    rw [show (st116 L ds i A).B.length = n + 2 by simp [st116, hL], show (st116 L ds i A).A.length = nA from hA] at this
    exact this
  intro l
  induction l with
  | nil =>
    intro i x F h hi _ _ _ hF
    have := drop_no h
    obtain rfl : i = ds.length := by omega
    rw [loopO_eq, hd116_0, hcut, hF]
    simp only [body116_end L hL]
    rfl
  | cons c r ih =>
    intro i x F h hi ha h0 hx hF
    obtain ⟨_, _, hr⟩ := drop_at h
    simp only [List.all_cons, Bool.and_eq_true] at ha
    have hd := ha.1
    simp only [digB, Bool.and_eq_true, decide_eq_true_eq] at hd
    have hp : (1 : Int) ≤ 10 ^ r.length := Int.pow_pos (by omega)
    rw [List.length_cons, Int.pow_succ] at hx
    have hb : x + 1 ≤ 10000000000 := Int.le_trans (by
      have := Int.mul_le_mul_of_nonneg_left (a := 1) (b := 10 ^ r.length * 10) (c := x + 1) (by omega) (by omega)
      rw [Int.mul_one] at this; exact this) hx
    rw [loopO_eq, hd116_0, hcut, hF]
    simp only [body116_step L hL ds sgn x i c r h ha.1 h0 (by omega)]
    rw [ih (i + 1) (10 * x + ((c.toNat : Int) - 48)) (fr116 n sgn (10 * x + ((c.toNat : Int) - 48))) hr (by have := (drop_at h).1; omega) ha.2 (by omega) (Int.le_trans (b := (10 * (x + 1)) * 10 ^ r.length) (Int.mul_le_mul_of_nonneg_right (by omega) (by omega)) (by rw [Int.mul_assoc 10, Int.mul_comm 10, Int.mul_assoc]; exact hx)) rfl]
    simp only [dval]

theorem unsign_drop (b : List UInt8) (a : Nat) : unsign (b.drop a) = b.drop (if ([45] : List UInt8).isPrefixOf (b.drop a) = true then a + 1 else a) ∧ negB (b.drop a) = ([45] : List UInt8).isPrefixOf (b.drop a) := by
  cases h : b.drop a with
  | nil => simp [unsign, negB, List.isPrefixOf, h]
  | cons c r =>
    obtain ⟨_, _, hr⟩ := drop_at h
    by_cases hc : c = 45
    · subst hc; simp [unsign, negB, List.isPrefixOf, hr]
    · have hc' : ¬ 45 = c := fun e => hc e.symm
      simp [unsign, negB, List.isPrefixOf, hc, hc', h]

/-- What the reader finds: a value and the place behind it. -/
def Is (W' : Option (Out × Hp)) (M : Nat → List Blk) (A : List Arr) (N : Nat) : Option (Val × List UInt8) → Prop
  | some (v, r) => W' = some (.ret (.p (enc v)), ⟨M (N - r.length), A⟩)
  | none => ∃ a' : Nat, W' = some (.pan (wrongP a'), ⟨M a', A⟩)

theorem build25_k1c (F : Fr) (n : Int) (d : Tmp) (hd : look F d = .p (.int .i64 n)) : buildD Tryz.prog F 25 [(0, .const (.int .i64 1)), (1, .tmp d)] = some (.agg [.p (.int .i64 1), .p (.int .i64 n), .p (.str ⟨#[]⟩), .lit true []]) := build25_k1 F 1 n d hd

theorem number116_at (rd : Rd (S b) q n nA M) (hA : A.length = nA) (hb : b.length ≤ 100000) (a a1 : Nat) (ha1 : a1 ≤ b.length) (pre : Bool)
    (his : W 112 [.ptr q 0, .p (.str (S [45]))] ⟨M a ++ [zeroB], A⟩ = some (.ret (.p (.bool pre)), ⟨M a1 ++ [zeroB], A⟩)) :
    Is (W 116 [.ptr q 0] ⟨M a, A⟩) M A b.length (let ds := (b.drop a1).takeWhile digB
      if 1 ≤ ds.length ∧ ds.length ≤ 10 then some (.mk 1 (sg pre (dval 0 ds)) ⟨#[]⟩ [], (b.drop a1).dropWhile digB) else none) := by
  have r1 := rd.app [zeroB] nA (Nat.le_refl _) rfl
  have hrun := run_W r1 hA 141 a1 ha1 (by decide) digB dig141_W hb (by decide)
  obtain ⟨_, q2⟩ := tw_take digB (b.drop a1)
  have q3 := tw_len digB (b.drop a1)
  have hall : ((b.drop a1).takeWhile digB).all digB = true := List.all_takeWhile
  have hlen : b.length - ((b.drop a1).dropWhile digB).length = a1 + ((b.drop a1).takeWhile digB).length := by
    rw [← q2, List.length_drop]
    rw [List.length_drop] at q3 ⊢
    omega
  have e45 : (⟨#[45]⟩ : ByteArray) = S [45] := rfl
  have hl := rd.len
  have fin : ∀ o, fnOut Tryz.prog [.cell 2 25] n nA (E false ⟨0, 0⟩ 116 code116 (mkF 0 [.ptr q 0]) ⟨M a, A⟩) = some o → W 116 [.ptr q 0] ⟨M a, A⟩ = some o := fun o h => by
    refine W116_ofH (by rintro ⟨_, h⟩; simp [D.noRef] at h) (by simp) ?_
    show fnOut Tryz.prog [.cell 2 25] (M a).length A.length _ = _
    rw [rd.len, hA]; exact h
  generalize hD : (b.drop a1).takeWhile digB = ds at *
  have hin := fun H => in72_W (ds.length : Nat) 1 10 H
  simp only
  by_cases h10 : 1 ≤ ds.length ∧ ds.length ≤ 10
  · rw [if_pos h10]
    have hi : inB (ds.length : Nat) 1 10 = true := by simp only [inB, Bool.and_eq_true, decide_eq_true_eq]; omega
    rw [hi] at hin
    obtain ⟨dd, hy⟩ := r1.yes (a := a1 + ds.length) hA
    have hloop := loop116 (n := n) (A := A) (M (a1 + ds.length)) (hl _) hA ds (if pre = true then -1 else 1) ds 0 0 (fr116 n (if pre = true then -1 else 1) 0) rfl (Nat.zero_le _) hall (by omega) (pow10_le h10.2) rfl
    have bd := dval_bd ds 0 10000000000 hall (by omega) (pow10_le h10.2)
    show W 116 [.ptr q 0] ⟨M a, A⟩ = some (.ret (.p (enc (.mk 1 (sg pre (dval 0 ds)) ⟨#[]⟩ []))), ⟨M (b.length - ((b.drop a1).dropWhile digB).length), A⟩)
    rw [hlen]
    refine fin _ ?_
    have key : E false ⟨0, 0⟩ 116 code116 (mkF 0 [.ptr q 0]) ⟨M a, A⟩ = some (.ret, [(2, .ptr n 0)], ⟨M (a1 + ds.length) ++ cB 1 (sg pre (dval 0 ds)) ⟨#[]⟩ (.lit true []) :: [.sit (S ds) ds.length], A⟩) := by
      have S0 := fun a x z X => set_n (hl a) x z X
      generalize dval 0 ds = x at *
      have hx1 : IntKind.i64.wrap x = x := wrap64 (by omega) (by omega)
      have hx2 : IntKind.i64.wrap (-x) = -x := wrap64 (by omega) (by omega)
      simp only [zeroB] at hy hrun his
      simp only [lp116_0, code116, Tryz.f116, fr116, st116, zeroB] at hloop
      cases pre with
      | true =>
        simp only [if_true] at hloop
        simp [code116, Tryz.f116, zeroB, cB, e45, his, hrun, hin, hy, hl, hA, z25', S_size, hloop, hx1, hx2, build25_k1c, splice, S0, sg]
      | false =>
        simp only [Bool.false_eq_true, if_false] at hloop
        simp [code116, Tryz.f116, zeroB, cB, e45, his, hrun, hin, hy, hl, hA, z25', S_size, hloop, hx1, hx2, build25_k1c, splice, S0, sg]
    rw [key]
    exact finC 2 n nA _ A (hl _) hA (rd.all _) _ _ _ _
  · rw [if_neg h10]
    have hi : inB (ds.length : Nat) 1 10 = false := by rw [Bool.eq_false_iff]; simp only [inB, ne_eq, Bool.and_eq_true, decide_eq_true_eq]; omega
    rw [hi] at hin
    have hno := r1.no (a := a1 + ds.length) hA
    refine ⟨a1 + ds.length, fin _ ?_⟩
    have key : E false ⟨0, 0⟩ 116 code116 (mkF 0 [.ptr q 0]) ⟨M a, A⟩ = some (.pan (wrongP (a1 + ds.length : Nat)), [], ⟨M (a1 + ds.length) ++ [zeroB], A ++ []⟩) := by
      rw [List.append_nil]
      simp only [zeroB] at hno hrun his
      cases pre <;> simp [code116, Tryz.f116, zeroB, e45, his, hrun, hin, hno, hl, z25', S_size]
    rw [key]
    exact finp _ n nA _ A (hl _) hA (rd.all _) _ _ _ _

theorem number116_W (rd : Rd (S b) q n nA M) (hA : A.length = nA) (hb : b.length ≤ 100000) (a : Nat) (ha : a ≤ b.length) : Is (W 116 [.ptr q 0] ⟨M a, A⟩) M A b.length (pnum (b.drop a)) := by
  have r1 := rd.app [zeroB] nA (Nat.le_refl _) rfl
  have his := is_W r1 hA hb a ha [45] (by simp)
  obtain ⟨u1, u2⟩ := unsign_drop b a
  unfold pnum
  rw [u1, u2]
  have ha1 : (if ([45] : List UInt8).isPrefixOf (b.drop a) = true then a + 1 else a) ≤ b.length := by
    split
    · rename_i h
      have h2 := (List.isPrefixOf_iff_prefix.1 h).length_le
      rw [List.length_drop] at h2
      simp at h2; omega
    · exact ha
  exact number116_at rd hA hb a _ ha1 _ his
end Go.Vi
end

section
/- Vi: the reader's list (f115). No conditions. -/
namespace Go.Vi
open Go Go.Lib Go.Proofs
set_option maxRecDepth 100000
attribute [local simp] E_skip E_ret E_exit E_text E_draw E_seq E_cond E_block E_scope E_loop runOps runOp runDraw runVF runV finV gate FlOK wantD exec fin opd look putF norm constD constC fieldAddrD loadD storeD opCall lenD binD isShift intP strP numD indexAddrD indexD D.pd? D.pds? cells_enc sub capsOf callD argsD argD D.nf enc_agg unP box_enc cellD mkF H00 st1 cD_agg cD_pagg cD_int cD_bool cD_str cD_sl cD_lit cD_own

/-! ### In plain words -/
theorem skip2_pre (l : List UInt8) : skip2 l = if ([44, 32] : List UInt8).isPrefixOf l = true then some (l.drop 2) else none := by
  match l with
  | [] => simp [skip2, List.isPrefixOf]
  | [a] => simp [skip2, List.isPrefixOf]
  | a :: c :: r =>
    by_cases h1 : a = 44
    · by_cases h2 : c = 32
      · subst h1; subst h2; simp [skip2, List.isPrefixOf]
      · have : ¬ 32 = c := fun e => h2 e.symm
        simp [skip2, List.isPrefixOf, h2, this]
    · have : ¬ 44 = a := fun e => h1 e.symm
      simp [skip2, List.isPrefixOf, h1, this]
theorem pnum_nil : pnum [] = none := by simp [pnum, unsign]
theorem pval_nil (d : Nat) : pval d [] = none := by
  cases d with
  | zero => rfl
  | succ d => simp [pval, tru, fls, List.isPrefixOf]
theorem plist_eq {pv : List UInt8 → Option (Val × List UInt8)} (h : pv [] = none) (en : UInt8) (m k : Nat) (l : List UInt8) :
    plist pv en (m + 1) k l = if ([en] : List UInt8).isPrefixOf l = true then some ([], l.drop 1)
      else match (if k = 0 then some l else skip2 l) with
        | none => none
        | some l1 =>
          match pv l1 with
          | none => none
          | some (x, l2) =>
            if k + 1 ≤ 200 then
              match plist pv en m (k + 1) l2 with
              | none => none
              | some (ps, l3) => some (x :: ps, l3)
            else none := by
  cases l with
  | nil =>
    rw [if_neg (by simp [List.isPrefixOf])]
    by_cases hk : k = 0
    · simp [plist, hk, h]
    · simp [plist, hk, skip2]
  | cons c r =>
    by_cases hc : c = en
    · subst hc; simp [plist, List.isPrefixOf]
    · have hc' : ¬ en = c := fun e => hc e.symm
      rw [if_neg (by simp [List.isPrefixOf, hc'])]
      simp only [plist, if_neg hc]
      rfl
theorem unsign_len (l : List UInt8) : (unsign l).length ≤ l.length := by
  cases l with
  | nil => simp [unsign]
  | cons c r => simp only [unsign]; split <;> simp
theorem pnum_lt {l r : List UInt8} {v : Val} (h : pnum l = some (v, r)) : r.length < l.length := by
  unfold pnum at h
  simp only at h
  split at h
  · rename_i hc
    simp only [Option.some.injEq, Prod.mk.injEq] at h
    obtain ⟨_, rfl⟩ := h
    have h1 := congrArg List.length (List.takeWhile_append_dropWhile (p := digB) (l := unsign l))
    rw [List.length_append] at h1
    have := unsign_len l
    omega
  · cases h
theorem plist_lt {pv : List UInt8 → Option (Val × List UInt8)} (h : ∀ l v r, pv l = some (v, r) → r.length < l.length) (en : UInt8) : ∀ (m k : Nat) (l : List UInt8) (ps : List Val) (r : List UInt8), plist pv en m k l = some (ps, r) → r.length < l.length
  | 0, _, _, _, _, h0 => by cases h0
  | m + 1, _, [], _, _, h0 => by cases h0
  | m + 1, k, c :: r0, ps, r, h0 => by
    unfold plist at h0
    split at h0
    · simp only [Option.some.injEq, Prod.mk.injEq] at h0
      obtain ⟨_, rfl⟩ := h0; simp
    · split at h0
      · cases h0
      rename_i l1 hl1
      have e1 : l1.length ≤ (c :: r0).length := by
        by_cases hk : k = 0
        · rw [if_pos hk] at hl1; simp only [Option.some.injEq] at hl1; rw [hl1]; exact Nat.le_refl _
        · rw [if_neg hk] at hl1
          have := congrArg List.length (skip2_is hl1)
          simp only [List.length_cons] at this ⊢; omega
      split at h0
      · cases h0
      rename_i x l2 hx
      split at h0
      · split at h0
        · cases h0
        rename_i ps2 l3 hp
        simp only [Option.some.injEq, Prod.mk.injEq] at h0
        obtain ⟨_, rfl⟩ := h0
        have := h _ _ _ hx
        have := plist_lt h en m (k + 1) l2 ps2 l3 hp
        omega
      · cases h0
theorem pval_lt : ∀ (d : Nat) (l : List UInt8) (v : Val) (r : List UInt8), pval d l = some (v, r) → r.length < l.length
  | 0, l, v, r, h => by simp [pval] at h
  | d + 1, l, v, r, h => by
    unfold pval at h
    split at h
    · rename_i hp
      have := (List.isPrefixOf_iff_prefix.1 hp).length_le
      simp only [Option.some.injEq, Prod.mk.injEq] at h
      obtain ⟨_, rfl⟩ := h
      rw [List.length_drop]; simp [tru] at this; omega
    split at h
    · rename_i hp
      have := (List.isPrefixOf_iff_prefix.1 hp).length_le
      simp only [Option.some.injEq, Prod.mk.injEq] at h
      obtain ⟨_, rfl⟩ := h
      rw [List.length_drop]; simp [fls] at this; omega
    cases l with
    | nil => cases h
    | cons c r0 =>
      simp only at h
      split at h
      · split at h
        · cases h
        · rename_i x r2 hd
          simp only [Option.some.injEq, Prod.mk.injEq] at h
          obtain ⟨_, rfl⟩ := h
          have h1 := congrArg List.length (List.takeWhile_append_dropWhile (p := noQ) (l := r0))
          rw [List.length_append, hd] at h1
          simp at h1 ⊢; omega
      split at h
      · split at h
        · cases h
        · rename_i ps r2 hl
          simp only [Option.some.injEq, Prod.mk.injEq] at h
          obtain ⟨_, rfl⟩ := h
          have := plist_lt (pval_lt d) _ _ _ _ _ _ hl
          simp; omega
      split at h
      · split at h
        · cases h
        · rename_i ps r2 hl
          simp only [Option.some.injEq, Prod.mk.injEq] at h
          obtain ⟨_, rfl⟩ := h
          have := plist_lt (pval_lt d) _ _ _ _ _ _ hl
          simp; omega
      · exact pnum_lt h

/-! ### The loop -/
theorem get2 {α : Type} {L : List α} {n : Nat} (h : L.length = n) (x y : α) (X : List α) : (L ++ x :: y :: X)[n + 1]? = some y := by
  rw [List.getElem?_append_right (by omega), h, show n + 1 - n = 1 by omega]; rfl
theorem set2 {α : Type} {L : List α} {n : Nat} (h : L.length = n) (x y z : α) (X : List α) : (L ++ x :: y :: X).set (n + 1) z = L ++ x :: z :: X := by
  rw [List.set_append_right _ _ (by omega), h, show n + 1 - n = 1 by omega]; rfl

theorem Rd.up {s : ByteArray} {q n nA : Nat} {M : Nat → List Blk} (h : Rd s q n nA M) (nA' : Nat) (hA : nA ≤ nA') : Rd s q n nA' M where
  len := h.len
  all a := by
    have := h.all a
    rw [List.all_eq_true] at this ⊢
    exact fun b hb => blk_mono (Nat.le_refl _) hA b (this b hb)
  at_ := h.at_
  set := h.set

def rowA (acc : List Val) : Arr := ⟨acc.length, 25, 4, acc.isEmpty, true, acc.map enc⟩
def fr115 (q : Nat) (en : UInt8) (d : Int) (nA : Nat) (acc : List Val) : Fr := [(0, .ptr q 0), (1, .p (.str (S [en]))), (2, .p (.int .i64 d)), (7, .own (nA + 1) acc.length)]

variable {b : List UInt8} {q n nA : Nat} {M : Nat → List Blk} {A : List Arr}

def st115 (M : Nat → List Blk) (A : List Arr) (a : Nat) (acc : List Val) : Hp := ⟨M a, A ++ [row0, rowA acc]⟩

theorem body115_close (d : Int) (en : UInt8) (a a' : Nat) (acc : List Val)
    (his : W 112 [.ptr q 0, .p (.str (S [en]))] (st115 M A a acc) = some (.ret (.p (.bool true)), st115 M A a' acc)) :
    E false ⟨0, 0⟩ 115 lp115_0 (fr115 q en d nA acc) (st115 M A a acc) = some (.exit 0, fr115 q en d nA acc ++ [(12, .p (.bool false))], st115 M A a' acc) := by
  simp only [st115] at his
  simp [fr115, st115, lp115_0, code115, Tryz.f115, his]
theorem body115_comma (hA : A.length = nA) (d : Int) (en : UInt8) (a a' : Nat) (acc : List Val) (hacc : acc ≠ [])
    (his : W 112 [.ptr q 0, .p (.str (S [en]))] (st115 M A a acc) = some (.ret (.p (.bool false)), st115 M A a acc))
    (hco : W 112 [.ptr q 0, .p (.str (S [44, 32]))] (st115 M A a acc) = some (.ret (.p (.bool false)), st115 M A a acc))
    (hno : W 111 [.ptr q 0, .p (.bool false)] (st115 M A a acc) = some (.pan (wrongP a'), st115 M A a acc)) :
    E false ⟨0, 0⟩ 115 lp115_0 (fr115 q en d nA acc) (st115 M A a acc) = some (.pan (wrongP a'), [], st115 M A a acc) := by
  have hpos : 0 < acc.length := List.length_pos_iff.2 hacc
  have G := fun x y X => get2 hA x y X
  simp only [st115, rowA] at his hco hno
  simp [fr115, st115, rowA, lp115_0, code115, Tryz.f115, his, S_cm, hco, hno, Hp.live, G, hpos, hacc]
theorem body115_first (hA : A.length = nA) (d : Int) (hd : 1 ≤ d) (hd2 : d ≤ 100) (en : UInt8) (a e : Nat) (x : Val) (dd : D)
    (his : W 112 [.ptr q 0, .p (.str (S [en]))] (st115 M A a []) = some (.ret (.p (.bool false)), st115 M A a []))
    (hv : W 80 [.ptr q 0, .p (.int .i64 (d - 1))] (st115 M A a []) = some (.ret (.p (enc x)), st115 M A e []))
    (hy : W 111 [.ptr q 0, .p (.bool true)] (st115 M A e [x]) = some (.ret dd, st115 M A e [x])) :
    E false ⟨0, 0⟩ 115 lp115_0 (fr115 q en d nA []) (st115 M A a []) = some (.normal, fr115 q en d nA [x], st115 M A e [x]) := by
  have G := fun x y X => get2 hA x y X
  have Z := fun x y z X => set2 hA x y z X
  have hw : IntKind.i64.wrap (d - 1) = d - 1 := wrap64 (by omega) (by omega)
  simp only [st115, rowA, row0, List.length_nil, List.length_cons, List.isEmpty_nil, List.isEmpty_cons, List.map_nil, List.map_cons] at his hv hy
  simp [fr115, st115, rowA, row0, lp115_0, code115, Tryz.f115, his, hv, hy, hw, Hp.live, G, Z, z25', buildSliceD, elsD, one_int, one_str, one_sl, one_enc, len_enc, all_one, appendD, srcD, zok25, fits_enc, fit_n]
theorem body115_fail0 (hA : A.length = nA) (d : Int) (hd : 1 ≤ d) (hd2 : d ≤ 100) (en : UInt8) (a a' : Nat)
    (his : W 112 [.ptr q 0, .p (.str (S [en]))] (st115 M A a []) = some (.ret (.p (.bool false)), st115 M A a []))
    (hv : W 80 [.ptr q 0, .p (.int .i64 (d - 1))] (st115 M A a []) = some (.pan (wrongP a'), st115 M A a' [])) :
    E false ⟨0, 0⟩ 115 lp115_0 (fr115 q en d nA []) (st115 M A a []) = some (.pan (wrongP a'), [], st115 M A a' []) := by
  have G := fun x y X => get2 hA x y X
  have hw : IntKind.i64.wrap (d - 1) = d - 1 := wrap64 (by omega) (by omega)
  simp only [st115, rowA, row0, List.length_nil, List.isEmpty_nil, List.map_nil] at his hv
  simp [fr115, st115, rowA, row0, lp115_0, code115, Tryz.f115, his, hv, hw, Hp.live, G]
theorem body115_next (hA : A.length = nA) (d : Int) (hd : 1 ≤ d) (hd2 : d ≤ 100) (en : UInt8) (a a1 e : Nat) (acc : List Val) (hacc : acc ≠ []) (hl : acc.length + 1 ≤ 200) (x : Val) (dd dd2 : D)
    (his : W 112 [.ptr q 0, .p (.str (S [en]))] (st115 M A a acc) = some (.ret (.p (.bool false)), st115 M A a acc))
    (hco : W 112 [.ptr q 0, .p (.str (S [44, 32]))] (st115 M A a acc) = some (.ret (.p (.bool true)), st115 M A a1 acc))
    (hy1 : W 111 [.ptr q 0, .p (.bool true)] (st115 M A a1 acc) = some (.ret dd, st115 M A a1 acc))
    (hv : W 80 [.ptr q 0, .p (.int .i64 (d - 1))] (st115 M A a1 acc) = some (.ret (.p (enc x)), st115 M A e acc))
    (hy : W 111 [.ptr q 0, .p (.bool true)] (st115 M A e (acc ++ [x])) = some (.ret dd2, st115 M A e (acc ++ [x]))) :
    E false ⟨0, 0⟩ 115 lp115_0 (fr115 q en d nA acc) (st115 M A a acc) = some (.normal, fr115 q en d nA (acc ++ [x]), st115 M A e (acc ++ [x])) := by
  have G := fun x y X => get2 hA x y X
  have Z := fun x y z X => set2 hA x y z X
  have hw : IntKind.i64.wrap (d - 1) = d - 1 := wrap64 (by omega) (by omega)
  have hpos : 0 < acc.length := List.length_pos_iff.2 hacc
  have hby : (acc.length + 1) * 56 ≤ 140737488355328 := by omega
  have c200 : (acc.length : Int) + 1 ≤ 200 := by omega
  have hie : acc.isEmpty = false := by cases acc <;> simp_all
  have hie2 : (acc ++ [x]).isEmpty = false := by simp
  have hl2 : (acc ++ [x]).length = acc.length + 1 := by simp
  have hm2 : (acc ++ [x]).map enc = acc.map enc ++ [enc x] := by simp
  simp only [st115, rowA, row0, hie, hie2, hl2, hm2] at his hco hy1 hv hy
  simp [fr115, st115, rowA, row0, lp115_0, code115, Tryz.f115, his, S_cm, hco, hy1, hv, hy, hw, Hp.live, G, Z, hpos, hacc, hie, z25', buildSliceD, elsD, one_int, one_str, one_sl, one_enc, len_enc, all_one, appendD, srcD, zok25, fits_enc, fit_n, hby, c200]
theorem body115_many (hA : A.length = nA) (d : Int) (hd : 1 ≤ d) (hd2 : d ≤ 100) (en : UInt8) (a a1 e : Nat) (acc : List Val) (hacc : acc ≠ []) (hl : ¬ acc.length + 1 ≤ 200) (hl2 : acc.length ≤ 1000) (x : Val) (dd : D) (a' : Nat)
    (his : W 112 [.ptr q 0, .p (.str (S [en]))] (st115 M A a acc) = some (.ret (.p (.bool false)), st115 M A a acc))
    (hco : W 112 [.ptr q 0, .p (.str (S [44, 32]))] (st115 M A a acc) = some (.ret (.p (.bool true)), st115 M A a1 acc))
    (hy1 : W 111 [.ptr q 0, .p (.bool true)] (st115 M A a1 acc) = some (.ret dd, st115 M A a1 acc))
    (hv : W 80 [.ptr q 0, .p (.int .i64 (d - 1))] (st115 M A a1 acc) = some (.ret (.p (enc x)), st115 M A e acc))
    (hno : W 111 [.ptr q 0, .p (.bool false)] (st115 M A e (acc ++ [x])) = some (.pan (wrongP a'), st115 M A e (acc ++ [x]))) :
    E false ⟨0, 0⟩ 115 lp115_0 (fr115 q en d nA acc) (st115 M A a acc) = some (.pan (wrongP a'), [], st115 M A e (acc ++ [x])) := by
  have G := fun x y X => get2 hA x y X
  have Z := fun x y z X => set2 hA x y z X
  have hw : IntKind.i64.wrap (d - 1) = d - 1 := wrap64 (by omega) (by omega)
  have hpos : 0 < acc.length := List.length_pos_iff.2 hacc
  have hby : (acc.length + 1) * 56 ≤ 140737488355328 := by omega
  have c200 : ¬ (acc.length : Int) + 1 ≤ 200 := by omega
  have hie : acc.isEmpty = false := by cases acc <;> simp_all
  have hie2 : (acc ++ [x]).isEmpty = false := by simp
  have hl2 : (acc ++ [x]).length = acc.length + 1 := by simp
  have hm2 : (acc ++ [x]).map enc = acc.map enc ++ [enc x] := by simp
  simp only [st115, rowA, row0, hie, hie2, hl2, hm2] at his hco hy1 hv hno
  simp [fr115, st115, rowA, row0, lp115_0, code115, Tryz.f115, his, S_cm, hco, hy1, hv, hno, hw, Hp.live, G, Z, hpos, hacc, hie, z25', buildSliceD, elsD, one_int, one_str, one_sl, one_enc, len_enc, all_one, appendD, srcD, zok25, fits_enc, fit_n, hby, c200]
theorem body115_fail (hA : A.length = nA) (d : Int) (hd : 1 ≤ d) (hd2 : d ≤ 100) (en : UInt8) (a a1 a' : Nat) (acc : List Val) (hacc : acc ≠ []) (dd : D)
    (his : W 112 [.ptr q 0, .p (.str (S [en]))] (st115 M A a acc) = some (.ret (.p (.bool false)), st115 M A a acc))
    (hco : W 112 [.ptr q 0, .p (.str (S [44, 32]))] (st115 M A a acc) = some (.ret (.p (.bool true)), st115 M A a1 acc))
    (hy1 : W 111 [.ptr q 0, .p (.bool true)] (st115 M A a1 acc) = some (.ret dd, st115 M A a1 acc))
    (hv : W 80 [.ptr q 0, .p (.int .i64 (d - 1))] (st115 M A a1 acc) = some (.pan (wrongP a'), st115 M A a' acc)) :
    E false ⟨0, 0⟩ 115 lp115_0 (fr115 q en d nA acc) (st115 M A a acc) = some (.pan (wrongP a'), [], st115 M A a' acc) := by
  have G := fun x y X => get2 hA x y X
  have hw : IntKind.i64.wrap (d - 1) = d - 1 := wrap64 (by omega) (by omega)
  have hpos : 0 < acc.length := List.length_pos_iff.2 hacc
  have hie : acc.isEmpty = false := by cases acc <;> simp_all
  simp only [st115, rowA, row0, hie] at his hco hy1 hv
  simp [fr115, st115, rowA, row0, lp115_0, code115, Tryz.f115, his, S_cm, hco, hy1, hv, hw, Hp.live, G, hpos, hacc, hie]
end Go.Vi
end

section
/- Vi: the reader's list (f115) whole, value (f80). No conditions. -/
namespace Go.Vi
open Go Go.Lib Go.Proofs
set_option maxRecDepth 100000

variable {b : List UInt8} {q n nA : Nat} {M : Nat → List Blk} {A : List Arr}

/-- The reader's value, at a depth. -/
def Val80 (b : List UInt8) (q d : Nat) : Prop := ∀ (n nA : Nat) (M : Nat → List Blk) (A : List Arr), Rd (S b) q n nA M → A.length = nA → ∀ a : Nat, a ≤ b.length →
  Is (W 80 [.ptr q 0, .p (.int .i64 d)] ⟨M a, A⟩) M A b.length (pval d (b.drop a))

theorem pre_len {t l : List UInt8} (h : t.isPrefixOf l = true) : t.length ≤ l.length := (List.isPrefixOf_iff_prefix.1 h).length_le

/-- What is left is the end of what was there. -/
theorem dw_suf (p : UInt8 → Bool) (l : List UInt8) : l.dropWhile p <:+ l := List.dropWhile_suffix p
theorem unsign_suf (l : List UInt8) : unsign l <:+ l := by
  cases l with
  | nil => exact List.suffix_refl _
  | cons c r =>
    simp only [unsign]
    split
    · exact List.suffix_cons c r
    · exact List.suffix_refl _
theorem plist_suf {pv : List UInt8 → Option (Val × List UInt8)} (h : ∀ l v r, pv l = some (v, r) → r <:+ l) (en : UInt8) : ∀ (m k : Nat) (l : List UInt8) (ps : List Val) (r : List UInt8), plist pv en m k l = some (ps, r) → r <:+ l
  | 0, _, _, _, _, h0 => by cases h0
  | m + 1, _, [], _, _, h0 => by cases h0
  | m + 1, k, c :: r0, ps, r, h0 => by
    unfold plist at h0
    split at h0
    · simp only [Option.some.injEq, Prod.mk.injEq] at h0
      obtain ⟨_, rfl⟩ := h0
      exact List.suffix_cons c r0
    · split at h0
      · cases h0
      rename_i l1 hl1
      have e1 : l1 <:+ (c :: r0) := by
        by_cases hk : k = 0
        · rw [if_pos hk] at hl1; simp only [Option.some.injEq] at hl1; rw [hl1]; exact List.suffix_refl _
        · rw [if_neg hk] at hl1
          rw [skip2_is hl1]
          exact (List.suffix_cons 32 l1).trans (List.suffix_cons 44 _)
      split at h0
      · cases h0
      rename_i x l2 hx
      split at h0
      · split at h0
        · cases h0
        rename_i ps2 l3 hp
        simp only [Option.some.injEq, Prod.mk.injEq] at h0
        obtain ⟨_, rfl⟩ := h0
        exact ((plist_suf h en m (k + 1) l2 ps2 l3 hp).trans (h _ _ _ hx)).trans e1
      · cases h0
theorem pval_suf0 : ∀ (d : Nat) (l : List UInt8) (v : Val) (r : List UInt8), pval d l = some (v, r) → r <:+ l
  | 0, l, v, r, h => by simp [pval] at h
  | d + 1, l, v, r, h => by
    unfold pval at h
    split at h
    · simp only [Option.some.injEq, Prod.mk.injEq] at h
      obtain ⟨_, rfl⟩ := h
      exact List.drop_suffix _ _
    split at h
    · simp only [Option.some.injEq, Prod.mk.injEq] at h
      obtain ⟨_, rfl⟩ := h
      exact List.drop_suffix _ _
    cases l with
    | nil => cases h
    | cons c r0 =>
      simp only at h
      split at h
      · split at h
        · cases h
        · rename_i x r2 hd
          simp only [Option.some.injEq, Prod.mk.injEq] at h
          obtain ⟨_, rfl⟩ := h
          have := dw_suf noQ r0
          rw [hd] at this
          exact ((List.suffix_cons x r2).trans this).trans (List.suffix_cons c r0)
      split at h
      · split at h
        · cases h
        · rename_i ps r2 hl
          simp only [Option.some.injEq, Prod.mk.injEq] at h
          obtain ⟨_, rfl⟩ := h
          exact (plist_suf (pval_suf0 d) _ _ _ _ _ _ hl).trans (List.suffix_cons c r0)
      split at h
      · split at h
        · cases h
        · rename_i ps r2 hl
          simp only [Option.some.injEq, Prod.mk.injEq] at h
          obtain ⟨_, rfl⟩ := h
          exact (plist_suf (pval_suf0 d) _ _ _ _ _ _ hl).trans (List.suffix_cons c r0)
      · unfold pnum at h
        simp only at h
        split at h
        · simp only [Option.some.injEq, Prod.mk.injEq] at h
          obtain ⟨_, rfl⟩ := h
          exact (dw_suf digB _).trans (unsign_suf _)
        · cases h
theorem suf_drop {r l : List UInt8} (h : r <:+ l) : l.drop (l.length - r.length) = r := by
  obtain ⟨t, rfl⟩ := h
  rw [List.length_append, show t.length + r.length - r.length = t.length by omega, List.drop_left]
theorem pval_suf {d a : Nat} {v : Val} {r : List UInt8} (h : pval d (b.drop a) = some (v, r)) (ha : a ≤ b.length) : b.drop (b.length - r.length) = r :=
  suf_drop ((pval_suf0 d _ _ _ h).trans (List.drop_suffix _ _))

theorem loop115 {d : Nat} (ih : Val80 b q d) (hd : d ≤ 90) (rd : Rd (S b) q n nA M) (hA : A.length = nA) (hb : b.length ≤ 100000) (en : UInt8) :
    ∀ (m a : Nat) (acc : List Val) (F : Fr), a ≤ b.length → (b.drop a).length < m → acc.length ≤ 200 → norm [0, 1, 2, 7] F = fr115 q en ((d + 1 : Nat) : Int) nA acc →
    match plist (pval d) en m acc.length (b.drop a) with
    | some (ps, r) => loopO false ⟨0, 0⟩ 115 lp115_0 n (nA + 2) F (st115 M A a acc) = some (.exit 0, fr115 q en ((d + 1 : Nat) : Int) nA (acc ++ ps) ++ [(12, .p (.bool false))], st115 M A (b.length - r.length) (acc ++ ps))
    | none => ∃ (a' : Nat) (Y : List Arr), loopO false ⟨0, 0⟩ 115 lp115_0 n (nA + 2) F (st115 M A a acc) = some (.pan (wrongP a'), [], ⟨M a', A ++ Y⟩) := by
  have hd1 : (1 : Int) ≤ ((d + 1 : Nat) : Int) := by omega
  have hd3 : ((d + 1 : Nat) : Int) ≤ 100 := by omega
  have hdd : ((d + 1 : Nat) : Int) - 1 = (d : Int) := by omega
  have hcut : ∀ F a acc, cutD ⟨0, 0⟩ [0, 1, 2, 7] n (nA + 2) F (st115 M A a acc) = some (norm [0, 1, 2, 7] F, st115 M A a acc) := fun F a acc => by
    have := cut_full ⟨0, 0⟩ [0, 1, 2, 7] F (st115 M A a acc)
    rw [show (st115 M A a acc).B.length = n from rd.len a, show (st115 M A a acc).A.length = nA + 2 by simp [st115, hA]] at this
    exact this
  have r2 := rd.up (nA + 2) (by omega)
  have hA2 : ∀ acc, (A ++ [row0, rowA acc]).length = nA + 2 := fun acc => by simp [hA]
  intro m
  induction m with
  | zero => intro a acc F _ hm; omega
  | succ m ihm =>
    intro a acc F ha hm hacc hF
    have hlen : (b.drop a).length = b.length - a := List.length_drop
    rw [plist_eq (pval_nil d), loopO_eq, hd115_0, hcut, hF]
    have his := is_W r2 (hA2 acc) hb a ha [en] (by simp)
    cases hp : ([en] : List UInt8).isPrefixOf (b.drop a) with
    | true =>
      rw [hp] at his
      simp only [if_true] at his ⊢
      have hc := body115_close (q := q) (nA := nA) ((d + 1 : Nat) : Int) en a (a + [en].length) acc his
      simp only [hc]
      have h1 := pre_len hp
      rw [List.append_nil, List.drop_drop, List.length_drop]
      simp at h1 ⊢
      rw [show b.length - (b.length - (a + 1)) = a + 1 by omega]
    | false =>
      rw [hp] at his
      simp only [Bool.false_eq_true, if_false] at his ⊢
      by_cases hk : acc = []
      · subst hk
        simp only [List.length_nil, if_true]
        have h80 := ih n (nA + 2) M (A ++ [row0, rowA []]) r2 (hA2 _) a ha
        rw [← hdd] at h80
        cases hv : pval d (b.drop a) with
        | none =>
          rw [hv] at h80
          obtain ⟨a', h80⟩ := h80
          have hc := body115_fail0 hA ((d + 1 : Nat) : Int) hd1 hd3 en a a' his h80
          exact ⟨a', [row0, rowA []], by simp only [hc]; rfl⟩
        | some p =>
          obtain ⟨x, l2⟩ := p
          rw [hv] at h80
          have hlt := pval_lt d _ _ _ hv
          obtain ⟨dd, hy⟩ := r2.yes (a := b.length - l2.length) (hA2 [x])
          have hc := body115_first hA ((d + 1 : Nat) : Int) hd1 hd3 en a (b.length - l2.length) x dd his h80 hy
          simp only [hc]
          have hdl : b.drop (b.length - l2.length) = l2 := pval_suf hv ha
          have := ihm (b.length - l2.length) [x] (fr115 q en ((d + 1 : Nat) : Int) nA [x]) (by omega) (by rw [hdl]; omega) (by simp) rfl
          rw [hdl] at this
          simp only [List.length_cons, List.length_nil, Nat.zero_add] at this
          rw [if_pos (by omega)]
          cases hpl : plist (pval d) en m 1 l2 with
          | none => rw [hpl] at this; exact this
          | some p => rw [hpl] at this; simpa using this
      · have hk0 : ¬ acc.length = 0 := fun e => hk (List.eq_nil_of_length_eq_zero e)
        rw [if_neg hk0, skip2_pre]
        have hco := is_W r2 (hA2 acc) hb a ha [44, 32] (by simp)
        cases hp2 : ([44, 32] : List UInt8).isPrefixOf (b.drop a) with
        | false =>
          rw [hp2] at hco
          simp only [Bool.false_eq_true, if_false] at hco ⊢
          have hno := r2.no (a := a) (hA2 acc)
          have hc := body115_comma hA ((d + 1 : Nat) : Int) en a a acc hk his hco hno
          exact ⟨a, [row0, rowA acc], by simp only [hc]; rfl⟩
        | true =>
          rw [hp2] at hco
          simp only [if_true, List.length_cons, List.length_nil, Nat.zero_add] at hco ⊢
          have h2 := pre_len hp2
          simp only [List.length_cons, List.length_nil, Nat.zero_add] at h2
          have ha2 : a + 2 ≤ b.length := by omega
          have h80 := ih n (nA + 2) M (A ++ [row0, rowA acc]) r2 (hA2 _) (a + 2) ha2
          rw [← hdd] at h80
          obtain ⟨dd, hy1⟩ := r2.yes (a := a + 2) (hA2 acc)
          rw [List.drop_drop]
          cases hv : pval d (b.drop (a + 2)) with
          | none =>
            rw [hv] at h80
            obtain ⟨a', h80⟩ := h80
            have hc := body115_fail hA ((d + 1 : Nat) : Int) hd1 hd3 en a (a + 2) a' acc hk dd his hco hy1 h80
            exact ⟨a', [row0, rowA acc], by simp only [hc]; rfl⟩
          | some p =>
            obtain ⟨x, l2⟩ := p
            rw [hv] at h80
            have hlt := pval_lt d _ _ _ hv
            simp only
            by_cases h200 : acc.length + 1 ≤ 200
            · rw [if_pos h200]
              obtain ⟨dd2, hy⟩ := r2.yes (a := b.length - l2.length) (hA2 (acc ++ [x]))
              have hc := body115_next hA ((d + 1 : Nat) : Int) hd1 hd3 en a (a + 2) (b.length - l2.length) acc hk h200 x dd dd2 his hco hy1 h80 hy
              simp only [hc]
              have hdl : b.drop (b.length - l2.length) = l2 := pval_suf hv ha2
              have hl2 : (b.drop (a + 2)).length = b.length - (a + 2) := List.length_drop
              have := ihm (b.length - l2.length) (acc ++ [x]) (fr115 q en ((d + 1 : Nat) : Int) nA (acc ++ [x])) (by omega) (by rw [hdl]; omega) (by simp; omega) rfl
              rw [hdl] at this
              rw [show (acc ++ [x]).length = acc.length + 1 by simp] at this
              cases hpl : plist (pval d) en m (acc.length + 1) l2 with
              | none => rw [hpl] at this; exact this
              | some p => rw [hpl] at this; simpa using this
            · rw [if_neg h200]
              have hno := r2.no (a := b.length - l2.length) (hA2 (acc ++ [x]))
              have hc := body115_many hA ((d + 1 : Nat) : Int) hd1 hd3 en a (a + 2) (b.length - l2.length) acc hk h200 (by omega) x dd (b.length - l2.length) his hco hy1 h80 hno
              exact ⟨b.length - l2.length, [row0, rowA (acc ++ [x])], by simp only [hc]; rfl⟩
end Go.Vi
end

section
/- Vi: the reader's value (f80). No conditions. -/
namespace Go.Vi
open Go Go.Lib Go.Proofs
set_option maxRecDepth 100000
attribute [local simp] E_skip E_ret E_exit E_text E_draw E_seq E_cond E_block E_scope E_loop runOps runOp runDraw runVF runV finV gate FlOK wantD exec fin opd look putF norm constD constC fieldAddrD loadD storeD opCall lenD binD isShift intP strP numD indexAddrD indexD D.pd? D.pds? cells_enc sub capsOf callD argsD argD D.nf enc_agg unP box_enc cellD mkF H00 st1 cD_agg cD_pagg cD_int cD_bool cD_str cD_sl cD_lit cD_own

variable {b : List UInt8} {q n nA : Nat} {M : Nat → List Blk} {A : List Arr}

theorem fin115 (L : List Blk) (hL : L.length = n) (hA : A.length = nA) (hall : L.all (blkNo n nA) = true) (acc : List Val) :
    fnOut Tryz.prog [.tmp 6] n nA (some (.ret, [(6, .own (nA + 1) acc.length)], ⟨L, A ++ [row0, rowA acc]⟩)) = some (.ret (.p (.sl (acc.map enc))), ⟨L, A⟩) := by
  have G := get2 hA row0 (rowA acc) []
  have tB : L.take n = L := List.take_of_length_le (by omega)
  have tA : (A ++ [row0, rowA acc]).take nA = A := List.take_left' hA
  have c : ¬ nA + 1 < nA := by omega
  simp only [rowA] at *
  simp [c, fnOut, retOut, resD, look, retsD, retD, argD, D.nf, D.pd?, oneD, D.noRefs, D.noRef, Hp.cut, Hp.live, G, tB, tA]
  exact fun b hb => List.all_eq_true.1 hall b hb

/-- The list up to its end. -/
theorem list115_W {d : Nat} (ih : Val80 b q d) (hd : d ≤ 90) (rd : Rd (S b) q n nA M) (hA : A.length = nA) (hb : b.length ≤ 100000) (en : UInt8) (a m : Nat) (ha : a ≤ b.length) (hm : (b.drop a).length < m) :
    match plist (pval d) en m 0 (b.drop a) with
    | some (ps, r) => W 115 [.ptr q 0, .p (.str (S [en])), .p (.int .i64 ((d + 1 : Nat) : Int))] ⟨M a, A⟩ = some (.ret (.p (.sl (ps.map enc))), ⟨M (b.length - r.length), A⟩)
    | none => ∃ a' : Nat, W 115 [.ptr q 0, .p (.str (S [en])), .p (.int .i64 ((d + 1 : Nat) : Int))] ⟨M a, A⟩ = some (.pan (wrongP a'), ⟨M a', A⟩) := by
  have hloop := loop115 ih hd rd hA hb en m a [] (fr115 q en ((d + 1 : Nat) : Int) nA []) ha hm (by simp) rfl
  have fin : ∀ o, fnOut Tryz.prog [.tmp 6] n nA (E false ⟨0, 0⟩ 115 code115 (mkF 0 [.ptr q 0, .p (.str (S [en])), .p (.int .i64 ((d + 1 : Nat) : Int))]) ⟨M a, A⟩) = some o → W 115 [.ptr q 0, .p (.str (S [en])), .p (.int .i64 ((d + 1 : Nat) : Int))] ⟨M a, A⟩ = some o := fun o h => by
    refine W115_ofH (by rintro ⟨_, h⟩; simp [D.noRef] at h) (by simp) ?_
    show fnOut Tryz.prog [.tmp 6] (M a).length A.length _ = _
    rw [rd.len, hA]; exact h
  have hl := rd.len
  generalize ((d + 1 : Nat) : Int) = D0 at *
  simp only [List.length_nil] at hloop
  cases hp : plist (pval d) en m 0 (b.drop a) with
  | some p =>
    obtain ⟨ps, r⟩ := p
    simp only [hp, List.nil_append] at hloop
    simp only
    refine fin _ ?_
    have key : E false ⟨0, 0⟩ 115 code115 (mkF 0 [.ptr q 0, .p (.str (S [en])), .p (.int .i64 D0)]) ⟨M a, A⟩ = some (.ret, [(6, .own (nA + 1) ps.length)], ⟨M (b.length - r.length), A ++ [row0, rowA ps]⟩) := by
      simp only [lp115_0, code115, Tryz.f115, fr115, st115, row0, rowA, List.length_nil, List.isEmpty_nil, List.map_nil] at hloop
      simp [code115, Tryz.f115, newRow, row0, rowA, hl, hA, hloop]
    rw [key]
    exact fin115 _ (hl _) hA (rd.all _) ps
  | none =>
    simp only [hp] at hloop
    obtain ⟨a', Y, hloop⟩ := hloop
    refine ⟨a', fin _ ?_⟩
    have key : E false ⟨0, 0⟩ 115 code115 (mkF 0 [.ptr q 0, .p (.str (S [en])), .p (.int .i64 D0)]) ⟨M a, A⟩ = some (.pan (wrongP a'), [], ⟨M a' ++ [], A ++ Y⟩) := by
      rw [List.append_nil]
      simp only [lp115_0, code115, Tryz.f115, fr115, st115, row0, rowA, List.length_nil, List.isEmpty_nil, List.map_nil] at hloop
      simp [code115, Tryz.f115, newRow, hl, hA, hloop]
    rw [key]
    exact finp _ n nA _ A (hl _) hA (rd.all _) _ _ [] Y

theorem build25_c2 (F : Fr) : buildD Tryz.prog F 25 [(0, .const (.int .i64 2))] = some (.agg [.p (.int .i64 2), .p (.int .i64 0), .p (.str ⟨#[]⟩), .lit true []]) := by
  have pl25 : placesOf Tryz.prog 25 = some [(0, 1), (1, 1), (2, 1), (3, 1)] := by kernel_rfl
  simp [buildD, z25', pl25, buildD.go, splice]
theorem build25_c21 (F : Fr) : buildD Tryz.prog F 25 [(0, .const (.int .i64 2)), (1, .const (.int .i64 1))] = some (.agg [.p (.int .i64 2), .p (.int .i64 1), .p (.str ⟨#[]⟩), .lit true []]) := by
  have pl25 : placesOf Tryz.prog 25 = some [(0, 1), (1, 1), (2, 1), (3, 1)] := by kernel_rfl
  simp [buildD, z25', pl25, buildD.go, splice]
theorem build25_k3 (F : Fr) (k : Int) (l : List PD) (d : Tmp) (hd : look F d = .p (.sl l)) :
    buildD Tryz.prog F 25 [(0, .const (.int .i64 k)), (3, .tmp d)] = some (.agg [.p (.int .i64 k), .p (.int .i64 0), .p (.str ⟨#[]⟩), .p (.sl l)]) := by
  have pl25 : placesOf Tryz.prog 25 = some [(0, 1), (1, 1), (2, 1), (3, 1)] := by kernel_rfl
  simp [buildD, z25', pl25, buildD.go, splice, hd]

theorem val80_0 (b : List UInt8) (q : Nat) : Val80 b q 0 := by
  intro n nA M A rd hA a ha
  refine ⟨a, W80_ofH (by rintro ⟨_, h⟩; simp [D.noRef] at h) (by simp) ?_⟩
  show fnOut Tryz.prog [.cell 4 25] (M a).length A.length _ = _
  rw [rd.len, hA]
  have r1 := rd.app [zeroB] nA (Nat.le_refl _) rfl
  have hno := r1.no (a := a) hA
  have hl := rd.len
  simp only [zeroB] at hno
  have key : E false ⟨0, 0⟩ 80 code80 (mkF 0 [.ptr q 0, .p (.int .i64 ((0 : Nat) : Int))]) ⟨M a, A⟩ = some (.pan (wrongP a), [], ⟨M a ++ [zeroB], A ++ []⟩) := by
    rw [List.append_nil]
    simp [code80, Tryz.f80, zeroB, hno, hl, z25']
  rw [key]
  exact finp _ n nA _ A (hl _) hA (rd.all _) _ _ [zeroB] []

theorem val80_succ {d : Nat} (ih : Val80 b q d) (hd : d ≤ 90) (hb : b.length ≤ 100000) : Val80 b q (d + 1) := by
  intro n nA M A rd hA a ha
  have r1 := rd.app [zeroB] nA (Nat.le_refl _) rfl
  have fin : ∀ o, fnOut Tryz.prog [.cell 4 25] n nA (E false ⟨0, 0⟩ 80 code80 (mkF 0 [.ptr q 0, .p (.int .i64 ((d + 1 : Nat) : Int))]) ⟨M a, A⟩) = some o → W 80 [.ptr q 0, .p (.int .i64 ((d + 1 : Nat) : Int))] ⟨M a, A⟩ = some o := fun o h => by
    refine W80_ofH (by rintro ⟨_, h⟩; simp [D.noRef] at h) (by simp) ?_
    show fnOut Tryz.prog [.cell 4 25] (M a).length A.length _ = _
    rw [rd.len, hA]; exact h
  obtain ⟨dd, hy⟩ := r1.yes (a := a) hA
  have hl := rd.len
  have hdl : (b.drop a).length = b.length - a := List.length_drop
  have h1 := is_W r1 hA hb a ha tru (by simp [tru])
  have h2 := is_W r1 hA hb a ha fls (by simp [fls])
  have h3 := is_W r1 hA hb a ha [34] (by simp)
  have h4 := is_W r1 hA hb a ha [40] (by simp)
  have h5 := is_W r1 hA hb a ha [123] (by simp)
  have c1 : (0 : Int) < ((d + 1 : Nat) : Int) := by omega
  have S0 := fun a x z X => set_n (hl a) x z X
  have list := fun en a1 m ha1 hm => list115_W ih hd r1 hA hb en a1 m ha1 hm
  have num := number116_W r1 hA hb a ha
  generalize ((d + 1 : Nat) : Int) = D0 at *
  unfold pval
  cases p1 : tru.isPrefixOf (b.drop a) with
  | true =>
    rw [p1] at h1
    have hpl := pre_len p1
    simp only [if_true] at h1 ⊢
    show W 80 _ _ = some (.ret (.p (enc (.mk 2 1 ⟨#[]⟩ []))), ⟨M (b.length - ((b.drop a).drop 4).length), A⟩)
    simp only [tru, List.length_cons, List.length_nil] at hpl h1
    rw [List.length_drop, hdl, show b.length - (b.length - a - 4) = a + 4 by omega]
    refine fin _ ?_
    simp only [zeroB] at hy h1
    have key : E false ⟨0, 0⟩ 80 code80 (mkF 0 [.ptr q 0, .p (.int .i64 D0)]) ⟨M a, A⟩ = some (.ret, [(4, .ptr n 0)], ⟨M (a + 4) ++ cB 2 1 ⟨#[]⟩ (.lit true []) :: [], A⟩) := by
      simp [code80, Tryz.f80, zeroB, cB, hy, S_tru, tru, h1, hl, c1, z25', build25_c21, splice, S0]
    rw [key]
    exact finC 4 n nA _ A (hl _) hA (rd.all _) _ _ _ _
  | false =>
  rw [p1] at h1
  simp only [Bool.false_eq_true, if_false] at h1 ⊢
  cases p2 : fls.isPrefixOf (b.drop a) with
  | true =>
    rw [p2] at h2
    have hpl := pre_len p2
    simp only [if_true] at h2 ⊢
    show W 80 _ _ = some (.ret (.p (enc (.mk 2 0 ⟨#[]⟩ []))), ⟨M (b.length - ((b.drop a).drop 5).length), A⟩)
    simp only [fls, List.length_cons, List.length_nil] at hpl h2
    rw [List.length_drop, hdl, show b.length - (b.length - a - 5) = a + 5 by omega]
    refine fin _ ?_
    simp only [zeroB, tru] at hy h1 h2
    have key : E false ⟨0, 0⟩ 80 code80 (mkF 0 [.ptr q 0, .p (.int .i64 D0)]) ⟨M a, A⟩ = some (.ret, [(4, .ptr n 0)], ⟨M (a + 5) ++ cB 2 0 ⟨#[]⟩ (.lit true []) :: [], A⟩) := by
      simp [code80, Tryz.f80, zeroB, cB, hy, S_tru, S_fls, tru, fls, h1, h2, hl, c1, z25', build25_c2, splice, S0]
    rw [key]
    exact finC 4 n nA _ A (hl _) hA (rd.all _) _ _ _ _
  | false =>
  rw [p2] at h2
  simp only [Bool.false_eq_true, if_false] at h2 ⊢
  have number : ([34] : List UInt8).isPrefixOf (b.drop a) = false → ([40] : List UInt8).isPrefixOf (b.drop a) = false → ([123] : List UInt8).isPrefixOf (b.drop a) = false →
      Is (W 80 [.ptr q 0, .p (.int .i64 D0)] ⟨M a, A⟩) M A b.length (pnum (b.drop a)) := fun e3 e4 e5 => by
    rw [e3] at h3
    rw [e4] at h4
    rw [e5] at h5
    simp only [Bool.false_eq_true, if_false] at h3 h4 h5
    cases hpn : pnum (b.drop a) with
    | none =>
      rw [hpn] at num
      obtain ⟨a', num⟩ := num
      refine ⟨a', fin _ ?_⟩
      simp only [zeroB] at hy h1 h2 h3 h4 h5 num
      have key : E false ⟨0, 0⟩ 80 code80 (mkF 0 [.ptr q 0, .p (.int .i64 D0)]) ⟨M a, A⟩ = some (.pan (wrongP a'), [], ⟨M a' ++ [zeroB], A ++ []⟩) := by
        rw [List.append_nil]
        simp [code80, Tryz.f80, zeroB, hy, S_tru, S_fls, S_34, S_40, S_123, h1, h2, h3, h4, h5, num, hl, c1, z25']
      rw [key]
      exact finp _ n nA _ A (hl _) hA (rd.all _) _ _ [zeroB] []
    | some p =>
      obtain ⟨v, r⟩ := p
      rw [hpn] at num
      show W 80 _ _ = some (.ret (.p (enc v)), ⟨M (b.length - r.length), A⟩)
      refine fin _ ?_
      simp only [zeroB] at hy h1 h2 h3 h4 h5
      have num' : W 116 [.ptr q 0] ⟨M a ++ [zeroB], A⟩ = some (.ret (.p (enc v)), ⟨M (b.length - r.length) ++ [zeroB], A⟩) := num
      simp only [zeroB] at num'
      have key : E false ⟨0, 0⟩ 80 code80 (mkF 0 [.ptr q 0, .p (.int .i64 D0)]) ⟨M a, A⟩ = some (.ret, [(4, .ptr n 0)], ⟨M (b.length - r.length) ++ cB v.k v.n v.t (.p (.sl (v.ps.map enc))) :: [], A⟩) := by
        simp [code80, Tryz.f80, zeroB, cB, hy, S_tru, S_fls, S_34, S_40, S_123, h1, h2, h3, h4, h5, num', hl, c1, z25', splice, S0]
      rw [key]
      have := finCp 4 n nA _ A (hl (b.length - r.length)) hA (rd.all _) v.k v.n v.t v.ps []
      rw [this]
      cases v; rfl
  have lists : ∀ (k : Int) (en o : UInt8) (r : List UInt8), (k = 4 ∧ en = 41 ∧ o = 40) ∨ (k = 5 ∧ en = 125 ∧ o = 123) → b.drop a = o :: r →
      Is (W 80 [.ptr q 0, .p (.int .i64 D0)] ⟨M a, A⟩) M A b.length (match plist (pval d) en (r.length + 1) 0 r with | none => none | some (ps, r2) => some (.mk k 0 ⟨#[]⟩ ps, r2)) := fun k en o r hk hbr => by
    obtain ⟨hlt, _, hr⟩ := drop_at hbr
    have hll := list en (a + 1) (r.length + 1) (by omega) (by rw [hr]; omega)
    rw [hr] at hll
    rw [hbr] at h3 h4 h5
    have e41 : (⟨#[41]⟩ : ByteArray) = S [41] := rfl
    have e125 : (⟨#[125]⟩ : ByteArray) = S [125] := rfl
    cases hpl : plist (pval d) en (r.length + 1) 0 r with
    | none =>
      rw [hpl] at hll
      obtain ⟨a', hll⟩ := hll
      refine ⟨a', fin _ ?_⟩
      simp only [zeroB] at hy h1 h2 h3 h4 h5 hll
      have key : E false ⟨0, 0⟩ 80 code80 (mkF 0 [.ptr q 0, .p (.int .i64 D0)]) ⟨M a, A⟩ = some (.pan (wrongP a'), [], ⟨M a' ++ [zeroB], A ++ []⟩) := by
        rw [List.append_nil]
        rcases hk with ⟨rfl, rfl, rfl⟩ | ⟨rfl, rfl, rfl⟩
        · simp [List.isPrefixOf] at h3 h4
          simp [code80, Tryz.f80, zeroB, hy, S_tru, S_fls, S_34, S_40, S_123, e41, e125, h1, h2, h3, h4, hll, hl, c1, z25']
        · simp [List.isPrefixOf] at h3 h4 h5
          simp [code80, Tryz.f80, zeroB, hy, S_tru, S_fls, S_34, S_40, S_123, e41, e125, h1, h2, h3, h4, h5, hll, hl, c1, z25']
      rw [key]
      exact finp _ n nA _ A (hl _) hA (rd.all _) _ _ [zeroB] []
    | some p =>
      obtain ⟨ps, r2⟩ := p
      rw [hpl] at hll
      show W 80 _ _ = some (.ret (.p (enc (.mk k 0 ⟨#[]⟩ ps))), ⟨M (b.length - r2.length), A⟩)
      refine fin _ ?_
      simp only [zeroB] at hy h1 h2 h3 h4 h5 hll
      have key : E false ⟨0, 0⟩ 80 code80 (mkF 0 [.ptr q 0, .p (.int .i64 D0)]) ⟨M a, A⟩ = some (.ret, [(4, .ptr n 0)], ⟨M (b.length - r2.length) ++ cB k 0 ⟨#[]⟩ (.p (.sl (ps.map enc))) :: [], A⟩) := by
        rcases hk with ⟨rfl, rfl, rfl⟩ | ⟨rfl, rfl, rfl⟩
        · simp [List.isPrefixOf] at h3 h4
          simp [code80, Tryz.f80, zeroB, cB, hy, S_tru, S_fls, S_34, S_40, S_123, e41, e125, h1, h2, h3, h4, hll, hl, c1, z25', build25_k3, splice, S0]
        · simp [List.isPrefixOf] at h3 h4 h5
          simp [code80, Tryz.f80, zeroB, cB, hy, S_tru, S_fls, S_34, S_40, S_123, e41, e125, h1, h2, h3, h4, h5, hll, hl, c1, z25', build25_k3, splice, S0]
      rw [key]
      exact finCp 4 n nA _ A (hl _) hA (rd.all _) _ _ _ _ _
  cases hbr : b.drop a with
  | nil =>
    rw [hbr] at number
    rw [pnum_nil] at number
    exact number (by simp [List.isPrefixOf]) (by simp [List.isPrefixOf]) (by simp [List.isPrefixOf])
  | cons c r =>
    obtain ⟨hlt, _, hr⟩ := drop_at hbr
    simp only
    by_cases c34 : c = 34
    · subst c34
      rw [if_pos rfl]
      rw [hbr] at h3
      simp [List.isPrefixOf] at h3
      have hrun := run_W r1 hA 114 (a + 1) (by omega) (by decide) noQ notq_W hb (by decide)
      rw [hr] at hrun
      obtain ⟨_, q2⟩ := tw_take noQ r
      have q3 := tw_len noQ r
      have hrl : r.length = b.length - (a + 1) := by rw [← hr, List.length_drop]
      have h34 := is_W r1 hA hb (a + 1 + (r.takeWhile noQ).length) (by omega) [34] (by simp)
      have hdw : b.drop (a + 1 + (r.takeWhile noQ).length) = r.dropWhile noQ := by rw [← List.drop_drop, hr, q2]
      rw [hdw] at h34
      have hql : (r.dropWhile noQ).length = r.length - (r.takeWhile noQ).length := by rw [← q2, List.length_drop]
      generalize hT : r.takeWhile noQ = t at *
      cases hz : r.dropWhile noQ with
      | nil =>
        rw [hz] at h34
        simp [List.isPrefixOf] at h34
        have hno := r1.no (a := a + 1 + t.length) hA
        refine ⟨a + 1 + t.length, fin _ ?_⟩
        simp only [zeroB] at hy h1 h2 h3 hrun h34 hno
        have key : E false ⟨0, 0⟩ 80 code80 (mkF 0 [.ptr q 0, .p (.int .i64 D0)]) ⟨M a, A⟩ = some (.pan (wrongP (a + 1 + t.length : Nat)), [], ⟨M (a + 1 + t.length) ++ [zeroB], A ++ []⟩) := by
          rw [List.append_nil]
          simp [code80, Tryz.f80, zeroB, hy, S_tru, S_fls, S_34, h1, h2, h3, hrun, h34, hno, hl, c1, z25']
        rw [key]
        exact finp _ n nA _ A (hl _) hA (rd.all _) _ _ [zeroB] []
      | cons x r2 =>
        have hx := dw_head hz
        subst hx
        rw [hz] at h34 hql
        simp [List.isPrefixOf] at h34
        simp at hql
        obtain ⟨dd2, hy2⟩ := r1.yes (a := a + 1 + t.length + 1) hA
        show W 80 _ _ = some (.ret (.p (enc (.mk 3 0 (S t) []))), ⟨M (b.length - r2.length), A⟩)
        rw [show b.length - r2.length = a + 1 + t.length + 1 by omega]
        refine fin _ ?_
        simp only [zeroB] at hy h1 h2 h3 hrun h34 hy2
        have key : E false ⟨0, 0⟩ 80 code80 (mkF 0 [.ptr q 0, .p (.int .i64 D0)]) ⟨M a, A⟩ = some (.ret, [(4, .ptr n 0)], ⟨M (a + 1 + t.length + 1) ++ cB 3 0 (S t) (.lit true []) :: [], A⟩) := by
          simp [code80, Tryz.f80, zeroB, cB, hy, S_tru, S_fls, S_34, h1, h2, h3, hrun, h34, hy2, hl, c1, z25', build25_k2, splice, S0]
        rw [key]
        exact finC 4 n nA _ A (hl _) hA (rd.all _) _ _ _ _
    rw [if_neg c34]
    by_cases c40 : c = 40
    · rw [if_pos c40]
      exact lists 4 41 c r (.inl ⟨rfl, rfl, c40⟩) hbr
    rw [if_neg c40]
    by_cases c123 : c = 123
    · rw [if_pos c123]
      exact lists 5 125 c r (.inr ⟨rfl, rfl, c123⟩) hbr
    rw [if_neg c123, ← hbr]
    have m34 : ¬ 34 = c := fun e => c34 e.symm
    have m40 : ¬ 40 = c := fun e => c40 e.symm
    have m123 : ¬ 123 = c := fun e => c123 e.symm
    exact number (by rw [hbr]; simp [List.isPrefixOf, m34]) (by rw [hbr]; simp [List.isPrefixOf, m40]) (by rw [hbr]; simp [List.isPrefixOf, m123])

theorem val80_W (b : List UInt8) (q : Nat) (hb : b.length ≤ 100000) : ∀ d : Nat, d ≤ 90 → Val80 b q d
  | 0, _ => val80_0 b q
  | d + 1, h => val80_succ (val80_W b q hb d (by omega)) (by omega) hb
end Go.Vi
end

section
/- Vi: value.Read (f26). No conditions. -/
namespace Go.Vi
open Go Go.Lib Go.Proofs
set_option maxRecDepth 100000
attribute [local simp] E_skip E_ret E_exit E_text E_draw E_seq E_cond E_block E_scope E_loop runOps runOp runDraw runVF runV finV gate FlOK wantD exec fin opd look putF norm constD constC fieldAddrD loadD storeD opCall lenD binD isShift intP strP numD indexAddrD indexD D.pd? D.pds? cells_enc sub capsOf callD argsD argD D.nf enc_agg unP box_enc cellD mkF H00 st1 cD_agg cD_pagg cD_int cD_bool cD_str cD_sl cD_lit cD_own

theorem W79_ofH {args : List D} {H : Hp} (hp : ¬ (ch.pure 79 = true ∧ args.all (D.noRef 0 0) = true)) (hl : args.length ≤ 4) {o : Out × Hp}
    (h : fnOut Tryz.prog [] H.B.length H.A.length (E false ⟨0, 0⟩ 79 code79 (mkF 0 args) H) = some o) : W 79 args H = some o :=
  W_ofH Tryz.func79 rfl (by kernel_rfl) rfl hp (by rw [Tryz.ntmps79]; exact hl) h

theorem clo79_ok (b : List UInt8) (hb : b.length ≤ 100000) (v : Val) (r : List UInt8) (h : pval 8 b = some (v, r)) :
    ∃ d e, W 79 [.ptr 3 0, .ptr 1 0] ⟨ML (S b) 0, []⟩ = some (.ret d, ⟨[zeroB, box25 v, rdr (S b) (e : Nat), .cells [.ptr 2 0], .cells [.p (.bool false)]], []⟩) := by
  have h80 := val80_W b 2 hb 8 (by omega) 5 0 (ML (S b)) [] (rdML (S b)) rfl 0 (Nat.zero_le _)
  rw [List.drop_zero, h] at h80
  have h80' : W 80 [.ptr 2 0, .p (.int .i64 ((8 : Nat) : Int))] ⟨ML (S b) ((0 : Nat) : Nat), []⟩ = some (.ret (.p (enc v)), ⟨ML (S b) (b.length - r.length : Nat), []⟩) := h80
  have h08 : ((8 : Nat) : Int) = 8 := rfl
  have h00 : ((0 : Nat) : Int) = 0 := rfl
  simp only [ML, rdr, zeroB, h08, h00] at h80'
  have key : ∃ F, E false ⟨0, 0⟩ 79 code79 (mkF 0 [.ptr 3 0, .ptr 1 0]) ⟨ML (S b) 0, []⟩ = some (.normal, F, ⟨[zeroB, box25 v, rdr (S b) (b.length - r.length : Nat), .cells [.ptr 2 0], .cells [.p (.bool false)]], []⟩) :=
    ⟨_, by simp [code79, Tryz.f79, ML, rdr, zeroB, box25, h80', splice]; rfl⟩
  obtain ⟨F, key⟩ := key
  refine ⟨oneD [], b.length - r.length, W79_ofH (by rintro ⟨_, h⟩; simp [D.noRef] at h) (by simp) ?_⟩
  rw [key]
  rfl

theorem clo79_no (b : List UInt8) (hb : b.length ≤ 100000) (h : pval 8 b = none) :
    ∃ a' : Nat, W 79 [.ptr 3 0, .ptr 1 0] ⟨ML (S b) 0, []⟩ = some (.pan (wrongP a'), ⟨ML (S b) a', []⟩) := by
  have h80 := val80_W b 2 hb 8 (by omega) 5 0 (ML (S b)) [] (rdML (S b)) rfl 0 (Nat.zero_le _)
  rw [List.drop_zero, h] at h80
  obtain ⟨a', h80⟩ := h80
  have h08 : ((8 : Nat) : Int) = 8 := rfl
  have h00 : ((0 : Nat) : Int) = 0 := rfl
  simp only [ML, rdr, zeroB, h08, h00] at h80
  have key : E false ⟨0, 0⟩ 79 code79 (mkF 0 [.ptr 3 0, .ptr 1 0]) ⟨ML (S b) 0, []⟩ = some (.pan (wrongP a'), [], ⟨ML (S b) a', []⟩) := by
    simp [code79, Tryz.f79, ML, rdr, zeroB, h80]
  refine ⟨a', W79_ofH (by rintro ⟨_, h⟩; simp [D.noRef] at h) (by simp) ?_⟩
  rw [key]
  rfl

theorem attR_ok (b : List UInt8) (hb : b.length ≤ 100000) (v : Val) (r : List UInt8) (h : pval 8 b = some (v, r)) :
    ∃ e : Nat, W 78 [.fn 79 [.ptr 3 0, .ptr 1 0]] (HL (S b)) = some (.ret (.p (.bool true)), ⟨[zeroB, box25 v, rdr (S b) e, .cells [.ptr 2 0]], []⟩) := by
  obtain ⟨d, e, h79⟩ := clo79_ok b hb v r h
  refine ⟨e, W_attempt ?_⟩
  have h79' : W 79 [.ptr 3 0, .ptr 1 0] ⟨(HL (S b)).B ++ [.cells [.p (.bool false)]], []⟩ = _ := h79
  unfold attemptD
  simp only [capsOf]
  rw [if_pos (by decide)]
  simp only [argsD, argD, Bool.false_eq_true, if_false, D.nf, D.pd?]
  rw [show (⟨(HL (S b)).B ++ [Blk.cells [.p (.bool false)]], (HL (S b)).A⟩ : Hp) = ⟨(HL (S b)).B ++ [Blk.cells [.p (.bool false)]], []⟩ from rfl, h79']
  rfl
theorem attR_no (b : List UInt8) (hb : b.length ≤ 100000) (h : pval 8 b = none) :
    ∃ a' : Nat, W 78 [.fn 79 [.ptr 3 0, .ptr 1 0]] (HL (S b)) = some (.ret (.p (.bool false)), ⟨[zeroB, zeroB, rdr (S b) a', .cells [.ptr 2 0]], []⟩) := by
  obtain ⟨a', h79⟩ := clo79_no b hb h
  refine ⟨a', W_attempt ?_⟩
  have h79' : W 79 [.ptr 3 0, .ptr 1 0] ⟨(HL (S b)).B ++ [.cells [.p (.bool false)]], []⟩ = _ := h79
  unfold attemptD
  simp only [capsOf]
  rw [if_pos (by decide)]
  simp only [argsD, argD, Bool.false_eq_true, if_false, D.nf, D.pd?]
  rw [show (⟨(HL (S b)).B ++ [Blk.cells [.p (.bool false)]], (HL (S b)).A⟩ : Hp) = ⟨(HL (S b)).B ++ [Blk.cells [.p (.bool false)]], []⟩ from rfl, h79']
  rfl

theorem fin26 (H : Hp) (v : Val) (x : Int) (B : List Blk) : alone H (fnOut Tryz.prog [.cell 2 25, .tmp 3] 0 0 (some (.ret, [(2, .ptr 0 0), (3, .p (.int .i64 x))], ⟨box25 v :: B, []⟩))) = some (.ret (.tup [.p (enc v), .p (.int .i64 x)]), H) := by
  rw [enc_eq v]
  simp [fnOut, retOut, resD, look, retsD, retD, argD, D.nf, D.pd?, oneD, D.noRefs, D.noRef, alone, Hp.cut, box25]
theorem fin26z (H : Hp) (x : Int) (B : List Blk) : alone H (fnOut Tryz.prog [.cell 2 25, .tmp 3] 0 0 (some (.ret, [(2, .ptr 0 0), (3, .p (.int .i64 x))], ⟨zeroB :: B, []⟩))) = some (.ret (.tup [.p (enc Val.zero), .p (.int .i64 x)]), H) := by
  rw [enc_zero]
  simp [fnOut, retOut, resD, look, retsD, retD, argD, D.nf, D.pd?, oneD, D.noRefs, D.noRef, alone, Hp.cut, zeroB]

/-- A text that is too long. -/
theorem read26_long (b : List UInt8) (hb : 8000 < b.length) (H : Hp) : W 26 [.p (.str (S b))] H = some (.ret (.tup [.p (enc Val.zero), .p (.int .i64 3)]), H) := by
  refine W26_of rfl (by simp) ?_
  have c1 : (8000 : Int) < b.length := by omega
  have key : ∃ B, E false ⟨0, 0⟩ 26 code26 (mkF 0 [.p (.str (S b))]) H00 = some (.ret, [(2, .ptr 0 0), (3, .p (.int .i64 3))], ⟨zeroB :: B, []⟩) :=
    ⟨_, by simp [code26, Tryz.f26, zeroB, S_size, c1, hb, z25', build25, splice]; rfl⟩
  obtain ⟨B, key⟩ := key
  rw [key, fin26z]

theorem read26_W (b : List UInt8) (hb : b.length ≤ 8000) (H : Hp) : W 26 [.p (.str (S b))] H =
    some (.ret (.tup (match pRead b with | some v => [.p (enc v), .p (.int .i64 0)] | none => [.p (enc Val.zero), .p (.int .i64 4)])), H) := by
  refine W26_of rfl (by simp) ?_
  have c1 : ¬ (8000 : Int) < b.length := by omega
  have c1' : ¬ 8000 < b.length := by omega
  unfold pRead
  cases hu : pval 8 b with
  | none =>
    obtain ⟨a', h78⟩ := attR_no b (by omega) hu
    simp only [HL, rdr, zeroB] at h78
    have key : ∃ B, E false ⟨0, 0⟩ 26 code26 (mkF 0 [.p (.str (S b))]) H00 = some (.ret, [(2, .ptr 0 0), (3, .p (.int .i64 4))], ⟨zeroB :: B, []⟩) :=
      ⟨_, by simp [code26, Tryz.f26, zeroB, rdr, S_size, c1, c1', z25', z84, bd86, build25, splice, cD_nilP, cD_ptr, mkFn, h78]; rfl⟩
    obtain ⟨B, key⟩ := key
    rw [key, fin26z]
  | some p =>
    obtain ⟨v, r⟩ := p
    obtain ⟨e, h78⟩ := attR_ok b (by omega) v r hu
    simp only [HL, rdr, zeroB, box25] at h78
    have h71 := fun H => valid71_W v H
    cases hv : v.valid with
    | false =>
      rw [hv] at h71
      have key : ∃ B, E false ⟨0, 0⟩ 26 code26 (mkF 0 [.p (.str (S b))]) H00 = some (.ret, [(2, .ptr 0 0), (3, .p (.int .i64 4))], ⟨zeroB :: B, []⟩) :=
        ⟨_, by simp [code26, Tryz.f26, zeroB, rdr, S_size, c1, c1', z25', z84, bd86, build25, splice, cD_nilP, cD_ptr, mkFn, h78, h71]; rfl⟩
      obtain ⟨B, key⟩ := key
      rw [key, fin26z]
      simp [hv]
    | true =>
      rw [hv] at h71
      have hn := (valid_fine hv).2
      have h81 := fun H => text_W v (valid_shaped hv) (by omega) H
      by_cases hpk : txt v = b
      · have key : ∃ B, E false ⟨0, 0⟩ 26 code26 (mkF 0 [.p (.str (S b))]) H00 = some (.ret, [(2, .ptr 0 0), (3, .p (.int .i64 0))], ⟨box25 v :: B, []⟩) :=
          ⟨_, by simp [code26, Tryz.f26, zeroB, rdr, box25, S_size, c1, c1', z25', z84, bd86, build25, splice, cD_nilP, cD_ptr, mkFn, h78, h71, h81, hpk]; rfl⟩
        obtain ⟨B, key⟩ := key
        rw [key, fin26]
        simp [hv, hpk]
      · have hne : ¬ S (txt v) = S b := fun e => hpk (S_inj.1 e)
        have key : ∃ B, E false ⟨0, 0⟩ 26 code26 (mkF 0 [.p (.str (S b))]) H00 = some (.ret, [(2, .ptr 0 0), (3, .p (.int .i64 4))], ⟨zeroB :: B, []⟩) :=
          ⟨_, by simp [code26, Tryz.f26, zeroB, rdr, S_size, c1, c1', z25', z84, bd86, build25, splice, cD_nilP, cD_ptr, mkFn, h78, h71, h81, hne]; rfl⟩
        obtain ⟨B, key⟩ := key
        rw [key, fin26z]
        simp [hv, hpk]
end Go.Vi
end
