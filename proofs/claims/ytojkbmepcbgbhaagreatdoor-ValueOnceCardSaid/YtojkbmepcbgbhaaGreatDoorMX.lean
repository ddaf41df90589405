/- It is proved here what the program's functions on sets compute, the second part (loops over functions); conditions stand with each. -/
import Derived.Test.YtojkbmepcbgbhaaGreatDoorMW
set_option linter.unusedVariables false
set_option linter.unusedSimpArgs false

section
/- Vi: value.kept (f89), its closure (f129), slices.AppendSeq (f128), slices.Collect (f88). No conditions. -/
namespace Go.Vi
open Go Go.Lib Go.Proofs
set_option maxRecDepth 100000
/-! ### f89: sward/value.kept -/
@[simp] theorem k90_0 : ch.keep 90 0 = [3, 4, 5] := by kernel_rfl
@[simp] theorem k90_1 : ch.keep 90 1 = [6] := by kernel_rfl
noncomputable def code90 : Code := match Tryz.f90.body with | some c => c | none => .skip
theorem rs90 : Tryz.f90.results.toList = [.tmp 6] := rfl
theorem W90_ofH {args : List D} {H : Hp} (hp : ¬ (ch.pure 90 = true ∧ args.all (D.noRef 0 0) = true)) (hl : args.length ≤ 8) {o : Out × Hp}
    (h : fnOut Tryz.prog [.tmp 6] H.B.length H.A.length (E false ⟨0, 0⟩ 90 code90 (mkF 0 args) H) = some o) : W 90 args H = some o :=
  W_ofH Tryz.func90 rfl (by kernel_rfl) rfl hp (by rw [Tryz.ntmps90]; exact hl) h
theorem W89_ofH {args : List D} {H : Hp} (hp : ¬ (ch.pure 89 = true ∧ args.all (D.noRef 0 0) = true)) (hl : args.length ≤ 5) {o : Out × Hp}
    (h : fnOut Tryz.prog [.tmp 2] H.B.length H.A.length (E false ⟨0, 0⟩ 89 code89 (mkF 0 args) H) = some o) : W 89 args H = some o :=
  W_ofH Tryz.func89 rfl (by kernel_rfl) rfl hp (by rw [Tryz.ntmps89]; exact hl) h

attribute [local simp] E_skip E_ret E_exit E_text E_draw E_seq E_cond E_block E_scope E_loop runOps runOp runDraw runVF runV finV gate FlOK wantD exec fin opd look putF norm constD constC fieldAddrD loadD storeD opCall lenD binD isShift intP strP numD indexAddrD indexD D.pd? D.pds? cells_enc sub capsOf callD argsD argD D.nf enc_agg unP box_enc cellD mkF H00 st1 cD_agg cD_pagg cD_int cD_bool cD_str cD_sl cD_lit cD_own

theorem kept89_W (a b : Val) (is : Bool) (H : Hp) : W 90 [.p (enc a), .p (enc b), .p (.bool is)] H =
    some (.ret (.fn 130 [.ptr H.B.length 0, .ptr (H.B.length + 1) 0, .ptr (H.B.length + 2) 0]), ⟨H.B ++ [box25 a, box25 b, .cells [.p (.bool is)]], H.A⟩) := by
  have p89 : ch.pure 90 = false := by kernel_rfl
  refine W90_ofH (by rw [p89]; simp) (by simp) ?_
  have key : E false ⟨0, 0⟩ 90 code90 (mkF 0 [.p (enc a), .p (enc b), .p (.bool is)]) H = some (.ret, [(6, .fn 130 [.ptr H.B.length 0, .ptr (H.B.length + 1) 0, .ptr (H.B.length + 2) 0])], ⟨H.B ++ [box25 a, box25 b, .cells [.p (.bool is)]], H.A⟩) := by
    simp [code90, Tryz.f90, box25, mkFn]
  rw [key]
  simp [fnOut, retOut, resD, retsD, retD, oneD, D.noRefs, D.noRef, Hp.cut]

/-! ### The closure -/
def fr129 (y cb ci : Nat) (l : List Val) (i : Nat) : Fr := [(0, .yld y), (2, .ptr cb 0), (3, .ptr ci 0), (8, .p (.sl (l.map enc))), (9, .p (.int .i64 l.length)), (10, .p (.int .i64 i))]
theorem set_end {α : Type} (L : List α) (x z : α) : (L ++ [z]).set L.length x = L ++ [x] := by
  induction L with
  | nil => rfl
  | cons a b ih => simp [ih]

theorem body129_end (y cb ci : Nat) (l : List Val) (H : Hp) : E false ⟨0, 0⟩ 130 lp130_0 (fr129 y cb ci l l.length) H = some (.exit 0, fr129 y cb ci l l.length ++ [(11, .p (.bool false))], H) := by
  simp [fr129, lp130_0, code130, Tryz.f130]

structure Caps (b : Val) (is : Bool) (cb ci : Nat) (L : List Blk) : Prop where
  b : L[cb]? = some (box25 b)
  i : L[ci]? = some (.cells [.p (.bool is)])

theorem Caps.app {b : Val} {is : Bool} {cb ci : Nat} {L : List Blk} (h : Caps b is cb ci L) (X : List Blk) : (L ++ X)[cb]? = some (box25 b) ∧ (L ++ X)[ci]? = some (.cells [.p (.bool is)]) := by
  have h1 := (List.getElem?_eq_some_iff.1 h.b).1
  have h2 := (List.getElem?_eq_some_iff.1 h.i).1
  exact ⟨by rw [List.getElem?_append_left h1]; exact h.b, by rw [List.getElem?_append_left h2]; exact h.i⟩

theorem body129_skip (y cb ci : Nat) (b : Val) (is : Bool) (l : List Val) (i : Nat) (L : List Blk) (A : List Arr) (hlt : i < l.length) (hlen : l.length < 9223372036854775807) (hc : Caps b is cb ci L) (c : Bool) (hne : (c == is) = false)
    (h90 : ∀ H, W 91 [.p (.sl (b.ps.map enc)), .p (enc l[i])] H = some (.ret (.p (.bool c)), H)) :
    E false ⟨0, 0⟩ 130 lp130_0 (fr129 y cb ci l i) ⟨L, A⟩ = some (.normal, fr129 y cb ci l (i + 1), ⟨L ++ [box25 l[i]], A⟩) := by
  have hw : IntKind.i64.wrap ((i : Int) + 1) = (i : Int) + 1 := wrap64 (by omega) (by omega)
  obtain ⟨g1, g2⟩ := hc.app [box25 l[i]]
  simp only [box25] at g1 g2
  simp [fr129, box25, lp130_0, code130, Tryz.f130, hlt, hw, z25', splice, set_end, g1, g2, h90, hne]

theorem body129_yes (y cb ci : Nat) (b : Val) (is : Bool) (l : List Val) (i : Nat) (L : List Blk) (A : List Arr) (hlt : i < l.length) (hlen : l.length < 9223372036854775807) (hc : Caps b is cb ci L) (c : Bool) (heq : (c == is) = true)
    (h90 : ∀ H, W 91 [.p (.sl (b.ps.map enc)), .p (enc l[i])] H = some (.ret (.p (.bool c)), H)) (H1 : Hp) (hy : W (1000000000 + y) [.p (enc l[i])] ⟨L ++ [box25 l[i]], A⟩ = some (.ret (.p (.bool true)), H1)) :
    E false ⟨0, 0⟩ 130 lp130_0 (fr129 y cb ci l i) ⟨L, A⟩ = some (.normal, fr129 y cb ci l (i + 1), H1) := by
  have hw : IntKind.i64.wrap ((i : Int) + 1) = (i : Int) + 1 := wrap64 (by omega) (by omega)
  obtain ⟨g1, g2⟩ := hc.app [box25 l[i]]
  simp only [box25] at g1 g2 hy
  simp [fr129, box25, lp130_0, code130, Tryz.f130, hlt, hw, z25', splice, set_end, g1, g2, h90, heq, hy, yieldD]

theorem body129_no (y cb ci : Nat) (b : Val) (is : Bool) (l : List Val) (i : Nat) (L : List Blk) (A : List Arr) (hlt : i < l.length) (hlen : l.length < 9223372036854775807) (hc : Caps b is cb ci L) (c : Bool) (heq : (c == is) = true)
    (h90 : ∀ H, W 91 [.p (.sl (b.ps.map enc)), .p (enc l[i])] H = some (.ret (.p (.bool c)), H)) (H1 : Hp) (hy : W (1000000000 + y) [.p (enc l[i])] ⟨L ++ [box25 l[i]], A⟩ = some (.ret (.p (.bool false)), H1)) :
    ∃ F, E false ⟨0, 0⟩ 130 lp130_0 (fr129 y cb ci l i) ⟨L, A⟩ = some (.ret, F, H1) := by
  have hw : IntKind.i64.wrap ((i : Int) + 1) = (i : Int) + 1 := wrap64 (by omega) (by omega)
  obtain ⟨g1, g2⟩ := hc.app [box25 l[i]]
  simp only [box25] at g1 g2 hy
  exact ⟨_, by simp [fr129, box25, lp130_0, code130, Tryz.f130, hlt, hw, z25', splice, set_end, g1, g2, h90, heq, hy, yieldD]; rfl⟩

/-- What the one who takes the values keeps: a state, for the values taken. -/
structure Taker (b : Val) (is : Bool) (y cb ci nB nA : Nat) (I : List Val → Hp → Prop) : Prop where
  caps : ∀ out H, I out H → Caps b is cb ci H.B
  cut : ∀ out H, I out H → (H.B.take nB).all (blkNo nB nA) = true → I out (H.cut nB nA)
  add : ∀ out H u, I out H → I out ⟨H.B ++ [box25 u], H.A⟩
  take : ∀ out H u, I out H → out.length ≤ 1000000 → u.fine → ∃ H1, W (1000000000 + y) [.p (enc u)] ⟨H.B ++ [box25 u], H.A⟩ = some (.ret (.p (.bool true)), H1) ∧ I (out ++ [u]) H1

theorem loop129_ok (y cb ci nB nA : Nat) (b : Val) (is : Bool) (l : List Val) (hlen : l.length ≤ 1000000) (hfl : ∀ u ∈ l, u.fine) (I : List Val → Hp → Prop) (tk : Taker b is y cb ci nB nA I)
    (h90 : ∀ u ∈ l, ∀ H, W 91 [.p (.sl (b.ps.map enc)), .p (enc u)] H = some (.ret (.p (.bool (inL u b.ps))), H)) : ∀ (m i : Nat) (out : List Val) (F : Fr) (H : Hp), m = l.length - i → i ≤ l.length → out.length ≤ i → I out H → norm [0, 2, 3, 8, 9, 10] F = fr129 y cb ci l i →
    ∃ H1, loopO false ⟨0, 0⟩ 130 lp130_0 nB nA F H = some (.exit 0, fr129 y cb ci l l.length ++ [(11, .p (.bool false))], H1) ∧ I (out ++ keepL (l.drop i) b.ps is) H1 := by
  have hcut : ∀ out F H, I out H → ∃ H0, cutD ⟨0, 0⟩ [0, 2, 3, 8, 9, 10] nB nA F H = some (norm [0, 2, 3, 8, 9, 10] F, H0) ∧ I out H0 := fun out F H hI => by
    unfold cutD
    split
    · rename_i hc
      exact ⟨_, rfl, tk.cut out H hI hc.2⟩
    · exact ⟨_, rfl, hI⟩
  intro m
  induction m with
  | zero =>
    intro i out F H hm hi ho hI hF
    have hie : i = l.length := by omega
    subst hie
    obtain ⟨H0, hc, hI0⟩ := hcut out F H hI
    refine ⟨H0, ?_, ?_⟩
    · rw [loopO_eq, hd130_0, hc, hF]
      simp only [body129_end]
    · simpa [keepL] using hI0
  | succ m ih =>
    intro i out F H hm hi ho hI hF
    have hlt : i < l.length := by omega
    obtain ⟨H0, hc, hI0⟩ := hcut out F H hI
    have h9 := h90 l[i] (List.getElem_mem hlt)
    rw [loopO_eq, hd130_0, hc, hF, List.drop_eq_getElem_cons hlt, keepL_cons]
    by_cases he : inL l[i] b.ps = is
    · obtain ⟨H1, hy, hI1⟩ := tk.take out H0 l[i] hI0 (by omega) (hfl _ (List.getElem_mem hlt))
      simp only [body129_yes y cb ci b is l i H0.B H0.A hlt (by omega) (tk.caps out H0 hI0) _ (by simp [he]) h9 H1 hy, if_pos he]
      obtain ⟨H2, h2, hI2⟩ := ih (i + 1) (out ++ [l[i]]) (fr129 y cb ci l (i + 1)) H1 (by omega) (by omega) (by simp; omega) hI1 rfl
      exact ⟨H2, h2, by simpa using hI2⟩
    · simp only [body129_skip y cb ci b is l i H0.B H0.A hlt (by omega) (tk.caps out H0 hI0) _ (by simp [he]) h9, if_neg he]
      exact ih (i + 1) out (fr129 y cb ci l (i + 1)) _ (by omega) (by omega) (by omega) (tk.add out H0 l[i] hI0) rfl

theorem kept129_W (y ca cb ci : Nat) (a b : Val) (is : Bool) (H : Hp) (hlen : a.ps.length ≤ 1000000) (hfl : ∀ u ∈ a.ps, u.fine) (I : List Val → Hp → Prop) (tk : Taker b is y cb ci H.B.length H.A.length I)
    (h90 : ∀ u ∈ a.ps, ∀ H, W 91 [.p (.sl (b.ps.map enc)), .p (enc u)] H = some (.ret (.p (.bool (inL u b.ps))), H)) (ha : H.B[ca]? = some (box25 a)) (hI : I [] H) :
    ∃ d H1, W 130 [.yld y, .ptr ca 0, .ptr cb 0, .ptr ci 0] H = some (.ret d, H1) ∧ I (keepL a.ps b.ps is) H1 := by
  have h00 : ((0 : Nat) : Int) = 0 := rfl
  obtain ⟨H1, hloop, hI1⟩ := loop129_ok y cb ci H.B.length H.A.length b is a.ps hlen hfl I tk h90 a.ps.length 0 [] (fr129 y cb ci a.ps 0) H rfl (Nat.zero_le _) (Nat.le_refl _) hI rfl
  rw [List.drop_zero, List.nil_append] at hI1
  have key : ∃ F, E false ⟨0, 0⟩ 130 code130 (mkF 0 [.yld y, .ptr ca 0, .ptr cb 0, .ptr ci 0]) H = some (.normal, F, H1) := by
    simp only [lp130_0, code130, Tryz.f130, fr129, h00] at hloop
    simp only [box25] at ha
    exact ⟨_, by simp [code130, Tryz.f130, ha, hloop]; rfl⟩
  obtain ⟨F, key⟩ := key
  by_cases hc : (H1.B.take H.B.length).all (blkNo H.B.length H.A.length) = true
  · refine ⟨oneD [], H1.cut H.B.length H.A.length, W130_ofH (by rintro ⟨_, h⟩; simp [D.noRef] at h) (by simp) ?_, tk.cut _ _ hI1 hc⟩
    rw [key]
    simp only [fnOut, retOut, resD, retsD]
    rw [if_pos ⟨rfl, hc⟩]
  · refine ⟨oneD [], H1, W130_ofH (by rintro ⟨_, h⟩; simp [D.noRef] at h) (by simp) ?_, hI1⟩
    rw [key]
    simp only [fnOut, retOut, resD, retsD]
    rw [if_neg (fun h => hc h.2)]

/-! ### AppendSeq -/
noncomputable def rfA : Code := match code129 with | .seq _ (.seq (.seq _ (.block _ (.rangeFunc _ _ a _))) _) => a | c => c
noncomputable def rfB : Code := match code129 with | .seq _ (.seq (.seq _ (.block _ (.rangeFunc _ _ _ b))) _) => b | c => c
theorem okA128 : okD ch 129 rfA = true := by kernel_rfl
theorem okB128 : okD ch 129 rfB = true := by kernel_rfl

theorem asg128 (m : Mk) (u : Val) (s : Nat) (F : Fr) (hF : look F 2 = .ptr s 0) (L : List Blk) (A : List Arr) :
    E true m 129 rfA ((7, .p (enc u)) :: F) ⟨L, A⟩ = some (.normal, [(2, .ptr s 0), (5, .ptr L.length 0)], ⟨L ++ [box25 u], A⟩) := by
  simp [rfA, code129, Tryz.f129, box25, z25', splice, set_end, hF]

def rowU (k : Nat) (out : List Val) : Arr := ⟨k, 25, 4, false, false, out.map enc⟩

theorem cells_agg (l : List PD) : (PD.agg l).cells = l := rfl
theorem one_agg (l : List PD) : (PD.agg l).one = false := rfl
theorem rnd128_first (m : Mk) (u : Val) (s v : Nat) (L : List Blk) (r0 rz : Arr) (hs : L[s]? = some (.cells [.lit true []])) (hv : L[v]? = some (box25 u)) :
    E true m 129 rfB [(2, .ptr s 0), (5, .ptr v 0)] ⟨L, [r0, rz]⟩ = some (.normal, [], ⟨L.set s (.cells [.own 2 0]), [r0, rz, rowU 0 [u]]⟩) := by
  simp only [box25] at hv
  simp [rfB, code129, Tryz.f129, hs, hv, z25', splice, buildSliceD, elsD, one_int, one_str, one_sl, one_enc, len_enc, all_one, appendD, srcD, Hp.live, zok25, fits_enc, newRow, rowU, setEl, lenD, fit_n, cells_agg, one_agg, fits]

theorem rnd128_next (m : Mk) (u : Val) (s v k : Nat) (out : List Val) (hlen : out.length ≤ 1000000) (L : List Blk) (r0 rz : Arr) (hs : L[s]? = some (.cells [.own 2 k])) (hv : L[v]? = some (box25 u)) :
    E true m 129 rfB [(2, .ptr s 0), (5, .ptr v 0)] ⟨L, [r0, rz, rowU k out]⟩ = some (.normal, [], ⟨L.set s (.cells [.own 2 (k + 1)]), [r0, rz, rowU (k + 1) (out ++ [u])]⟩) := by
  simp only [box25] at hv
  have hby : (out.length + 1) * 56 ≤ 140737488355328 := by omega
  have hl1 : (out.length : Int) < out.length + 1 := by omega
  have ge : ∀ x : PD, (out.map enc ++ [x])[out.length]? = some x := fun x => by
    have := List.getElem?_concat_length (l := out.map enc) (a := x)
    rwa [List.length_map] at this
  have se : ∀ x y : PD, (out.map enc ++ [x]).set out.length y = out.map enc ++ [y] := fun x y => by
    have := set_end (out.map enc) y x
    rwa [List.length_map] at this
  simp [rfB, code129, Tryz.f129, hs, hv, z25', splice, buildSliceD, elsD, one_int, one_str, one_sl, one_enc, len_enc, all_one, appendD, srcD, Hp.live, zok25, fits_enc, newRow, rowU, setEl, lenD, fit_n, cells_agg, one_agg, fits, hby, hl1, ge, se]

theorem back {α : Type} (B : List α) (y s : Nat) (q c r : α) (hy : B[y]? = some r) (hne : s ≠ y) : ((B.set y q).set s c).set y r = B.set s c := by
  have hlt := (List.getElem?_eq_some_iff.1 hy).1
  apply List.ext_getElem?
  intro i
  simp only [List.getElem?_set, List.length_set]
  by_cases h1 : y = i
  · subst h1
    rw [if_pos rfl, if_pos hlt, if_neg hne, hy]
  · rw [if_neg h1, if_neg h1]

noncomputable def lpR (F : Fr) : Blk := .lp .ready none 129 F #[7] rfA rfB

/-- The round, given what its body does. -/
theorem round_W (y s : Nat) (u : Val) (B : List Blk) (A A' : List Arr) (F : Fr) (c : Blk) (hF : look F 2 = .ptr s 0) (hy : B[y]? = some (lpR F)) (hs : s < B.length) (hne : s ≠ y)
    (hbody : ∀ L : List Blk, L[s]? = B[s]? → L[B.length]? = some (box25 u) → E true ⟨y + 1, 0⟩ 129 rfB [(2, .ptr s 0), (5, .ptr B.length 0)] ⟨L, A⟩ = some (.normal, [], ⟨L.set s c, A'⟩)) :
    W (1000000000 + y) [.p (enc u)] ⟨B, A⟩ = rndFin B.length A.length none ⟨B.set s c ++ [box25 u], A'⟩ := by
  have hyl := (List.getElem?_eq_some_iff.1 hy).1
  have hy' : (B ++ [box25 u])[y]? = some (lpR F) := by rw [List.getElem?_append_left hyl]; exact hy
  have hr : rndFin B.length A.length none ⟨B.set s c ++ [box25 u], A'⟩ = some (if ((⟨B.set s c ++ [box25 u], A'⟩ : Hp).B.take B.length).all (blkNo B.length A.length) = true then (.ret (.p (.bool true)), (⟨B.set s c ++ [box25 u], A'⟩ : Hp).cut B.length A.length) else (.ret (.p (.bool true)), ⟨B.set s c ++ [box25 u], A'⟩)) := by
    unfold rndFin
    split <;> simp_all
  rw [hr]
  refine calW_of ?_
  rw [← hr]
  unfold calF
  rw [if_pos (show YB ≤ 1000000000 + y from Nat.le_add_right _ _), show 1000000000 + y - YB = y from Nat.add_sub_cancel_left _ _]
  unfold evalRound rndRun
  simp only [hy, lpR]
  rw [if_pos ⟨rfl, okA128, okB128⟩]
  have hm : hn.mutF 129 = true := rfl
  have ha := asg128 ⟨y + 1, 0⟩ u s F hF B A
  rw [hm]
  rw [show evalC Tryz.prog hn ch true ⟨y + 1, 0⟩ (calW Tryz.prog hn ch others) 129 rfA (putL #[7].toList [.p (enc u)] F) ⟨B, A⟩ = some (.normal, [(2, .ptr s 0), (5, .ptr B.length 0)], ⟨B ++ [box25 u], A⟩) from ha]
  simp only [hy', lpR]
  have hb := hbody ((B ++ [box25 u]).set y (.lp .busy none 129 F #[7] rfA rfB)) (by
    rw [List.getElem?_set, if_neg (Ne.symm hne), List.getElem?_append_left hs]) (by
    rw [List.getElem?_set, if_neg (by omega)]; exact List.getElem?_concat_length)
  rw [show evalC Tryz.prog hn ch true ⟨y + 1, 0⟩ (calW Tryz.prog hn ch others) 129 rfB [(2, .ptr s 0), (5, .ptr B.length 0)] ⟨(B ++ [box25 u]).set y (.lp .busy none 129 F #[7] rfA rfB), A⟩ = _ from hb]
  simp only [rndOut]
  unfold rndEnd
  have hg : (((B ++ [box25 u]).set y (.lp .busy none 129 F #[7] rfA rfB)).set s c)[y]? = some (.lp .busy none 129 F #[7] rfA rfB) := by
    rw [List.getElem?_set, if_neg hne, List.getElem?_set, if_pos rfl, if_pos (by simp; omega)]
  simp only [hg, Option.isNone_none, if_true]
  have hB := back (B ++ [box25 u]) y s (.lp .busy none 129 F #[7] rfA rfB) c (lpR F) hy' hne
  rw [lpR] at hB
  rw [hB, List.set_append_left _ _ hs]
end Go.Vi
end

section
/- Vi: slices.AppendSeq (f128), slices.Collect (f88) over value.kept. No conditions. -/
namespace Go.Vi
open Go Go.Lib Go.Proofs
set_option maxRecDepth 100000

def I128 (P : List Blk) (F : Fr) (r0 rz : Arr) (out : List Val) (H : Hp) : Prop :=
  (out = [] ∧ ∃ G, H = ⟨P ++ Blk.cells [.lit true []] :: lpR F :: G, [r0, rz]⟩) ∨ (out ≠ [] ∧ ∃ k G, H = ⟨P ++ Blk.cells [.own 2 k] :: lpR F :: G, [r0, rz, rowU k out]⟩)

theorem take_two {α : Type} (P : List α) (c l : α) (G : List α) : (P ++ c :: l :: G).take (P.length + 2) = P ++ [c, l] := by
  rw [List.take_append, List.take_of_length_le (by omega), show P.length + 2 - P.length = 2 by omega]; rfl
theorem at_s {α : Type} (P : List α) (c : α) (G : List α) : (P ++ c :: G)[P.length]? = some c := by
  rw [List.getElem?_append_right (Nat.le_refl _), Nat.sub_self]; rfl
theorem at_y {α : Type} (P : List α) (c l : α) (G : List α) : (P ++ c :: l :: G)[P.length + 1]? = some l := by
  rw [List.getElem?_append_right (by omega), show P.length + 1 - P.length = 1 by omega]; rfl
theorem set_s {α : Type} (P : List α) (c d : α) (G : List α) : (P ++ c :: G).set P.length d = P ++ d :: G := by
  rw [List.set_append_right _ _ (Nat.le_refl _), Nat.sub_self]; rfl

theorem taker128 (P : List Blk) (F : Fr) (r0 rz : Arr) (b : Val) (is : Bool) (cb ci : Nat) (hF : look F 2 = .ptr P.length 0) (hc : Caps b is cb ci P) :
    Taker b is (P.length + 1) cb ci (P.length + 2) 2 (I128 P F r0 rz) where
  caps := fun out H hI => by
    rcases hI with ⟨_, G, rfl⟩ | ⟨_, k, G, rfl⟩ <;> exact ⟨(hc.app _).1, (hc.app _).2⟩
  cut := fun out H hI hck => by
    rcases hI with ⟨h, G, rfl⟩ | ⟨h, k, G, rfl⟩
    · exact .inl ⟨h, [], by simp only [Hp.cut, take_two]; rfl⟩
    · exfalso
      rw [take_two, List.all_append, Bool.and_eq_true] at hck
      simp [blkNo, D.noRefs, D.noRef] at hck
  add := fun out H u hI => by
    rcases hI with ⟨h, G, rfl⟩ | ⟨h, k, G, rfl⟩
    · exact .inl ⟨h, G ++ [box25 u], by simp⟩
    · exact .inr ⟨h, k, G ++ [box25 u], by simp⟩
  take := fun out H u hI hlen hu => by
    rcases hI with ⟨h, G, rfl⟩ | ⟨h, k, G, rfl⟩
    · have hr := round_W (P.length + 1) P.length u ((P ++ Blk.cells [.lit true []] :: lpR F :: G) ++ [box25 u]) [r0, rz] [r0, rz, rowU 0 [u]] F (.cells [.own 2 0]) hF
        (by rw [List.append_assoc, List.cons_append, List.cons_append, at_y]) (by simp) (by omega) (fun L h1 h2 => by
          refine rnd128_first _ u _ _ L r0 rz ?_ h2
          rw [h1, List.append_assoc, List.cons_append, at_s])
      rw [List.append_assoc, List.cons_append, List.cons_append, set_s] at hr
      have hno : ((P ++ Blk.cells [.own 2 0] :: lpR F :: (G ++ [box25 u]) ++ [box25 u]).take (P ++ Blk.cells [.lit true []] :: lpR F :: (G ++ [box25 u])).length).all (blkNo (P ++ Blk.cells [.lit true []] :: lpR F :: (G ++ [box25 u])).length [r0, rz].length) = false := by
        rw [List.take_left' (by simp)]
        rw [List.all_append, Bool.and_eq_false_iff]
        right
        simp [blkNo, D.noRefs, D.noRef]
      refine ⟨⟨P ++ Blk.cells [.own 2 0] :: lpR F :: (G ++ [box25 u]) ++ [box25 u], [r0, rz, rowU 0 [u]]⟩, ?_, ?_⟩
      · rw [show (P ++ Blk.cells [.lit true []] :: lpR F :: G) ++ [box25 u] = P ++ Blk.cells [.lit true []] :: lpR F :: (G ++ [box25 u]) by simp]
        rw [hr]
        unfold rndFin
        rw [if_neg (by rw [hno]; simp)]
        rfl
      · exact .inr ⟨by simp, 0, G ++ [box25 u] ++ [box25 u], by rw [h]; simp⟩
    · have hr := round_W (P.length + 1) P.length u ((P ++ Blk.cells [.own 2 k] :: lpR F :: G) ++ [box25 u]) [r0, rz, rowU k out] [r0, rz, rowU (k + 1) (out ++ [u])] F (.cells [.own 2 (k + 1)]) hF
        (by rw [List.append_assoc, List.cons_append, List.cons_append, at_y]) (by simp) (by omega) (fun L h1 h2 => by
          refine rnd128_next _ u _ _ k out hlen L r0 rz ?_ h2
          rw [h1, List.append_assoc, List.cons_append, at_s])
      rw [List.append_assoc, List.cons_append, List.cons_append, set_s] at hr
      rw [show (P ++ Blk.cells [.own 2 k] :: lpR F :: G) ++ [box25 u] = P ++ Blk.cells [.own 2 k] :: lpR F :: (G ++ [box25 u]) by simp]
      rw [hr]
      unfold rndFin
      split
      · refine ⟨_, rfl, .inr ⟨by simp, k + 1, G ++ [box25 u], ?_⟩⟩
        simp only [Hp.cut]
        rw [List.take_left' (by simp)]
        rfl
      · exact ⟨_, rfl, .inr ⟨by simp, k + 1, G ++ [box25 u] ++ [box25 u], by simp⟩⟩

attribute [local simp] E_skip E_ret E_exit E_text E_draw E_seq E_cond E_block E_scope E_loop runOps runOp runDraw runVF runV finV gate FlOK wantD exec fin opd look putF norm constD constC fieldAddrD loadD storeD opCall lenD binD isShift intP strP numD indexAddrD indexD D.pd? D.pds? cells_enc sub capsOf callD argsD argD D.nf enc_agg unP box_enc cellD mkF H00 st1 cD_agg cD_pagg cD_int cD_bool cD_str cD_sl cD_lit cD_own

/-- The closure of value.kept. -/
def clo (ca cb ci : Nat) : D := .fn 130 [.ptr ca 0, .ptr cb 0, .ptr ci 0]
def F128 (n : Nat) (d : D) : Fr := [(2, .ptr n 0), (4, .own 1 0), (6, d)]

def rowZ : Arr := ⟨0, 25, 4, true, false, []⟩
theorem append128_W (P : List Blk) (ca cb ci : Nat) (a b : Val) (is : Bool) (r0 : Arr) (hlen : a.ps.length ≤ 1000000) (hfl : ∀ u ∈ a.ps, u.fine) (hP : P.all (blkNo P.length 1) = true)
    (h90 : ∀ u ∈ a.ps, ∀ H, W 91 [.p (.sl (b.ps.map enc)), .p (enc u)] H = some (.ret (.p (.bool (inL u b.ps))), H)) (ha : P[ca]? = some (box25 a)) (hc : Caps b is cb ci P) :
    W 129 [.lit true [], clo ca cb ci] ⟨P, [r0]⟩ = some (.ret (.p (.sl ((keepL a.ps b.ps is).map enc))), ⟨P, [r0]⟩) := by
  refine W129_ofH (by rintro ⟨_, h⟩; simp [D.noRef, clo, D.noRefs] at h) (by simp) ?_
  have hl : ∀ X : List Blk, (P ++ X).length = P.length + X.length := fun X => by simp
  obtain ⟨d, H1, h129, hI⟩ := kept129_W (P.length + 1) ca cb ci a b is ⟨P ++ [.cells [.lit true []], lpR (F128 P.length (clo ca cb ci))], [r0, rowZ]⟩ hlen hfl (I128 P (F128 P.length (clo ca cb ci)) r0 rowZ)
    (by simpa using taker128 P (F128 P.length (clo ca cb ci)) r0 rowZ b is cb ci rfl hc) h90 (by rw [List.getElem?_append_left (List.getElem?_eq_some_iff.1 ha).1]; exact ha) (.inl ⟨rfl, [], rfl⟩)
  have tp : ∀ X : List Blk, (P ++ X).take P.length = P := fun X => List.take_left' rfl
  rcases hI with ⟨h0, G, rfl⟩ | ⟨h0, k, G, rfl⟩
  · have g1 := at_y P (.cells [.lit true []]) (lpR (F128 P.length (clo ca cb ci))) G
    have g2 : ∀ x, (P ++ Blk.cells [.lit true []] :: lpR (F128 P.length (clo ca cb ci)) :: G).set (P.length + 1) x = P ++ Blk.cells [.lit true []] :: x :: G := fun x => by
      rw [List.set_append_right _ _ (by omega), show P.length + 1 - P.length = 1 by omega]; rfl
    have g3 : ∀ x, (P ++ Blk.cells [.lit true []] :: x :: G)[P.length]? = some (Blk.cells [.lit true []]) := fun x => at_s P _ _
    simp only [lpR, rfA, rfB, code129, Tryz.f129, F128, clo, rowZ] at h129 g1 g2
    have key : ∃ x, E true ⟨0, 0⟩ 129 code129 (mkF 0 [.lit true [], clo ca cb ci]) ⟨P, [r0]⟩ = some (.ret, [(4, .lit true [])], ⟨P ++ .cells [.lit true []] :: x :: G, [r0, rowZ]⟩) :=
      ⟨_, by simp [code129, Tryz.f129, clo, newRow, E_range, rangeD, okRi, h129, endLp, jumpD, g1, g2, g3, rowZ]; rfl⟩
    obtain ⟨x, key⟩ := key
    rw [key, h0]
    simp [fnOut, retOut, resD, retsD, retD, oneD, D.noRefs, D.noRef, Hp.cut, tp]
    exact fun b hb => List.all_eq_true.1 hP b hb
  · have g1 := at_y P (.cells [.own 2 k]) (lpR (F128 P.length (clo ca cb ci))) G
    have g2 : ∀ x, (P ++ Blk.cells [.own 2 k] :: lpR (F128 P.length (clo ca cb ci)) :: G).set (P.length + 1) x = P ++ Blk.cells [.own 2 k] :: x :: G := fun x => by
      rw [List.set_append_right _ _ (by omega), show P.length + 1 - P.length = 1 by omega]; rfl
    have g3 : ∀ x, (P ++ Blk.cells [.own 2 k] :: x :: G)[P.length]? = some (Blk.cells [.own 2 k]) := fun x => at_s P _ _
    simp only [lpR, rfA, rfB, code129, Tryz.f129, F128, clo, rowZ] at h129 g1 g2
    have key : ∃ x, E true ⟨0, 0⟩ 129 code129 (mkF 0 [.lit true [], clo ca cb ci]) ⟨P, [r0]⟩ = some (.ret, [(4, .own 2 k)], ⟨P ++ .cells [.own 2 k] :: x :: G, [r0, rowZ, rowU k (keepL a.ps b.ps is)]⟩) :=
      ⟨_, by simp [code129, Tryz.f129, clo, newRow, E_range, rangeD, okRi, h129, endLp, jumpD, g1, g2, g3, rowZ]; rfl⟩
    obtain ⟨x, key⟩ := key
    rw [key]
    simp [fnOut, retOut, resD, retsD, retD, oneD, D.noRefs, D.noRef, Hp.cut, tp, Hp.live, rowU]
    exact fun b hb => List.all_eq_true.1 hP b hb

theorem collect88_W (P : List Blk) (ca cb ci : Nat) (a b : Val) (is : Bool) (hlen : a.ps.length ≤ 1000000) (hfl : ∀ u ∈ a.ps, u.fine) (hP : P.all (blkNo P.length 0) = true) (hP1 : P.all (blkNo P.length 1) = true)
    (h90 : ∀ u ∈ a.ps, ∀ H, W 91 [.p (.sl (b.ps.map enc)), .p (enc u)] H = some (.ret (.p (.bool (inL u b.ps))), H)) (ha : P[ca]? = some (box25 a)) (hc : Caps b is cb ci P) :
    W 89 [clo ca cb ci] ⟨P, []⟩ = some (.ret (.p (.sl ((keepL a.ps b.ps is).map enc))), ⟨P, []⟩) := by
  refine W89_ofH (by rintro ⟨_, h⟩; simp [D.noRef, clo, D.noRefs] at h) (by simp) ?_
  have h1 := fun r0 => append128_W P ca cb ci a b is r0 hlen hfl hP1 h90 ha hc
  simp only [clo] at h1
  have key : ∃ A, E false ⟨0, 0⟩ 89 code89 (mkF 0 [clo ca cb ci]) ⟨P, []⟩ = some (.ret, [(2, .p (.sl ((keepL a.ps b.ps is).map enc)))], ⟨P, A⟩) :=
    ⟨_, by simp [code89, Tryz.f89, clo, newRow, h1]; rfl⟩
  obtain ⟨A, key⟩ := key
  rw [key]
  simp [fnOut, retOut, resD, retsD, retD, oneD, D.noRefs, D.noRef, Hp.cut]
  exact fun b hb hf => by have := List.all_eq_true.1 hP b hb; rw [this] at hf; cases hf
end Go.Vi
end

section
/- Vi: value.Meet (f34), Minus (f35), Within (f36). No conditions. -/
namespace Go.Vi
open Go Go.Lib Go.Proofs
set_option maxRecDepth 100000
attribute [local simp] E_skip E_ret E_exit E_text E_draw E_seq E_cond E_block E_scope E_loop runOps runOp runDraw runVF runV finV gate FlOK wantD exec fin opd look putF norm constD constC fieldAddrD loadD storeD opCall lenD binD isShift intP strP numD indexAddrD indexD D.pd? D.pds? cells_enc sub capsOf callD argsD argD D.nf enc_agg unP box_enc cellD mkF H00 st1 cD_agg cD_pagg cD_int cD_bool cD_str cD_sl cD_lit cD_own

theorem h90_of {a b : Val} (ha : a.valid = true) (hb : b.isSet = true) : ∀ u ∈ a.ps, ∀ H, W 91 [.p (.sl (b.ps.map enc)), .p (enc u)] H = some (.ret (.p (.bool (inL u b.ps))), H) := fun u hu H => by
  obtain ⟨vb, _⟩ := isSet_valid hb
  obtain ⟨q1, q2, _⟩ := valid_parts vb
  have := valid_len vb
  exact has90_W b.ps u q1 q2 ((valid_parts ha).2.1 u hu) (set_incr hb) (by omega) H

theorem nodesL_keep (l m : List Val) (is : Bool) : nodesL (keepL l m is) ≤ nodesL l := by
  induction l with
  | nil => simp [keepL]
  | cons u r ih => 
    rw [keepL_cons]
    split
    · simp only [nodesL]; omega
    · simp only [nodesL]; have := nodes_pos u; omega

theorem meet34_W (a b : Val) (H : Hp) : W 35 [.p (enc a), .p (enc b)] H = some (.ret (.tup (if (a.isSet && b.isSet) = true then Made (keepL a.ps b.ps true) else [.p (enc Val.zero), .p (.int .i64 2)])), H) := by
  refine W35_of rfl (by simp) ?_
  have h1 := fun H => isSet85_W a H
  have h2 := fun H => isSet85_W b H
  have fin1 : ∀ (x : Val) (y : Int) (B : List Blk), alone H (fnOut Tryz.prog [.cell 4 25, .tmp 5] 0 0 (some (.ret, [(4, .ptr 2 0), (5, .p (.int .i64 y))], ⟨box25 a :: box25 b :: box25 x :: B, []⟩))) = some (.ret (.tup [.p (enc x), .p (.int .i64 y)]), H) := fun x y B => by
    rw [enc_eq x]
    simp [fnOut, retOut, resD, look, retsD, retD, argD, D.nf, D.pd?, oneD, D.noRefs, D.noRef, alone, Hp.cut, box25]
  have zb : box25 Val.zero = .cells [.p (.int .i64 0), .p (.int .i64 0), .p (.str ⟨#[]⟩), .p (.sl [])] := rfl
  cases hs : a.isSet with
  | false =>
    rw [hs] at h1
    have key : E false ⟨0, 0⟩ 35 code35 (mkF 0 [.p (enc a), .p (enc b)]) H00 = some (.ret, [(4, .ptr 2 0), (5, .p (.int .i64 2))], ⟨[box25 a, box25 b, zeroB], []⟩) := by
      simp [code35, Tryz.f35, h1, box25, zeroB, z25', build25, splice]
    rw [key, enc_zero]
    simp [fnOut, retOut, resD, retsD, retD, oneD, D.noRefs, D.noRef, alone, Hp.cut, zeroB]
  | true =>
    rw [hs] at h1
    cases hv : b.isSet with
    | false =>
      rw [hv] at h2
      have key : E false ⟨0, 0⟩ 35 code35 (mkF 0 [.p (enc a), .p (enc b)]) H00 = some (.ret, [(4, .ptr 2 0), (5, .p (.int .i64 2))], ⟨[box25 a, box25 b, zeroB], []⟩) := by
        simp [code35, Tryz.f35, h1, h2, box25, zeroB, z25', build25, splice]
      rw [key, enc_zero]
      simp [fnOut, retOut, resD, retsD, retD, oneD, D.noRefs, D.noRef, alone, Hp.cut, zeroB]
    | true =>
      rw [hv] at h2
      obtain ⟨va, _⟩ := isSet_valid hs
      obtain ⟨p1, p2, _⟩ := valid_parts va
      have la := valid_len va
      have na := (valid_fine va).2
      have ea := nodes_eq a
      have h89 := fun H => kept89_W a b true H
      have h88 := collect88_W [box25 a, box25 b, zeroB, box25 a, box25 b, .cells [.p (.bool true)]] 3 4 5 a b true (by omega) p1 (by simp [box25, zeroB, blkNo, D.noRefs, D.noRef]) (by simp [box25, zeroB, blkNo, D.noRefs, D.noRef]) (h90_of va hv) rfl ⟨rfl, rfl⟩
      have h4 := fun H => made_W (keepL a.ps b.ps true) (by have := nodesL_keep a.ps b.ps true; omega) H
      simp only [box25, zeroB, clo] at h89 h88
      unfold Made at h4 ⊢
      cases hf : (setV (keepL a.ps b.ps true)).fits with
      | true =>
        simp only [hf, if_true] at h4
        rw [enc_set] at h4
        have key : ∃ B, E false ⟨0, 0⟩ 35 code35 (mkF 0 [.p (enc a), .p (enc b)]) H00 = some (.ret, [(4, .ptr 2 0), (5, .p (.int .i64 0))], ⟨box25 a :: box25 b :: box25 (setV (keepL a.ps b.ps true)) :: B, []⟩) :=
          ⟨_, by simp [code35, Tryz.f35, h1, h2, h89, h88, h4, box25, z25', splice]; rfl⟩
        obtain ⟨B, key⟩ := key
        rw [key, fin1]; simp
      | false =>
        simp only [hf, Bool.false_eq_true, if_false] at h4
        rw [enc_zero] at h4
        have key : ∃ B, E false ⟨0, 0⟩ 35 code35 (mkF 0 [.p (enc a), .p (enc b)]) H00 = some (.ret, [(4, .ptr 2 0), (5, .p (.int .i64 3))], ⟨box25 a :: box25 b :: box25 Val.zero :: B, []⟩) := by
          rw [zb]
          exact ⟨_, by simp [code35, Tryz.f35, h1, h2, h89, h88, h4, box25, z25', splice]; rfl⟩
        obtain ⟨B, key⟩ := key
        rw [key, fin1]; simp
theorem minus35_W (a b : Val) (H : Hp) : W 36 [.p (enc a), .p (enc b)] H = some (.ret (.tup (if (a.isSet && b.isSet) = true then Made (keepL a.ps b.ps false) else [.p (enc Val.zero), .p (.int .i64 2)])), H) := by
  refine W36_of rfl (by simp) ?_
  have h1 := fun H => isSet85_W a H
  have h2 := fun H => isSet85_W b H
  have fin1 : ∀ (x : Val) (y : Int) (B : List Blk), alone H (fnOut Tryz.prog [.cell 4 25, .tmp 5] 0 0 (some (.ret, [(4, .ptr 2 0), (5, .p (.int .i64 y))], ⟨box25 a :: box25 b :: box25 x :: B, []⟩))) = some (.ret (.tup [.p (enc x), .p (.int .i64 y)]), H) := fun x y B => by
    rw [enc_eq x]
    simp [fnOut, retOut, resD, look, retsD, retD, argD, D.nf, D.pd?, oneD, D.noRefs, D.noRef, alone, Hp.cut, box25]
  have zb : box25 Val.zero = .cells [.p (.int .i64 0), .p (.int .i64 0), .p (.str ⟨#[]⟩), .p (.sl [])] := rfl
  cases hs : a.isSet with
  | false =>
    rw [hs] at h1
    have key : E false ⟨0, 0⟩ 36 code36 (mkF 0 [.p (enc a), .p (enc b)]) H00 = some (.ret, [(4, .ptr 2 0), (5, .p (.int .i64 2))], ⟨[box25 a, box25 b, zeroB], []⟩) := by
      simp [code36, Tryz.f36, h1, box25, zeroB, z25', build25, splice]
    rw [key, enc_zero]
    simp [fnOut, retOut, resD, retsD, retD, oneD, D.noRefs, D.noRef, alone, Hp.cut, zeroB]
  | true =>
    rw [hs] at h1
    cases hv : b.isSet with
    | false =>
      rw [hv] at h2
      have key : E false ⟨0, 0⟩ 36 code36 (mkF 0 [.p (enc a), .p (enc b)]) H00 = some (.ret, [(4, .ptr 2 0), (5, .p (.int .i64 2))], ⟨[box25 a, box25 b, zeroB], []⟩) := by
        simp [code36, Tryz.f36, h1, h2, box25, zeroB, z25', build25, splice]
      rw [key, enc_zero]
      simp [fnOut, retOut, resD, retsD, retD, oneD, D.noRefs, D.noRef, alone, Hp.cut, zeroB]
    | true =>
      rw [hv] at h2
      obtain ⟨va, _⟩ := isSet_valid hs
      obtain ⟨p1, p2, _⟩ := valid_parts va
      have la := valid_len va
      have na := (valid_fine va).2
      have ea := nodes_eq a
      have h89 := fun H => kept89_W a b false H
      have h88 := collect88_W [box25 a, box25 b, zeroB, box25 a, box25 b, .cells [.p (.bool false)]] 3 4 5 a b false (by omega) p1 (by simp [box25, zeroB, blkNo, D.noRefs, D.noRef]) (by simp [box25, zeroB, blkNo, D.noRefs, D.noRef]) (h90_of va hv) rfl ⟨rfl, rfl⟩
      have h4 := fun H => made_W (keepL a.ps b.ps false) (by have := nodesL_keep a.ps b.ps false; omega) H
      simp only [box25, zeroB, clo] at h89 h88
      unfold Made at h4 ⊢
      cases hf : (setV (keepL a.ps b.ps false)).fits with
      | true =>
        simp only [hf, if_true] at h4
        rw [enc_set] at h4
        have key : ∃ B, E false ⟨0, 0⟩ 36 code36 (mkF 0 [.p (enc a), .p (enc b)]) H00 = some (.ret, [(4, .ptr 2 0), (5, .p (.int .i64 0))], ⟨box25 a :: box25 b :: box25 (setV (keepL a.ps b.ps false)) :: B, []⟩) :=
          ⟨_, by simp [code36, Tryz.f36, h1, h2, h89, h88, h4, box25, z25', splice]; rfl⟩
        obtain ⟨B, key⟩ := key
        rw [key, fin1]; simp
      | false =>
        simp only [hf, Bool.false_eq_true, if_false] at h4
        rw [enc_zero] at h4
        have key : ∃ B, E false ⟨0, 0⟩ 36 code36 (mkF 0 [.p (enc a), .p (enc b)]) H00 = some (.ret, [(4, .ptr 2 0), (5, .p (.int .i64 3))], ⟨box25 a :: box25 b :: box25 Val.zero :: B, []⟩) := by
          rw [zb]
          exact ⟨_, by simp [code36, Tryz.f36, h1, h2, h89, h88, h4, box25, z25', splice]; rfl⟩
        obtain ⟨B, key⟩ := key
        rw [key, fin1]; simp

/-! ### Within -/
/-- One who stops at the first value. -/
structure Taker1 (b : Val) (is : Bool) (y cb ci nB nA : Nat) (I J : Hp → Prop) : Prop where
  caps : ∀ H, I H → Caps b is cb ci H.B
  cut : ∀ H, I H → (H.B.take nB).all (blkNo nB nA) = true → I (H.cut nB nA)
  cutJ : ∀ H, J H → (H.B.take nB).all (blkNo nB nA) = true → J (H.cut nB nA)
  add : ∀ H u, I H → I ⟨H.B ++ [box25 u], H.A⟩
  take : ∀ H u, I H → ∃ H1, W (1000000000 + y) [.p (enc u)] ⟨H.B ++ [box25 u], H.A⟩ = some (.ret (.p (.bool false)), H1) ∧ J H1

theorem loop129_one (y cb ci nB nA : Nat) (b : Val) (is : Bool) (l : List Val) (hlen : l.length ≤ 1000000) (I J : Hp → Prop) (tk : Taker1 b is y cb ci nB nA I J)
    (h90 : ∀ u ∈ l, ∀ H, W 91 [.p (.sl (b.ps.map enc)), .p (enc u)] H = some (.ret (.p (.bool (inL u b.ps))), H)) : ∀ (m i : Nat) (F : Fr) (H : Hp), m = l.length - i → i ≤ l.length → I H → norm [0, 2, 3, 8, 9, 10] F = fr129 y cb ci l i →
    (keepL (l.drop i) b.ps is = [] ∧ ∃ H1, loopO false ⟨0, 0⟩ 130 lp130_0 nB nA F H = some (.exit 0, fr129 y cb ci l l.length ++ [(11, .p (.bool false))], H1) ∧ I H1) ∨
    (keepL (l.drop i) b.ps is ≠ [] ∧ ∃ F1 H1, loopO false ⟨0, 0⟩ 130 lp130_0 nB nA F H = some (.ret, F1, H1) ∧ J H1) := by
  have hcut : ∀ F H, I H → ∃ H0, cutD ⟨0, 0⟩ [0, 2, 3, 8, 9, 10] nB nA F H = some (norm [0, 2, 3, 8, 9, 10] F, H0) ∧ I H0 := fun F H hI => by
    unfold cutD
    split
    · rename_i hc
      exact ⟨_, rfl, tk.cut H hI hc.2⟩
    · exact ⟨_, rfl, hI⟩
  intro m
  induction m with
  | zero =>
    intro i F H hm hi hI hF
    have hie : i = l.length := by omega
    subst hie
    obtain ⟨H0, hc, hI0⟩ := hcut F H hI
    refine .inl ⟨by simp [keepL], H0, ?_, hI0⟩
    rw [loopO_eq, hd130_0, hc, hF]
    simp only [body129_end]
  | succ m ih =>
    intro i F H hm hi hI hF
    have hlt : i < l.length := by omega
    obtain ⟨H0, hc, hI0⟩ := hcut F H hI
    have h9 := h90 l[i] (List.getElem_mem hlt)
    rw [loopO_eq, hd130_0, hc, hF, List.drop_eq_getElem_cons hlt, keepL_cons]
    by_cases he : inL l[i] b.ps = is
    · obtain ⟨H1, hy, hJ⟩ := tk.take H0 l[i] hI0
      obtain ⟨F1, hn⟩ := body129_no y cb ci b is l i H0.B H0.A hlt (by omega) (tk.caps H0 hI0) _ (by simp [he]) h9 H1 hy
      refine .inr ⟨by rw [if_pos he]; simp, F1, H1, ?_, hJ⟩
      simp only [hn]
    · simp only [body129_skip y cb ci b is l i H0.B H0.A hlt (by omega) (tk.caps H0 hI0) _ (by simp [he]) h9, if_neg he]
      exact ih (i + 1) (fr129 y cb ci l (i + 1)) _ (by omega) (by omega) (tk.add H0 l[i] hI0) rfl

theorem kept129_one (y ca cb ci : Nat) (a b : Val) (is : Bool) (H : Hp) (hlen : a.ps.length ≤ 1000000) (I J : Hp → Prop) (tk : Taker1 b is y cb ci H.B.length H.A.length I J)
    (h90 : ∀ u ∈ a.ps, ∀ H, W 91 [.p (.sl (b.ps.map enc)), .p (enc u)] H = some (.ret (.p (.bool (inL u b.ps))), H)) (ha : H.B[ca]? = some (box25 a)) (hI : I H) :
    ∃ d H1, W 130 [.yld y, .ptr ca 0, .ptr cb 0, .ptr ci 0] H = some (.ret d, H1) ∧ ((keepL a.ps b.ps is = [] ∧ I H1) ∨ (keepL a.ps b.ps is ≠ [] ∧ J H1)) := by
  have h00 : ((0 : Nat) : Int) = 0 := rfl
  have hloop0 := loop129_one y cb ci H.B.length H.A.length b is a.ps hlen I J tk h90 a.ps.length 0 (fr129 y cb ci a.ps 0) H rfl (Nat.zero_le _) hI rfl
  rw [List.drop_zero] at hloop0
  simp only [box25] at ha
  rcases hloop0 with ⟨he, H1, hloop, hI1⟩ | ⟨he, F1, H1, hloop, hI1⟩
  · have key : ∃ F, E false ⟨0, 0⟩ 130 code130 (mkF 0 [.yld y, .ptr ca 0, .ptr cb 0, .ptr ci 0]) H = some (.normal, F, H1) := by
      simp only [lp130_0, code130, Tryz.f130, fr129, h00] at hloop
      exact ⟨_, by simp [code130, Tryz.f130, ha, hloop]; rfl⟩
    obtain ⟨F, key⟩ := key
    by_cases hc : (H1.B.take H.B.length).all (blkNo H.B.length H.A.length) = true
    · refine ⟨oneD [], H1.cut H.B.length H.A.length, W130_ofH (by rintro ⟨_, h⟩; simp [D.noRef] at h) (by simp) ?_, .inl ⟨he, tk.cut _ hI1 hc⟩⟩
      rw [key]
      simp only [fnOut, retOut, resD, retsD]
      rw [if_pos ⟨rfl, hc⟩]
    · refine ⟨oneD [], H1, W130_ofH (by rintro ⟨_, h⟩; simp [D.noRef] at h) (by simp) ?_, .inl ⟨he, hI1⟩⟩
      rw [key]
      simp only [fnOut, retOut, resD, retsD]
      rw [if_neg (fun h => hc h.2)]
  · have key : ∃ F, E false ⟨0, 0⟩ 130 code130 (mkF 0 [.yld y, .ptr ca 0, .ptr cb 0, .ptr ci 0]) H = some (.ret, F, H1) := by
      simp only [lp130_0, code130, Tryz.f130, fr129, h00] at hloop
      exact ⟨_, by simp [code130, Tryz.f130, ha, hloop]; rfl⟩
    obtain ⟨F, key⟩ := key
    by_cases hc : (H1.B.take H.B.length).all (blkNo H.B.length H.A.length) = true
    · refine ⟨oneD [], H1.cut H.B.length H.A.length, W130_ofH (by rintro ⟨_, h⟩; simp [D.noRef] at h) (by simp) ?_, .inr ⟨he, tk.cutJ _ hI1 hc⟩⟩
      rw [key]
      simp only [fnOut, retOut, resD, retsD]
      rw [if_pos ⟨rfl, hc⟩]
    · refine ⟨oneD [], H1, W130_ofH (by rintro ⟨_, h⟩; simp [D.noRef] at h) (by simp) ?_, .inr ⟨he, hI1⟩⟩
      rw [key]
      simp only [fnOut, retOut, resD, retsD]
      rw [if_neg (fun h => hc h.2)]
end Go.Vi
end

section
/- Vi: value.Within (f36). No conditions. -/
namespace Go.Vi
open Go Go.Lib Go.Proofs
set_option maxRecDepth 100000
attribute [local simp] E_skip E_ret E_exit E_text E_draw E_seq E_cond E_block E_scope E_loop runOps runOp runDraw runVF runV finV gate FlOK wantD exec fin opd look putF norm constD constC fieldAddrD loadD storeD opCall lenD binD isShift intP strP numD indexAddrD indexD D.pd? D.pds? cells_enc sub capsOf callD argsD argD D.nf enc_agg unP box_enc cellD mkF H00 st1 cD_agg cD_pagg cD_int cD_bool cD_str cD_sl cD_lit cD_own

noncomputable def bo36 : Code := match code37 with | .seq _ (.seq _ (.seq (.seq _ (.block _ (.rangeFunc _ _ _ b))) _)) => b | c => c
theorem ok36 : okD ch 37 bo36 = true := by kernel_rfl
def F36 : Fr := [(4, .ptr 2 0), (5, .ptr 3 0), (16, clo 4 5 6)]
noncomputable def lpW (st : LoopState) (pend : Option Code) : Blk := .lp st pend 37 F36 #[17] .skip bo36
def P36 (a b : Val) : List Blk := [box25 a, box25 b, .cells [.p (.bool false)], .cells [.p (.int .i64 0)], box25 a, box25 b, .cells [.p (.bool false)]]
def I36 (a b : Val) (st : LoopState) (pend : Option Code) (H : Hp) : Prop := ∃ G, H = ⟨P36 a b ++ lpW st pend :: G, []⟩

theorem body36 (m : Mk) (a b : Val) (st : LoopState) (pend : Option Code) (d : D) (G : List Blk) :
    E false m 37 bo36 ((17, d) :: F36) ⟨P36 a b ++ lpW st pend :: G, []⟩ = some (.ret, [(4, .ptr 2 0), (5, .ptr 3 0)], ⟨P36 a b ++ lpW st pend :: G, []⟩) := by
  simp [bo36, code37, Tryz.f37, F36, P36, splice]

theorem round36_W (a b : Val) (u : Val) (G : List Blk) : ∃ H1, W (1000000000 + 7) [.p (enc u)] ⟨P36 a b ++ lpW .ready none :: G, []⟩ = some (.ret (.p (.bool false)), H1) ∧ I36 a b .done (some .ret) H1 := by
  have hr : ∃ H1, rndFin (P36 a b ++ lpW .ready none :: G).length 0 (some .ret) ⟨P36 a b ++ lpW .done (some .ret) :: G, []⟩ = some (.ret (.p (.bool false)), H1) ∧ I36 a b .done (some .ret) H1 := by
    unfold rndFin
    split
    · refine ⟨_, rfl, G, ?_⟩
      simp only [Hp.cut]
      rw [List.take_of_length_le (by simp)]; rfl
    · exact ⟨_, rfl, G, rfl⟩
  obtain ⟨H1, hr, hJ⟩ := hr
  refine ⟨H1, calW_of ?_, hJ⟩
  rw [← hr]
  unfold calF
  rw [if_pos (show YB ≤ 1000000000 + 7 from Nat.le_add_right _ _), show 1000000000 + 7 - YB = 7 from rfl]
  unfold evalRound rndRun
  have g : ∀ st p, (P36 a b ++ lpW st p :: G)[7]? = some (lpW st p) := fun st p => rfl
  have g2 : ∀ st p x, (P36 a b ++ lpW st p :: G).set 7 x = P36 a b ++ x :: G := fun st p x => rfl
  simp only [g]
  simp only [lpW]
  rw [if_pos ⟨rfl, rfl, ok36⟩]
  have hm : hn.mutF 37 = false := rfl
  rw [hm]
  rw [show evalC Tryz.prog hn ch false ⟨7 + 1, 0⟩ (calW Tryz.prog hn ch others) 37 .skip (putL #[17].toList [.p (enc u)] F36) ⟨P36 a b ++ .lp .ready none 37 F36 #[17] .skip bo36 :: G, []⟩ = some (.normal, (17, .p (enc u)) :: F36, ⟨P36 a b ++ .lp .ready none 37 F36 #[17] .skip bo36 :: G, []⟩) from rfl]
  have g' := g .ready none
  have g2' := g2 .ready none
  simp only [lpW] at g' g2'
  simp only [g', g2']
  have hb := body36 ⟨8, 0⟩ a b .busy none (.p (enc u)) G
  simp only [lpW] at hb
  rw [show evalC Tryz.prog hn ch false ⟨7 + 1, 0⟩ (calW Tryz.prog hn ch others) 37 bo36 ((17, .p (enc u)) :: F36) ⟨P36 a b ++ .lp .busy none 37 F36 #[17] .skip bo36 :: G, []⟩ = _ from hb]
  simp only [rndOut]
  unfold rndEnd
  have g3 := g .busy none
  have g4 := g2 .busy none
  simp only [lpW] at g3 g4
  simp only [g3, g4]
  rfl

theorem cutP (a b : Val) (x : Blk) (G : List Blk) : (P36 a b ++ x :: G).take 8 = P36 a b ++ [x] := rfl
theorem taker36 (a b : Val) : Taker1 b false 7 5 6 8 0 (I36 a b .ready none) (I36 a b .done (some .ret)) where
  caps := fun H ⟨G, h⟩ => by subst h; exact ⟨rfl, rfl⟩
  cut := fun H ⟨G, h⟩ _ => by subst h; exact ⟨[], rfl⟩
  cutJ := fun H ⟨G, h⟩ _ => by subst h; exact ⟨[], rfl⟩
  add := fun H u ⟨G, h⟩ => by subst h; exact ⟨G ++ [box25 u], rfl⟩
  take := fun H u ⟨G, h⟩ => by
    subst h
    have := round36_W a b u (G ++ [box25 u])
    exact this

theorem z4' : zeroOf Tryz.prog 4 = some (.bool false) := by kernel_rfl
theorem z29 : zeroOf Tryz.prog 29 = some (.int .i64 0) := by kernel_rfl
theorem within36_W (a b : Val) (H : Hp) : W 37 [.p (enc a), .p (enc b)] H = some (.ret (.tup (if (a.isSet && b.isSet) = true then [.p (.bool (decide ((keepL a.ps b.ps false).length = 0))), .p (.int .i64 0)] else [.p (.bool false), .p (.int .i64 2)])), H) := by
  refine W37_of rfl (by simp) ?_
  have h1 := fun H => isSet85_W a H
  have h2 := fun H => isSet85_W b H
  have fin1 : ∀ (x : Bool) (y : Int) (F : Fr) (B : List Blk) (A : List Arr), alone H (fnOut Tryz.prog [.cell 4 4, .cell 5 29] 0 0 (some (.ret, (4, .ptr 2 0) :: (5, .ptr 3 0) :: F, ⟨box25 a :: box25 b :: .cells [.p (.bool x)] :: .cells [.p (.int .i64 y)] :: B, A⟩))) = some (.ret (.tup [.p (.bool x), .p (.int .i64 y)]), H) := fun x y F B A => by
    simp [fnOut, retOut, resD, look, retsD, retD, argD, D.nf, D.pd?, oneD, D.noRefs, D.noRef, alone, Hp.cut]
  cases hs : a.isSet with
  | false =>
    rw [hs] at h1
    have key : E false ⟨0, 0⟩ 37 code37 (mkF 0 [.p (enc a), .p (enc b)]) H00 = some (.ret, [(4, .ptr 2 0), (5, .ptr 3 0)], ⟨[box25 a, box25 b, .cells [.p (.bool false)], .cells [.p (.int .i64 2)]], []⟩) := by
      simp [code37, Tryz.f37, h1, box25, splice, z4', z29]
    rw [key, fin1]; simp
  | true =>
    rw [hs] at h1
    cases hv : b.isSet with
    | false =>
      rw [hv] at h2
      have key : E false ⟨0, 0⟩ 37 code37 (mkF 0 [.p (enc a), .p (enc b)]) H00 = some (.ret, [(4, .ptr 2 0), (5, .ptr 3 0)], ⟨[box25 a, box25 b, .cells [.p (.bool false)], .cells [.p (.int .i64 2)]], []⟩) := by
        simp [code37, Tryz.f37, h1, h2, box25, splice, z4', z29]
      rw [key, fin1]; simp
    | true =>
      rw [hv] at h2
      obtain ⟨va, _⟩ := isSet_valid hs
      have la := valid_len va
      have h89 := fun H => kept89_W a b false H
      obtain ⟨d, H1, h129, hI⟩ := kept129_one 7 4 5 6 a b false ⟨P36 a b ++ [lpW .ready none], []⟩ (by omega) (I36 a b .ready none) (I36 a b .done (some .ret)) (taker36 a b) (h90_of va hv) rfl ⟨[], rfl⟩
      rcases hI with ⟨he, G, rfl⟩ | ⟨he, G, rfl⟩
      · have g1 : (P36 a b ++ lpW .ready none :: G)[7]? = some (lpW .ready none) := rfl
        have hd : decide ((keepL a.ps b.ps false).length = 0) = true := by rw [he]; rfl
        simp only [lpW, bo36, code37, Tryz.f37, F36, clo, P36, box25, List.cons_append, List.nil_append] at h129 g1
        simp only [box25] at h89
        have key : ∃ F B, E false ⟨0, 0⟩ 37 code37 (mkF 0 [.p (enc a), .p (enc b)]) H00 = some (.ret, (4, .ptr 2 0) :: (5, .ptr 3 0) :: F, ⟨box25 a :: box25 b :: .cells [.p (.bool true)] :: .cells [.p (.int .i64 0)] :: B, []⟩) :=
          ⟨_, _, by simp [code37, Tryz.f37, h1, h2, h89, h129, box25, splice, z4', z29, E_range, rangeD, okRi, endLp, jumpD, g1]; exact ⟨rfl, rfl⟩⟩
        obtain ⟨F, B, key⟩ := key
        rw [key, fin1, hd]; simp
      · have g1 : (P36 a b ++ lpW .done (some .ret) :: G)[7]? = some (lpW .done (some .ret)) := rfl
        have hd : decide ((keepL a.ps b.ps false).length = 0) = false := by
          rw [decide_eq_false_iff_not, List.length_eq_zero_iff]; exact he
        simp only [lpW, bo36, code37, Tryz.f37, F36, clo, P36, box25, List.cons_append, List.nil_append] at h129 g1
        simp only [box25] at h89
        have key : ∃ F B, E false ⟨0, 0⟩ 37 code37 (mkF 0 [.p (enc a), .p (enc b)]) H00 = some (.ret, (4, .ptr 2 0) :: (5, .ptr 3 0) :: F, ⟨box25 a :: box25 b :: .cells [.p (.bool false)] :: .cells [.p (.int .i64 0)] :: B, []⟩) :=
          ⟨_, _, by simp [code37, Tryz.f37, h1, h2, h89, h129, box25, splice, z4', z29, E_range, rangeD, okRi, endLp, jumpD, g1]; exact ⟨rfl, rfl⟩⟩
        obtain ⟨F, B, key⟩ := key
        rw [key, fin1, hd]; simp
end Go.Vi
end

section
/- Vi: the union as the program makes it, and as the specification does, are one list. No conditions. -/
namespace Go.Vi
open Go Go.Lib Go.Proofs

def Up (l : List Val) : Prop := l.Pairwise fun x y => x.cmp y < 0
def Shp (l : List Val) : Prop := ∀ u ∈ l, u.shaped = true
theorem up_incr {l : List Val} : Up l ↔ Incr l := by
  unfold Up Incr
  rw [List.pairwise_iff_getElem]
theorem cmp_self {v : Val} (h : v.shaped = true) : v.cmp v = 0 := (cmp_zero v v h h).2 rfl

theorem up_ext : ∀ (l m : List Val), Shp l → Shp m → Up l → Up m → (∀ x, x ∈ l ↔ x ∈ m) → l = m
  | [], [], _, _, _, _, _ => rfl
  | [], u :: s, _, _, _, _, h => by have := (h u).2 (by simp); simp at this
  | v :: r, [], _, _, _, _, h => by have := (h v).1 (by simp); simp at this
  | v :: r, u :: s, hl, hm, pl, pm, h => by
    have sv := hl v (by simp)
    have su := hm u (by simp)
    obtain ⟨p1, p2⟩ := List.pairwise_cons.1 pl
    obtain ⟨q1, q2⟩ := List.pairwise_cons.1 pm
    have e : v = u := by
      rcases List.mem_cons.1 ((h v).1 (by simp)) with e | hv
      · exact e
      · rcases List.mem_cons.1 ((h u).2 (by simp)) with e | hu
        · exact e.symm
        · have h1 := p1 u hu
          have h2 := q1 v hv
          rw [cmp_anti u v su sv] at h2
          omega
    subst e
    have e2 : r = s := up_ext r s (fun x hx => hl x (by simp [hx])) (fun x hx => hm x (by simp [hx])) p2 q2 fun x => by
      constructor
      · intro hx
        rcases List.mem_cons.1 ((h x).1 (by simp [hx])) with e | hx2
        · subst e; have := p1 x hx; rw [cmp_self sv] at this; omega
        · exact hx2
      · intro hx
        rcases List.mem_cons.1 ((h x).2 (by simp [hx])) with e | hx2
        · subst e; have := q1 x hx; rw [cmp_self sv] at this; omega
        · exact hx2
    rw [e2]

theorem mg_up : ∀ (a b : List Val), Shp a → Shp b → Up a → Up b → Up (mg a b) ∧ ∀ x, x ∈ mg a b ↔ x ∈ a ∨ x ∈ b := by
  intro a b
  fun_induction mg a b with
  | case1 m => intro _ _ _ hb; exact ⟨hb, by simp⟩
  | case2 v r => intro _ _ ha _; exact ⟨ha, by simp⟩
  | case3 v r u s h ih =>
    intro ha hb pa pb
    obtain ⟨p1, p2⟩ := List.pairwise_cons.1 pa
    obtain ⟨q1, q2⟩ := List.pairwise_cons.1 pb
    obtain ⟨i1, i2⟩ := ih (fun x hx => ha x (by simp [hx])) hb p2 pb
    refine ⟨List.pairwise_cons.2 ⟨fun x hx => ?_, i1⟩, fun x => by rw [List.mem_cons, i2, List.mem_cons]; simp [or_assoc]⟩
    rcases (i2 x).1 hx with hx | hx
    · exact p1 x hx
    · rcases List.mem_cons.1 hx with e | hx
      · rw [e]; exact h
      · exact cmp_trans v u x (ha v (by simp)) (hb u (by simp)) (hb x (by simp [hx])) h (q1 x hx)
  | case4 v r u s h h0 ih =>
    intro ha hb pa pb
    obtain ⟨p1, p2⟩ := List.pairwise_cons.1 pa
    obtain ⟨q1, q2⟩ := List.pairwise_cons.1 pb
    obtain rfl := (cmp_zero v u (ha v (by simp)) (hb u (by simp))).1 h0
    obtain ⟨i1, i2⟩ := ih (fun x hx => ha x (by simp [hx])) (fun x hx => hb x (by simp [hx])) p2 q2
    refine ⟨List.pairwise_cons.2 ⟨fun x hx => ?_, i1⟩, fun x => by
      rw [List.mem_cons, i2, List.mem_cons, List.mem_cons]
      constructor
      · rintro (h | h | h) <;> simp [h]
      · rintro ((h | h) | h | h) <;> simp [h]⟩
    rcases (i2 x).1 hx with hx | hx
    · exact p1 x hx
    · exact q1 x hx
  | case5 v r u s h h0 ih =>
    intro ha hb pa pb
    have sv := ha v (by simp)
    have su := hb u (by simp)
    obtain ⟨p1, p2⟩ := List.pairwise_cons.1 pa
    obtain ⟨q1, q2⟩ := List.pairwise_cons.1 pb
    obtain ⟨i1, i2⟩ := ih ha (fun x hx => hb x (by simp [hx])) pa q2
    have hlt : u.cmp v < 0 := by rw [cmp_anti u v su sv]; omega
    refine ⟨List.pairwise_cons.2 ⟨fun x hx => ?_, i1⟩, fun x => by
      rw [List.mem_cons, i2, List.mem_cons, List.mem_cons]
      constructor
      · rintro (h | (h | h) | h) <;> simp [h]
      · rintro ((h | h) | h | h) <;> simp [h]⟩
    rcases (i2 x).1 hx with hx | hx
    · rcases List.mem_cons.1 hx with e | hx
      · rw [e]; exact hlt
      · exact cmp_trans u v x su sv (ha x (by simp [hx])) hlt (p1 x hx)
    · exact q1 x hx

theorem withL_cons (u v : Val) (r : List Val) : withL (u :: r) v = if u.cmp v < 0 then u :: withL r v else if u.cmp v = 0 then u :: r else v :: u :: r := by
  by_cases h : u.cmp v < 0
  · have e : kP v (u :: r) = kP v r + 1 := by simp [kP, h]
    rw [if_pos h]
    unfold withL
    simp only [e, List.length_cons, Nat.add_lt_add_iff_right, List.getElem_cons_succ, List.take_succ_cons, List.drop_succ_cons, List.cons_append]
    split
    · split <;> rfl
    · rfl
  · have e : kP v (u :: r) = 0 := by simp [kP, h]
    rw [if_neg h]
    unfold withL
    simp [e]
theorem withL_nil (v : Val) : withL [] v = [v] := by simp [withL, kP]

theorem withL_up : ∀ (l : List Val) (v : Val), Shp l → v.shaped = true → Up l → Up (withL l v) ∧ ∀ x, x ∈ withL l v ↔ x ∈ l ∨ x = v
  | [], v, _, _, _ => by rw [withL_nil]; exact ⟨List.pairwise_singleton _ _, by simp⟩
  | u :: r, v, hl, sv, pl => by
    rw [withL_cons]
    have su := hl u (by simp)
    obtain ⟨p1, p2⟩ := List.pairwise_cons.1 pl
    by_cases h : u.cmp v < 0
    · rw [if_pos h]
      obtain ⟨i1, i2⟩ := withL_up r v (fun x hx => hl x (by simp [hx])) sv p2
      refine ⟨List.pairwise_cons.2 ⟨fun x hx => ?_, i1⟩, fun x => by rw [List.mem_cons, i2, List.mem_cons]; simp [or_assoc]⟩
      rcases (i2 x).1 hx with hx | e
      · exact p1 x hx
      · rw [e]; exact h
    · rw [if_neg h]
      by_cases h0 : u.cmp v = 0
      · rw [if_pos h0]
        obtain rfl := (cmp_zero u v su sv).1 h0
        exact ⟨pl, fun x => by simp only [List.mem_cons]; constructor; exact .inl; rintro (h | rfl); exact h; exact .inl rfl⟩
      · rw [if_neg h0]
        have hlt : v.cmp u < 0 := by rw [cmp_anti v u sv su]; omega
        refine ⟨List.pairwise_cons.2 ⟨fun x hx => ?_, pl⟩, fun x => by simp only [List.mem_cons]; constructor; rintro (h | h); exact .inr h; exact .inl h; rintro (h | h); exact .inr h; exact .inl h⟩
        rcases List.mem_cons.1 hx with e | hx
        · rw [e]; exact hlt
        · exact cmp_trans v u x sv su (hl x (by simp [hx])) hlt (p1 x hx)

theorem foldW_up : ∀ (l out : List Val), Shp out → Shp l → Up out → Up (foldW out l) ∧ Shp (foldW out l) ∧ ∀ x, x ∈ foldW out l ↔ x ∈ out ∨ x ∈ l
  | [], out, ho, _, po => ⟨po, ho, by simp [foldW]⟩
  | v :: r, out, ho, hl, po => by
    have sv := hl v (by simp)
    obtain ⟨i1, i2⟩ := withL_up out v ho sv po
    have so : Shp (withL out v) := fun x hx => by
      rcases (i2 x).1 hx with h | e
      · exact ho x h
      · rw [e]; exact sv
    obtain ⟨j1, j2, j3⟩ := foldW_up r (withL out v) so (fun x hx => hl x (by simp [hx])) i1
    refine ⟨j1, j2, fun x => ?_⟩
    show x ∈ foldW (withL out v) r ↔ _
    rw [j3, i2, List.mem_cons, or_assoc]

theorem union_same {a b : List Val} (ha : Shp a) (hb : Shp b) (pa : Up a) (pb : Up b) : foldW [] (a ++ b) = mg a b := by
  obtain ⟨i1, i2⟩ := mg_up a b ha hb pa pb
  obtain ⟨j1, j2, j3⟩ := foldW_up (a ++ b) [] (fun x hx => by cases hx) (fun x hx => by rcases List.mem_append.1 hx with h | h; exact ha x h; exact hb x h) List.Pairwise.nil
  refine up_ext _ _ j2 (fun x hx => ?_) j1 i1 fun x => by rw [j3, i2, List.mem_append]; simp
  rcases (i2 x).1 hx with h | h
  · exact ha x h
  · exact hb x h
end Go.Vi
end
