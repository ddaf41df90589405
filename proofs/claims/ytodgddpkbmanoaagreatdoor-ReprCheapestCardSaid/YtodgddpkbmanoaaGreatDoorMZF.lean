/- It is proved here what functions of the program's layer 11 and of its specification compute; conditions stand with each. All choices that are allowed. -/
import Derived.Test.YtodgddpkbmanoaaGreatDoorMZA
import Derived.Test.YtodgddpkbmanoaaGreatDoorMG
import Derived.Test.YtodgddpkbmanoaaGreatDoorMQB
import Derived.Test.YtodgddpkbmanoaaGreatDoorMPA
set_option linter.unusedVariables false
set_option linter.unusedSimpArgs false

section
/- Vi: layer 11: all choices: the closures, slices.IndexFunc of choices, slices.Clip. No conditions but those that stand with each. -/
namespace Go.Vi
open Go Go.Lib Go.Proofs
set_option maxRecDepth 100000
attribute [local simp] E_skip E_ret E_exit E_text E_draw E_seq E_cond E_block E_scope E_loop runOps runOp runDraw runVF runV finV gate FlOK wantD exec fin opd look putF norm constD constC fieldAddrD loadD storeD opCall lenD binD isShift intP strP numD indexAddrD indexD D.pd? D.pds? sub capsOf callD argsD argD D.nf unP cellD mkF H00 cD_agg cD_pagg cD_int cD_bool cD_str cD_sl cD_lit cells_encS cells_encU cells_encW cells_encR box_encU box_encW box_encR encU_agg encR_agg encW_agg cells_int one_int buildSliceD elsD splice
attribute [local simp] fnOut retOut resD retsD retD oneD D.noRefs D.noRef alone Hp.cut newRow Hp.live

theorem W_x {f : FuncId} (hf : f < YB) (hx : isX f = true) {args : List D} {H : Hp} {r : Out × Hp} (h : doesX W f args H = some r) : W f args H = some r := by
  refine calW_of ?_
  unfold calF
  rw [if_neg (Nat.not_le.2 hf), if_pos (show others.is f = true from hx)]
  exact h

section
variable (c : List Int) (x : Int × Int) (k : Nat) (B : List Blk) (A : List Arr) (hb : B[k]? = some (bL c)) (hnb : ∀ m n, B.all (blkNo m n) = true)
include hb hnb
theorem apart56_W (a0 : 0 ≤ x.1) (a1 : x.1.toNat < c.length) (b0 : 0 ≤ x.2) (b1 : x.2.toNat < c.length) :
    W 56 [.p (encW x), .ptr k 0] ⟨B, A⟩ = some (.ret (.p (.bool (!(c.getD x.1.toNat 0 == c.getD x.2.toNat 0)))), ⟨B, A⟩) := by
  refine W_ofH Tryz.func56 rfl (by kernel_rfl) rfl rfl rfl rfl (by simp [D.noRef, D.noRefs]) (by rw [Tryz.ntmps56]; simp) (c := code56) ?_
  have hk := (List.getElem?_eq_some_iff.1 hb).1
  rw [getD_at a1, getD_at b1]
  have hb2 : (B ++ [Blk.cells [.p (.int .i64 x.1), .p (.int .i64 x.2)]])[k]? = some (bL c) := by rw [List.getElem?_append_left hk]; exact hb
  simp only [bL] at hb2
  have key : evalC Tryz.prog hn ch (hn.mutF 56) ⟨0, 0⟩ W 56 code56 (mkF 0 [.p (encW x), .ptr k 0]) ⟨B, A⟩ = some (.ret, [(3, .p (.bool (!(c[x.1.toNat] == c[x.2.toNat]))))], ⟨B ++ [.cells [.p (.int .i64 x.1), .p (.int .i64 x.2)]], A⟩) := by
    show E _ _ _ _ _ _ = _
    by_cases h0 : c[x.1.toNat] = c[x.2.toNat]
    · simp [code56, Tryz.f56, hb2, a0, a1, b0, b1, h0]
    · simp [code56, Tryz.f56, hb2, a0, a1, b0, b1, h0]
  rw [key]
  have := hnb B.length A.length
  simp [rs56]
  intro y hy
  simpa using List.all_eq_true.1 this y hy
end

theorem all_snoc {B : List Blk} {b : Blk} (h : ∀ m n, B.all (blkNo m n) = true) (hb : ∀ m n, blkNo m n b = true) (m n : Nat) : (B ++ [b]).all (blkNo m n) = true := by
  rw [List.all_append, h m n]
  simp [hb m n]

theorem ok_idx {p : RProb} (hp : p.ok = true) {u : Int × Int} (hu : u ∈ p.same) : 0 ≤ u.1 ∧ u.1.toNat < p.sets.length ∧ 0 ≤ u.2 ∧ u.2.toNat < p.sets.length := by
  have hu' : pairOK p.sets.length u = true := by
    simp only [RProb.ok, Bool.and_eq_true, List.all_eq_true] at hp
    exact hp.2 u hu
  simp only [pairOK, inR, Bool.and_eq_true, decide_eq_true_eq] at hu'
  omega

section
variable (p : RProb) (hp : p.ok = true) (i : Nat) (B : List Blk) (A : List Arr) (hb : B[i]? = some (bR p)) (hnb : ∀ m n, B.all (blkNo m n) = true)
include hp hb hnb
theorem all54_W (c : List Int) (hc : c.length = p.sets.length) : W 54 [.p (.sl (c.map iP)), .ptr i 0] ⟨B, A⟩ = some (.ret (.p (.bool (!evens p c))), ⟨B, A⟩) := by
  refine W_ofH Tryz.func54 rfl (by kernel_rfl) rfl rfl rfl rfl (by simp [D.noRef, D.noRefs]) (by rw [Tryz.ntmps54]; simp) (c := code54) ?_
  have hk := (List.getElem?_eq_some_iff.1 hb).1
  have hb2 : (B ++ [bL c])[i]? = some (bR p) := by rw [List.getElem?_append_left hk]; exact hb
  obtain ⟨hf, h5, h30, h10, hfl⟩ := ok_fine hp
  have h55 := containsf89_W p.same 56 (by decide) rfl B.length (fun x => !(c.getD x.1.toNat 0 == c.getD x.2.toNat 0)) (by omega) (B ++ [bL c]) A (fun u hu => by
    obtain ⟨g1, g2, g3, g4⟩ := ok_idx hp hu
    exact apart56_W c u B.length (B ++ [bL c]) A (by simp) (all_snoc hnb fun m n => rfl) g1 (by omega) g3 (by omega))
  have e : p.same.any (fun x => !(c.getD x.1.toNat 0 == c.getD x.2.toNat 0)) = !evens p c := by unfold evens; rw [List.not_all_eq_any_not]
  rw [e] at h55
  simp only [bR, bL] at hb2 h55
  have key : evalC Tryz.prog hn ch (hn.mutF 54) ⟨0, 0⟩ W 54 code54 (mkF 0 [.p (.sl (c.map iP)), .ptr i 0]) ⟨B, A⟩ = some (.ret, [(3, .p (.bool (!evens p c)))], ⟨B ++ [bL c], A⟩) := by
    show E _ _ _ _ _ _ = _
    simp [code54, Tryz.f54, hb2, bL, h55, mkFn]
  rw [key]
  have := hnb B.length A.length
  simp [rs54]
  intro y hy
  simpa using List.all_eq_true.1 this y hy
end
end Go.Vi
end

section
/- Vi: layer 11: all choices: slices.IndexFunc of choices, slices.DeleteFunc, slices.Clip. No conditions but those that stand with each. -/
namespace Go.Vi
open Go Go.Lib Go.Proofs
set_option maxRecDepth 100000
attribute [local simp] E_skip E_ret E_exit E_text E_draw E_seq E_cond E_block E_scope E_loop runOps runOp runDraw runVF runV finV gate FlOK wantD exec fin opd look putF norm constD constC fieldAddrD loadD storeD opCall lenD binD isShift intP strP numD indexAddrD indexD D.pd? D.pds? sub capsOf callD argsD argD D.nf unP cellD mkF H00 cD_agg cD_pagg cD_int cD_bool cD_str cD_sl cD_lit cells_encS cells_encU cells_encW cells_encR box_encU box_encW box_encR encU_agg encR_agg encW_agg cells_int one_int buildSliceD elsD splice
attribute [local simp] fnOut retOut resD retsD retD oneD D.noRefs D.noRef alone Hp.cut newRow Hp.live one_sl cells_sl

def encC (c : List Int) : PD := .sl (c.map iP)
theorem cells_encC (c : List Int) : (encC c).cells = [.sl (c.map iP)] := rfl
def qC (p : RProb) (Cs : List (List Int)) (i : Nat) : Bool := evens p (Cs.getD i [])
def ixC (p : RProb) (Cs : List (List Int)) : Int := if Cs.all (evens p) = true then -1 else (ff (qC p Cs) Cs.length 0 : Nat)
theorem qc_all (p : RProb) (Cs : List (List Int)) : (List.range Cs.length).all (qC p Cs) = Cs.all (evens p) := range_all (evens p) [] Cs

theorem ixC_spec (p : RProb) (Cs : List (List Int)) : (ixC p Cs = -1 ∧ Cs.filter (evens p) = Cs) ∨ ∃ i, i < Cs.length ∧ ixC p Cs = i ∧ Cs.filter (evens p) = Cs.take i ++ (Cs.drop (i + 1)).filter (evens p) := by
  unfold ixC
  cases ha : Cs.all (evens p) with
  | true => exact .inl ⟨if_pos rfl, List.filter_eq_self.2 (List.all_eq_true.1 ha)⟩
  | false =>
    right
    rw [if_neg (by simp)]
    have h1 : (List.range' 0 Cs.length).all (qC p Cs) = false := by rw [← List.range_eq_range', qc_all, ha]
    obtain ⟨_, h2, h3, h4⟩ := ff_spec _ _ _ h1
    generalize ff (qC p Cs) Cs.length 0 = i at *
    have hi : i < Cs.length := by omega
    refine ⟨i, hi, rfl, ?_⟩
    have e : Cs = Cs.take i ++ (Cs[i] :: Cs.drop (i + 1)) := by rw [← List.drop_eq_getElem_cons hi, List.take_append_drop]
    have q : evens p Cs[i] = false := by
      have := h3
      unfold qC at this
      rwa [List.getD_eq_getElem?_getD, List.getElem?_eq_getElem hi] at this
    have t : (Cs.take i).filter (evens p) = Cs.take i := by
      rw [List.filter_eq_self]
      intro c hc
      obtain ⟨j, hj, rfl⟩ := List.getElem_of_mem hc
      rw [List.length_take] at hj
      have := h4 j (Nat.zero_le _) (by omega)
      unfold qC at this
      rw [List.getD_eq_getElem?_getD, List.getElem?_eq_getElem (by omega)] at this
      rw [List.getElem_take]
      exact this
    conv => lhs; rw [e]
    rw [List.filter_append, t, List.filter_cons_of_neg (by simp [q])]

theorem clip52_W (l : List PD) (hf : fits 1 l = true) (B : List Blk) (A : List Arr) : W 52 [.p (.sl l)] ⟨B, A⟩ = some (.ret (.clip l), ⟨B, A ++ [⟨0, 62, 1, true, true, []⟩]⟩) := by
  refine W52_ofO (by rintro ⟨h, _⟩; revert h; decide) (by simp) ?_
  have h0 : (0 : Int) ≤ l.length := by omega
  simp [code52, Tryz.f52, clipD, boundD, hf, fnOutO, h0]

section
variable (p : RProb) (hp : p.ok = true) (i : Nat) (B : List Blk) (hb : B[i]? = some (bR p)) (hnb : ∀ m n, B.all (blkNo m n) = true)
def frI92 (kk ver i : Nat) (Cs : List (List Int)) (j : Nat) : Fr := [(0, .own kk ver), (1, .fn 54 [.ptr i 0]), (7, .p (iP Cs.length)), (8, .p (iP j))]
include hp hb hnb
theorem index92_W (A : List Arr) (kk ver : Nat) (nl : Bool) (Cs : List (List Int)) (hA : A[kk]? = some ⟨ver, 53, 1, nl, false, Cs.map encC⟩) (hC : ∀ c ∈ Cs, c.length = p.sets.length) (hlen : Cs.length < 4611686018427387904) :
    W 92 [.own kk ver, .fn 54 [.ptr i 0]] ⟨B, A⟩ = some (.ret (.p (iP (ixC p Cs))), ⟨B, A⟩) := by
  refine W_ofH Tryz.func92 rfl (by kernel_rfl) rfl rfl rfl rfl (by simp [D.noRef, D.noRefs]) (by rw [Tryz.ntmps92]; simp) (c := code92) ?_
  have hloop := for_each (mu := false) (m := ⟨0, 0⟩) (f := 92) (c := lp92_0) (nB := B.length) (nA := A.length) hd92_0 Cs.length (frI92 kk ver i Cs) ⟨B, A⟩ (qC p Cs)
    (ex := (.exit 0, frI92 kk ver i Cs Cs.length ++ [(9, .p (.bool false))], ⟨B, A⟩)) (fun j => (.ret, [(4, .p (iP j))], ⟨B, A⟩)) (by simp) (by simp) (by simp [lp92_0, code92, Tryz.f92, frI92]) (fun j hj => by
      have hw : IntKind.i64.wrap ((j : Int) + 1) = (j : Int) + 1 := wrap64 (by omega) (by omega)
      have h1 := all54_W p hp i B A hb hnb Cs[j] (hC _ (List.getElem_mem hj))
      have hq : qC p Cs j = evens p Cs[j] := by unfold qC; rw [List.getD_eq_getElem?_getD, List.getElem?_eq_getElem hj]; rfl
      rw [hq]
      cases he : evens p Cs[j] with
      | true =>
        left
        rw [he] at h1
        exact ⟨rfl, frI92 kk ver i Cs (j + 1), ⟨B, A⟩, by simp [lp92_0, code92, Tryz.f92, frI92, hj, h1, hw, hA, cells_encC], by rw [show cutD ⟨0, 0⟩ [0, 1, 7, 8] B.length A.length (frI92 kk ver i Cs (j + 1)) ⟨B, A⟩ = some (norm [0, 1, 7, 8] (frI92 kk ver i Cs (j + 1)), ⟨B, A⟩) from cut_full _ _ _ ⟨B, A⟩]; rfl⟩
      | false =>
        right
        rw [he] at h1
        exact ⟨rfl, by simp [lp92_0, code92, Tryz.f92, frI92, hj, h1, hA, cells_encC]⟩)
    (F := frI92 kk ver i Cs 0) (H := ⟨B, A⟩) (by rw [show cutD ⟨0, 0⟩ [0, 1, 7, 8] B.length A.length (frI92 kk ver i Cs 0) ⟨B, A⟩ = some (norm [0, 1, 7, 8] (frI92 kk ver i Cs 0), ⟨B, A⟩) from cut_full _ _ _ ⟨B, A⟩]; rfl)
  rw [qc_all] at hloop
  have h00 : ((0 : Nat) : Int) = 0 := rfl
  simp only [lp92_0, code92, Tryz.f92, frI92, h00] at hloop
  have key : evalC Tryz.prog hn ch (hn.mutF 92) ⟨0, 0⟩ W 92 code92 (mkF 0 [.own kk ver, .fn 54 [.ptr i 0]]) ⟨B, A⟩ = some (.ret, [(4, .p (iP (ixC p Cs)))], ⟨B, A⟩) := by
    show E _ _ _ _ _ _ = _
    unfold ixC
    cases hc : Cs.all (evens p) with
    | true => rw [hc] at hloop; simp [code92, Tryz.f92, hloop, hA]
    | false => rw [hc] at hloop; simp [code92, Tryz.f92, hloop, hA]
  rw [key]
  simp [rs92]
end
end Go.Vi
end

section
/- Vi: layer 11: all choices: slices.DeleteFunc. No conditions but those that stand with each. -/
namespace Go.Vi
open Go Go.Lib Go.Proofs
set_option maxRecDepth 100000
attribute [local simp] E_skip E_ret E_exit E_text E_draw E_seq E_cond E_block E_scope E_loop runOps runOp runDraw runVF runV finV gate FlOK wantD exec fin opd look putF norm constD constC fieldAddrD loadD storeD opCall lenD binD isShift intP strP numD indexAddrD indexD D.pd? D.pds? sub capsOf callD argsD argD D.nf unP cellD mkF H00 cD_agg cD_pagg cD_int cD_bool cD_str cD_sl cD_lit cells_encS cells_encU cells_encW cells_encR box_encU box_encW box_encR encU_agg encR_agg encW_agg cells_int one_int buildSliceD elsD splice
attribute [local simp] fnOut retOut resD retsD retD oneD D.noRefs D.noRef alone Hp.cut newRow Hp.live one_sl cells_sl

def rwC (ver : Nat) (nl : Bool) (es : List (List Int)) : Arr := ⟨ver, 53, 1, nl, false, es.map encC⟩

section
variable (p : RProb) (hp : p.ok = true) (i : Nat) (B : List Blk) (hb : B[i]? = some (bR p)) (hnb : ∀ m n, B.all (blkNo m n) = true) (kk ver : Nat) (nl : Bool)
def frD53 (a j : Nat) : Fr := [(0, .own kk ver), (1, .fn 54 [.ptr i 0]), (5, .p (iP a)), (6, .p (iP j))]
theorem del53_end (A : List Arr) (es : List (List Int)) (hA : A[kk]? = some (rwC ver nl es)) (a : Nat) :
    E false ⟨0, 0⟩ 53 lp53_0 (frD53 i kk ver a es.length) ⟨B, A⟩ = some (.exit 0, frD53 i kk ver a es.length ++ [(19, .p (.bool false))], ⟨B, A⟩) := by
  simp only [rwC] at hA
  simp [lp53_0, code53, Tryz.f53, frD53, hA]
include hp hb hnb
theorem del53_step (A : List Arr) (es : List (List Int)) (hA : A[kk]? = some (rwC ver nl es)) (hC : ∀ c ∈ es, c.length = p.sets.length) (hlen : es.length < 4611686018427387904) (a j : Nat) (haj : a ≤ j) (hj : j < es.length) :
    E false ⟨0, 0⟩ 53 lp53_0 (frD53 i kk ver a j) ⟨B, A⟩ = some (if evens p es[j] = true then (.normal, frD53 i kk ver (a + 1) (j + 1), ⟨B, A.set kk (rwC ver nl (es.set a es[j]))⟩) else (.normal, frD53 i kk ver a (j + 1), ⟨B, A⟩)) := by
  have hw : IntKind.i64.wrap ((j : Int) + 1) = (j : Int) + 1 := wrap64 (by omega) (by omega)
  have hwa : IntKind.i64.wrap ((a : Int) + 1) = (a : Int) + 1 := wrap64 (by omega) (by omega)
  have h1 := all54_W p hp i B A hb hnb es[j] (hC _ (List.getElem_mem hj))
  have ha : a < es.length := by omega
  have hset : (es.set a es[j]).map encC = (es.map encC).set a (encC es[j]) := by rw [List.map_set]
  simp only [rwC] at hA ⊢
  cases he : evens p es[j] with
  | true =>
    rw [he] at h1
    simp only [if_true]
    rw [hset]
    simp [lp53_0, code53, Tryz.f53, frD53, hA, hj, ha, h1, hw, hwa, cells_encC, setEl, encC]
  | false =>
    rw [he] at h1
    simp [lp53_0, code53, Tryz.f53, frD53, hA, hj, h1, hw, cells_encC]

theorem del53_loop : ∀ (k : Nat) (A : List Arr) (es : List (List Int)) (a j : Nat), A[kk]? = some (rwC ver nl es) → (∀ c ∈ es, c.length = p.sets.length) → es.length < 4611686018427387904 → k = es.length - j → a ≤ j → j ≤ es.length →
    ∃ A' es' a', loopO false ⟨0, 0⟩ 53 lp53_0 B.length A.length (frD53 i kk ver a j) ⟨B, A⟩ = some (.exit 0, frD53 i kk ver a' es.length ++ [(19, .p (.bool false))], ⟨B, A'⟩) ∧ A'[kk]? = some (rwC ver nl es') ∧ A'.length = A.length ∧
      es'.length = es.length ∧ es'.take a' = es.take a ++ (es.drop j).filter (evens p) ∧ a' ≤ a + (es.length - j) := by
  intro k
  induction k with
  | zero =>
    intro A es a j hA hC hlen hk haj hj
    have hje : j = es.length := by omega
    subst hje
    refine ⟨A, es, a, ?_, hA, rfl, rfl, by simp, by omega⟩
    rw [loopO_eq, hd53_0, show cutD ⟨0, 0⟩ [0, 1, 5, 6] B.length A.length (frD53 i kk ver a es.length) ⟨B, A⟩ = some (norm [0, 1, 5, 6] (frD53 i kk ver a es.length), ⟨B, A⟩) from cut_full _ _ _ ⟨B, A⟩]
    rw [show norm [0, 1, 5, 6] (frD53 i kk ver a es.length) = frD53 i kk ver a es.length from rfl]
    simp only [del53_end i B kk ver nl A es hA]
  | succ k ih =>
    intro A es a j hA hC hlen hk haj hj
    have hlt : j < es.length := by omega
    rw [loopO_eq, hd53_0, show cutD ⟨0, 0⟩ [0, 1, 5, 6] B.length A.length (frD53 i kk ver a j) ⟨B, A⟩ = some (norm [0, 1, 5, 6] (frD53 i kk ver a j), ⟨B, A⟩) from cut_full _ _ _ ⟨B, A⟩]
    rw [show norm [0, 1, 5, 6] (frD53 i kk ver a j) = frD53 i kk ver a j from rfl]
    simp only [del53_step p hp i B hb hnb kk ver nl A es hA hC hlen a j haj hlt]
    rw [List.drop_eq_getElem_cons hlt, List.filter_cons]
    have hkk := (List.getElem?_eq_some_iff.1 hA).1
    cases he : evens p es[j] with
    | false =>
      simp only [Bool.false_eq_true, if_false]
      obtain ⟨A', es', a', h1, h2, h3, h4, h5, h6⟩ := ih A es a (j + 1) hA hC hlen (by omega) (by omega) (by omega)
      exact ⟨A', es', a', h1, h2, h3, h4, h5, by omega⟩
    | true =>
      simp only [if_true]
      have hl : (es.set a es[j]).length = es.length := by simp
      have hA2 : (A.set kk (rwC ver nl (es.set a es[j])))[kk]? = some (rwC ver nl (es.set a es[j])) := by simp [hkk]
      have := ih (A.set kk (rwC ver nl (es.set a es[j]))) (es.set a es[j]) (a + 1) (j + 1) hA2 (fun c hc => by
        rcases List.mem_or_eq_of_mem_set hc with h | h
        · exact hC c h
        · rw [h]; exact hC _ (List.getElem_mem hlt)) (by rw [hl]; exact hlen) (by rw [hl]; omega) (by omega) (by rw [hl]; omega)
      rw [hl, List.length_set] at this
      obtain ⟨A', es', a', h1, h2, h3, h4, h5, h6⟩ := this
      refine ⟨A', es', a', h1, h2, h3, h4, ?_, by omega⟩
      rw [h5, List.drop_set_of_lt (by omega), List.take_succ_eq_append_getElem (by simp; omega), List.take_set_of_le (Nat.le_refl a), List.getElem_set_self, List.append_assoc]
      rfl

/-- Choices whose pairs are not of one form are taken out. -/
theorem delete53_W (A : List Arr) (Cs : List (List Int)) (hA : A[kk]? = some (rwC ver nl Cs)) (hC : ∀ c ∈ Cs, c.length = p.sets.length) (hlen : Cs.length < 4611686018427387904) :
    ∃ A', W 53 [.own kk ver, .fn 54 [.ptr i 0]] ⟨B, A⟩ = some (.ret (.p (.sl ((Cs.filter (evens p)).map encC))), ⟨B, A'⟩) := by
  have hkk := (List.getElem?_eq_some_iff.1 hA).1
  let A2 : List Arr := A ++ [⟨0, 53, 1, true, false, []⟩]
  have hA2 : A2[kk]? = some (rwC ver nl Cs) := by simp only [A2]; rw [List.getElem?_append_left hkk]; exact hA
  have e0 : E false ⟨0, 0⟩ 53 (delC del0 0) (mkF 0 [.own kk ver, .fn 54 [.ptr i 0]]) ⟨B, A⟩ = some (.normal, [(0, .own kk ver), (1, .fn 54 [.ptr i 0])], ⟨B, A2⟩) := by
    simp [delC, del0, Tryz.f53, A2]
  have h92 := index92_W p hp i B hb hnb A2 kk ver nl Cs hA2 hC hlen
  have e1 : E false ⟨0, 0⟩ 53 (delC del0 1) [(0, .own kk ver), (1, .fn 54 [.ptr i 0])] ⟨B, A2⟩ = some (.normal, [(0, .own kk ver), (1, .fn 54 [.ptr i 0]), (5, .p (iP (ixC p Cs)))], ⟨B, A2⟩) := by
    have hl := hA2
    simp only [rwC] at hl
    simp [delC, del0, Tryz.f53, h92, hl]
  have fin : ∀ (Y : List Arr) (a : List PD), ∃ A', retF B.length A.length [(4, .p (.sl a))] ⟨B, Y⟩ = some (.ret (.p (.sl a)), ⟨B, A'⟩) := fun Y a => by
    have := hnb B.length A.length
    refine ⟨Y.take A.length, ?_⟩
    simp [retF]
    intro y hy hc
    rw [List.all_eq_true.1 this y hy] at hc
    cases hc
  rcases ixC_spec p Cs with ⟨h1, h2⟩ | ⟨n, hn, h1, h2⟩
  · rw [h1] at e1
    have e2 : E false ⟨0, 0⟩ 53 (delC del0 2) [(0, .own kk ver), (1, .fn 54 [.ptr i 0]), (5, .p (iP (-1)))] ⟨B, A2⟩ = some (.ret, [(4, .own kk ver)], ⟨B, A2⟩) := by
      simp [delC, del0, Tryz.f53]
    have hr : ∃ A', retF B.length A.length [(4, .own kk ver)] ⟨B, A2⟩ = some (.ret (.p (.sl (Cs.map encC))), ⟨B, A'⟩) := by
      have := hnb B.length A.length
      have hl := hA2
      simp only [rwC] at hl
      refine ⟨(A2.set kk ⟨ver, 53, 1, nl, true, Cs.map encC⟩).take A.length, ?_⟩
      simp [retF, hl]
      intro y hy hc
      rw [List.all_eq_true.1 this y hy] at hc
      cases hc
    obtain ⟨A', hr⟩ := hr
    refine ⟨A', W_x (by decide) rfl ?_⟩
    show deleteD W [.own kk ver, .fn 54 [.ptr i 0]] ⟨B, A⟩ = _
    simp only [deleteD, List.length_cons, List.length_nil, if_true, e0, nextD, e1, e2]
    rw [h2]
    exact hr
  · obtain ⟨A3, es', a', h3, h4, h5, h6, h7, h8⟩ := del53_loop p hp i B hb hnb kk ver nl (Cs.length - (n + 1)) A2 Cs n (n + 1) hA2 hC hlen rfl (by omega) (by omega)
    rw [h1] at e1
    have hw : IntKind.i64.wrap ((n : Int) + 1) = (n : Int) + 1 := wrap64 (by omega) (by omega)
    have hne : ¬ ((n : Int) = -1) := by omega
    have e2 : E false ⟨0, 0⟩ 53 (delC del0 2) [(0, .own kk ver), (1, .fn 54 [.ptr i 0]), (5, .p (iP (n : Int)))] ⟨B, A2⟩ = some (.normal, [(0, .own kk ver), (1, .fn 54 [.ptr i 0]), (5, .p (iP (n : Int))), (12, .p (.bool false))], ⟨B, A2⟩) := by
      simp [delC, del0, Tryz.f53, hne]
    have e3 : ∃ F, E false ⟨0, 0⟩ 53 (delC del0 3) [(0, .own kk ver), (1, .fn 54 [.ptr i 0]), (5, .p (iP (n : Int))), (12, .p (.bool false))] ⟨B, A2⟩ = some (.normal, F, ⟨B, A3⟩) ∧ look F 0 = .own kk ver ∧ look F 5 = .p (.int .i64 a') := by
      simp only [lp53_0, code53, Tryz.f53, frD53, Int.natCast_add, Int.cast_ofNat_Int] at h3
      exact ⟨_, by simp [delC, del0, Tryz.f53, hw, h3]; rfl, rfl, rfl⟩
    obtain ⟨F, e3, f0, f5⟩ := e3
    have hlt : a' < es'.length := by omega
    have e4 : tailD F ⟨B, A3⟩ = some ([(4, .p (.sl ((es'.map encC).take a')))], ⟨B, A3.set kk ⟨ver + 1, 53, 1, nl, true, (es'.map encC).take a'⟩⟩) := by
      have hl := h4
      simp only [rwC] at hl
      simp [tailD, f0, f5, hl, hlt]
    obtain ⟨A', hf⟩ := fin (A3.set kk ⟨ver + 1, 53, 1, nl, true, (es'.map encC).take a'⟩) ((es'.map encC).take a')
    refine ⟨A', W_x (by decide) rfl ?_⟩
    show deleteD W [.own kk ver, .fn 54 [.ptr i 0]] ⟨B, A⟩ = _
    simp only [deleteD, List.length_cons, List.length_nil, if_true, e0, nextD, e1, e2, e3, e4]
    have e5 : (Cs.filter (evens p)).map encC = (es'.map encC).take a' := by
      rw [← List.map_take, h7, h2]
    rw [e5]
    exact hf
end
end Go.Vi
end

section
/- Vi: layer 11: all choices. No conditions but those that stand with each. -/
namespace Go.Vi
open Go Go.Lib Go.Proofs
set_option maxRecDepth 100000
attribute [local simp] E_skip E_ret E_exit E_text E_draw E_seq E_cond E_block E_scope E_loop runOps runOp runDraw runVF runV finV gate FlOK wantD exec fin opd look putF norm constD constC fieldAddrD loadD storeD opCall lenD binD isShift intP strP numD indexAddrD indexD D.pd? D.pds? sub capsOf callD argsD argD D.nf unP cellD mkF H00 cD_agg cD_pagg cD_int cD_bool cD_str cD_sl cD_lit cells_encS cells_encU cells_encW cells_encR box_encU box_encW box_encR encU_agg encR_agg encW_agg cells_int one_int buildSliceD elsD splice
attribute [local simp] fnOut retOut resD retsD retD oneD D.noRefs D.noRef alone Hp.cut newRow Hp.live one_sl cells_sl

def NRow (A : List Arr) (e : D) (N : List (List Int)) : Prop := ∃ kk ver nl, e = .own kk ver ∧ A[kk]? = some (rwC ver nl N)
def LRow (A : List Arr) (d : D) (N : List (List Int)) : Prop := d = .lit false (N.map encC) ∨ NRow A d N
theorem NRow.cut {A : List Arr} {e : D} {N : List (List Int)} {nB nA : Nat} (h : NRow A e N) (hn : D.noRef nB nA e = true) : NRow (A.take nA) e N := by
  obtain ⟨kk, ver, nl, rfl, h⟩ := h
  simp only [D.noRef, decide_eq_true_eq] at hn
  exact ⟨kk, ver, nl, rfl, by rw [List.getElem?_take, if_pos hn]; exact h⟩
theorem LRow.cut {A : List Arr} {e : D} {N : List (List Int)} {nB nA : Nat} (h : LRow A e N) (hn : D.noRef nB nA e = true) : LRow (A.take nA) e N := h.imp id fun h => h.cut hn
theorem LRow.len {A : List Arr} {d : D} {N : List (List Int)} (h : LRow A d N) (B : List Blk) : lenD ⟨B, A⟩ false d = some (N.length : Int) := by
  rcases h with rfl | ⟨kk, ver, nl, rfl, h⟩
  · simp [lenD]
  · simp only [rwC] at h
    simp [lenD, Hp.live, h]
/-- The element at a place, read. -/
theorem LRow.at {A : List Arr} {d : D} {N : List (List Int)} (h : LRow A d N) (B : List Blk) (j : Nat) (hj : j < N.length) : ∃ a, indexAddrD Tryz.prog ⟨B, A⟩ 56 d j = some a ∧ loadD ⟨B, A⟩ a false 1 = some (.p (encC N[j])) := by
  rcases h with rfl | ⟨kk, ver, nl, rfl, h⟩
  · exact ⟨.elt [encC N[j]], by simp [indexAddrD, hj, cells_encC, encC], by simp [loadD]⟩
  · simp only [rwC] at h
    exact ⟨.oelt kk ver j 0, by simp [indexAddrD, hj, Hp.live, h], by simp [loadD, hj, Hp.live, h, cells_encC, encC]⟩

section
variable (p : RProb)
def frN16 (k j q x : Nat) (d e : D) (m : Nat) (c F : List Int) : Fr := [(1, .ptr 0 0), (5, .ptr (x + 1) 0), (6, e), (8, .p (.sl (c.map iP))), (13, .p (.sl (p.sets.map encS))), (14, .p (iP p.sets.length)), (15, .p (iP k)), (19, d), (20, .p (iP m)), (21, .p (iP j)), (26, .p (.sl (F.map iP))), (27, .p (iP F.length)), (28, .p (iP q))]

abbrev rz62 : Arr := ⟨0, 62, 1, true, true, []⟩
abbrev rf62 (l : List PD) : Arr := ⟨0, 62, 1, false, true, l⟩
theorem all_step (k j q x : Nat) (d e : D) (m : Nat) (c F : List Int) (hq : q < F.length) (hF : F.length ≤ 5) (hc : c.length ≤ 5) (B : List Blk) (A : List Arr) (Cs N : List (List Int)) (hN : N.length ≤ 100000) (hd : LRow A d Cs) (he : NRow A e N) (ha : Apart d e) :
    ∃ e' A', E false ⟨0, 0⟩ 16 lp16_2 (frN16 p k j q x d e m c F) ⟨B, A⟩ = some (.normal, frN16 p k j (q + 1) x d e' m c F, ⟨B, A'⟩) ∧ LRow A' d Cs ∧ NRow A' e' (N ++ [c ++ [F[q]]]) ∧ Apart d e' := by
  obtain ⟨kk, ver, nl, rfl, he⟩ := he
  have hkk := (List.getElem?_eq_some_iff.1 he).1
  have hw : IntKind.i64.wrap ((q : Int) + 1) = (q : Int) + 1 := wrap64 (by omega) (by omega)
  have h52 := clip52_W (c.map iP) (fit_i c) B A
  have hfit1 : fits 1 [iP F[q]] = true := rfl
  have hfit2 : fits 1 [encC (c ++ [F[q]])] = true := rfl
  have hfit3 := fit_i c
  have hlen1 : (c.length + 1) * 8 ≤ 140737488355328 := by omega
  have hlen2 : (N.length + 1) * 24 ≤ 140737488355328 := by omega
  refine ⟨.own kk (ver + 1), (A ++ [rz62, rf62 (c.map iP ++ [iP F[q]])]).set kk (rwC (ver + 1) false (N ++ [c ++ [F[q]]])), ?_, ?_, ⟨kk, ver + 1, false, rfl, ?_⟩, fun k' v v' h1 h2 => ?_⟩
  · have he2 : (A ++ [rz62, rf62 (c.map iP ++ [iP F[q]])])[kk]? = some ⟨ver, 53, 1, nl, false, N.map encC⟩ := by rw [List.getElem?_append_left hkk]; exact he
    have hx : (N ++ [c ++ [F[q]]]).map encC = N.map encC ++ [PD.sl (c.map iP ++ [iP F[q]])] := by simp [encC]
    simp only [rwC, hx]
    have hone : (PD.sl (c.map iP ++ [iP F[q]])).one = true := rfl
    simp only [encC, List.map_append, List.map_cons, List.map_nil] at hfit2
    simp [lp16_2, code16, Tryz.f16, frN16, hq, hw, h52, appendD, srcD, hfit1, hfit2, hfit3, he2, hlen1, hlen2, hone]
  · rcases hd with rfl | ⟨k2, v2, n2, rfl, hd⟩
    · exact .inl rfl
    · have hk2 := (List.getElem?_eq_some_iff.1 hd).1
      have hne : kk ≠ k2 := fun h => ha k2 v2 ver rfl (by rw [h])
      exact .inr ⟨k2, v2, n2, rfl, by rw [List.getElem?_set_ne hne, List.getElem?_append_left hk2]; exact hd⟩
  · rw [List.getElem?_set_self (by simp; omega)]
  · injection h2 with h3 h4
    exact ha k' v ver h1 (by rw [h3])
end
end Go.Vi
end

section
/- Vi: layer 11: all choices: the loops. No conditions but those that stand with each. -/
namespace Go.Vi
open Go Go.Lib Go.Proofs
set_option maxRecDepth 100000
attribute [local simp] E_skip E_ret E_exit E_text E_draw E_seq E_cond E_block E_scope E_loop runOps runOp runDraw runVF runV finV gate FlOK wantD exec fin opd look putF norm constD constC fieldAddrD loadD storeD opCall lenD binD isShift intP strP numD indexAddrD indexD D.pd? D.pds? sub capsOf callD argsD argD D.nf unP cellD mkF H00 cD_agg cD_pagg cD_int cD_bool cD_str cD_sl cD_lit cells_encS cells_encU cells_encW cells_encR box_encU box_encW box_encR encU_agg encR_agg encW_agg cells_int one_int buildSliceD elsD splice
attribute [local simp] fnOut retOut resD retsD retD oneD D.noRefs D.noRef alone Hp.cut newRow Hp.live one_sl cells_sl

section
variable (p : RProb)
theorem take_len {α : Type} (B : List α) : B.take B.length = B := List.take_length
theorem loop16_2 (k j x : Nat) (d e : D) (m : Nat) (c F : List Int) (hF : F.length ≤ 5) (hc : c.length ≤ 5) (B : List Blk) (A : List Arr) (Cs N : List (List Int)) (hN : N.length ≤ 50000) (hd : LRow A d Cs) (he : NRow A e N) (ha : Apart d e) :
    ∃ e' A', loopO false ⟨0, 0⟩ 16 lp16_2 B.length A.length (frN16 p k j 0 x d e m c F) ⟨B, A⟩ = some (.exit 4, frN16 p k j F.length x d e' m c F ++ [(29, .p (.bool false))], ⟨B, A'⟩) ∧ LRow A' d Cs ∧ NRow A' e' (N ++ F.map fun f => c ++ [f]) ∧ Apart d e' := by
  obtain ⟨o, h1, e', A', h2, h3⟩ := for_inv (mu := false) (m := ⟨0, 0⟩) (f := 16) (c := lp16_2) (nB := B.length) (nA := A.length) hd16_2 F.length
    (fun q F1 H1 => ∃ e1 A1, F1 = frN16 p k j q x d e1 m c F ∧ H1 = ⟨B, A1⟩ ∧ LRow A1 d Cs ∧ NRow A1 e1 (N ++ (F.take q).map fun f => c ++ [f]) ∧ Apart d e1)
    (fun o => ∃ e' A', o = (.exit 4, frN16 p k j F.length x d e' m c F ++ [(29, .p (.bool false))], ⟨B, A'⟩) ∧ LRow A' d Cs ∧ NRow A' e' (N ++ F.map fun f => c ++ [f]) ∧ Apart d e')
    (fun F1 H1 ⟨e1, A1, hf, hh, k1, k2, k3⟩ => by
      subst hf; subst hh
      rw [List.take_length] at k2
      refine ⟨_, ?_, by simp, e1, A1, rfl, k1, k2, k3⟩
      simp [lp16_2, code16, Tryz.f16, frN16])
    (fun q F1 H1 hq ⟨e1, A1, hf, hh, k1, k2, k3⟩ => by
      subst hf; subst hh
      obtain ⟨e2, A2, r1, r2, r3, r4⟩ := all_step p k j q x d e1 m c F hq hF hc B A1 Cs _ (by simp; omega) k1 k2 k3
      refine ⟨_, _, r1, ?_⟩
      obtain ⟨H3, g1, g2⟩ := cutD_or ⟨0, 0⟩ [1, 5, 6, 8, 13, 14, 15, 19, 20, 21, 26, 27, 28] B.length A.length (frN16 p k j (q + 1) x d e2 m c F) ⟨B, A2⟩
      have e3 : N ++ (F.take q).map (fun f => c ++ [f]) ++ [c ++ [F[q]]] = N ++ (F.take (q + 1)).map fun f => c ++ [f] := by
        rw [List.take_succ_eq_append_getElem hq, List.map_append, List.append_assoc]; rfl
      rw [e3] at r3
      refine ⟨_, H3, g1, e2, H3.A, rfl, ?_⟩
      rcases g2 with rfl | ⟨rfl, g2, _⟩
      · exact ⟨rfl, r2, r3, r4⟩
      · simp [frNo, frN16] at g2
        exact ⟨by simp, r2.cut g2.2.2.2, r3.cut g2.2.2.1, r4⟩)
    (F := frN16 p k j 0 x d e m c F) (H := ⟨B, A⟩) (F0 := frN16 p k j 0 x d e m c F) (H0 := ⟨B, A⟩) (cut_full ⟨0, 0⟩ _ _ ⟨B, A⟩) ⟨e, A, rfl, rfl, hd, by simpa using he, ha⟩
  exact ⟨e', A', by rw [h1, h2], h3⟩

def B16 (X : List Blk) (s : RSet) : List Blk := bR p :: (X ++ [.cells [.p (iP s.size), .p (.sl (s.forms.map iP))]])
def frM16 (k j x : Nat) (d e : D) (m : Nat) : Fr := [(1, .ptr 0 0), (5, .ptr (x + 1) 0), (6, e), (13, .p (.sl (p.sets.map encS))), (14, .p (iP p.sets.length)), (15, .p (iP k)), (19, d), (20, .p (iP m)), (21, .p (iP j))]
theorem round16_1 (k j : Nat) (d e : D) (s : RSet) (hF : s.forms.length ≤ 5) (X : List Blk) (A : List Arr) (Cs N : List (List Int)) (hj : j < Cs.length) (hm : Cs.length ≤ 10000) (hc : Cs[j].length ≤ 5) (hN : N.length ≤ 50000) (hd : LRow A d Cs) (he : NRow A e N) (ha : Apart d e) :
    ∃ e' A', E false ⟨0, 0⟩ 16 lp16_1 (frM16 p k j X.length d e Cs.length) ⟨B16 p X s, A⟩ = some (.normal, frM16 p k (j + 1) X.length d e' Cs.length, ⟨B16 p X s, A'⟩) ∧ LRow A' d Cs ∧ NRow A' e' (N ++ s.forms.map fun f => Cs[j] ++ [f]) ∧ Apart d e' := by
  obtain ⟨e', A', h1, h2, h3, h4⟩ := loop16_2 p k j X.length d e Cs.length Cs[j] s.forms hF hc (B16 p X s) A Cs N hN hd he ha
  have hw : IntKind.i64.wrap ((j : Int) + 1) = (j : Int) + 1 := wrap64 (by omega) (by omega)
  refine ⟨e', A', ?_, h2, h3, h4⟩
  simp [lp16_2, code16, Tryz.f16, frN16, B16, bR] at h1
  rcases hd with rfl | ⟨kk, ver, nl, rfl, hd⟩
  · simp [lp16_1, code16, Tryz.f16, frM16, B16, bR, hj, cells_encC, encC, h1, hw]
  · simp only [rwC] at hd
    simp [lp16_1, code16, Tryz.f16, frM16, B16, bR, hj, hd, cells_encC, encC, h1, hw]

theorem loop16_1 (k : Nat) (d e : D) (s : RSet) (hF : s.forms.length ≤ 5) (X : List Blk) (A : List Arr) (Cs : List (List Int)) (hm : Cs.length ≤ 10000) (hc : ∀ c ∈ Cs, c.length ≤ 5) (hd : LRow A d Cs) (he : NRow A e []) (ha : Apart d e) :
    ∃ e' A', loopO false ⟨0, 0⟩ 16 lp16_1 (B16 p X s).length A.length (frM16 p k 0 X.length d e Cs.length) ⟨B16 p X s, A⟩ = some (.exit 2, frM16 p k Cs.length X.length d e' Cs.length ++ [(22, .p (.bool false))], ⟨B16 p X s, A'⟩) ∧ NRow A' e' (stepL Cs s) := by
  have hsum : ∀ q, q ≤ Cs.length → ((Cs.take q).flatMap fun c => s.forms.map fun f => c ++ [f]).length ≤ 5 * q := by
    intro q
    induction q with
    | zero => intro _; simp
    | succ q ih =>
      intro hq
      have := ih (by omega)
      rw [List.take_succ_eq_append_getElem (by omega), List.flatMap_append, List.length_append]
      simp only [List.flatMap_cons, List.flatMap_nil, List.append_nil, List.length_map]
      omega
  obtain ⟨o, h1, e', A', h2, h3⟩ := for_inv (mu := false) (m := ⟨0, 0⟩) (f := 16) (c := lp16_1) (nB := (B16 p X s).length) (nA := A.length) hd16_1 Cs.length
    (fun j F1 H1 => ∃ e1 A1, F1 = frM16 p k j X.length d e1 Cs.length ∧ H1 = ⟨B16 p X s, A1⟩ ∧ LRow A1 d Cs ∧ NRow A1 e1 ((Cs.take j).flatMap fun c => s.forms.map fun f => c ++ [f]) ∧ Apart d e1)
    (fun o => ∃ e' A', o = (.exit 2, frM16 p k Cs.length X.length d e' Cs.length ++ [(22, .p (.bool false))], ⟨B16 p X s, A'⟩) ∧ NRow A' e' (stepL Cs s))
    (fun F1 H1 ⟨e1, A1, hf, hh, k1, k2, k3⟩ => by
      subst hf; subst hh
      rw [List.take_length] at k2
      refine ⟨_, ?_, by simp, e1, A1, rfl, k2⟩
      simp [lp16_1, code16, Tryz.f16, frM16])
    (fun j F1 H1 hj ⟨e1, A1, hf, hh, k1, k2, k3⟩ => by
      subst hf; subst hh
      obtain ⟨e2, A2, r1, r2, r3, r4⟩ := round16_1 p k j d e1 s hF X A1 Cs _ hj hm (hc _ (List.getElem_mem hj)) (by have := hsum j (by omega); omega) k1 k2 k3
      refine ⟨_, _, r1, ?_⟩
      obtain ⟨H3, g1, g2⟩ := cutD_or ⟨0, 0⟩ [1, 5, 6, 13, 14, 15, 19, 20, 21] (B16 p X s).length A.length (frM16 p k (j + 1) X.length d e2 Cs.length) ⟨B16 p X s, A2⟩
      have e3 : ((Cs.take j).flatMap fun c => s.forms.map fun f => c ++ [f]) ++ s.forms.map (fun f => Cs[j] ++ [f]) = (Cs.take (j + 1)).flatMap fun c => s.forms.map fun f => c ++ [f] := by
        rw [List.take_succ_eq_append_getElem hj, List.flatMap_append]; simp
      rw [e3] at r3
      refine ⟨_, H3, g1, e2, H3.A, rfl, ?_⟩
      rcases g2 with rfl | ⟨rfl, g2, _⟩
      · exact ⟨rfl, r2, r3, r4⟩
      · simp [frNo, frM16] at g2
        exact ⟨by simp, r2.cut g2.2.2.2, r3.cut g2.2.2.1, r4⟩)
    (F := frM16 p k 0 X.length d e Cs.length) (H := ⟨B16 p X s, A⟩) (F0 := frM16 p k 0 X.length d e Cs.length) (H0 := ⟨B16 p X s, A⟩) (cut_full ⟨0, 0⟩ _ _ ⟨B16 p X s, A⟩) ⟨e, A, rfl, rfl, hd, by simpa using he, ha⟩
  exact ⟨e', A', by rw [h1, h2], h3⟩
end
end Go.Vi
end

section
/- Vi: layer 11: all choices that are allowed, as the law finds them. No conditions but those that stand with each. -/
namespace Go.Vi
open Go Go.Lib Go.Proofs
set_option maxRecDepth 100000
attribute [local simp] E_skip E_ret E_exit E_text E_draw E_seq E_cond E_block E_scope E_loop runOps runOp runDraw runVF runV finV gate FlOK wantD exec fin opd look putF norm constD constC fieldAddrD loadD storeD opCall lenD binD isShift intP strP numD indexAddrD indexD D.pd? D.pds? sub capsOf callD argsD argD D.nf unP cellD mkF H00 cD_agg cD_pagg cD_int cD_bool cD_str cD_sl cD_lit cells_encS cells_encU cells_encW cells_encR box_encU box_encW box_encR encU_agg encR_agg encW_agg cells_int one_int buildSliceD elsD splice
attribute [local simp] fnOut retOut resD retsD retD oneD D.noRefs D.noRef alone Hp.cut newRow Hp.live one_sl cells_sl

theorem step_len {Cs : List (List Int)} {s : RSet} {n : Nat} (hC : ∀ c ∈ Cs, c.length = n) : ∀ c ∈ stepL Cs s, c.length = n + 1 := by
  intro c hc
  simp only [stepL, List.mem_flatMap, List.mem_map] at hc
  obtain ⟨b, hb, f, _, rfl⟩ := hc
  simp [hC b hb]
theorem step_many {Cs : List (List Int)} {s : RSet} (hF : s.forms.length ≤ 5) : (stepL Cs s).length ≤ 5 * Cs.length := by
  unfold stepL
  induction Cs with
  | nil => simp
  | cons c Cs ih =>
    simp only [List.flatMap_cons, List.length_append, List.length_map, List.length_cons]
    omega

section
variable (p : RProb) (hp : p.ok = true)
def frO16 (k : Nat) (d : D) : Fr := [(1, .ptr 0 0), (3, d), (13, .p (.sl (p.sets.map encS))), (14, .p (iP p.sets.length)), (15, .p (iP k))]
def AllAt (k : Nat) (F : Fr) (H : Hp) : Prop :=
  ∃ d X Cs, F = frO16 p k d ∧ H.B = bR p :: X ∧ (∀ m n, X.all (blkNo m n) = true) ∧ Cs = (p.sets.take k).foldl stepL [[]] ∧ LRow H.A d Cs ∧ (k = 0 ∨ NRow H.A d Cs) ∧ (∀ c ∈ Cs, c.length = k) ∧ Cs.length ≤ 5 ^ k

include hp
theorem round16_0 (k : Nat) (hk : k < p.sets.length) (F : Fr) (H : Hp) (h : AllAt p k F H) : ∃ F1 H1, E false ⟨0, 0⟩ 16 lp16_0 F H = some (.normal, F1, H1) ∧ AllAt p (k + 1) F1 H1 := by
  obtain ⟨d, X, Cs, rfl, hB, hX, hCs, hd, hor, hl, hm⟩ := h
  obtain ⟨hf, h5, h30, h10, hfl⟩ := ok_fine hp
  obtain ⟨B, A⟩ := H
  simp only at hB hd hor
  subst hB
  have hF := hfl _ (List.getElem_mem hk)
  have hw : IntKind.i64.wrap ((k : Int) + 1) = (k : Int) + 1 := wrap64 (by omega) (by omega)
  have hm5 : Cs.length ≤ 625 := Nat.le_trans hm (Nat.pow_le_pow_right (by omega) (show k ≤ 4 by omega))
  have hdA : LRow (A ++ [rwC 0 true []]) d Cs := by
    rcases hd with h | ⟨kk, ver, nl, rfl, h⟩
    · exact .inl h
    · exact .inr ⟨kk, ver, nl, rfl, by rw [List.getElem?_append_left (List.getElem?_eq_some_iff.1 h).1]; exact h⟩
  have hap : Apart d (.own A.length 0) := by
    intro i v v' h1 h2
    injection h2 with h3 h4
    rcases hd with h | ⟨kk, ver, nl, rfl, h⟩
    · rw [h] at h1; cases h1
    · injection h1 with h5 h6
      have := (List.getElem?_eq_some_iff.1 h).1
      omega
  obtain ⟨e', A', h1, h2⟩ := loop16_1 p k d (.own A.length 0) p.sets[k] hF X (A ++ [rwC 0 true []]) Cs (by omega) (fun c hc => by rw [hl c hc]; omega) hdA ⟨A.length, 0, true, rfl, by simp⟩ hap
  have hlenD := fun B => LRow.len hdA B
  refine ⟨frO16 p (k + 1) e', ⟨B16 p X p.sets[k], A'⟩, ?_, e', X ++ [.cells [.p (iP p.sets[k].size), .p (.sl (p.sets[k].forms.map iP))]], stepL Cs p.sets[k], rfl, rfl, all_snoc hX fun m n => rfl, ?_, .inr h2, .inr h2, step_len hl, ?_⟩
  · simp [lp16_1, code16, Tryz.f16, frM16, B16, bR, rwC] at h1
    rcases hd with rfl | ⟨kk, ver, nl, rfl, hd⟩
    · simp [lp16_0, code16, Tryz.f16, frO16, B16, bR, hk, hw, h1]
    · have hd2 : (A ++ [(⟨0, 53, 1, true, false, []⟩ : Arr)])[kk]? = some (rwC ver nl Cs) := by rw [List.getElem?_append_left (List.getElem?_eq_some_iff.1 hd).1]; exact hd
      simp only [rwC] at hd2
      simp [lp16_0, code16, Tryz.f16, frO16, B16, bR, hk, hw, hd2, h1]
  · rw [hCs, List.take_succ_eq_append_getElem hk, List.foldl_append]; rfl
  · have := step_many (Cs := Cs) hF
    rw [Nat.pow_succ]
    omega

theorem all16_W (h1 : 1 ≤ p.sets.length) (H : Hp) : W 16 [.p (encR p)] H = some (.ret (.p (.sl ((choR p p.sets []).map encC))), H) := by
  obtain ⟨hf, h5, h30, h10, hfl⟩ := ok_fine hp
  refine W16_of rfl (by simp) ?_
  rw [← all_choices hp]
  have i0 : AllAt p 0 (frO16 p 0 (.lit false [encC []])) ⟨[bR p], [⟨0, 53, 1, true, false, []⟩]⟩ := ⟨_, [], [[]], rfl, rfl, fun _ _ => rfl, rfl, .inl rfl, .inl rfl, fun c hc => by simp at hc; simp [hc], by simp⟩
  obtain ⟨o, l1, F', H', l2, l3⟩ := for_inv (mu := false) (m := ⟨0, 0⟩) (f := 16) (c := lp16_0) (nB := 1) (nA := 1) hd16_0 p.sets.length (AllAt p)
    (fun o => ∃ F' H', o = (.exit 0, F' ++ [(16, .p (.bool false))], H') ∧ AllAt p p.sets.length F' H')
    (fun F1 H1 hst => by
      refine ⟨(.exit 0, F1 ++ [(16, .p (.bool false))], H1), ?_, by simp, F1, H1, rfl, hst⟩
      obtain ⟨d, X, Cs, rfl, _⟩ := hst
      simp [lp16_0, code16, Tryz.f16, frO16])
    (fun k F1 H1 hk hst => by
      obtain ⟨F2, H2, r1, r2⟩ := round16_0 p hp k hk F1 H1 hst
      refine ⟨F2, H2, r1, ?_⟩
      obtain ⟨H3, g1, g2⟩ := cutD_or ⟨0, 0⟩ [1, 3, 13, 14, 15] 1 1 F2 H2
      obtain ⟨d, X, Cs, rfl, hB, hX, hCs, hd, hor, hl, hm⟩ := r2
      refine ⟨_, H3, g1, ?_⟩
      rcases g2 with rfl | ⟨rfl, g2, _⟩
      · exact ⟨d, X, Cs, rfl, hB, hX, hCs, hd, hor, hl, hm⟩
      · simp [frNo, frO16] at g2
        exact ⟨d, [], Cs, rfl, by simp [hB], fun _ _ => rfl, hCs, hd.cut g2, hor.imp id fun h => h.cut g2, hl, hm⟩)
    (F := frO16 p 0 (.lit false [encC []])) (H := ⟨[bR p], [⟨0, 53, 1, true, false, []⟩]⟩) (F0 := frO16 p 0 (.lit false [encC []])) (H0 := ⟨[bR p], [⟨0, 53, 1, true, false, []⟩]⟩) (by simp [cutD, frO16, frNo, bR, blkNo]) i0
  obtain ⟨d, X, Cs, rfl, hB, hX, hCs, hd, hor, hl, hm⟩ := l3
  rw [l2] at l1
  rw [List.take_length] at hCs
  obtain ⟨B, A⟩ := H'
  simp only at hB hd hor
  subst hB
  obtain ⟨kk, ver, nl, rfl, hA⟩ := hor.resolve_left (by omega)
  have hm5 : Cs.length ≤ 3125 := Nat.le_trans hm (Nat.pow_le_pow_right (by omega) h5)
  obtain ⟨A', h53⟩ := delete53_W p hp 0 (bR p :: X) rfl (fun m n => by rw [List.all_cons, hX m n]; rfl) kk ver nl A Cs hA hl (by omega)
  have hall : allL p = Cs.filter (evens p) := by rw [hCs]; rfl
  rw [hall]
  simp [lp16_0, code16, Tryz.f16, frO16, bR, encC] at l1
  simp only [bR] at h53
  have hA' := hA
  simp only [rwC] at hA'
  simp [code16, Tryz.f16, bR, l1, h53, mkFn, openOwn, hA', encC]
end
end Go.Vi
end
