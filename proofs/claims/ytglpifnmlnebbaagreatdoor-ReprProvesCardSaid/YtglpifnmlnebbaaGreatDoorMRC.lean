/- It is proved here what functions of the program's layer 11 and of its specification compute; conditions stand with each. The laws. -/
import Derived.Test.YtglpifnmlnebbaaGreatDoorMRB
import Derived.Test.YtglpifnmlnebbaaGreatDoorMQD
import Derived.Test.YtglpifnmlnebbaaGreatDoorMFB
set_option linter.unusedVariables false
set_option linter.unusedSimpArgs false

section
/- Vi: layer 11: swardref11.Choices. No conditions but those that stand with each. -/
namespace Go.Vi
open Go Go.Lib Go.Proofs
set_option maxRecDepth 100000
attribute [local simp] E_skip E_ret E_exit E_text E_draw E_seq E_cond E_block E_scope E_loop runOps runOp runDraw runVF runV finV gate FlOK wantD exec fin opd look putF norm constD constC fieldAddrD loadD storeD opCall lenD binD isShift intP strP numD indexAddrD indexD D.pd? D.pds? sub capsOf callD argsD argD D.nf unP cellD mkF H00 cD_agg cD_pagg cD_int cD_bool cD_str cD_sl cD_lit cells_encS cells_encU cells_encW cells_encR box_encU box_encW box_encR encU_agg encR_agg encW_agg cells_int one_int buildSliceD elsD splice
attribute [local simp] fnOut retOut resD retsD retD oneD D.noRefs D.noRef alone Hp.cut newRow Hp.live
attribute [local simp] cells_sl one_sl

theorem fit_l (L : List (List Int)) : fits 1 (L.map lP) = true := by
  unfold fits
  rw [List.all_eq_true]
  intro x hx
  obtain ⟨l, _, rfl⟩ := List.mem_map.1 hx
  rfl
theorem choR_len {p : RProb} : ∀ (r : List RSet) (b : List Int), (∀ s ∈ r, s.forms.length ≤ 5) → (choR p r b).length ≤ 5 ^ r.length
  | [], b, _ => by simp only [choR]; split <;> simp
  | s :: r, b, h => by
    simp only [choR, List.length_flatMap, List.length_cons]
    have hs := h s (by simp)
    have ih : ∀ f : Int, (choR p r (b ++ [f])).length ≤ 5 ^ r.length := fun f => choR_len r _ fun x hx => h x (by simp [hx])
    have key : ∀ F : List Int, (F.map fun f => (choR p r (b ++ [f])).length).sum ≤ F.length * 5 ^ r.length := by
      intro F
      induction F with
      | nil => simp
      | cons f F ihF =>
        simp only [List.map_cons, List.sum_cons, List.length_cons]
        have := ih f
        rw [Nat.add_mul, Nat.one_mul]
        omega
    calc _ ≤ s.forms.length * 5 ^ r.length := key _
      _ ≤ 5 * 5 ^ r.length := Nat.mul_le_mul_right _ hs
      _ = 5 ^ (r.length + 1) := by rw [Nat.pow_succ, Nat.mul_comm]

section
variable (p : RProb) (r : List RSet) (b F : List Int)
def hp42 (i : Nat) (a : List (List Int)) : Hp := ⟨[bR p], [⟨0, 27, 1, true, true, []⟩, ⟨i, 27, 1, a.isEmpty, true, a.map lP⟩]⟩
def fr42 (i : Nat) : Fr := [(1, .p (.sl (b.map iP))), (2, .ptr 0 0), (5, .own 1 i), (6, .p (.sl (F.map iP))), (7, .p (.int .i64 i))]
theorem step42 (hb : b.length ≤ 5) (hF : F.length ≤ 5) (i : Nat) (hi : i < F.length) (a ys : List (List Int)) (ha : a.length ≤ 100000) (hy : ys.length ≤ 100000)
    (hr : ∀ H, W 42 [.p (encR p), .p (.sl ((b ++ [F[i]]).map iP))] H = some (.ret (.p (.sl (ys.map lP))), H)) :
    ∃ F1 H1, E false ⟨0, 0⟩ 42 lp42_0 (fr42 b F i) (hp42 p i a) = some (.normal, F1, H1) ∧ cutD ⟨0, 0⟩ [1, 2, 5, 6, 7] 1 2 F1 H1 = some (fr42 b F (i + 1), hp42 p (i + 1) (a ++ ys)) := by
  have hw : IntKind.i64.wrap ((i : Int) + 1) = (i : Int) + 1 := wrap64 (by omega) (by omega)
  have g1 : (a.length + ys.length) * 24 ≤ 140737488355328 := by omega
  have g2 : (b.length + 1) * 8 ≤ 140737488355328 := by omega
  have g3 : b.length * 8 ≤ 140737488355328 := by omega
  have e1 : (a ++ ys).isEmpty = (a.isEmpty && ys.isEmpty) := by cases a <;> rfl
  have hne : (b.map iP).isEmpty = b.isEmpty := by cases b <;> rfl
  have f1 : ∀ x : Int, fits 1 [iP x] = true := fun x => rfl
  simp only [List.map_append, List.map_cons, List.map_nil] at hr
  cases b with
  | nil =>
    simp only [List.map_nil, List.nil_append] at hr
    exact ⟨_, _, by simp [lp42_0, code42, Tryz.f42, fr42, hp42, bR, hi, hr, hw, appendD, srcD, fit_i, fit_l, fit0, f1, g1]; exact ⟨rfl, rfl⟩, by simp [cutD, fr42, hp42, frNo, bR, blkNo, e1]⟩
  | cons y b =>
    simp only [List.map_cons, List.cons_append] at hr
    simp only [List.length_cons] at g2 g3
    have f2 : fits 1 (PD.int .i64 y :: List.map iP b) = true := fit_i (y :: b)
    exact ⟨_, _, by simp [lp42_0, code42, Tryz.f42, fr42, hp42, bR, hi, hr, hw, appendD, srcD, fit_i, fit_l, fit0, f1, f2, g1, g2, g3]; exact ⟨rfl, rfl⟩, by simp [cutD, fr42, hp42, frNo, bR, blkNo, e1]⟩

theorem stp_flat (g : Int → List (List Int)) (F : List Int) : foldN (fun i a => a ++ g (F.getD i 0)) F.length 0 [] = F.flatMap g := by
  rw [foldN_list (fun x a => a ++ g x) 0]
  have key : ∀ (F : List Int) (a : List (List Int)), F.foldl (fun a x => a ++ g x) a = a ++ F.flatMap g := by
    intro F
    induction F with
    | nil => intro a; simp
    | cons f F ih => intro a; simp [ih]
  rw [key]; rfl

theorem loop42 (hb : b.length ≤ 5) (hF : F.length ≤ 5) (N : Nat) (hN : N ≤ 10000) (hlen : ∀ f : Int, (choR p r (b ++ [f])).length ≤ N)
    (hr : ∀ f ∈ F, ∀ H, W 42 [.p (encR p), .p (.sl ((b ++ [f]).map iP))] H = some (.ret (.p (.sl ((choR p r (b ++ [f])).map lP))), H)) :
    loopO false ⟨0, 0⟩ 42 lp42_0 1 2 (fr42 b F 0) (hp42 p 0 []) =
      some (.exit 0, fr42 b F F.length ++ [(30, .p (.bool false))], hp42 p F.length (F.flatMap fun f => choR p r (b ++ [f]))) := by
  have h := for_fold (α := List (List Int)) (nB := 1) (nA := 2) hd42_0 F.length (fun i _ => fr42 b F i) (fun i a => hp42 p i a) (fun i a => a ++ choR p r (b ++ [F.getD i 0])) (fun i a => a.length ≤ i * N)
    (fun a => (.exit 0, fr42 b F F.length ++ [(30, .p (.bool false))], hp42 p F.length a)) (fun _ => by simp)
    (fun a _ => by simp [lp42_0, code42, Tryz.f42, fr42, hp42, bR]) (fun i a hi ha => by
      have hN2 : i * N ≤ 5 * 10000 := Nat.mul_le_mul (by omega) hN
      have hl := hlen (F.getD i 0)
      refine ⟨by rw [List.length_append, Nat.add_mul, Nat.one_mul]; omega, ?_⟩
      rw [getD_at hi] at hl ⊢
      exact step42 p b F hb hF i hi a _ (by omega) (by omega) (hr F[i] (List.getElem_mem hi)))
    (a := []) (F := fr42 b F 0) (H := hp42 p 0 []) (by simp) (by simp [cutD, fr42, frNo, hp42, bR, blkNo])
  rw [stp_flat (fun f => choR p r (b ++ [f]))] at h
  exact h
end

theorem choices42_W (p : RProb) (hp : p.ok = true) : ∀ (r : List RSet) (b : List Int), p.sets = p.sets.take b.length ++ r → b.length + r.length = p.sets.length → ∀ H,
    W 42 [.p (encR p), .p (.sl (b.map iP))] H = some (.ret (.p (.sl ((choR p r b).map lP))), H)
  | [], b, hs, hl, H => by
    refine W42_of rfl (by simp) ?_
    have hlen : b.length = p.sets.length := by simpa using hl
    have h62 := fun H => allowed62_W p b hp hlen H
    have hi : (b.length : Int) = p.sets.length := by omega
    simp only [choR]
    cases ha : allowed p b with
    | true => rw [ha] at h62; simp [code42, Tryz.f42, bR, hlen, h62]
    | false => rw [ha] at h62; simp [code42, Tryz.f42, bR, hlen, h62]
  | s :: r, b, hs, hl, H => by
    obtain ⟨_, h5, _⟩ := ok_fine hp
    simp only [List.length_cons] at hl
    have hlt : b.length < p.sets.length := by omega
    have hg : p.sets[b.length] = s := by
      have : p.sets[b.length]? = some s := by
        rw [hs, List.getElem?_append_right (by simp; omega)]
        simp
        rw [show b.length - min b.length p.sets.length = 0 by omega]
        rfl
      rw [List.getElem?_eq_getElem hlt] at this
      exact Option.some.inj this
    have hform : p.form b.length = s.forms := by simp [RProb.form, List.getD_eq_getElem?_getD, hlt, hg]
    have hF := form_len hp hlt
    rw [hform] at hF
    have hall : ∀ x ∈ r, x.forms.length ≤ 5 := fun x hx => by
      have hm : x ∈ p.sets := by rw [hs]; simp [hx]
      obtain ⟨i, hi, rfl⟩ := List.getElem_of_mem hm
      have := form_len hp hi
      simpa [RProb.form, List.getD_eq_getElem?_getD, hi] using this
    have hp5 : 5 ^ r.length ≤ 5 ^ 5 := Nat.pow_le_pow_right (by omega) (by omega)
    have hloop := loop42 p r b s.forms (by omega) hF (5 ^ r.length) (by have e : (5 : Nat) ^ 5 = 3125 := (by decide); omega) (fun f => choR_len r _ hall) (fun f _ H => choices42_W p hp r (b ++ [f]) (by
      have h2 : p.sets.take (b.length + 1) = p.sets.take b.length ++ [s] := by
        rw [List.take_add_one, List.getElem?_eq_getElem hlt, hg]
        rfl
      rw [List.length_append, List.length_singleton, h2, List.append_assoc]
      exact hs) (by simp; omega) H)
    refine W42_of rfl (by simp) ?_
    have hne : ¬ (b.length : Int) = p.sets.length := by omega
    have hne2 : ¬ b.length = p.sets.length := by omega
    have h00 : ((0 : Nat) : Int) = 0 := rfl
    simp only [lp42_0, code42, Tryz.f42, fr42, hp42, bR, h00, List.map_nil, List.isEmpty_nil] at hloop
    simp only [choR]
    simp [code42, Tryz.f42, bR, hne, hne2, hlt, hg, hloop]
end Go.Vi
end

section
/- Vi: layer 11: the examples of the chapter that each law looks at. No conditions. -/
namespace Go.Vi
open Go Go.Lib Go.Proofs
set_option maxRecDepth 100000
def pP : RProb := ⟨[⟨100, [1, 2, 3, 4, 5]⟩, ⟨10, [1, 3, 5]⟩, ⟨100, [1, 2]⟩], [⟨1, 0, 0, 100⟩, ⟨6, 0, 2, 1⟩, ⟨3, 1, 0, 2⟩, ⟨2, 2, 0, 50⟩], []⟩
theorem pP_fine : pP.fine := big_fine pP rfl
def pD : D := (.p (.agg [(.sl [(.agg [(.int .i64 100), (.sl [(.int .i64 1), (.int .i64 2), (.int .i64 3), (.int .i64 4), (.int .i64 5)])]), (.agg [(.int .i64 10), (.sl [(.int .i64 1), (.int .i64 3), (.int .i64 5)])]), (.agg [(.int .i64 100), (.sl [(.int .i64 1), (.int .i64 2)])])]), (.sl [(.agg [(.int .i64 1), (.int .i64 0), (.int .i64 0), (.int .i64 100)]), (.agg [(.int .i64 6), (.int .i64 0), (.int .i64 2), (.int .i64 1)]), (.agg [(.int .i64 3), (.int .i64 1), (.int .i64 0), (.int .i64 2)]), (.agg [(.int .i64 2), (.int .i64 2), (.int .i64 0), (.int .i64 50)])]), (.sl [])]))
def prD : D := (.p (.sl [(.int .i64 (-1))]))
def twF : List FuncId := [9, 14, 20, 22, 23, 24, 25, 26, 30, 31, 33, 36, 37, 38, 39, 43, 44, 45, 47, 48, 59, 60, 61, 62, 63, 64, 65, 66, 69, 88, 89, 91, 93, 94, 95, 125, 126, 127, 153, 154, 155, 156, 157, 158, 159, 160, 162, 187, 188, 195]
theorem twF_ok : twF.all (fun f => okFn Tryz.prog ch f) = true := by kernel_rfl
theorem twT0 : TabOK [] := tab_nil
/-! ### sward/repr.Cost (0 operations) -/
def twe1 : TabE := (10, [pD, (.p (.sl [(.int .i64 5), (.int .i64 1), (.int .i64 2)]))], (.tup [(.p (.int .i64 952)), (.p (.int .i64 0))]))
theorem tww1 (H : Hp) : W twe1.1 twe1.2.1 H = some (.ret twe1.2.2, H) := (show W twe1.1 twe1.2.1 H = W 10 [.p (encR pP), .p (.sl (([5,1,2] : List Int).map iP))] H by kernel_rfl).trans ((cost10_W pP [5,1,2] pP_fine (by decide) H).trans (by kernel_rfl))
def twl1 : List TabE := twe1 :: []
theorem twT1 : TabOK twl1 := tab_cons tww1 twT0
/-! ### sward/repr.Floor (0 operations) -/
def twe2 : TabE := (12, [pD, (.p (.sl [(.int .i64 0), (.int .i64 0), (.int .i64 1)]))], (.tup [(.p (.int .i64 5271)), (.p (.int .i64 0))]))
theorem tww2 (H : Hp) : W twe2.1 twe2.2.1 H = some (.ret twe2.2.2, H) := (show W twe2.1 twe2.2.1 H = W 12 [.p (encR pP), .p (.sl (([0,0,1] : List Int).map iP))] H by kernel_rfl).trans ((floor12_W pP [0,0,1] pP_fine (by decide) H).trans (by kernel_rfl))
def twl2 : List TabE := twe2 :: twl1
theorem twT2 : TabOK twl2 := tab_cons tww2 twT1
/-! ### sward/repr.Best (0 operations) -/
def twe3 : TabE := (16, [pD], (.tup [(.p (.sl [(.int .i64 2), (.int .i64 1), (.int .i64 2)])), (.p (.int .i64 321)), (.p (.int .i64 0))]))
theorem tww3 (H : Hp) : W twe3.1 twe3.2.1 H = some (.ret twe3.2.2, H) := (show W twe3.1 twe3.2.1 H = W 16 [.p (encR pP)] H by kernel_rfl).trans ((best16_W pP pP_fine H).trans (by kernel_rfl))
def twl3 : List TabE := twe3 :: twl2
theorem twT3 : TabOK twl3 := tab_cons tww3 twT2
/-! ### sward/repr.Least (0 operations) -/
def twe4 : TabE := (18, [pD, (.p (.int .i64 0)), (.p (.int .i64 3))], (.tup [(.p (.int .i64 6452)), (.p (.int .i64 0))]))
theorem tww4 (H : Hp) : W twe4.1 twe4.2.1 H = some (.ret twe4.2.2, H) := (show W twe4.1 twe4.2.1 H = W 18 [.p (encR pP), .p (.int .i64 0), .p (.int .i64 3)] H by kernel_rfl).trans ((least18_W pP 0 3 pP_fine H).trans (by kernel_rfl))
def twl4 : List TabE := twe4 :: twl3
theorem twT4 : TabOK twl4 := tab_cons tww4 twT3
/-! ### sward/repr.Prove (0 operations) -/
def twe5 : TabE := (21, [pD], (.tup [(.p (.sl [(.int .i64 (-1))])), (.p (.int .i64 0))]))
theorem tww5 (H : Hp) : W twe5.1 twe5.2.1 H = some (.ret twe5.2.2, H) := (show W twe5.1 twe5.2.1 H = W 21 [.p (encR pP)] H by kernel_rfl).trans ((prove21_W pP pP_fine H).trans (by kernel_rfl))
def twl5 : List TabE := twe5 :: twl4
theorem twT5 : TabOK twl5 := tab_cons tww5 twT4
/-! ### sward/swardref11.Accept (11922 operations) -/
def twe6 : TabE := (22, [pD, (.p (.int .i64 321)), prD], (.tup [(.p (.int .i64 0)), (.p (.int .i64 0))]))
theorem twr6 : (funB (pqX Tryz.prog ch others) Tryz.prog hn ch twe6.1).val 400 (calS Tryz.prog hn ch others doesN (semT twl5) (okT twF) 400) twe6.2.1 H00 = some (.ret twe6.2.2, H00) := by kernel_rfl
theorem tww6 (H : Hp) : W twe6.1 twe6.2.1 H = some (.ret twe6.2.2, H) := run_tab twF_ok twT5 400 (by kernel_rfl) twr6 H
def twl6 : List TabE := twe6 :: twl5
theorem twT6 : TabOK twl6 := tab_cons tww6 twT5
/-! ### sward/repr.Accept (6717 operations) -/
def twe7 : TabE := (23, [pD, (.p (.int .i64 322)), (.p (.sl [(.int .i64 2), (.int .i64 (-1)), (.int .i64 (-1))]))], (.tup [(.p (.int .i64 2)), (.p (.int .i64 7))]))
theorem twr7 : (funB (pqX Tryz.prog ch others) Tryz.prog hn ch twe7.1).val 400 (calS Tryz.prog hn ch others doesN (semT twl6) (okT twF) 400) twe7.2.1 H00 = some (.ret twe7.2.2, H00) := by kernel_rfl
theorem tww7 (H : Hp) : W twe7.1 twe7.2.1 H = some (.ret twe7.2.2, H) := run_tab twF_ok twT6 400 (by kernel_rfl) twr7 H
def twl7 : List TabE := twe7 :: twl6
theorem twT7 : TabOK twl7 := tab_cons tww7 twT6
/-! ### sward/repr.Accept (4688 operations) -/
def twe8 : TabE := (23, [pD, (.p (.int .i64 321)), prD], (.tup [(.p (.int .i64 0)), (.p (.int .i64 0))]))
theorem twr8 : (funB (pqX Tryz.prog ch others) Tryz.prog hn ch twe8.1).val 400 (calS Tryz.prog hn ch others doesN (semT twl7) (okT twF) 400) twe8.2.1 H00 = some (.ret twe8.2.2, H00) := by kernel_rfl
theorem tww8 (H : Hp) : W twe8.1 twe8.2.1 H = some (.ret twe8.2.2, H) := run_tab twF_ok twT7 400 (by kernel_rfl) twr8 H
def twl8 : List TabE := twe8 :: twl7
theorem twT8 : TabOK twl8 := tab_cons tww8 twT7
/-! ### sward/swardref03.ParseModule (0 operations) -/
def twe9 : TabE := (28, [mD], (.tup [(.p (.agg [(.str (by_ [109])), (.sl [(.agg [(.str (by_ [97])), (.int .i64 6), (.int .i64 0), (.int .i64 0), (.int .i64 5), (.sl [(.agg [(.int .i64 2), (.int .i64 0), (.int .i64 9), (.int .i64 0), (.sl [])])]), (.int .i64 7), (.int .i64 0), (.str (by_ [])), (.sl []), (.sl [])]), (.agg [(.str (by_ [98])), (.int .i64 6), (.int .i64 0), (.int .i64 0), (.int .i64 4), (.sl [(.agg [(.int .i64 4), (.int .i64 0), (.int .i64 0), (.int .i64 0), (.sl [])])]), (.int .i64 7), (.int .i64 0), (.str (by_ [])), (.sl []), (.sl [])])]), (.sl [(.agg [(.str (by_ [102])), (.sl [(.agg [(.str (by_ [120])), (.int .i64 2), (.int .i64 0), (.int .i64 9), (.int .i64 0), (.sl [])])]), (.sl [(.agg [(.int .i64 2), (.str (by_ [97])), (.int .i64 7), (.int .i64 0), (.str (by_ [])), (.sl []), (.sl [(.agg [(.int .i64 4), (.int .i64 0), (.str (by_ [120])), (.sl []), (.sl [])]), (.agg [(.int .i64 1), (.int .i64 1), (.str (by_ [])), (.sl []), (.sl [])])]), (.sl []), (.sl [])]), (.agg [(.int .i64 5), (.str (by_ [])), (.int .i64 11), (.int .i64 0), (.str (by_ [])), (.sl []), (.sl [(.agg [(.int .i64 4), (.int .i64 0), (.str (by_ [120])), (.sl []), (.sl [])]), (.agg [(.int .i64 4), (.int .i64 0), (.str (by_ [97])), (.sl []), (.sl [])])]), (.sl [(.agg [(.int .i64 1), (.str (by_ [98])), (.int .i64 4), (.int .i64 0), (.str (by_ [98])), (.sl []), (.sl []), (.sl []), (.sl [])])]), (.sl [])]), (.agg [(.int .i64 7), (.str (by_ [121])), (.int .i64 4), (.int .i64 0), (.str (by_ [97])), (.sl []), (.sl []), (.sl [(.agg [(.int .i64 3), (.str (by_ [97])), (.int .i64 7), (.int .i64 0), (.str (by_ [])), (.sl []), (.sl [(.agg [(.int .i64 4), (.int .i64 0), (.str (by_ [121])), (.sl []), (.sl [])])]), (.sl []), (.sl [])])]), (.sl [])])])])]), (.sl [(.agg [(.str (by_ [108])), (.int .i64 14), (.int .i64 0), (.str (by_ [])), (.sl []), (.sl [(.agg [(.int .i64 26), (.int .i64 0), (.str (by_ [])), (.sl []), (.sl [(.agg [(.int .i64 4), (.int .i64 0), (.str (by_ [97])), (.sl []), (.sl [])])])]), (.agg [(.int .i64 1), (.int .i64 9), (.str (by_ [])), (.sl []), (.sl [])])])])])])), (.p (.bool true))]))
theorem tww9 (H : Hp) : W twe9.1 twe9.2.1 H = some (.ret twe9.2.2, H) := tuw3 H
def twl9 : List TabE := twe9 :: twl8
theorem twT9 : TabOK twl9 := tab_cons tww9 twT8
/-! ### sward/repr.Uses (0 operations) -/
def twe10 : TabE := (29, [modD], (.tup [(.p (.agg [(.sl [(.agg [(.int .i64 5), (.sl [(.int .i64 1), (.int .i64 2), (.int .i64 3), (.int .i64 4), (.int .i64 5)])]), (.agg [(.int .i64 4), (.sl [(.int .i64 1), (.int .i64 3), (.int .i64 5)])])]), (.sl [(.agg [(.int .i64 2), (.int .i64 0), (.int .i64 0), (.int .i64 12)]), (.agg [(.int .i64 1), (.int .i64 0), (.int .i64 0), (.int .i64 1)]), (.agg [(.int .i64 6), (.int .i64 1), (.int .i64 1), (.int .i64 1)]), (.agg [(.int .i64 3), (.int .i64 0), (.int .i64 0), (.int .i64 1)])]), (.sl [])])), (.p (.int .i64 0))]))
theorem tww10 (H : Hp) : W twe10.1 twe10.2.1 H = some (.ret twe10.2.2, H) := tuw4 H
def twl10 : List TabE := twe10 :: twl9
theorem twT10 : TabOK twl10 := tab_cons tww10 twT9
/-! ### sward/swardlaw11.works (855 operations) -/
def twe11 : TabE := (9, [], (.p (.bool true)))
theorem twr11 : (funB (pqX Tryz.prog ch others) Tryz.prog hn ch twe11.1).val 400 (calS Tryz.prog hn ch others doesN (semT twl10) (okT twF) 400) twe11.2.1 H00 = some (.ret twe11.2.2, H00) := by kernel_rfl
theorem tww11 (H : Hp) : W twe11.1 twe11.2.1 H = some (.ret twe11.2.2, H) := run_tab twF_ok twT10 400 (by kernel_rfl) twr11 H
def twl11 : List TabE := twe11 :: twl10
theorem twT11 : TabOK twl11 := tab_cons tww11 twT10
theorem works9_W (H : Hp) : W 9 [] H = some (.ret (.p (.bool true)), H) := tww11 H
end Go.Vi
end

section
/- Vi: layer 11: swardref11.Best, Least. No conditions but those that stand with each. -/
namespace Go.Vi
open Go Go.Lib Go.Proofs
set_option maxRecDepth 100000
attribute [local simp] E_skip E_ret E_exit E_text E_draw E_seq E_cond E_block E_scope E_loop runOps runOp runDraw runVF runV finV gate FlOK wantD exec fin opd look putF norm constD constC fieldAddrD loadD storeD opCall lenD binD isShift intP strP numD indexAddrD indexD D.pd? D.pds? sub capsOf callD argsD argD D.nf unP cellD mkF H00 cD_agg cD_pagg cD_int cD_bool cD_str cD_sl cD_lit cells_encS cells_encU cells_encW cells_encR box_encU box_encW box_encR encU_agg encR_agg encW_agg cells_int one_int buildSliceD elsD splice
attribute [local simp] fnOut retOut resD retsD retD oneD D.noRefs D.noRef alone Hp.cut newRow Hp.live
attribute [local simp] cells_sl one_sl

theorem all_full {p : RProb} (hp : p.ok = true) : ∀ c ∈ choR p p.sets [], Full p c := by
  rw [choices_eq]
  intro c hc
  exact choP_full hp (k := p.sets.length) (c := p.zero) (i := 0) (by simp [RProb.zero]) (by simp [RProb.zero]) (fun j hj => by omega) hc
theorem all_len {p : RProb} (hp : p.ok = true) : (choR p p.sets []).length ≤ 3125 := by
  obtain ⟨_, h5, _⟩ := ok_fine hp
  have h1 := choR_len (p := p) p.sets [] (fun s hs => by
    obtain ⟨i, hi, rfl⟩ := List.getElem_of_mem hs
    have := form_len hp hi
    simpa [RProb.form, List.getD_eq_getElem?_getD, hi] using this)
  have h2 : 5 ^ p.sets.length ≤ 5 ^ 5 := Nat.pow_le_pow_right (by omega) (by omega)
  have e : (5 : Nat) ^ 5 = 3125 := by decide
  omega

theorem best17_W (p : RProb) (hf : p.fine) (H : Hp) : W 17 [.p (encR p)] H = some (.ret (.tup [.p (.sl ((bestA p).1.map iP)), .p (.int .i64 (bestA p).2.1), .p (.int .i64 (bestA p).2.2)]), H) := by
  refine W17_of rfl (by simp) ?_
  have h39 := fun H => formed39_W p hf H
  unfold bestA
  cases hp : p.ok with
  | false => rw [hp] at h39; simp [code17, Tryz.f17, bR, h39]
  | true =>
    rw [hp] at h39
    have h42 := fun H => choices42_W p hp p.sets [] (by simp) (by simp) H
    have h41 := fun H => cheapest41_W p (choR p p.sets []) hp (all_full hp) (by have := all_len hp; omega) H
    have e : bestOf p (choR p p.sets []) = bestR p := rfl
    rw [e] at h41
    simp only [List.map_nil] at h42
    cases hb : bestR p with
    | none => rw [hb] at h41; simp only [foundD] at h41; simp [code17, Tryz.f17, bR, h39, h42, h41]
    | some q =>
      obtain ⟨b, n⟩ := q
      rw [hb] at h41
      simp only [foundD] at h41
      simp [code17, Tryz.f17, bR, h39, h42, h41]

section
variable (p : RProb) (L : List (List Int)) (s : Nat) (f : Int)
def hp19 (a : List (List Int)) : Hp := ⟨[bR p], [⟨a.length, 27, 1, a.isEmpty, true, a.map lP⟩]⟩
def fr19 (i : Nat) (a : List (List Int)) : Fr := [(1, .p (.int .i64 s)), (2, .p (.int .i64 f)), (3, .ptr 0 0), (8, .own 0 a.length), (9, .p (.sl (L.map lP))), (10, .p (.int .i64 i))]
def stp19 (i : Nat) (a : List (List Int)) : List (List Int) := if (L.getD i []).getD s 0 == f then a ++ [L.getD i []] else a
theorem stp_filter : foldN (stp19 L s f) L.length 0 [] = L.filter fun x => x.getD s 0 == f := by
  have e : stp19 L s f = fun i a => (fun x a => if x.getD s 0 == f then a ++ [x] else a) (L.getD i []) a := rfl
  rw [e, foldN_list (fun x a => if x.getD s 0 == f then a ++ [x] else a) []]
  have key : ∀ (l : List (List Int)) (a : List (List Int)), l.foldl (fun a x => if x.getD s 0 == f then a ++ [x] else a) a = a ++ l.filter fun x => x.getD s 0 == f := by
    intro l
    induction l with
    | nil => intro a; simp
    | cons x l ih =>
      intro a
      rw [List.foldl_cons, ih, List.filter_cons]
      split <;> simp_all
  rw [key]; rfl
theorem loop19 (hl : L.length ≤ 10000) (hs : ∀ c ∈ L, s < c.length) : loopO false ⟨0, 0⟩ 19 lp19_0 1 1 (fr19 L s f 0 []) (hp19 p []) =
    some (.exit 0, fr19 L s f L.length (L.filter fun x => x.getD s 0 == f) ++ [(36, .p (.bool false))], hp19 p (L.filter fun x => x.getD s 0 == f)) := by
  have h := for_fold (α := List (List Int)) (mu := false) (m := ⟨0, 0⟩) (f := 19) (c := lp19_0) (nB := 1) (nA := 1) hd19_0 L.length (fun i a => fr19 L s f i a) (fun _ a => hp19 p a) (stp19 L s f) (fun i a => a.length ≤ i)
    (fun a => (.exit 0, fr19 L s f L.length a ++ [(36, .p (.bool false))], hp19 p a)) (fun _ => by simp)
    (fun a _ => by simp [lp19_0, code19, Tryz.f19, fr19, hp19, bR]) (fun i a hi ha => by
      have hsi := hs L[i] (List.getElem_mem hi)
      have hsi' : (s : Int) < (L[i].length : Nat) := by omega
      have hw : IntKind.i64.wrap ((i : Int) + 1) = (i : Int) + 1 := wrap64 (by omega) (by omega)
      have g1 : (a.length + 1) * 24 ≤ 140737488355328 := by omega
      have fl1 : ∀ x : List Int, fits 1 [PD.sl (x.map iP)] = true := fun x => rfl
      have e1 : ∀ x, (a ++ [x]).isEmpty = false := fun x => by cases a <;> rfl
      unfold stp19
      rw [getD_at hi, getD_at hsi]
      by_cases hx : L[i][s] = f
      · have hx' : (L[i][s] == f) = true := by simpa using hx
        rw [if_pos hx']
        exact ⟨by simp; omega, fr19 L s f (i + 1) (a ++ [L[i]]), hp19 p (a ++ [L[i]]), by simp [lp19_0, code19, Tryz.f19, fr19, hp19, bR, hi, hsi, hsi', hx, hw, appendD, srcD, fit_l, fl1, g1, e1], by simp [cutD, fr19, hp19, frNo, bR, blkNo]⟩
      · have hx' : ¬ (L[i][s] == f) = true := by simpa using hx
        rw [if_neg hx']
        exact ⟨by omega, fr19 L s f (i + 1) a, hp19 p a, by simp [lp19_0, code19, Tryz.f19, fr19, hp19, bR, hi, hsi, hsi', hx, hw], by simp [cutD, fr19, hp19, frNo, bR, blkNo]⟩)
    (a := []) (F := fr19 L s f 0 []) (H := hp19 p []) (by simp) (by simp [cutD, fr19, frNo, hp19, bR, blkNo])
  rw [stp_filter] at h
  exact h
end

theorem least19_W (p : RProb) (s f : Int) (hf : p.fine) (H : Hp) : W 19 [.p (encR p), .p (.int .i64 s), .p (.int .i64 f)] H = some (.ret (.tup [.p (.int .i64 (leastA p s f).1), .p (.int .i64 (leastA p s f).2)]), H) := by
  refine W19_of rfl (by simp) ?_
  have h39 := fun H => formed39_W p hf H
  have h45 := fun H => five45_W f H
  unfold leastA
  cases hp : p.ok with
  | false => rw [hp] at h39; simp [code19, Tryz.f19, bR, h39]
  | true =>
    rw [hp] at h39
    obtain ⟨_, h5, _⟩ := ok_fine hp
    have hw : IntKind.i64.wrap ((p.sets.length : Int) - 1) = (p.sets.length : Int) - 1 := wrap64 (by omega) (by omega)
    have h44 := fun H => in44_W s 0 (p.sets.length - 1) H
    cases hin : inR s 0 (p.sets.length - 1) with
    | false =>
      rw [hin] at h44
      have hn : ¬ (0 ≤ s ∧ s < (p.sets.length : Int)) := by
        simp only [inR, Bool.and_eq_false_iff, decide_eq_false_iff_not] at hin
        omega
      have hn' : 0 ≤ s → ¬ s < (p.sets.length : Int) := fun a b => hn ⟨a, b⟩
      rw [if_neg (fun h => hn ⟨h.2.1, h.2.2.1⟩)]
      simp [code19, Tryz.f19, bR, h39, h44, hw]
    | true =>
      rw [hin] at h44
      have hs : 0 ≤ s ∧ s < (p.sets.length : Int) := by
        simp only [inR, Bool.and_eq_true, decide_eq_true_eq] at hin
        omega
      cases hfv : five f with
      | false =>
        rw [hfv] at h45
        rw [if_neg (fun h => by simp at h)]
        simp [code19, Tryz.f19, bR, h39, h44, h45, hw]
      | true =>
        rw [hfv] at h45
        rw [if_pos ⟨rfl, hs.1, hs.2, rfl⟩]
        have hf0 : f ≠ 0 := fun e => by rw [e] at hfv; cases hfv
        have h42 := fun H => choices42_W p hp p.sets [] (by simp) (by simp) H
        have hfull := all_full hp
        have hlen := all_len hp
        have hsn : s = ((s.toNat : Nat) : Int) := by omega
        have hloop := loop19 p (choR p p.sets []) s.toNat f (by omega) (fun c hc => by have := (hfull c hc).1; omega)
        have hll : ((choR p p.sets []).filter fun x => x.getD s.toNat 0 == f).length ≤ 3125 := Nat.le_trans (List.length_filter_le _ _) hlen
        have h41 := fun H => cheapest41_W p ((choR p p.sets []).filter fun x => x.getD s.toNat 0 == f) hp (fun c hc => hfull c (List.mem_filter.1 hc).1) (by omega) H
        have e : bestOf p ((choR p p.sets []).filter fun x => x.getD s.toNat 0 == f) = leastR p s.toNat f := rfl
        rw [e] at h41
        simp only [List.map_nil] at h42
        generalize ((choR p p.sets []).filter fun x => x.getD s.toNat 0 == f) = L2 at *
        generalize s.toNat = sn at *
        subst hsn
        have h00 : ((0 : Nat) : Int) = 0 := rfl
        simp only [lp19_0, code19, Tryz.f19, fr19, hp19, bR, h00, List.map_nil, List.isEmpty_nil, List.length_nil] at hloop
        cases hb : leastR p sn f with
        | none => rw [hb] at h41; simp only [foundD] at h41; simp [code19, Tryz.f19, bR, h39, h44, h45, hw, h42, hloop, h41]
        | some q =>
          obtain ⟨b, n⟩ := q
          rw [hb] at h41
          simp only [foundD] at h41
          simp [code19, Tryz.f19, bR, h39, h44, h45, hw, h42, hloop, h41]
end Go.Vi
end

section
/- Vi: layer 11: the laws ReprCosts, ReprBests, ReprProves, ReprAccepts. No conditions but those that stand with each. -/
namespace Go.Vi
open Go Go.Lib Go.Proofs
set_option maxRecDepth 100000
attribute [local simp] E_skip E_ret E_exit E_text E_draw E_seq E_cond E_block E_scope E_loop runOps runOp runDraw runVF runV finV gate FlOK wantD exec fin opd look putF norm constD constC fieldAddrD loadD storeD opCall lenD binD isShift intP strP numD indexAddrD indexD D.pd? D.pds? sub capsOf callD argsD argD D.nf unP cellD mkF H00 cD_agg cD_pagg cD_int cD_bool cD_str cD_sl cD_lit cells_encS cells_encU cells_encW cells_encR box_encU box_encW box_encR encU_agg encR_agg encW_agg cells_int one_int buildSliceD elsD splice
attribute [local simp] fnOut retOut resD retsD retD oneD D.noRefs D.noRef alone Hp.cut newRow Hp.live

theorem law3_W (p : RProb) (l : List Int) (hl : l.length < 4611686018427387904) (H : Hp) : W 3 [.p (encR p), .p (.sl (l.map iP))] H = some (.ret (.p (.bool true)), H) := law3_of p l works9_W hl H
theorem law6_W (p : RProb) (cost : Int) (proof : List Int) (H : Hp) : W 6 [.p (encR p), .p (.int .i64 cost), .p (.sl (proof.map iP))] H = some (.ret (.p (.bool true)), H) := law6_of p cost proof works9_W H

theorem best_fold {p : RProb} : ∀ (l : List (List Int)) (acc : Found) {b : List Int} {n : Int}, l.foldl (upd p) acc = some (b, n) →
    ((b ∈ l ∧ total p b = n) ∨ acc = some (b, n)) ∧ (∀ x ∈ l, n ≤ total p x) ∧ (∀ b' n', acc = some (b', n') → n ≤ n')
  | [], acc, b, n, h => by
    rw [List.foldl_nil] at h
    refine ⟨.inr h, (fun x hx => nomatch hx), fun b' n' e => ?_⟩
    rw [e] at h
    injection h with h
    injection h with _ h
    omega
  | x :: l, acc, b, n, h => by
    rw [List.foldl_cons] at h
    obtain ⟨h1, h2, h3⟩ := best_fold l (upd p acc x) h
    cases acc with
    | none =>
      have hx := h3 x (total p x) rfl
      refine ⟨?_, fun y hy => ?_, fun b' n' e => by cases e⟩
      · rcases h1 with ⟨h1, e⟩ | h1
        · exact .inl ⟨by simp [h1], e⟩
        · simp only [upd, Option.some.injEq, Prod.mk.injEq] at h1
          exact .inl ⟨by simp [h1.1], by rw [← h1.1, h1.2]⟩
      · rcases List.mem_cons.1 hy with rfl | hy
        · exact hx
        · exact h2 y hy
    | some q =>
      obtain ⟨b0, n0⟩ := q
      by_cases hlt : total p x < n0
      · have e : upd p (some (b0, n0)) x = some (x, total p x) := by simp only [upd, if_pos hlt]
        rw [e] at h1 h3
        have hx := h3 x (total p x) rfl
        refine ⟨?_, fun y hy => ?_, fun b' n' e => ?_⟩
        · rcases h1 with ⟨h1, e⟩ | h1
          · exact .inl ⟨by simp [h1], e⟩
          · simp only [Option.some.injEq, Prod.mk.injEq] at h1
            exact .inl ⟨by simp [h1.1], by rw [← h1.1, h1.2]⟩
        · rcases List.mem_cons.1 hy with rfl | hy
          · exact hx
          · exact h2 y hy
        · simp only [Option.some.injEq, Prod.mk.injEq] at e
          omega
      · have e : upd p (some (b0, n0)) x = some (b0, n0) := by simp only [upd, if_neg hlt]
        rw [e] at h1 h3
        have hx := h3 b0 n0 rfl
        refine ⟨?_, fun y hy => ?_, h3⟩
        · rcases h1 with ⟨h1, e⟩ | h1
          · exact .inl ⟨by simp [h1], e⟩
          · exact .inr h1
        · rcases List.mem_cons.1 hy with rfl | hy
          · omega
          · exact h2 y hy
theorem best_some {p : RProb} (_ : p.ok = true) {b : List Int} {n : Int} (h : bestR p = some (b, n)) : b ∈ choR p p.sets [] ∧ total p b = n ∧ ∀ x ∈ choR p p.sets [], n ≤ total p x := by
  obtain ⟨h1, h2, _⟩ := best_fold _ _ h
  rcases h1 with ⟨h1, e⟩ | h1
  · exact ⟨h1, e, h2⟩
  · cases h1
theorem sum_bd (c : RUse → Int) : ∀ (l : List RUse) (s : Int), (∀ u ∈ l, 0 ≤ u.t ∧ u.t ≤ 1000 ∧ 0 ≤ c u ∧ c u ≤ 2200000) → s ≤ sumU c s l ∧ sumU c s l ≤ s + l.length * 2200000000
  | [], s, _ => by simp [sumU]
  | u :: l, s, h => by
    obtain ⟨h1, h2, h3, h4⟩ := h u (by simp)
    have ih := sum_bd c l (s + u.t * c u) fun v hv => h v (by simp [hv])
    have g1 : 0 ≤ u.t * c u := Int.mul_nonneg h1 h3
    have g2 : u.t * c u ≤ 1000 * 2200000 := Int.mul_le_mul h2 h4 h3 (by omega)
    simp only [sumU, List.length_cons]
    omega
theorem best_bound {p : RProb} (hp : p.ok = true) {b : List Int} {n : Int} (h : bestR p = some (b, n)) : 0 ≤ n ∧ n ≤ 66000000000 := by
  obtain ⟨_, rfl, _⟩ := best_some hp h
  have hu : p.uses.length ≤ 30 := by
    simp only [RProb.ok, Bool.and_eq_true, decide_eq_true_eq] at hp
    exact hp.1.1.1.1.2
  have := sum_bd (fun u => once p u (b.getD u.a.toNat 0) (b.getD u.b.toNat 0)) p.uses 0 fun u hu => by
    have h1 := once_bd hp u (b.getD u.a.toNat 0) (b.getD u.b.toNat 0)
    have h2 : inR u.t 1 1000 = true := by
      simp only [RProb.ok, Bool.and_eq_true, List.all_eq_true, useOK] at hp
      exact (hp.1.2 u hu).1.1.2
    simp only [inR, Bool.and_eq_true, decide_eq_true_eq] at h2
    omega
  unfold total
  omega

theorem law4_W (p : RProb) (s f : Int) (H : Hp) : W 4 [.p (encR p), .p (.int .i64 s), .p (.int .i64 f)] H = some (.ret (.p (.bool true)), H) := by
  refine W4_of rfl (by simp) ?_
  have h8 := fun H => large8_W p H
  have h9 := works9_W
  cases hb : bigR p with
  | true => rw [hb] at h8; simp [code4, Tryz.f4, bR, h8, h9]
  | false =>
    rw [hb] at h8
    have hf := big_fine p hb
    have h16 := fun H => best16_W p hf H
    have h17 := fun H => best17_W p hf H
    have h18 := fun H => least18_W p s f hf H
    have h19 := fun H => least19_W p s f hf H
    have hlen : (bestA p).1.length < 4611686018427387904 := by
      unfold bestA
      split
      · rename_i hp
        cases hbe : bestR p with
        | none => simp
        | some q =>
          obtain ⟨b, n⟩ := q
          have hm := (best_some hp hbe).1
          have := (all_full hp b hm).1
          have := (ok_fine hp).2.1
          simp only
          omega
      · simp
    have h20 := fun H => alike20_W (bestA p).1 (bestA p).1 hlen H
    simp only [decide_true] at h20
    generalize (bestA p).1 = b at *
    generalize (bestA p).2.1 = n at *
    generalize (bestA p).2.2 = e at *
    generalize (leastA p s f).1 = n2 at *
    generalize (leastA p s f).2 = e2 at *
    simp [code4, Tryz.f4, bR, h8, h9, h16, h17, h18, h19, h20]

theorem accept_grow {p : RProb} (hp : p.ok = true) {b : List Int} {n : Int} (hb : bestR p = some (b, n)) :
    acceptA p n (grow p n p.sets.length p.zero 0) = (0, 0) ∧ (acceptA p (n + 1) (grow p n p.sets.length p.zero 0)).2 = 7 := by
  obtain ⟨hm, hn, hmin⟩ := best_some hp hb
  have hlen := grow_bound hp n p.zero
  rw [choices_eq] at hm hmin
  have hz : p.zero.length = p.sets.length := by simp [RProb.zero]
  obtain ⟨w1, t1, h1, _, _⟩ := grow_tre hp n n p.sets.length p.zero 0 [] [] (by omega) hz (fun j hj => by omega) (fun j _ => zero_getD p j)
  obtain ⟨w2, t2, _, h2, _⟩ := grow_tre hp n (n + 1) p.sets.length p.zero 0 [] [] (by omega) hz (fun j hj => by omega) (fun j _ => zero_getD p j)
  simp only [List.nil_append, List.append_nil, List.length_nil, Nat.zero_add] at t1 t2
  have e1 := h1 (Int.le_refl _) hmin
  have e2 := h2 b hm (by omega)
  have hl : ¬ 4000 < (grow p n p.sets.length p.zero 0).length := by omega
  unfold acceptA
  rw [if_neg hl, if_pos hp, t1, if_neg hl, if_pos hp, t2]
  simp only [Nat.lt_irrefl, if_false]
  rw [e1]
  exact ⟨by simp, by rw [if_pos e2]⟩

theorem law5_W (p : RProb) (H : Hp) : W 5 [.p (encR p)] H = some (.ret (.p (.bool true)), H) := by
  refine W5_of rfl (by simp) ?_
  have h8 := fun H => large8_W p H
  have h9 := works9_W
  cases hb : bigR p with
  | true => rw [hb] at h8; simp [code5, Tryz.f5, bR, h8, h9]
  | false =>
    rw [hb] at h8
    have hf := big_fine p hb
    have h21 := fun H => prove21_W p hf H
    have h17 := fun H => best17_W p hf H
    unfold proveA at h21
    by_cases he : (bestA p).2.2 = 0
    · have hp := best_ok he
      have hbe : ∃ b n, bestR p = some (b, n) := by
        unfold bestA at he
        rw [if_pos hp] at he
        cases hx : bestR p with
        | none => rw [hx] at he; simp at he
        | some q => exact ⟨q.1, q.2, rfl⟩
      obtain ⟨b, n, hbe⟩ := hbe
      have hA : bestA p = (b, n, 0) := by unfold bestA; rw [if_pos hp, hbe]
      rw [hA] at h21 h17
      simp only [if_true] at h21
      obtain ⟨a1, a2⟩ := accept_grow hp hbe
      have hnb := best_bound hp hbe
      have hw : IntKind.i64.wrap (n + 1) = n + 1 := wrap64 (by omega) (by omega)
      have h22 := fun H => accept22_W p hf n (grow p n p.sets.length p.zero 0) H
      have h23 := fun H => accept23_W p hf n (grow p n p.sets.length p.zero 0) H
      have h24 := fun H => accept23_W p hf (n + 1) (grow p n p.sets.length p.zero 0) H
      rw [a1] at h22 h23
      rw [a2] at h24
      generalize (acceptA p (n + 1) (grow p n p.sets.length p.zero 0)).1 = a at *
      generalize grow p n p.sets.length p.zero 0 = t at *
      simp [code5, Tryz.f5, bR, h8, h9, h21, h17, h22, h23, h24, hw]
    · rw [if_neg he] at h21
      generalize (bestA p).1 = b at *
      generalize (bestA p).2.1 = n at *
      generalize (bestA p).2.2 = e at *
      simp [code5, Tryz.f5, bR, h8, h9, h21, h17, he]
end Go.Vi
end
