/- It is proved here what functions of the program's layer 11 and of its specification compute; conditions stand with each. The laws. -/
import Derived.Test.YtodgddpkbmanoaaGreatDoorMFB
import Derived.Test.YtodgddpkbmanoaaGreatDoorMRA
import Derived.Test.YtodgddpkbmanoaaGreatDoorMRB
set_option linter.unusedVariables false
set_option linter.unusedSimpArgs false

section
/- Vi: layer 11: the examples of the chapter that each law looks at. No conditions. -/
namespace Go.Vi
open Go Go.Lib Go.Proofs
set_option maxRecDepth 100000
def pP : RProb := ⟨[⟨100, [1, 2, 3, 4, 5]⟩, ⟨10, [1, 3, 5]⟩, ⟨100, [1, 2]⟩], [⟨1, 0, 0, 100⟩, ⟨6, 0, 2, 1⟩, ⟨3, 1, 0, 2⟩, ⟨2, 2, 0, 50⟩], []⟩
theorem pP_fine : pP.fine := big_fine pP rfl
def pD : D := (.p (.agg [(.sl [(.agg [(.int .i64 100), (.sl [(.int .i64 1), (.int .i64 2), (.int .i64 3), (.int .i64 4), (.int .i64 5)])]), (.agg [(.int .i64 10), (.sl [(.int .i64 1), (.int .i64 3), (.int .i64 5)])]), (.agg [(.int .i64 100), (.sl [(.int .i64 1), (.int .i64 2)])])]), (.sl [(.agg [(.int .i64 1), (.int .i64 0), (.int .i64 0), (.int .i64 100)]), (.agg [(.int .i64 6), (.int .i64 0), (.int .i64 2), (.int .i64 1)]), (.agg [(.int .i64 3), (.int .i64 1), (.int .i64 0), (.int .i64 2)]), (.agg [(.int .i64 2), (.int .i64 2), (.int .i64 0), (.int .i64 50)])]), (.sl [])]))
def prD : D := (.p (.sl [(.int .i64 (-1))]))
def twF : List FuncId := [8, 11, 12, 17, 22, 29, 30, 31, 32, 33, 35, 47, 48, 49, 55, 57, 59, 61, 62, 63, 71, 90, 93, 94, 97, 98, 99, 101, 102, 136, 139, 142, 179, 180, 181, 182, 208, 209, 210, 211, 212, 213, 214, 215, 217, 219, 231, 232, 233, 239]
theorem twF_ok : twF.all (fun f => okFn Tryz.prog ch f) = true := by kernel_rfl
theorem twT0 : TabOK [] := tab_nil
/-! ### sward/repr.Cost (0 operations) -/
def twe1 : TabE := (19, [pD, (.p (.sl [(.int .i64 5), (.int .i64 1), (.int .i64 2)]))], (.tup [(.p (.int .i64 952)), (.p (.int .i64 0))]))
theorem tww1 (H : Hp) : W twe1.1 twe1.2.1 H = some (.ret twe1.2.2, H) := (show W twe1.1 twe1.2.1 H = W 19 [.p (encR pP), .p (.sl (([5,1,2] : List Int).map iP))] H by kernel_rfl).trans ((cost10_W pP [5,1,2] pP_fine (by decide) H).trans (by kernel_rfl))
def twl1 : List TabE := twe1 :: []
theorem twT1 : TabOK twl1 := tab_cons tww1 twT0
/-! ### sward/repr.Floor (0 operations) -/
def twe2 : TabE := (18, [pD, (.p (.sl [(.int .i64 0), (.int .i64 0), (.int .i64 1)]))], (.tup [(.p (.int .i64 5271)), (.p (.int .i64 0))]))
theorem tww2 (H : Hp) : W twe2.1 twe2.2.1 H = some (.ret twe2.2.2, H) := (show W twe2.1 twe2.2.1 H = W 18 [.p (encR pP), .p (.sl (([0,0,1] : List Int).map iP))] H by kernel_rfl).trans ((floor12_W pP [0,0,1] pP_fine (by decide) H).trans (by kernel_rfl))
def twl2 : List TabE := twe2 :: twl1
theorem twT2 : TabOK twl2 := tab_cons tww2 twT1
/-! ### sward/repr.Best (0 operations) -/
def twe3 : TabE := (15, [pD], (.tup [(.p (.sl [(.int .i64 2), (.int .i64 1), (.int .i64 2)])), (.p (.int .i64 321)), (.p (.int .i64 0))]))
theorem tww3 (H : Hp) : W twe3.1 twe3.2.1 H = some (.ret twe3.2.2, H) := (show W twe3.1 twe3.2.1 H = W 15 [.p (encR pP)] H by kernel_rfl).trans ((best16_W pP pP_fine H).trans (by kernel_rfl))
def twl3 : List TabE := twe3 :: twl2
theorem twT3 : TabOK twl3 := tab_cons tww3 twT2
/-! ### sward/repr.Least (0 operations) -/
def twe4 : TabE := (24, [pD, (.p (.int .i64 0)), (.p (.int .i64 3))], (.tup [(.p (.int .i64 6452)), (.p (.int .i64 0))]))
theorem tww4 (H : Hp) : W twe4.1 twe4.2.1 H = some (.ret twe4.2.2, H) := (show W twe4.1 twe4.2.1 H = W 24 [.p (encR pP), .p (.int .i64 0), .p (.int .i64 3)] H by kernel_rfl).trans ((least18_W pP 0 3 pP_fine H).trans (by kernel_rfl))
def twl4 : List TabE := twe4 :: twl3
theorem twT4 : TabOK twl4 := tab_cons tww4 twT3
/-! ### sward/repr.Prove (0 operations) -/
def twe5 : TabE := (21, [pD], (.tup [(.p (.sl [(.int .i64 (-1))])), (.p (.int .i64 0))]))
theorem tww5 (H : Hp) : W twe5.1 twe5.2.1 H = some (.ret twe5.2.2, H) := (show W twe5.1 twe5.2.1 H = W 21 [.p (encR pP)] H by kernel_rfl).trans ((prove21_W pP pP_fine H).trans (by kernel_rfl))
def twl5 : List TabE := twe5 :: twl4
theorem twT5 : TabOK twl5 := tab_cons tww5 twT4
/-! ### sward/swardref11.Accept (11922 operations) -/
def twe6 : TabE := (31, [pD, (.p (.int .i64 321)), prD], (.tup [(.p (.int .i64 0)), (.p (.int .i64 0))]))
theorem twr6 : (funB (pqX Tryz.prog ch others) Tryz.prog hn ch twe6.1).val 400 (calS Tryz.prog hn ch others doesN (semT twl5) (okT twF) 400) twe6.2.1 H00 = some (.ret twe6.2.2, H00) := by kernel_rfl
theorem tww6 (H : Hp) : W twe6.1 twe6.2.1 H = some (.ret twe6.2.2, H) := run_tab twF_ok twT5 400 (by kernel_rfl) twr6 H
def twl6 : List TabE := twe6 :: twl5
theorem twT6 : TabOK twl6 := tab_cons tww6 twT5
/-! ### sward/repr.Accept (6717 operations) -/
def twe7 : TabE := (17, [pD, (.p (.int .i64 322)), (.p (.sl [(.int .i64 2), (.int .i64 (-1)), (.int .i64 (-1))]))], (.tup [(.p (.int .i64 2)), (.p (.int .i64 7))]))
theorem twr7 : (funB (pqX Tryz.prog ch others) Tryz.prog hn ch twe7.1).val 400 (calS Tryz.prog hn ch others doesN (semT twl6) (okT twF) 400) twe7.2.1 H00 = some (.ret twe7.2.2, H00) := by kernel_rfl
theorem tww7 (H : Hp) : W twe7.1 twe7.2.1 H = some (.ret twe7.2.2, H) := run_tab twF_ok twT6 400 (by kernel_rfl) twr7 H
def twl7 : List TabE := twe7 :: twl6
theorem twT7 : TabOK twl7 := tab_cons tww7 twT6
/-! ### sward/repr.Accept (4688 operations) -/
def twe8 : TabE := (17, [pD, (.p (.int .i64 321)), prD], (.tup [(.p (.int .i64 0)), (.p (.int .i64 0))]))
theorem twr8 : (funB (pqX Tryz.prog ch others) Tryz.prog hn ch twe8.1).val 400 (calS Tryz.prog hn ch others doesN (semT twl7) (okT twF) 400) twe8.2.1 H00 = some (.ret twe8.2.2, H00) := by kernel_rfl
theorem tww8 (H : Hp) : W twe8.1 twe8.2.1 H = some (.ret twe8.2.2, H) := run_tab twF_ok twT7 400 (by kernel_rfl) twr8 H
def twl8 : List TabE := twe8 :: twl7
theorem twT8 : TabOK twl8 := tab_cons tww8 twT7
/-! ### sward/swardref03.ParseModule (0 operations) -/
def twe9 : TabE := (34, [mD], (.tup [(.p (.agg [(.str (by_ [109])), (.sl [(.agg [(.str (by_ [97])), (.int .i64 6), (.int .i64 0), (.int .i64 0), (.int .i64 5), (.sl [(.agg [(.int .i64 2), (.int .i64 0), (.int .i64 9), (.int .i64 0), (.sl [])])]), (.int .i64 7), (.int .i64 0), (.str (by_ [])), (.sl []), (.sl [])]), (.agg [(.str (by_ [98])), (.int .i64 6), (.int .i64 0), (.int .i64 0), (.int .i64 4), (.sl [(.agg [(.int .i64 4), (.int .i64 0), (.int .i64 0), (.int .i64 0), (.sl [])])]), (.int .i64 7), (.int .i64 0), (.str (by_ [])), (.sl []), (.sl [])])]), (.sl [(.agg [(.str (by_ [102])), (.sl [(.agg [(.str (by_ [120])), (.int .i64 2), (.int .i64 0), (.int .i64 9), (.int .i64 0), (.sl [])])]), (.sl [(.agg [(.int .i64 2), (.str (by_ [97])), (.int .i64 7), (.int .i64 0), (.str (by_ [])), (.sl []), (.sl [(.agg [(.int .i64 4), (.int .i64 0), (.str (by_ [120])), (.sl []), (.sl [])]), (.agg [(.int .i64 1), (.int .i64 1), (.str (by_ [])), (.sl []), (.sl [])])]), (.sl []), (.sl [])]), (.agg [(.int .i64 5), (.str (by_ [])), (.int .i64 11), (.int .i64 0), (.str (by_ [])), (.sl []), (.sl [(.agg [(.int .i64 4), (.int .i64 0), (.str (by_ [120])), (.sl []), (.sl [])]), (.agg [(.int .i64 4), (.int .i64 0), (.str (by_ [97])), (.sl []), (.sl [])])]), (.sl [(.agg [(.int .i64 1), (.str (by_ [98])), (.int .i64 4), (.int .i64 0), (.str (by_ [98])), (.sl []), (.sl []), (.sl []), (.sl [])])]), (.sl [])]), (.agg [(.int .i64 7), (.str (by_ [121])), (.int .i64 4), (.int .i64 0), (.str (by_ [97])), (.sl []), (.sl []), (.sl [(.agg [(.int .i64 3), (.str (by_ [97])), (.int .i64 7), (.int .i64 0), (.str (by_ [])), (.sl []), (.sl [(.agg [(.int .i64 4), (.int .i64 0), (.str (by_ [121])), (.sl []), (.sl [])])]), (.sl []), (.sl [])])]), (.sl [])])])])]), (.sl [(.agg [(.str (by_ [108])), (.int .i64 14), (.int .i64 0), (.str (by_ [])), (.sl []), (.sl [(.agg [(.int .i64 26), (.int .i64 0), (.str (by_ [])), (.sl []), (.sl [(.agg [(.int .i64 4), (.int .i64 0), (.str (by_ [97])), (.sl []), (.sl [])])])]), (.agg [(.int .i64 1), (.int .i64 9), (.str (by_ [])), (.sl []), (.sl [])])])])])])), (.p (.bool true))]))
theorem tww9 (H : Hp) : W twe9.1 twe9.2.1 H = some (.ret twe9.2.2, H) := tuw3 H
def twl9 : List TabE := twe9 :: twl8
theorem twT9 : TabOK twl9 := tab_cons tww9 twT8
/-! ### sward/repr.Uses (0 operations) -/
def twe10 : TabE := (9, [modD], (.tup [(.p (.agg [(.sl [(.agg [(.int .i64 5), (.sl [(.int .i64 1), (.int .i64 2), (.int .i64 3), (.int .i64 4), (.int .i64 5)])]), (.agg [(.int .i64 4), (.sl [(.int .i64 1), (.int .i64 3), (.int .i64 5)])])]), (.sl [(.agg [(.int .i64 2), (.int .i64 0), (.int .i64 0), (.int .i64 12)]), (.agg [(.int .i64 1), (.int .i64 0), (.int .i64 0), (.int .i64 1)]), (.agg [(.int .i64 6), (.int .i64 1), (.int .i64 1), (.int .i64 1)]), (.agg [(.int .i64 3), (.int .i64 0), (.int .i64 0), (.int .i64 1)])]), (.sl [])])), (.p (.int .i64 0))]))
theorem tww10 (H : Hp) : W twe10.1 twe10.2.1 H = some (.ret twe10.2.2, H) := tuw4 H
def twl10 : List TabE := twe10 :: twl9
theorem twT10 : TabOK twl10 := tab_cons tww10 twT9
/-! ### sward/swardlaw11.works (855 operations) -/
def twe11 : TabE := (8, [], (.p (.bool true)))
theorem twr11 : (funB (pqX Tryz.prog ch others) Tryz.prog hn ch twe11.1).val 400 (calS Tryz.prog hn ch others doesN (semT twl10) (okT twF) 400) twe11.2.1 H00 = some (.ret twe11.2.2, H00) := by kernel_rfl
theorem tww11 (H : Hp) : W twe11.1 twe11.2.1 H = some (.ret twe11.2.2, H) := run_tab twF_ok twT10 400 (by kernel_rfl) twr11 H
def twl11 : List TabE := twe11 :: twl10
theorem twT11 : TabOK twl11 := tab_cons tww11 twT10
theorem works9_W (H : Hp) : W 8 [] H = some (.ret (.p (.bool true)), H) := tww11 H
end Go.Vi
end

section
/- Vi: layer 11: the laws ReprCosts, ReprBests, ReprProves, ReprAccepts. No conditions but those that stand with each. -/
namespace Go.Vi
open Go Go.Lib Go.Proofs
set_option maxRecDepth 100000
attribute [local simp] E_skip E_ret E_exit E_text E_draw E_seq E_cond E_block E_scope E_loop runOps runOp runDraw runVF runV finV gate FlOK wantD exec fin opd look putF norm constD constC fieldAddrD loadD storeD opCall lenD binD isShift intP strP numD indexAddrD indexD D.pd? D.pds? sub capsOf callD argsD argD D.nf unP cellD mkF H00 cD_agg cD_pagg cD_int cD_bool cD_str cD_sl cD_lit cells_encS cells_encU cells_encW cells_encR box_encU box_encW box_encR encU_agg encR_agg encW_agg cells_int one_int buildSliceD elsD splice
attribute [local simp] fnOut retOut resD retsD retD oneD D.noRefs D.noRef alone Hp.cut newRow Hp.live

theorem best_fold {p : RProb} : ∀ (l : List (List Int)) (acc : Found) {b : List Int} {n : Int}, l.foldl (upd p) acc = some (b, n) →
    ((b ∈ l ∧ total p b = n) ∨ acc = some (b, n)) ∧ (∀ x ∈ l, n ≤ total p x) ∧ (∀ b' n', acc = some (b', n') → n ≤ n')
  | [], acc, b, n, h => by
    rw [List.foldl_nil] at h
    refine ⟨.inr h, (fun x hx => nomatch hx), fun b' n' e => ?_⟩
    rw [e] at h
    injection h with h
    injection h with _ h
    omega
  | x :: l, acc, b, n, h => by
    rw [List.foldl_cons] at h
    obtain ⟨h1, h2, h3⟩ := best_fold l (upd p acc x) h
    cases acc with
    | none =>
      have hx := h3 x (total p x) rfl
      refine ⟨?_, fun y hy => ?_, fun b' n' e => by cases e⟩
      · rcases h1 with ⟨h1, e⟩ | h1
        · exact .inl ⟨by simp [h1], e⟩
        · simp only [upd, Option.some.injEq, Prod.mk.injEq] at h1
          exact .inl ⟨by simp [h1.1], by rw [← h1.1, h1.2]⟩
      · rcases List.mem_cons.1 hy with rfl | hy
        · exact hx
        · exact h2 y hy
    | some q =>
      obtain ⟨b0, n0⟩ := q
      by_cases hlt : total p x < n0
      · have e : upd p (some (b0, n0)) x = some (x, total p x) := by simp only [upd, if_pos hlt]
        rw [e] at h1 h3
        have hx := h3 x (total p x) rfl
        refine ⟨?_, fun y hy => ?_, fun b' n' e => ?_⟩
        · rcases h1 with ⟨h1, e⟩ | h1
          · exact .inl ⟨by simp [h1], e⟩
          · simp only [Option.some.injEq, Prod.mk.injEq] at h1
            exact .inl ⟨by simp [h1.1], by rw [← h1.1, h1.2]⟩
        · rcases List.mem_cons.1 hy with rfl | hy
          · exact hx
          · exact h2 y hy
        · simp only [Option.some.injEq, Prod.mk.injEq] at e
          omega
      · have e : upd p (some (b0, n0)) x = some (b0, n0) := by simp only [upd, if_neg hlt]
        rw [e] at h1 h3
        have hx := h3 b0 n0 rfl
        refine ⟨?_, fun y hy => ?_, h3⟩
        · rcases h1 with ⟨h1, e⟩ | h1
          · exact .inl ⟨by simp [h1], e⟩
          · exact .inr h1
        · rcases List.mem_cons.1 hy with rfl | hy
          · omega
          · exact h2 y hy
theorem best_some {p : RProb} (_ : p.ok = true) {b : List Int} {n : Int} (h : bestR p = some (b, n)) : b ∈ choR p p.sets [] ∧ total p b = n ∧ ∀ x ∈ choR p p.sets [], n ≤ total p x := by
  obtain ⟨h1, h2, _⟩ := best_fold _ _ h
  rcases h1 with ⟨h1, e⟩ | h1
  · exact ⟨h1, e, h2⟩
  · cases h1
theorem sum_bd (c : RUse → Int) : ∀ (l : List RUse) (s : Int), (∀ u ∈ l, 0 ≤ u.t ∧ u.t ≤ 1000 ∧ 0 ≤ c u ∧ c u ≤ 2200000) → s ≤ sumU c s l ∧ sumU c s l ≤ s + l.length * 2200000000
  | [], s, _ => by simp [sumU]
  | u :: l, s, h => by
    obtain ⟨h1, h2, h3, h4⟩ := h u (by simp)
    have ih := sum_bd c l (s + u.t * c u) fun v hv => h v (by simp [hv])
    have g1 : 0 ≤ u.t * c u := Int.mul_nonneg h1 h3
    have g2 : u.t * c u ≤ 1000 * 2200000 := Int.mul_le_mul h2 h4 h3 (by omega)
    simp only [sumU, List.length_cons]
    omega
theorem best_bound {p : RProb} (hp : p.ok = true) {b : List Int} {n : Int} (h : bestR p = some (b, n)) : 0 ≤ n ∧ n ≤ 66000000000 := by
  obtain ⟨_, rfl, _⟩ := best_some hp h
  have hu : p.uses.length ≤ 30 := by
    simp only [RProb.ok, Bool.and_eq_true, decide_eq_true_eq] at hp
    exact hp.1.1.1.1.2
  have := sum_bd (fun u => once p u (b.getD u.a.toNat 0) (b.getD u.b.toNat 0)) p.uses 0 fun u hu => by
    have h1 := once_bd hp u (b.getD u.a.toNat 0) (b.getD u.b.toNat 0)
    have h2 : inR u.t 1 1000 = true := by
      simp only [RProb.ok, Bool.and_eq_true, List.all_eq_true, useOK] at hp
      exact (hp.1.2 u hu).1.1.2
    simp only [inR, Bool.and_eq_true, decide_eq_true_eq] at h2
    omega
  unfold total
  omega

theorem accept_grow {p : RProb} (hp : p.ok = true) {b : List Int} {n : Int} (hb : bestR p = some (b, n)) :
    acceptA p n (grow p n p.sets.length p.zero 0) = (0, 0) ∧ (acceptA p (n + 1) (grow p n p.sets.length p.zero 0)).2 = 7 := by
  obtain ⟨hm, hn, hmin⟩ := best_some hp hb
  have hlen := grow_bound hp n p.zero
  rw [choices_eq] at hm hmin
  have hz : p.zero.length = p.sets.length := by simp [RProb.zero]
  obtain ⟨w1, t1, h1, _, _⟩ := grow_tre hp n n p.sets.length p.zero 0 [] [] (by omega) hz (fun j hj => by omega) (fun j _ => zero_getD p j)
  obtain ⟨w2, t2, _, h2, _⟩ := grow_tre hp n (n + 1) p.sets.length p.zero 0 [] [] (by omega) hz (fun j hj => by omega) (fun j _ => zero_getD p j)
  simp only [List.nil_append, List.append_nil, List.length_nil, Nat.zero_add] at t1 t2
  have e1 := h1 (Int.le_refl _) hmin
  have e2 := h2 b hm (by omega)
  have hl : ¬ 4000 < (grow p n p.sets.length p.zero 0).length := by omega
  unfold acceptA
  rw [if_neg hl, if_pos hp, t1, if_neg hl, if_pos hp, t2]
  simp only [Nat.lt_irrefl, if_false]
  rw [e1]
  exact ⟨by simp, by rw [if_pos e2]⟩

end Go.Vi
end
