/- It is proved here what functions of the program's layer 11 and of its specification compute; conditions stand with each. The chapter's examples. -/
import Derived.Test.YtglpifnmlnebbaaGreatDoorMRC
set_option linter.unusedVariables false
set_option linter.unusedSimpArgs false

section
/- Vi: layer 11: the law ReprKnown: a run in the kernel. No conditions. -/
namespace Go.Vi
open Go Go.Lib Go.Proofs
set_option maxRecDepth 100000
def pP1 : RProb := { pP with same := [(0, 1)] }
theorem pP1_fine : pP1.fine := big_fine pP1 rfl
def pP2 : RProb := { pP with same := [(0, 1), (0, 2)] }
theorem pP2_fine : pP2.fine := big_fine pP2 rfl
def p1D : D := (.p (.agg [(.sl [(.agg [(.int .i64 100), (.sl [(.int .i64 1), (.int .i64 2), (.int .i64 3), (.int .i64 4), (.int .i64 5)])]), (.agg [(.int .i64 10), (.sl [(.int .i64 1), (.int .i64 3), (.int .i64 5)])]), (.agg [(.int .i64 100), (.sl [(.int .i64 1), (.int .i64 2)])])]), (.sl [(.agg [(.int .i64 1), (.int .i64 0), (.int .i64 0), (.int .i64 100)]), (.agg [(.int .i64 6), (.int .i64 0), (.int .i64 2), (.int .i64 1)]), (.agg [(.int .i64 3), (.int .i64 1), (.int .i64 0), (.int .i64 2)]), (.agg [(.int .i64 2), (.int .i64 2), (.int .i64 0), (.int .i64 50)])]), (.sl [(.agg [(.int .i64 0), (.int .i64 1)])])]))
def p2D : D := (.p (.agg [(.sl [(.agg [(.int .i64 100), (.sl [(.int .i64 1), (.int .i64 2), (.int .i64 3), (.int .i64 4), (.int .i64 5)])]), (.agg [(.int .i64 10), (.sl [(.int .i64 1), (.int .i64 3), (.int .i64 5)])]), (.agg [(.int .i64 100), (.sl [(.int .i64 1), (.int .i64 2)])])]), (.sl [(.agg [(.int .i64 1), (.int .i64 0), (.int .i64 0), (.int .i64 100)]), (.agg [(.int .i64 6), (.int .i64 0), (.int .i64 2), (.int .i64 1)]), (.agg [(.int .i64 3), (.int .i64 1), (.int .i64 0), (.int .i64 2)]), (.agg [(.int .i64 2), (.int .i64 2), (.int .i64 0), (.int .i64 50)])]), (.sl [(.agg [(.int .i64 0), (.int .i64 1)]), (.agg [(.int .i64 0), (.int .i64 2)])])]))
def tkF : List FuncId := [7, 14, 23, 24, 25, 26, 27, 33, 37, 38, 43, 48, 59, 60, 61, 69, 88, 89, 91, 125, 126, 153, 154, 155, 156, 157, 158, 159, 160, 162, 187, 188, 195]
theorem tkF_ok : tkF.all (fun f => okFn Tryz.prog ch f) = true := by kernel_rfl
theorem tkT0 : TabOK [] := tab_nil
/-! ### sward/repr.Cost (0 operations) -/
def tke1 : TabE := (10, [pD, (.p (.sl [(.int .i64 2), (.int .i64 1), (.int .i64 2)]))], (.tup [(.p (.int .i64 321)), (.p (.int .i64 0))]))
theorem tkw1 (H : Hp) : W tke1.1 tke1.2.1 H = some (.ret tke1.2.2, H) := (show W tke1.1 tke1.2.1 H = W 10 [.p (encR pP), .p (.sl (([2, 1, 2] : List Int).map iP))] H by kernel_rfl).trans ((cost10_W pP [2, 1, 2] pP_fine (by decide) H).trans (by kernel_rfl))
def tkl1 : List TabE := tke1 :: []
theorem tkT1 : TabOK tkl1 := tab_cons tkw1 tkT0
/-! ### sward/repr.Cost (0 operations) -/
def tke2 : TabE := (10, [pD, (.p (.sl [(.int .i64 1), (.int .i64 1), (.int .i64 1)]))], (.tup [(.p (.int .i64 5771)), (.p (.int .i64 0))]))
theorem tkw2 (H : Hp) : W tke2.1 tke2.2.1 H = some (.ret tke2.2.2, H) := (show W tke2.1 tke2.2.1 H = W 10 [.p (encR pP), .p (.sl (([1, 1, 1] : List Int).map iP))] H by kernel_rfl).trans ((cost10_W pP [1, 1, 1] pP_fine (by decide) H).trans (by kernel_rfl))
def tkl2 : List TabE := tke2 :: tkl1
theorem tkT2 : TabOK tkl2 := tab_cons tkw2 tkT1
/-! ### sward/repr.Cost (0 operations) -/
def tke3 : TabE := (10, [pD, (.p (.sl [(.int .i64 5), (.int .i64 1), (.int .i64 2)]))], (.tup [(.p (.int .i64 952)), (.p (.int .i64 0))]))
theorem tkw3 (H : Hp) : W tke3.1 tke3.2.1 H = some (.ret tke3.2.2, H) := (show W tke3.1 tke3.2.1 H = W 10 [.p (encR pP), .p (.sl (([5, 1, 2] : List Int).map iP))] H by kernel_rfl).trans ((cost10_W pP [5, 1, 2] pP_fine (by decide) H).trans (by kernel_rfl))
def tkl3 : List TabE := tke3 :: tkl2
theorem tkT3 : TabOK tkl3 := tab_cons tkw3 tkT2
/-! ### sward/repr.Cost (0 operations) -/
def tke4 : TabE := (10, [pD, (.p (.sl [(.int .i64 4), (.int .i64 1), (.int .i64 1)]))], (.tup [(.p (.int .i64 6170)), (.p (.int .i64 0))]))
theorem tkw4 (H : Hp) : W tke4.1 tke4.2.1 H = some (.ret tke4.2.2, H) := (show W tke4.1 tke4.2.1 H = W 10 [.p (encR pP), .p (.sl (([4, 1, 1] : List Int).map iP))] H by kernel_rfl).trans ((cost10_W pP [4, 1, 1] pP_fine (by decide) H).trans (by kernel_rfl))
def tkl4 : List TabE := tke4 :: tkl3
theorem tkT4 : TabOK tkl4 := tab_cons tkw4 tkT3
/-! ### sward/repr.Cost (0 operations) -/
def tke5 : TabE := (10, [pD, (.p (.sl [(.int .i64 2), (.int .i64 2), (.int .i64 2)]))], (.tup [(.p (.int .i64 0)), (.p (.int .i64 7))]))
theorem tkw5 (H : Hp) : W tke5.1 tke5.2.1 H = some (.ret tke5.2.2, H) := (show W tke5.1 tke5.2.1 H = W 10 [.p (encR pP), .p (.sl (([2, 2, 2] : List Int).map iP))] H by kernel_rfl).trans ((cost10_W pP [2, 2, 2] pP_fine (by decide) H).trans (by kernel_rfl))
def tkl5 : List TabE := tke5 :: tkl4
theorem tkT5 : TabOK tkl5 := tab_cons tkw5 tkT4
/-! ### sward/repr.Cost (0 operations) -/
def tke6 : TabE := (10, [pD, (.p (.sl [(.int .i64 2), (.int .i64 1), (.int .i64 0)]))], (.tup [(.p (.int .i64 0)), (.p (.int .i64 2))]))
theorem tkw6 (H : Hp) : W tke6.1 tke6.2.1 H = some (.ret tke6.2.2, H) := (show W tke6.1 tke6.2.1 H = W 10 [.p (encR pP), .p (.sl (([2, 1, 0] : List Int).map iP))] H by kernel_rfl).trans ((cost10_W pP [2, 1, 0] pP_fine (by decide) H).trans (by kernel_rfl))
def tkl6 : List TabE := tke6 :: tkl5
theorem tkT6 : TabOK tkl6 := tab_cons tkw6 tkT5
/-! ### sward/repr.Floor (0 operations) -/
def tke7 : TabE := (12, [pD, (.p (.sl [(.int .i64 0), (.int .i64 0), (.int .i64 0)]))], (.tup [(.p (.int .i64 321)), (.p (.int .i64 0))]))
theorem tkw7 (H : Hp) : W tke7.1 tke7.2.1 H = some (.ret tke7.2.2, H) := (show W tke7.1 tke7.2.1 H = W 12 [.p (encR pP), .p (.sl (([0, 0, 0] : List Int).map iP))] H by kernel_rfl).trans ((floor12_W pP [0, 0, 0] pP_fine (by decide) H).trans (by kernel_rfl))
def tkl7 : List TabE := tke7 :: tkl6
theorem tkT7 : TabOK tkl7 := tab_cons tkw7 tkT6
/-! ### sward/repr.Floor (0 operations) -/
def tke8 : TabE := (12, [pD, (.p (.sl [(.int .i64 0), (.int .i64 0), (.int .i64 1)]))], (.tup [(.p (.int .i64 5271)), (.p (.int .i64 0))]))
theorem tkw8 (H : Hp) : W tke8.1 tke8.2.1 H = some (.ret tke8.2.2, H) := (show W tke8.1 tke8.2.1 H = W 12 [.p (encR pP), .p (.sl (([0, 0, 1] : List Int).map iP))] H by kernel_rfl).trans ((floor12_W pP [0, 0, 1] pP_fine (by decide) H).trans (by kernel_rfl))
def tkl8 : List TabE := tke8 :: tkl7
theorem tkT8 : TabOK tkl8 := tab_cons tkw8 tkT7
/-! ### sward/repr.Floor (0 operations) -/
def tke9 : TabE := (12, [pD, (.p (.sl [(.int .i64 2), (.int .i64 0), (.int .i64 0)]))], (.tup [(.p (.int .i64 321)), (.p (.int .i64 0))]))
theorem tkw9 (H : Hp) : W tke9.1 tke9.2.1 H = some (.ret tke9.2.2, H) := (show W tke9.1 tke9.2.1 H = W 12 [.p (encR pP), .p (.sl (([2, 0, 0] : List Int).map iP))] H by kernel_rfl).trans ((floor12_W pP [2, 0, 0] pP_fine (by decide) H).trans (by kernel_rfl))
def tkl9 : List TabE := tke9 :: tkl8
theorem tkT9 : TabOK tkl9 := tab_cons tkw9 tkT8
/-! ### sward/repr.Floor (0 operations) -/
def tke10 : TabE := (12, [pD, (.p (.sl [(.int .i64 0), (.int .i64 2), (.int .i64 0)]))], (.tup [(.p (.int .i64 0)), (.p (.int .i64 7))]))
theorem tkw10 (H : Hp) : W tke10.1 tke10.2.1 H = some (.ret tke10.2.2, H) := (show W tke10.1 tke10.2.1 H = W 12 [.p (encR pP), .p (.sl (([0, 2, 0] : List Int).map iP))] H by kernel_rfl).trans ((floor12_W pP [0, 2, 0] pP_fine (by decide) H).trans (by kernel_rfl))
def tkl10 : List TabE := tke10 :: tkl9
theorem tkT10 : TabOK tkl10 := tab_cons tkw10 tkT9
/-! ### sward/repr.Floor (0 operations) -/
def tke11 : TabE := (12, [pD, (.p (.sl [(.int .i64 0), (.int .i64 0)]))], (.tup [(.p (.int .i64 0)), (.p (.int .i64 2))]))
theorem tkw11 (H : Hp) : W tke11.1 tke11.2.1 H = some (.ret tke11.2.2, H) := (show W tke11.1 tke11.2.1 H = W 12 [.p (encR pP), .p (.sl (([0, 0] : List Int).map iP))] H by kernel_rfl).trans ((floor12_W pP [0, 0] pP_fine (by decide) H).trans (by kernel_rfl))
def tkl11 : List TabE := tke11 :: tkl10
theorem tkT11 : TabOK tkl11 := tab_cons tkw11 tkT10
/-! ### sward/repr.Least (0 operations) -/
def tke12 : TabE := (18, [pD, (.p (.int .i64 0)), (.p (.int .i64 5))], (.tup [(.p (.int .i64 952)), (.p (.int .i64 0))]))
theorem tkw12 (H : Hp) : W tke12.1 tke12.2.1 H = some (.ret tke12.2.2, H) := (show W tke12.1 tke12.2.1 H = W 18 [.p (encR pP), .p (.int .i64 0), .p (.int .i64 5)] H by kernel_rfl).trans ((least18_W pP 0 5 pP_fine H).trans (by kernel_rfl))
def tkl12 : List TabE := tke12 :: tkl11
theorem tkT12 : TabOK tkl12 := tab_cons tkw12 tkT11
/-! ### sward/repr.Least (0 operations) -/
def tke13 : TabE := (18, [pD, (.p (.int .i64 0)), (.p (.int .i64 3))], (.tup [(.p (.int .i64 6452)), (.p (.int .i64 0))]))
theorem tkw13 (H : Hp) : W tke13.1 tke13.2.1 H = some (.ret tke13.2.2, H) := (show W tke13.1 tke13.2.1 H = W 18 [.p (encR pP), .p (.int .i64 0), .p (.int .i64 3)] H by kernel_rfl).trans ((least18_W pP 0 3 pP_fine H).trans (by kernel_rfl))
def tkl13 : List TabE := tke13 :: tkl12
theorem tkT13 : TabOK tkl13 := tab_cons tkw13 tkT12
/-! ### sward/repr.Least (0 operations) -/
def tke14 : TabE := (18, [pD, (.p (.int .i64 1)), (.p (.int .i64 2))], (.tup [(.p (.int .i64 0)), (.p (.int .i64 5))]))
theorem tkw14 (H : Hp) : W tke14.1 tke14.2.1 H = some (.ret tke14.2.2, H) := (show W tke14.1 tke14.2.1 H = W 18 [.p (encR pP), .p (.int .i64 1), .p (.int .i64 2)] H by kernel_rfl).trans ((least18_W pP 1 2 pP_fine H).trans (by kernel_rfl))
def tkl14 : List TabE := tke14 :: tkl13
theorem tkT14 : TabOK tkl14 := tab_cons tkw14 tkT13
/-! ### sward/repr.Least (0 operations) -/
def tke15 : TabE := (18, [pD, (.p (.int .i64 3)), (.p (.int .i64 1))], (.tup [(.p (.int .i64 0)), (.p (.int .i64 2))]))
theorem tkw15 (H : Hp) : W tke15.1 tke15.2.1 H = some (.ret tke15.2.2, H) := (show W tke15.1 tke15.2.1 H = W 18 [.p (encR pP), .p (.int .i64 3), .p (.int .i64 1)] H by kernel_rfl).trans ((least18_W pP 3 1 pP_fine H).trans (by kernel_rfl))
def tkl15 : List TabE := tke15 :: tkl14
theorem tkT15 : TabOK tkl15 := tab_cons tkw15 tkT14
/-! ### sward/repr.Best (0 operations) -/
def tke16 : TabE := (16, [p1D], (.tup [(.p (.sl [(.int .i64 5), (.int .i64 5), (.int .i64 2)])), (.p (.int .i64 988)), (.p (.int .i64 0))]))
theorem tkw16 (H : Hp) : W tke16.1 tke16.2.1 H = some (.ret tke16.2.2, H) := (show W tke16.1 tke16.2.1 H = W 16 [.p (encR pP1)] H by kernel_rfl).trans ((best16_W pP1 pP1_fine H).trans (by kernel_rfl))
def tkl16 : List TabE := tke16 :: tkl15
theorem tkT16 : TabOK tkl16 := tab_cons tkw16 tkT15
/-! ### sward/repr.Best (0 operations) -/
def tke17 : TabE := (16, [p2D], (.tup [(.p (.sl [(.int .i64 1), (.int .i64 1), (.int .i64 1)])), (.p (.int .i64 5771)), (.p (.int .i64 0))]))
theorem tkw17 (H : Hp) : W tke17.1 tke17.2.1 H = some (.ret tke17.2.2, H) := (show W tke17.1 tke17.2.1 H = W 16 [.p (encR pP2)] H by kernel_rfl).trans ((best16_W pP2 pP2_fine H).trans (by kernel_rfl))
def tkl17 : List TabE := tke17 :: tkl16
theorem tkT17 : TabOK tkl17 := tab_cons tkw17 tkT16
/-! ### sward/repr.Best (0 operations) -/
def tke18 : TabE := (16, [(.p (.agg [(.sl []), (.sl []), (.sl [])]))], (.tup [(.p (.sl [])), (.p (.int .i64 0)), (.p (.int .i64 0))]))
theorem tkw18 (H : Hp) : W tke18.1 tke18.2.1 H = some (.ret tke18.2.2, H) := (show W tke18.1 tke18.2.1 H = W 16 [.p (encR p0)] H by kernel_rfl).trans ((best16_W p0 (big_fine p0 rfl) H).trans (by kernel_rfl))
def tkl18 : List TabE := tke18 :: tkl17
theorem tkT18 : TabOK tkl18 := tab_cons tkw18 tkT17
/-! ### sward/swardlaw11.works (0 operations) -/
def tke19 : TabE := (9, [], (.p (.bool true)))
theorem tkw19 (H : Hp) : W tke19.1 tke19.2.1 H = some (.ret tke19.2.2, H) := works9_W H
def tkl19 : List TabE := tke19 :: tkl18
theorem tkT19 : TabOK tkl19 := tab_cons tkw19 tkT18
/-! ### sward/swardlaw11.ReprKnown (35393 operations) -/
def tke20 : TabE := (7, [], (.p (.bool true)))
theorem tkr20 : (funB (pqX Tryz.prog ch others) Tryz.prog hn ch tke20.1).val 400 (calS Tryz.prog hn ch others doesN (semT tkl19) (okT tkF) 400) tke20.2.1 H00 = some (.ret tke20.2.2, H00) := by kernel_rfl
theorem tkw20 (H : Hp) : W tke20.1 tke20.2.1 H = some (.ret tke20.2.2, H) := run_tab tkF_ok tkT19 400 (by kernel_rfl) tkr20 H
def tkl20 : List TabE := tke20 :: tkl19
theorem tkT20 : TabOK tkl20 := tab_cons tkw20 tkT19
theorem law7_W (H : Hp) : W 7 [] H = some (.ret (.p (.bool true)), H) := tkw20 H
end Go.Vi
end
