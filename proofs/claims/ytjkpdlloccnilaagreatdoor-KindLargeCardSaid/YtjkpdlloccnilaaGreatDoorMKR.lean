/- It is proved here what functions of the program's layer 5 and of its specification compute; conditions stand with each. Joins. -/
import Derived.Test.YtjkpdlloccnilaaGreatDoorMKP
set_option linter.unusedVariables false
set_option linter.unusedSimpArgs false

section
/- Vi: layer 5: a drawn region with a place kept; kind.join: one round. No conditions but those that stand with each. -/
namespace Go.Vi
open Go Go.Lib Go.Proofs
set_option maxRecDepth 100000
attribute [local simp] E_skip E_ret E_exit E_text E_draw E_seq E_cond E_block E_scope E_loop runOps runOp drawR slotsOf Hp.kept_zero runDraw runVF runX runV finV gate FlOK FlOK0 wantD exec fin opd look putF norm constD constC fieldAddrD loadD storeD opCall lenD binD isShift intP strP numD indexAddrD indexD D.pd? D.pds? sub capsOf callD argsD argD D.nf unP cellD mkF H00 cD_agg cD_pagg cD_int cD_bool cD_str cD_sl cD_lit cells_int
attribute [local simp] fnOut retOut resD retsD retD oneD D.noRefs D.noRef alone Hp.cut
attribute [local simp] cells_encK encK_agg box_encK one_int one_str one_sl one_agg
attribute [local simp] newRow Hp.live

theorem pq_none : PqOK (fun _ => false) W := fun g args H out H1 h => by cases h
/-- A drawn region, by the ways that are computed. -/
theorem E_drawN {mu : Bool} {m : Mk} {f : FuncId} {F : Fr} {H : Hp} {id : Nat} {ops : Array Oper} {F1 : Fr} {H1 : Hp} (h : drawRN (fun _ => false) Tryz.prog hn mu m W ops (ch.fl f id) F H = some (.go F1 H1)) :
    E mu m f (.region id ops true) F H = some (.normal, norm (ch.keep f id) F1, H1) := by
  rw [E_draw, drawRN_le pq_none h]
def outN (keep : List Tmp) : Option RO → Option (Fr × Hp)
  | some (.go F1 H1) => some (norm keep F1, H1)
  | _ => none
theorem E_drawO {mu : Bool} {m : Mk} {f : FuncId} {F : Fr} {H : Hp} {id : Nat} {ops : Array Oper} {F2 : Fr} {H2 : Hp} (h : outN (ch.keep f id) (drawRN (fun _ => false) Tryz.prog hn mu m W ops (ch.fl f id) F H) = some (F2, H2)) :
    E mu m f (.region id ops true) F H = some (.normal, F2, H2) := by
  unfold outN at h
  split at h
  · rename_i F1 H1 h1
    injection h with h
    simp only [Prod.mk.injEq] at h
    rw [E_drawN h1, h.1, h.2]
  · cases h
def cBlk : Code → Code
  | .block _ c => c
  | c => c
noncomputable def regOps : Code → Array Oper
  | .region _ o _ => o
  | _ => #[]

noncomputable def r13 : Code := cFst (cSnd (cBlk (cFst (cSnd (cSnd lp70_0)))))
theorem r13_eq : r13 = .region 13 (regOps r13) true := by kernel_rfl
theorem kept1 (B : List Blk) (A : List Arr) : Hp.kept ⟨B, A⟩ 1 = ⟨B ++ [.hole], A⟩ := rfl
theorem closed_app {B : List Blk} (T : List Blk) (h : closedB B.length B = true) : closedB B.length (B ++ T) = true := by
  unfold closedB at *
  rw [Bool.and_eq_true] at h ⊢
  refine ⟨by simp, ?_⟩
  rw [List.take_left]
  simpa using h.2
theorem top_p (x : PD) : D.top (.p x) = 0 := rfl
theorem top_ptr (i o : Nat) : D.top (.ptr i o) = i + 1 := rfl
theorem top_dead : D.top .dead = 0 := rfl
theorem reg13_W (a b : Kd) (i : Nat) (B : List Blk) (A : List Arr) (x y z u : D) (d : D) (t : Bool) (h0 : B[0]? = some (bK a)) (h1 : B[1]? = some (bK b)) (hl : 4 ≤ B.length) (hc : closedB B.length B = true) (hi : i < a.ps.length) (hib : i < b.ps.length)
    (p : Kd)
    (hr : ∀ H, W 70 [.p (encK a.ps[i]), .p (encK b.ps[i])] H = some (.ret (.tup [.p (encK p), .p (.bool t)]), H)) :
    E false ⟨0, 0⟩ 70 r13 [(2, .ptr 0 0), (3, .ptr 1 0), (4, x), (6, y), (7, .p (.int .i64 i)), (61, z), (62, u)] ⟨B, A⟩ =
      some (.normal, [(2, .ptr 0 0), (3, .ptr 1 0), (4, x), (6, y), (8, .ptr B.length 0), (9, .p (.bool t)), (61, z), (62, u)], ⟨B ++ [bK p], A⟩) := by
  have g0 : (B ++ [Blk.hole])[0]? = some (bK a) := by rw [List.getElem?_append_left (by omega)]; exact h0
  have g1 : (B ++ [Blk.hole])[1]? = some (bK b) := by rw [List.getElem?_append_left (by omega)]; exact h1
  have gs : (B ++ [Blk.hole])[B.length]? = some .hole := by simp
  have hcl := closed_app [.hole] hc
  have h0l : 0 < B.length := by omega
  have h1l : 1 < B.length := by omega
  have hm : (B ++ [Blk.hole]).take B.length = B := List.take_left
  have b0 : B[0] = bK a := by
    have := List.getElem?_eq_getElem h0l
    rw [h0] at this; injection this with this; exact this.symm
  have b1 : B[1] = bK b := by
    have := List.getElem?_eq_getElem h1l
    rw [h1] at this; injection this with this; exact this.symm
  simp only [bK] at b0 b1
  rw [r13_eq]
  refine E_drawO ?_
  simp [outN, r13, cFst, cSnd, cBlk, regOps, lp70_0, code70, Tryz.f70, drawRN, runDrawN, gateN, flY, flX, rdLow, rdB, freeM, slotF, maskX, lowF, slotD, maskD, Oper.looksAt, Op.operands, Call.operands, flN, soft6, kept1, b0, b1, h0l, h1l, hi, hib, hcl, top_p, hr, allHole, splice, bK]
end Go.Vi
end

section
/- Vi: layer 5: kind.join: its loop. No conditions but those that stand with each. -/
namespace Go.Vi
open Go Go.Lib Go.Proofs
set_option maxRecDepth 100000
attribute [local simp] E_skip E_ret E_exit E_text E_draw E_seq E_cond E_block E_scope E_loop runOps runOp drawR slotsOf Hp.kept_zero runDraw runVF runX runV finV gate FlOK FlOK0 wantD exec fin opd look putF norm constD constC fieldAddrD loadD storeD opCall lenD binD isShift intP strP numD indexAddrD indexD D.pd? D.pds? sub capsOf callD argsD argD D.nf unP cellD mkF H00 cD_agg cD_pagg cD_int cD_bool cD_str cD_sl cD_lit cells_int
attribute [local simp] fnOut retOut resD retsD retD oneD D.noRefs D.noRef alone Hp.cut
attribute [local simp] cells_encK encK_agg box_encK one_int one_str one_sl one_agg
attribute [local simp] newRow Hp.live

theorem one_encK (k : Kd) : (encK k).one = false := by rw [encK_eq]; rfl
theorem joinPs_nil (l : List Kd) : joinPs [] l = some [] := by cases l <;> simp [joinPs]
/-- The variable of what comes out. -/
def oB (f lo hi mo : Int) (d : D) : Blk := .cells [.p (.int .i64 f), .p (.int .i64 lo), .p (.int .i64 hi), .p (.int .i64 mo), d]
def zB : Blk := .cells [.p (.int .i64 0), .p (.int .i64 0), .p (.int .i64 0), .p (.int .i64 0), .lit true []]
def fr70 (n i : Nat) : Fr := [(2, .ptr 0 0), (3, .ptr 1 0), (4, .ptr 2 0), (6, .ptr 3 0), (61, .p (.int .i64 n)), (62, .p (.int .i64 i))]
def memJ (a b : Kd) (f lo hi mo : Int) (d : D) (X : List Blk) (A : List Arr) : Hp := ⟨bK a :: bK b :: zB :: oB f lo hi mo d :: X, A⟩
theorem top_row {A : List Arr} {e : TypeId} {sz : Nat} {d : D} {L : List PD} (h : GRow A e sz d L) : D.top d = 0 := by
  rcases h with ⟨rfl, _⟩ | ⟨k, ver, rfl, _⟩ <;> rfl
theorem top_bK (k : Kd) : (bK k).top = 0 := by simp [bK, Blk.top, D.tops, D.top]
theorem closedJ {a b : Kd} {f lo hi mo : Int} {d : D} {X : List Blk} (hd : D.top d = 0) (hX : ∀ x ∈ X, x.top = 0) : closedB (bK a :: bK b :: zB :: oB f lo hi mo d :: X).length (bK a :: bK b :: zB :: oB f lo hi mo d :: X) = true := by
  unfold closedB
  rw [List.take_length, Bool.and_eq_true]
  refine ⟨by simp, ?_⟩
  rw [List.all_eq_true]
  intro x hx
  have : x.top = 0 := by
    simp only [List.mem_cons] at hx
    rcases hx with rfl | rfl | rfl | rfl | hx
    · exact top_bK a
    · exact top_bK b
    · rfl
    · simp [oB, Blk.top, D.tops, top_p, hd]
    · exact hX x hx
  simp [this]

theorem r70_blk : cFst (cSnd (cSnd lp70_0)) = .block 2 (cBlk (cFst (cSnd (cSnd lp70_0)))) := by kernel_rfl
section
variable (a b : Kd) (f lo hi mo : Int)
/-- A round: the two parts have a join. -/
theorem round70_some (i : Nat) (hi' : i < a.ps.length) (hib : i < b.ps.length) (hlt : a.ps.length < 4611686018427387904) (d : D) (X : List Blk) (A : List Arr) (l : List Kd) (q : Kd) (hd : GRow A 25 5 d (l.map encK)) (hX : ∀ x ∈ X, x.top = 0) (hl : l.length ≤ 1000)
    (hr : ∀ H, W 70 [.p (encK a.ps[i]), .p (encK b.ps[i])] H = some (.ret (.tup [.p (encK q), .p (.bool true)]), H)) :
    ∃ d' A', E false ⟨0, 0⟩ 70 lp70_0 (fr70 a.ps.length i) (memJ a b f lo hi mo d X A) = some (.normal, fr70 a.ps.length (i + 1), memJ a b f lo hi mo d' (X ++ [bK q]) A') ∧ GRow A' 25 5 d' ((l ++ [q]).map encK) := by
  have hfit : fits 5 [encK q] = true := by rw [encK_eq]; rfl
  obtain ⟨d', A', h1, h2, h3, _⟩ := hd.app (t := 23) (by_ := 56) (ys := [encK q]) (y := .lit false [encK q]) (bK a :: bK b :: zB :: oB f lo hi mo d :: (X ++ [bK q])) (by simp) (by simp) (by simp) (by omega) (by omega) (by kernel_rfl) (by simp [srcD]) (by simp) hfit (by simp; omega)
  refine ⟨d', A', ?_, by simpa using h2⟩
  have hr13 := reg13_W a b i (bK a :: bK b :: zB :: oB f lo hi mo d :: X) A (.ptr 2 0) (.ptr 3 0) (.p (.int .i64 a.ps.length)) (.p (.int .i64 i)) .dead true rfl rfl (by simp) (closedJ (top_row hd) hX) hi' hib q hr
  have hw : IntKind.i64.wrap ((i : Int) + 1) = (i : Int) + 1 := wrap64 (by omega) (by omega)
  have hcd := hd.cell
  have hcd' := h2.cell
  rw [E_cut (by rfl)]
  have e1 : E false ⟨0, 0⟩ 70 (cFst lp70_0) (fr70 a.ps.length i) (memJ a b f lo hi mo d X A) = some (.normal, [(2, .ptr 0 0), (3, .ptr 1 0), (4, .ptr 2 0), (6, .ptr 3 0), (61, .p (.int .i64 a.ps.length)), (62, .p (.int .i64 i)), (63, .p (.bool true))], memJ a b f lo hi mo d X A) := by
    simp [cFst, lp70_0, code70, Tryz.f70, fr70, hi']
  rw [e1]
  simp only
  rw [E_cut (by rfl)]
  have e2 : E false ⟨0, 0⟩ 70 (cFst (cSnd lp70_0)) [(2, .ptr 0 0), (3, .ptr 1 0), (4, .ptr 2 0), (6, .ptr 3 0), (61, .p (.int .i64 a.ps.length)), (62, .p (.int .i64 i)), (63, .p (.bool true))] (memJ a b f lo hi mo d X A) =
      some (.normal, [(2, .ptr 0 0), (3, .ptr 1 0), (4, .ptr 2 0), (6, .ptr 3 0), (61, .p (.int .i64 a.ps.length)), (62, .p (.int .i64 i)), (63, .p (.bool true))], memJ a b f lo hi mo d X A) := by
    simp [cFst, cSnd, lp70_0, code70, Tryz.f70]
  rw [e2]
  simp only
  rw [E_cut (by rfl), r70_blk, E_block, E_cut (by rfl)]
  have e3 : E false ⟨0, 0⟩ 70 (cFst (cBlk (cFst (cSnd (cSnd lp70_0))))) [(2, .ptr 0 0), (3, .ptr 1 0), (4, .ptr 2 0), (6, .ptr 3 0), (61, .p (.int .i64 a.ps.length)), (62, .p (.int .i64 i)), (63, .p (.bool true))] (memJ a b f lo hi mo d X A) =
      some (.normal, [(2, .ptr 0 0), (3, .ptr 1 0), (4, .ptr 2 0), (6, .ptr 3 0), (7, .p (.int .i64 i)), (61, .p (.int .i64 a.ps.length)), (62, .p (.int .i64 i))], memJ a b f lo hi mo d X A) := by
    simp [cFst, cSnd, cBlk, lp70_0, code70, Tryz.f70]
  rw [e3]
  simp only
  rw [E_cut (by rfl)]
  have e4 : E false ⟨0, 0⟩ 70 (cFst (cSnd (cBlk (cFst (cSnd (cSnd lp70_0)))))) [(2, .ptr 0 0), (3, .ptr 1 0), (4, .ptr 2 0), (6, .ptr 3 0), (7, .p (.int .i64 i)), (61, .p (.int .i64 a.ps.length)), (62, .p (.int .i64 i))] (memJ a b f lo hi mo d X A) = _ := hr13
  rw [e4]
  simp only
  have hlen : (bK a :: bK b :: zB :: oB f lo hi mo d :: X).length = 4 + X.length := by simp; omega
  rw [E_cut (by rfl)]
  have e5 : E false ⟨0, 0⟩ 70 (cFst (cSnd (cSnd (cBlk (cFst (cSnd (cSnd lp70_0))))))) [(2, .ptr 0 0), (3, .ptr 1 0), (4, .ptr 2 0), (6, .ptr 3 0), (8, .ptr (bK a :: bK b :: zB :: oB f lo hi mo d :: X).length 0), (9, .p (.bool true)), (61, .p (.int .i64 a.ps.length)), (62, .p (.int .i64 i))]
      ⟨bK a :: bK b :: zB :: oB f lo hi mo d :: X ++ [bK q], A⟩ =
      some (.normal, [(2, .ptr 0 0), (3, .ptr 1 0), (4, .ptr 2 0), (6, .ptr 3 0), (8, .ptr (bK a :: bK b :: zB :: oB f lo hi mo d :: X).length 0), (61, .p (.int .i64 a.ps.length)), (62, .p (.int .i64 i)), (80, .p (.bool false))], ⟨bK a :: bK b :: zB :: oB f lo hi mo d :: X ++ [bK q], A⟩) := by
    simp [cFst, cSnd, cBlk, lp70_0, code70, Tryz.f70]
  rw [e5]
  simp only
  have e6 : E false ⟨0, 0⟩ 70 (cSnd (cSnd (cSnd (cBlk (cFst (cSnd (cSnd lp70_0))))))) [(2, .ptr 0 0), (3, .ptr 1 0), (4, .ptr 2 0), (6, .ptr 3 0), (8, .ptr (bK a :: bK b :: zB :: oB f lo hi mo d :: X).length 0), (61, .p (.int .i64 a.ps.length)), (62, .p (.int .i64 i)), (80, .p (.bool false))]
      ⟨bK a :: bK b :: zB :: oB f lo hi mo d :: X ++ [bK q], A⟩ =
      some (.normal, fr70 a.ps.length i, memJ a b f lo hi mo d' (X ++ [bK q]) A') := by
    have hg : (bK a :: bK b :: zB :: oB f lo hi mo d :: (X ++ [bK q]))[(bK a :: bK b :: zB :: oB f lo hi mo d :: X).length]? = some (bK q) := get_concat (bK a :: bK b :: zB :: oB f lo hi mo d :: X) (bK q)
    simp only [List.length_cons] at hg ⊢
    simp only [bK, oB] at hg h1
    simp only [cellD] at hcd'
    simp [cFst, cSnd, cBlk, lp70_0, code70, Tryz.f70, fr70, memJ, buildSliceD, elsD, bK, oB, splice, hcd, hcd', h1, h3, one_encK]
  rw [e6]
  simp [cFst, cSnd, lp70_0, code70, Tryz.f70, fr70, memJ, hw]
end
end Go.Vi
end

section
/- Vi: layer 5: kind.join. No conditions but those that stand with each. -/
namespace Go.Vi
open Go Go.Lib Go.Proofs
set_option maxRecDepth 100000
attribute [local simp] E_skip E_ret E_exit E_text E_draw E_seq E_cond E_block E_scope E_loop runOps runOp drawR slotsOf Hp.kept_zero runDraw runVF runX runV finV gate FlOK FlOK0 wantD exec fin opd look putF norm constD constC fieldAddrD loadD storeD opCall lenD binD isShift intP strP numD indexAddrD indexD D.pd? D.pds? sub capsOf callD argsD argD D.nf unP cellD mkF H00 cD_agg cD_pagg cD_int cD_bool cD_str cD_sl cD_lit cells_int
attribute [local simp] fnOut retOut resD retsD retD oneD D.noRefs D.noRef alone Hp.cut
attribute [local simp] cells_encK encK_agg box_encK one_int one_str one_sl one_agg
attribute [local simp] newRow Hp.live one_encK

section
variable (a b : Kd) (f lo hi mo : Int)
theorem round70_none (i : Nat) (hi' : i < a.ps.length) (hib : i < b.ps.length) (d : D) (X : List Blk) (A : List Arr) (hd : D.top d = 0) (hX : ∀ x ∈ X, x.top = 0)
    (hr : ∀ H, W 70 [.p (encK a.ps[i]), .p (encK b.ps[i])] H = some (.ret (.tup [.p (encK kz), .p (.bool false)]), H)) :
    E false ⟨0, 0⟩ 70 lp70_0 (fr70 a.ps.length i) (memJ a b f lo hi mo d X A) = some (.ret, [(4, .ptr 2 0), (5, .p (.bool false))], memJ a b f lo hi mo d (X ++ [bK kz]) A) := by
  have hr13 := reg13_W a b i (bK a :: bK b :: zB :: oB f lo hi mo d :: X) A (.ptr 2 0) (.ptr 3 0) (.p (.int .i64 a.ps.length)) (.p (.int .i64 i)) .dead false rfl rfl (by simp) (closedJ hd hX) hi' hib kz hr
  rw [E_cut (by rfl)]
  have e1 : E false ⟨0, 0⟩ 70 (cFst lp70_0) (fr70 a.ps.length i) (memJ a b f lo hi mo d X A) = some (.normal, [(2, .ptr 0 0), (3, .ptr 1 0), (4, .ptr 2 0), (6, .ptr 3 0), (61, .p (.int .i64 a.ps.length)), (62, .p (.int .i64 i)), (63, .p (.bool true))], memJ a b f lo hi mo d X A) := by
    simp [cFst, lp70_0, code70, Tryz.f70, fr70, hi']
  rw [e1]
  simp only
  rw [E_cut (by rfl)]
  have e2 : E false ⟨0, 0⟩ 70 (cFst (cSnd lp70_0)) [(2, .ptr 0 0), (3, .ptr 1 0), (4, .ptr 2 0), (6, .ptr 3 0), (61, .p (.int .i64 a.ps.length)), (62, .p (.int .i64 i)), (63, .p (.bool true))] (memJ a b f lo hi mo d X A) =
      some (.normal, [(2, .ptr 0 0), (3, .ptr 1 0), (4, .ptr 2 0), (6, .ptr 3 0), (61, .p (.int .i64 a.ps.length)), (62, .p (.int .i64 i)), (63, .p (.bool true))], memJ a b f lo hi mo d X A) := by
    simp [cFst, cSnd, lp70_0, code70, Tryz.f70]
  rw [e2]
  simp only
  rw [E_cut (by rfl), r70_blk, E_block, E_cut (by rfl)]
  have e3 : E false ⟨0, 0⟩ 70 (cFst (cBlk (cFst (cSnd (cSnd lp70_0))))) [(2, .ptr 0 0), (3, .ptr 1 0), (4, .ptr 2 0), (6, .ptr 3 0), (61, .p (.int .i64 a.ps.length)), (62, .p (.int .i64 i)), (63, .p (.bool true))] (memJ a b f lo hi mo d X A) =
      some (.normal, [(2, .ptr 0 0), (3, .ptr 1 0), (4, .ptr 2 0), (6, .ptr 3 0), (7, .p (.int .i64 i)), (61, .p (.int .i64 a.ps.length)), (62, .p (.int .i64 i))], memJ a b f lo hi mo d X A) := by
    simp [cFst, cSnd, cBlk, lp70_0, code70, Tryz.f70]
  rw [e3]
  simp only
  rw [E_cut (by rfl)]
  have e4 : E false ⟨0, 0⟩ 70 (cFst (cSnd (cBlk (cFst (cSnd (cSnd lp70_0)))))) [(2, .ptr 0 0), (3, .ptr 1 0), (4, .ptr 2 0), (6, .ptr 3 0), (7, .p (.int .i64 i)), (61, .p (.int .i64 a.ps.length)), (62, .p (.int .i64 i))] (memJ a b f lo hi mo d X A) = _ := hr13
  rw [e4]
  simp only
  rw [E_cut (by rfl)]
  have e5 : E false ⟨0, 0⟩ 70 (cFst (cSnd (cSnd (cBlk (cFst (cSnd (cSnd lp70_0))))))) [(2, .ptr 0 0), (3, .ptr 1 0), (4, .ptr 2 0), (6, .ptr 3 0), (8, .ptr (bK a :: bK b :: zB :: oB f lo hi mo d :: X).length 0), (9, .p (.bool false)), (61, .p (.int .i64 a.ps.length)), (62, .p (.int .i64 i))]
      ⟨bK a :: bK b :: zB :: oB f lo hi mo d :: X ++ [bK kz], A⟩ =
      some (.ret, [(4, .ptr 2 0), (5, .p (.bool false))], memJ a b f lo hi mo d (X ++ [bK kz]) A) := by
    simp [cFst, cSnd, cBlk, lp70_0, code70, Tryz.f70, buildD, buildD.go, zB, memJ, splice]
  rw [e5]

/-- What the loop ends with. -/
def Q70 (s : Option (List Kd)) (o : CO) : Prop :=
  match s with
  | none => ∃ X A, o = (.ret, [(4, .ptr 2 0), (5, .p (.bool false))], ⟨bK a :: bK b :: zB :: X, A⟩)
  | some l => ∃ d X A, o = (.exit 1, [(2, .ptr 0 0), (3, .ptr 1 0), (4, .ptr 2 0), (6, .ptr 3 0), (61, .p (.int .i64 a.ps.length)), (62, .p (.int .i64 a.ps.length)), (63, .p (.bool false))], memJ a b f lo hi mo d X A) ∧ GRow A 25 5 d (l.map encK)
def joinR (s : Option Kd) : D := match s with | some k => .tup [.p (encK k), .p (.bool true)] | none => .tup [.p (encK kz), .p (.bool false)]
def Rec70 (n : Nat) : Prop := ∀ (u v : Kd) (H : Hp), u.nodes < n → W 70 [.p (encK u), .p (encK v)] H = some (.ret (joinR (u.joinP v)), H)

theorem loop70_ok (hn : a.nodes ≤ 1000) (hl : a.ps.length = b.ps.length) (hrec : Rec70 a.nodes) :
    ∃ o, loopO false ⟨0, 0⟩ 70 lp70_0 4 0 (fr70 a.ps.length 0) (memJ a b f lo hi mo (.lit true []) [] []) = some o ∧ Q70 a b f lo hi mo (joinPs a.ps b.ps) o := by
  have hlen := ps_len a
  refine for_ex (mu := false) (hd70_0) a.ps.length (fun i F H => ∃ l d X A, F = fr70 a.ps.length i ∧ H = memJ a b f lo hi mo d X A ∧ GRow A 25 5 d (l.map encK) ∧ (∀ x ∈ X, x.top = 0) ∧ l.length = i ∧
      joinPs a.ps b.ps = (joinPs (a.ps.drop i) (b.ps.drop i)).map (l ++ ·)) (Q70 a b f lo hi mo (joinPs a.ps b.ps)) ?_ ?_
    (F := fr70 a.ps.length 0) (H := memJ a b f lo hi mo (.lit true []) [] []) (F0 := fr70 a.ps.length 0) (H0 := memJ a b f lo hi mo (.lit true []) [] []) (by simp [cutD, fr70, frNo, memJ, bK, oB, zB, blkNo])
      ⟨[], .lit true [], [], [], rfl, rfl, .inl ⟨rfl, rfl⟩, by simp, rfl, by simp⟩
  · rintro F H ⟨l, d, X, A, rfl, rfl, h1, h2, h3, h5⟩
    rw [List.drop_length, joinPs_nil] at h5
    refine ⟨(.exit 1, [(2, .ptr 0 0), (3, .ptr 1 0), (4, .ptr 2 0), (6, .ptr 3 0), (61, .p (.int .i64 a.ps.length)), (62, .p (.int .i64 a.ps.length)), (63, .p (.bool false))], memJ a b f lo hi mo d X A), ?_, by simp, ?_⟩
    · simp [lp70_0, code70, Tryz.f70, fr70]
    · rw [h5]
      exact ⟨d, X, A, rfl, by simpa using h1⟩
  · rintro i F H hi' ⟨l, d, X, A, rfl, rfl, h1, h2, h3, h5⟩
    have hib : i < b.ps.length := by omega
    have hr := fun H => hrec a.ps[i] b.ps[i] H (ps_nodes (List.getElem_mem hi'))
    rw [List.drop_eq_getElem_cons hi', List.drop_eq_getElem_cons hib] at h5
    simp only [joinPs] at h5
    cases hc : a.ps[i].joinP b.ps[i] with
    | none =>
      left
      rw [hc] at hr h5
      refine ⟨_, round70_none a b f lo hi mo i hi' hib d X A (top_row h1) h2 hr, by simp, ?_⟩
      rw [h5]
      exact ⟨_, A, rfl⟩
    | some q =>
      right
      rw [hc] at hr h5
      obtain ⟨d', A', e1, e2⟩ := round70_some a b f lo hi mo i hi' hib (by omega) d X A l q h1 h2 (by omega) hr
      refine ⟨_, _, e1, ?_⟩
      obtain ⟨H', c1, c2⟩ := cutD_or ⟨0, 0⟩ [2, 3, 4, 6, 61, 62] 4 0 (fr70 a.ps.length (i + 1)) (memJ a b f lo hi mo d' (X ++ [bK q]) A')
      have hnorm : norm [2, 3, 4, 6, 61, 62] (fr70 a.ps.length (i + 1)) = fr70 a.ps.length (i + 1) := rfl
      rw [hnorm] at c1 c2
      have h6 : joinPs a.ps b.ps = (joinPs (a.ps.drop (i + 1)) (b.ps.drop (i + 1))).map ((l ++ [q]) ++ ·) := by
        rw [h5]
        cases joinPs (a.ps.drop (i + 1)) (b.ps.drop (i + 1)) <;> simp
      refine ⟨_, H', c1, l ++ [q], d', ?_⟩
      rcases c2 with rfl | ⟨rfl, k1, k2⟩
      · exact ⟨X ++ [bK q], A', rfl, rfl, e2, fun x hx => by
          rcases List.mem_append.1 hx with hx | hx
          · exact h2 x hx
          · simp only [List.mem_singleton] at hx; subst hx; exact top_bK q, by simp [h3], h6⟩
      · have hnr : D.noRef 4 0 d' = true := by
          rw [List.all_eq_true] at k2
          have := k2 (oB f lo hi mo d') (by simp [memJ])
          simpa [oB, blkNo] using this
        exact ⟨[], A'.take 0, rfl, by simp [memJ], e2.cut hnr, by simp, by simp [h3], h6⟩
end
end Go.Vi
end

section
/- Vi: layer 5: kind.join, the whole. No conditions but those that stand with each. -/
namespace Go.Vi
open Go Go.Lib Go.Proofs
set_option maxRecDepth 100000
attribute [local simp] E_skip E_ret E_exit E_text E_draw E_seq E_cond E_block E_scope E_loop runOps runOp drawR slotsOf Hp.kept_zero runDraw runVF runX runV finV gate FlOK FlOK0 wantD exec fin opd look putF norm constD constC fieldAddrD loadD storeD opCall lenD binD isShift intP strP numD indexAddrD indexD D.pd? D.pds? sub capsOf callD argsD argD D.nf unP cellD mkF H00 cD_agg cD_pagg cD_int cD_bool cD_str cD_sl cD_lit cells_int
attribute [local simp] fnOut retOut resD retsD retD oneD D.noRefs D.noRef alone Hp.cut
attribute [local simp] cells_encK encK_agg box_encK one_int one_str one_sl one_agg
attribute [local simp] newRow Hp.live one_encK

section
variable (a b : Kd)
theorem one70_W : E false ⟨0, 0⟩ 70 (cFst code70) (mkF 0 [.p (encK a), .p (encK b)]) H00 = some (.normal, [(2, .ptr 0 0), (3, .ptr 1 0), (4, .ptr 2 0)], ⟨[bK a, bK b, zB], []⟩) := by
  simp [cFst, code70, Tryz.f70, bK, zB]
theorem two70_W : E false ⟨0, 0⟩ 70 (cFst (cSnd code70)) [(2, .ptr 0 0), (3, .ptr 1 0), (4, .ptr 2 0)] ⟨[bK a, bK b, zB], []⟩ =
    if a.f = 1 then some (.ret, [(4, .ptr 2 0), (5, .p (.bool true))], ⟨[bK a, bK b, bK b], []⟩)
    else if b.f = 1 then some (.ret, [(4, .ptr 2 0), (5, .p (.bool true))], ⟨[bK a, bK b, bK a], []⟩)
    else if a.f ≠ b.f ∨ a.ps.length ≠ b.ps.length then some (.ret, [(4, .ptr 2 0), (5, .p (.bool false))], ⟨[bK a, bK b, zB], []⟩)
    else some (.normal, [(2, .ptr 0 0), (3, .ptr 1 0), (4, .ptr 2 0), (20, .p (.bool false))], ⟨[bK a, bK b, zB], []⟩) := by
  have z : ((a.ps.length : Int) = b.ps.length) = (a.ps.length = b.ps.length) := by simp only [eq_iff_iff]; omega
  by_cases c1 : a.f = 1
  · have e := eq_true c1
    simp [cFst, cSnd, code70, Tryz.f70, bK, zB, e, splice]
  have n1 := eq_false c1
  by_cases c2 : b.f = 1
  · have e := eq_true c2
    simp [cFst, cSnd, code70, Tryz.f70, bK, zB, n1, e, splice]
  have n2 := eq_false c2
  by_cases c3 : a.f = b.f
  · have e := eq_true c3
    by_cases c4 : a.ps.length = b.ps.length
    · have e2 := eq_true c4
      simp [cFst, cSnd, code70, Tryz.f70, bK, zB, n1, n2, e, e2, z, splice]
    · have e2 := eq_false c4
      simp [cFst, cSnd, code70, Tryz.f70, bK, zB, n1, n2, e, e2, z, splice, buildD, buildD.go]
  · have e := eq_false c3
    simp [cFst, cSnd, code70, Tryz.f70, bK, zB, n1, n2, e, splice, buildD, buildD.go]
theorem three70_W (x : D) : E false ⟨0, 0⟩ 70 (cFst (cSnd (cSnd code70))) [(2, .ptr 0 0), (3, .ptr 1 0), (4, .ptr 2 0), (20, x)] ⟨[bK a, bK b, zB], []⟩ =
    some (.normal, [(2, .ptr 0 0), (3, .ptr 1 0), (4, .ptr 2 0), (6, .ptr 3 0)], memJ a b a.f 0 0 (max a.mo b.mo) (.lit true []) [] []) := by
  simp [cFst, cSnd, code70, Tryz.f70, bK, zB, memJ, oB, splice, buildD, buildD.go, max_if]

noncomputable def r9 : Code := match cFst (cSnd (cSnd (cSnd code70))) with | .seq _ (.cond _ c _) => c | c => c
theorem r9_eq : r9 = .region 9 (regOps r9) true := by kernel_rfl
theorem reg9_W (f mo : Int) (x : D) : E false ⟨0, 0⟩ 70 r9 [(2, .ptr 0 0), (3, .ptr 1 0), (4, .ptr 2 0), (6, .ptr 3 0), (46, x)] (memJ a b f 0 0 mo (.lit true []) [] []) =
    some (.normal, [(2, .ptr 0 0), (3, .ptr 1 0), (4, .ptr 2 0), (6, .ptr 3 0)], memJ a b f (min a.lo b.lo) (max a.hi b.hi) mo (.lit true []) [] []) := by
  rw [r9_eq]
  refine E_drawO ?_
  simp [outN, r9, cFst, cSnd, regOps, code70, Tryz.f70, drawRN, runDrawN, gateN, flY, rdB, freeM, flN, soft6, quietF, quiet, memJ, bK, zB, oB, splice, max_if, min_if]
theorem four70_W : E false ⟨0, 0⟩ 70 (cFst (cSnd (cSnd (cSnd code70)))) [(2, .ptr 0 0), (3, .ptr 1 0), (4, .ptr 2 0), (6, .ptr 3 0)] (memJ a b a.f 0 0 (max a.mo b.mo) (.lit true []) [] []) =
    if a.f = 2 then some (.normal, [(2, .ptr 0 0), (3, .ptr 1 0), (4, .ptr 2 0), (6, .ptr 3 0)], memJ a b a.f (min a.lo b.lo) (max a.hi b.hi) (max a.mo b.mo) (.lit true []) [] [])
    else some (.normal, [(2, .ptr 0 0), (3, .ptr 1 0), (4, .ptr 2 0), (6, .ptr 3 0), (46, .p (.bool false))], memJ a b a.f 0 0 (max a.mo b.mo) (.lit true []) [] []) := by
  have h9 := reg9_W a b a.f (max a.mo b.mo) (.p (.bool true))
  rw [E_cut (by rfl)]
  by_cases c : a.f = 2
  · have e := eq_true c
    have e1 : E false ⟨0, 0⟩ 70 (cFst (cFst (cSnd (cSnd (cSnd code70))))) [(2, .ptr 0 0), (3, .ptr 1 0), (4, .ptr 2 0), (6, .ptr 3 0)] (memJ a b a.f 0 0 (max a.mo b.mo) (.lit true []) [] []) =
        some (.normal, [(2, .ptr 0 0), (3, .ptr 1 0), (4, .ptr 2 0), (6, .ptr 3 0), (46, .p (.bool true))], memJ a b a.f 0 0 (max a.mo b.mo) (.lit true []) [] []) := by
      simp [cFst, cSnd, code70, Tryz.f70, memJ, bK, e]
    rw [e1, if_pos c]
    simp only
    have e2 : cSnd (cFst (cSnd (cSnd (cSnd code70)))) = .cond (.tmp 46) r9 .skip := by kernel_rfl
    rw [e2, E_cond]
    exact h9
  · have e := eq_false c
    have e1 : E false ⟨0, 0⟩ 70 (cFst (cFst (cSnd (cSnd (cSnd code70))))) [(2, .ptr 0 0), (3, .ptr 1 0), (4, .ptr 2 0), (6, .ptr 3 0)] (memJ a b a.f 0 0 (max a.mo b.mo) (.lit true []) [] []) =
        some (.normal, [(2, .ptr 0 0), (3, .ptr 1 0), (4, .ptr 2 0), (6, .ptr 3 0), (46, .p (.bool false))], memJ a b a.f 0 0 (max a.mo b.mo) (.lit true []) [] []) := by
      simp [cFst, cSnd, code70, Tryz.f70, memJ, bK, e]
    rw [e1, if_neg c]
    simp only
    have e2 : cSnd (cFst (cSnd (cSnd (cSnd code70)))) = .cond (.tmp 46) r9 .skip := by kernel_rfl
    rw [e2, E_cond]
    rfl
theorem five70_W (f lo hi mo : Int) (F : Fr) (hF : norm [2, 3, 4, 6] F = [(2, .ptr 0 0), (3, .ptr 1 0), (4, .ptr 2 0), (6, .ptr 3 0)]) (hn : a.nodes ≤ 1000) (hl : a.ps.length = b.ps.length) (hrec : Rec70 a.nodes) :
    match joinPs a.ps b.ps with
    | none => ∃ X A, E false ⟨0, 0⟩ 70 (cFst (cSnd (cSnd (cSnd (cSnd code70))))) F (memJ a b f lo hi mo (.lit true []) [] []) = some (.ret, [(4, .ptr 2 0), (5, .p (.bool false))], ⟨bK a :: bK b :: zB :: X, A⟩)
    | some l => ∃ d X A, E false ⟨0, 0⟩ 70 (cFst (cSnd (cSnd (cSnd (cSnd code70))))) F (memJ a b f lo hi mo (.lit true []) [] []) =
        some (.normal, [(2, .ptr 0 0), (3, .ptr 1 0), (4, .ptr 2 0), (6, .ptr 3 0), (61, .p (.int .i64 a.ps.length)), (62, .p (.int .i64 a.ps.length)), (63, .p (.bool false))], memJ a b f lo hi mo d X A) ∧ GRow A 25 5 d (l.map encK) := by
  obtain ⟨o, hloop, hq⟩ := loop70_ok a b f lo hi mo hn hl hrec
  have l2 : look F 2 = .ptr 0 0 := by simp at hF; exact hF.1
  have l3 : look F 3 = .ptr 1 0 := by simp at hF; exact hF.2.1
  have l4 : look F 4 = .ptr 2 0 := by simp at hF; exact hF.2.2.1
  have l6 : look F 6 = .ptr 3 0 := by simp at hF; exact hF.2.2.2
  have h00 : ((0 : Nat) : Int) = 0 := rfl
  simp only [lp70_0, code70, Tryz.f70, fr70, memJ, h00] at hloop
  unfold Q70 at hq
  split
  · rename_i e
    rw [e] at hq
    obtain ⟨X, A, rfl⟩ := hq
    refine ⟨X, A, ?_⟩
    simp [cFst, cSnd, code70, Tryz.f70, memJ, l2, l3, l4, l6, bK] at hloop ⊢
    simp [hloop]
  · rename_i l e
    rw [e] at hq
    obtain ⟨d, X, A, rfl, hg⟩ := hq
    refine ⟨d, X, A, ?_, hg⟩
    simp [cFst, cSnd, code70, Tryz.f70, memJ, l2, l3, l4, l6, bK] at hloop ⊢
    simp [hloop]
end
end Go.Vi
end

section
/- Vi: layer 5: kind.join, done; kind.copied. No conditions but those that stand with each. -/
namespace Go.Vi
open Go Go.Lib Go.Proofs
set_option maxRecDepth 100000
attribute [local simp] E_skip E_ret E_exit E_text E_draw E_seq E_cond E_block E_scope E_loop runOps runOp drawR slotsOf Hp.kept_zero runDraw runVF runX runV finV gate FlOK FlOK0 wantD exec fin opd look putF norm constD constC fieldAddrD loadD storeD opCall lenD binD isShift intP strP numD indexAddrD indexD D.pd? D.pds? sub capsOf callD argsD argD D.nf unP cellD mkF H00 cD_agg cD_pagg cD_int cD_bool cD_str cD_sl cD_lit cells_int
attribute [local simp] fnOut retOut resD retsD retD oneD D.noRefs D.noRef alone Hp.cut
attribute [local simp] cells_encK encK_agg box_encK one_int one_str one_sl one_agg cD_own cD_ptr
attribute [local simp] newRow Hp.live one_encK

theorem GRow.frz {A : List Arr} {e : TypeId} {sz : Nat} {d : D} {L : List PD} (h : GRow A e sz d L) : D.frz A d = A := by
  rcases h with ⟨rfl, _⟩ | ⟨k, ver, rfl, h⟩
  · simp
  · rw [frz_own]; simp [h]
theorem joinPK_eq (a b : Kd) : a.joinP b = if a.f = 1 then some b else if b.f = 1 then some a else if a.f ≠ b.f ∨ a.ps.length ≠ b.ps.length then none
    else (joinPs a.ps b.ps).map fun l => .mk a.f (if a.f = 2 then min a.lo b.lo else 0) (if a.f = 2 then max a.hi b.hi else 0) (max a.mo b.mo) l := by
  obtain ⟨f, lo, hi, mo, ps⟩ := a
  obtain ⟨f', lo', hi', mo', ps'⟩ := b
  rfl

section
variable (a b : Kd)
theorem six70_W (f lo hi mo : Int) (d : D) (X : List Blk) (A : List Arr) (x y z : D) (hc : cellD d = true) : E false ⟨0, 0⟩ 70 (cSnd (cSnd (cSnd (cSnd (cSnd code70))))) [(2, .ptr 0 0), (3, .ptr 1 0), (4, .ptr 2 0), (6, .ptr 3 0), (61, x), (62, y), (63, z)] (memJ a b f lo hi mo d X A) =
    some (.ret, [(4, .ptr 2 0), (5, .p (.bool true))], ⟨bK a :: bK b :: oB f lo hi mo d :: oB f lo hi mo d :: X, A⟩) := by
  simp only [cellD] at hc
  simp [cSnd, code70, Tryz.f70, memJ, oB, zB, splice, hc]

theorem ret70_k (k : Kd) (t : Bool) (c d : Blk) (H : Hp) : alone H (fnOut Tryz.prog [.cell 4 25, .tmp 5] 0 0 (some (.ret, [(4, .ptr 2 0), (5, .p (.bool t))], ⟨[c, d, bK k], []⟩))) = some (.ret (.tup [.p (encK k), .p (.bool t)]), H) := by
  simp [bK]
theorem ret70_z (c d : Blk) (X : List Blk) (A : List Arr) (H : Hp) : alone H (fnOut Tryz.prog [.cell 4 25, .tmp 5] 0 0 (some (.ret, [(4, .ptr 2 0), (5, .p (.bool false))], ⟨c :: d :: zB :: X, A⟩))) = some (.ret (.tup [.p (encK kz), .p (.bool false)]), H) := by
  simp [zB, encK, encKs]
theorem ret70_row (f lo hi mo : Int) (l : List Kd) (d : D) (X : List Blk) (A : List Arr) (hg : GRow A 25 5 d (l.map encK)) (c e : Blk) (H : Hp) :
    alone H (fnOut Tryz.prog [.cell 4 25, .tmp 5] 0 0 (some (.ret, [(4, .ptr 2 0), (5, .p (.bool true))], ⟨c :: e :: oB f lo hi mo d :: X, A⟩))) = some (.ret (.tup [.p (encK (.mk f lo hi mo l)), .p (.bool true)]), H) := by
  have hp := hg.pd
  have hfz := hg.frz
  have he : encK (.mk f lo hi mo l) = .agg [.int .i64 f, .int .i64 lo, .int .i64 hi, .int .i64 mo, .sl (l.map encK)] := encK_eq _
  rw [he]
  simp [oB, hp, hfz]

theorem join70_W (H : Hp) (hn : a.nodes ≤ 1000) : W 70 [.p (encK a), .p (encK b)] H = some (.ret (joinR (a.joinP b)), H) := by
  have key : ∀ (n : Nat) (a b : Kd) (H : Hp), a.nodes ≤ n → a.nodes ≤ 1000 → W 70 [.p (encK a), .p (encK b)] H = some (.ret (joinR (a.joinP b)), H) := by
    intro n
    induction n with
    | zero => intro k b H h _; have := nodes_pos k; omega
    | succ n ih =>
      intro a b H hn hb
      refine W70_of rfl (by simp) ?_
      rw [joinPK_eq, E_cut (by rfl), one70_W]
      simp only
      rw [E_cut (by rfl), two70_W]
      by_cases c1 : a.f = 1
      · rw [if_pos c1, if_pos c1]; exact ret70_k b true _ _ H
      rw [if_neg c1, if_neg c1]
      by_cases c2 : b.f = 1
      · rw [if_pos c2, if_pos c2]; exact ret70_k a true _ _ H
      rw [if_neg c2, if_neg c2]
      by_cases c3 : a.f ≠ b.f ∨ a.ps.length ≠ b.ps.length
      · rw [if_pos c3, if_pos c3]; exact ret70_z _ _ [] [] H
      rw [if_neg c3, if_neg c3]
      simp only
      rw [E_cut (by rfl), three70_W]
      simp only
      rw [E_cut (by rfl), four70_W]
      have fin : ∀ (lo hi : Int) (F : Fr), norm [2, 3, 4, 6] F = [(2, .ptr 0 0), (3, .ptr 1 0), (4, .ptr 2 0), (6, .ptr 3 0)] → 
          alone H (fnOut Tryz.prog [.cell 4 25, .tmp 5] 0 0 (E false ⟨0, 0⟩ 70 (cSnd (cSnd (cSnd (cSnd code70)))) F (memJ a b a.f lo hi (max a.mo b.mo) (.lit true []) [] []))) =
            some (.ret (joinR ((joinPs a.ps b.ps).map fun l => .mk a.f lo hi (max a.mo b.mo) l)), H) := by
        intro lo hi F hF
        rw [E_cut (by rfl)]
        have h5 := five70_W a b a.f lo hi (max a.mo b.mo) F hF hb (by omega) fun u v H hu => ih u v H (by omega) (by omega)
        cases hj : joinPs a.ps b.ps with
        | none =>
          rw [hj] at h5
          obtain ⟨X, A, h5⟩ := h5
          rw [h5]
          exact ret70_z _ _ X A H
        | some l =>
          rw [hj] at h5
          obtain ⟨d, X, A, h5, hg⟩ := h5
          rw [h5]
          simp only
          rw [six70_W a b _ _ _ _ d X A _ _ _ hg.cell]
          exact ret70_row _ _ _ _ l d _ A hg _ _ H
      by_cases c4 : a.f = 2
      · simp only [if_pos c4]
        exact fin _ _ _ rfl
      · simp only [if_neg c4]
        exact fin _ _ _ rfl
  exact key a.nodes a b H (Nat.le_refl _) hn
end

/-! ### copied -/
def Rec64 (n : Nat) : Prop := ∀ (u : Kd) (H : Hp), u.nodes < n → W 64 [.p (encK u)] H = some (.ret (.p (encK u)), H)
def fr64 (k : Kd) (d : D) (i : Nat) : Fr := [(1, .ptr 0 0), (2, .ptr 1 0), (3, d), (7, .p (.sl (k.ps.map encK))), (8, .p (.int .i64 k.ps.length)), (9, .p (.int .i64 i))]
def row64 (i : Nat) (l : List Kd) : Arr := ⟨i, 25, 5, decide (i = 0), true, l.map encK⟩
theorem fitK (l : List Kd) : fits 5 (l.map encK) = true := by
  unfold fits
  rw [List.all_eq_true]
  intro x hx
  obtain ⟨k, _, rfl⟩ := List.mem_map.1 hx
  rw [encK_eq]
  rfl
theorem zok25 : zOK Tryz.prog 25 5 = true := by kernel_rfl
theorem loop64_ok (k : Kd) (hn : k.nodes ≤ 1000) (hrec : Rec64 k.nodes) :
    ∃ o, loopO false ⟨0, 0⟩ 64 lp64_0 2 1 (fr64 k (.own 0 0) 0) ⟨[bK k, zB], [row64 0 []]⟩ = some o ∧ 
      o = (.exit 0, [(1, .ptr 0 0), (2, .ptr 1 0), (3, .own 0 k.ps.length), (7, .p (.sl (k.ps.map encK))), (8, .p (.int .i64 k.ps.length)), (9, .p (.int .i64 k.ps.length)), (10, .p (.bool false))], ⟨[bK k, zB], [row64 k.ps.length k.ps]⟩) := by
  have hlen := ps_len k
  refine for_ex (mu := false) (hd64_0) k.ps.length (fun i F H => F = fr64 k (.own 0 i) i ∧ H = ⟨[bK k, zB], [row64 i (k.ps.take i)]⟩) _ ?_ ?_
    (F := fr64 k (.own 0 0) 0) (H := ⟨[bK k, zB], [row64 0 []]⟩) (F0 := fr64 k (.own 0 0) 0) (H0 := ⟨[bK k, zB], [row64 0 []]⟩) (by simp [cutD, fr64, frNo, bK, zB, blkNo]) ⟨rfl, by simp⟩
  · rintro F H ⟨rfl, rfl⟩
    refine ⟨_, ?_, by simp, rfl⟩
    rw [List.take_length]
    simp [lp64_0, code64, Tryz.f64, fr64]
  · rintro i F H hi ⟨rfl, rfl⟩
    right
    have hr := fun H => hrec k.ps[i] H (ps_nodes (List.getElem_mem hi))
    have hw : IntKind.i64.wrap ((i : Int) + 1) = (i : Int) + 1 := wrap64 (by omega) (by omega)
    have hf1 : fits 5 [encK k.ps[i]] = true := fitK [k.ps[i]]
    have hl1 : (i + 1) * 56 ≤ 140737488355328 := by omega
    have hmin : min i k.ps.length = i := by omega
    have ht : k.ps.take (i + 1) = k.ps.take i ++ [k.ps[i]] := List.take_succ_eq_append_getElem hi
    refine ⟨fr64 k (.own 0 (i + 1)) (i + 1), ⟨[bK k, zB, bK k.ps[i]], [row64 (i + 1) (k.ps.take (i + 1))]⟩, ?_, fr64 k (.own 0 (i + 1)) (i + 1), ⟨[bK k, zB], [row64 (i + 1) (k.ps.take (i + 1))]⟩, ?_, rfl, rfl⟩
    · have ht2 : List.take (i + 1) (List.map encK k.ps) = List.take i (List.map encK k.ps) ++ [encK k.ps[i]] := by rw [← List.map_take, ht, List.map_append, List.map_take]; rfl
      rw [ht]
      simp [lp64_0, code64, Tryz.f64, fr64, bK, zB, hi, hr, splice, appendD, srcD, row64, hf1, hl1, hw, buildSliceD, elsD, zok25, hmin, ht2]
    · simp [cutD, fr64, frNo, blkNo, bK, zB]
theorem copied64_W (k : Kd) (H : Hp) (hn : k.nodes ≤ 1000) : W 64 [.p (encK k)] H = some (.ret (.p (encK k)), H) := by
  have key : ∀ (n : Nat) (k : Kd) (H : Hp), k.nodes ≤ n → k.nodes ≤ 1000 → W 64 [.p (encK k)] H = some (.ret (.p (encK k)), H) := by
    intro n
    induction n with
    | zero => intro k H h _; have := nodes_pos k; omega
    | succ n ih =>
      intro k H hn hb
      refine W64_of rfl (by simp) ?_
      obtain ⟨o, hloop, rfl⟩ := loop64_ok k hb fun u H hu => ih u H (by omega) (by omega)
      have h00 : ((0 : Nat) : Int) = 0 := rfl
      simp only [lp64_0, code64, Tryz.f64, fr64, bK, zB, row64, h00, List.map_nil, decide_true] at hloop
      rw [encK_eq k]
      simp [code64, Tryz.f64, hloop, splice, frz_own]
  exact key k.nodes k H (Nat.le_refl _) hn
end Go.Vi
end

section
/- Vi: layer 5: swardref05.Join; kind.Join. No conditions but those that stand with each. -/
namespace Go.Vi
open Go Go.Lib Go.Proofs
set_option maxRecDepth 100000
attribute [local simp] E_skip E_ret E_exit E_text E_draw E_seq E_cond E_block E_scope E_loop runOps runOp drawR slotsOf Hp.kept_zero runDraw runVF runX runV finV gate FlOK FlOK0 wantD exec fin opd look putF norm constD constC fieldAddrD loadD storeD opCall lenD binD isShift intP strP numD indexAddrD indexD D.pd? D.pds? sub capsOf callD argsD argD D.nf unP cellD mkF H00 cD_agg cD_pagg cD_int cD_bool cD_str cD_sl cD_lit cells_int
attribute [local simp] fnOut retOut resD retsD retD oneD D.noRefs D.noRef alone Hp.cut
attribute [local simp] cells_encK encK_agg box_encK one_int one_str one_sl one_agg cD_own cD_ptr
attribute [local simp] newRow Hp.live one_encK

theorem joinKs_nil (l : List Kd) : joinKs [] l = some [] := by cases l <;> simp [joinKs]
theorem joinK_eq (a b : Kd) : a.join b = if a.f = 1 then some b else if b.f = 1 then some a else if a.f ≠ b.f ∨ a.ps.length ≠ b.ps.length then none
    else (joinKs a.ps b.ps).map fun l => .mk a.f (min a.lo b.lo) (max a.hi b.hi) (max a.mo b.mo) l := by
  obtain ⟨f, lo, hi, mo, ps⟩ := a
  obtain ⟨f', lo', hi', mo', ps'⟩ := b
  rfl

noncomputable def r11 : Code := cFst (cBlk (cFst (cSnd lp25_0)))
theorem r11_eq : r11 = .region 11 (regOps r11) true := by kernel_rfl
theorem r25_blk : cFst (cSnd lp25_0) = .block 1 (cBlk (cFst (cSnd lp25_0))) := by kernel_rfl
theorem reg11_W (a b : Kd) (i : Nat) (B : List Blk) (A : List Arr) (x y : D) (t : Bool) (h0 : B[0]? = some (bK a)) (h1 : B[1]? = some (bK b)) (hl : 4 ≤ B.length) (hc : closedB B.length B = true) (hi : i < a.ps.length) (hib : i < b.ps.length)
    (p : Kd) (hr : ∀ H, W 25 [.p (encK a.ps[i]), .p (encK b.ps[i])] H = some (.ret (.tup [.p (encK p), .p (.bool t)]), H)) :
    E false ⟨0, 0⟩ 25 r11 [(2, .ptr 0 0), (3, .ptr 1 0), (4, x), (6, y), (7, .p (.int .i64 i)), (55, .p (.bool true))] ⟨B, A⟩ =
      some (.normal, [(2, .ptr 0 0), (3, .ptr 1 0), (4, x), (6, y), (7, .p (.int .i64 i)), (8, .ptr B.length 0), (9, .p (.bool t))], ⟨B ++ [bK p], A⟩) := by
  have hcl := closed_app [.hole] hc
  have h0l : 0 < B.length := by omega
  have h1l : 1 < B.length := by omega
  have b0 : B[0] = bK a := by
    have := List.getElem?_eq_getElem h0l
    rw [h0] at this; injection this with this; exact this.symm
  have b1 : B[1] = bK b := by
    have := List.getElem?_eq_getElem h1l
    rw [h1] at this; injection this with this; exact this.symm
  simp only [bK] at b0 b1
  rw [r11_eq]
  refine E_drawO ?_
  simp [outN, r11, cFst, cSnd, cBlk, regOps, lp25_0, code25, Tryz.f25, drawRN, runDrawN, gateN, flY, flX, rdLow, rdB, freeM, slotF, maskX, lowF, slotD, maskD, Oper.looksAt, Op.operands, Call.operands, flN, soft6, kept1, b0, b1, h0l, h1l, hi, hib, hcl, top_p, hr, allHole, splice, bK]

def fr25 (i : Nat) : Fr := [(2, .ptr 0 0), (3, .ptr 1 0), (4, .ptr 2 0), (6, .ptr 3 0), (7, .p (.int .i64 i))]
section
variable (a b : Kd) (f lo hi mo : Int)
theorem first25_W (i : Nat) (hi' : i < a.ps.length) (d : D) (X : List Blk) (A : List Arr) : E false ⟨0, 0⟩ 25 (cFst lp25_0) (fr25 i) (memJ a b f lo hi mo d X A) = some (.normal, [(2, .ptr 0 0), (3, .ptr 1 0), (4, .ptr 2 0), (6, .ptr 3 0), (7, .p (.int .i64 i)), (55, .p (.bool true))], memJ a b f lo hi mo d X A) := by
  simp [cFst, lp25_0, code25, Tryz.f25, fr25, hi', memJ, bK]
theorem round25_some (i : Nat) (hi' : i < a.ps.length) (hib : i < b.ps.length) (hlt : a.ps.length < 4611686018427387904) (d : D) (X : List Blk) (A : List Arr) (l : List Kd) (q : Kd) (hd : GRow A 25 5 d (l.map encK)) (hX : ∀ x ∈ X, x.top = 0) (hl : l.length ≤ 1000)
    (hr : ∀ H, W 25 [.p (encK a.ps[i]), .p (encK b.ps[i])] H = some (.ret (.tup [.p (encK q), .p (.bool true)]), H)) :
    ∃ d' A', E false ⟨0, 0⟩ 25 lp25_0 (fr25 i) (memJ a b f lo hi mo d X A) = some (.normal, fr25 (i + 1), memJ a b f lo hi mo d' (X ++ [bK q]) A') ∧ GRow A' 25 5 d' ((l ++ [q]).map encK) := by
  have hfit : fits 5 [encK q] = true := fitK [q]
  obtain ⟨d', A', h1, h2, h3, _⟩ := hd.app (t := 23) (by_ := 56) (ys := [encK q]) (y := .lit false [encK q]) (bK a :: bK b :: zB :: oB f lo hi mo d :: (X ++ [bK q])) (by simp) (by simp) (by simp) (by omega) (by omega) zok25 (by simp [srcD]) (by simp) hfit (by simp; omega)
  refine ⟨d', A', ?_, by simpa using h2⟩
  have hr13 := reg11_W a b i (bK a :: bK b :: zB :: oB f lo hi mo d :: X) A (.ptr 2 0) (.ptr 3 0) true rfl rfl (by simp) (closedJ (top_row hd) hX) hi' hib q hr
  have hw : IntKind.i64.wrap ((i : Int) + 1) = (i : Int) + 1 := wrap64 (by omega) (by omega)
  have hcd := hd.cell
  have hcd' := h2.cell
  rw [E_cut (by rfl), first25_W a b f lo hi mo i hi' d X A]
  simp only
  rw [E_cut (by rfl), r25_blk, E_block, E_cut (by rfl)]
  have e4 : E false ⟨0, 0⟩ 25 (cFst (cBlk (cFst (cSnd lp25_0)))) [(2, .ptr 0 0), (3, .ptr 1 0), (4, .ptr 2 0), (6, .ptr 3 0), (7, .p (.int .i64 i)), (55, .p (.bool true))] (memJ a b f lo hi mo d X A) = _ := hr13
  rw [e4]
  simp only
  rw [E_cut (by rfl)]
  have e5 : E false ⟨0, 0⟩ 25 (cFst (cSnd (cBlk (cFst (cSnd lp25_0))))) [(2, .ptr 0 0), (3, .ptr 1 0), (4, .ptr 2 0), (6, .ptr 3 0), (7, .p (.int .i64 i)), (8, .ptr (bK a :: bK b :: zB :: oB f lo hi mo d :: X).length 0), (9, .p (.bool true))]
      ⟨bK a :: bK b :: zB :: oB f lo hi mo d :: X ++ [bK q], A⟩ =
      some (.normal, [(2, .ptr 0 0), (3, .ptr 1 0), (4, .ptr 2 0), (6, .ptr 3 0), (7, .p (.int .i64 i)), (8, .ptr (bK a :: bK b :: zB :: oB f lo hi mo d :: X).length 0), (73, .p (.bool false))], ⟨bK a :: bK b :: zB :: oB f lo hi mo d :: X ++ [bK q], A⟩) := by
    simp [cFst, cSnd, cBlk, lp25_0, code25, Tryz.f25]
  rw [e5]
  simp only
  have e6 : E false ⟨0, 0⟩ 25 (cSnd (cSnd (cBlk (cFst (cSnd lp25_0))))) [(2, .ptr 0 0), (3, .ptr 1 0), (4, .ptr 2 0), (6, .ptr 3 0), (7, .p (.int .i64 i)), (8, .ptr (bK a :: bK b :: zB :: oB f lo hi mo d :: X).length 0), (73, .p (.bool false))]
      ⟨bK a :: bK b :: zB :: oB f lo hi mo d :: X ++ [bK q], A⟩ =
      some (.normal, fr25 i, memJ a b f lo hi mo d' (X ++ [bK q]) A') := by
    have hg : (bK a :: bK b :: zB :: oB f lo hi mo d :: (X ++ [bK q]))[(bK a :: bK b :: zB :: oB f lo hi mo d :: X).length]? = some (bK q) := get_concat (bK a :: bK b :: zB :: oB f lo hi mo d :: X) (bK q)
    simp only [List.length_cons] at hg ⊢
    simp only [bK, oB] at hg h1
    simp only [cellD] at hcd'
    simp [cFst, cSnd, cBlk, lp25_0, code25, Tryz.f25, fr25, memJ, buildSliceD, elsD, bK, oB, splice, hcd, hcd', h1, h3]
  rw [e6]
  simp [cFst, cSnd, lp25_0, code25, Tryz.f25, fr25, memJ, hw]
theorem round25_none (i : Nat) (hi' : i < a.ps.length) (hib : i < b.ps.length) (d : D) (X : List Blk) (A : List Arr) (hd : D.top d = 0) (hX : ∀ x ∈ X, x.top = 0)
    (hr : ∀ H, W 25 [.p (encK a.ps[i]), .p (encK b.ps[i])] H = some (.ret (.tup [.p (encK kz), .p (.bool false)]), H)) :
    E false ⟨0, 0⟩ 25 lp25_0 (fr25 i) (memJ a b f lo hi mo d X A) = some (.ret, [(4, .ptr 2 0), (5, .p (.bool false))], memJ a b f lo hi mo d (X ++ [bK kz]) A) := by
  have hr13 := reg11_W a b i (bK a :: bK b :: zB :: oB f lo hi mo d :: X) A (.ptr 2 0) (.ptr 3 0) false rfl rfl (by simp) (closedJ hd hX) hi' hib kz hr
  rw [E_cut (by rfl), first25_W a b f lo hi mo i hi' d X A]
  simp only
  rw [E_cut (by rfl), r25_blk, E_block, E_cut (by rfl)]
  have e4 : E false ⟨0, 0⟩ 25 (cFst (cBlk (cFst (cSnd lp25_0)))) [(2, .ptr 0 0), (3, .ptr 1 0), (4, .ptr 2 0), (6, .ptr 3 0), (7, .p (.int .i64 i)), (55, .p (.bool true))] (memJ a b f lo hi mo d X A) = _ := hr13
  rw [e4]
  simp only
  rw [E_cut (by rfl)]
  have e5 : E false ⟨0, 0⟩ 25 (cFst (cSnd (cBlk (cFst (cSnd lp25_0))))) [(2, .ptr 0 0), (3, .ptr 1 0), (4, .ptr 2 0), (6, .ptr 3 0), (7, .p (.int .i64 i)), (8, .ptr (bK a :: bK b :: zB :: oB f lo hi mo d :: X).length 0), (9, .p (.bool false))]
      ⟨bK a :: bK b :: zB :: oB f lo hi mo d :: X ++ [bK kz], A⟩ =
      some (.ret, [(4, .ptr 2 0), (5, .p (.bool false))], memJ a b f lo hi mo d (X ++ [bK kz]) A) := by
    simp [cFst, cSnd, cBlk, lp25_0, code25, Tryz.f25, buildD, buildD.go, zB, memJ, splice]
  rw [e5]

def Q25 (s : Option (List Kd)) (o : CO) : Prop :=
  match s with
  | none => ∃ X A, o = (.ret, [(4, .ptr 2 0), (5, .p (.bool false))], ⟨bK a :: bK b :: zB :: X, A⟩)
  | some l => ∃ d X A, o = (.exit 0, [(2, .ptr 0 0), (3, .ptr 1 0), (4, .ptr 2 0), (6, .ptr 3 0), (7, .p (.int .i64 a.ps.length)), (55, .p (.bool false))], memJ a b f lo hi mo d X A) ∧ GRow A 25 5 d (l.map encK)
def Rec25 (n : Nat) : Prop := ∀ (u v : Kd) (H : Hp), u.nodes < n → W 25 [.p (encK u), .p (encK v)] H = some (.ret (joinR (u.join v)), H)

theorem loop25_ok (hn : a.nodes ≤ 1000) (hl : a.ps.length = b.ps.length) (hrec : Rec25 a.nodes) :
    ∃ o, loopO false ⟨0, 0⟩ 25 lp25_0 4 0 (fr25 0) (memJ a b f lo hi mo (.lit true []) [] []) = some o ∧ Q25 a b f lo hi mo (joinKs a.ps b.ps) o := by
  have hlen := ps_len a
  refine for_ex (mu := false) (hd25_0) a.ps.length (fun i F H => ∃ l d X A, F = fr25 i ∧ H = memJ a b f lo hi mo d X A ∧ GRow A 25 5 d (l.map encK) ∧ (∀ x ∈ X, x.top = 0) ∧ l.length = i ∧
      joinKs a.ps b.ps = (joinKs (a.ps.drop i) (b.ps.drop i)).map (l ++ ·)) (Q25 a b f lo hi mo (joinKs a.ps b.ps)) ?_ ?_
    (F := fr25 0) (H := memJ a b f lo hi mo (.lit true []) [] []) (F0 := fr25 0) (H0 := memJ a b f lo hi mo (.lit true []) [] []) (by simp [cutD, fr25, frNo, memJ, bK, oB, zB, blkNo])
      ⟨[], .lit true [], [], [], rfl, rfl, .inl ⟨rfl, rfl⟩, by simp, rfl, by simp⟩
  · rintro F H ⟨l, d, X, A, rfl, rfl, h1, h2, h3, h5⟩
    rw [List.drop_length, joinKs_nil] at h5
    refine ⟨(.exit 0, [(2, .ptr 0 0), (3, .ptr 1 0), (4, .ptr 2 0), (6, .ptr 3 0), (7, .p (.int .i64 a.ps.length)), (55, .p (.bool false))], memJ a b f lo hi mo d X A), ?_, by simp, ?_⟩
    · simp [lp25_0, code25, Tryz.f25, fr25, memJ, bK]
    · rw [h5]
      exact ⟨d, X, A, rfl, by simpa using h1⟩
  · rintro i F H hi' ⟨l, d, X, A, rfl, rfl, h1, h2, h3, h5⟩
    have hib : i < b.ps.length := by omega
    have hr := fun H => hrec a.ps[i] b.ps[i] H (ps_nodes (List.getElem_mem hi'))
    rw [List.drop_eq_getElem_cons hi', List.drop_eq_getElem_cons hib] at h5
    simp only [joinKs] at h5
    cases hc : a.ps[i].join b.ps[i] with
    | none =>
      left
      rw [hc] at hr h5
      refine ⟨_, round25_none a b f lo hi mo i hi' hib d X A (top_row h1) h2 hr, by simp, ?_⟩
      rw [h5]
      exact ⟨_, A, rfl⟩
    | some q =>
      right
      rw [hc] at hr h5
      obtain ⟨d', A', e1, e2⟩ := round25_some a b f lo hi mo i hi' hib (by omega) d X A l q h1 h2 (by omega) hr
      refine ⟨_, _, e1, ?_⟩
      obtain ⟨H', c1, c2⟩ := cutD_or ⟨0, 0⟩ [2, 3, 4, 6, 7] 4 0 (fr25 (i + 1)) (memJ a b f lo hi mo d' (X ++ [bK q]) A')
      have hnorm : norm [2, 3, 4, 6, 7] (fr25 (i + 1)) = fr25 (i + 1) := rfl
      rw [hnorm] at c1 c2
      have h6 : joinKs a.ps b.ps = (joinKs (a.ps.drop (i + 1)) (b.ps.drop (i + 1))).map ((l ++ [q]) ++ ·) := by
        rw [h5]
        cases joinKs (a.ps.drop (i + 1)) (b.ps.drop (i + 1)) <;> simp
      refine ⟨_, H', c1, l ++ [q], d', ?_⟩
      rcases c2 with rfl | ⟨rfl, k1, k2⟩
      · exact ⟨X ++ [bK q], A', rfl, rfl, e2, fun x hx => by
          rcases List.mem_append.1 hx with hx | hx
          · exact h2 x hx
          · simp only [List.mem_singleton] at hx; subst hx; exact top_bK q, by simp [h3], h6⟩
      · have hnr : D.noRef 4 0 d' = true := by
          rw [List.all_eq_true] at k2
          have := k2 (oB f lo hi mo d') (by simp [memJ])
          simpa [oB, blkNo] using this
        exact ⟨[], A'.take 0, rfl, by simp [memJ], e2.cut hnr, by simp, by simp [h3], h6⟩
end

section
variable (a b : Kd)
theorem one25_W : E false ⟨0, 0⟩ 25 (cFst code25) (mkF 0 [.p (encK a), .p (encK b)]) H00 = some (.normal, [(2, .ptr 0 0), (3, .ptr 1 0), (4, .ptr 2 0)], ⟨[bK a, bK b, zB], []⟩) := by
  simp [cFst, code25, Tryz.f25, bK, zB]
theorem two25_W : E false ⟨0, 0⟩ 25 (cFst (cSnd code25)) [(2, .ptr 0 0), (3, .ptr 1 0), (4, .ptr 2 0)] ⟨[bK a, bK b, zB], []⟩ =
    if a.f = 1 then some (.ret, [(4, .ptr 2 0), (5, .p (.bool true))], ⟨[bK a, bK b, bK b], []⟩)
    else some (.normal, [(2, .ptr 0 0), (3, .ptr 1 0), (4, .ptr 2 0), (12, .p (.bool false))], ⟨[bK a, bK b, zB], []⟩) := by
  by_cases c1 : a.f = 1
  · have e := eq_true c1
    simp [cFst, cSnd, code25, Tryz.f25, bK, zB, e, splice]
  · have n1 := eq_false c1
    simp [cFst, cSnd, code25, Tryz.f25, bK, zB, n1]
theorem two25b_W (x : D) : E false ⟨0, 0⟩ 25 (cFst (cSnd (cSnd code25))) [(2, .ptr 0 0), (3, .ptr 1 0), (4, .ptr 2 0), (12, x)] ⟨[bK a, bK b, zB], []⟩ =
    if b.f = 1 then some (.ret, [(4, .ptr 2 0), (5, .p (.bool true))], ⟨[bK a, bK b, bK a], []⟩)
    else some (.normal, [(2, .ptr 0 0), (3, .ptr 1 0), (4, .ptr 2 0), (16, .p (.bool false))], ⟨[bK a, bK b, zB], []⟩) := by
  by_cases c1 : b.f = 1
  · have e := eq_true c1
    simp [cFst, cSnd, code25, Tryz.f25, bK, zB, e, splice]
  · have n1 := eq_false c1
    simp [cFst, cSnd, code25, Tryz.f25, bK, zB, n1]
theorem two25c_W (x : D) : E false ⟨0, 0⟩ 25 (cFst (cSnd (cSnd (cSnd code25)))) [(2, .ptr 0 0), (3, .ptr 1 0), (4, .ptr 2 0), (16, x)] ⟨[bK a, bK b, zB], []⟩ =
    if a.f ≠ b.f ∨ a.ps.length ≠ b.ps.length then some (.ret, [(4, .ptr 2 0), (5, .p (.bool false))], ⟨[bK a, bK b, zB], []⟩)
    else some (.normal, [(2, .ptr 0 0), (3, .ptr 1 0), (4, .ptr 2 0), (31, .p (.bool false))], ⟨[bK a, bK b, zB], []⟩) := by
  have z : ((a.ps.length : Int) = b.ps.length) = (a.ps.length = b.ps.length) := by simp only [eq_iff_iff]; omega
  by_cases c3 : a.f = b.f
  · have e := eq_true c3
    by_cases c4 : a.ps.length = b.ps.length
    · have e2 := eq_true c4
      simp [cFst, cSnd, code25, Tryz.f25, bK, zB, e, e2, z]
    · have e2 := eq_false c4
      simp [cFst, cSnd, code25, Tryz.f25, bK, zB, e, e2, z, splice, buildD, buildD.go]
  · have e := eq_false c3
    simp [cFst, cSnd, code25, Tryz.f25, bK, zB, e, splice, buildD, buildD.go]
theorem three25_W (x : D) : E false ⟨0, 0⟩ 25 (cFst (cSnd (cSnd (cSnd (cSnd code25))))) [(2, .ptr 0 0), (3, .ptr 1 0), (4, .ptr 2 0), (31, x)] ⟨[bK a, bK b, zB], []⟩ =
    some (.normal, [(2, .ptr 0 0), (3, .ptr 1 0), (4, .ptr 2 0), (6, .ptr 3 0)], memJ a b a.f (min a.lo b.lo) (max a.hi b.hi) (max a.mo b.mo) (.lit true []) [] []) := by
  simp [cFst, cSnd, code25, Tryz.f25, bK, zB, memJ, oB, splice, buildD, buildD.go, max_if, min_if]
theorem five25_W (f lo hi mo : Int) (hn : a.nodes ≤ 1000) (hl : a.ps.length = b.ps.length) (hrec : Rec25 a.nodes) :
    match joinKs a.ps b.ps with
    | none => ∃ X A, E false ⟨0, 0⟩ 25 (cFst (cSnd (cSnd (cSnd (cSnd (cSnd code25)))))) [(2, .ptr 0 0), (3, .ptr 1 0), (4, .ptr 2 0), (6, .ptr 3 0)] (memJ a b f lo hi mo (.lit true []) [] []) = some (.ret, [(4, .ptr 2 0), (5, .p (.bool false))], ⟨bK a :: bK b :: zB :: X, A⟩)
    | some l => ∃ d X A, E false ⟨0, 0⟩ 25 (cFst (cSnd (cSnd (cSnd (cSnd (cSnd code25)))))) [(2, .ptr 0 0), (3, .ptr 1 0), (4, .ptr 2 0), (6, .ptr 3 0)] (memJ a b f lo hi mo (.lit true []) [] []) =
        some (.normal, [(2, .ptr 0 0), (3, .ptr 1 0), (4, .ptr 2 0), (6, .ptr 3 0), (7, .p (.int .i64 a.ps.length)), (55, .p (.bool false))], memJ a b f lo hi mo d X A) ∧ GRow A 25 5 d (l.map encK) := by
  obtain ⟨o, hloop, hq⟩ := loop25_ok a b f lo hi mo hn hl hrec
  have h00 : ((0 : Nat) : Int) = 0 := rfl
  simp only [lp25_0, code25, Tryz.f25, fr25, memJ, h00] at hloop
  unfold Q25 at hq
  split
  · rename_i e
    rw [e] at hq
    obtain ⟨X, A, rfl⟩ := hq
    refine ⟨X, A, ?_⟩
    simp [cFst, cSnd, code25, Tryz.f25, memJ, bK] at hloop ⊢
    simp [hloop]
  · rename_i l e
    rw [e] at hq
    obtain ⟨d, X, A, rfl, hg⟩ := hq
    refine ⟨d, X, A, ?_, hg⟩
    simp [cFst, cSnd, code25, Tryz.f25, memJ, bK] at hloop ⊢
    simp [hloop]
theorem six25_W (f lo hi mo : Int) (d : D) (X : List Blk) (A : List Arr) (x y : D) (hc : cellD d = true) : E false ⟨0, 0⟩ 25 (cSnd (cSnd (cSnd (cSnd (cSnd (cSnd code25)))))) [(2, .ptr 0 0), (3, .ptr 1 0), (4, .ptr 2 0), (6, .ptr 3 0), (7, x), (55, y)] (memJ a b f lo hi mo d X A) =
    some (.ret, [(4, .ptr 2 0), (5, .p (.bool true))], ⟨bK a :: bK b :: oB f lo hi mo d :: oB f lo hi mo d :: X, A⟩) := by
  simp only [cellD] at hc
  simp [cSnd, code25, Tryz.f25, memJ, oB, zB, splice, hc]
theorem join25_W (H : Hp) (hn : a.nodes ≤ 1000) : W 25 [.p (encK a), .p (encK b)] H = some (.ret (joinR (a.join b)), H) := by
  have key : ∀ (n : Nat) (a b : Kd) (H : Hp), a.nodes ≤ n → a.nodes ≤ 1000 → W 25 [.p (encK a), .p (encK b)] H = some (.ret (joinR (a.join b)), H) := by
    intro n
    induction n with
    | zero => intro k b H h _; have := nodes_pos k; omega
    | succ n ih =>
      intro a b H hn hb
      refine W25_of rfl (by simp) ?_
      rw [joinK_eq, E_cut (by rfl), one25_W]
      simp only
      rw [E_cut (by rfl), two25_W]
      by_cases c1 : a.f = 1
      · rw [if_pos c1, if_pos c1]; exact ret70_k b true _ _ H
      rw [if_neg c1, if_neg c1]
      simp only
      rw [E_cut (by rfl), two25b_W]
      by_cases c2 : b.f = 1
      · rw [if_pos c2, if_pos c2]; exact ret70_k a true _ _ H
      rw [if_neg c2, if_neg c2]
      simp only
      rw [E_cut (by rfl), two25c_W]
      by_cases c3 : a.f ≠ b.f ∨ a.ps.length ≠ b.ps.length
      · rw [if_pos c3, if_pos c3]; exact ret70_z _ _ [] [] H
      rw [if_neg c3, if_neg c3]
      simp only
      rw [E_cut (by rfl), three25_W]
      simp only
      rw [E_cut (by rfl)]
      have h5 := five25_W a b a.f (min a.lo b.lo) (max a.hi b.hi) (max a.mo b.mo) hb (by omega) fun u v H hu => ih u v H (by omega) (by omega)
      cases hj : joinKs a.ps b.ps with
      | none =>
        rw [hj] at h5
        obtain ⟨X, A, h5⟩ := h5
        rw [h5]
        exact ret70_z _ _ X A H
      | some l =>
        rw [hj] at h5
        obtain ⟨d, X, A, h5, hg⟩ := h5
        rw [h5]
        simp only
        rw [six25_W a b _ _ _ _ d X A _ _ hg.cell]
        exact ret70_row _ _ _ _ l d _ A hg _ _ H
  exact key a.nodes a b H (Nat.le_refl _) hn
end
end Go.Vi
end

section
/- layer 5: kind.Join. No conditions but those that stand with each. -/
namespace Go.Vi
open Go Go.Lib Go.Proofs
set_option maxRecDepth 100000
attribute [local simp] E_skip E_ret E_exit E_text E_draw E_seq E_cond E_block E_scope E_loop runOps runOp drawR slotsOf Hp.kept_zero runDraw runVF runX runV finV gate FlOK FlOK0 wantD exec fin opd look putF norm constD constC fieldAddrD loadD storeD opCall lenD binD isShift intP strP numD indexAddrD indexD D.pd? D.pds? sub capsOf callD argsD argD D.nf unP cellD mkF H00 cD_agg cD_pagg cD_int cD_bool cD_str cD_sl cD_lit cells_int
attribute [local simp] fnOut retOut resD retsD retD oneD D.noRefs D.noRef alone Hp.cut
attribute [local simp] cells_encK encK_agg box_encK one_int one_str one_sl one_agg cD_own cD_ptr
attribute [local simp] newRow Hp.live one_encK

mutual
theorem joinP_nodes : ∀ (a b k : Kd), a.joinP b = some k → k.nodes ≤ a.nodes + b.nodes
  | .mk f lo hi mo ps, .mk f' lo' hi' mo' ps', k, h => by
    simp only [Kd.joinP] at h
    by_cases h1 : f = 1
    · rw [if_pos h1] at h; injection h with h; subst h; omega
    rw [if_neg h1] at h
    by_cases h2 : f' = 1
    · rw [if_pos h2] at h; injection h with h; subst h; omega
    rw [if_neg h2] at h
    by_cases h3 : f ≠ f' ∨ ps.length ≠ ps'.length
    · rw [if_pos h3] at h; cases h
    rw [if_neg h3] at h
    cases hj : joinPs ps ps' with
    | none => rw [hj] at h; cases h
    | some l =>
      rw [hj] at h
      injection h with h
      subst h
      have := joinPs_nodes ps ps' l hj
      simp only [Kd.nodes]
      omega
theorem joinPs_nodes : ∀ (a b l : List Kd), joinPs a b = some l → nodesKs l ≤ nodesKs a + nodesKs b
  | [], _, l, h => by simp only [joinPs] at h; injection h with h; subst h; simp [nodesKs]
  | _ :: _, [], l, h => by simp only [joinPs] at h; injection h with h; subst h; simp [nodesKs]
  | a :: r, b :: s, l, h => by
    simp only [joinPs] at h
    split at h
    · rename_i x hx
      cases hj : joinPs r s with
      | none => rw [hj] at h; cases h
      | some m =>
        rw [hj] at h
        injection h with h
        subst h
        have h1 := joinP_nodes a b x hx
        have h2 := joinPs_nodes r s m hj
        simp only [nodesKs]
        omega
    · cases h
end

/-- What Join says. -/
def joinE (a b : Kd) : D := if a.valid = true ∧ b.valid = true then (match a.join b with | some k => if k.valid = true then .tup [.p (encK k), .p (.int .i64 0)] else .tup [.p (encK kz), .p (.int .i64 5)] | none => .tup [.p (encK kz), .p (.int .i64 5)]) else .tup [.p (encK kz), .p (.int .i64 2)]

section
variable (a b : Kd)
theorem one24_W : E false ⟨0, 0⟩ 24 (cFst code24) (mkF 0 [.p (encK a), .p (encK b)]) H00 = some (.normal, [(2, .ptr 0 0), (3, .ptr 1 0), (4, .ptr 2 0)], ⟨[bK a, bK b, zB], []⟩) := by
  simp [cFst, code24, Tryz.f24, bK, zB]
theorem two24_W (h1 : ∀ H, W 60 [.p (encK a)] H = some (.ret (.p (.bool a.valid)), H)) (h2 : ∀ H, W 60 [.p (encK b)] H = some (.ret (.p (.bool b.valid)), H)) :
    E false ⟨0, 0⟩ 24 (cFst (cSnd code24)) [(2, .ptr 0 0), (3, .ptr 1 0), (4, .ptr 2 0)] ⟨[bK a, bK b, zB], []⟩ =
    if a.valid = true ∧ b.valid = true then some (.normal, [(2, .ptr 0 0), (3, .ptr 1 0), (4, .ptr 2 0), (15, .p (.bool false))], ⟨[bK a, bK b, zB], []⟩)
    else some (.ret, [(4, .ptr 2 0), (5, .p (.int .i64 2))], ⟨[bK a, bK b, zB], []⟩) := by
  cases hv : a.valid <;> cases hv' : b.valid <;> simp [cFst, cSnd, code24, Tryz.f24, bK, zB, h1, h2, hv, hv', splice, buildD, buildD.go]
theorem three24_W (x : D) (s : Option Kd) (h : ∀ H, W 70 [.p (encK a), .p (encK b)] H = some (.ret (joinR s), H)) :
    E false ⟨0, 0⟩ 24 (cFst (cSnd (cSnd code24))) [(2, .ptr 0 0), (3, .ptr 1 0), (4, .ptr 2 0), (15, x)] ⟨[bK a, bK b, zB], []⟩ =
    some (.normal, [(4, .ptr 2 0), (6, .ptr 3 0), (7, .p (.bool s.isSome))], ⟨[bK a, bK b, zB, bK (s.getD kz)], []⟩) := by
  cases s <;> simp only [joinR] at h <;> simp [cFst, cSnd, code24, Tryz.f24, bK, zB, h, splice]
theorem four24_W (k : Kd) (t : Bool) (h : ∀ H, W 60 [.p (encK k)] H = some (.ret (.p (.bool k.valid)), H)) :
    E false ⟨0, 0⟩ 24 (cFst (cSnd (cSnd (cSnd code24)))) [(4, .ptr 2 0), (6, .ptr 3 0), (7, .p (.bool t))] ⟨[bK a, bK b, zB, bK k], []⟩ =
    if t = true ∧ k.valid = true then some (.normal, [(4, .ptr 2 0), (6, .ptr 3 0), (29, .p (.bool false))], ⟨[bK a, bK b, zB, bK k], []⟩)
    else some (.ret, [(4, .ptr 2 0), (5, .p (.int .i64 5))], ⟨[bK a, bK b, zB, bK k], []⟩) := by
  cases t <;> cases hv : k.valid <;> simp [cFst, cSnd, code24, Tryz.f24, bK, zB, h, hv, splice, buildD, buildD.go]
theorem five24_W (k : Kd) (x : D) (h : ∀ H, W 64 [.p (encK k)] H = some (.ret (.p (encK k)), H)) :
    E false ⟨0, 0⟩ 24 (cSnd (cSnd (cSnd (cSnd code24)))) [(4, .ptr 2 0), (6, .ptr 3 0), (29, x)] ⟨[bK a, bK b, zB, bK k], []⟩ =
    some (.ret, [(4, .ptr 2 0), (5, .p (.int .i64 0))], ⟨[bK a, bK b, bK k, bK k], []⟩) := by
  simp [cSnd, code24, Tryz.f24, bK, zB, h, splice]
theorem ret24_W (k : Kd) (n : Int) (c d : Blk) (X : List Blk) (H : Hp) : alone H (fnOut Tryz.prog [.cell 4 25, .tmp 5] 0 0 (some (.ret, [(4, .ptr 2 0), (5, .p (.int .i64 n))], ⟨c :: d :: bK k :: X, []⟩))) = some (.ret (.tup [.p (encK k), .p (.int .i64 n)]), H) := by
  simp [bK]
theorem ret24_z (n : Int) (c d : Blk) (X : List Blk) (H : Hp) : alone H (fnOut Tryz.prog [.cell 4 25, .tmp 5] 0 0 (some (.ret, [(4, .ptr 2 0), (5, .p (.int .i64 n))], ⟨c :: d :: zB :: X, []⟩))) = some (.ret (.tup [.p (encK kz), .p (.int .i64 n)]), H) := by
  simp [zB, encK, encKs]
theorem join24_W (H : Hp) (h1 : a.nodes < 4611686018427387904) (h2 : b.nodes < 4611686018427387904) : W 24 [.p (encK a), .p (encK b)] H = some (.ret (joinE a b), H) := by
  refine W24_of rfl (by simp) ?_
  unfold joinE
  rw [E_cut (by rfl), one24_W]
  simp only
  rw [E_cut (by rfl), two24_W a b (fun H => valid60_W a H h1) (fun H => valid60_W b H h2)]
  by_cases hv : a.valid = true ∧ b.valid = true
  · obtain ⟨ha, hb⟩ := valid_nodes hv.1
    obtain ⟨hc, hd⟩ := valid_nodes hv.2
    rw [if_pos hv, if_pos hv]
    simp only
    have hj := fun H => join70_W a b H (by omega)
    rw [join_same a b hb hd] at hj
    rw [E_cut (by rfl), three24_W a b _ (a.join b) hj]
    simp only
    have hb2 : ((a.join b).getD kz).nodes ≤ 40 := by
      cases h : a.join b with
      | none => decide
      | some k => have := joinP_nodes a b k (by rw [join_same a b hb hd]; exact h); simp only [Option.getD_some]; omega
    rw [E_cut (by rfl), four24_W a b ((a.join b).getD kz) _ fun H => valid60_W _ H (by omega)]
    cases h : a.join b with
    | none => 
      simp only [Option.isSome_none, Bool.false_eq_true, false_and, if_false]
      exact ret24_z 5 _ _ _ H
    | some k =>
      rw [h] at hb2
      simp only [Option.isSome_some, Option.getD_some, true_and] at hb2 ⊢
      by_cases hk : k.valid = true
      · rw [if_pos hk, if_pos hk]
        simp only
        rw [five24_W a b k _ fun H => copied64_W k H (by omega)]
        exact ret24_W k 0 _ _ _ H
      · rw [if_neg hk, if_neg hk]
        exact ret24_z 5 _ _ _ H
  · rw [if_neg hv, if_neg hv]
    exact ret24_z 2 _ _ [] H
end
end Go.Vi
end
