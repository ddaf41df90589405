/- It is proved here what functions of the program's layer 11 and of its specification compute; conditions stand with each. The program, the second part. -/
import Derived.Test.YtodgddpkbmanoaaGreatDoorMQB
set_option linter.unusedVariables false
set_option linter.unusedSimpArgs false

section
/- Vi: layer 11: repr.parted, Cost, Floor. No conditions but those that stand with each. -/
namespace Go.Vi
open Go Go.Lib Go.Proofs
set_option maxRecDepth 100000
attribute [local simp] E_skip E_ret E_exit E_text E_draw E_seq E_cond E_block E_scope E_loop runOps runOp runDraw runVF runV finV gate FlOK wantD exec fin opd look putF norm constD constC fieldAddrD loadD storeD opCall lenD binD isShift intP strP numD indexAddrD indexD D.pd? D.pds? sub capsOf callD argsD argD D.nf unP cellD mkF H00 cD_agg cD_pagg cD_int cD_bool cD_str cD_sl cD_lit cells_encS cells_encU cells_encW cells_encR box_encU box_encW box_encR encU_agg encR_agg encW_agg cells_int one_int buildSliceD elsD splice
attribute [local simp] fnOut retOut resD retsD retD oneD D.noRefs D.noRef alone Hp.cut newRow Hp.live

theorem bd71 (R : Fr) (i : Nat) (x y z : List PD) : buildD Tryz.prog ((i, .agg [.p (.sl x), .p (.sl y), .p (.sl z)]) :: R) 130 [(0, .tmp i)] = some (.agg [.p (.sl x), .p (.sl y), .p (.sl z)]) := by
  have h : zeroOf Tryz.prog 130 = some (.agg #[.slice none 0 0, .slice none 0 0, .slice none 0 0]) := by kernel_rfl
  have pl : placesOf Tryz.prog 130 = some [(0, 3)] := by kernel_rfl
  simp [buildD, h, pl, buildD.go, splice]

def bO (op : Bool) : Blk := .cells [.p (.bool op)]
section
variable (p : RProb) (l : List Int) (op : Bool)
theorem parted58_W (x : Int) : W 96 [.p (.int .i64 x), .ptr 1 0] ⟨[bR p, bO op], []⟩ = some (.ret (.p (.bool (!shapedOK op x))), ⟨[bR p, bO op], []⟩) := by
  refine W_ofH Tryz.func96 rfl (by kernel_rfl) rfl rfl rfl rfl (by simp [D.noRef, D.noRefs]) (by rw [Tryz.ntmps96]; simp) (c := code96) ?_
  have h43 := fun H => form43_W x H
  unfold shapedOK
  have key : evalC Tryz.prog hn ch (hn.mutF 96) ⟨0, 0⟩ W 96 code96 (mkF 0 [.p (.int .i64 x), .ptr 1 0]) ⟨[bR p, bO op], []⟩ = some (.ret, [(3, .p (.bool (!(five x || (op && x == 0)))))], ⟨[bR p, bO op], []⟩) := by
    show E _ _ _ _ _ _ = _
    cases h5 : five x with
    | true => rw [h5] at h43; simp [code96, Tryz.f96, bR, bO, h43]
    | false =>
      rw [h5] at h43
      by_cases h0 : x = 0
      · have h0' : (x = 0) = True := eq_true h0
        have hb : (x == 0) = true := by simpa using h0
        cases op <;> simp [code96, Tryz.f96, bR, bO, h43, h0', hb]
      · have hb : (x == 0) = false := by simpa using h0
        cases op <;> simp [code96, Tryz.f96, bR, bO, h43, h0, hb]
  rw [key]
  simp [rs96, bR, bO, blkNo]

theorem parted32_W (hf : p.fine) (hl : l.length < 4611686018427387904) (H : Hp) : W 58 [.p (encR p), .p (.sl (l.map iP)), .p (.bool op)] H = some (.ret (.p (.int .i64 (shapedE p l op))), H) := by
  refine W58_of rfl (by simp) ?_
  have h14 := fun H => check14_W p hf H
  unfold shapedE
  cases hp : p.ok with
  | false => rw [hp] at h14; simp [code58, Tryz.f58, bR, h14]
  | true =>
    rw [hp] at h14
    by_cases he : l.length = p.sets.length
    · have h57 := containsf57_W l 96 (by decide) rfl 1 (fun x => !shapedOK op x) hl [bR p, bO op] [] (fun u _ => parted58_W p op u)
      have e : l.any (fun x => !shapedOK op x) = !l.all (shapedOK op) := by rw [List.not_all_eq_any_not]
      rw [e] at h57
      have h59 := fun H => allowed59_L p l hp he (args := [.agg [.p (.sl (p.sets.map encS)), .p (.sl (p.uses.map encU)), .p (.sl (p.same.map encW))], .p (.sl (l.map iP))]) (A1 := H.A) (H := H) rfl
      have he' : ((l.length : Int) = p.sets.length) = True := by simp [he]
      simp only [bR, bO] at h57
      cases ha : l.all (shapedOK op) with
      | false => rw [ha] at h57; simp [code58, Tryz.f58, bR, h14, he, h57, mkFn]
      | true =>
        rw [ha] at h57
        cases hal : allowed p l with
        | false => rw [hal] at h59; simp [code58, Tryz.f58, bR, h14, he, h57, h59, mkFn, bd71]
        | true => rw [hal] at h59; simp [code58, Tryz.f58, bR, h14, he, h57, h59, mkFn, bd71]
    · have he' : ¬ (l.length : Int) = p.sets.length := by omega
      simp [code58, Tryz.f58, bR, h14, he, he']

theorem cost10_W (hf : p.fine) (hl : l.length < 4611686018427387904) (H : Hp) : W 19 [.p (encR p), .p (.sl (l.map iP))] H =
    some (.ret (.tup (if shapedE p l false = 0 then [.p (.int .i64 (floorP p l)), .p (.int .i64 0)] else [.p (.int .i64 0), .p (.int .i64 (shapedE p l false))])), H) := by
  refine W19_of rfl (by simp) ?_
  have h32 := fun H => parted32_W p l false hf hl H
  by_cases h : shapedE p l false = 0
  · obtain ⟨h1, h2, h3, h4⟩ := shapedE_ok h
    have hpt : Part p l := ⟨h2, fun x hx => .inr (by
      have := List.all_eq_true.1 h3 x hx
      simpa [shapedOK] using this)⟩
    have h33 := fun H => floor33_L p l h1 hpt (args := [.agg [.p (.sl (p.sets.map encS)), .p (.sl (p.uses.map encU)), .p (.sl (p.same.map encW))], .p (.sl (l.map iP))]) (A1 := H.A) (H := H) rfl
    rw [h] at h32
    simp [code19, Tryz.f19, bR, h32, h33, h, bd71]
  · simp [code19, Tryz.f19, bR, h32, h]

theorem floor12_W (hf : p.fine) (hl : l.length < 4611686018427387904) (H : Hp) : W 18 [.p (encR p), .p (.sl (l.map iP))] H =
    some (.ret (.tup (if shapedE p l true = 0 then [.p (.int .i64 (floorP p l)), .p (.int .i64 0)] else [.p (.int .i64 0), .p (.int .i64 (shapedE p l true))])), H) := by
  refine W18_of rfl (by simp) ?_
  have h32 := fun H => parted32_W p l true hf hl H
  by_cases h : shapedE p l true = 0
  · obtain ⟨h1, h2, _⟩ := shapedE_part h
    have h33 := fun H => floor33_L p l h1 h2 (args := [.agg [.p (.sl (p.sets.map encS)), .p (.sl (p.uses.map encU)), .p (.sl (p.same.map encW))], .p (.sl (l.map iP))]) (A1 := H.A) (H := H) rfl
    rw [h] at h32
    simp [code18, Tryz.f18, bR, h32, h33, h, bd71]
  · simp [code18, Tryz.f18, bR, h32, h]
end
end Go.Vi
end

section
/- Vi: layer 11: the law ReprCosts, but for the examples. No conditions but those that stand with each. -/
namespace Go.Vi
open Go Go.Lib Go.Proofs
set_option maxRecDepth 100000
attribute [local simp] E_skip E_ret E_exit E_text E_draw E_seq E_cond E_block E_scope E_loop runOps runOp runDraw runVF runV finV gate FlOK wantD exec fin opd look putF norm constD constC fieldAddrD loadD storeD opCall lenD binD isShift intP strP numD indexAddrD indexD D.pd? D.pds? sub capsOf callD argsD argD D.nf unP cellD mkF H00 cD_agg cD_pagg cD_int cD_bool cD_str cD_sl cD_lit cells_encS cells_encU cells_encW cells_encR box_encU box_encW box_encR encU_agg encR_agg encW_agg cells_int one_int buildSliceD elsD splice
attribute [local simp] fnOut retOut resD retsD retD oneD D.noRefs D.noRef alone Hp.cut newRow Hp.live

section
variable (p : RProb) (l : List Int)
def bigS (s : RSet) : Bool := decide (8 < s.forms.length)
def bigR (p : RProb) : Bool := decide (8 < p.sets.length) || decide (40 < p.uses.length) || decide (15 < p.same.length) || p.sets.any bigS
theorem big_fine (h : bigR p = false) : p.fine := by
  simp only [bigR, Bool.or_eq_false_iff, decide_eq_false_iff_not, List.any_eq_false] at h
  refine ⟨by omega, by omega, by omega, fun s hs => ?_⟩
  have := h.2 s hs
  simp only [bigS, decide_eq_true_eq] at this
  omega

def fr8 (i : Nat) : Fr := [(1, .ptr 0 0), (3, .p (.int .i64 i))]
end
end Go.Vi
end

section
/- Vi: layer 11: slices.Clone, repr.problem.search. No conditions but those that stand with each. -/
namespace Go.Vi
open Go Go.Lib Go.Proofs
set_option maxRecDepth 100000
attribute [local simp] E_skip E_ret E_exit E_text E_draw E_seq E_cond E_block E_scope E_loop runOps runOp runDraw runVF runV finV gate FlOK wantD exec fin opd look putF norm constD constC fieldAddrD loadD storeD opCall lenD binD isShift intP strP numD indexAddrD indexD D.pd? D.pds? sub capsOf callD argsD argD D.nf unP cellD mkF H00 cD_agg cD_pagg cD_int cD_bool cD_str cD_sl cD_lit cells_encS cells_encU cells_encW cells_encR box_encU box_encW box_encR encU_agg encR_agg encW_agg cells_int one_int buildSliceD elsD splice
attribute [local simp] fnOut retOut resD retsD retD oneD D.noRefs D.noRef alone Hp.cut newRow Hp.live

theorem fit0 : fits 1 [] = true := rfl
/-- An open row of forms; a nil one. -/
def rW (l : List Int) : Arr := ⟨0, 62, 1, false, false, l.map iP⟩
def rN (fz : Bool) : Arr := ⟨0, 62, 1, true, fz, []⟩

theorem clone68_W (l : List Int) (c : Nat) (H : Hp) (hc : c < H.A.length) (h : H.A[c]? = some (rW l)) (hl : l.length ≤ 100) (hne : ¬ l = []) :
    W 20 [.own c 0] H = some (.ret (.own (H.A.length + 1) 0), ⟨H.B, H.A ++ [rN false, rW l]⟩) := by
  refine W20_ofO (by simp [D.noRef]) (by simp) ?_
  obtain ⟨B, A⟩ := H
  simp only at hc h
  have h1 : (A ++ [(⟨0, 62, 1, true, false, []⟩ : Arr)])[c]? = some ⟨0, 62, 1, false, false, l.map iP⟩ := by rw [List.getElem?_append_left hc]; exact h
  have hb : l.length * 8 ≤ 140737488355328 := by omega
  simp [code20, Tryz.f20, h1, appendD, srcD, fit_i, nilD, isNil, hb, hne, fit0, fnOutO, rN, rW]

/-- What was found: its list, its cost. -/
def bD : Found → D
  | none => .lit true []
  | some (b, _) => .p (.sl (b.map iP))
def cD : Found → Int
  | none => 0
  | some (_, n) => n
def aR (p : RProb) : D := .agg [.p (.sl (p.sets.map encS)), .p (.sl (p.uses.map encU)), .p (.sl (p.same.map encW))]

section
variable (p : RProb) (l : List Int) (i c : Nat) (acc : Found) (B : List Blk) (A : List Arr)
/-- The state at which a search stands: its arguments' heap. -/
structure At : Prop where
  ok : p.ok = true
  len : l.length = p.sets.length
  part : Part p l
  ne : ¬ l = []
  lt : c < A.length
  row : A[c]? = some (rW l)
  blk : ∀ x y, B.all (blkNo x y) = true
  fnd : ∀ b n, acc = some (b, n) → ¬ b = []

theorem search_no (h : At p l c acc B A) (hall : allowed p l = false) :
    W 91 [aR p, .own c 0, .p (.int .i64 i), bD acc, .p (.int .i64 (cD acc))] ⟨B, A⟩ = some (.ret (.tup [bD acc, .p (.int .i64 (cD acc))]), ⟨B, A⟩) := by
  refine W91_ofN (by simp [D.noRef]) (by simp) ?_
  obtain ⟨ok, len, part, ne, hc, row, blk, hacc⟩ := h
  have h1 : (A ++ [(⟨0, 62, 1, true, true, []⟩ : Arr)])[c]? = some ⟨0, 62, 1, false, false, l.map iP⟩ := by rw [List.getElem?_append_left hc]; exact row
  have h59 := allowed59_L p l ok len (args := [aR p, .own c 0]) (A1 := (A ++ [(⟨0, 62, 1, true, true, []⟩ : Arr)]).set c ⟨0, 62, 1, false, true, l.map iP⟩) (H := ⟨B ++ [bR p], A ++ [⟨0, 62, 1, true, true, []⟩]⟩) (by simp only [argsD, argD, aR, Hp.live, h1, if_true, Bool.false_eq_true, if_false]; rfl)
  rw [hall] at h59
  simp only [aR, bR] at h59
  have nb := blk B.length A.length
  cases acc with
  | none => simp [code91, Tryz.f91, aR, bD, cD, h1, h59, fnOutN, retOutN, retsN, retN, nb]
  | some q => obtain ⟨b, n⟩ := q; simp [code91, Tryz.f91, aR, bD, cD, h1, h59, fnOutN, retOutN, retsN, retN, nb]
end
end Go.Vi
end

section
/- Vi: layer 11: repr.problem.search. No conditions but those that stand with each. -/
namespace Go.Vi
open Go Go.Lib Go.Proofs
set_option maxRecDepth 100000
attribute [local simp] E_skip E_ret E_exit E_text E_draw E_seq E_cond E_block E_scope E_loop runOps runOp runDraw runVF runV finV gate FlOK wantD exec fin opd look putF norm constD constC fieldAddrD loadD storeD opCall lenD binD isShift intP strP numD indexAddrD indexD D.pd? D.pds? sub capsOf callD argsD argD D.nf unP cellD mkF H00 cD_agg cD_pagg cD_int cD_bool cD_str cD_sl cD_lit cells_encS cells_encU cells_encW cells_encR box_encU box_encW box_encR encU_agg encR_agg encW_agg cells_int one_int buildSliceD elsD splice
attribute [local simp] fnOut retOut resD retsD retD oneD D.noRefs D.noRef alone Hp.cut newRow Hp.live
attribute [local simp] fnOutN retOutN retsN retN

theorem take_set_app {α : Type} (A X : List α) (n : Nat) (z : α) (h : A.length ≤ n) : ((A ++ X).set n z).take A.length = A := by
  rw [List.set_append_right _ _ h, List.take_left']
  rfl

section
variable (p : RProb) (l : List Int) (i c : Nat) (acc : Found) (B : List Blk) (A : List Arr)
/-- The calls that look at the part. -/
theorem at_calls {p l c acc B A} (h : At p l c acc B A) :
    (A ++ [(⟨0, 62, 1, true, true, []⟩ : Arr)])[c]? = some ⟨0, 62, 1, false, false, l.map iP⟩ ∧
    W 94 [aR p, .own c 0] ⟨B ++ [bR p], A ++ [⟨0, 62, 1, true, true, []⟩]⟩ = some (.ret (.p (.bool (allowed p l))), ⟨B ++ [bR p], A ++ [⟨0, 62, 1, true, true, []⟩]⟩) ∧
    W 59 [aR p, .own c 0] ⟨B ++ [bR p], A ++ [⟨0, 62, 1, true, true, []⟩]⟩ = some (.ret (.p (.int .i64 (floorP p l))), ⟨B ++ [bR p], A ++ [⟨0, 62, 1, true, true, []⟩]⟩) := by
  obtain ⟨ok, len, part, ne, hc, row, blk, hacc⟩ := h
  have h1 : (A ++ [(⟨0, 62, 1, true, true, []⟩ : Arr)])[c]? = some ⟨0, 62, 1, false, false, l.map iP⟩ := by rw [List.getElem?_append_left hc]; exact row
  have ha : argsD false (A ++ [(⟨0, 62, 1, true, true, []⟩ : Arr)]) [aR p, .own c 0] = some ([.p (encR p), .p (.sl (l.map iP))], (A ++ [(⟨0, 62, 1, true, true, []⟩ : Arr)]).set c ⟨0, 62, 1, false, true, l.map iP⟩) := by
    simp only [argsD, argD, aR, Hp.live, h1, if_true, Bool.false_eq_true, if_false]; rfl
  exact ⟨h1, allowed59_L p l ok len (H := ⟨B ++ [bR p], A ++ [⟨0, 62, 1, true, true, []⟩]⟩) ha, floor33_L p l ok part (H := ⟨B ++ [bR p], A ++ [⟨0, 62, 1, true, true, []⟩]⟩) ha⟩

theorem search_cut (b : List Int) (n : Int) (h : At p l c (some (b, n)) B A) (hall : allowed p l = true) (hn : n ≤ floorP p l) :
    W 91 [aR p, .own c 0, .p (.int .i64 i), .p (.sl (b.map iP)), .p (.int .i64 n)] ⟨B, A⟩ = some (.ret (.tup [.p (.sl (b.map iP)), .p (.int .i64 n)]), ⟨B, A⟩) := by
  refine W91_ofN (by simp [D.noRef]) (by simp) ?_
  obtain ⟨h1, h59, h33⟩ := at_calls h
  obtain ⟨ok, len, part, ne, hc, row, blk, hacc⟩ := h
  rw [hall] at h59
  simp only [aR, bR] at h59 h33
  have nb := blk B.length A.length
  have hb : ¬ b = [] := hacc b n rfl
  cases b with
  | nil => exact absurd rfl hb
  | cons y b => simp [code91, Tryz.f91, aR, h1, h59, h33, hn, nilD, isNil, nb]

theorem search_leaf (h : At p l c acc B A) (hall : allowed p l = true) (hn : ∀ b n, acc = some (b, n) → ¬ n ≤ floorP p l) :
    W 91 [aR p, .own c 0, .p (.int .i64 l.length), bD acc, .p (.int .i64 (cD acc))] ⟨B, A⟩ = some (.ret (.tup [.p (.sl (l.map iP)), .p (.int .i64 (floorP p l))]), ⟨B, A⟩) := by
  refine W91_ofN (by simp [D.noRef]) (by simp) ?_
  obtain ⟨h1, h59, h33⟩ := at_calls h
  obtain ⟨ok, len, part, ne, hc, row, blk, hacc⟩ := h
  rw [hall] at h59
  obtain ⟨_, h5, _⟩ := ok_fine ok
  have h68 := clone68_W l c ⟨B ++ [bR p], A ++ [⟨0, 62, 1, true, true, []⟩]⟩ (by simp; omega) h1 (by omega) ne
  simp only [aR, bR, rN, rW] at h59 h33 h68
  have nb := blk B.length A.length
  have e2 : ∀ h, (A ++ [(⟨0, 62, 1, true, true, []⟩ : Arr), ⟨0, 62, 1, true, false, []⟩, ⟨0, 62, 1, false, false, l.map iP⟩])[A.length + 1 + 1]'h = ⟨0, 62, 1, false, false, l.map iP⟩ := fun h => by
    rw [List.getElem_append_right (by omega)]; simp [show A.length + 1 + 1 - A.length = 2 by omega]
  have l0 : ¬ A.length + 1 + 1 < A.length := by omega
  have e4 : ∀ z, ((A ++ [(⟨0, 62, 1, true, true, []⟩ : Arr), ⟨0, 62, 1, true, false, []⟩, ⟨0, 62, 1, false, false, l.map iP⟩]).set (A.length + 1 + 1) z).take A.length = A := fun z => take_set_app A _ _ z (by omega)
  cases acc with
  | none => simp [code91, Tryz.f91, aR, bD, cD, h1, h59, h33, h68, nilD, isNil, nb, ne, e2, e4, l0]
  | some q =>
    obtain ⟨b, n⟩ := q
    have hb : ¬ b = [] := hacc b n rfl
    have hn' := hn b n rfl
    cases b with
    | nil => exact absurd rfl hb
    | cons y b => simp [code91, Tryz.f91, aR, bD, cD, h1, h59, h33, h68, nilD, isNil, nb, ne, e2, e4, l0, hn']

theorem search_skip (r : Found) (h : At p l c acc B A) (hall : allowed p l = true) (hn : ∀ b n, acc = some (b, n) → ¬ n ≤ floorP p l) (hi : i < l.length) (h0 : ¬ l[i] = 0)
    (hr : W 91 [aR p, .own c 0, .p (.int .i64 ((i : Int) + 1)), bD acc, .p (.int .i64 (cD acc))] ⟨B ++ [bR p], A ++ [⟨0, 62, 1, true, true, []⟩]⟩ = some (.ret (.tup [bD r, .p (.int .i64 (cD r))]), ⟨B ++ [bR p], A ++ [⟨0, 62, 1, true, true, []⟩]⟩)) :
    W 91 [aR p, .own c 0, .p (.int .i64 i), bD acc, .p (.int .i64 (cD acc))] ⟨B, A⟩ = some (.ret (.tup [bD r, .p (.int .i64 (cD r))]), ⟨B, A⟩) := by
  refine W91_ofN (by simp [D.noRef]) (by simp) ?_
  obtain ⟨h1, h59, h33⟩ := at_calls h
  obtain ⟨ok, len, part, ne, hc, row, blk, hacc⟩ := h
  rw [hall] at h59
  obtain ⟨_, h5, _⟩ := ok_fine ok
  simp only [aR, bR] at h59 h33 hr
  have nb := blk B.length A.length
  have hw : IntKind.i64.wrap ((i : Int) + 1) = (i : Int) + 1 := wrap64 (by omega) (by omega)
  have hi' : ¬ (i : Int) = l.length := by omega
  have hi2 : ¬ i = l.length := by omega
  cases acc with
  | none =>
    simp only [bD, cD] at hr
    cases r with
    | none => simp only [bD, cD] at hr; simp [code91, Tryz.f91, aR, bD, cD, h1, h59, h33, hr, nilD, isNil, nb, hi, hi', hi2, h0, hw]
    | some q => obtain ⟨b, n⟩ := q; simp only [bD, cD] at hr; simp [code91, Tryz.f91, aR, bD, cD, h1, h59, h33, hr, nilD, isNil, nb, hi, hi', hi2, h0, hw]
  | some q =>
    obtain ⟨b, n⟩ := q
    have hb : ¬ b = [] := hacc b n rfl
    have hn' := hn b n rfl
    cases b with
    | nil => exact absurd rfl hb
    | cons y b =>
      simp only [bD, cD, List.map_cons] at hr
      cases r with
      | none => simp only [bD, cD] at hr; simp [code91, Tryz.f91, aR, bD, cD, h1, h59, h33, hr, nilD, isNil, nb, hi, hi', hi2, h0, hw, hn']
      | some q => obtain ⟨b', n'⟩ := q; simp only [bD, cD] at hr; simp [code91, Tryz.f91, aR, bD, cD, h1, h59, h33, hr, nilD, isNil, nb, hi, hi', hi2, h0, hw, hn']
end
end Go.Vi
end

section
/- Vi: layer 11: repr.problem.search: what it finds. No conditions but those that stand with each. -/
namespace Go.Vi
open Go Go.Lib Go.Proofs
set_option maxRecDepth 100000
attribute [local simp] E_skip E_ret E_exit E_text E_draw E_seq E_cond E_block E_scope E_loop runOps runOp runDraw runVF runV finV gate FlOK wantD exec fin opd look putF norm constD constC fieldAddrD loadD storeD opCall lenD binD isShift intP strP numD indexAddrD indexD D.pd? D.pds? sub capsOf callD argsD argD D.nf unP cellD mkF H00 cD_agg cD_pagg cD_int cD_bool cD_str cD_sl cD_lit cells_encS cells_encU cells_encW cells_encR box_encU box_encW box_encR encU_agg encR_agg encW_agg cells_int one_int buildSliceD elsD splice
attribute [local simp] fnOut retOut resD retsD retD oneD D.noRefs D.noRef alone Hp.cut newRow Hp.live
attribute [local simp] fnOutN retOutN retsN retN

def Fnd (acc : Found) : Prop := ∀ b n, acc = some (b, n) → ¬ b = []
def cutB (p : RProb) (c : List Int) : Found → Bool
  | some (_, n) => decide (n ≤ floorP p c)
  | none => false
theorem srch_zero (p : RProb) (c : List Int) (i : Nat) (acc : Found) : srch p 0 c i acc = if allowed p c = true then (if cutB p c acc = true then acc else some (c, floorP p c)) else acc := by
  cases acc <;> rfl
theorem srch_succ (p : RProb) (k : Nat) (c : List Int) (i : Nat) (acc : Found) : srch p (k + 1) c i acc = if allowed p c = true then (if cutB p c acc = true then acc else
    (if c.getD i 0 ≠ 0 then srch p k c (i + 1) acc else (p.form i).foldl (fun acc f => srch p k (c.set i f) (i + 1) acc) acc)) else acc := by
  cases acc <;> rfl
theorem srch_fnd (p : RProb) : ∀ (k : Nat) (c : List Int) (i : Nat) (acc : Found), ¬ c = [] → Fnd acc → Fnd (srch p k c i acc) := by
  intro k
  induction k with
  | zero =>
    intro c i acc hc h
    rw [srch_zero]
    split
    · split
      · exact h
      · intro b n e
        simp only [Option.some.injEq, Prod.mk.injEq] at e
        rw [← e.1]; exact hc
    · exact h
  | succ k ih =>
    intro c i acc hc h
    rw [srch_succ]
    split
    · split
      · exact h
      · split
        · exact ih c (i + 1) acc hc h
        · have key : ∀ (F : List Int) (acc : Found), Fnd acc → Fnd (F.foldl (fun acc f => srch p k (c.set i f) (i + 1) acc) acc) := by
            intro F
            induction F with
            | nil => intro acc h; exact h
            | cons f F ihF => intro acc h; exact ihF _ (ih _ _ _ (by simpa using hc) h)
          exact key _ acc h
    · exact h

section
variable (p : RProb) (l : List Int) (i c : Nat) (F : List Int) (B : List Blk) (A : List Arr)
def lj (j : Nat) : List Int := if j = 0 then l else l.set i (F.getD (j - 1) 0)
theorem lj_set (j : Nat) (f : Int) : (lj l i F j).set i f = l.set i f := by
  unfold lj; split
  · rfl
  · simp
theorem lj_len (j : Nat) : (lj l i F j).length = l.length := by
  unfold lj; split <;> simp
def fr67 (acc : Found) (j : Nat) : Fr := [(1, .own c 0), (2, .p (.int .i64 i)), (3, bD acc), (4, .p (.int .i64 (cD acc))), (5, .ptr B.length 0), (60, .p (.sl (F.map iP))), (61, .p (.int .i64 F.length)), (62, .p (.int .i64 j))]
def hp67 (j : Nat) : Hp := ⟨B ++ [bR p], (A ++ [(⟨0, 62, 1, true, true, []⟩ : Arr)]).set c ⟨0, 62, 1, false, false, (lj l i F j).map iP⟩⟩

theorem cut67 (F' : Fr) (keep : List Tmp) (r : Arr) : cutD ⟨0, 0⟩ keep (B.length + 1) (A.length + 1) F' ⟨B ++ [bR p], (A ++ [(⟨0, 62, 1, true, true, []⟩ : Arr)]).set c r⟩ = some (norm keep F', ⟨B ++ [bR p], (A ++ [(⟨0, 62, 1, true, true, []⟩ : Arr)]).set c r⟩) := by
  have := cut_full ⟨0, 0⟩ keep F' ⟨B ++ [bR p], (A ++ [(⟨0, 62, 1, true, true, []⟩ : Arr)]).set c r⟩
  simpa only [List.length_append, List.length_set, List.length_singleton] using this

theorem loop67 (g : Nat → Found → Found) (hc : c < A.length) (hi : i < l.length) (hl : l.length ≤ 5) (hFl : F.length ≤ 5)
    (hr : ∀ j acc, j < F.length → Fnd acc → Fnd (g j acc) ∧ W 91 [aR p, .own c 0, .p (.int .i64 ((i : Int) + 1)), bD acc, .p (.int .i64 (cD acc))] ⟨B ++ [bR p], (A ++ [(⟨0, 62, 1, true, true, []⟩ : Arr)]).set c ⟨0, 62, 1, false, false, (l.set i (F.getD j 0)).map iP⟩⟩ =
      some (.ret (.tup [bD (g j acc), .p (.int .i64 (cD (g j acc)))]), ⟨B ++ [bR p], (A ++ [(⟨0, 62, 1, true, true, []⟩ : Arr)]).set c ⟨0, 62, 1, false, false, (l.set i (F.getD j 0)).map iP⟩⟩)) (acc : Found) (hacc : Fnd acc) :
    loopO false ⟨0, 0⟩ 91 lp91_0 (B.length + 1) (A.length + 1) (fr67 i c F B acc 0) (hp67 p l i c F B A 0) =
      some (.exit 0, fr67 i c F B (foldN g F.length 0 acc) F.length ++ [(63, .p (.bool false))], hp67 p l i c F B A F.length) := by
  refine for_fold (α := Found) (nB := B.length + 1) (nA := A.length + 1) hd91_0 F.length (fun j acc => fr67 i c F B acc j) (fun j _ => hp67 p l i c F B A j) g (fun _ acc => Fnd acc)
    (fun acc => (.exit 0, fr67 i c F B acc F.length ++ [(63, .p (.bool false))], hp67 p l i c F B A F.length)) (fun _ => by simp) (fun acc _ => by simp [lp91_0, code91, Tryz.f91, fr67, hp67])
    (fun j acc hj ha => ?_) (a := acc) (F := fr67 i c F B acc 0) (H := hp67 p l i c F B A 0) hacc (by unfold hp67; rw [cut67]; rfl)
  obtain ⟨h1, h2⟩ := hr j acc hj ha
  refine ⟨h1, fr67 i c F B (g j acc) (j + 1), hp67 p l i c F B A (j + 1), ?_, by unfold hp67; rw [cut67]; rfl⟩
  have hw : IntKind.i64.wrap ((j : Int) + 1) = (j : Int) + 1 := wrap64 (by omega) (by omega)
  have hw2 : IntKind.i64.wrap ((i : Int) + 1) = (i : Int) + 1 := wrap64 (by omega) (by omega)
  have hlen := lj_len l i F j
  have hi2 : i < (lj l i F j).length := by omega
  have eq1 : lj l i F (j + 1) = (lj l i F j).set i (F.getD j 0) := by rw [lj_set]; unfold lj; simp
  rw [← lj_set l i F j] at h2
  have hc1 : c < (A ++ [(⟨0, 62, 1, true, true, []⟩ : Arr)]).length := by simp; omega
  simp only [getD_at hj, List.map_set] at h2
  unfold hp67
  rw [eq1, getD_at hj, List.map_set]
  generalize lj l i F j = m at *
  generalize g j acc = r at *
  generalize (A ++ [(⟨0, 62, 1, true, true, []⟩ : Arr)]) = A1 at *
  simp only [aR, bR] at h2
  have hi3 : (i : Int) < m.length := by omega
  cases acc with
  | none =>
    simp only [bD, cD] at h2
    cases r with
    | none => simp only [bD, cD] at h2; simp [lp91_0, code91, Tryz.f91, fr67, bD, cD, bR, hj, hc1, hi2, hi3, h2, hw, hw2, setEl]
    | some q => obtain ⟨b, n⟩ := q; simp only [bD, cD] at h2; simp [lp91_0, code91, Tryz.f91, fr67, bD, cD, bR, hj, hc1, hi2, hi3, h2, hw, hw2, setEl]
  | some q =>
    obtain ⟨b, n⟩ := q
    simp only [bD, cD] at h2
    cases r with
    | none => simp only [bD, cD] at h2; simp [lp91_0, code91, Tryz.f91, fr67, bD, cD, bR, hj, hc1, hi2, hi3, h2, hw, hw2, setEl]
    | some q => obtain ⟨b', n'⟩ := q; simp only [bD, cD] at h2; simp [lp91_0, code91, Tryz.f91, fr67, bD, cD, bR, hj, hc1, hi2, hi3, h2, hw, hw2, setEl]
end
end Go.Vi
end

section
/- Vi: layer 11: repr.problem.search, cheapest; repr.Best, Least. No conditions but those that stand with each. -/
namespace Go.Vi
open Go Go.Lib Go.Proofs
set_option maxRecDepth 100000
attribute [local simp] E_skip E_ret E_exit E_text E_draw E_seq E_cond E_block E_scope E_loop runOps runOp runDraw runVF runV finV gate FlOK wantD exec fin opd look putF norm constD constC fieldAddrD loadD storeD opCall lenD binD isShift intP strP numD indexAddrD indexD D.pd? D.pds? sub capsOf callD argsD argD D.nf unP cellD mkF H00 cD_agg cD_pagg cD_int cD_bool cD_str cD_sl cD_lit cells_encS cells_encU cells_encW cells_encR box_encU box_encW box_encR encU_agg encR_agg encW_agg cells_int one_int buildSliceD elsD splice
attribute [local simp] fnOut retOut resD retsD retD oneD D.noRefs D.noRef alone Hp.cut newRow Hp.live
attribute [local simp] fnOutN retOutN retsN retN

theorem set_self_of {α : Type} {A : List α} {c : Nat} {x : α} (h : A[c]? = some x) : A.set c x = A := by
  apply List.ext_getElem? 
  intro j
  rw [List.getElem?_set]
  split
  · rename_i e; subst e
    obtain ⟨h1, _⟩ := List.getElem?_eq_some_iff.1 h
    rw [if_pos h1, h]
  · rfl

section
variable (p : RProb)
theorem search_loop (l : List Int) (i c : Nat) (acc r : Found) (B : List Blk) (A : List Arr) (h : At p l c acc B A) (hall : allowed p l = true) (hn : ∀ b n, acc = some (b, n) → ¬ n ≤ floorP p l) (hi : i < l.length) (h0 : l[i] = 0)
    (hr : loopO false ⟨0, 0⟩ 91 lp91_0 (B.length + 1) (A.length + 1) (fr67 i c (p.form i) B acc 0) (hp67 p l i c (p.form i) B A 0) =
      some (.exit 0, fr67 i c (p.form i) B r (p.form i).length ++ [(63, .p (.bool false))], hp67 p l i c (p.form i) B A (p.form i).length)) :
    W 91 [aR p, .own c 0, .p (.int .i64 i), bD acc, .p (.int .i64 (cD acc))] ⟨B, A⟩ = some (.ret (.tup [bD r, .p (.int .i64 (cD r))]), ⟨B, A⟩) := by
  refine W91_ofN (by simp [D.noRef]) (by simp) ?_
  obtain ⟨h1, h59, h33⟩ := at_calls h
  obtain ⟨ok, len, part, ne, hc, row, blk, hacc⟩ := h
  rw [hall] at h59
  obtain ⟨_, h5, _⟩ := ok_fine ok
  have nb := blk B.length A.length
  have hi' : ¬ (i : Int) = l.length := by omega
  have hi2 : ¬ i = l.length := by omega
  have hs : i < p.sets.length := by omega
  have ef : p.form i = p.sets[i].forms := by simp [RProb.form, List.getD_eq_getElem?_getD, hs]
  have e0 : hp67 p l i c (p.form i) B A 0 = ⟨B ++ [bR p], A ++ [(⟨0, 62, 1, true, true, []⟩ : Arr)]⟩ := by
    unfold hp67 lj
    simp only [if_true]
    congr 1
    exact set_self_of h1
  rw [e0] at hr
  have hlen := lj_len l i (p.form i) (p.form i).length
  have hset : (lj l i (p.form i) (p.form i).length).set i 0 = l := by
    rw [lj_set]
    apply List.ext_getElem (by simp)
    intro j h1 h2
    by_cases e : i = j
    · subst e; simp [h0]
    · simp [List.getElem_set_ne e]
  have hset2 : ((lj l i (p.form i) (p.form i).length).map iP).set i (iP 0) = l.map iP := by rw [← List.map_set, hset]
  unfold hp67 at hr
  generalize lj l i (p.form i) (p.form i).length = m at *
  rw [ef] at hr
  have hi3 : i < m.length := by omega
  have hc1 : c < (A ++ [(⟨0, 62, 1, true, true, []⟩ : Arr)]).length := by simp; omega
  have fin : ((A ++ [(⟨0, 62, 1, true, true, []⟩ : Arr)]).set c ⟨0, 62, 1, false, false, l.map iP⟩).take A.length = A := by
    rw [set_self_of h1]; simp
  have hc2 : c < A.length + 1 := by omega
  have h1g : ∀ h, (A ++ [(⟨0, 62, 1, true, true, []⟩ : Arr)])[c]'h = ⟨0, 62, 1, false, false, l.map iP⟩ := fun h => (List.getElem?_eq_some_iff.1 h1).2
  have h00 : ((0 : Nat) : Int) = 0 := rfl
  simp only [aR, bR] at h59 h33
  simp only [lp91_0, code91, Tryz.f91, fr67, h00, bR] at hr
  cases acc with
  | none =>
    simp only [bD, cD] at hr
    cases r with
    | none => simp only [bD, cD] at hr; simp [code91, Tryz.f91, aR, bD, cD, h1, h59, h33, hr, nilD, isNil, nb, hi, hi', hi2, h0, hs, hi3, hc1, hc2, hset2, fin, h1g, setEl]
    | some q => obtain ⟨b, n⟩ := q; simp only [bD, cD] at hr; simp [code91, Tryz.f91, aR, bD, cD, h1, h59, h33, hr, nilD, isNil, nb, hi, hi', hi2, h0, hs, hi3, hc1, hc2, hset2, fin, h1g, setEl]
  | some q =>
    obtain ⟨b, n⟩ := q
    have hb : ¬ b = [] := hacc b n rfl
    have hn' := hn b n rfl
    cases b with
    | nil => exact absurd rfl hb
    | cons y b =>
      simp only [bD, cD, List.map_cons] at hr
      cases r with
      | none => simp only [bD, cD] at hr; simp [code91, Tryz.f91, aR, bD, cD, h1, h59, h33, hr, nilD, isNil, nb, hi, hi', hi2, h0, hs, hi3, hc1, hc2, hset2, fin, h1g, setEl, hn']
      | some q => obtain ⟨b', n'⟩ := q; simp only [bD, cD] at hr; simp [code91, Tryz.f91, aR, bD, cD, h1, h59, h33, hr, nilD, isNil, nb, hi, hi', hi2, h0, hs, hi3, hc1, hc2, hset2, fin, h1g, setEl, hn']
end
end Go.Vi
end

section
/- Vi: layer 11: repr.problem.search, cheapest. No conditions but those that stand with each. -/
namespace Go.Vi
open Go Go.Lib Go.Proofs
set_option maxRecDepth 100000
attribute [local simp] E_skip E_ret E_exit E_text E_draw E_seq E_cond E_block E_scope E_loop runOps runOp runDraw runVF runV finV gate FlOK wantD exec fin opd look putF norm constD constC fieldAddrD loadD storeD opCall lenD binD isShift intP strP numD indexAddrD indexD D.pd? D.pds? sub capsOf callD argsD argD D.nf unP cellD mkF H00 cD_agg cD_pagg cD_int cD_bool cD_str cD_sl cD_lit cells_encS cells_encU cells_encW cells_encR box_encU box_encW box_encR encU_agg encR_agg encW_agg cells_int one_int buildSliceD elsD splice
attribute [local simp] fnOut retOut resD retsD retD oneD D.noRefs D.noRef alone Hp.cut newRow Hp.live
attribute [local simp] fnOutN retOutN retsN retN

theorem bR_blk (p : RProb) (x y : Nat) : blkNo x y (bR p) = true := rfl
theorem blk_snoc {p : RProb} {B : List Blk} (h : ∀ x y, B.all (blkNo x y) = true) (x y : Nat) : (B ++ [bR p]).all (blkNo x y) = true := by
  rw [List.all_append, h x y, List.all_cons, bR_blk, List.all_nil]; rfl
theorem at_next {p : RProb} {l : List Int} {c : Nat} {acc : Found} {B : List Blk} {A : List Arr} (h : At p l c acc B A) : At p l c acc (B ++ [bR p]) (A ++ [(⟨0, 62, 1, true, true, []⟩ : Arr)]) :=
  ⟨h.ok, h.len, h.part, h.ne, by have := h.lt; simp; omega, by rw [List.getElem?_append_left h.lt]; exact h.row, blk_snoc h.blk, h.fnd⟩
theorem at_set {p : RProb} {l : List Int} {i c : Nat} {acc acc' : Found} {B : List Blk} {A : List Arr} (h : At p l c acc B A) {f : Int} (hf : five f = true) (ha : Fnd acc') :
    At p (l.set i f) c acc' (B ++ [bR p]) ((A ++ [(⟨0, 62, 1, true, true, []⟩ : Arr)]).set c (rW (l.set i f))) := by
  have hc : c < (A ++ [(⟨0, 62, 1, true, true, []⟩ : Arr)]).length := by have := h.lt; simp; omega
  refine ⟨h.ok, by rw [List.length_set]; exact h.len, ⟨by rw [List.length_set]; exact h.len, fun x hx => ?_⟩, by simpa using h.ne, by rw [List.length_set]; exact hc, by rw [List.getElem?_set, if_pos rfl, if_pos hc], blk_snoc h.blk, ha⟩
  rcases List.mem_or_eq_of_mem_set hx with hx | hx
  · exact h.part.2 x hx
  · exact .inr (hx ▸ hf)

theorem search67_W (p : RProb) : ∀ (k : Nat) (l : List Int) (i c : Nat) (acc : Found) (B : List Blk) (A : List Arr), At p l c acc B A → i + k = l.length →
    W 91 [aR p, .own c 0, .p (.int .i64 i), bD acc, .p (.int .i64 (cD acc))] ⟨B, A⟩ = some (.ret (.tup [bD (srch p k l i acc), .p (.int .i64 (cD (srch p k l i acc)))]), ⟨B, A⟩) := by
  have nocut : ∀ {l : List Int} {acc : Found}, cutB p l acc = false → ∀ b n, acc = some (b, n) → ¬ n ≤ floorP p l := fun h b n e => by
    subst e
    simpa [cutB] using h
  intro k
  induction k with
  | zero =>
    intro l i c acc B A h hk
    rw [srch_zero]
    cases hall : allowed p l with
    | false => exact search_no p l i c acc B A h hall
    | true =>
      cases hcut : cutB p l acc with
      | true =>
        cases acc with
        | none => cases hcut
        | some q => obtain ⟨b, n⟩ := q; exact search_cut p l i c B A b n h hall (by simpa [cutB] using hcut)
      | false =>
        obtain rfl : i = l.length := by omega
        exact search_leaf p l c acc B A h hall (nocut hcut)
  | succ k ih =>
    intro l i c acc B A h hk
    rw [srch_succ]
    cases hall : allowed p l with
    | false => exact search_no p l i c acc B A h hall
    | true =>
      cases hcut : cutB p l acc with
      | true =>
        cases acc with
        | none => cases hcut
        | some q => obtain ⟨b, n⟩ := q; exact search_cut p l i c B A b n h hall (by simpa [cutB] using hcut)
      | false =>
        have hi : i < l.length := by omega
        have hs : i < p.sets.length := by rw [← h.len]; exact hi
        obtain ⟨_, h5, _⟩ := ok_fine h.ok
        simp only [Bool.false_eq_true, if_false, if_true, getD_at hi]
        by_cases h0 : l[i] = 0
        · have hfe : ∀ f ∈ p.form i, five f = true := (form_ne h.ok hs).2
          have hl := loop67 p l i c (p.form i) B A (fun j acc => srch p k (l.set i ((p.form i).getD j 0)) (i + 1) acc) h.lt hi (by rw [h.len]; exact h5) (form_len h.ok hs) (fun j acc' hj ha => by
            have hf : five ((p.form i).getD j 0) = true := by rw [getD_at hj]; exact hfe _ (List.getElem_mem hj)
            refine ⟨srch_fnd p k _ _ _ (by simpa using h.ne) ha, ?_⟩
            exact ih (l.set i ((p.form i).getD j 0)) (i + 1) c acc' _ _ (at_set h hf ha) (by rw [List.length_set]; omega)) acc h.fnd
          rw [foldN_list (fun f acc => srch p k (l.set i f) (i + 1) acc) 0 (p.form i) acc] at hl
          rw [if_neg (by simpa using h0)]
          exact search_loop p l i c acc _ B A h hall (nocut hcut) hi h0 hl
        · rw [if_pos h0]
          exact search_skip p l i c acc B A _ h hall (nocut hcut) hi h0 (ih l (i + 1) c acc _ _ (at_next h) (by omega))

section
variable (p : RProb) (l : List Int) (c : Nat) (B : List Blk) (A : List Arr)
/-- What the search finds from a part on. -/
def bestP : Found := srch p l.length l 0 none
theorem cheapest40_W (h : At p l c none B A) : W 51 [aR p, .own c 0] ⟨B, A⟩ = some (.ret (.tup [bD (bestP p l), .p (.int .i64 (cD (bestP p l)))]), ⟨B, A⟩) := by
  refine W51_ofN (by simp [D.noRef]) (by simp) ?_
  obtain ⟨h1, _, _⟩ := at_calls h
  have h67 := search67_W p l.length l 0 (A.length + 1 + 1) none (B ++ [bR p]) (A ++ [(⟨0, 62, 1, true, true, []⟩ : Arr), rN false, rW l])
    ⟨h.ok, h.len, h.part, h.ne, by simp, by rw [List.getElem?_append_right (by omega)]; simp [show A.length + 1 + 1 - A.length = 2 by omega], blk_snoc h.blk, fun _ _ e => by cases e⟩ (by omega)
  obtain ⟨ok, len, part, ne, hc, row, blk, hacc⟩ := h
  obtain ⟨_, h5, _⟩ := ok_fine ok
  have h68 := clone68_W l c ⟨B ++ [bR p], A ++ [⟨0, 62, 1, true, true, []⟩]⟩ (by simp; omega) h1 (by omega) ne
  have nb := blk B.length A.length
  have h00 : ((0 : Nat) : Int) = 0 := rfl
  simp only [aR, bR, rN, rW, bD, cD, h00, List.append_assoc, List.cons_append, List.nil_append, List.length_append, List.length_singleton] at h67 h68
  have e2 : ∀ h, (A ++ [(⟨0, 62, 1, true, true, []⟩ : Arr), ⟨0, 62, 1, true, false, []⟩, ⟨0, 62, 1, false, false, l.map iP⟩])[A.length + 1 + 1]'h = ⟨0, 62, 1, false, false, l.map iP⟩ := fun h => by
    rw [List.getElem_append_right (by omega)]; simp [show A.length + 1 + 1 - A.length = 2 by omega]
  unfold bestP
  cases hr : srch p l.length l 0 none with
  | none => rw [hr] at h67; simp only [bD, cD] at h67; simp [code51, Tryz.f51, aR, bD, cD, h1, h67, h68, nb, e2]
  | some q => obtain ⟨b, n⟩ := q; rw [hr] at h67; simp only [bD, cD] at h67; simp [code51, Tryz.f51, aR, bD, cD, h1, h67, h68, nb, e2]
end
end Go.Vi
end

section
/- Vi: layer 11: repr.Best, Least. No conditions but those that stand with each. -/
namespace Go.Vi
open Go Go.Lib Go.Proofs
set_option maxRecDepth 100000
attribute [local simp] E_skip E_ret E_exit E_text E_draw E_seq E_cond E_block E_scope E_loop runOps runOp runDraw runVF runV finV gate FlOK wantD exec fin opd look putF norm constD constC fieldAddrD loadD storeD opCall lenD binD isShift intP strP numD indexAddrD indexD D.pd? D.pds? sub capsOf callD argsD argD D.nf unP cellD mkF H00 cD_agg cD_pagg cD_int cD_bool cD_str cD_sl cD_lit cells_encS cells_encU cells_encW cells_encR box_encU box_encW box_encR encU_agg encR_agg encW_agg cells_int one_int buildSliceD elsD splice
attribute [local simp] fnOut retOut resD retsD retD oneD D.noRefs D.noRef alone Hp.cut newRow Hp.live

def okB (f : FuncId) : Bool := [22, 15, 24, 58, 59, 61, 62, 51, 63, 95, 96, 94, 97, 98, 91, 20, 99, 138, 136, 55, 137, 139, 93, 179, 208, 209].contains f
theorem okB_all : [22, 15, 24, 58, 59, 61, 62, 51, 63, 95, 96, 94, 97, 98, 91, 20, 99, 138, 136, 55, 137, 139, 93, 179, 208, 209].all (fun f => okFn Tryz.prog ch f) = true := by kernel_rfl
theorem okB_ok (f : FuncId) (h : okB f = true) : okFn Tryz.prog ch f = true := List.all_eq_true.1 okB_all f (by simpa [okB] using h)

/-- What Best answers: the list, the cost, the error. -/
def bestA (p : RProb) : List Int × Int × Int :=
  if p.ok = true then (match bestR p with | some (b, n) => (b, n, 0) | none => ([], 0, 5)) else ([], 0, 2)

theorem none_sets {p : RProb} (hp : p.ok = true) (h : p.sets = []) : p = ⟨[], [], []⟩ := by
  obtain ⟨s, u, m⟩ := p
  simp only at h
  subst h
  have hu : u = [] := by
    cases u with
    | nil => rfl
    | cons x u =>
      have := (ok_use hp (u := x) (by simp)).2.2.1
      simp at this
  have hm : m = [] := by
    cases m with
    | nil => rfl
    | cons x m =>
      have := (ok_pair hp (x := x) (by simp)).2.1
      simp at this
  rw [hu, hm]

def p0 : RProb := ⟨[], [], []⟩
theorem cheap0_run : calN Tryz.prog hn ch others doesN okB 40 51 [aR p0, .own 1 0] ⟨[bR p0], [⟨0, 62, 1, true, true, []⟩, ⟨0, 62, 1, false, false, []⟩]⟩ =
    some (.ret (.tup [.lit false [], .p (.int .i64 0)]), ⟨[bR p0], [⟨0, 62, 1, true, true, []⟩, ⟨0, 62, 1, false, false, []⟩]⟩) := by kernel_rfl

theorem best16_W (p : RProb) (hf : p.fine) (H : Hp) : W 15 [.p (encR p)] H = some (.ret (.tup [.p (.sl ((bestA p).1.map iP)), .p (.int .i64 (bestA p).2.1), .p (.int .i64 (bestA p).2.2)]), H) := by
  have h14 := fun H => check14_W p hf H
  cases hp : p.ok with
  | false =>
    refine W15_of rfl (by simp) ?_
    rw [hp] at h14
    unfold bestA
    rw [hp]
    simp [code15, Tryz.f15, bR, h14]
  | true =>
    by_cases hs : p.sets = []
    · obtain rfl := none_sets hp hs
      refine W15_of rfl (by simp) ?_
      rw [hp] at h14
      have h40 : W 51 _ _ = _ := calN_le okB_ok doesN_le 40 _ _ _ _ cheap0_run
      have hb : bestA ⟨[], [], []⟩ = ([], 0, 0) := rfl
      rw [hb]
      simp only [aR, bR, p0, List.map_nil] at h40
      simp only [encR, List.map_nil] at h14
      simp [code15, Tryz.f15, bR, h14, bd71, makeSliceD, h40, nilD, isNil]
    · refine W15_of rfl (by simp) ?_
      rw [hp] at h14
      obtain ⟨_, h5, _⟩ := ok_fine hp
      have hz : p.zero.length = p.sets.length := by simp [RProb.zero]
      have h40 := cheapest40_W p p.zero 1 [bR p] [(⟨0, 62, 1, true, true, []⟩ : Arr), rW p.zero]
        ⟨hp, hz, ⟨hz, fun x hx => .inl (by simpa [RProb.zero] using (List.eq_of_mem_replicate hx))⟩, fun e => by rw [e] at hz; exact hs (List.length_eq_zero_iff.1 hz.symm), by simp, rfl, fun _ _ => rfl, fun _ _ e => by cases e⟩
      have eb : bestP p p.zero = bestR p := by unfold bestP; rw [hz]; exact best_srch hp
      rw [eb] at h40
      have g1 : p.sets.length * 8 ≤ 140737488355328 := by omega
      have g2 : (p.sets.length : Int) ≤ 4611686018427387904 := by omega
      simp only [aR, bR, rW, RProb.zero, List.map_replicate] at h40
      unfold bestA
      rw [hp]
      cases hb : bestR p with
      | none =>
        rw [hb] at h40; simp only [bD, cD] at h40
        simp [code15, Tryz.f15, bR, h14, bd71, makeSliceD, g1, g2, h40, nilD, isNil]
      | some q =>
        obtain ⟨b, n⟩ := q
        rw [hb] at h40; simp only [bD, cD] at h40
        have hne : ¬ b = [] := by
          have := srch_fnd p p.sets.length p.zero 0 none (fun e => by rw [e] at hz; exact hs (List.length_eq_zero_iff.1 hz.symm)) (fun _ _ e => by cases e)
          rw [best_srch hp, hb] at this
          exact this b n rfl
        cases b with
        | nil => exact absurd rfl hne
        | cons y b => simp only [List.map_cons] at h40; simp [code15, Tryz.f15, bR, h14, bd71, makeSliceD, g1, g2, h40, nilD, isNil]

def leastA (p : RProb) (s f : Int) : Int × Int :=
  if p.ok = true ∧ 0 ≤ s ∧ s < p.sets.length ∧ five f = true then (match leastR p s.toNat f with | some (_, n) => (n, 0) | none => (0, 5)) else (0, 2)
theorem least18_W (p : RProb) (s f : Int) (hf : p.fine) (H : Hp) : W 24 [.p (encR p), .p (.int .i64 s), .p (.int .i64 f)] H = some (.ret (.tup [.p (.int .i64 (leastA p s f).1), .p (.int .i64 (leastA p s f).2)]), H) := by
  refine W24_of rfl (by simp) ?_
  have h14 := fun H => check14_W p hf H
  have h43 := fun H => form43_W f H
  unfold leastA
  cases hp : p.ok with
  | false => rw [hp] at h14; simp [code24, Tryz.f24, bR, h14]
  | true =>
    rw [hp] at h14
    by_cases s0 : s < 0
    · have s0' : ¬ 0 ≤ s := by omega
      simp [code24, Tryz.f24, bR, h14, s0, s0']
    · have s0' : 0 ≤ s := by omega
      by_cases s1 : (p.sets.length : Int) ≤ s
      · have s1' : ¬ s < p.sets.length := by omega
        simp [code24, Tryz.f24, bR, h14, s0, s0', s1, s1']
      · have s1' : s < p.sets.length := by omega
        cases h5 : five f with
        | false => rw [h5] at h43; simp [code24, Tryz.f24, bR, h14, s0, s0', s1, s1', h43]
        | true =>
          rw [h5] at h43
          obtain ⟨_, h5', _⟩ := ok_fine hp
          have hz : p.zero.length = p.sets.length := by simp [RProb.zero]
          have hs : s.toNat < p.sets.length := by omega
          have hsz : (p.zero.set s.toNat f).length = p.sets.length := by simp [RProb.zero]
          have f0 : f ≠ 0 := by
            intro e
            subst e
            cases h5
          have h40 := cheapest40_W p (p.zero.set s.toNat f) 0 [bR p] [rW (p.zero.set s.toNat f)]
            ⟨hp, hsz, ⟨hsz, fun x hx => by
              rcases List.mem_or_eq_of_mem_set hx with hx | hx
              · exact .inl (by simpa [RProb.zero] using (List.eq_of_mem_replicate hx))
              · exact .inr (hx ▸ h5)⟩, fun e => by rw [e] at hsz; simp at hsz; omega, by simp, rfl, fun _ _ => rfl, fun _ _ e => by cases e⟩
          have eb : bestP p (p.zero.set s.toNat f) = leastR p s.toNat f := by unfold bestP; rw [hsz]; exact least_srch hp hs f0
          rw [eb] at h40
          have g1 : p.sets.length * 8 ≤ 140737488355328 := by omega
          have g2 : (p.sets.length : Int) ≤ 4611686018427387904 := by omega
          simp only [aR, bR, rW, RProb.zero, List.map_set, List.map_replicate] at h40
          cases hb : leastR p s.toNat f with
          | none =>
            rw [hb] at h40; simp only [bD, cD] at h40
            simp [code24, Tryz.f24, bR, h14, s0, s0', s1, s1', h43, bd71, makeSliceD, g1, g2, hs, h40, nilD, isNil, setEl]
          | some q =>
            obtain ⟨b, n⟩ := q
            rw [hb] at h40; simp only [bD, cD] at h40
            have hne : ¬ b = [] := by
              have := srch_fnd p p.sets.length (p.zero.set s.toNat f) 0 none (fun e => by rw [e] at hsz; simp at hsz; omega) (fun _ _ e => by cases e)
              rw [least_srch hp hs f0, hb] at this
              exact this b n rfl
            cases b with
            | nil => exact absurd rfl hne
            | cons y b => simp only [List.map_cons] at h40; simp [code24, Tryz.f24, bR, h14, s0, s0', s1, s1', h43, bd71, makeSliceD, g1, g2, hs, h40, nilD, isNil, setEl]
end Go.Vi
end
