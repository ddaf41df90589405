/- It is proved here what functions of the program's layer 11 and of its specification compute; conditions stand with each. The specification, the first part. -/
import Derived.Test.YtodgddpkbmanoaaGreatDoorMG
import Derived.Test.YtodgddpkbmanoaaGreatDoorMPA
set_option linter.unusedVariables false
set_option linter.unusedSimpArgs false

section
/- Vi: layer 11: problems as data of the evaluator; swardref11.in, five, forms, used, Formed, Check. No conditions but those that stand with each. -/
namespace Go.Vi
open Go Go.Lib Go.Proofs
set_option maxRecDepth 100000

theorem cD_agg (l : List D) : cellsD (.agg l) = l := rfl
theorem cD_pagg (l : List PD) : cellsD (.p (.agg l)) = l.map .p := rfl
theorem cD_int (k : IntKind) (n : Int) : cellsD (.p (.int k n)) = [.p (.int k n)] := rfl
theorem cD_bool (b : Bool) : cellsD (.p (.bool b)) = [.p (.bool b)] := rfl
theorem cD_str (s : ByteArray) : cellsD (.p (.str s)) = [.p (.str s)] := rfl
theorem cD_sl (l : List PD) : cellsD (.p (.sl l)) = [.p (.sl l)] := rfl
theorem cD_lit (b : Bool) (l : List PD) : cellsD (.lit b l) = [.lit b l] := rfl
theorem cD_own (i n : Nat) : cellsD (.own i n) = [.own i n] := rfl
theorem cD_ptr (i o : Nat) : cellsD (.ptr i o) = [.ptr i o] := rfl
theorem one_int (k : IntKind) (n : Int) : (PD.int k n).one = true := rfl
theorem one_str (x : ByteArray) : (PD.str x).one = true := rfl
theorem one_sl (x : List PD) : (PD.sl x).one = true := rfl
theorem one_agg (l : List PD) : (PD.agg l).one = false := rfl
theorem cells_int (k : IntKind) (n : Int) : (PD.int k n).cells = [PD.int k n] := rfl
theorem cells_sl (l : List PD) : (PD.sl l).cells = [.sl l] := rfl
theorem cells_agg (l : List PD) : (PD.agg l).cells = l := rfl

abbrev iP (n : Int) : PD := .int .i64 n
def encS (s : RSet) : PD := .agg [.int .i64 s.size, .sl (s.forms.map iP)]
def encU (u : RUse) : PD := .agg [.int .i64 u.d, .int .i64 u.a, .int .i64 u.b, .int .i64 u.t]
def encW (x : Int × Int) : PD := .agg [.int .i64 x.1, .int .i64 x.2]
def encR (p : RProb) : PD := .agg [.sl (p.sets.map encS), .sl (p.uses.map encU), .sl (p.same.map encW)]
theorem cells_encS (s : RSet) : (encS s).cells = [.int .i64 s.size, .sl (s.forms.map iP)] := rfl
theorem cells_encU (u : RUse) : (encU u).cells = [.int .i64 u.d, .int .i64 u.a, .int .i64 u.b, .int .i64 u.t] := rfl
theorem cells_encW (x : Int × Int) : (encW x).cells = [.int .i64 x.1, .int .i64 x.2] := rfl
theorem cells_encR (p : RProb) : (encR p).cells = [.sl (p.sets.map encS), .sl (p.uses.map encU), .sl (p.same.map encW)] := rfl
theorem box_encU (u : RUse) : cellsD (.p (encU u)) = [.p (.int .i64 u.d), .p (.int .i64 u.a), .p (.int .i64 u.b), .p (.int .i64 u.t)] := rfl
theorem box_encW (x : Int × Int) : cellsD (.p (encW x)) = [.p (.int .i64 x.1), .p (.int .i64 x.2)] := rfl
theorem box_encR (p : RProb) : cellsD (.p (encR p)) = [.p (.sl (p.sets.map encS)), .p (.sl (p.uses.map encU)), .p (.sl (p.same.map encW))] := rfl
theorem encU_agg (u : RUse) : PD.agg [.int .i64 u.d, .int .i64 u.a, .int .i64 u.b, .int .i64 u.t] = encU u := rfl
theorem encR_agg (p : RProb) : PD.agg [.sl (p.sets.map encS), .sl (p.uses.map encU), .sl (p.same.map encW)] = encR p := rfl
theorem encW_agg (x : Int × Int) : PD.agg [.int .i64 x.1, .int .i64 x.2] = encW x := rfl
/-- A problem's variable. -/
def bR (p : RProb) : Blk := .cells [.p (.sl (p.sets.map encS)), .p (.sl (p.uses.map encU)), .p (.sl (p.same.map encW))]
def bU (u : RUse) : Blk := .cells [.p (.int .i64 u.d), .p (.int .i64 u.a), .p (.int .i64 u.b), .p (.int .i64 u.t)]

attribute [local simp] E_skip E_ret E_exit E_text E_draw E_seq E_cond E_block E_scope E_loop runOps runOp runDraw runVF runV finV gate FlOK wantD exec fin opd look putF norm constD constC fieldAddrD loadD storeD opCall lenD binD isShift intP strP numD indexAddrD indexD D.pd? D.pds? sub capsOf callD argsD argD D.nf unP cellD mkF H00 cD_agg cD_pagg cD_int cD_bool cD_str cD_sl cD_lit cells_encS cells_encU cells_encW cells_encR box_encU box_encW box_encR encU_agg encR_agg encW_agg cells_int
attribute [local simp] fnOut retOut resD retsD retD oneD D.noRefs D.noRef alone Hp.cut

theorem in44_W (n lo hi : Int) (H : Hp) : W 47 [.p (.int .i64 n), .p (.int .i64 lo), .p (.int .i64 hi)] H = some (.ret (.p (.bool (inR n lo hi))), H) := by
  refine W47_of rfl (by simp) ?_
  by_cases h1 : lo ≤ n <;> by_cases h2 : n ≤ hi <;> simp [code47, Tryz.f47, inR, h1, h2]

theorem five45_W (n : Int) (H : Hp) : W 90 [.p (.int .i64 n)] H = some (.ret (.p (.bool (five n))), H) := by
  refine W90_of rfl (by simp) ?_
  by_cases h1 : 1 ≤ n <;> by_cases h2 : n ≤ 5 <;> simp [code90, Tryz.f90, five, h1, h2]

/-! ### forms -/
def incAt (l : List Int) (i : Nat) : Bool := five (l.getD i 0) && (decide (i = 0) || decide (l.getD (i - 1) 0 < l.getD i 0))
theorem incAt_all : ∀ (l : List Int), (List.range l.length).all (incAt l) = incF l := by
  have key : ∀ (l : List Int), incF l = true ↔ ∀ i, i < l.length → incAt l i = true := by
    intro l
    induction l with
    | nil => simp [incF]
    | cons x r ih =>
      cases r with
      | nil =>
        simp only [incF, List.length_singleton]
        constructor
        · intro h i hi
          have : i = 0 := by omega
          subst this
          simp [incAt, h]
        · intro h
          have := h 0 (by omega)
          simpa [incAt] using this
      | cons y r =>
        simp only [incF, Bool.and_eq_true, decide_eq_true_eq]
        rw [ih]
        constructor
        · rintro ⟨⟨h1, h2⟩, h3⟩ i hi
          match i with
          | 0 => simp [incAt, h1]
          | 1 =>
            have := h3 0 (by simp)
            simp only [incAt, Bool.and_eq_true] at this ⊢
            exact ⟨this.1, by simp [h2]⟩
          | i + 2 =>
            have := h3 (i + 1) (by simp at hi ⊢; omega)
            simpa [incAt] using this
        · intro h
          refine ⟨⟨?_, ?_⟩, fun i hi => ?_⟩
          · have := h 0 (by simp)
            simp only [incAt, Bool.and_eq_true] at this
            exact this.1
          · have := h 1 (by simp)
            simp only [incAt, Bool.and_eq_true] at this
            simpa using this.2
          · have := h (i + 1) (by simp at hi ⊢; omega)
            match i with
            | 0 =>
              simp only [incAt, Bool.and_eq_true] at this ⊢
              exact ⟨this.1, by simp⟩
            | i + 1 => simpa [incAt] using this
  intro l
  rw [Bool.eq_iff_iff, key, List.all_eq_true]
  simp only [List.mem_range]

def fr65 (l : List Int) (i : Nat) : Fr := [(0, .p (.sl (l.map iP))), (3, .p (.int .i64 i))]
theorem loop65_ok (l : List Int) (hlen : l.length < 4611686018427387904) : loopO false ⟨0, 0⟩ 48 lp48_0 0 0 (fr65 l 0) H00 =
    some (if incF l = true then (.exit 0, [(0, .p (.sl (l.map iP))), (3, .p (.int .i64 l.length)), (7, .p (.bool false))], H00) else (.ret, [(2, .p (.bool false))], H00)) := by
  rw [← incAt_all]
  refine for_all (hd48_0) l.length (fr65 l) H00 (incAt l) (by simp) (by simp) ?_ (fun i hi => ?_) (F := fr65 l 0) (H := H00) (by simp [cutD, fr65, frNo])
  · simp [lp48_0, code48, Tryz.f48, fr65]
  · have h45 := fun H => five45_W l[i] H
    have hg : l.getD i 0 = l[i] := by simp [List.getD_eq_getElem?_getD, hi]
    cases i with
    | zero =>
      have hw : IntKind.i64.wrap 1 = 1 := by decide
      have hinc : incAt l 0 = five l[0] := by unfold incAt; rw [hg]; simp
      rw [hinc]
      cases h5 : five l[0] with
      | false =>
        right
        rw [h5] at h45
        exact ⟨rfl, by simp [lp48_0, code48, Tryz.f48, fr65, hi, h45]⟩
      | true =>
        left
        rw [h5] at h45
        exact ⟨rfl, _, _, by simp [lp48_0, code48, Tryz.f48, fr65, hi, h45, hw]; exact ⟨rfl, rfl⟩, by simp [cutD, fr65, frNo]⟩
    | succ j =>
      have hj : j < l.length := by omega
      have hg' : l.getD j 0 = l[j] := by simp [List.getD_eq_getElem?_getD, hj]
      have hw : IntKind.i64.wrap ((j : Int) + 1 + 1) = (j : Int) + 1 + 1 := wrap64 (by omega) (by omega)
      have hw2 : IntKind.i64.wrap (j : Int) = (j : Int) := wrap64 (by omega) (by omega)
      have hpos : (0 : Int) < (j : Int) + 1 := by omega
      have hlt1 : (j : Int) + 1 < l.length := by omega
      have hge1 : (0 : Int) ≤ (j : Int) + 1 := by omega
      have hnat : ((j : Int) + 1).toNat = j + 1 := by omega
      have hinc : incAt l (j + 1) = (five l[j + 1] && decide (l[j] < l[j + 1])) := by
        unfold incAt
        rw [hg, show j + 1 - 1 = j from rfl, hg']
        simp
      rw [hinc]
      cases h5 : five l[j + 1] with
      | false =>
        right
        rw [h5] at h45
        exact ⟨rfl, by simp [lp48_0, code48, Tryz.f48, fr65, hi, h45, hlt1, hge1, hnat]⟩
      | true =>
        rw [h5] at h45
        by_cases hlt : l[j] < l[j + 1]
        · left
          have hnle : ¬ l[j + 1] ≤ l[j] := by omega
          exact ⟨by simp [hlt], _, _, by simp [lp48_0, code48, Tryz.f48, fr65, hi, hj, h45, hw, hw2, hpos, hnle, hlt1, hge1, hnat]; exact ⟨rfl, rfl⟩, by simp [cutD, fr65, frNo]⟩
        · right
          have hle : l[j + 1] ≤ l[j] := by omega
          exact ⟨by simp [hlt], by simp [lp48_0, code48, Tryz.f48, fr65, hi, hj, h45, hw2, hpos, hle, hlt1, hge1, hnat]⟩

theorem forms65_W (l : List Int) (hlen : l.length < 4611686018427387904) (H : Hp) : W 48 [.p (.sl (l.map iP))] H = some (.ret (.p (.bool (formsOK l))), H) := by
  refine W48_of rfl (by simp) ?_
  have hloop := loop65_ok l hlen
  have h00 : ((0 : Nat) : Int) = 0 := rfl
  simp only [lp48_0, code48, Tryz.f48, fr65, h00, H00] at hloop
  cases hi : incF l with
  | false =>
    rw [hi] at hloop
    simp [code48, Tryz.f48, hloop, formsOK, hi]
  | true =>
    rw [hi] at hloop
    have he : decide (0 < l.length) = !l.isEmpty := by
      rw [Bool.eq_iff_iff]
      cases l with
      | nil => simp
      | cons x r => simp
    simp [code48, Tryz.f48, hloop, formsOK, hi, he]

/-! ### used -/
theorem used66_W (u : RUse) (n : Int) (h0 : 0 ≤ n) (hn : n ≤ 1000) (H : Hp) : W 49 [.p (encU u), .p (.int .i64 n)] H = some (.ret (.p (.bool (useOK n u))), H) := by
  refine W49_of rfl (by simp) ?_
  have hw : IntKind.i64.wrap (n - 1) = n - 1 := wrap64 (by omega) (by omega)
  have h44 := fun a b c H => in44_W a b c H
  unfold useOK dbl
  have hb : (u.b == 0) = decide (u.b = 0) := by rw [Bool.eq_iff_iff]; simp
  have e1 : inR 1 1 6 = true := by decide
  have e2 : inR 2 1 6 = true := by decide
  have e3 : inR 3 1 6 = true := by decide
  have e4 : inR 4 1 6 = true := by decide
  have e5 : inR 5 1 6 = true := by decide
  have e6 : inR 6 1 6 = true := by decide
  by_cases ha : inR u.a 0 (n - 1) = true
  · by_cases ht : inR u.t 1 1000 = true
    · by_cases d1 : u.d = 1
      · simp [code49, Tryz.f49, h44, hw, ha, ht, d1, e1, hb, bU]
      · by_cases d2 : u.d = 2
        · simp [code49, Tryz.f49, h44, hw, ha, ht, d2, e2, hb, bU]
        · by_cases d3 : u.d = 3
          · simp [code49, Tryz.f49, h44, hw, ha, ht, d3, e3, hb, bU]
          · by_cases d4 : u.d = 4
            · simp [code49, Tryz.f49, h44, hw, ha, ht, d4, e4, hb, bU]
            · by_cases d5 : u.d = 5
              · simp [code49, Tryz.f49, h44, hw, ha, ht, d5, e5, bU]
              · by_cases d6 : u.d = 6
                · simp [code49, Tryz.f49, h44, hw, ha, ht, d6, e6, bU]
                · have hd : inR u.d 1 6 = false := by
                    simp only [inR, Bool.and_eq_false_iff, decide_eq_false_iff_not]
                    omega
                  simp [code49, Tryz.f49, h44, hw, ha, ht, d1, d2, d3, d4, d5, d6, hd, bU]
    · have ht' : inR u.t 1 1000 = false := by simpa using ht
      simp [code49, Tryz.f49, h44, hw, ha, ht', bU]
  · have ha' : inR u.a 0 (n - 1) = false := by simpa using ha
    simp [code49, Tryz.f49, h44, hw, ha', bU]
end Go.Vi
end

section
/- Vi: layer 11: swardref11.Formed, Check, digits, double, single, Once. No conditions but those that stand with each. -/
namespace Go.Vi
open Go Go.Lib Go.Proofs
set_option maxRecDepth 100000
attribute [local simp] E_skip E_ret E_exit E_text E_draw E_seq E_cond E_block E_scope E_loop runOps runOp runDraw runVF runV finV gate FlOK wantD exec fin opd look putF norm constD constC fieldAddrD loadD storeD opCall lenD binD isShift intP strP numD indexAddrD indexD D.pd? D.pds? sub capsOf callD argsD argD D.nf unP cellD mkF H00 cD_agg cD_pagg cD_int cD_bool cD_str cD_sl cD_lit cells_encS cells_encU cells_encW cells_encR box_encU box_encW box_encR encU_agg encR_agg encW_agg cells_int
attribute [local simp] fnOut retOut resD retsD retD oneD D.noRefs D.noRef alone Hp.cut

/-- Lists of a problem that Go can hold. -/
def RProb.fine (p : RProb) : Prop := p.sets.length < 4611686018427387904 ∧ p.uses.length < 4611686018427387904 ∧ p.same.length < 4611686018427387904 ∧ ∀ s ∈ p.sets, s.forms.length < 4611686018427387904
def okS (s : RSet) : Bool := inR s.size 0 1024 && formsOK s.forms
theorem getD_at {α : Type} {l : List α} {i : Nat} {d : α} (h : i < l.length) : l.getD i d = l[i] := by simp [List.getD_eq_getElem?_getD, h]

section
variable (p : RProb)
abbrev stR : Hp := ⟨[bR p], []⟩
def frA39 (i : Nat) : Fr := [(1, .ptr 0 0), (3, .p (.int .i64 p.sets.length)), (4, .p (.int .i64 i))]
def frB39 (i : Nat) : Fr := [(1, .ptr 0 0), (3, .p (.int .i64 p.sets.length)), (5, .p (.int .i64 i))]
def frC39 (i : Nat) : Fr := [(1, .ptr 0 0), (3, .p (.int .i64 p.sets.length)), (6, .p (.int .i64 i))]

theorem loopA39 (hp : p.fine) : loopO false ⟨0, 0⟩ 12 lp12_0 1 0 (frA39 p 0) (stR p) =
    some (if p.sets.all okS = true then (.exit 0, [(1, .ptr 0 0), (3, .p (.int .i64 p.sets.length)), (4, .p (.int .i64 p.sets.length)), (28, .p (.bool false))], stR p) else (.ret, [(2, .p (.bool false))], stR p)) := by
  rw [← range_all okS ⟨0, []⟩]
  refine for_all hd12_0 p.sets.length (frA39 p) (stR p) (fun i => okS (p.sets.getD i ⟨0, []⟩)) (by simp) (by simp) ?_ (fun i hi => ?_) (F := frA39 p 0) (H := stR p) (by simp [cutD, frA39, frNo, bR, blkNo])
  · simp [lp12_0, code12, Tryz.f12, frA39]
  · have hw : IntKind.i64.wrap ((i : Int) + 1) = (i : Int) + 1 := wrap64 (by omega) (by have := hp.1; omega)
    have h44 := fun H => in44_W p.sets[i].size 0 1024 H
    have h65 := fun H => forms65_W p.sets[i].forms (hp.2.2.2 _ (List.getElem_mem hi)) H
    rw [getD_at hi]
    cases h1 : inR p.sets[i].size 0 1024 with
    | false =>
      right
      rw [h1] at h44
      exact ⟨by simp [okS, h1], by simp [lp12_0, code12, Tryz.f12, frA39, bR, hi, h44]⟩
    | true =>
      rw [h1] at h44
      cases h2 : formsOK p.sets[i].forms with
      | false =>
        right
        rw [h2] at h65
        exact ⟨by simp [okS, h2], by simp [lp12_0, code12, Tryz.f12, frA39, bR, hi, h44, h65]⟩
      | true =>
        left
        rw [h2] at h65
        exact ⟨by simp [okS, h1, h2], _, _, by simp [lp12_0, code12, Tryz.f12, frA39, bR, hi, h44, h65, hw]; exact ⟨rfl, rfl⟩, by simp [cutD, frA39, frNo, bR, blkNo]⟩

theorem loopB39 (hp : p.fine) (hn : p.sets.length ≤ 1000) : loopO false ⟨0, 0⟩ 12 lp12_1 1 0 (frB39 p 0) (stR p) =
    some (if p.uses.all (useOK p.sets.length) = true then (.exit 2, [(1, .ptr 0 0), (3, .p (.int .i64 p.sets.length)), (5, .p (.int .i64 p.uses.length)), (53, .p (.bool false))], stR p) else (.ret, [(2, .p (.bool false))], stR p)) := by
  rw [← range_all (useOK p.sets.length) ⟨0, 0, 0, 0⟩]
  refine for_all hd12_1 p.uses.length (frB39 p) (stR p) (fun i => useOK p.sets.length (p.uses.getD i ⟨0, 0, 0, 0⟩)) (by simp) (by simp) ?_ (fun i hi => ?_) (F := frB39 p 0) (H := stR p) (by simp [cutD, frB39, frNo, bR, blkNo])
  · simp [lp12_1, code12, Tryz.f12, frB39, bR]
  · have hw : IntKind.i64.wrap ((i : Int) + 1) = (i : Int) + 1 := wrap64 (by have := hp.2.1; omega) (by have := hp.2.1; omega)
    have h66 := fun H => used66_W p.uses[i] p.sets.length (by omega) (by omega) H
    rw [getD_at hi]
    cases h1 : useOK p.sets.length p.uses[i] with
    | false =>
      right
      rw [h1] at h66
      exact ⟨rfl, by simp [lp12_1, code12, Tryz.f12, frB39, bR, hi, h66]⟩
    | true =>
      left
      rw [h1] at h66
      exact ⟨rfl, _, _, by simp [lp12_1, code12, Tryz.f12, frB39, bR, hi, h66, hw]; exact ⟨rfl, rfl⟩, by simp [cutD, frB39, frNo, bR, blkNo]⟩

theorem loopC39 (hp : p.fine) (hn : p.sets.length ≤ 1000) : loopO false ⟨0, 0⟩ 12 lp12_2 1 0 (frC39 p 0) (stR p) =
    some (if p.same.all (pairOK p.sets.length) = true then (.exit 4, [(1, .ptr 0 0), (3, .p (.int .i64 p.sets.length)), (6, .p (.int .i64 p.same.length)), (68, .p (.bool false))], stR p) else (.ret, [(2, .p (.bool false))], stR p)) := by
  rw [← range_all (pairOK p.sets.length) (0, 0)]
  refine for_all hd12_2 p.same.length (frC39 p) (stR p) (fun i => pairOK p.sets.length (p.same.getD i (0, 0))) (by simp) (by simp) ?_ (fun i hi => ?_) (F := frC39 p 0) (H := stR p) (by simp [cutD, frC39, frNo, bR, blkNo])
  · simp [lp12_2, code12, Tryz.f12, frC39, bR]
  · have hw : IntKind.i64.wrap ((i : Int) + 1) = (i : Int) + 1 := wrap64 (by have := hp.2.2.1; omega) (by have := hp.2.2.1; omega)
    have hw2 : IntKind.i64.wrap ((p.sets.length : Int) - 1) = (p.sets.length : Int) - 1 := wrap64 (by omega) (by omega)
    have ha := fun H => in44_W p.same[i].1 0 (p.sets.length - 1) H
    have hb := fun H => in44_W p.same[i].2 0 (p.sets.length - 1) H
    rw [getD_at hi]
    unfold pairOK
    cases h1 : inR p.same[i].1 0 (p.sets.length - 1) with
    | false =>
      right
      rw [h1] at ha
      exact ⟨rfl, by simp [lp12_2, code12, Tryz.f12, frC39, bR, hi, hw2, ha]⟩
    | true =>
      rw [h1] at ha
      cases h2 : inR p.same[i].2 0 (p.sets.length - 1) with
      | false =>
        right
        rw [h2] at hb
        exact ⟨rfl, by simp [lp12_2, code12, Tryz.f12, frC39, bR, hi, hw2, ha, hb]⟩
      | true =>
        rw [h2] at hb
        by_cases h3 : p.same[i].1 = p.same[i].2
        · right
          exact ⟨by simp [h3], by simp [lp12_2, code12, Tryz.f12, frC39, bR, hi, hw2, ha, hb, h3]⟩
        · left
          exact ⟨by simp [h3], _, _, by simp [lp12_2, code12, Tryz.f12, frC39, bR, hi, hw2, ha, hb, h3, hw]; exact ⟨rfl, rfl⟩, by simp [cutD, frC39, frNo, bR, blkNo]⟩

theorem formed39_W (hp : p.fine) (H : Hp) : W 12 [.p (encR p)] H = some (.ret (.p (.bool p.ok)), H) := by
  refine W12_of rfl (by simp) ?_
  have h00 : ((0 : Nat) : Int) = 0 := rfl
  unfold RProb.ok
  by_cases h1 : p.sets.length ≤ 5
  · have h1' : ¬ (5 : Int) < p.sets.length := by omega
    by_cases h2 : p.uses.length ≤ 30
    · have h2' : ¬ (30 : Int) < p.uses.length := by omega
      by_cases h3 : p.same.length ≤ 10
      · have h3' : ¬ (10 : Int) < p.same.length := by omega
        have hA := loopA39 p hp
        have hB := loopB39 p hp (by omega)
        have hC := loopC39 p hp (by omega)
        simp only [lp12_0, lp12_1, lp12_2, code12, Tryz.f12, frA39, frB39, frC39, h00, bR, stR] at hA hB hC
        have hokS : p.sets.all (fun s => inR s.size 0 1024 && formsOK s.forms) = p.sets.all okS := rfl
        rw [hokS]
        cases b1 : p.sets.all okS with
        | false =>
          rw [b1] at hA
          simp [code12, Tryz.f12, bR, h1, h2, h3, h1', h2', h3', hA]
        | true =>
          rw [b1] at hA
          cases b2 : p.uses.all (useOK p.sets.length) with
          | false =>
            rw [b2] at hB
            simp [code12, Tryz.f12, bR, h1, h2, h3, h1', h2', h3', hA, hB]
          | true =>
            rw [b2] at hB
            cases b3 : p.same.all (pairOK p.sets.length) with
            | false =>
              rw [b3] at hC
              simp [code12, Tryz.f12, bR, h1, h2, h3, h1', h2', h3', hA, hB, hC]
            | true =>
              rw [b3] at hC
              simp [code12, Tryz.f12, bR, h1, h2, h3, h1', h2', h3', hA, hB, hC]
      · have h3' : (10 : Int) < p.same.length := by omega
        simp [code12, Tryz.f12, bR, h1, h2, h3, h1', h2', h3']
    · have h2' : (30 : Int) < p.uses.length := by omega
      simp [code12, Tryz.f12, bR, h1, h2, h1', h2']
  · have h1' : (5 : Int) < p.sets.length := by omega
    simp [code12, Tryz.f12, bR, h1, h1']

end
end Go.Vi
end

section
/- Vi: layer 11: swardref11.digits, double, single, Once. No conditions but those that stand with each. -/
namespace Go.Vi
open Go Go.Lib Go.Proofs
set_option maxRecDepth 100000
attribute [local simp] E_skip E_ret E_exit E_text E_draw E_seq E_cond E_block E_scope E_loop runOps runOp runDraw runVF runV finV gate FlOK wantD exec fin opd look putF norm constD constC fieldAddrD loadD storeD opCall lenD binD isShift intP strP numD indexAddrD indexD D.pd? D.pds? sub capsOf callD argsD argD D.nf unP cellD mkF H00 cD_agg cD_pagg cD_int cD_bool cD_str cD_sl cD_lit cells_encS cells_encU cells_encW cells_encR box_encU box_encW box_encR encU_agg encR_agg encW_agg cells_int one_int buildSliceD elsD
attribute [local simp] fnOut retOut resD retsD retD oneD D.noRefs D.noRef alone Hp.cut

theorem dig_zero {n : Int} (h : n ≤ 0) : dig n = 0 := by simp [dig, h]
theorem dig_step {n : Int} (h : 0 < n) : dig n = dig (n.tdiv 2) + 1 := by
  obtain ⟨m, rfl⟩ : ∃ m : Nat, n = m := ⟨n.toNat, by omega⟩
  have e : ((m : Int)).tdiv 2 = ((m / 2 : Nat) : Int) := by
    rw [Int.tdiv_eq_ediv_of_nonneg (by omega)]
    omega
  rw [e]
  unfold dig
  rw [if_neg (by omega)]
  by_cases h1 : m / 2 = 0
  · rw [if_pos (by omega)]
    have : m = 1 := by omega
    subst this
    rfl
  · rw [if_neg (by omega)]
    simp only [Int.toNat_natCast]
    rw [Nat.log2_def m, if_pos (by omega)]
    omega

def fr127 (x : Int × Int) : Fr := [(0, .p (.int .i64 x.1)), (3, .p (.int .i64 x.2))]
theorem loop127_ok (n : Int) (hn : n ≤ 1024) : ∃ z, loopO false ⟨0, 0⟩ 233 lp233_0 0 0 (fr127 (n, 0)) H00 = some (.exit 0, [(0, z), (3, .p (.int .i64 (dig n))), (5, .p (.bool false))], H00) := by
  refine ⟨.p (.int .i64 (if n ≤ 0 then n else 0)), ?_⟩
  have key := loop_run (mu := false) (m := ⟨0, 0⟩) (f := 233) (c := lp233_0) (nB := 0) (nA := 0) hd233_0 fr127 (fun _ => H00)
    (fun x => (.exit 0, [(0, .p (.int .i64 (if x.1 ≤ 0 then x.1 else 0))), (3, .p (.int .i64 (x.2 + dig x.1))), (5, .p (.bool false))], H00)) (fun x => x.1 ≤ 1024 ∧ 0 ≤ x.2 ∧ x.2 + dig x.1 ≤ 11) (fun x => x.1.toNat)
    (fun x hx => by
      obtain ⟨n, o⟩ := x
      obtain ⟨h1, h2, h3⟩ := hx
      simp only at h1 h2 h3 ⊢
      by_cases h0 : 0 < n
      · right
        have hs := dig_step h0
        have hw : IntKind.i64.wrap (o + 1) = o + 1 := wrap64 (by omega) (by have := dig_bd h1; omega)
        have hq : n.tdiv 2 = n / 2 := Int.tdiv_eq_ediv_of_nonneg (by omega)
        have hw2 : IntKind.i64.wrap (n.tdiv 2) = n.tdiv 2 := wrap64 (by omega) (by omega)
        refine ⟨(n.tdiv 2, o + 1), _, _, by simp [lp233_0, code233, Tryz.f233, fr127, h0, hw, hw2]; exact ⟨rfl, rfl⟩, by simp [cutD, fr127, frNo], by simp only; omega, ⟨by simp only; omega, by simp only; omega, by simp only; omega⟩, ?_⟩
        simp only [if_neg (show ¬ n ≤ 0 by omega)]
        have hz : (if n.tdiv 2 ≤ 0 then n.tdiv 2 else 0) = (0 : Int) := by split <;> omega
        rw [hz]
        have e : o + 1 + dig (n.tdiv 2) = o + dig n := by omega
        rw [e]
      · left
        have h0' : n ≤ 0 := by omega
        simp [lp233_0, code233, Tryz.f233, fr127, h0, h0', dig_zero h0']) (n, 0) (F := fr127 (n, 0)) (H := H00) ⟨hn, by omega, by have := dig_bd hn; simp only; omega⟩ (by simp [cutD, fr127, frNo])
  rw [key]
  simp

theorem digits127_W (n : Int) (hn : n ≤ 1024) (H : Hp) : W 233 [.p (.int .i64 n)] H = some (.ret (.p (.int .i64 (dig n))), H) := by
  refine W233_of rfl (by simp) ?_
  obtain ⟨z, hloop⟩ := loop127_ok n hn
  simp only [lp233_0, code233, Tryz.f233, fr127, H00] at hloop
  simp [code233, Tryz.f233, hloop]

theorem double93_W (d : Int) (H : Hp) : W 181 [.p (.int .i64 d)] H = some (.ret (.p (.bool (dbl d))), H) := by
  refine W181_of rfl (by simp) ?_
  by_cases h5 : d = 5
  · simp [code181, Tryz.f181, dbl, h5]
  · by_cases h6 : d = 6
    · simp [code181, Tryz.f181, dbl, h6]
    · simp [code181, Tryz.f181, dbl, h5, h6]

theorem single94_W (d n f : Int) (h0 : 0 ≤ n) (h1 : n ≤ 1024) (hf : five f = true) (H : Hp) : W 219 [.p (.int .i64 d), .p (.int .i64 n), .p (.int .i64 f)] H = some (.ret (.p (.int .i64 (single d n f))), H) := by
  refine W219_of rfl (by simp) ?_
  have h127 := fun H => digits127_W n h1 H
  have hb := dig_bd h1
  simp only [five, Bool.and_eq_true, decide_eq_true_eq] at hf
  have hf' : f = 1 ∨ f = 2 ∨ f = 3 ∨ f = 4 ∨ f = 5 := by omega
  have w1 : IntKind.i64.wrap (f - 1) = f - 1 := wrap64 (by omega) (by omega)
  have w2 : IntKind.i64.wrap (2 * dig n) = 2 * dig n := wrap64 (by omega) (by omega)
  have w3 : IntKind.i64.wrap (6 * dig n) = 6 * dig n := wrap64 (by omega) (by omega)
  have w4 : IntKind.i64.wrap (6 * dig n + 6) = 6 * dig n + 6 := wrap64 (by omega) (by omega)
  have w5 : IntKind.i64.wrap (n + 1) = n + 1 := wrap64 (by omega) (by omega)
  have w6 : IntKind.i64.wrap (n + 32) = n + 32 := wrap64 (by omega) (by omega)
  have w7 : IntKind.i64.wrap (2 * n) = 2 * n := wrap64 (by omega) (by omega)
  have w8 : IntKind.i64.wrap (2 * n + 5) = 2 * n + 5 := wrap64 (by omega) (by omega)
  have w9 : IntKind.i64.wrap (2 * n + 8) = 2 * n + 8 := wrap64 (by omega) (by omega)
  have v0 : IntKind.i64.wrap 0 = 0 := by decide
  have v1 : IntKind.i64.wrap 1 = 1 := by decide
  have v2 : IntKind.i64.wrap 2 = 2 := by decide
  have v3 : IntKind.i64.wrap 3 = 3 := by decide
  have v4 : IntKind.i64.wrap 4 = 4 := by decide
  by_cases d1 : d = 1
  · subst d1
    rcases hf' with rfl | rfl | rfl | rfl | rfl <;> simp [code219, Tryz.f219, single, h127, w1, w2, w3, w4, w5, w6, w7, w8, w9, v0, v1, v2, v3, v4]
  by_cases d2 : d = 2
  · subst d2
    rcases hf' with rfl | rfl | rfl | rfl | rfl <;> simp [code219, Tryz.f219, single, h127, w1, w2, w3, w4, w5, w6, w7, w8, w9, v0, v1, v2, v3, v4]
  by_cases d3 : d = 3
  · subst d3
    rcases hf' with rfl | rfl | rfl | rfl | rfl <;> simp [code219, Tryz.f219, single, h127, w1, w2, w3, w4, w5, w6, w7, w8, w9, v0, v1, v2, v3, v4]
  rcases hf' with rfl | rfl | rfl | rfl | rfl <;> simp [code219, Tryz.f219, single, h127, d1, d2, d3, w1, w2, w3, w4, w5, w6, w7, w8, w9, v0, v1, v2, v3, v4]

theorem once63_W {p : RProb} (hp : p.ok = true) {u : RUse} (hu : u ∈ p.uses) {f g : Int} (hf : five f = true) (hg : five g = true) (H : Hp) :
    W 182 [.p (encR p), .p (encU u), .p (.int .i64 f), .p (.int .i64 g)] H = some (.ret (.p (.int .i64 (once p u f g))), H) := by
  refine W182_of rfl (by simp) ?_
  obtain ⟨_, _, ha, ha0, hb, hb0, _, _, _⟩ := ok_use hp hu
  have za := size_bd hp u.a.toNat
  have zb := size_bd hp u.b.toNat
  have h93 := fun H => double93_W u.d H
  have h94 := fun d H => single94_W d (p.size u.a.toNat) f za.1 za.2 hf H
  have h94b := fun d H => single94_W d (p.size u.b.toNat) g zb.1 zb.2 hg H
  have ea : p.size u.a.toNat = p.sets[u.a.toNat].size := by simp [RProb.size, List.getD_eq_getElem?_getD, ha]
  unfold once
  cases hd : dbl u.d with
  | false =>
    rw [hd] at h93
    rw [ea] at h94 ⊢
    simp [code182, Tryz.f182, bR, bU, ha, ha0, h93, h94]
  | true =>
    rw [hd] at h93
    obtain ⟨hb1, hb2⟩ := hb hd
    have eb : p.size u.b.toNat = p.sets[u.b.toNat].size := by simp [RProb.size, List.getD_eq_getElem?_getD, hb1]
    have s1 := single_bd (d := 3) (f := g) zb.1 zb.2
    have s2 := single_bd (d := 2) (f := f) za.1 za.2
    have m0 : 0 ≤ p.size u.b.toNat * single 2 (p.size u.a.toNat) f := Int.mul_nonneg zb.1 s2.1
    have m1 : p.size u.b.toNat * single 2 (p.size u.a.toNat) f ≤ 1024 * 2056 := Int.mul_le_mul zb.2 s2.2 s2.1 (by omega)
    have w1 : IntKind.i64.wrap (p.size u.b.toNat * single 2 (p.size u.a.toNat) f) = p.size u.b.toNat * single 2 (p.size u.a.toNat) f := wrap64 (by omega) (by omega)
    have w2 : IntKind.i64.wrap (single 3 (p.size u.b.toNat) g + p.size u.b.toNat * single 2 (p.size u.a.toNat) f) = single 3 (p.size u.b.toNat) g + p.size u.b.toNat * single 2 (p.size u.a.toNat) f := wrap64 (by omega) (by omega)
    have w3 : IntKind.i64.wrap (p.size u.a.toNat + p.size u.b.toNat) = p.size u.a.toNat + p.size u.b.toNat := wrap64 (by omega) (by omega)
    rw [ea] at h94 w1 w2 w3 ⊢
    rw [eb] at h94b w1 w2 w3 ⊢
    by_cases hfg : f = g
    · by_cases h6 : u.d = 6
      · rw [h6] at h93
        simp [code182, Tryz.f182, bR, bU, ha, ha0, hb1, hb2, h93, hfg, h6]
      · by_cases h2 : g = 2
        · simp [code182, Tryz.f182, bR, bU, ha, ha0, hb1, hb2, h93, hfg, h6, h2]
        · simp [code182, Tryz.f182, bR, bU, ha, ha0, hb1, hb2, h93, hfg, h6, h2, w3]
    · simp [code182, Tryz.f182, bR, bU, ha, ha0, hb1, hb2, h93, h94, h94b, hfg, w1, w2]
end Go.Vi
end

section
/- Vi: layer 11: swardref11.has, Allowed, shaped, Total, Cost. No conditions but those that stand with each. -/
namespace Go.Vi
open Go Go.Lib Go.Proofs
set_option maxRecDepth 100000
attribute [local simp] E_skip E_ret E_exit E_text E_draw E_seq E_cond E_block E_scope E_loop runOps runOp runDraw runVF runV finV gate FlOK wantD exec fin opd look putF norm constD constC fieldAddrD loadD storeD opCall lenD binD isShift intP strP numD indexAddrD indexD D.pd? D.pds? sub capsOf callD argsD argD D.nf unP cellD mkF H00 cD_agg cD_pagg cD_int cD_bool cD_str cD_sl cD_lit cells_encS cells_encU cells_encW cells_encR box_encU box_encW box_encR encU_agg encR_agg encW_agg cells_int one_int buildSliceD elsD
attribute [local simp] fnOut retOut resD retsD retD oneD D.noRefs D.noRef alone Hp.cut
@[simp] theorem zr77 : zeroOf Tryz.prog 78 = some (.agg #[.int .i64 0, .int .i64 0, .int .i64 0, .int .i64 0]) := by kernel_rfl

theorem all_ne (l : List Int) (x : Int) : (List.range l.length).all (fun i => !decide (l.getD i 0 = x)) = !l.contains x := by
  rw [range_all (fun y => !decide (y = x)) 0 l, Bool.eq_iff_iff, List.all_eq_true, Bool.not_eq_true', ← Bool.not_eq_true, List.contains_iff_mem]
  constructor
  · intro h hx; simpa using h x hx
  · intro h y hy; simp; intro e; exact h (e ▸ hy)

def fr92 (l : List Int) (x : Int) (i : Nat) : Fr := [(0, .p (.sl (l.map iP))), (1, .p (.int .i64 x)), (5, .p (.int .i64 i))]
theorem has92_W (l : List Int) (x : Int) (hlen : l.length < 4611686018427387904) (H : Hp) : W 141 [.p (.sl (l.map iP)), .p (.int .i64 x)] H = some (.ret (.p (.bool (l.contains x))), H) := by
  refine W141_of rfl (by simp) ?_
  have hloop := for_all (mu := false) (m := ⟨0, 0⟩) (f := 141) (c := lp141_0) (nB := 0) (nA := 0) hd141_0 l.length (fr92 l x) H00 (fun i => !decide (l.getD i 0 = x))
    (ex := (.exit 0, fr92 l x l.length ++ [(9, .p (.bool false))], H00)) (bad := (.ret, [(4, .p (.bool true))], H00)) (by simp) (by simp) (by simp [lp141_0, code141, Tryz.f141, fr92]) (fun i hi => by
      have hw : IntKind.i64.wrap ((i : Int) + 1) = (i : Int) + 1 := wrap64 (by omega) (by omega)
      rw [getD_at hi]
      by_cases h : l[i] = x
      · right
        exact ⟨by simp [h], by simp [lp141_0, code141, Tryz.f141, fr92, hi, h]⟩
      · left
        exact ⟨by simp [h], _, _, by simp [lp141_0, code141, Tryz.f141, fr92, hi, h, hw]; exact ⟨rfl, rfl⟩, by simp [cutD, fr92, frNo]⟩) (F := fr92 l x 0) (H := H00) (by simp [cutD, fr92, frNo])
  rw [all_ne] at hloop
  have h00 : ((0 : Nat) : Int) = 0 := rfl
  simp only [lp141_0, code141, Tryz.f141, fr92, h00, H00] at hloop
  cases hc : l.contains x with
  | true => rw [hc] at hloop; simp [code141, Tryz.f141, hloop]
  | false => rw [hc] at hloop; simp [code141, Tryz.f141, hloop]

section
variable (p : RProb) (l : List Int)
theorem ok_fine {p : RProb} (h : p.ok = true) : p.fine ∧ p.sets.length ≤ 5 ∧ p.uses.length ≤ 30 ∧ p.same.length ≤ 10 ∧ ∀ s ∈ p.sets, s.forms.length ≤ 5 := by
  have h' := h
  simp only [RProb.ok, Bool.and_eq_true, decide_eq_true_eq, List.all_eq_true] at h
  have h5 : ∀ s ∈ p.sets, s.forms.length ≤ 5 := fun s hs => by
    obtain ⟨i, hi, e⟩ := List.getElem_of_mem hs
    have := form_len h' hi
    rw [show p.form i = s.forms by simp [RProb.form, List.getD_eq_getElem?_getD, hi, e]] at this
    exact this
  exact ⟨⟨by omega, by omega, by omega, fun s hs => by have := h5 s hs; omega⟩, by omega, by omega, by omega, h5⟩
theorem ok_pair {p : RProb} (h : p.ok = true) {x : Int × Int} (hx : x ∈ p.same) : 0 ≤ x.1 ∧ x.1.toNat < p.sets.length ∧ 0 ≤ x.2 ∧ x.2.toNat < p.sets.length := by
  simp only [RProb.ok, Bool.and_eq_true, decide_eq_true_eq, List.all_eq_true] at h
  have := h.2 x hx
  simp only [pairOK, inR, Bool.and_eq_true, decide_eq_true_eq] at this
  omega

def frA62 (i : Nat) : Fr := [(1, .p (.sl (l.map iP))), (2, .ptr 0 0), (5, .p (.int .i64 i))]
def frB62 (i : Nat) : Fr := [(1, .p (.sl (l.map iP))), (2, .ptr 0 0), (6, .p (.int .i64 i))]

theorem loopA62 (hp : p.ok = true) (hl : l.length = p.sets.length) : loopO false ⟨0, 0⟩ 101 lp101_0 1 0 (frA62 l 0) (stR p) =
    some (if (List.range l.length).all (fun i => fitsF p i (l.getD i 0)) = true then (.exit 0, frA62 l l.length ++ [(12, .p (.bool false))], stR p) else (.ret, [(4, .p (.bool false))], stR p)) := by
  obtain ⟨hf, h5, _, _, hfl⟩ := ok_fine hp
  refine for_all hd101_0 l.length (frA62 l) (stR p) (fun i => fitsF p i (l.getD i 0)) (by simp) (by simp) (by simp [lp101_0, code101, Tryz.f101, frA62]) (fun i hi => ?_) (by simp [cutD, frA62, frNo, bR, blkNo])
  have hw : IntKind.i64.wrap ((i : Int) + 1) = (i : Int) + 1 := wrap64 (by omega) (by omega)
  have hi' : i < p.sets.length := by omega
  have h92 := fun H => has92_W p.sets[i].forms l[i] (by have := hfl _ (List.getElem_mem hi'); omega) H
  have ef : p.form i = p.sets[i].forms := by simp [RProb.form, List.getD_eq_getElem?_getD, hi']
  rw [getD_at hi]
  unfold fitsF
  rw [ef]
  by_cases h0 : l[i] = 0
  · left
    exact ⟨by simp [h0], _, _, by simp [lp101_0, code101, Tryz.f101, frA62, bR, hi, hi', h0, hw]; exact ⟨rfl, rfl⟩, by simp [cutD, frA62, frNo, bR, blkNo]⟩
  · cases hc : p.sets[i].forms.contains l[i] with
    | true =>
      left
      rw [hc] at h92
      exact ⟨by simp, _, _, by simp [lp101_0, code101, Tryz.f101, frA62, bR, hi, hi', h0, h92, hw]; exact ⟨rfl, rfl⟩, by simp [cutD, frA62, frNo, bR, blkNo]⟩
    | false =>
      right
      rw [hc] at h92
      exact ⟨by simp [h0], by simp [lp101_0, code101, Tryz.f101, frA62, bR, hi, hi', h0, h92]⟩

theorem loopB62 (hp : p.ok = true) (hl : l.length = p.sets.length) : loopO false ⟨0, 0⟩ 101 lp101_1 1 0 (frB62 l 0) (stR p) =
    some (if p.same.all (fun s => !apart (l.getD s.1.toNat 0) (l.getD s.2.toNat 0)) = true then (.exit 2, frB62 l p.same.length ++ [(38, .p (.bool false))], stR p) else (.ret, [(4, .p (.bool false))], stR p)) := by
  obtain ⟨hf, h5, _, h10, hfl⟩ := ok_fine hp
  rw [← range_all (fun s : Int × Int => !apart (l.getD s.1.toNat 0) (l.getD s.2.toNat 0)) (0, 0)]
  refine for_all hd101_1 p.same.length (frB62 l) (stR p) (fun i => (fun s : Int × Int => !apart (l.getD s.1.toNat 0) (l.getD s.2.toNat 0)) (p.same.getD i (0, 0))) (by simp) (by simp) (by simp [lp101_1, code101, Tryz.f101, frB62, bR]) (fun i hi => ?_) (by simp [cutD, frB62, frNo, bR, blkNo])
  have hw : IntKind.i64.wrap ((i : Int) + 1) = (i : Int) + 1 := wrap64 (by omega) (by omega)
  obtain ⟨a0, a1, b0, b1⟩ := ok_pair hp (List.getElem_mem hi)
  rw [← hl] at a1 b1
  rw [getD_at hi]
  simp only [getD_at a1, getD_at b1]
  unfold apart
  by_cases h0 : l[p.same[i].1.toNat] = 0
  · left
    exact ⟨by simp [h0], _, _, by simp [lp101_1, code101, Tryz.f101, frB62, bR, hi, a0, a1, b0, b1, h0, hw]; exact ⟨rfl, rfl⟩, by simp [cutD, frB62, frNo, bR, blkNo]⟩
  · by_cases h1 : l[p.same[i].2.toNat] = 0
    · left
      exact ⟨by simp [h1], _, _, by simp [lp101_1, code101, Tryz.f101, frB62, bR, hi, a0, a1, b0, b1, h0, h1, hw]; exact ⟨rfl, rfl⟩, by simp [cutD, frB62, frNo, bR, blkNo]⟩
    · by_cases h2 : l[p.same[i].1.toNat] = l[p.same[i].2.toNat]
      · left
        exact ⟨by simp [h2], _, _, by simp [lp101_1, code101, Tryz.f101, frB62, bR, hi, a0, a1, b0, b1, h0, h1, h2, hw]; exact ⟨rfl, rfl⟩, by simp [cutD, frB62, frNo, bR, blkNo]⟩
      · right
        exact ⟨by simp [h0, h1, h2], by simp [lp101_1, code101, Tryz.f101, frB62, bR, hi, a0, a1, b0, b1, h0, h1, h2]⟩

theorem allowed62_W (hp : p.ok = true) (hl : l.length = p.sets.length) (H : Hp) : W 101 [.p (encR p), .p (.sl (l.map iP))] H = some (.ret (.p (.bool (allowed p l))), H) := by
  refine W101_of rfl (by simp) ?_
  have hA := loopA62 p l hp hl
  have hB := loopB62 p l hp hl
  have h00 : ((0 : Nat) : Int) = 0 := rfl
  simp only [lp101_0, lp101_1, code101, Tryz.f101, frA62, frB62, h00, bR, stR] at hA hB
  unfold allowed
  cases b1 : (List.range l.length).all (fun i => fitsF p i (l.getD i 0)) with
  | false => rw [b1] at hA; simp [code101, Tryz.f101, bR, hA]
  | true =>
    rw [b1] at hA
    cases b2 : p.same.all (fun s => !apart (l.getD s.1.toNat 0) (l.getD s.2.toNat 0)) with
    | false => rw [b2] at hB; simp [code101, Tryz.f101, bR, hA, hB]
    | true => rw [b2] at hB; simp [code101, Tryz.f101, bR, hA, hB]
end
end Go.Vi
end

section
/- Vi: layer 11: swardref11.shaped, Total, Cost. No conditions but those that stand with each. -/
namespace Go.Vi
open Go Go.Lib Go.Proofs
set_option maxRecDepth 100000
attribute [local simp] E_skip E_ret E_exit E_text E_draw E_seq E_cond E_block E_scope E_loop runOps runOp runDraw runVF runV finV gate FlOK wantD exec fin opd look putF norm constD constC fieldAddrD loadD storeD opCall lenD binD isShift intP strP numD indexAddrD indexD D.pd? D.pds? sub capsOf callD argsD argD D.nf unP cellD mkF H00 cD_agg cD_pagg cD_int cD_bool cD_str cD_sl cD_lit cells_encS cells_encU cells_encW cells_encR box_encU box_encW box_encR encU_agg encR_agg encW_agg cells_int one_int buildSliceD elsD splice
attribute [local simp] fnOut retOut resD retsD retD oneD D.noRefs D.noRef alone Hp.cut

/-- The error of a list of forms. -/
def shapedOK (op : Bool) (x : Int) : Bool := five x || (op && x == 0)
def shapedE (p : RProb) (l : List Int) (op : Bool) : Int :=
  if (p.ok && decide (l.length = p.sets.length)) = true then (if l.all (shapedOK op) = true then (if allowed p l = true then 0 else 7) else 2) else 2

section
variable (p : RProb) (l : List Int)
def fr34 (op : Bool) (i : Nat) : Fr := [(1, .p (.sl (l.map iP))), (2, .p (.bool op)), (3, .ptr 0 0), (7, .p (.int .i64 i))]
/-! ### Total -/
def fr35 (i : Nat) (a : Int) : Fr := [(1, .p (.sl (l.map iP))), (2, .ptr 0 0), (5, .p (.int .i64 a)), (6, .p (.int .i64 i))]
theorem foldN_sum (c : RUse → Int) (d : RUse) (us : List RUse) : foldN (fun i a => a + (us.getD i d).t * c (us.getD i d)) us.length 0 0 = sumU c 0 us := by
  rw [foldN_list (fun u a => a + u.t * c u) d us 0]
  have key : ∀ (us : List RUse) (s : Int), us.foldl (fun a u => a + u.t * c u) s = sumU c s us := by
    intro us
    induction us with
    | nil => intro s; rfl
    | cons u r ih => intro s; simp only [List.foldl_cons, sumU, ih]
  exact key us 0

theorem full_five {p : RProb} (hp : p.ok = true) {l : List Int} (hl : Full p l) {i : Nat} (hi : i < l.length) : five l[i] = true := by
  have := (hl.2 i hi).2
  rw [getD_at hi] at this
  exact (form_ne hp (by rw [← hl.1]; exact hi)).2 _ this

theorem shapedE_ok {p : RProb} {l : List Int} {op : Bool} (h : shapedE p l op = 0) : p.ok = true ∧ l.length = p.sets.length ∧ l.all (shapedOK op) = true ∧ allowed p l = true := by
  unfold shapedE at h
  split at h
  · rename_i h1
    simp only [Bool.and_eq_true, decide_eq_true_eq] at h1
    split at h
    · rename_i h2
      split at h
      · rename_i h3; exact ⟨h1.1, h1.2, h2, h3⟩
      · omega
    · omega
  · omega
theorem shapedE_full {p : RProb} {l : List Int} (h : shapedE p l false = 0) : p.ok = true ∧ Full p l := by
  obtain ⟨h1, h2, h3, h4⟩ := shapedE_ok h
  refine ⟨h1, full_of h2 (fun i hi => ?_) h4⟩
  have := List.all_eq_true.1 h3 l[i] (List.getElem_mem hi)
  rw [getD_at hi]
  simp only [shapedOK, five, Bool.and_eq_true, decide_eq_true_eq, Bool.false_and, Bool.or_false] at this
  omega

end
end Go.Vi
end

section
/- Vi: layer 11: swardref11.open, low, Bound, Floor. No conditions but those that stand with each. -/
namespace Go.Vi
open Go Go.Lib Go.Proofs
set_option maxRecDepth 100000
attribute [local simp] E_skip E_ret E_exit E_text E_draw E_seq E_cond E_block E_scope E_loop runOps runOp runDraw runVF runV finV gate FlOK wantD exec fin opd look putF norm constD constC fieldAddrD loadD storeD opCall lenD binD isShift intP strP numD indexAddrD indexD D.pd? D.pds? sub capsOf callD argsD argD D.nf unP cellD mkF H00 cD_agg cD_pagg cD_int cD_bool cD_str cD_sl cD_lit cells_encS cells_encU cells_encW cells_encR box_encU box_encW box_encR encU_agg encR_agg encW_agg cells_int one_int buildSliceD elsD splice
attribute [local simp] fnOut retOut resD retsD retD oneD D.noRefs D.noRef alone Hp.cut newRow Hp.live

/-- A part of a choice: 0, or a form, for each set. -/
def Part (p : RProb) (l : List Int) : Prop := l.length = p.sets.length ∧ ∀ x ∈ l, x = 0 ∨ five x = true
theorem opens_five {p : RProb} (hp : p.ok = true) {l : List Int} (hl : Part p l) {i : Nat} (hi : i < p.sets.length) : ∀ x ∈ opens p l i, five x = true := by
  intro x hx
  unfold opens at hx
  split at hx
  · rename_i h0
    simp only [List.mem_singleton] at hx
    have hi' : i < l.length := by rw [hl.1]; exact hi
    rw [getD_at hi'] at hx h0
    subst hx
    exact (hl.2 _ (List.getElem_mem hi')).resolve_left h0
  · exact (form_ne hp hi).2 x hx
theorem opens_len {p : RProb} (hp : p.ok = true) {l : List Int} {i : Nat} (hi : i < p.sets.length) : (opens p l i).length ≤ 5 := by
  unfold opens
  split
  · simp
  · exact form_len hp hi

section
variable (p : RProb) (l : List Int)
theorem open95_W (hp : p.ok = true) (hl : l.length = p.sets.length) (i : Int) (h0 : 0 ≤ i) (hi : i.toNat < p.sets.length) (H : Hp) :
    W 180 [.p (encR p), .p (.sl (l.map iP)), .p (.int .i64 i)] H = some (.ret (.p (.sl ((opens p l i.toNat).map iP))), H) := by
  refine W180_of rfl (by simp) ?_
  have hi' : i.toNat < l.length := by omega
  have ef : p.form i.toNat = p.sets[i.toNat].forms := by simp [RProb.form, List.getD_eq_getElem?_getD, hi]
  unfold opens
  rw [getD_at hi', ef]
  by_cases hz : l[i.toNat] = 0
  · simp [code180, Tryz.f180, bR, h0, hi, hi', hz]
  · simp [code180, Tryz.f180, bR, h0, hi, hi', hz]

/-! ### low -/
def updM (m x : Int) : Int := if m < 0 ∨ x < m then x else m
theorem minL_app : ∀ (a b : List Int) (m : Int), minL m (a ++ b) = minL (minL m a) b
  | [], b, m => rfl
  | x :: a, b, m => by simp only [List.cons_append, minL]; exact minL_app a b _
def skipU (u : RUse) (i k : Nat) : Bool := dbl u.d && u.a == u.b && i != k
def stpI (p : RProb) (u : RUse) (a b : List Int) (i k : Nat) (m : Int) : Int := if skipU u i k = true then m else updM m (once p u (a.getD i 0) (b.getD k 0))

theorem foldN_in (p : RProb) (u : RUse) (a b : List Int) (i : Nat) (m : Int) : foldN (stpI p u a b i) b.length 0 m =
    minL m ((b.zipIdx.filter fun y => !skipU u i y.2).map fun y => once p u (a.getD i 0) y.1) := by
  have key : ∀ (b pre : List Int) (m : Int), foldN (stpI p u a (pre ++ b) i) b.length pre.length m =
      minL m (((b.zipIdx pre.length).filter fun y => !skipU u i y.2).map fun y => once p u (a.getD i 0) y.1) := by
    intro b
    induction b with
    | nil => intro pre m; rfl
    | cons x b ih =>
      intro pre m
      have := ih (pre ++ [x]) (stpI p u a (pre ++ x :: b) i pre.length m)
      simp only [List.append_assoc, List.singleton_append, List.length_append, List.length_singleton] at this
      simp only [List.length_cons, foldN, this, List.zipIdx_cons]
      have e : (pre ++ x :: b).getD pre.length 0 = x := by simp [List.getD_eq_getElem?_getD]
      unfold stpI
      rw [e]
      cases hs : skipU u i pre.length with
      | true => simp [hs, minL]
      | false => simp [hs, minL, updM]
  simpa using key b [] m

theorem foldN_out (p : RProb) (u : RUse) (part : List Int) : foldN (fun i m => foldN (stpI p u (opens p part u.a.toNat) (opens p part u.b.toNat) i) (opens p part u.b.toNat).length 0 m) (opens p part u.a.toNat).length 0 (-1) =
    minL (-1) (lowQ p u part) := by
  unfold lowQ
  generalize opens p part u.b.toNat = b
  have key : ∀ (a pre : List Int) (m : Int), foldN (fun i m => foldN (stpI p u (pre ++ a) b i) b.length 0 m) a.length pre.length m =
      minL m ((a.zipIdx pre.length).flatMap fun x => ((b.zipIdx.filter fun y => !(dbl u.d && u.a == u.b && x.2 != y.2)).map fun y => once p u x.1 y.1)) := by
    intro a
    induction a with
    | nil => intro pre m; rfl
    | cons x a ih =>
      intro pre m
      have := ih (pre ++ [x]) (foldN (stpI p u (pre ++ x :: a) b pre.length) b.length 0 m)
      simp only [List.append_assoc, List.singleton_append, List.length_append, List.length_singleton] at this
      have e : (pre ++ x :: a).getD pre.length 0 = x := by simp [List.getD_eq_getElem?_getD]
      simp only [List.length_cons, foldN, this, List.zipIdx_cons, List.flatMap_cons, minL_app]
      rw [foldN_in, e]
      rfl
  have := key (opens p part u.a.toNat) [] (-1)
  simpa using this

def hp64 (u : RUse) : Hp := ⟨[bR p, bU u], []⟩
def fr64o (a b : List Int) (i : Nat) (m : Int) : Fr := [(3, .ptr 0 0), (4, .ptr 1 0), (7, .p (.sl (a.map iP))), (8, .p (.sl (b.map iP))), (9, .p (.int .i64 m)), (10, .p (.int .i64 i))]
def fr64i (a b : List Int) (i k : Nat) (m : Int) : Fr := [(3, .ptr 0 0), (4, .ptr 1 0), (7, .p (.sl (a.map iP))), (8, .p (.sl (b.map iP))), (9, .p (.int .i64 m)), (10, .p (.int .i64 i)), (11, .p (.int .i64 k))]

theorem loopI64 (hp : p.ok = true) {u : RUse} (hu : u ∈ p.uses) {a b : List Int} (ha : ∀ x ∈ a, five x = true) (hb : ∀ x ∈ b, five x = true) (hal : a.length ≤ 5) (hbl : b.length ≤ 5) {i : Nat} (hi : i < a.length) (m : Int) :
    loopO false ⟨0, 0⟩ 142 lp142_1 2 0 (fr64i a b i 0 m) (hp64 p u) = some (.exit 2, fr64i a b i b.length (foldN (stpI p u a b i) b.length 0 m) ++ [(32, .p (.bool false))], hp64 p u) := by
  refine for_fold (α := Int) (nB := 2) (nA := 0) hd142_1 b.length (fun k m => fr64i a b i k m) (fun _ _ => hp64 p u) (stpI p u a b i) (fun _ _ => True) (fun m => (.exit 2, fr64i a b i b.length m ++ [(32, .p (.bool false))], hp64 p u)) (fun _ => by simp)
    (fun m _ => by simp [lp142_1, code142, Tryz.f142, fr64i, hp64]) (fun k m hk _ => ⟨trivial, ?_⟩) (a := m) (F := fr64i a b i 0 m) (H := hp64 p u) trivial (by simp [cutD, fr64i, frNo, hp64, bR, bU, blkNo])
  have hw : IntKind.i64.wrap ((k : Int) + 1) = (k : Int) + 1 := wrap64 (by omega) (by omega)
  have h93 := fun H => double93_W u.d H
  have h63 := fun H => once63_W hp hu (ha _ (List.getElem_mem hi)) (hb _ (List.getElem_mem hk)) H
  have hik : ((i : Int) = k) = (i = k) := by rw [eq_iff_iff]; omega
  unfold stpI skipU updM
  rw [getD_at hi, getD_at hk]
  generalize once p u a[i] b[k] = o at *
  have rest : ∀ (F : Fr), (F = fr64i a b i (k + 1) (if m < 0 ∨ o < m then o else m)) → cutD ⟨0, 0⟩ [3, 4, 7, 8, 9, 10, 11] 2 0 F (hp64 p u) = some (fr64i a b i (k + 1) (if m < 0 ∨ o < m then o else m), hp64 p u) := fun F e => by
    subst e
    simp [cutD, fr64i, frNo, hp64, bR, bU, blkNo]
  cases hd : dbl u.d with
  | false =>
    rw [hd] at h93
    by_cases m0 : m < 0
    · exact ⟨fr64i a b i (k + 1) o, hp64 p u, by simp [lp142_1, code142, Tryz.f142, fr64i, hp64, bR, bU, hi, hk, h93, h63, m0, hw], by simp [cutD, fr64i, frNo, hp64, bR, bU, blkNo, m0]⟩
    · by_cases m1 : o < m
      · exact ⟨fr64i a b i (k + 1) o, hp64 p u, by simp [lp142_1, code142, Tryz.f142, fr64i, hp64, bR, bU, hi, hk, h93, h63, m0, m1, hw], by simp [cutD, fr64i, frNo, hp64, bR, bU, blkNo, m0, m1]⟩
      · exact ⟨fr64i a b i (k + 1) m, hp64 p u, by simp [lp142_1, code142, Tryz.f142, fr64i, hp64, bR, bU, hi, hk, h93, h63, m0, m1, hw], by simp [cutD, fr64i, frNo, hp64, bR, bU, blkNo, m0, m1]⟩
  | true =>
    rw [hd] at h93
    by_cases hab0 : u.a = u.b
    · have hab : (u.a = u.b) = True := by simp [hab0]
      by_cases hk0 : i = k
      · subst hk0
        have hk' : (i = i) = True := by simp
        by_cases m0 : m < 0
        · exact ⟨fr64i a b i (i + 1) o, hp64 p u, by simp [lp142_1, code142, Tryz.f142, fr64i, hp64, bR, bU, hi, hk, h93, h63, m0, hw, hab, hk'], by simp [cutD, fr64i, frNo, hp64, bR, bU, blkNo, m0, hab, hk']⟩
        · by_cases m1 : o < m
          · exact ⟨fr64i a b i (i + 1) o, hp64 p u, by simp [lp142_1, code142, Tryz.f142, fr64i, hp64, bR, bU, hi, hk, h93, h63, m0, m1, hw, hab, hk'], by simp [cutD, fr64i, frNo, hp64, bR, bU, blkNo, m0, m1, hab, hk']⟩
          · exact ⟨fr64i a b i (i + 1) m, hp64 p u, by simp [lp142_1, code142, Tryz.f142, fr64i, hp64, bR, bU, hi, hk, h93, h63, m0, m1, hw, hab, hk'], by simp [cutD, fr64i, frNo, hp64, bR, bU, blkNo, m0, m1, hab, hk']⟩
      · have hk' : (i = k) = False := by simp [hk0]
        exact ⟨fr64i a b i (k + 1) m, hp64 p u, by simp [lp142_1, code142, Tryz.f142, fr64i, hp64, bR, bU, hi, hk, h93, hw, hab, hk', hik], by simp [cutD, fr64i, frNo, hp64, bR, bU, blkNo, hab, hk']⟩
    · have hab : (u.a = u.b) = False := by simp [hab0]
      by_cases m0 : m < 0
      · exact ⟨fr64i a b i (k + 1) o, hp64 p u, by simp [lp142_1, code142, Tryz.f142, fr64i, hp64, bR, bU, hi, hk, h93, h63, m0, hw, hab], by simp [cutD, fr64i, frNo, hp64, bR, bU, blkNo, m0, hab]⟩
      · by_cases m1 : o < m
        · exact ⟨fr64i a b i (k + 1) o, hp64 p u, by simp [lp142_1, code142, Tryz.f142, fr64i, hp64, bR, bU, hi, hk, h93, h63, m0, m1, hw, hab], by simp [cutD, fr64i, frNo, hp64, bR, bU, blkNo, m0, m1, hab]⟩
        · exact ⟨fr64i a b i (k + 1) m, hp64 p u, by simp [lp142_1, code142, Tryz.f142, fr64i, hp64, bR, bU, hi, hk, h93, h63, m0, m1, hw, hab], by simp [cutD, fr64i, frNo, hp64, bR, bU, blkNo, m0, m1, hab]⟩

theorem low64_W (hp : p.ok = true) {u : RUse} (hu : u ∈ p.uses) (hl : Part p l) (H : Hp) : W 142 [.p (encR p), .p (encU u), .p (.sl (l.map iP))] H = some (.ret (.p (.int .i64 (minL (-1) (lowQ p u l)))), H) := by
  obtain ⟨_, _, ua, ua0, ub, ub0, _, _, _⟩ := ok_use hp hu
  have hub : u.b.toNat < p.sets.length ∧ 0 ≤ u.b := by
    cases hd : dbl u.d with
    | true => exact ub hd
    | false => rw [ub0 hd]; simp; omega
  refine W142_of rfl (by simp) ?_
  have h95a := fun H => open95_W p l hp hl.1 u.a ua0 ua H
  have h95b := fun H => open95_W p l hp hl.1 u.b hub.2 hub.1 H
  have fa := opens_five hp hl ua
  have fb := opens_five hp hl hub.1
  have la := opens_len hp (l := l) ua
  have lb := opens_len hp (l := l) hub.1
  rw [← foldN_out]
  generalize opens p l u.a.toNat = a at *
  generalize opens p l u.b.toNat = b at *
  have h00 : ((0 : Nat) : Int) = 0 := rfl
  have hloop := for_fold (α := Int) (mu := false) (m := ⟨0, 0⟩) (f := 142) (c := lp142_0) (nB := 2) (nA := 0) hd142_0 a.length (fr64o a b) (fun _ _ => hp64 p u)
    (fun i m => foldN (stpI p u a b i) b.length 0 m) (fun _ _ => True) (fun m => (.exit 0, fr64o a b a.length m ++ [(26, .p (.bool false))], hp64 p u)) (fun _ => by simp)
    (fun m _ => by simp [lp142_0, code142, Tryz.f142, fr64o, hp64]) (fun i m hi _ => ⟨trivial, by
      have hw : IntKind.i64.wrap ((i : Int) + 1) = (i : Int) + 1 := wrap64 (by omega) (by omega)
      have hI := loopI64 p hp hu fa fb la lb hi m
      generalize foldN (stpI p u a b i) b.length 0 m = m' at *
      simp only [lp142_1, code142, Tryz.f142, fr64i, h00, bR, bU, hp64] at hI
      exact ⟨fr64o a b (i + 1) m', hp64 p u, by simp [lp142_0, code142, Tryz.f142, fr64o, hp64, bR, bU, hi, hI, hw], by simp [cutD, fr64o, frNo, hp64, bR, bU, blkNo]⟩⟩)
    (a := -1) (F := fr64o a b 0 (-1)) (H := hp64 p u) trivial (by simp [cutD, fr64o, frNo, hp64, bR, bU, blkNo])
  generalize foldN (fun i m => foldN (stpI p u a b i) b.length 0 m) a.length 0 (-1) = r at *
  simp only [lp142_0, code142, Tryz.f142, fr64o, h00, bR, bU, hp64] at hloop
  simp [code142, Tryz.f142, bR, bU, h95a, h95b, hloop]

/-! ### Bound -/
theorem lowQ_bd {p : RProb} (hp : p.ok = true) {u : RUse} (hu : u ∈ p.uses) (l : List Int) : 0 ≤ minL (-1) (lowQ p u l) ∧ minL (-1) (lowQ p u l) ≤ 2200000 := by
  rw [minL_same (fun x hx => low_nonneg hp u l x ((low_same hp hu x).1 hx)) (low_same hp hu)]
  obtain ⟨_, _, ua, ua0, ub, ub0, _, _, _⟩ := ok_use hp hu
  have hne : lowL p u l ≠ [] := by
    obtain ⟨y, hy⟩ := List.exists_mem_of_ne_nil _ (opens_ne hp (part := l) ua)
    intro e
    have hex : ∃ b, b ∈ (if dbl u.d = true ∧ u.a ≠ u.b then opens p l u.b.toNat else [y]) := by
      split
      · rename_i h; exact List.exists_mem_of_ne_nil _ (opens_ne hp (ub h.1).1)
      · exact ⟨y, by simp⟩
    obtain ⟨b, hb⟩ := hex
    have : once p u y b ∈ lowL p u l := by
      unfold lowL
      rw [List.mem_flatMap]
      exact ⟨y, hy, List.mem_map.2 ⟨b, hb, rfl⟩⟩
    rw [e] at this
    cases this
  obtain ⟨h1, _, h3, h4⟩ := minL_mem (lowL p u l) (-1) (low_nonneg hp u l)
  refine ⟨h4 (by omega) hne, ?_⟩
  rcases h1 with h1 | h1
  · omega
  · unfold lowL at h1
    rw [List.mem_flatMap] at h1
    obtain ⟨a, _, h1⟩ := h1
    rw [List.mem_map] at h1
    obtain ⟨b, _, h1⟩ := h1
    have := (once_bd hp u a b).2
    unfold lowL
    omega

def fr36 (i : Nat) (a : Int) : Fr := [(1, .p (.sl (l.map iP))), (2, .ptr 0 0), (5, .p (.int .i64 a)), (6, .p (.int .i64 i))]
theorem bound36_W (hp : p.ok = true) (hl : Part p l) (H : Hp) : W 102 [.p (encR p), .p (.sl (l.map iP))] H = some (.ret (.p (.int .i64 (floorP p l))), H) := by
  obtain ⟨hf, h5, h30, h10, hfl⟩ := ok_fine hp
  refine W102_of rfl (by simp) ?_
  rw [← floor_same hp]
  have hloop := for_fold (α := Int) (mu := false) (m := ⟨0, 0⟩) (f := 102) (c := lp102_0) (nB := 1) (nA := 0) hd102_0 p.uses.length (fr36 l) (fun _ _ => stR p)
    (fun i a => a + (p.uses.getD i ⟨0, 0, 0, 0⟩).t * (fun u => minL (-1) (lowQ p u l)) (p.uses.getD i ⟨0, 0, 0, 0⟩)) (fun i a => 0 ≤ a ∧ a ≤ 2200000000 * i)
    (fun a => (.exit 0, fr36 l p.uses.length a ++ [(11, .p (.bool false))], stR p)) (fun _ => by simp) (fun a _ => by simp [lp102_0, code102, Tryz.f102, fr36, bR]) (fun i a hi ha => by
      have hw : IntKind.i64.wrap ((i : Int) + 1) = (i : Int) + 1 := wrap64 (by omega) (by omega)
      have hu := List.getElem_mem hi
      obtain ⟨t0, t1, _⟩ := ok_use hp hu
      have h64 := fun H => low64_W p l hp hu hl H
      have hb := lowQ_bd hp hu l
      rw [getD_at hi]
      simp only
      generalize minL (-1) (lowQ p p.uses[i] l) = o at *
      have m0 : 0 ≤ p.uses[i].t * o := Int.mul_nonneg t0 hb.1
      have m1 : p.uses[i].t * o ≤ 1000 * 2200000 := Int.mul_le_mul t1 hb.2 hb.1 (by omega)
      have w1 : IntKind.i64.wrap (p.uses[i].t * o) = p.uses[i].t * o := wrap64 (by omega) (by omega)
      have w2 : IntKind.i64.wrap (a + p.uses[i].t * o) = a + p.uses[i].t * o := wrap64 (by omega) (by omega)
      exact ⟨by omega, fr36 l (i + 1) (a + p.uses[i].t * o), stR p, by simp [lp102_0, code102, Tryz.f102, fr36, bR, hi, h64, w1, w2, hw], by simp [cutD, fr36, frNo, bR, blkNo]⟩)
    (a := 0) (F := fr36 l 0 0) (H := stR p) (by simp) (by simp [cutD, fr36, frNo, bR, blkNo])
  rw [foldN_sum (fun u => minL (-1) (lowQ p u l))] at hloop
  have h00 : ((0 : Nat) : Int) = 0 := rfl
  simp only [lp102_0, code102, Tryz.f102, fr36, h00, bR, stR] at hloop
  unfold floorQ
  simp [code102, Tryz.f102, bR, hloop]

theorem shapedE_part {p : RProb} {l : List Int} (h : shapedE p l true = 0) : p.ok = true ∧ Part p l ∧ allowed p l = true := by
  obtain ⟨h1, h2, h3, h4⟩ := shapedE_ok h
  refine ⟨h1, ⟨h2, fun x hx => ?_⟩, h4⟩
  have := List.all_eq_true.1 h3 x hx
  simp only [shapedOK, Bool.true_and, Bool.or_eq_true, beq_iff_eq] at this
  exact this.symm

end
end Go.Vi
end
