/- It is proved here what functions of the program's layer 11 and of its specification compute; conditions stand with each. The program, the first part. -/
import Derived.Test.YtodgddpkbmanoaaGreatDoorMQA
set_option linter.unusedVariables false
set_option linter.unusedSimpArgs false

section
/- Vi: layer 11: repr.form, formed, two, Check. No conditions but those that stand with each. -/
namespace Go.Vi
open Go Go.Lib Go.Proofs
set_option maxRecDepth 100000
attribute [local simp] E_skip E_ret E_exit E_text E_draw E_seq E_cond E_block E_scope E_loop runOps runOp runDraw runVF runV finV gate FlOK wantD exec fin opd look putF norm constD constC fieldAddrD loadD storeD opCall lenD binD isShift intP strP numD indexAddrD indexD D.pd? D.pds? sub capsOf callD argsD argD D.nf unP cellD mkF H00 cD_agg cD_pagg cD_int cD_bool cD_str cD_sl cD_lit cells_encS cells_encU cells_encW cells_encR box_encU box_encW box_encR encU_agg encR_agg encW_agg cells_int one_int buildSliceD elsD splice
attribute [local simp] fnOut retOut resD retsD retD oneD D.noRefs D.noRef alone Hp.cut newRow Hp.live

@[simp] theorem zr57 : zeroOf Tryz.prog 61 = some (.agg #[.int .i64 0, .slice none 0 0]) := by kernel_rfl
@[simp] theorem zr55 : zeroOf Tryz.prog 70 = some (.agg #[.int .i64 0, .int .i64 0]) := by kernel_rfl

theorem form43_W (n : Int) (H : Hp) : W 63 [.p (.int .i64 n)] H = some (.ret (.p (.bool (five n))), H) := by
  refine W63_of rfl (by simp) ?_
  by_cases h1 : 1 ≤ n <;> by_cases h2 : n ≤ 5 <;> simp [code63, Tryz.f63, five, h1, h2]

theorem two38_W (d : Int) (H : Hp) : W 62 [.p (.int .i64 d)] H = some (.ret (.p (.bool (dbl d))), H) := by
  refine W62_of rfl (by simp) ?_
  unfold dbl
  by_cases h1 : d = 5
  · simp [code62, Tryz.f62, h1]
  · by_cases h2 : d = 6
    · simp [code62, Tryz.f62, h2]
    · have e1 : (d == 5) = false := by simpa using h1
      have e2 : (d == 6) = false := by simpa using h2
      simp [code62, Tryz.f62, h1, h2]

def fr37 (l : List Int) (i : Nat) : Fr := [(0, .p (.sl (l.map iP))), (5, .p (.sl (l.map iP))), (6, .p (.int .i64 l.length)), (7, .p (.int .i64 i))]
theorem loop37_ok (l : List Int) (hlen : l.length < 4611686018427387904) : loopO false ⟨0, 0⟩ 61 lp61_0 0 0 (fr37 l 0) H00 =
    some (if incF l = true then (.exit 0, [(0, .p (.sl (l.map iP))), (5, .p (.sl (l.map iP))), (6, .p (.int .i64 l.length)), (7, .p (.int .i64 l.length)), (8, .p (.bool false))], H00) else (.ret, [(2, .p (.bool false))], H00)) := by
  rw [← incAt_all]
  refine for_all (hd61_0) l.length (fr37 l) H00 (incAt l) (by simp) (by simp) ?_ (fun i hi => ?_) (F := fr37 l 0) (H := H00) (by simp [cutD, fr37, frNo])
  · simp [lp61_0, code61, Tryz.f61, fr37]
  · have h45 := fun H => form43_W l[i] H
    have hg : l.getD i 0 = l[i] := by simp [List.getD_eq_getElem?_getD, hi]
    cases i with
    | zero =>
      have hw : IntKind.i64.wrap 1 = 1 := by decide
      have hinc : incAt l 0 = five l[0] := by unfold incAt; rw [hg]; simp
      rw [hinc]
      cases h5 : five l[0] with
      | false =>
        right
        rw [h5] at h45
        exact ⟨rfl, by simp [lp61_0, code61, Tryz.f61, fr37, hi, h45]⟩
      | true =>
        left
        rw [h5] at h45
        exact ⟨rfl, _, _, by simp [lp61_0, code61, Tryz.f61, fr37, hi, h45, hw]; exact ⟨rfl, rfl⟩, by simp [cutD, fr37, frNo]⟩
    | succ j =>
      have hj : j < l.length := by omega
      have hg' : l.getD j 0 = l[j] := by simp [List.getD_eq_getElem?_getD, hj]
      have hw : IntKind.i64.wrap ((j : Int) + 1 + 1) = (j : Int) + 1 + 1 := wrap64 (by omega) (by omega)
      have hw2 : IntKind.i64.wrap (j : Int) = (j : Int) := wrap64 (by omega) (by omega)
      have hpos : (0 : Int) < (j : Int) + 1 := by omega
      have hlt1 : (j : Int) + 1 < l.length := by omega
      have hge1 : (0 : Int) ≤ (j : Int) + 1 := by omega
      have hnat : ((j : Int) + 1).toNat = j + 1 := by omega
      have hinc : incAt l (j + 1) = (five l[j + 1] && decide (l[j] < l[j + 1])) := by
        unfold incAt
        rw [hg, show j + 1 - 1 = j from rfl, hg']
        simp
      rw [hinc]
      cases h5 : five l[j + 1] with
      | false =>
        right
        rw [h5] at h45
        exact ⟨rfl, by simp [lp61_0, code61, Tryz.f61, fr37, hi, h45, hlt1, hge1, hnat]⟩
      | true =>
        rw [h5] at h45
        by_cases hlt : l[j] < l[j + 1]
        · left
          have hnle : ¬ l[j + 1] ≤ l[j] := by omega
          exact ⟨by simp [hlt], _, _, by simp [lp61_0, code61, Tryz.f61, fr37, hi, hj, h45, hw, hw2, hpos, hnle, hlt1, hge1, hnat]; exact ⟨rfl, rfl⟩, by simp [cutD, fr37, frNo]⟩
        · right
          have hle : l[j + 1] ≤ l[j] := by omega
          exact ⟨by simp [hlt], by simp [lp61_0, code61, Tryz.f61, fr37, hi, hj, h45, hw2, hpos, hle, hlt1, hge1, hnat]⟩

theorem formed37_W (l : List Int) (hlen : l.length < 4611686018427387904) (H : Hp) : W 61 [.p (.sl (l.map iP))] H = some (.ret (.p (.bool (formsOK l))), H) := by
  refine W61_of rfl (by simp) ?_
  have hloop := loop37_ok l hlen
  have h00 : ((0 : Nat) : Int) = 0 := rfl
  simp only [lp61_0, code61, Tryz.f61, fr37, h00, H00] at hloop
  cases hi : incF l with
  | false =>
    rw [hi] at hloop
    simp [code61, Tryz.f61, hloop, formsOK, hi]
  | true =>
    rw [hi] at hloop
    have he : decide (0 < l.length) = !l.isEmpty := by
      rw [Bool.eq_iff_iff]
      cases l with
      | nil => simp
      | cons x r => simp
    simp [code61, Tryz.f61, hloop, formsOK, hi, he]

section
variable {mu : Bool} {m : Mk} {f : FuncId} {c : Code} {nB nA : Nat} {keep : List Tmp}
/-- The first number, of k from i on, of which the answer is no. -/
def ff (p : Nat → Bool) : Nat → Nat → Nat
  | 0, i => i
  | k + 1, i => if p i = true then ff p k (i + 1) else i
/-- Each number below n is asked; the first that fails ends the loop, with a state of its own. -/
theorem for_each (hd : ch.head f (firstR c) = keep) (n : Nat) (fr : Nat → Fr) (H0 : Hp) (p : Nat → Bool) {ex : CO} (bad : Nat → CO) (hx : ex.1 ≠ .normal) (hb : ∀ i, (bad i).1 ≠ .normal)
    (hend : E mu m f c (fr n) H0 = some ex)
    (hstep : ∀ i, i < n → (p i = true ∧ ∃ F H, E mu m f c (fr i) H0 = some (.normal, F, H) ∧ cutD m keep nB nA F H = some (fr (i + 1), H0)) ∨ (p i = false ∧ E mu m f c (fr i) H0 = some (bad i)))
    {F : Fr} {H : Hp} (hcut : cutD m keep nB nA F H = some (fr 0, H0)) : loopO mu m f c nB nA F H = some (if (List.range n).all p = true then ex else bad (ff p n 0)) := by
  have ne : ∀ {o : CO}, o.1 ≠ .normal → ∀ F H, o ≠ (.normal, F, H) := fun h F H e => h (by rw [e])
  have key := loop_run (mu := mu) (m := m) (f := f) (c := c) (nB := nB) (nA := nA) hd fr (fun _ => H0) (fun i => if (List.range' i (n - i)).all p = true then ex else bad (ff p (n - i) i)) (fun i => i ≤ n) (fun i => n - i)
    (fun i hi => by
      by_cases hin : i = n
      · subst hin
        left
        simp only [Nat.sub_self, List.range'_zero, List.all_nil, if_true]
        exact ⟨hend, ne hx⟩
      · have hlt : i < n := by omega
        have e : List.range' i (n - i) = i :: List.range' (i + 1) (n - (i + 1)) := by
          rw [show n - i = (n - (i + 1)) + 1 by omega, List.range'_succ]
        have e2 : ff p (n - i) i = if p i = true then ff p (n - (i + 1)) (i + 1) else i := by
          rw [show n - i = (n - (i + 1)) + 1 by omega]; rfl
        rcases hstep i hlt with ⟨hp, F, H, h1, h2⟩ | ⟨hp, h1⟩
        · right
          exact ⟨i + 1, F, H, h1, h2, by omega, by omega, by simp only [e, e2, List.all_cons, hp, Bool.true_and, if_true]⟩
        · left
          simp only [e, e2, List.all_cons, hp, Bool.false_and, Bool.false_eq_true, if_false]
          exact ⟨h1, ne (hb i)⟩) 0 (F := F) (H := H) (Nat.zero_le _) hcut
  rw [List.range_eq_range']
  simpa using key
end

section
variable (p : RProb)
def frA14 (i : Nat) : Fr := [(1, .ptr 0 0), (3, .p (.int .i64 p.sets.length)), (29, .p (.sl (p.sets.map encS))), (30, .p (.int .i64 p.sets.length)), (31, .p (.int .i64 i))]
def frB14 (i : Nat) : Fr := [(1, .ptr 0 0), (3, .p (.int .i64 p.sets.length)), (51, .p (.sl (p.uses.map encU))), (52, .p (.int .i64 p.uses.length)), (53, .p (.int .i64 i))]
def frC14 (i : Nat) : Fr := [(3, .p (.int .i64 p.sets.length)), (107, .p (.sl (p.same.map encW))), (108, .p (.int .i64 p.same.length)), (109, .p (.int .i64 i))]

def bS (s : RSet) : Blk := .cells [.p (.int .i64 s.size), .p (.sl (s.forms.map iP))]
def badA14 (i : Nat) : CO := (.ret, [(2, .p (.int .i64 2))], ⟨[bR p, bS (p.sets.getD i ⟨0, []⟩)], []⟩)
def badB14 (i : Nat) : CO := (.ret, [(2, .p (.int .i64 2))], ⟨[bR p, bU (p.uses.getD i ⟨0, 0, 0, 0⟩)], []⟩)
def bW (x : Int × Int) : Blk := .cells [.p (.int .i64 x.1), .p (.int .i64 x.2)]
def badC14 (i : Nat) : CO := (.ret, [(2, .p (.int .i64 2))], ⟨[bR p, bW (p.same.getD i (0, 0))], []⟩)

theorem loopA14 (hp : p.fine) : ∃ H', loopO false ⟨0, 0⟩ 22 lp22_0 1 0 (frA14 p 0) (stR p) =
    some (if p.sets.all okS = true then (.exit 0, frA14 p p.sets.length ++ [(32, .p (.bool false))], stR p) else (.ret, [(2, .p (.int .i64 2))], H')) := by
  rw [← range_all okS ⟨0, []⟩]
  refine ⟨_, for_each hd22_0 p.sets.length (frA14 p) (stR p) (fun i => okS (p.sets.getD i ⟨0, []⟩)) (badA14 p) (by simp) (by simp [badA14]) ?_ (fun i hi => ?_) (F := frA14 p 0) (H := stR p) (by simp [cutD, frA14, frNo, bR, blkNo])⟩
  · simp [lp22_0, code22, Tryz.f22, frA14]
  · have hw : IntKind.i64.wrap ((i : Int) + 1) = (i : Int) + 1 := wrap64 (by omega) (by have := hp.1; omega)
    have h37 := fun H => formed37_W p.sets[i].forms (hp.2.2.2 _ (List.getElem_mem hi)) H
    unfold badA14
    rw [getD_at hi]
    unfold okS inR
    by_cases h1 : 0 ≤ p.sets[i].size
    · have h1' : ¬ p.sets[i].size < 0 := by omega
      by_cases h2 : p.sets[i].size ≤ 1024
      · have h2' : ¬ 1024 < p.sets[i].size := by omega
        cases h3 : formsOK p.sets[i].forms with
        | false =>
          right
          rw [h3] at h37
          exact ⟨by simp, by simp [lp22_0, code22, Tryz.f22, frA14, bR, bS, hi, h1', h2', h37]⟩
        | true =>
          left
          rw [h3] at h37
          exact ⟨by simp [h1, h2], _, _, by simp [lp22_0, code22, Tryz.f22, frA14, bR, hi, h1', h2', h37, hw]; exact ⟨rfl, rfl⟩, by simp [cutD, frA14, frNo, bR, blkNo]⟩
      · right
        have h2' : 1024 < p.sets[i].size := by omega
        exact ⟨by simp [h2], by simp [lp22_0, code22, Tryz.f22, frA14, bR, bS, hi, h1', h2']⟩
    · right
      have h1' : p.sets[i].size < 0 := by omega
      exact ⟨by simp [h1], by simp [lp22_0, code22, Tryz.f22, frA14, bR, bS, hi, h1']⟩

theorem use_parts (n : Int) (u : RUse) : useOK n u = (decide (0 ≤ u.a) && decide (u.a ≤ n - 1) && (decide (1 ≤ u.t) && decide (u.t ≤ 1000)) && (decide (1 ≤ u.d) && decide (u.d ≤ 6)) && (if dbl u.d then decide (0 ≤ u.b) && decide (u.b ≤ n - 1) else decide (u.b = 0))) := by
  unfold useOK inR
  have hb : (u.b == 0) = decide (u.b = 0) := by rw [Bool.eq_iff_iff]; simp
  rw [hb]

set_option maxHeartbeats 4000000 in
theorem loopB14 (hp : p.fine) (hn : p.sets.length ≤ 1000) : ∃ H', loopO false ⟨0, 0⟩ 22 lp22_1 1 0 (frB14 p 0) (stR p) =
    some (if p.uses.all (useOK p.sets.length) = true then (.exit 2, frB14 p p.uses.length ++ [(54, .p (.bool false))], stR p) else (.ret, [(2, .p (.int .i64 2))], H')) := by
  rw [← range_all (useOK p.sets.length) ⟨0, 0, 0, 0⟩]
  refine ⟨_, for_each hd22_1 p.uses.length (frB14 p) (stR p) (fun i => useOK p.sets.length (p.uses.getD i ⟨0, 0, 0, 0⟩)) (badB14 p) (by simp) (by simp [badB14]) ?_ (fun i hi => ?_) (F := frB14 p 0) (H := stR p) (by simp [cutD, frB14, frNo, bR, blkNo])⟩
  · simp [lp22_1, code22, Tryz.f22, frB14]
  · have hw : IntKind.i64.wrap ((i : Int) + 1) = (i : Int) + 1 := wrap64 (by omega) (by have := hp.2.1; omega)
    unfold badB14
    rw [getD_at hi, use_parts]
    have h38 := fun H => two38_W p.uses[i].d H
    cases hd : dbl p.uses[i].d with
    | false =>
      rw [hd] at h38
      by_cases b0 : p.uses[i].b = 0
      · have b0' : (p.uses[i].b = 0) = True := eq_true b0
        by_cases d0 : p.uses[i].d < 1
        · have d0g : ¬ 1 ≤ p.uses[i].d := by omega
          right
          exact ⟨by simp [d0g], by simp [lp22_1, code22, Tryz.f22, frB14, bR, bU, hi, b0', h38, d0]⟩
        · have d0g : 1 ≤ p.uses[i].d := by omega
          by_cases d1 : 6 < p.uses[i].d
          · have d1g : ¬ p.uses[i].d ≤ 6 := by omega
            right
            exact ⟨by simp [d1g], by simp [lp22_1, code22, Tryz.f22, frB14, bR, bU, hi, b0', h38, d0, d1]⟩
          · have d1g : p.uses[i].d ≤ 6 := by omega
            by_cases a0 : p.uses[i].a < 0
            · have a0g : ¬ 0 ≤ p.uses[i].a := by omega
              right
              exact ⟨by simp [a0g], by simp [lp22_1, code22, Tryz.f22, frB14, bR, bU, hi, b0', h38, d0, d1, a0]⟩
            · have a0g : 0 ≤ p.uses[i].a := by omega
              by_cases a1 : (p.sets.length : Int) ≤ p.uses[i].a
              · have a1g : ¬ p.uses[i].a ≤ (p.sets.length : Int) - 1 := by omega
                right
                exact ⟨by simp [a1g], by simp [lp22_1, code22, Tryz.f22, frB14, bR, bU, hi, b0', h38, d0, d1, a0, a1]⟩
              · have a1g : p.uses[i].a ≤ (p.sets.length : Int) - 1 := by omega
                by_cases t0 : p.uses[i].t < 1
                · have t0g : ¬ 1 ≤ p.uses[i].t := by omega
                  right
                  exact ⟨by simp [t0g], by simp [lp22_1, code22, Tryz.f22, frB14, bR, bU, hi, b0', h38, d0, d1, a0, a1, t0]⟩
                · have t0g : 1 ≤ p.uses[i].t := by omega
                  by_cases t1 : 1000 < p.uses[i].t
                  · have t1g : ¬ p.uses[i].t ≤ 1000 := by omega
                    right
                    exact ⟨by simp [t1g], by simp [lp22_1, code22, Tryz.f22, frB14, bR, bU, hi, b0', h38, d0, d1, a0, a1, t0, t1]⟩
                  · have t1g : p.uses[i].t ≤ 1000 := by omega
                    left
                    exact ⟨by simp [b0', d0g, d1g, a0g, a1g, t0g, t1g], _, _, by simp [lp22_1, code22, Tryz.f22, frB14, bR, hi, hw, b0', h38, d0, d1, a0, a1, t0, t1]; exact ⟨rfl, rfl⟩, by simp [cutD, frB14, frNo, bR, blkNo]⟩
      · have b0' : (p.uses[i].b = 0) = False := eq_false b0
        by_cases d0 : p.uses[i].d < 1
        · have d0g : ¬ 1 ≤ p.uses[i].d := by omega
          right
          exact ⟨by simp [d0g], by simp [lp22_1, code22, Tryz.f22, frB14, bR, bU, hi, b0', h38, d0]⟩
        · have d0g : 1 ≤ p.uses[i].d := by omega
          by_cases d1 : 6 < p.uses[i].d
          · have d1g : ¬ p.uses[i].d ≤ 6 := by omega
            right
            exact ⟨by simp [d1g], by simp [lp22_1, code22, Tryz.f22, frB14, bR, bU, hi, b0', h38, d0, d1]⟩
          · have d1g : p.uses[i].d ≤ 6 := by omega
            by_cases a0 : p.uses[i].a < 0
            · have a0g : ¬ 0 ≤ p.uses[i].a := by omega
              right
              exact ⟨by simp [a0g], by simp [lp22_1, code22, Tryz.f22, frB14, bR, bU, hi, b0', h38, d0, d1, a0]⟩
            · have a0g : 0 ≤ p.uses[i].a := by omega
              by_cases a1 : (p.sets.length : Int) ≤ p.uses[i].a
              · have a1g : ¬ p.uses[i].a ≤ (p.sets.length : Int) - 1 := by omega
                right
                exact ⟨by simp [a1g], by simp [lp22_1, code22, Tryz.f22, frB14, bR, bU, hi, b0', h38, d0, d1, a0, a1]⟩
              · have a1g : p.uses[i].a ≤ (p.sets.length : Int) - 1 := by omega
                right
                exact ⟨by simp [b0', d0g, d1g, a0g, a1g], by simp [lp22_1, code22, Tryz.f22, frB14, bR, bU, hi, b0', h38, d0, d1, a0, a1]⟩
    | true =>
      rw [hd] at h38
      by_cases b0 : 0 ≤ p.uses[i].b
      · by_cases b1 : p.uses[i].b < p.sets.length
        · have b1g : p.uses[i].b ≤ (p.sets.length : Int) - 1 := by omega
          by_cases d0 : p.uses[i].d < 1
          · have d0g : ¬ 1 ≤ p.uses[i].d := by omega
            right
            exact ⟨by simp [d0g], by simp [lp22_1, code22, Tryz.f22, frB14, bR, bU, hi, b0, b1, h38, d0]⟩
          · have d0g : 1 ≤ p.uses[i].d := by omega
            by_cases d1 : 6 < p.uses[i].d
            · have d1g : ¬ p.uses[i].d ≤ 6 := by omega
              right
              exact ⟨by simp [d1g], by simp [lp22_1, code22, Tryz.f22, frB14, bR, bU, hi, b0, b1, h38, d0, d1]⟩
            · have d1g : p.uses[i].d ≤ 6 := by omega
              by_cases a0 : p.uses[i].a < 0
              · have a0g : ¬ 0 ≤ p.uses[i].a := by omega
                right
                exact ⟨by simp [a0g], by simp [lp22_1, code22, Tryz.f22, frB14, bR, bU, hi, b0, b1, h38, d0, d1, a0]⟩
              · have a0g : 0 ≤ p.uses[i].a := by omega
                by_cases a1 : (p.sets.length : Int) ≤ p.uses[i].a
                · have a1g : ¬ p.uses[i].a ≤ (p.sets.length : Int) - 1 := by omega
                  right
                  exact ⟨by simp [a1g], by simp [lp22_1, code22, Tryz.f22, frB14, bR, bU, hi, b0, b1, h38, d0, d1, a0, a1]⟩
                · have a1g : p.uses[i].a ≤ (p.sets.length : Int) - 1 := by omega
                  by_cases t0 : p.uses[i].t < 1
                  · have t0g : ¬ 1 ≤ p.uses[i].t := by omega
                    right
                    exact ⟨by simp [t0g], by simp [lp22_1, code22, Tryz.f22, frB14, bR, bU, hi, b0, b1, h38, d0, d1, a0, a1, t0]⟩
                  · have t0g : 1 ≤ p.uses[i].t := by omega
                    by_cases t1 : 1000 < p.uses[i].t
                    · have t1g : ¬ p.uses[i].t ≤ 1000 := by omega
                      right
                      exact ⟨by simp [t1g], by simp [lp22_1, code22, Tryz.f22, frB14, bR, bU, hi, b0, b1, h38, d0, d1, a0, a1, t0, t1]⟩
                    · have t1g : p.uses[i].t ≤ 1000 := by omega
                      left
                      exact ⟨by simp [b0, b1g, d0g, d1g, a0g, a1g, t0g, t1g], _, _, by simp [lp22_1, code22, Tryz.f22, frB14, bR, hi, hw, b0, b1, h38, d0, d1, a0, a1, t0, t1]; exact ⟨rfl, rfl⟩, by simp [cutD, frB14, frNo, bR, blkNo]⟩
        · have b1g : ¬ p.uses[i].b ≤ (p.sets.length : Int) - 1 := by omega
          by_cases d0 : p.uses[i].d < 1
          · have d0g : ¬ 1 ≤ p.uses[i].d := by omega
            right
            exact ⟨by simp [d0g], by simp [lp22_1, code22, Tryz.f22, frB14, bR, bU, hi, b0, b1, h38, d0]⟩
          · have d0g : 1 ≤ p.uses[i].d := by omega
            by_cases d1 : 6 < p.uses[i].d
            · have d1g : ¬ p.uses[i].d ≤ 6 := by omega
              right
              exact ⟨by simp [d1g], by simp [lp22_1, code22, Tryz.f22, frB14, bR, bU, hi, b0, b1, h38, d0, d1]⟩
            · have d1g : p.uses[i].d ≤ 6 := by omega
              by_cases a0 : p.uses[i].a < 0
              · have a0g : ¬ 0 ≤ p.uses[i].a := by omega
                right
                exact ⟨by simp [a0g], by simp [lp22_1, code22, Tryz.f22, frB14, bR, bU, hi, b0, b1, h38, d0, d1, a0]⟩
              · have a0g : 0 ≤ p.uses[i].a := by omega
                by_cases a1 : (p.sets.length : Int) ≤ p.uses[i].a
                · have a1g : ¬ p.uses[i].a ≤ (p.sets.length : Int) - 1 := by omega
                  right
                  exact ⟨by simp [a1g], by simp [lp22_1, code22, Tryz.f22, frB14, bR, bU, hi, b0, b1, h38, d0, d1, a0, a1]⟩
                · have a1g : p.uses[i].a ≤ (p.sets.length : Int) - 1 := by omega
                  right
                  exact ⟨by simp [b0, b1g, d0g, d1g, a0g, a1g], by simp [lp22_1, code22, Tryz.f22, frB14, bR, bU, hi, b0, b1, h38, d0, d1, a0, a1]⟩
      · skip
        by_cases d0 : p.uses[i].d < 1
        · have d0g : ¬ 1 ≤ p.uses[i].d := by omega
          right
          exact ⟨by simp [d0g], by simp [lp22_1, code22, Tryz.f22, frB14, bR, bU, hi, b0, h38, d0]⟩
        · have d0g : 1 ≤ p.uses[i].d := by omega
          by_cases d1 : 6 < p.uses[i].d
          · have d1g : ¬ p.uses[i].d ≤ 6 := by omega
            right
            exact ⟨by simp [d1g], by simp [lp22_1, code22, Tryz.f22, frB14, bR, bU, hi, b0, h38, d0, d1]⟩
          · have d1g : p.uses[i].d ≤ 6 := by omega
            by_cases a0 : p.uses[i].a < 0
            · have a0g : ¬ 0 ≤ p.uses[i].a := by omega
              right
              exact ⟨by simp [a0g], by simp [lp22_1, code22, Tryz.f22, frB14, bR, bU, hi, b0, h38, d0, d1, a0]⟩
            · have a0g : 0 ≤ p.uses[i].a := by omega
              by_cases a1 : (p.sets.length : Int) ≤ p.uses[i].a
              · have a1g : ¬ p.uses[i].a ≤ (p.sets.length : Int) - 1 := by omega
                right
                exact ⟨by simp [a1g], by simp [lp22_1, code22, Tryz.f22, frB14, bR, bU, hi, b0, h38, d0, d1, a0, a1]⟩
              · have a1g : p.uses[i].a ≤ (p.sets.length : Int) - 1 := by omega
                right
                exact ⟨by simp [b0, d0g, d1g, a0g, a1g], by simp [lp22_1, code22, Tryz.f22, frB14, bR, bU, hi, b0, h38, d0, d1, a0, a1]⟩

theorem pair_parts (n : Int) (x : Int × Int) : pairOK n x = ((decide (0 ≤ x.1) && decide (x.1 ≤ n - 1)) && (decide (0 ≤ x.2) && decide (x.2 ≤ n - 1)) && !decide (x.1 = x.2)) := by
  unfold pairOK inR
  have hb : (x.1 != x.2) = !decide (x.1 = x.2) := by rw [Bool.eq_iff_iff]; simp
  rw [hb]

set_option maxHeartbeats 4000000 in
theorem loopC14 (hp : p.fine) (hn : p.sets.length ≤ 1000) : ∃ H', loopO false ⟨0, 0⟩ 22 lp22_2 1 0 (frC14 p 0) (stR p) =
    some (if p.same.all (pairOK p.sets.length) = true then (.exit 4, frC14 p p.same.length ++ [(110, .p (.bool false))], stR p) else (.ret, [(2, .p (.int .i64 2))], H')) := by
  rw [← range_all (pairOK p.sets.length) (0, 0)]
  refine ⟨_, for_each hd22_2 p.same.length (frC14 p) (stR p) (fun i => pairOK p.sets.length (p.same.getD i (0, 0))) (badC14 p) (by simp) (by simp [badC14]) ?_ (fun i hi => ?_) (F := frC14 p 0) (H := stR p) (by simp [cutD, frC14, frNo, bR, blkNo])⟩
  · simp [lp22_2, code22, Tryz.f22, frC14]
  · have hw : IntKind.i64.wrap ((i : Int) + 1) = (i : Int) + 1 := wrap64 (by omega) (by have := hp.2.2.1; omega)
    unfold badC14
    rw [getD_at hi, pair_parts]
    by_cases c1 : p.same[i].2 < p.same[i].1
    · have c2 : ¬ p.same[i].1 < p.same[i].2 := by omega
      have ne : (p.same[i].1 = p.same[i].2) = False := eq_false (by omega)
      by_cases h0 : p.same[i].2 < 0
      · have h0g : ¬ 0 ≤ p.same[i].2 := by omega
        right
        exact ⟨by simp [h0g], by simp [lp22_2, code22, Tryz.f22, frC14, bR, bW, hi, c1, c2, h0]⟩
      · have h0g : 0 ≤ p.same[i].2 := by omega
        by_cases h1 : (p.sets.length : Int) ≤ p.same[i].1
        · have h1g : ¬ p.same[i].1 ≤ (p.sets.length : Int) - 1 := by omega
          right
          exact ⟨by simp [h1g], by simp [lp22_2, code22, Tryz.f22, frC14, bR, bW, hi, c1, c2, h0, h1]⟩
        · have g1 : 0 ≤ p.same[i].1 := by omega
          have g2 : p.same[i].1 ≤ (p.sets.length : Int) - 1 := by omega
          have g3 : 0 ≤ p.same[i].2 := by omega
          have g4 : p.same[i].2 ≤ (p.sets.length : Int) - 1 := by omega
          left
          exact ⟨by simp [g1, g2, g3, g4, ne], _, _, by simp [lp22_2, code22, Tryz.f22, frC14, bR, hi, hw, c1, c2, h0, h1, ne]; exact ⟨rfl, rfl⟩, by simp [cutD, frC14, frNo, bR, blkNo]⟩
    · by_cases c2 : p.same[i].1 < p.same[i].2
      · have ne : (p.same[i].1 = p.same[i].2) = False := eq_false (by omega)
        by_cases h0 : p.same[i].1 < 0
        · have h0g : ¬ 0 ≤ p.same[i].1 := by omega
          right
          exact ⟨by simp [h0g], by simp [lp22_2, code22, Tryz.f22, frC14, bR, bW, hi, c1, c2, h0]⟩
        · have h0g : 0 ≤ p.same[i].1 := by omega
          by_cases h1 : (p.sets.length : Int) ≤ p.same[i].2
          · have h1g : ¬ p.same[i].2 ≤ (p.sets.length : Int) - 1 := by omega
            right
            exact ⟨by simp [h1g], by simp [lp22_2, code22, Tryz.f22, frC14, bR, bW, hi, c1, c2, h0, h1]⟩
          · have g1 : 0 ≤ p.same[i].1 := by omega
            have g2 : p.same[i].1 ≤ (p.sets.length : Int) - 1 := by omega
            have g3 : 0 ≤ p.same[i].2 := by omega
            have g4 : p.same[i].2 ≤ (p.sets.length : Int) - 1 := by omega
            left
            exact ⟨by simp [g1, g2, g3, g4, ne], _, _, by simp [lp22_2, code22, Tryz.f22, frC14, bR, hi, hw, c1, c2, h0, h1, ne]; exact ⟨rfl, rfl⟩, by simp [cutD, frC14, frNo, bR, blkNo]⟩
      · have eq : (p.same[i].1 = p.same[i].2) = True := eq_true (by omega)
        by_cases h0 : p.same[i].1 < 0
        · have h0g : ¬ 0 ≤ p.same[i].1 := by omega
          right
          exact ⟨by simp [h0g], by simp [lp22_2, code22, Tryz.f22, frC14, bR, bW, hi, c1, c2, h0]⟩
        · have h0g : 0 ≤ p.same[i].1 := by omega
          by_cases h1 : (p.sets.length : Int) ≤ p.same[i].1
          · have h1g : ¬ p.same[i].1 ≤ (p.sets.length : Int) - 1 := by omega
            right
            exact ⟨by simp [h1g], by simp [lp22_2, code22, Tryz.f22, frC14, bR, bW, hi, c1, c2, h0, h1]⟩
          · skip
            right
            exact ⟨by simp [eq], by simp [lp22_2, code22, Tryz.f22, frC14, bR, bW, hi, c1, c2, h0, h1, eq]⟩

theorem check14_W (hp : p.fine) (H : Hp) : W 22 [.p (encR p)] H = some (.ret (.p (.int .i64 (if p.ok = true then 0 else 2))), H) := by
  refine W22_of rfl (by simp) ?_
  have h00 : ((0 : Nat) : Int) = 0 := rfl
  unfold RProb.ok
  by_cases h1 : p.sets.length ≤ 5
  · have h1' : ¬ (5 : Int) < p.sets.length := by omega
    by_cases h2 : p.uses.length ≤ 30
    · have h2' : ¬ (30 : Int) < p.uses.length := by omega
      by_cases h3 : p.same.length ≤ 10
      · have h3' : ¬ (10 : Int) < p.same.length := by omega
        obtain ⟨HA, hA⟩ := loopA14 p hp
        obtain ⟨HB, hB⟩ := loopB14 p hp (by omega)
        obtain ⟨HC, hC⟩ := loopC14 p hp (by omega)
        simp only [lp22_0, lp22_1, lp22_2, code22, Tryz.f22, frA14, frB14, frC14, h00, bR, stR] at hA hB hC
        have hokS : p.sets.all (fun s => inR s.size 0 1024 && formsOK s.forms) = p.sets.all okS := rfl
        rw [hokS]
        cases b1 : p.sets.all okS with
        | false =>
          rw [b1] at hA
          simp [code22, Tryz.f22, bR, h1, h2, h3, h1', h2', h3', hA]
        | true =>
          rw [b1] at hA
          cases b2 : p.uses.all (useOK p.sets.length) with
          | false =>
            rw [b2] at hB
            simp [code22, Tryz.f22, bR, h1, h2, h3, h1', h2', h3', hA, hB]
          | true =>
            rw [b2] at hB
            cases b3 : p.same.all (pairOK p.sets.length) with
            | false =>
              rw [b3] at hC
              simp [code22, Tryz.f22, bR, h1, h2, h3, h1', h2', h3', hA, hB, hC]
            | true =>
              rw [b3] at hC
              simp [code22, Tryz.f22, bR, h1, h2, h3, h1', h2', h3', hA, hB, hC]
      · have h3' : (10 : Int) < p.same.length := by omega
        simp [code22, Tryz.f22, bR, h1, h2, h3, h1', h2', h3']
    · have h2' : (30 : Int) < p.uses.length := by omega
      simp [code22, Tryz.f22, bR, h1, h2, h1', h2']
  · have h1' : (5 : Int) < p.sets.length := by omega
    simp [code22, Tryz.f22, bR, h1, h1']
end
end Go.Vi
end

section
/- Vi: layer 11: repr.digits, always, costs, one. No conditions but those that stand with each. -/
namespace Go.Vi
open Go Go.Lib Go.Proofs
set_option maxRecDepth 100000
def okG (f : FuncId) : Bool := f == 208 || f == 231 || f == 239
theorem okG_ok : ∀ f, okG f = true → okFn Tryz.prog ch f = true := by
  intro f h
  simp only [okG, Bool.or_eq_true, beq_iff_eq] at h
  rcases h with (rfl | rfl) | rfl <;> kernel_rfl
def isDig (n : Nat) : Option (Out × Hp) → Bool
  | some (.ret (.p (.int .i64 m)), ⟨[], []⟩) => decide (m = dig n)
  | _ => false
theorem isDig_eq {n : Nat} {r : Option (Out × Hp)} (h : isDig n r = true) : r = some (.ret (.p (.int .i64 (dig n))), ⟨[], []⟩) := by
  unfold isDig at h
  split at h
  · rw [decide_eq_true_eq] at h; rw [h]
  · cases h
theorem dig_runs : (List.range 1025).all (fun n => isDig n (calN Tryz.prog hn ch others doesN okG 8 208 [.p (.int .i64 n)] ⟨[], []⟩)) = true := by kernel_rfl

/-- What a call answers that leads nowhere does not hang on the heap. -/
theorem run_any {ok : FuncId → Bool} (hok : ∀ f, ok f = true → okFn Tryz.prog ch f = true) {n f : Nat} {args : List D} {d : D} (hf : f < YB) (hx : isX f = false) (hl : ch.lend f = false) (hp : ch.pure f = true) (ha : args.all (D.noRef 0 0) = true)
    (h : calN Tryz.prog hn ch others doesN ok (n + 1) f args ⟨[], []⟩ = some (.ret d, ⟨[], []⟩)) (H : Hp) : W f args H = some (.ret d, H) := by
  refine calN_le hok doesN_le (n + 1) _ _ _ _ ?_
  have hx' : others.is f = false := hx
  simp only [calN, if_neg (Nat.not_le.2 hf), hx', hl, Bool.false_eq_true, if_false] at h ⊢
  split at h
  · rename_i hk
    rw [if_pos hk]
    rw [if_pos ⟨hp, ha⟩] at h ⊢
    obtain ⟨h1, h2, h3⟩ := alone_inv h
    rw [h1]
    have := h3 d rfl
    simp only [alone, H00, this, if_true]
  · cases h
theorem digits153_W (n : Int) (h0 : 0 ≤ n) (h1 : n ≤ 1024) (H : Hp) : W 208 [.p (.int .i64 n)] H = some (.ret (.p (.int .i64 (dig n))), H) := by
  have := List.all_eq_true.1 dig_runs n.toNat (List.mem_range.2 (by omega))
  have := isDig_eq this
  rw [Int.toNat_of_nonneg h0] at this
  exact run_any okG_ok (by decide) rfl (by kernel_rfl) (by kernel_rfl) rfl this H
end Go.Vi
end

section
/- Vi: layer 11: repr.always, costs, one, once, forms. No conditions but those that stand with each. -/
namespace Go.Vi
open Go Go.Lib Go.Proofs
set_option maxRecDepth 100000
attribute [local simp] E_skip E_ret E_exit E_text E_draw E_seq E_cond E_block E_scope E_loop runOps runOp runDraw runVF runV finV gate FlOK wantD exec fin opd look putF norm constD constC fieldAddrD loadD storeD opCall lenD binD isShift intP strP numD indexAddrD indexD D.pd? D.pds? sub capsOf callD argsD argD D.nf unP cellD mkF H00 cD_agg cD_pagg cD_int cD_bool cD_str cD_sl cD_lit cells_encS cells_encU cells_encW cells_encR box_encU box_encW box_encR encU_agg encR_agg encW_agg cells_int one_int buildSliceD elsD splice
attribute [local simp] fnOut retOut resD retsD retD oneD D.noRefs D.noRef alone Hp.cut newRow Hp.live
def okO (f : FuncId) : Bool := f == 179 || f == 209
theorem okO_ok : ∀ f, okO f = true → okFn Tryz.prog ch f = true := by
  intro f h
  simp only [okO, Bool.or_eq_true, beq_iff_eq] at h
  rcases h with rfl | rfl <;> kernel_rfl
def cC (k : Int) : Blk := .cells [.p (.int .i64 k)]
def cF : List D := [.p (.fn 208), .fn 232 [.ptr 1 0], .p (.fn 210), .fn 232 [.ptr 2 0], .fn 232 [.ptr 3 0], .p (.fn 211), .fn 232 [.ptr 4 0], .p (.fn 212), .fn 232 [.ptr 5 0], .fn 232 [.ptr 6 0],
  .p (.fn 213), .p (.fn 214), .p (.fn 215), .p (.fn 216), .p (.fn 217), .fn 232 [.ptr 7 0], .fn 232 [.ptr 8 0], .p (.fn 208), .fn 232 [.ptr 9 0], .p (.fn 218)]
def cB : List Blk := [.cells cF, cC 2, cC 5, cC 3, cC 2, cC 5, cC 4, cC 1, cC 32, cC 5]
theorem costs_run : calN Tryz.prog hn ch others doesN okO 8 179 [] ⟨[], []⟩ = some (.ret (.agg cF), ⟨cB, []⟩) := by kernel_rfl
theorem costs126_W : W 179 [] ⟨[], []⟩ = some (.ret (.agg cF), ⟨cB, []⟩) := calN_le okO_ok doesN_le 8 _ _ _ _ costs_run

theorem always188_W (n k : Int) (i : Nat) (H : Hp) (h : H.B[i]? = some (cC k)) : W 232 [.p (.int .i64 n), .ptr i 0] H = some (.ret (.p (.int .i64 k)), H) := by
  refine W_ofH Tryz.func232 rfl (by kernel_rfl) rfl rfl rfl rfl (by simp [D.noRef]) (by rw [Tryz.ntmps232]; simp) (c := code232) ?_
  have key : evalC Tryz.prog hn ch (hn.mutF 232) ⟨0, 0⟩ W 232 code232 (mkF 0 [.p (.int .i64 n), .ptr i 0]) H = some (.ret, [(3, .p (.int .i64 k))], H) := by
    show E _ _ _ _ _ _ = _
    simp [code232, Tryz.f232, h, cC]
  rw [key]
  simp [rs232]

section
variable (n : Int) (h0 : 0 ≤ n) (h1 : n ≤ 1024)
include h0 h1
theorem cost155_W (H : Hp) : W 210 [.p (.int .i64 n)] H = some (.ret (.p (.int .i64 (2 * dig n))), H) := by
  refine W210_of rfl (by simp) ?_
  have h := fun H => digits153_W n h0 h1 H
  have hd := dig_bd h1
  have hw : IntKind.i64.wrap (2 * dig n) = 2 * dig n := wrap64 (by omega) (by omega)
  simp [code210, Tryz.f210, h, hw]
theorem cost156_W (H : Hp) : W 211 [.p (.int .i64 n)] H = some (.ret (.p (.int .i64 (n + 1))), H) := by
  refine W211_of rfl (by simp) ?_
  have hw : IntKind.i64.wrap (n + 1) = n + 1 := wrap64 (by omega) (by omega)
  simp [code211, Tryz.f211, hw]
theorem cost157_W (H : Hp) : W 212 [.p (.int .i64 n)] H = some (.ret (.p (.int .i64 (6 * dig n + 6))), H) := by
  refine W212_of rfl (by simp) ?_
  have h := fun H => digits153_W n h0 h1 H
  have hd := dig_bd h1
  have hw : IntKind.i64.wrap (6 * dig n) = 6 * dig n := wrap64 (by omega) (by omega)
  have hw2 : IntKind.i64.wrap (6 * dig n + 6) = 6 * dig n + 6 := wrap64 (by omega) (by omega)
  simp [code212, Tryz.f212, h, hw, hw2]
theorem cost158_W (H : Hp) : W 213 [.p (.int .i64 n)] H = some (.ret (.p (.int .i64 n)), H) := by
  have _u0 := h0
  have _u1 := h1
  refine W213_of rfl (by simp) ?_
  simp [code213, Tryz.f213]
theorem cost159_W (H : Hp) : W 214 [.p (.int .i64 n)] H = some (.ret (.p (.int .i64 (n + 32))), H) := by
  refine W214_of rfl (by simp) ?_
  have hw : IntKind.i64.wrap (n + 32) = n + 32 := wrap64 (by omega) (by omega)
  simp [code214, Tryz.f214, hw]
theorem cost160_W (H : Hp) : W 215 [.p (.int .i64 n)] H = some (.ret (.p (.int .i64 (2 * n))), H) := by
  refine W215_of rfl (by simp) ?_
  have hw : IntKind.i64.wrap (2 * n) = 2 * n := wrap64 (by omega) (by omega)
  simp [code215, Tryz.f215, hw]
theorem cost161_W (H : Hp) : W 216 [.p (.int .i64 n)] H = some (.ret (.p (.int .i64 (2 * n + 5))), H) := by
  refine W216_of rfl (by simp) ?_
  have hw : IntKind.i64.wrap (2 * n) = 2 * n := wrap64 (by omega) (by omega)
  have hw2 : IntKind.i64.wrap (2 * n + 5) = 2 * n + 5 := wrap64 (by omega) (by omega)
  simp [code216, Tryz.f216, hw, hw2]
theorem cost162_W (H : Hp) : W 217 [.p (.int .i64 n)] H = some (.ret (.p (.int .i64 (2 * n + 8))), H) := by
  refine W217_of rfl (by simp) ?_
  have hw : IntKind.i64.wrap (2 * n) = 2 * n := wrap64 (by omega) (by omega)
  have hw2 : IntKind.i64.wrap (2 * n + 8) = 2 * n + 8 := wrap64 (by omega) (by omega)
  simp [code217, Tryz.f217, hw, hw2]
theorem cost163_W (H : Hp) : W 218 [.p (.int .i64 n)] H = some (.ret (.p (.int .i64 (2 * n + 8))), H) := by
  refine W218_of rfl (by simp) ?_
  have hw : IntKind.i64.wrap (2 * n) = 2 * n := wrap64 (by omega) (by omega)
  have hw2 : IntKind.i64.wrap (2 * n + 8) = 2 * n + 8 := wrap64 (by omega) (by omega)
  simp [code218, Tryz.f218, hw, hw2]

set_option maxHeartbeats 4000000 in
theorem one91_W (d f : Int) (hd : 1 ≤ d ∧ d ≤ 4) (hf : 1 ≤ f ∧ f ≤ 5) (H : Hp) : W 139 [.p (.int .i64 d), .p (.int .i64 f), .p (.int .i64 n)] H = some (.ret (.p (.int .i64 (single d n f))), H) := by
  refine W139_of rfl (by simp) ?_
  have hc := costs126_W
  have a1 : ∀ i k, cB[i]? = some (cC k) → W 232 [.p (.int .i64 n), .ptr i 0] ⟨cB, []⟩ = some (.ret (.p (.int .i64 k)), ⟨cB, []⟩) := fun i k h => always188_W n k i ⟨cB, []⟩ h
  have b1 := a1 1 2 rfl
  have b2 := a1 2 5 rfl
  have b3 := a1 3 3 rfl
  have b4 := a1 4 2 rfl
  have b5 := a1 5 5 rfl
  have b6 := a1 6 4 rfl
  have b7 := a1 7 1 rfl
  have b8 := a1 8 32 rfl
  have b9 := a1 9 5 rfl
  have g153 := fun H => digits153_W n h0 h1 H
  have g155 := fun H => cost155_W n h0 h1 H
  have g156 := fun H => cost156_W n h0 h1 H
  have g157 := fun H => cost157_W n h0 h1 H
  have g158 := fun H => cost158_W n h0 h1 H
  have g159 := fun H => cost159_W n h0 h1 H
  have g160 := fun H => cost160_W n h0 h1 H
  have g161 := fun H => cost161_W n h0 h1 H
  have g162 := fun H => cost162_W n h0 h1 H
  have g163 := fun H => cost163_W n h0 h1 H
  have w0 : IntKind.i64.wrap 0 = 0 := by decide
  have w1 : IntKind.i64.wrap 1 = 1 := by decide
  have w2 : IntKind.i64.wrap 2 = 2 := by decide
  have w3 : IntKind.i64.wrap 3 = 3 := by decide
  have w4 : IntKind.i64.wrap 4 = 4 := by decide
  have dd : d = 1 ∨ d = 2 ∨ d = 3 ∨ d = 4 := by omega
  have ff' : f = 1 ∨ f = 2 ∨ f = 3 ∨ f = 4 ∨ f = 5 := by omega
  rcases dd with rfl | rfl | rfl | rfl <;> rcases ff' with rfl | rfl | rfl | rfl | rfl <;>
    simp [code139, Tryz.f139, hc, cF, partD, b1, b2, b3, b4, b5, b6, b7, b8, b9, g153, g155, g156, g157, g158, g159, g160, g161, g162, g163, w0, w1, w2, w3, w4, single]
end
end Go.Vi
end

section
/- Vi: layer 11: repr.once, forms. No conditions but those that stand with each. -/
namespace Go.Vi
open Go Go.Lib Go.Proofs
set_option maxRecDepth 100000
attribute [local simp] E_skip E_ret E_exit E_text E_draw E_seq E_cond E_block E_scope E_loop runOps runOp runDraw runVF runV finV gate FlOK wantD exec fin opd look putF norm constD constC fieldAddrD loadD storeD opCall lenD binD isShift intP strP numD indexAddrD indexD D.pd? D.pds? sub capsOf callD argsD argD D.nf unP cellD mkF H00 cD_agg cD_pagg cD_int cD_bool cD_str cD_sl cD_lit cells_encS cells_encU cells_encW cells_encR box_encU box_encW box_encR encU_agg encR_agg encW_agg cells_int one_int buildSliceD elsD splice
attribute [local simp] fnOut retOut resD retsD retD oneD D.noRefs D.noRef alone Hp.cut newRow Hp.live

set_option maxHeartbeats 4000000 in
theorem once61_W {p : RProb} (hp : p.ok = true) {u : RUse} (hu : u ∈ p.uses) {f g : Int} (hf : five f = true) (hg : five g = true) (H : Hp) :
    W 98 [.p (encR p), .p (encU u), .p (.int .i64 f), .p (.int .i64 g)] H = some (.ret (.p (.int .i64 (once p u f g))), H) := by
  refine W98_of rfl (by simp) ?_
  obtain ⟨d1, d6, ha, ha0, hb, hb0, _, _, _⟩ := ok_use hp hu
  have za := size_bd hp u.a.toNat
  have zb := size_bd hp u.b.toNat
  have hf' : 1 ≤ f ∧ f ≤ 5 := by simpa [five] using hf
  have hg' : 1 ≤ g ∧ g ≤ 5 := by simpa [five] using hg
  have h38 := fun H => two38_W u.d H
  have h91 := fun d hd H => one91_W (p.size u.a.toNat) za.1 za.2 d f hd hf' H
  have h91b := fun H => one91_W (p.size u.b.toNat) zb.1 zb.2 3 g (by decide) hg' H
  have ea : p.size u.a.toNat = p.sets[u.a.toNat].size := by simp [RProb.size, List.getD_eq_getElem?_getD, ha]
  have hb1 : u.b.toNat < p.sets.length ∧ 0 ≤ u.b := by
    cases hd : dbl u.d with
    | true => exact hb hd
    | false => rw [hb0 hd]; exact ⟨by simp; omega, by omega⟩
  obtain ⟨hb1, hb2⟩ := hb1
  have eb : p.size u.b.toNat = p.sets[u.b.toNat].size := by simp [RProb.size, List.getD_eq_getElem?_getD, hb1]
  unfold once
  cases hd : dbl u.d with
  | false =>
    have hd4 : 1 ≤ u.d ∧ u.d ≤ 4 := by
      simp only [dbl, Bool.or_eq_false_iff, beq_eq_false_iff_ne] at hd
      omega
    have h91a := fun H => h91 u.d hd4 H
    rw [hd] at h38
    rw [ea] at h91a ⊢
    simp [code98, Tryz.f98, bR, bU, ha, ha0, hb1, hb2, h38, h91a]
  | true =>
    rw [hd] at h38
    have h91a := fun H => h91 2 (by decide) H
    have s1 := single_bd (d := 3) (f := g) zb.1 zb.2
    have s2 := single_bd (d := 2) (f := f) za.1 za.2
    have m0 : 0 ≤ p.size u.b.toNat * single 2 (p.size u.a.toNat) f := Int.mul_nonneg zb.1 s2.1
    have m1 : p.size u.b.toNat * single 2 (p.size u.a.toNat) f ≤ 1024 * 2056 := Int.mul_le_mul zb.2 s2.2 s2.1 (by omega)
    have w1 : IntKind.i64.wrap (p.size u.b.toNat * single 2 (p.size u.a.toNat) f) = p.size u.b.toNat * single 2 (p.size u.a.toNat) f := wrap64 (by omega) (by omega)
    have w2 : IntKind.i64.wrap (single 3 (p.size u.b.toNat) g + p.size u.b.toNat * single 2 (p.size u.a.toNat) f) = single 3 (p.size u.b.toNat) g + p.size u.b.toNat * single 2 (p.size u.a.toNat) f := wrap64 (by omega) (by omega)
    have w3 : IntKind.i64.wrap (p.size u.a.toNat + p.size u.b.toNat) = p.size u.a.toNat + p.size u.b.toNat := wrap64 (by omega) (by omega)
    rw [ea] at h91a w1 w2 w3 ⊢
    rw [eb] at h91b w1 w2 w3 ⊢
    by_cases hfg : f = g
    · by_cases h6 : u.d = 6
      · rw [h6] at h38
        simp [code98, Tryz.f98, bR, bU, ha, ha0, hb1, hb2, h38, hfg, h6]
      · by_cases h2 : g = 2
        · simp [code98, Tryz.f98, bR, bU, ha, ha0, hb1, hb2, h38, hfg, h6, h2]
        · simp [code98, Tryz.f98, bR, bU, ha, ha0, hb1, hb2, h38, hfg, h6, h2, w3]
    · simp [code98, Tryz.f98, bR, bU, ha, ha0, hb1, hb2, h38, h91a, h91b, hfg, w1, w2]

theorem fit_i (l : List Int) : fits 1 (l.map iP) = true := by
  unfold fits
  rw [List.all_eq_true]
  intro x hx
  obtain ⟨n, _, rfl⟩ := List.mem_map.1 hx
  rfl

theorem forms60_W (p : RProb) (hp : p.ok = true) (l : List Int) (hl : l.length = p.sets.length) (i : Int) (h0 : 0 ≤ i) (hi : i.toNat < p.sets.length) (H : Hp) :
    W 97 [.p (encR p), .p (.sl (l.map iP)), .p (.int .i64 i)] H = some (.ret (.p (.sl ((opens p l i.toNat).map iP))), H) := by
  refine W97_of rfl (by simp) ?_
  have hi' : i.toNat < l.length := by omega
  have ef : p.form i.toNat = p.sets[i.toNat].forms := by simp [RProb.form, List.getD_eq_getElem?_getD, hi]
  have h5 : p.sets.length ≤ 5 := by
    simp only [RProb.ok, Bool.and_eq_true, decide_eq_true_eq] at hp
    omega
  unfold opens
  rw [getD_at hi', ef]
  by_cases hz : l[i.toNat] = 0
  · simp [code97, Tryz.f97, bR, h0, hi, hi', hz]
  · have hw : IntKind.i64.wrap (i + 1) = i + 1 := wrap64 (by omega) (by omega)
    have e1 : (i + 1).toNat = i.toNat + 1 := by omega
    have g1 : i ≤ i + 1 := by omega
    have g2 : 0 ≤ i + 1 := by omega
    have g3 : i + 1 ≤ l.length := by omega
    have g4 : i.toNat + 1 ≤ l.length := by omega
    have tk : ((l.map iP).take (i.toNat + 1)).drop i.toNat = [iP l[i.toNat]] := by
      rw [List.drop_take, show i.toNat + 1 - i.toNat = 1 by omega]
      rw [List.drop_eq_getElem_cons (by simpa using hi')]
      simp
    simp [code97, Tryz.f97, bR, h0, hi, hi', hz, hw, sliceD, boundD, e1, g1, g2, g3, g4, tk, fit_i]
end Go.Vi
end

section
/- Vi: layer 11: repr.problem.floor. No conditions but those that stand with each. -/
namespace Go.Vi
open Go Go.Lib Go.Proofs
set_option maxRecDepth 100000
attribute [local simp] E_skip E_ret E_exit E_text E_draw E_seq E_cond E_block E_scope E_loop runOps runOp runDraw runVF runV finV gate FlOK wantD exec fin opd look putF norm constD constC fieldAddrD loadD storeD opCall lenD binD isShift intP strP numD indexAddrD indexD D.pd? D.pds? sub capsOf callD argsD argD D.nf unP cellD mkF H00 cD_agg cD_pagg cD_int cD_bool cD_str cD_sl cD_lit cells_encS cells_encU cells_encW cells_encR box_encU box_encW box_encR encU_agg encR_agg encW_agg cells_int one_int buildSliceD elsD splice
attribute [local simp] fnOut retOut resD retsD retD oneD D.noRefs D.noRef alone Hp.cut newRow Hp.live

section
variable (p : RProb) (l : List Int) (u : RUse) (s : Int) (i : Nat)
def othersB (u : RUse) (x : Int) : List Int := if dbl u.d = true ∧ u.a ≠ u.b then opens p l u.b.toNat else [x]
def fr33o (i : Nat) (s : Int) : Fr := [(1, .p (.sl (l.map iP))), (2, .ptr 0 0), (5, .p (.int .i64 s)), (17, .p (.sl (p.uses.map encU))), (18, .p (.int .i64 p.uses.length)), (19, .p (.int .i64 i))]
def fr33m (A : List Int) (k : Nat) (m : Int) : Fr := [(1, .p (.sl (l.map iP))), (2, .ptr 0 0), (5, .p (.int .i64 s)), (7, .ptr 1 0), (8, .p (.int .i64 m)), (17, .p (.sl (p.uses.map encU))), (18, .p (.int .i64 p.uses.length)), (19, .p (.int .i64 i)), (27, .p (.sl (A.map iP))), (28, .p (.int .i64 A.length)), (29, .p (.int .i64 k))]
def fr33i (A : List Int) (k : Nat) (x : Int) (X : D) (n : Nat) (j : Nat) (m : Int) : Fr := [(1, .p (.sl (l.map iP))), (2, .ptr 0 0), (5, .p (.int .i64 s)), (7, .ptr 1 0), (8, .p (.int .i64 m)), (10, .p (.int .i64 x)), (17, .p (.sl (p.uses.map encU))), (18, .p (.int .i64 p.uses.length)), (19, .p (.int .i64 i)), (27, .p (.sl (A.map iP))), (28, .p (.int .i64 A.length)), (29, .p (.int .i64 k)), (50, X), (51, .p (.int .i64 n)), (52, .p (.int .i64 j))]
def hp33m : Hp := ⟨[bR p, bU u], []⟩

theorem loop33i (hp : p.ok = true) (hu : u ∈ p.uses) {A : List Int} {k : Nat} {x : Int} {X : D} {B : List Int} (hx : five x = true) (hB : ∀ y ∈ B, five y = true) (hl : B.length ≤ 5) (hX : X = .p (.sl (B.map iP)) ∨ (X = .lit false [iP x] ∧ B = [x])) (m : Int) :
    loopO false ⟨0, 0⟩ 59 lp59_2 2 0 (fr33i p l s i A k x X B.length 0 m) (hp33m p u) = some (.exit 4, fr33i p l s i A k x X B.length B.length (minL m (B.map (once p u x))) ++ [(53, .p (.bool false))], hp33m p u) := by
  have e : minL m (B.map (once p u x)) = foldN (fun j m => updM m (once p u x (B.getD j 0))) B.length 0 m := by
    rw [foldN_list (fun y m => updM m (once p u x y)) 0 B m]
    clear hB hl hX
    induction B generalizing m with
    | nil => rfl
    | cons y B ih => simp only [List.map_cons, minL, List.foldl_cons]; rw [ih]; rfl
  rw [e]
  refine for_fold (α := Int) (nB := 2) (nA := 0) hd59_2 B.length (fun j m => fr33i p l s i A k x X B.length j m) (fun _ _ => hp33m p u) (fun j m => updM m (once p u x (B.getD j 0))) (fun _ _ => True) (fun m => (.exit 4, fr33i p l s i A k x X B.length B.length m ++ [(53, .p (.bool false))], hp33m p u)) (fun _ => by simp)
    (fun m _ => by simp [lp59_2, code59, Tryz.f59, fr33i, hp33m]) (fun j m hj _ => ⟨trivial, ?_⟩) (a := m) (F := fr33i p l s i A k x X B.length 0 m) (H := hp33m p u) trivial ?_
  · have hw : IntKind.i64.wrap ((j : Int) + 1) = (j : Int) + 1 := wrap64 (by omega) (by omega)
    have h61 := fun H => once61_W hp hu hx (hB _ (List.getElem_mem hj)) H
    unfold updM
    rw [getD_at hj]
    rcases hX with rfl | ⟨rfl, rfl⟩
    · generalize once p u x B[j] = o at *
      by_cases m0 : m < 0
      · exact ⟨fr33i p l s i A k x (.p (.sl (B.map iP))) B.length (j + 1) o, hp33m p u, by simp [lp59_2, code59, Tryz.f59, fr33i, hp33m, bR, bU, hj, h61, m0, hw], by simp [cutD, fr33i, frNo, hp33m, bR, bU, blkNo, m0]⟩
      · by_cases m1 : o < m
        · exact ⟨fr33i p l s i A k x (.p (.sl (B.map iP))) B.length (j + 1) o, hp33m p u, by simp [lp59_2, code59, Tryz.f59, fr33i, hp33m, bR, bU, hj, h61, m0, m1, hw], by simp [cutD, fr33i, frNo, hp33m, bR, bU, blkNo, m0, m1]⟩
        · exact ⟨fr33i p l s i A k x (.p (.sl (B.map iP))) B.length (j + 1) m, hp33m p u, by simp [lp59_2, code59, Tryz.f59, fr33i, hp33m, bR, bU, hj, h61, m0, m1, hw], by simp [cutD, fr33i, frNo, hp33m, bR, bU, blkNo, m0, m1]⟩
    · obtain rfl : j = 0 := by simpa using hj
      have hw : IntKind.i64.wrap 1 = 1 := by decide
      simp only [List.getElem_cons_zero] at h61 ⊢
      generalize once p u x x = o at *
      by_cases m0 : m < 0
      · exact ⟨fr33i p l s i A k x (.lit false [iP x]) 1 1 o, hp33m p u, by simp [lp59_2, code59, Tryz.f59, fr33i, hp33m, bR, bU, h61, m0, hw], by simp [cutD, fr33i, frNo, hp33m, bR, bU, blkNo, m0]⟩
      · by_cases m1 : o < m
        · exact ⟨fr33i p l s i A k x (.lit false [iP x]) 1 1 o, hp33m p u, by simp [lp59_2, code59, Tryz.f59, fr33i, hp33m, bR, bU, h61, m0, m1, hw], by simp [cutD, fr33i, frNo, hp33m, bR, bU, blkNo, m0, m1]⟩
        · exact ⟨fr33i p l s i A k x (.lit false [iP x]) 1 1 m, hp33m p u, by simp [lp59_2, code59, Tryz.f59, fr33i, hp33m, bR, bU, h61, m0, m1, hw], by simp [cutD, fr33i, frNo, hp33m, bR, bU, blkNo, m0, m1]⟩
  · rcases hX with rfl | ⟨rfl, rfl⟩ <;> simp [cutD, fr33i, frNo, hp33m, bR, bU, blkNo]

theorem loop33m (hp : p.ok = true) (hu : u ∈ p.uses) (hl : Part p l) {A : List Int} (hA : ∀ y ∈ A, five y = true) (hAl : A.length ≤ 5) (m : Int) :
    loopO false ⟨0, 0⟩ 59 lp59_1 2 0 (fr33m p l s i A 0 m) (hp33m p u) = some (.exit 2, fr33m p l s i A A.length (minL m (A.flatMap fun x => (othersB p l u x).map (once p u x))) ++ [(30, .p (.bool false))], hp33m p u) := by
  have e : minL m (A.flatMap fun x => (othersB p l u x).map (once p u x)) = foldN (fun k m => minL m ((othersB p l u (A.getD k 0)).map (once p u (A.getD k 0)))) A.length 0 m := by
    rw [foldN_list (fun x m => minL m ((othersB p l u x).map (once p u x))) 0 A m]
    clear hA hAl
    induction A generalizing m with
    | nil => rfl
    | cons y A ih => simp only [List.flatMap_cons, minL_app, List.foldl_cons]; rw [ih]
  rw [e]
  obtain ⟨_, _, ua, ua0, ub, ub0, _, _, _⟩ := ok_use hp hu
  refine for_fold (α := Int) (nB := 2) (nA := 0) hd59_1 A.length (fun k m => fr33m p l s i A k m) (fun _ _ => hp33m p u) (fun k m => minL m ((othersB p l u (A.getD k 0)).map (once p u (A.getD k 0)))) (fun _ _ => True) (fun m => (.exit 2, fr33m p l s i A A.length m ++ [(30, .p (.bool false))], hp33m p u)) (fun _ => by simp)
    (fun m _ => by simp [lp59_1, code59, Tryz.f59, fr33m, hp33m]) (fun k m hk _ => ⟨trivial, ?_⟩) (a := m) (F := fr33m p l s i A 0 m) (H := hp33m p u) trivial (by simp [cutD, fr33m, frNo, hp33m, bR, bU, blkNo])
  have hw : IntKind.i64.wrap ((k : Int) + 1) = (k : Int) + 1 := wrap64 (by omega) (by omega)
  have h38 := fun H => two38_W u.d H
  have h00 : ((0 : Nat) : Int) = 0 := rfl
  have h11 : ((1 : Nat) : Int) = 1 := rfl
  have hx := hA _ (List.getElem_mem hk)
  rw [getD_at hk]
  have one : ∀ {X : D} {B : List Int}, (∀ y ∈ B, five y = true) → B.length ≤ 5 → (X = .p (.sl (B.map iP)) ∨ (X = .lit false [iP A[k]] ∧ B = [A[k]])) → othersB p l u A[k] = B →
      loopO false ⟨0, 0⟩ 59 lp59_2 2 0 (fr33i p l s i A k A[k] X B.length 0 m) (hp33m p u) = some (.exit 4, fr33i p l s i A k A[k] X B.length B.length (minL m ((othersB p l u A[k]).map (once p u A[k]))) ++ [(53, .p (.bool false))], hp33m p u) := fun h1 h2 h3 h4 => by
    rw [h4]; exact loop33i p l u s i hp hu hx h1 h2 h3 m
  have fin : ∀ r, ∃ F H, F = fr33m p l s i A (k + 1) r ∧ H = hp33m p u ∧ cutD ⟨0, 0⟩ [1, 2, 5, 7, 8, 17, 18, 19, 27, 28, 29] 2 0 F H = some (fr33m p l s i A (k + 1) r, hp33m p u) := fun r => ⟨_, _, rfl, rfl, by simp [cutD, fr33m, frNo, hp33m, bR, bU, blkNo]⟩
  cases hd : dbl u.d with
  | false =>
    rw [hd] at h38
    have ho : othersB p l u A[k] = [A[k]] := by unfold othersB; rw [hd]; simp
    have hI := one (X := .lit false [iP A[k]]) (B := [A[k]]) (by simpa using hx) (by simp) (.inr ⟨rfl, rfl⟩) ho
    generalize minL m ((othersB p l u A[k]).map (once p u A[k])) = r at *
    simp only [lp59_2, code59, Tryz.f59, fr33i, h00, h11, bR, bU, hp33m, List.length_singleton] at hI
    exact ⟨fr33m p l s i A (k + 1) r, hp33m p u, by simp [lp59_1, code59, Tryz.f59, fr33m, hp33m, bR, bU, hk, h38, hI, hw], by simp [cutD, fr33m, frNo, hp33m, bR, bU, blkNo]⟩
  | true =>
    rw [hd] at h38
    by_cases hab : u.a = u.b
    · have hab' : (u.a = u.b) = True := eq_true hab
      have ho : othersB p l u A[k] = [A[k]] := by unfold othersB; simp [hab]
      have hI := one (X := .lit false [iP A[k]]) (B := [A[k]]) (by simpa using hx) (by simp) (.inr ⟨rfl, rfl⟩) ho
      generalize minL m ((othersB p l u A[k]).map (once p u A[k])) = r at *
      simp only [lp59_2, code59, Tryz.f59, fr33i, h00, h11, bR, bU, hp33m, List.length_singleton] at hI
      exact ⟨fr33m p l s i A (k + 1) r, hp33m p u, by simp [lp59_1, code59, Tryz.f59, fr33m, hp33m, bR, bU, hk, h38, hI, hw, hab'], by simp [cutD, fr33m, frNo, hp33m, bR, bU, blkNo]⟩
    · have hab' : (u.a = u.b) = False := eq_false hab
      have ho : othersB p l u A[k] = opens p l u.b.toNat := by unfold othersB; rw [if_pos ⟨hd, hab⟩]
      have h60 := fun H => forms60_W p hp l hl.1 u.b (ub hd).2 (ub hd).1 H
      have hI := one (X := .p (.sl ((opens p l u.b.toNat).map iP))) (B := opens p l u.b.toNat) (opens_five hp hl (ub hd).1) (opens_len hp (ub hd).1) (.inl rfl) ho
      generalize minL m ((othersB p l u A[k]).map (once p u A[k])) = r at *
      simp only [lp59_2, code59, Tryz.f59, fr33i, h00, h11, bR, bU, hp33m] at hI
      exact ⟨fr33m p l s i A (k + 1) r, hp33m p u, by simp [lp59_1, code59, Tryz.f59, fr33m, hp33m, bR, bU, hk, h38, h60, hI, hw, hab'], by simp [cutD, fr33m, frNo, hp33m, bR, bU, blkNo]⟩

theorem lowL_bd (hp : p.ok = true) (hu : u ∈ p.uses) : 0 ≤ minL (-1) (lowL p u l) ∧ minL (-1) (lowL p u l) ≤ 2200000 := by
  have := lowQ_bd hp hu l
  rw [minL_same (fun x hx => low_nonneg hp u l x ((low_same hp hu x).1 hx)) (low_same hp hu)] at this
  exact this

theorem floor33_L (hp : p.ok = true) (hl : Part p l) {args : List D} {A1 : List Arr} {H : Hp} (hargs : argsD false H.A args = some ([.p (encR p), .p (.sl (l.map iP))], A1)) :
    W 59 args H = some (.ret (.p (.int .i64 (floorP p l))), H) := by
  obtain ⟨hf, h5, h30, h10, hfl⟩ := ok_fine hp
  refine W59_lend hargs rfl (by simp) ?_
  have hloop := for_fold (α := Int) (mu := false) (m := ⟨0, 0⟩) (f := 59) (c := lp59_0) (nB := 1) (nA := 0) hd59_0 p.uses.length (fr33o p l) (fun _ _ => stR p)
    (fun i a => a + (p.uses.getD i ⟨0, 0, 0, 0⟩).t * (fun u => minL (-1) (lowL p u l)) (p.uses.getD i ⟨0, 0, 0, 0⟩)) (fun i a => 0 ≤ a ∧ a ≤ 2200000000 * i)
    (fun a => (.exit 0, fr33o p l p.uses.length a ++ [(20, .p (.bool false))], stR p)) (fun _ => by simp) (fun a _ => by simp [lp59_0, code59, Tryz.f59, fr33o, bR]) (fun i a hi ha => by
      have hw : IntKind.i64.wrap ((i : Int) + 1) = (i : Int) + 1 := wrap64 (by omega) (by omega)
      have hu := List.getElem_mem hi
      obtain ⟨t0, t1, ua, ua0, _⟩ := ok_use hp hu
      have h60 := fun H => forms60_W p hp l hl.1 p.uses[i].a ua0 ua H
      have hm := loop33m p l p.uses[i] a i hp hu hl (opens_five hp hl ua) (opens_len hp ua) (-1)
      have hb := lowL_bd p l p.uses[i] hp hu
      have el : ((opens p l p.uses[i].a.toNat).flatMap fun x => (othersB p l p.uses[i] x).map (once p p.uses[i] x)) = lowL p p.uses[i] l := rfl
      rw [el] at hm
      rw [getD_at hi]
      simp only
      generalize minL (-1) (lowL p p.uses[i] l) = o at *
      have m0 : 0 ≤ p.uses[i].t * o := Int.mul_nonneg t0 hb.1
      have m1 : p.uses[i].t * o ≤ 1000 * 2200000 := Int.mul_le_mul t1 hb.2 hb.1 (by omega)
      have w1 : IntKind.i64.wrap (p.uses[i].t * o) = p.uses[i].t * o := wrap64 (by omega) (by omega)
      have w2 : IntKind.i64.wrap (a + p.uses[i].t * o) = a + p.uses[i].t * o := wrap64 (by omega) (by omega)
      have h00 : ((0 : Nat) : Int) = 0 := rfl
      simp only [lp59_1, code59, Tryz.f59, fr33m, h00, bR, bU, hp33m] at hm
      exact ⟨by omega, fr33o p l (i + 1) (a + p.uses[i].t * o), hp33m p p.uses[i], by simp [lp59_0, code59, Tryz.f59, fr33o, bR, bU, hi, h60, hm, w1, w2, hw, hp33m], by simp [cutD, fr33o, frNo, bR, bU, blkNo, hp33m]⟩)
    (a := 0) (F := fr33o p l 0 0) (H := stR p) (by simp) (by simp [cutD, fr33o, frNo, bR, blkNo])
  rw [foldN_sum (fun u => minL (-1) (lowL p u l))] at hloop
  have h00 : ((0 : Nat) : Int) = 0 := rfl
  simp only [lp59_0, code59, Tryz.f59, fr33o, h00, bR, stR] at hloop
  unfold floorP
  simp [code59, Tryz.f59, bR, hloop, lent, D.flat, PD.flat]
end
end Go.Vi
end

section
/- Vi: layer 11: slices.Index, Contains, IndexFunc, ContainsFunc. No conditions but those that stand with each. -/
namespace Go.Vi
open Go Go.Lib Go.Proofs
set_option maxRecDepth 100000
attribute [local simp] E_skip E_ret E_exit E_text E_draw E_seq E_cond E_block E_scope E_loop runOps runOp runDraw runVF runV finV gate FlOK wantD exec fin opd look putF norm constD constC fieldAddrD loadD storeD opCall lenD binD isShift intP strP numD indexAddrD indexD D.pd? D.pds? sub capsOf callD argsD argD D.nf unP cellD mkF H00 cD_agg cD_pagg cD_int cD_bool cD_str cD_sl cD_lit cells_encS cells_encU cells_encW cells_encR box_encU box_encW box_encR encU_agg encR_agg encW_agg cells_int one_int buildSliceD elsD splice
attribute [local simp] fnOut retOut resD retsD retD oneD D.noRefs D.noRef alone Hp.cut newRow Hp.live

theorem ff_spec (p : Nat → Bool) : ∀ (k i : Nat), (List.range' i k).all p = false → i ≤ ff p k i ∧ ff p k i < i + k ∧ p (ff p k i) = false ∧ ∀ j, i ≤ j → j < ff p k i → p j = true
  | 0, i, h => by simp at h
  | k + 1, i, h => by
    simp only [List.range'_succ, List.all_cons] at h
    unfold ff
    cases hp : p i with
    | true =>
      rw [hp, Bool.true_and] at h
      obtain ⟨h1, h2, h3, h4⟩ := ff_spec p k (i + 1) h
      simp only [if_true]
      refine ⟨by omega, by omega, h3, fun j hj hl => ?_⟩
      by_cases e : j = i
      · rw [e]; exact hp
      · exact h4 j (by omega) hl
    | false =>
      simp only [Bool.false_eq_true, if_false]
      exact ⟨by omega, by omega, hp, fun j h1 h2 => by omega⟩

theorem cut_full (m : Mk) (keep : List Tmp) (F : Fr) (H : Hp) : cutD m keep H.B.length H.A.length F H = some (norm keep F, H) := by
  unfold cutD
  have : H.cut H.B.length H.A.length = H := by cases H; simp [Hp.cut]
  rw [this]
  split <;> rfl

/-! ### slices.Index -/
def ixB (l : List Int) (x : Int) (i : Nat) : Bool := !decide (l.getD i 0 = x)
def ixOf (l : List Int) (x : Int) : Int := if l.contains x = true then (ff (ixB l x) l.length 0 : Nat) else -1
theorem ix_all (l : List Int) (x : Int) : (List.range l.length).all (ixB l x) = !l.contains x := all_ne l x
def fr69 (l : List Int) (x : Int) (i : Nat) : Fr := [(0, .p (.sl (l.map iP))), (1, .p (.int .i64 x)), (7, .p (.int .i64 l.length)), (8, .p (.int .i64 i))]
theorem index69_L (l : List Int) (x : Int) (hlen : l.length < 4611686018427387904) {args : List D} {A1 : List Arr} {H : Hp} (hargs : argsD false H.A args = some ([.p (.sl (l.map iP)), .p (.int .i64 x)], A1)) :
    W 99 args H = some (.ret (.p (.int .i64 (ixOf l x))), H) := by
  refine W99_lend hargs rfl (by simp) ?_
  have hloop := for_each (mu := false) (m := ⟨0, 0⟩) (f := 99) (c := lp99_0) (nB := 0) (nA := 0) hd99_0 l.length (fr69 l x) H00 (ixB l x)
    (ex := (.exit 0, fr69 l x l.length ++ [(9, .p (.bool false))], H00)) (fun i => (.ret, [(4, .p (.int .i64 i))], H00)) (by simp) (by simp) (by simp [lp99_0, code99, Tryz.f99, fr69]) (fun i hi => by
      have hw : IntKind.i64.wrap ((i : Int) + 1) = (i : Int) + 1 := wrap64 (by omega) (by omega)
      unfold ixB
      rw [getD_at hi]
      by_cases he : l[i] = x
      · right
        have he' : (x = l[i]) = True := eq_true he.symm
        exact ⟨by simp [he], by simp [lp99_0, code99, Tryz.f99, fr69, hi, he']⟩
      · left
        have he' : (x = l[i]) = False := eq_false (fun e => he e.symm)
        exact ⟨by simp [he], fr69 l x (i + 1), H00, by simp [lp99_0, code99, Tryz.f99, fr69, hi, he', hw], by simp [cutD, fr69, frNo]⟩)
    (F := fr69 l x 0) (H := H00) (by simp [cutD, fr69, frNo])
  rw [ix_all] at hloop
  have h00 : ((0 : Nat) : Int) = 0 := rfl
  simp only [lp99_0, code99, Tryz.f99, fr69, h00, H00] at hloop
  unfold ixOf
  cases hc : l.contains x with
  | true =>
    rw [hc] at hloop
    simp [code99, Tryz.f99, hloop, lent, D.flat, PD.flat]
  | false =>
    rw [hc] at hloop
    simp [code99, Tryz.f99, hloop, lent, D.flat, PD.flat]

theorem contains88_W (l : List Int) (x : Int) (hlen : l.length < 4611686018427387904) (H : Hp) : W 136 [.p (.sl (l.map iP)), .p (.int .i64 x)] H = some (.ret (.p (.bool (l.contains x))), H) := by
  refine W136_of rfl (by simp) ?_
  have h69 := fun H => index69_L l x hlen (args := [.p (.sl (l.map iP)), .p (.int .i64 x)]) (A1 := H.A) (H := H) rfl
  have e : decide (0 ≤ ixOf l x) = l.contains x := by
    unfold ixOf
    cases l.contains x <;> simp
  simp [code136, Tryz.f136, h69, e]

/-! ### slices.IndexFunc, slices.ContainsFunc, of a function with one variable -/
def fr87 (l : List Int) (g k i : Nat) : Fr := [(0, .p (.sl (l.map iP))), (1, .fn g [.ptr k 0]), (7, .p (.int .i64 l.length)), (8, .p (.int .i64 i))]
def qB (l : List Int) (q : Int → Bool) (i : Nat) : Bool := !q (l.getD i 0)
def ixF (l : List Int) (q : Int → Bool) : Int := if l.any q = true then (ff (qB l q) l.length 0 : Nat) else -1
theorem q_all (l : List Int) (q : Int → Bool) : (List.range l.length).all (qB l q) = !l.any q := by
  unfold qB
  rw [range_all (fun x => !q x) 0 l, List.not_any_eq_all_not]

section
variable (l : List Int) (g : Nat) (hg : g < 1000000000) (ho : (hn.ownArg g || hn.ownMut g) = false) (k : Nat) (q : Int → Bool) (hlen : l.length < 4611686018427387904) (B : List Blk) (A : List Arr)
  (hr : ∀ u ∈ l, W g [.p (.int .i64 u), .ptr k 0] ⟨B, A⟩ = some (.ret (.p (.bool (q u))), ⟨B, A⟩))
include hg ho hlen hr
theorem indexf87_W : W 138 [.p (.sl (l.map iP)), .fn g [.ptr k 0]] ⟨B, A⟩ = some (.ret (.p (.int .i64 (ixF l q))), ⟨B, A⟩) := by
  have _u0 := ho
  refine W_ofH Tryz.func138 rfl (by kernel_rfl) rfl rfl rfl rfl (by simp [D.noRef, D.noRefs]) (by rw [Tryz.ntmps138]; simp) (c := code138) ?_
  have hloop := for_each (mu := false) (m := ⟨0, 0⟩) (f := 138) (c := lp138_0) (nB := B.length) (nA := A.length) hd138_0 l.length (fr87 l g k) ⟨B, A⟩ (qB l q)
    (ex := (.exit 0, fr87 l g k l.length ++ [(9, .p (.bool false))], ⟨B, A⟩)) (fun i => (.ret, [(4, .p (.int .i64 i))], ⟨B, A⟩)) (by simp) (by simp) (by simp [lp138_0, code138, Tryz.f138, fr87]) (fun i hi => by
      have hw : IntKind.i64.wrap ((i : Int) + 1) = (i : Int) + 1 := wrap64 (by omega) (by omega)
      have h1 := hr _ (List.getElem_mem hi)
      unfold qB
      rw [getD_at hi]
      cases he : q l[i] with
      | true =>
        right
        rw [he] at h1
        exact ⟨by simp, by simp [lp138_0, code138, Tryz.f138, fr87, hi, h1, hg, ho]⟩
      | false =>
        left
        rw [he] at h1
        exact ⟨by simp, fr87 l g k (i + 1), ⟨B, A⟩, by simp [lp138_0, code138, Tryz.f138, fr87, hi, h1, hg, ho, hw], by rw [show cutD ⟨0, 0⟩ [0, 1, 7, 8] B.length A.length (fr87 l g k (i + 1)) ⟨B, A⟩ = some (norm [0, 1, 7, 8] (fr87 l g k (i + 1)), ⟨B, A⟩) from cut_full _ _ _ ⟨B, A⟩]; rfl⟩)
    (F := fr87 l g k 0) (H := ⟨B, A⟩) (by rw [show cutD ⟨0, 0⟩ [0, 1, 7, 8] B.length A.length (fr87 l g k 0) ⟨B, A⟩ = some (norm [0, 1, 7, 8] (fr87 l g k 0), ⟨B, A⟩) from cut_full _ _ _ ⟨B, A⟩]; rfl)
  rw [q_all] at hloop
  have h00 : ((0 : Nat) : Int) = 0 := rfl
  simp only [lp138_0, code138, Tryz.f138, fr87, h00] at hloop
  have key : evalC Tryz.prog hn ch (hn.mutF 138) ⟨0, 0⟩ W 138 code138 (mkF 0 [.p (.sl (l.map iP)), .fn g [.ptr k 0]]) ⟨B, A⟩ = some (.ret, [(4, .p (.int .i64 (ixF l q)))], ⟨B, A⟩) := by
    show E _ _ _ _ _ _ = _
    unfold ixF
    cases hc : l.any q with
    | true => rw [hc] at hloop; simp [code138, Tryz.f138, hloop]
    | false => rw [hc] at hloop; simp [code138, Tryz.f138, hloop]
  rw [key]
  simp [rs138]

theorem containsf57_W : W 95 [.p (.sl (l.map iP)), .fn g [.ptr k 0]] ⟨B, A⟩ = some (.ret (.p (.bool (l.any q))), ⟨B, A⟩) := by
  refine W_ofH Tryz.func95 rfl (by kernel_rfl) rfl rfl rfl rfl (by simp [D.noRef, D.noRefs]) (by rw [Tryz.ntmps95]; simp) (c := code95) ?_
  have h87 := indexf87_W l g hg ho k q hlen B A hr
  have e : decide (0 ≤ ixF l q) = l.any q := by
    unfold ixF
    cases l.any q <;> simp
  have key : evalC Tryz.prog hn ch (hn.mutF 95) ⟨0, 0⟩ W 95 code95 (mkF 0 [.p (.sl (l.map iP)), .fn g [.ptr k 0]]) ⟨B, A⟩ = some (.ret, [(4, .p (.bool (l.any q)))], ⟨B, A⟩) := by
    show E _ _ _ _ _ _ = _
    simp [code95, Tryz.f95, h87, e]
  rw [key]
  simp [rs95]
end
end Go.Vi
end

section
/- Vi: layer 11: repr.problem.allowed, repr.parted, Cost, Floor. No conditions but those that stand with each. -/
namespace Go.Vi
open Go Go.Lib Go.Proofs
set_option maxRecDepth 100000
attribute [local simp] E_skip E_ret E_exit E_text E_draw E_seq E_cond E_block E_scope E_loop runOps runOp runDraw runVF runV finV gate FlOK wantD exec fin opd look putF norm constD constC fieldAddrD loadD storeD opCall lenD binD isShift intP strP numD indexAddrD indexD D.pd? D.pds? sub capsOf callD argsD argD D.nf unP cellD mkF H00 cD_agg cD_pagg cD_int cD_bool cD_str cD_sl cD_lit cells_encS cells_encU cells_encW cells_encR box_encU box_encW box_encR encU_agg encR_agg encW_agg cells_int one_int buildSliceD elsD splice
attribute [local simp] fnOut retOut resD retsD retD oneD D.noRefs D.noRef alone Hp.cut newRow Hp.live

def bL (l : List Int) : Blk := .cells [.p (.sl (l.map iP))]
/-! ### slices.IndexFunc, slices.ContainsFunc of pairs -/
def fr125 (m : List (Int × Int)) (g k i : Nat) : Fr := [(0, .p (.sl (m.map encW))), (1, .fn g [.ptr k 0]), (7, .p (.int .i64 m.length)), (8, .p (.int .i64 i))]
def qW (m : List (Int × Int)) (q : Int × Int → Bool) (i : Nat) : Bool := !q (m.getD i (0, 0))
def ixW (m : List (Int × Int)) (q : Int × Int → Bool) : Int := if m.any q = true then (ff (qW m q) m.length 0 : Nat) else -1
theorem qw_all (m : List (Int × Int)) (q : Int × Int → Bool) : (List.range m.length).all (qW m q) = !m.any q := by
  unfold qW
  rw [range_all (fun x => !q x) (0, 0) m, List.not_any_eq_all_not]

section
variable (l : List (Int × Int)) (g : Nat) (hg : g < 1000000000) (ho : (hn.ownArg g || hn.ownMut g) = false) (k : Nat) (q : Int × Int → Bool) (hlen : l.length < 4611686018427387904) (B : List Blk) (A : List Arr)
  (hr : ∀ u ∈ l, W g [.p (encW u), .ptr k 0] ⟨B, A⟩ = some (.ret (.p (.bool (q u))), ⟨B, A⟩))
include hg ho hlen hr
theorem indexf125_W : W 93 [.p (.sl (l.map encW)), .fn g [.ptr k 0]] ⟨B, A⟩ = some (.ret (.p (.int .i64 (ixW l q))), ⟨B, A⟩) := by
  have _u0 := ho
  refine W_ofH Tryz.func93 rfl (by kernel_rfl) rfl rfl rfl rfl (by simp [D.noRef, D.noRefs]) (by rw [Tryz.ntmps93]; simp) (c := code93) ?_
  have hloop := for_each (mu := false) (m := ⟨0, 0⟩) (f := 93) (c := lp93_0) (nB := B.length) (nA := A.length) hd93_0 l.length (fr125 l g k) ⟨B, A⟩ (qW l q)
    (ex := (.exit 0, fr125 l g k l.length ++ [(9, .p (.bool false))], ⟨B, A⟩)) (fun i => (.ret, [(4, .p (.int .i64 i))], ⟨B, A⟩)) (by simp) (by simp) (by simp [lp93_0, code93, Tryz.f93, fr125]) (fun i hi => by
      have hw : IntKind.i64.wrap ((i : Int) + 1) = (i : Int) + 1 := wrap64 (by omega) (by omega)
      have h1 := hr _ (List.getElem_mem hi)
      unfold qW
      rw [getD_at hi]
      cases he : q l[i] with
      | true =>
        right
        rw [he] at h1
        exact ⟨by simp, by simp [lp93_0, code93, Tryz.f93, fr125, hi, h1, hg, ho]⟩
      | false =>
        left
        rw [he] at h1
        exact ⟨by simp, fr125 l g k (i + 1), ⟨B, A⟩, by simp [lp93_0, code93, Tryz.f93, fr125, hi, h1, hg, ho, hw], by rw [show cutD ⟨0, 0⟩ [0, 1, 7, 8] B.length A.length (fr125 l g k (i + 1)) ⟨B, A⟩ = some (norm [0, 1, 7, 8] (fr125 l g k (i + 1)), ⟨B, A⟩) from cut_full _ _ _ ⟨B, A⟩]; rfl⟩)
    (F := fr125 l g k 0) (H := ⟨B, A⟩) (by rw [show cutD ⟨0, 0⟩ [0, 1, 7, 8] B.length A.length (fr125 l g k 0) ⟨B, A⟩ = some (norm [0, 1, 7, 8] (fr125 l g k 0), ⟨B, A⟩) from cut_full _ _ _ ⟨B, A⟩]; rfl)
  rw [qw_all] at hloop
  have h00 : ((0 : Nat) : Int) = 0 := rfl
  simp only [lp93_0, code93, Tryz.f93, fr125, h00] at hloop
  have key : evalC Tryz.prog hn ch (hn.mutF 93) ⟨0, 0⟩ W 93 code93 (mkF 0 [.p (.sl (l.map encW)), .fn g [.ptr k 0]]) ⟨B, A⟩ = some (.ret, [(4, .p (.int .i64 (ixW l q)))], ⟨B, A⟩) := by
    show E _ _ _ _ _ _ = _
    unfold ixW
    cases hc : l.any q with
    | true => rw [hc] at hloop; simp [code93, Tryz.f93, hloop]
    | false => rw [hc] at hloop; simp [code93, Tryz.f93, hloop]
  rw [key]
  simp [rs93]

theorem containsf89_W : W 55 [.p (.sl (l.map encW)), .fn g [.ptr k 0]] ⟨B, A⟩ = some (.ret (.p (.bool (l.any q))), ⟨B, A⟩) := by
  refine W_ofH Tryz.func55 rfl (by kernel_rfl) rfl rfl rfl rfl (by simp [D.noRef, D.noRefs]) (by rw [Tryz.ntmps55]; simp) (c := code55) ?_
  have h87 := indexf125_W l g hg ho k q hlen B A hr
  have e : decide (0 ≤ ixW l q) = l.any q := by
    unfold ixW
    cases l.any q <;> simp
  have key : evalC Tryz.prog hn ch (hn.mutF 55) ⟨0, 0⟩ W 55 code55 (mkF 0 [.p (.sl (l.map encW)), .fn g [.ptr k 0]]) ⟨B, A⟩ = some (.ret, [(4, .p (.bool (l.any q)))], ⟨B, A⟩) := by
    show E _ _ _ _ _ _ = _
    simp [code55, Tryz.f55, h87, e]
  rw [key]
  simp [rs55]
end

section
variable (p : RProb) (l : List Int)
theorem apart90_W (x : Int × Int) (a0 : 0 ≤ x.1) (a1 : x.1.toNat < l.length) (b0 : 0 ≤ x.2) (b1 : x.2.toNat < l.length) :
    W 137 [.p (encW x), .ptr 1 0] ⟨[bR p, bL l], []⟩ = some (.ret (.p (.bool (apart (l.getD x.1.toNat 0) (l.getD x.2.toNat 0)))), ⟨[bR p, bL l], []⟩) := by
  refine W_ofH Tryz.func137 rfl (by kernel_rfl) rfl rfl rfl rfl (by simp [D.noRef, D.noRefs]) (by rw [Tryz.ntmps137]; simp) (c := code137) ?_
  rw [getD_at a1, getD_at b1]
  unfold apart
  have key : evalC Tryz.prog hn ch (hn.mutF 137) ⟨0, 0⟩ W 137 code137 (mkF 0 [.p (encW x), .ptr 1 0]) ⟨[bR p, bL l], []⟩ = some (.ret, [(3, .p (.bool (l[x.1.toNat] != 0 && l[x.2.toNat] != 0 && l[x.1.toNat] != l[x.2.toNat])))], ⟨[bR p, bL l, .cells [.p (.int .i64 x.1), .p (.int .i64 x.2)]], []⟩) := by
    show E _ _ _ _ _ _ = _
    by_cases h0 : l[x.1.toNat] = 0
    · simp [code137, Tryz.f137, bR, bL, a0, a1, b0, b1, h0]
    · by_cases h1 : l[x.2.toNat] = 0
      · simp [code137, Tryz.f137, bR, bL, a0, a1, b0, b1, h0, h1]
      · by_cases h2 : l[x.1.toNat] = l[x.2.toNat]
        · have h2' : (l[x.1.toNat] = l[x.2.toNat]) = True := eq_true h2
          have h3 : (l[x.1.toNat] != l[x.2.toNat]) = false := by simp [h2]
          simp [code137, Tryz.f137, bR, bL, a0, a1, b0, b1, h0, h1, h2', h3]
        · have h3 : (l[x.1.toNat] != l[x.2.toNat]) = true := by simp [h2]
          have g0 : (l[x.1.toNat] != 0) = true := by simp [h0]
          have g1 : (l[x.2.toNat] != 0) = true := by simp [h1]
          simp [code137, Tryz.f137, bR, bL, a0, a1, b0, b1, h0, h1, h2, h3, g0, g1]
  rw [key]
  simp [rs137, bR, bL, blkNo]

def fr59 (i : Nat) : Fr := [(2, .ptr 0 0), (3, .ptr 1 0), (7, .p (.sl (l.map iP))), (8, .p (.int .i64 l.length)), (9, .p (.int .i64 i))]
theorem allowed59_L (hp : p.ok = true) (hl : l.length = p.sets.length) {args : List D} {A1 : List Arr} {H : Hp} (hargs : argsD false H.A args = some ([.p (encR p), .p (.sl (l.map iP))], A1)) :
    W 94 args H = some (.ret (.p (.bool (allowed p l))), H) := by
  obtain ⟨hf, h5, h30, h10, hfl⟩ := ok_fine hp
  refine W94_lend hargs rfl (by simp) ?_
  have hA := for_all (mu := false) (m := ⟨0, 0⟩) (f := 94) (c := lp94_0) (nB := 2) (nA := 0) hd94_0 l.length (fr59 l) ⟨[bR p, bL l], []⟩ (fun i => fitsF p i (l.getD i 0))
    (ex := (.exit 0, fr59 l l.length ++ [(10, .p (.bool false))], ⟨[bR p, bL l], []⟩)) (bad := (.ret, [(4, .p (.bool false))], ⟨[bR p, bL l], []⟩)) (by simp) (by simp) (by simp [lp94_0, code94, Tryz.f94, fr59]) (fun i hi => by
      have hi' : i < p.sets.length := by omega
      have hw : IntKind.i64.wrap ((i : Int) + 1) = (i : Int) + 1 := wrap64 (by omega) (by omega)
      have h88 := fun H => contains88_W p.sets[i].forms l[i] (by have := hf.2.2.2 _ (List.getElem_mem hi'); omega) H
      have ef : p.form i = p.sets[i].forms := by simp [RProb.form, List.getD_eq_getElem?_getD, hi']
      rw [getD_at hi]
      unfold fitsF
      rw [ef]
      by_cases h0 : l[i] = 0
      · left
        exact ⟨by simp [h0], fr59 l (i + 1), ⟨[bR p, bL l], []⟩, by simp [lp94_0, code94, Tryz.f94, fr59, bR, bL, hi, hi', h0, hw], by simp [cutD, fr59, frNo, bR, bL, blkNo]⟩
      · cases hc : p.sets[i].forms.contains l[i] with
        | true =>
          rw [hc] at h88
          left
          exact ⟨by simp, fr59 l (i + 1), ⟨[bR p, bL l], []⟩, by simp [lp94_0, code94, Tryz.f94, fr59, bR, bL, hi, hi', h0, h88, hw], by simp [cutD, fr59, frNo, bR, bL, blkNo]⟩
        | false =>
          rw [hc] at h88
          right
          exact ⟨by simp [h0], by simp [lp94_0, code94, Tryz.f94, fr59, bR, bL, hi, hi', h0, h88]⟩)
    (F := fr59 l 0) (H := ⟨[bR p, bL l], []⟩) (by simp [cutD, fr59, frNo, bR, bL, blkNo])
  have h89 := containsf89_W p.same 137 (by decide) rfl 1 (fun x => apart (l.getD x.1.toNat 0) (l.getD x.2.toNat 0)) (by omega) [bR p, bL l] [] (fun u hu => by
    have hu' : pairOK p.sets.length u = true := by
      simp only [RProb.ok, Bool.and_eq_true, List.all_eq_true] at hp
      exact hp.2 u hu
    rw [pair_parts] at hu'
    simp only [Bool.and_eq_true, decide_eq_true_eq] at hu'
    obtain ⟨⟨⟨g1, g2⟩, g3, g4⟩, _⟩ := hu'
    exact apart90_W p l u g1 (by omega) g3 (by omega))
  have h00 : ((0 : Nat) : Int) = 0 := rfl
  simp only [lp94_0, code94, Tryz.f94, fr59, h00, bR, bL] at hA
  simp only [bR, bL] at h89
  unfold allowed
  have e : p.same.all (fun s => !apart (l.getD s.1.toNat 0) (l.getD s.2.toNat 0)) = !p.same.any (fun x => apart (l.getD x.1.toNat 0) (l.getD x.2.toNat 0)) := by rw [List.not_any_eq_all_not]
  rw [e]
  generalize p.same.any (fun x => apart (l.getD x.1.toNat 0) (l.getD x.2.toNat 0)) = b2 at *
  cases b1 : (List.range l.length).all (fun i => fitsF p i (l.getD i 0)) with
  | false => rw [b1] at hA; simp [code94, Tryz.f94, bR, bL, hA, lent, D.flat, PD.flat]
  | true => rw [b1] at hA; simp [code94, Tryz.f94, bR, bL, hA, h89, mkFn, lent, D.flat, PD.flat]
end
end Go.Vi
end
