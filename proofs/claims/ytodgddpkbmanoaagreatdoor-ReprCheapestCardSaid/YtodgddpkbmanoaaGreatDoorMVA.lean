/- It is proved here what functions of the program's layer 11 and of its specification compute; conditions stand with each. The law on the cheapest choice. -/
import Derived.Test.YtodgddpkbmanoaaGreatDoorMZL
import Derived.Test.YtodgddpkbmanoaaGreatDoorMZF
import Derived.Test.YtodgddpkbmanoaaGreatDoorMZA
import Derived.Test.YtodgddpkbmanoaaGreatDoorMRC
set_option linter.unusedVariables false
set_option linter.unusedSimpArgs false

section
/- Representations (layer 11), outright: the table of least costs by set and form; proofs hold for less. Plain Lean, and tables as the evaluator keeps them; no conditions but those that stand with each. -/
namespace Go.Vi
open Go
set_option maxRecDepth 10000

/-! ### Tables by two numbers -/
abbrev Key2 := Int × Int
def encK (k : Key2) : PD := .agg [iP k.1, iP k.2]
def encE (e : Key2 × Int) : PD × PD := (encK e.1, iP e.2)
def fm (k : Key2) : List (Key2 × Int) → Nat → Option (Nat × Int)
  | [], _ => none
  | (k', x) :: r, i => if k = k' then some (i, x) else fm k r (i + 1)
def pm (m : List (Key2 × Int)) (k : Key2) (x : Int) : List (Key2 × Int) :=
  match fm k m 0 with
  | some (i, _) => m.set i (k, x)
  | none => m ++ [(k, x)]
def getm (m : List (Key2 × Int)) (k : Key2) : Option Int := (fm k m 0).map (·.2)

theorem find_enc (k : Key2) : ∀ (m : List (Key2 × Int)) (i : Nat), findM (encK k) (m.map encE) i = some ((fm k m i).map fun x => (x.1, iP x.2))
  | [], i => rfl
  | (k', x) :: r, i => by
    have ih := find_enc k r (i + 1)
    simp only [List.map_cons, encE, encK] at ih ⊢
    simp only [findM, sameK, fm]
    by_cases h : k = k'
    · subst h
      simp [encE]
    · have hne : (k.1 == k'.1 && k.2 == k'.2) = false := by
        rw [Bool.and_eq_false_iff]
        by_cases h1 : k.1 = k'.1
        · refine .inr ?_
          simp only [beq_eq_false_iff_ne, ne_eq]
          intro h2
          exact h (Prod.ext h1 h2)
        · exact .inl (by simpa using h1)
      rw [hne]
      simp only [if_neg h]
      exact ih
theorem put_enc (m : List (Key2 × Int)) (k : Key2) (x : Int) : putM (m.map encE) (encK k) (iP x) ((fm k m 0).map fun y => (y.1, iP y.2)) = (pm m k x).map encE := by
  unfold pm
  cases h : fm k m 0 with
  | none => simp [putM, encE]
  | some y => obtain ⟨i, z⟩ := y; simp [putM, encE, List.map_set]

theorem fm_shift (k : Key2) : ∀ (m : List (Key2 × Int)) (i : Nat), fm k m i = (fm k m 0).map fun x => (x.1 + i, x.2)
  | [], i => rfl
  | (k', x) :: r, i => by
    simp only [fm]
    split
    · simp
    · rw [fm_shift k r (i + 1), fm_shift k r (0 + 1)]
      cases fm k r 0 with
      | none => rfl
      | some y => simp; omega
theorem getm_cons (k k' : Key2) (x : Int) (r : List (Key2 × Int)) : getm ((k', x) :: r) k = if k = k' then some x else getm r k := by
  unfold getm
  simp only [fm]
  split
  · rfl
  · rw [fm_shift k r (0 + 1)]
    cases fm k r 0 <;> rfl
theorem pm_cons (k k' : Key2) (x v : Int) (r : List (Key2 × Int)) : pm ((k', v) :: r) k x = if k = k' then (k, x) :: r else (k', v) :: pm r k x := by
  unfold pm
  simp only [fm]
  by_cases h : k = k'
  · rw [if_pos h, if_pos h]; rfl
  · rw [if_neg h, if_neg h, fm_shift k r (0 + 1)]
    cases fm k r 0 with
    | none => rfl
    | some y => obtain ⟨i, z⟩ := y; rfl
theorem getm_pm (k k2 : Key2) (x : Int) : ∀ (m : List (Key2 × Int)), getm (pm m k x) k2 = if k2 = k then some x else getm m k2
  | [] => by
    show getm [(k, x)] k2 = _
    rw [getm_cons]
  | (k', v) :: r => by
    rw [pm_cons]
    by_cases h : k = k'
    · rw [if_pos h, getm_cons, getm_cons, ← h]
      split <;> rfl
    · rw [if_neg h, getm_cons, getm_cons, getm_pm k k2 x r]
      by_cases h1 : k2 = k'
      · rw [if_pos h1, if_pos h1, if_neg (by rw [h1]; exact fun e => h e.symm)]
      · rw [if_neg h1, if_neg h1]

/-! ### The least of choices, one by one -/
theorem best_snoc (p : RProb) (l : List (List Int)) (c : List Int) : bestOf p (l ++ [c]) = upd p (bestOf p l) c := by
  simp [bestOf, List.foldl_append]
theorem least_snoc (p : RProb) (l : List (List Int)) (c : List Int) : leastN p (l ++ [c]) = some (match leastN p l with | none => total p c | some n => if total p c < n then total p c else n) := by
  unfold leastN
  rw [best_snoc]
  cases bestOf p l with
  | none => rfl
  | some y =>
    obtain ⟨b, n⟩ := y
    simp only [upd, Option.map_some]
    split <;> rfl

/-- Of the choices so far, what costs least with the form of a set; those up to the place q of the last one are counted. -/
def tabOf (p : RProb) (pre : List (List Int)) (c : List Int) (q : Nat) (i : Nat) (f : Int) : Option Int :=
  leastN p ((if i < q then pre ++ [c] else pre).filter fun x => x.getD i 0 == f)
theorem tab_next (p : RProb) (pre : List (List Int)) (c : List Int) (q : Nat) (m : List (Key2 × Int)) {N : Nat} (hqN : q < N) (h : ∀ (i : Nat) (f : Int), i < N → getm m ((i : Nat), f) = tabOf p pre c q i f) (i : Nat) (f : Int) (hiN : i < N) :
    getm (match getm m ((q : Nat), c.getD q 0) with | none => pm m ((q : Nat), c.getD q 0) (total p c) | some n => if total p c < n then pm m ((q : Nat), c.getD q 0) (total p c) else m) ((i : Nat), f) = tabOf p pre c (q + 1) i f := by
  have hq := h q (c.getD q 0) hqN
  have hold : ∀ (i : Nat) (f : Int), ¬ (i = q ∧ f = c.getD q 0) → tabOf p pre c (q + 1) i f = tabOf p pre c q i f := by
    intro i f hne
    unfold tabOf
    by_cases h1 : i = q
    · subst h1
      have hf : ¬ (c.getD i 0 == f) = true := by
        simp only [beq_iff_eq]
        exact fun e => hne ⟨rfl, e.symm⟩
      have hnil : [c].filter (fun x => x.getD i 0 == f) = [] := by
        rw [List.filter_eq_nil_iff]
        intro x hx
        simp only [List.mem_singleton] at hx
        subst hx
        exact hf
      rw [if_pos (by omega), if_neg (by omega), List.filter_append, hnil, List.append_nil]
    · by_cases h2 : i < q
      · rw [if_pos (by omega), if_pos h2]
      · rw [if_neg (by omega), if_neg h2]
  have hnew : tabOf p pre c (q + 1) q (c.getD q 0) = some (match getm m ((q : Nat), c.getD q 0) with | none => total p c | some n => if total p c < n then total p c else n) := by
    rw [hq]
    unfold tabOf
    rw [if_pos (by omega), if_neg (by omega), List.filter_append, List.filter_cons_of_pos (by simp), List.filter_nil]
    exact least_snoc p _ c
  by_cases hk : i = q ∧ f = c.getD q 0
  · obtain ⟨rfl, rfl⟩ := hk
    rw [hnew]
    cases hg : getm m ((i : Nat), c.getD i 0) with
    | none => simp only; rw [getm_pm, if_pos rfl]
    | some n =>
      simp only
      split
      · rw [getm_pm, if_pos rfl]
      · exact hg
  · rw [hold i f hk, ← h i f hiN]
    have hne : ¬ (((i : Nat) : Int), f) = (((q : Nat) : Int), c.getD q 0) := by
      intro e
      simp only [Prod.mk.injEq] at e
      exact hk ⟨by omega, e.2⟩
    cases getm m ((q : Nat), c.getD q 0) with
    | none => simp only; rw [getm_pm, if_neg hne]
    | some n =>
      simp only
      split
      · rw [getm_pm, if_neg hne]
      · rfl
theorem tab_done (p : RProb) (pre : List (List Int)) (c : List Int) (i : Nat) (f : Int) (h : i < c.length) (d : List Int) : tabOf p pre c c.length i f = tabOf p (pre ++ [c]) d 0 i f := by
  unfold tabOf
  rw [if_pos h, if_neg (by omega)]

/-! ### Proofs hold for less -/
theorem tres_less {p : RProb} {cost cost' : Int} (hcc : cost' ≤ cost) {T : List Int} {k s : Nat} {part : List Int}
    (ih : ∀ (at_ : Nat) (f : Int) (next : Nat) (leaf : Int), tre p cost T k at_ (part.set s f) = some (next, leaf) → ∃ leaf', tre p cost' T k at_ (part.set s f) = some (next, leaf') ∧ (leaf < 0 → leaf' < 0)) :
    ∀ (l : List Int) (at_ : Nat) (w w0 : Int) (next : Nat) (leaf : Int), (w < 0 → w0 < 0) → tres p cost T k at_ w s part l = some (next, leaf) → ∃ leaf', tres p cost' T k at_ w0 s part l = some (next, leaf') ∧ (leaf < 0 → leaf' < 0)
  | [], at_, w, w0, next, leaf, hw, h => by
    simp only [tres, Option.some.injEq, Prod.mk.injEq] at h
    obtain ⟨rfl, rfl⟩ := h
    exact ⟨w0, by simp [tres], hw⟩
  | f :: r, at_, w, w0, next, leaf, hw, h => by
    simp only [tres] at h
    cases ht : tre p cost T k at_ (part.set s f) with
    | none => rw [ht] at h; cases h
    | some y =>
      obtain ⟨n1, l1⟩ := y
      rw [ht] at h
      obtain ⟨l2, h2, h3⟩ := ih at_ f n1 l1 ht
      obtain ⟨leaf', h4, h5⟩ := tres_less hcc ih r n1 (if w < 0 then l1 else w) (if w0 < 0 then l2 else w0) next leaf (fun hneg => by
        by_cases h0 : w < 0
        · rw [if_pos h0] at hneg
          rw [if_pos (hw h0)]
          exact h3 hneg
        · rw [if_neg h0] at hneg
          exact absurd hneg h0) h
      exact ⟨leaf', by simp only [tres]; rw [h2]; exact h4, h5⟩
theorem tre_less {p : RProb} {cost cost' : Int} (hcc : cost' ≤ cost) {T : List Int} : ∀ (k at_ : Nat) (part : List Int) (next : Nat) (leaf : Int), tre p cost T k at_ part = some (next, leaf) → ∃ leaf', tre p cost' T k at_ part = some (next, leaf') ∧ (leaf < 0 → leaf' < 0) := by
  intro k
  induction k with
  | zero => intro at_ part next leaf h; simp [tre] at h
  | succ k ih =>
    intro at_ part next leaf h
    simp only [tre] at h ⊢
    cases hs : T[at_]? with
    | none => rw [hs] at h; cases h
    | some s =>
      rw [hs] at h
      simp only at h ⊢
      by_cases h1 : s = -1
      · rw [if_pos h1] at h ⊢
        simp only [Option.some.injEq, Prod.mk.injEq] at h
        obtain ⟨rfl, rfl⟩ := h
        refine ⟨_, rfl, fun hneg => ?_⟩
        split at hneg
        · omega
        · rename_i hl
          rw [if_neg]
          · omega
          · intro hl'
            apply hl
            simp only [leafW, Bool.and_eq_true, decide_eq_true_eq] at hl' ⊢
            exact ⟨hl'.1, by omega⟩
      · rw [if_neg h1] at h ⊢
        by_cases h2 : 0 ≤ s ∧ s < p.sets.length ∧ part.getD s.toNat 0 = 0
        · rw [if_pos h2] at h ⊢
          exact tres_less hcc (fun a f n l hh => ih a _ n l hh) _ _ _ _ _ _ (fun h => h) h
        · rw [if_neg h2] at h
          cases h

theorem accept_less {p : RProb} {cost cost' : Int} (hcc : cost' ≤ cost) {T : List Int} (h : (acceptA p cost T).2 = 0) : (acceptA p cost' T).2 = 0 := by
  unfold acceptA at h ⊢
  by_cases h4 : 4000 < T.length
  · rw [if_pos h4] at h; simp at h
  · rw [if_neg h4] at h ⊢
    by_cases hp : p.ok = true
    · rw [if_pos hp] at h ⊢
      cases ht : tre p cost T (p.sets.length + 1) 0 p.zero with
      | none => rw [ht] at h; simp at h
      | some nl =>
        obtain ⟨next, leaf⟩ := nl
        rw [ht] at h
        obtain ⟨leaf', h1, h2⟩ := tre_less hcc _ _ _ _ _ ht
        rw [h1]
        simp only at h ⊢
        by_cases hn : next < T.length
        · rw [if_pos hn] at h; simp at h
        · rw [if_neg hn] at h ⊢
          by_cases hl : 0 ≤ leaf
          · rw [if_pos hl] at h; simp at h
          · rw [if_neg (by have := h2 (by omega); omega)]
    · rw [if_neg hp] at h; simp at h
theorem accept_len {p : RProb} {cost : Int} {T : List Int} (h : (acceptA p cost T).2 = 0) : T.length ≤ 4000 := by
  unfold acceptA at h
  by_cases h4 : 4000 < T.length
  · rw [if_pos h4] at h; simp at h
  · omega
end Go.Vi
end

section
/- Vi: layer 11: the law ReprCheapest: slices.Equal, the table by set and form. No conditions but those that stand with each. -/
namespace Go.Vi
open Go Go.Lib Go.Proofs
set_option maxRecDepth 100000
attribute [local simp] E_skip E_ret E_exit E_text E_draw E_seq E_cond E_block E_scope E_loop runOps runOp runDraw runVF runV finV gate FlOK wantD exec fin opd look putF norm constD constC fieldAddrD loadD storeD opCall lenD binD isShift intP strP numD indexAddrD indexD D.pd? D.pds? sub capsOf callD argsD argD D.nf unP cellD mkF H00 cD_agg cD_pagg cD_int cD_bool cD_str cD_sl cD_lit cells_encS cells_encU cells_encW cells_encR box_encU box_encW box_encR encU_agg encR_agg encW_agg cells_int one_int buildSliceD elsD splice
attribute [local simp] fnOut retOut resD retsD retD oneD D.noRefs D.noRef alone Hp.cut newRow Hp.live convD cells_bool one_bool one_sl cells_sl

def fr23 (a b : List Int) (i : Nat) : Fr := [(0, .p (.sl (a.map iP))), (1, .p (.sl (b.map iP))), (12, .p (iP a.length)), (13, .p (.int .i64 i))]
theorem equal23_W (a b : List Int) (hl : a.length < 4611686018427387904) (H : Hp) : W 23 [.p (.sl (a.map iP)), .p (.sl (b.map iP))] H = some (.ret (.p (.bool (decide (a = b)))), H) := by
  refine W23_of (by simp) (by simp) ?_
  by_cases he : a.length = b.length
  · have hloop := for_all (mu := false) (m := ⟨0, 0⟩) (f := 23) (c := lp23_0) (nB := 0) (nA := 0) hd23_0 a.length (fr23 a b) H00 (fun i => decide (a.getD i 0 = b.getD i 0))
      (ex := (.exit 0, fr23 a b a.length ++ [(14, .p (.bool false))], H00)) (bad := (.ret, [(4, .p (.bool false))], H00)) (by simp) (by simp) (by simp [lp23_0, code23, Tryz.f23, fr23]) (fun i hi => by
        have hib : i < b.length := by omega
        have hw : IntKind.i64.wrap ((i : Int) + 1) = (i : Int) + 1 := wrap64 (by omega) (by omega)
        rw [getD_at hi, getD_at hib]
        by_cases h : a[i] = b[i]
        · left
          have h' : (a[i] = b[i]) = True := eq_true h
          exact ⟨by simp [h], fr23 a b (i + 1), H00, by simp [lp23_0, code23, Tryz.f23, fr23, hi, hib, h', hw], by simp [cutD, fr23, frNo]⟩
        · right
          have h' : (a[i] = b[i]) = False := eq_false h
          exact ⟨by simp [h], by simp [lp23_0, code23, Tryz.f23, fr23, hi, hib, h']⟩)
      (F := fr23 a b 0) (H := H00) (by simp [cutD, fr23, frNo])
    have e : (List.range a.length).all (fun i => decide (a.getD i 0 = b.getD i 0)) = decide (a = b) := by
      rw [Bool.eq_iff_iff, List.all_eq_true, decide_eq_true_eq]
      constructor
      · intro h
        refine List.ext_getElem he fun i h1 h2 => ?_
        have := h i (List.mem_range.2 h1)
        rw [decide_eq_true_eq, getD_at h1, getD_at h2] at this
        exact this
      · rintro rfl i _; simp
    rw [e] at hloop
    have h00 : ((0 : Nat) : Int) = 0 := rfl
    simp only [lp23_0, code23, Tryz.f23, fr23, h00, H00, he] at hloop
    by_cases hab : a = b
    · have hab' : decide (a = b) = true := by simpa using hab
      rw [hab'] at hloop ⊢
      simp [code23, Tryz.f23, he, hloop]
    · have hab' : decide (a = b) = false := by simpa using hab
      rw [hab'] at hloop ⊢
      simp [code23, Tryz.f23, he, hloop]
  · have hne : ¬ a = b := fun e => he (by rw [e])
    have he' : ¬ (a.length : Int) = b.length := by omega
    have hab' : decide (a = b) = false := by simpa using hne
    rw [hab']
    simp [code23, Tryz.f23, he, he']

theorem ko70 (a b : Int) : keyOK Tryz.prog 70 (encK (a, b)) = true := by
  show keyOK Tryz.prog 70 (.agg [iP a, iP b]) = true
  kernel_rfl
theorem u69 : Tryz.prog.underlying 69 = some (.map 70 3) := by kernel_rfl
theorem look69 (b0 b1 : Blk) (X : List Blk) (A : List Arr) (m : List (Key2 × Int)) (a b : Int) :
    lookupD Tryz.prog ⟨b0 :: b1 :: .mset (m.map encE) :: X, A⟩ 69 (.mp 2) (.agg [.p (iP a), .p (iP b)]) true = some (match getm m (a, b) with | some x => .tup [.p (iP x), .p (.bool true)] | none => .tup [.p (iP 0), .p (.bool false)]) := by
  have hf := find_enc (a, b) m 0
  have hko := ko70 a b
  have hm : mapOf ⟨b0 :: b1 :: .mset (m.map encE) :: X, A⟩ (.mp 2) = some (2, m.map encE) := rfl
  have hp : D.pd? A (.agg [.p (iP a), .p (iP b)]) = some (encK (a, b)) := rfl
  unfold lookupD
  rw [u69, hm]
  simp only [hp, hko, if_true, hf, zz3]
  unfold getm
  cases fm (a, b) m 0 with
  | none => rfl
  | some y => obtain ⟨i, z⟩ := y; rfl
theorem upd69 (b0 b1 : Blk) (X : List Blk) (A : List Arr) (m : List (Key2 × Int)) (a b n : Int) :
    updD Tryz.prog ⟨b0 :: b1 :: .mset (m.map encE) :: X, A⟩ 69 (.mp 2) (.agg [.p (iP a), .p (iP b)]) (.p (iP n)) = some ⟨b0 :: b1 :: .mset ((pm m (a, b) n).map encE) :: X, A⟩ := by
  have hf := find_enc (a, b) m 0
  have hko := ko70 a b
  have hm : mapOf ⟨b0 :: b1 :: .mset (m.map encE) :: X, A⟩ (.mp 2) = some (2, m.map encE) := rfl
  have hp : D.pd? A (.agg [.p (iP a), .p (iP b)]) = some (encK (a, b)) := rfl
  have hv : D.pd? A (.p (iP n)) = some (iP n) := rfl
  unfold updD
  rw [u69, hm]
  simp only [hp, hv, hko, if_true, hf]
  rw [← put_enc]
  rfl

section
variable (y : Yd) (p : RProb) (best : List Int) (cost : Int) (L : List (List Int))
def fdA : Found → D
  | none => .own 0 0
  | some (b, _) => .p (.sl (b.map iP))
def ldA : Found → Int
  | none => 0
  | some (_, n) => n
def hp5 (m : List (Key2 × Int)) : Hp := ⟨[bYd y, bR p, .mset (m.map encE)], [rz62]⟩
def fr5b (acc : Found) (k : Nat) (t : Int) (c : List Int) (q : Nat) : Fr := [(3, .ptr 1 0), (4, .p (.sl (best.map iP))), (5, .p (iP cost)), (10, fdA acc), (11, .p (iP (ldA acc))), (12, .mp 2), (15, .p (iP t)), (70, .p (.sl (L.map encC))), (71, .p (iP L.length)), (72, .p (iP k)), (93, .p (.sl (c.map iP))), (94, .p (iP c.length)), (95, .p (iP q))]
/-- The table after the form of one set. -/
def stepM (m : List (Key2 × Int)) (k : Key2) (t : Int) : List (Key2 × Int) := match getm m k with | none => pm m k t | some n => if t < n then pm m k t else m
theorem round5b (acc : Found) (k : Nat) (t : Int) (c : List Int) (q : Nat) (hq : q < c.length) (hc : c.length ≤ 5) (m : List (Key2 × Int)) :
    ∃ X, E false ⟨0, 0⟩ 5 lp5_1 (fr5b best cost L acc k t c q) (hp5 y p m) = some (.normal, fr5b best cost L acc k t c (q + 1), ⟨[bYd y, bR p, .mset ((stepM m ((q : Nat), c[q]) t).map encE)] ++ X, [rz62]⟩) := by
  have hw : IntKind.i64.wrap ((q : Int) + 1) = (q : Int) + 1 := wrap64 (by omega) (by omega)
  refine ⟨[.cells [.p (iP q), .p (iP c[q])]], ?_⟩
  have hlk := look69 (bYd y) (bR p) [.cells [.p (iP q), .p (iP c[q])]] [rz62] m (q : Nat) c[q]
  have hup := upd69 (bYd y) (bR p) [.cells [.p (iP q), .p (iP c[q])]] [rz62] m (q : Nat) c[q] t
  unfold stepM
  cases hg : getm m ((q : Nat), c[q]) with
  | none =>
    rw [hg] at hlk
    cases acc <;> simp [lp5_1, code5, Tryz.f5, fr5b, fdA, ldA, hp5, hq, hw, buildD, buildD.go, hlk, hup]
  | some n =>
    rw [hg] at hlk
    by_cases hlt : t < n
    · cases acc <;> simp [lp5_1, code5, Tryz.f5, fr5b, fdA, ldA, hp5, hq, hw, buildD, buildD.go, hlk, hup, hlt]
    · cases acc <;> simp [lp5_1, code5, Tryz.f5, fr5b, fdA, ldA, hp5, hq, hw, buildD, buildD.go, hlk, hup, hlt]
end
end Go.Vi
end

section
/- Vi: layer 11: the law ReprCheapest: its loops. No conditions but those that stand with each. -/
namespace Go.Vi
open Go Go.Lib Go.Proofs
set_option maxRecDepth 100000
attribute [local simp] E_skip E_ret E_exit E_text E_draw E_seq E_cond E_block E_scope E_loop runOps runOp runDraw runVF runV finV gate FlOK wantD exec fin opd look putF norm constD constC fieldAddrD loadD storeD opCall lenD binD isShift intP strP numD indexAddrD indexD D.pd? D.pds? sub capsOf callD argsD argD D.nf unP cellD mkF H00 cD_agg cD_pagg cD_int cD_bool cD_str cD_sl cD_lit cells_encS cells_encU cells_encW cells_encR box_encU box_encW box_encR encU_agg encR_agg encW_agg cells_int one_int buildSliceD elsD splice
attribute [local simp] fnOut retOut resD retsD retD oneD D.noRefs D.noRef alone Hp.cut newRow Hp.live convD cells_bool one_bool one_sl cells_sl

section
variable (y : Yd) (p : RProb) (best : List Int) (cost : Int) (L : List (List Int))
theorem cut5 (F : Fr) (keep : List Tmp) (X : List Blk) (Z : List Arr) (m : List (Key2 × Int)) (hF : frNo 3 1 (norm keep F) = true) : cutD ⟨0, 0⟩ keep 3 1 F ⟨[bYd y, bR p, .mset (m.map encE)] ++ X, [rz62] ++ Z⟩ = some (norm keep F, hp5 y p m) := by
  unfold cutD
  rw [if_pos ⟨hF, by simp [bYd, Yd.cs, bR, blkNo]⟩]
  simp [hp5]
theorem fd_no (acc : Found) : D.noRef 3 1 (fdA acc) = true := by
  cases acc with
  | none => rfl
  | some y => obtain ⟨b, n⟩ := y; rfl

theorem loop5b (acc : Found) (k : Nat) (pre : List (List Int)) (c : List Int) (hc : c.length ≤ 5) (m : List (Key2 × Int)) (h : ∀ (i : Nat) (f : Int), i < c.length → getm m ((i : Nat), f) = tabOf p pre c 0 i f) :
    ∃ m', loopO false ⟨0, 0⟩ 5 lp5_1 3 1 (fr5b best cost L acc k (total p c) c 0) (hp5 y p m) = some (.exit 2, fr5b best cost L acc k (total p c) c c.length ++ [(96, .p (.bool false))], hp5 y p m') ∧ ∀ (i : Nat) (f : Int), i < c.length → getm m' ((i : Nat), f) = tabOf p pre c c.length i f := by
  obtain ⟨o, h1, m', h2, h3⟩ := for_inv (mu := false) (m := ⟨0, 0⟩) (f := 5) (c := lp5_1) (nB := 3) (nA := 1) hd5_1 c.length
    (fun q F1 H1 => ∃ m, F1 = fr5b best cost L acc k (total p c) c q ∧ H1 = hp5 y p m ∧ ∀ (i : Nat) (f : Int), i < c.length → getm m ((i : Nat), f) = tabOf p pre c q i f)
    (fun o => ∃ m', o = (.exit 2, fr5b best cost L acc k (total p c) c c.length ++ [(96, .p (.bool false))], hp5 y p m') ∧ ∀ (i : Nat) (f : Int), i < c.length → getm m' ((i : Nat), f) = tabOf p pre c c.length i f)
    (fun F1 H1 ⟨m, hf, hh, ht⟩ => by
      subst hf; subst hh
      refine ⟨_, ?_, by simp, m, rfl, ht⟩
      simp [lp5_1, code5, Tryz.f5, fr5b])
    (fun q F1 H1 hq ⟨m, hf, hh, ht⟩ => by
      subst hf; subst hh
      obtain ⟨X, r1⟩ := round5b y p best cost L acc k (total p c) c q hq hc m
      refine ⟨_, _, r1, _, _, cut5 y p _ _ X [] _ (by simp [frNo, fr5b, fd_no]), _, rfl, rfl, fun i f hi => ?_⟩
      have := tab_next p pre c q m hq ht i f hi
      rw [getD_at hq] at this
      exact this)
    (F := fr5b best cost L acc k (total p c) c 0) (H := hp5 y p m) (F0 := fr5b best cost L acc k (total p c) c 0) (H0 := hp5 y p m) (cut_full ⟨0, 0⟩ _ _ (hp5 y p m)) ⟨m, rfl, rfl, h⟩
  exact ⟨m', by rw [h1, h2], h3⟩

def fr5a (acc : Found) (k : Nat) : Fr := [(3, .ptr 1 0), (4, .p (.sl (best.map iP))), (5, .p (iP cost)), (10, fdA acc), (11, .p (iP (ldA acc))), (12, .mp 2), (70, .p (.sl (L.map encC))), (71, .p (iP L.length)), (72, .p (iP k))]
theorem round5a (hp : p.ok = true) (h1n : 1 ≤ p.sets.length) (k : Nat) (hk : k < L.length) (hL : ∀ c ∈ L, c ∈ choR p p.sets []) (hLl : L.length ≤ 100000) (acc : Found) (hacc : ∀ b n, acc = some (b, n) → b ≠ []) (pre : List (List Int)) (m : List (Key2 × Int))
    (h : ∀ (i : Nat) (f : Int), i < p.sets.length → getm m ((i : Nat), f) = tabOf p pre L[k] 0 i f) :
    ∃ m', E false ⟨0, 0⟩ 5 lp5_0 (fr5a best cost L acc k) (hp5 y p m) = some (.normal, fr5a best cost L (upd p acc L[k]) (k + 1), hp5 y p m') ∧ ∀ (i : Nat) (f : Int), i < p.sets.length → getm m' ((i : Nat), f) = tabOf p (pre ++ [L[k]]) [] 0 i f := by
  obtain ⟨g1, g2, g3, g4, g5⟩ := cho_facts hp (hL _ (List.getElem_mem hk))
  obtain ⟨hpf, h5, _⟩ := ok_fine hp
  have hw : IntKind.i64.wrap ((k : Int) + 1) = (k : Int) + 1 := wrap64 (by omega) (by omega)
  have h19 := fun H => cost10_W p L[k] hpf (by rw [g1.1]; omega) H
  simp only [g3, g5, if_true] at h19
  obtain ⟨m', hl, ht⟩ := loop5b y p best cost L (upd p acc L[k]) k pre L[k] (by rw [g1.1]; omega) m (fun i f hi => h i f (by rw [← g1.1]; exact hi))
  refine ⟨m', ?_, fun i f hi => by rw [ht i f (by rw [g1.1]; exact hi)]; exact tab_done p pre L[k] i f (by rw [g1.1]; exact hi) []⟩
  have h00 : ((0 : Nat) : Int) = 0 := rfl
  simp only [lp5_1, code5, Tryz.f5, fr5b, hp5, h00] at hl
  generalize hc : L[k] = c at *
  cases acc with
  | none =>
    simp only [upd, fdA, ldA] at hl ⊢
    simp [lp5_0, code5, Tryz.f5, fr5a, hp5, fdA, ldA, bYd, Yd.cs, bR] at hl ⊢
    simp [hk, hc, encC, h19, isNil, nilD, hl, hw]
    done
  | some bn =>
    obtain ⟨b, n⟩ := bn
    have hb := hacc b n rfl
    cases b with
    | nil => exact absurd rfl hb
    | cons x r =>
      by_cases hlt : total p c < n
      · simp only [upd, hlt, if_true, fdA, ldA] at hl ⊢
        simp [lp5_0, code5, Tryz.f5, fr5a, hp5, fdA, ldA, bYd, Yd.cs, bR] at hl ⊢
        simp [hk, hc, encC, h19, isNil, nilD, hl, hw, hlt]
        done
      · simp only [upd, hlt, if_false, fdA, ldA] at hl ⊢
        simp [lp5_0, code5, Tryz.f5, fr5a, hp5, fdA, ldA, bYd, Yd.cs, bR] at hl ⊢
        simp [hk, hc, encC, h19, isNil, nilD, hl, hw, hlt]
        done
end
end Go.Vi
end

section
/- Vi: layer 11: the law ReprCheapest: its loops, joined. No conditions but those that stand with each. -/
namespace Go.Vi
open Go Go.Lib Go.Proofs
set_option maxRecDepth 100000
attribute [local simp] E_skip E_ret E_exit E_text E_draw E_seq E_cond E_block E_scope E_loop runOps runOp runDraw runVF runV finV gate FlOK wantD exec fin opd look putF norm constD constC fieldAddrD loadD storeD opCall lenD binD isShift intP strP numD indexAddrD indexD D.pd? D.pds? sub capsOf callD argsD argD D.nf unP cellD mkF H00 cD_agg cD_pagg cD_int cD_bool cD_str cD_sl cD_lit cells_encS cells_encU cells_encW cells_encR box_encU box_encW box_encR encU_agg encR_agg encW_agg cells_int one_int buildSliceD elsD splice
attribute [local simp] fnOut retOut resD retsD retD oneD D.noRefs D.noRef alone Hp.cut newRow Hp.live convD cells_bool one_bool one_sl cells_sl


section
variable (y : Yd) (p : RProb) (best : List Int) (cost : Int) (L : List (List Int))
theorem best_ne (hp : p.ok = true) (h1n : 1 ≤ p.sets.length) {l : List (List Int)} (hL : ∀ c ∈ l, c ∈ choR p p.sets []) {b : List Int} {n : Int} (h : bestOf p l = some (b, n)) : b ≠ [] := by
  rcases best_fold l none h with h1 | h1
  · have := (cho_facts hp (hL b h1.1)).1.1
    rintro rfl
    simp at this
    omega
  · cases h1

theorem loop5a (hp : p.ok = true) (h1n : 1 ≤ p.sets.length) (hL : ∀ c ∈ L, c ∈ choR p p.sets []) (hLl : L.length ≤ 100000) :
    ∃ m, loopO false ⟨0, 0⟩ 5 lp5_0 3 1 (fr5a best cost L none 0) (hp5 y p []) = some (.exit 0, fr5a best cost L (bestOf p L) L.length ++ [(73, .p (.bool false))], hp5 y p m) ∧ ∀ (i : Nat) (f : Int), i < p.sets.length → getm m ((i : Nat), f) = leastN p (L.filter fun x => x.getD i 0 == f) := by
  obtain ⟨o, h1, m', h2, h3⟩ := for_inv (mu := false) (m := ⟨0, 0⟩) (f := 5) (c := lp5_0) (nB := 3) (nA := 1) hd5_0 L.length
    (fun k F1 H1 => ∃ m, F1 = fr5a best cost L (bestOf p (L.take k)) k ∧ H1 = hp5 y p m ∧ ∀ (i : Nat) (f : Int), i < p.sets.length → getm m ((i : Nat), f) = leastN p ((L.take k).filter fun x => x.getD i 0 == f))
    (fun o => ∃ m', o = (.exit 0, fr5a best cost L (bestOf p L) L.length ++ [(73, .p (.bool false))], hp5 y p m') ∧ ∀ (i : Nat) (f : Int), i < p.sets.length → getm m' ((i : Nat), f) = leastN p (L.filter fun x => x.getD i 0 == f))
    (fun F1 H1 ⟨m, hf, hh, ht⟩ => by
      subst hf; subst hh
      rw [List.take_length] at ht ⊢
      refine ⟨_, ?_, by simp, m, rfl, ht⟩
      simp [lp5_0, code5, Tryz.f5, fr5a])
    (fun k F1 H1 hk ⟨m, hf, hh, ht⟩ => by
      subst hf; subst hh
      obtain ⟨m', r1, r2⟩ := round5a y p best cost L hp h1n k hk hL hLl (bestOf p (L.take k)) (fun b n h => best_ne p hp h1n (fun c hc => hL c (List.mem_of_mem_take hc)) h) (L.take k) m (fun i f hi => by rw [ht i f hi]; simp [tabOf])
      have et : L.take (k + 1) = L.take k ++ [L[k]] := by rw [List.take_add_one, List.getElem?_eq_getElem hk]; rfl
      refine ⟨_, _, r1, _, _, cut5 y p _ _ [] [] _ (by simp [frNo, fr5a, fd_no]), _, ?_, rfl, fun i f hi => ?_⟩
      · rw [et, best_snoc]; rfl
      · rw [r2 i f hi, et]; simp [tabOf])
    (F := fr5a best cost L none 0) (H := hp5 y p []) (F0 := fr5a best cost L none 0) (H0 := hp5 y p []) (cut_full ⟨0, 0⟩ _ _ (hp5 y p [])) ⟨[], rfl, rfl, fun i f _ => by simp [leastN, bestOf]; rfl⟩
  exact ⟨m', by rw [h1, h2], h3⟩

def fr5d (i : Nat) (f : Int) : Fr := [(3, .ptr 1 0), (5, .p (iP cost)), (12, .mp 2), (22, .p (iP i)), (23, .p (iP f)), (132, .p (iP p.sets.length)), (133, .p (iP i))]
def fr5c (i : Nat) : Fr := [(3, .ptr 1 0), (5, .p (iP cost)), (12, .mp 2), (132, .p (iP p.sets.length)), (133, .p (iP i))]
variable (m : List (Key2 × Int)) (hm : ∀ (i : Nat) (f : Int), i < p.sets.length → getm m ((i : Nat), f) = (leastR p i f).map (·.2))
include hm
theorem round5d (hp : p.ok = true) (i : Nat) (hi : i < p.sets.length) (f : Int) (f0 : 1 ≤ f) (f5 : f ≤ 5) : E false ⟨0, 0⟩ 5 lp5_3 (fr5d p cost i f) (hp5 y p m) = some (.normal, fr5d p cost i (f + 1), hp5 y p m) := by
  obtain ⟨hpf, h5, _⟩ := ok_fine hp
  have hw : IntKind.i64.wrap (f + 1) = f + 1 := wrap64 (by omega) (by omega)
  have h24 := fun H => least18_W p i f hpf H
  have hfive : five f = true := by
    have : f = 1 ∨ f = 2 ∨ f = 3 ∨ f = 4 ∨ f = 5 := by omega
    rcases this with rfl | rfl | rfl | rfl | rfl <;> rfl
  have hlk := look69 (bYd y) (bR p) [] [rz62] m (i : Nat) f
  rw [hm i f hi] at hlk
  unfold leastA at h24
  simp only [if_pos (show p.ok = true ∧ 0 ≤ (i : Int) ∧ (i : Int) < p.sets.length ∧ five f = true from ⟨hp, by omega, by omega, hfive⟩), Int.toNat_natCast] at h24
  cases hr : leastR p i f with
  | none =>
    rw [hr] at h24 hlk
    simp only [Option.map_none] at hlk
    simp [lp5_3, code5, Tryz.f5, fr5d, hp5, f5, bR, h24, buildD, buildD.go] at hlk ⊢
    simp [hlk, hw]
    done
  | some bn =>
    obtain ⟨b, n⟩ := bn
    rw [hr] at h24 hlk
    simp only [Option.map_some] at hlk
    simp [lp5_3, code5, Tryz.f5, fr5d, hp5, f5, bR, h24, buildD, buildD.go] at hlk ⊢
    simp [hlk, hw]
    done
end
end Go.Vi
end

section
/- Vi: layer 11: the law ReprCheapest answers true. No conditions but those that stand with it. -/
namespace Go.Vi
open Go Go.Lib Go.Proofs
set_option maxRecDepth 100000
attribute [local simp] E_skip E_ret E_exit E_text E_draw E_seq E_cond E_block E_scope E_loop runOps runOp runDraw runVF runV finV gate FlOK wantD exec fin opd look putF norm constD constC fieldAddrD loadD storeD opCall lenD binD isShift intP strP numD indexAddrD indexD D.pd? D.pds? sub capsOf callD argsD argD D.nf unP cellD mkF H00 cD_agg cD_pagg cD_int cD_bool cD_str cD_sl cD_lit cells_encS cells_encU cells_encW cells_encR box_encU box_encW box_encR encU_agg encR_agg encW_agg cells_int one_int buildSliceD elsD splice
attribute [local simp] fnOut retOut resD retsD retD oneD D.noRefs D.noRef alone Hp.cut newRow Hp.live convD cells_bool one_bool one_sl cells_sl



section
variable (y : Yd) (p : RProb) (cost : Int) (m : List (Key2 × Int)) (hm : ∀ (i : Nat) (f : Int), i < p.sets.length → getm m ((i : Nat), f) = (leastR p i f).map (·.2))
include hm
theorem loop5d (hp : p.ok = true) (i : Nat) (hi : i < p.sets.length) : loopO false ⟨0, 0⟩ 5 lp5_3 3 1 (fr5d p cost i 1) (hp5 y p m) = some (.exit 6, fr5d p cost i 6 ++ [(137, .p (.bool false))], hp5 y p m) := by
  obtain ⟨o, h1, h2⟩ := for_inv (mu := false) (m := ⟨0, 0⟩) (f := 5) (c := lp5_3) (nB := 3) (nA := 1) hd5_3 5
    (fun k F1 H1 => F1 = fr5d p cost i (k + 1) ∧ H1 = hp5 y p m)
    (fun o => o = (.exit 6, fr5d p cost i 6 ++ [(137, .p (.bool false))], hp5 y p m))
    (fun F1 H1 ⟨hf, hh⟩ => by
      subst hf; subst hh
      refine ⟨(.exit 6, fr5d p cost i 6 ++ [(137, .p (.bool false))], hp5 y p m), ?_, by simp, rfl⟩
      simp [lp5_3, code5, Tryz.f5, fr5d])
    (fun k F1 H1 hk ⟨hf, hh⟩ => by
      subst hf; subst hh
      exact ⟨_, _, round5d y p cost m hm hp i hi (k + 1) (by omega) (by omega), _, _, cut5 y p _ _ [] [] _ (by simp [frNo, fr5d]), rfl, rfl⟩)
    (F := fr5d p cost i 1) (H := hp5 y p m) (F0 := fr5d p cost i 1) (H0 := hp5 y p m) (cut_full ⟨0, 0⟩ _ _ (hp5 y p m)) ⟨rfl, rfl⟩
  rw [h1, h2]
theorem round5c (hp : p.ok = true) (i : Nat) (hi : i < p.sets.length) : E false ⟨0, 0⟩ 5 lp5_2 (fr5c p cost i) (hp5 y p m) = some (.normal, fr5c p cost (i + 1), hp5 y p m) := by
  obtain ⟨hpf, h5, _⟩ := ok_fine hp
  have hw : IntKind.i64.wrap ((i : Int) + 1) = (i : Int) + 1 := wrap64 (by omega) (by omega)
  have hl := loop5d y p cost m hm hp i hi
  simp only [lp5_3, code5, Tryz.f5, fr5d, hp5] at hl
  simp [lp5_2, code5, Tryz.f5, fr5c, hp5, hi, hl, hw]
theorem loop5c (hp : p.ok = true) : loopO false ⟨0, 0⟩ 5 lp5_2 3 1 (fr5c p cost 0) (hp5 y p m) = some (.exit 4, fr5c p cost p.sets.length ++ [(134, .p (.bool false))], hp5 y p m) := by
  obtain ⟨o, h1, h2⟩ := for_inv (mu := false) (m := ⟨0, 0⟩) (f := 5) (c := lp5_2) (nB := 3) (nA := 1) hd5_2 p.sets.length
    (fun k F1 H1 => F1 = fr5c p cost k ∧ H1 = hp5 y p m)
    (fun o => o = (.exit 4, fr5c p cost p.sets.length ++ [(134, .p (.bool false))], hp5 y p m))
    (fun F1 H1 ⟨hf, hh⟩ => by
      subst hf; subst hh
      refine ⟨_, ?_, by simp, rfl⟩
      simp [lp5_2, code5, Tryz.f5, fr5c])
    (fun k F1 H1 hk ⟨hf, hh⟩ => by
      subst hf; subst hh
      exact ⟨_, _, round5c y p cost m hm hp k hk, _, _, cut5 y p _ _ [] [] _ (by simp [frNo, fr5c]), rfl, rfl⟩)
    (F := fr5c p cost 0) (H := hp5 y p m) (F0 := fr5c p cost 0) (H0 := hp5 y p m) (cut_full ⟨0, 0⟩ _ _ (hp5 y p m)) ⟨rfl, rfl⟩
  rw [h1, h2]
end

set_option maxHeartbeats 4000000 in
theorem law5_W (y : Yd) (hy : y.ok) (H : Hp) : W 5 [.p (.agg y.cs)] H = some (.ret (.p (.bool true)), H) := by
  refine W5_of (by simp [Yd.cs]) (by simp) ?_
  obtain ⟨p, hp, h1, hn4, h13⟩ := made13_W y hy
  obtain ⟨hpf, h5, h30, h10, hfl⟩ := ok_fine hp
  simp only [Yd.cs] at h13
  have h00 : ((0 : Nat) : Int) = 0 := rfl
  have h15 := fun H => best16_W p hpf H
  have h16 := fun H => all16_W p hp h1 H
  have h21 := fun H => prove21_W p hpf H
  have h22 := fun H => check14_W p hpf H
  have h8 := fun H => works9_W H
  rw [if_pos hp] at h22
  by_cases hL : choR p p.sets [] = []
  · have hb : bestA p = ([], 0, 5) := by
      unfold bestA bestR
      rw [if_pos hp, hL]; rfl
    have hpr : proveA p = ([], 5) := by unfold proveA; rw [hb]; rfl
    rw [hb] at h15
    rw [hpr] at h21
    rw [hL] at h16
    simp only [List.map_nil] at h15 h16 h21
    simp [code5, Tryz.f5, Yd.cs, h13, h15, h16, h21, h8]
  · obtain ⟨b, n, hbr⟩ : ∃ b n, bestR p = some (b, n) := by
      rcases leastN_spec p (choR p p.sets []) with ⟨e, _⟩ | ⟨b, m, _, e, _⟩
      · exact absurd e hL
      · exact ⟨b, m, e⟩
    have hb : bestA p = (b, n, 0) := by unfold bestA; rw [if_pos hp, hbr]
    have hpr : proveA p = (grow p n p.sets.length p.zero 0, 0) := by unfold proveA; rw [hb]; rfl
    rw [hb] at h15
    rw [hpr] at h21
    obtain ⟨n0, n1⟩ := best_bound hp hbr
    obtain ⟨a0, a1⟩ := accept_grow hp hbr
    have hT : (acceptA p n (grow p n p.sets.length p.zero 0)).2 = 0 := by rw [a0]
    have a3 := accept_less (cost' := n - 3) (by omega) hT
    have a4 := accept_len hT
    generalize grow p n p.sets.length p.zero 0 = T at *
    have w1 : IntKind.i64.wrap (n + 1) = n + 1 := wrap64 (by omega) (by omega)
    have w3 : IntKind.i64.wrap (n - 3) = n - 3 := wrap64 (by omega) (by omega)
    have c0 := fun H => accept23_W p hpf n T H
    have c1 := fun H => accept23_W p hpf (n + 1) T H
    have c3 := fun H => accept23_W p hpf (n - 3) T H
    rw [hT] at c0
    rw [a1] at c1
    rw [a3] at c3
    have hT4 : (T.length : Int) ≤ 4000 := by omega
    have hLl : (choR p p.sets []).length ≤ 100000 := by
      rw [← all_choices hp]
      have : ∀ (l : List RSet) (Cs : List (List Int)), (∀ s ∈ l, s.forms.length ≤ 5) → (l.foldl stepL Cs).length ≤ 5 ^ l.length * Cs.length := by
        intro l
        induction l with
        | nil => intro Cs _; simp
        | cons s l ih =>
          intro Cs h
          have h1 := ih (stepL Cs s) fun t ht => h t (by simp [ht])
          have h2 := step_many (Cs := Cs) (h s (by simp))
          simp only [List.foldl_cons, List.length_cons]
          refine Nat.le_trans h1 (Nat.le_trans (Nat.mul_le_mul_left _ h2) ?_)
          rw [Nat.pow_succ, Nat.mul_assoc]
          exact Nat.le_refl _
      have h2 := this p.sets [[]] hfl
      have h3 : 5 ^ p.sets.length ≤ 5 ^ 5 := Nat.pow_le_pow_right (by omega) h5
      refine Nat.le_trans (List.length_filter_le _ _) (Nat.le_trans h2 ?_)
      simp only [List.length_singleton, Nat.mul_one]
      omega
    have hbl : b.length < 4611686018427387904 := by
      have := (cho_facts hp (best_some hp hbr).1).1.1
      omega
    have hne2 : ¬ (choR p p.sets []).map encC = [] := by simpa using hL
    have hlen0 : ¬ ((choR p p.sets []).length : Int) = 0 := by
      intro h
      exact hL (List.length_eq_zero_iff.1 (by omega))
    obtain ⟨m, l0, hm⟩ := loop5a y p b n (choR p p.sets []) hp h1 (fun c hc => hc) hLl
    have l2 := loop5c y p n m hm hp
    have h23 := fun H => equal23_W b b hbl H
    simp only [decide_true] at h23
    have hbe : bestOf p (choR p p.sets []) = some (b, n) := hbr
    rw [hbe] at l0
    simp only [lp5_0, code5, Tryz.f5, fr5a, hp5, fdA, ldA, bYd, Yd.cs, bR, h00, List.map_cons, List.map_nil] at l0
    simp only [lp5_2, code5, Tryz.f5, fr5c, hp5, bYd, Yd.cs, bR, h00, List.map_cons, List.map_nil] at l2
    simp [code5, Tryz.f5, Yd.cs, h13, h15, h16, h21, h22, h8, hL, hlen0, l0, l2, h23, w1, w3, c0, c1, c3, hT4]
    done
end Go.Vi
end
