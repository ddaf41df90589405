/- It is proved here what functions of the program's layer 5 and of its specification compute; conditions stand with each. The order of kinds. -/
import Derived.Test.YtjkpdlloccnilaaGreatDoorMNA
set_option linter.unusedVariables false
set_option linter.unusedSimpArgs false

section
/- layer 5: the order of kinds, plain. No conditions but those that stand with each. -/
namespace Go.Vi
open Go Go.Lib Go.Proofs
set_option maxRecDepth 100000
attribute [local simp] E_skip E_ret E_exit E_text E_draw E_seq E_cond E_block E_scope E_loop runOps runOp drawR slotsOf Hp.kept_zero runDraw runVF runX runV finV gate FlOK FlOK0 wantD exec fin opd look putF norm constD constC fieldAddrD loadD storeD opCall lenD binD isShift intP strP numD indexAddrD indexD D.pd? D.pds? sub capsOf callD argsD argD D.nf unP cellD mkF H00 cD_agg cD_pagg cD_int cD_bool cD_str cD_sl cD_lit cells_int
attribute [local simp] fnOut retOut resD retsD retD oneD D.noRefs D.noRef alone Hp.cut
attribute [local simp] cells_encK encK_agg box_encK cells_enc enc_agg box_enc one_int one_str one_sl one_agg cD_own cD_ptr

/-- What the form of a kind as defined says. -/
theorem forms {k : Kd} (hs : k.shaped = true) :
    ((k.f = 1 ∨ k.f = 3 ∨ k.f = 4) ∧ k.lo = 0 ∧ k.hi = 0 ∧ k.mo = 0 ∧ k.ps = []) ∨ (k.f = 2 ∧ -1000000000 ≤ k.lo ∧ k.lo ≤ k.hi ∧ k.hi ≤ 1000000000 ∧ k.mo = 0 ∧ k.ps = []) ∨
    (k.f = 5 ∧ k.lo = 0 ∧ k.hi = 0 ∧ k.mo = 0 ∧ 2 ≤ k.ps.length ∧ k.ps.length ≤ 6) ∨ (k.f = 6 ∧ k.lo = 0 ∧ k.hi = 0 ∧ 0 ≤ k.mo ∧ k.mo ≤ 199 ∧ ∃ a, k.ps = [a]) := by
  obtain ⟨f, lo, hi, mo, ps⟩ := k
  rw [shapedK_mk] at hs
  exact own_cases hs.2
theorem mo_pos {k : Kd} (hs : k.shaped = true) : 0 ≤ k.mo := by
  rcases forms hs with ⟨_, _, _, h, _⟩ | ⟨_, _, _, _, h, _⟩ | ⟨_, _, _, h, _⟩ | ⟨_, _, _, h, _⟩ <;> omega
abbrev pt (k : Kd) (i : Nat) : Kd := k.ps.getD i kz
theorem pt_mem {k : Kd} {i : Nat} (h : i < k.ps.length) : pt k i ∈ k.ps := by
  unfold pt
  rw [getD_get h]
  exact List.getElem_mem h
theorem pt_nodes {k : Kd} {i : Nat} (h : i < k.ps.length) : (pt k i).nodes < k.nodes := ps_nodes (pt_mem h)
theorem pt_shaped {k : Kd} (hs : k.shaped = true) {i : Nat} (h : i < k.ps.length) : (pt k i).shaped = true := parts_ok hs _ (pt_mem h)

/-! ### Within, joins and what a kind has, part by part -/
theorem within_iff {a c : Kd} (ha : a.shaped = true) (hc : c.shaped = true) : a.within c = true ↔
    a.f = 1 ∨ (a.f = c.f ∧ a.ps.length = c.ps.length ∧ c.lo ≤ a.lo ∧ a.hi ≤ c.hi ∧ a.mo ≤ c.mo ∧ ((a.f = 6 ∧ a.mo = 0) ∨ ∀ i, i < a.ps.length → (pt a i).within (pt c i) = true)) := by
  rw [withinK_eq]
  by_cases h1 : a.f = 1
  · rw [if_pos h1]; exact ⟨fun _ => .inl h1, fun _ => rfl⟩
  rw [if_neg h1]
  by_cases h2 : a.f ≠ c.f ∨ a.ps.length ≠ c.ps.length
  · rw [if_pos h2]
    refine ⟨fun h => (by cases h), fun h => ?_⟩
    rcases h with h | ⟨h3, h4, _⟩
    · exact absurd h h1
    · rcases h2 with h2 | h2
      · exact absurd h3 h2
      · exact absurd h4 h2
  rw [if_neg h2]
  have hf : a.f = c.f := Classical.byContradiction fun e => h2 (.inl e)
  have hl : a.ps.length = c.ps.length := Classical.byContradiction fun e => h2 (.inr e)
  have fa := forms ha
  have fc := forms hc
  by_cases h6 : a.f = 6
  · rw [if_pos h6]
    obtain ⟨x, hx, _⟩ := set_part ha h6
    obtain ⟨z, hz, _⟩ := set_part hc (by omega)
    have hw : withinH a.ps c.ps = x.within z := by rw [hx, hz]; rfl
    have hp : (∀ i, i < a.ps.length → (pt a i).within (pt c i) = true) ↔ x.within z = true := by
      constructor
      · intro h
        have := h 0 (by rw [hx]; simp)
        simpa [pt, hx, hz] using this
      · intro h i hi
        have : i = 0 := by rw [hx] at hi; simpa using hi
        subst this
        simpa [pt, hx, hz] using h
    rw [hw, hp]
    simp only [Bool.and_eq_true, decide_eq_true_eq, Bool.or_eq_true, beq_iff_eq]
    constructor
    · rintro ⟨h3, h4⟩
      refine .inr ⟨hf, hl, by omega, by omega, h3, ?_⟩
      rcases h4 with h4 | h4
      · exact .inl ⟨h6, h4⟩
      · exact .inr h4
    · rintro (h | ⟨_, _, _, _, h3, h4⟩)
      · exact absurd h h1
      · refine ⟨h3, ?_⟩
        rcases h4 with ⟨_, h4⟩ | h4
        · exact .inl h4
        · exact .inr h4
  · rw [if_neg h6, Bool.and_eq_true, zipAll_iff Kd.within kz kz _ _ hl]
    simp only [Bool.and_eq_true, decide_eq_true_eq]
    constructor
    · rintro ⟨h3, h4, h5⟩
      exact .inr ⟨hf, hl, h4, h5, by omega, .inr h3⟩
    · rintro (h | ⟨_, _, h3, h4, _, h5⟩)
      · exact absurd h h1
      · rcases h5 with ⟨h5, _⟩ | h5
        · exact absurd h5 h6
        · exact ⟨h5, h3, h4⟩
theorem joinKs_ix : ∀ (l m k : List Kd), l.length = m.length → joinKs l m = some k → k.length = l.length ∧ ∀ i, i < l.length → (l.getD i kz).join (m.getD i kz) = some (k.getD i kz)
  | [], [], k, _, h => by simp only [joinKs] at h; injection h with h; subst h; simp
  | _ :: _, [], k, hl, h => by simp at hl
  | [], _ :: _, k, hl, h => by simp at hl
  | a :: r, b :: s, k, hl, h => by
    simp only [joinKs] at h
    split at h
    · rename_i x hx
      cases hj : joinKs r s with
      | none => rw [hj] at h; cases h
      | some m =>
        rw [hj] at h
        injection h with h
        subst h
        obtain ⟨h1, h2⟩ := joinKs_ix r s m (by simpa using hl) hj
        refine ⟨by simp [h1], fun i hi => ?_⟩
        cases i with
        | zero => simpa using hx
        | succ i => simpa using h2 i (by simpa using hi)
    · cases h
theorem join_some {a b k : Kd} (h : a.join b = some k) : (a.f = 1 ∧ k = b) ∨ (a.f ≠ 1 ∧ b.f = 1 ∧ k = a) ∨
    (a.f ≠ 1 ∧ b.f ≠ 1 ∧ a.f = b.f ∧ a.ps.length = b.ps.length ∧ k.f = a.f ∧ k.lo = min a.lo b.lo ∧ k.hi = max a.hi b.hi ∧ k.mo = max a.mo b.mo ∧ k.ps.length = a.ps.length ∧ ∀ i, i < a.ps.length → (pt a i).join (pt b i) = some (pt k i)) := by
  rw [joinK_eq] at h
  by_cases h1 : a.f = 1
  · rw [if_pos h1] at h; injection h with h; exact .inl ⟨h1, h.symm⟩
  rw [if_neg h1] at h
  by_cases h2 : b.f = 1
  · rw [if_pos h2] at h; injection h with h; exact .inr (.inl ⟨h1, h2, h.symm⟩)
  rw [if_neg h2] at h
  by_cases h3 : a.f ≠ b.f ∨ a.ps.length ≠ b.ps.length
  · rw [if_pos h3] at h; cases h
  rw [if_neg h3] at h
  have hl : a.ps.length = b.ps.length := Classical.byContradiction fun e => h3 (.inr e)
  cases hj : joinKs a.ps b.ps with
  | none => rw [hj] at h; cases h
  | some l =>
    rw [hj] at h
    injection h with h
    subst h
    obtain ⟨i1, i2⟩ := joinKs_ix _ _ _ hl hj
    exact .inr (.inr ⟨h1, h2, Classical.byContradiction fun e => h3 (.inl e), hl, rfl, rfl, rfl, rfl, i1, i2⟩)
abbrev ptv (v : Val) (i : Nat) : Val := v.ps.getD i vz
theorem has_iff {k : Kd} (v : Val) (hs : k.shaped = true) : k.has v = true ↔ (k.f = 2 ∧ v.k = 1 ∧ k.lo ≤ v.n ∧ v.n ≤ k.hi) ∨ (k.f = 3 ∧ v.k = 2) ∨ (k.f = 4 ∧ v.k = 3) ∨
    (k.f = 5 ∧ v.k = 4 ∧ v.ps.length = k.ps.length ∧ ∀ i, i < k.ps.length → (pt k i).has (ptv v i) = true) ∨ (k.f = 6 ∧ v.k = 5 ∧ (v.ps.length : Int) ≤ k.mo ∧ ∀ u ∈ v.ps, (pt k 0).has u = true) := by
  rw [hasK_eq]
  by_cases c2 : k.f = 2
  · have : ¬ k.f = 3 := by omega
    simp [c2, rangeB]
  by_cases c3 : k.f = 3
  · simp [c3]
  by_cases c4 : k.f = 4
  · simp [c4]
  by_cases c5 : k.f = 5
  · rw [if_neg c2, if_neg c3, if_neg c4, if_pos c5]
    simp only [Bool.and_eq_true, beq_iff_eq, decide_eq_true_eq]
    constructor
    · rintro ⟨⟨h1, h2⟩, h3⟩
      exact .inr (.inr (.inr (.inl ⟨c5, h1, h2, (zipAll_iff Kd.has kz vz _ _ h2.symm).1 h3⟩)))
    · rintro (⟨h, _⟩ | ⟨h, _⟩ | ⟨h, _⟩ | ⟨_, h1, h2, h3⟩ | ⟨h, _⟩)
      · omega
      · omega
      · omega
      · exact ⟨⟨h1, h2⟩, (zipAll_iff Kd.has kz vz _ _ h2.symm).2 h3⟩
      · omega
  by_cases c6 : k.f = 6
  · rw [if_neg c2, if_neg c3, if_neg c4, if_neg c5, if_pos c6]
    obtain ⟨x, hx, _⟩ := set_part hs c6
    have hA : hasA k.ps v.ps = v.ps.all x.has := by rw [hx]; rfl
    have h0 : pt k 0 = x := by simp [pt, hx]
    rw [hA, h0]
    simp only [Bool.and_eq_true, beq_iff_eq, decide_eq_true_eq, List.all_eq_true]
    constructor
    · rintro ⟨⟨h1, h2⟩, h3⟩
      exact .inr (.inr (.inr (.inr ⟨c6, h1, h2, h3⟩)))
    · rintro (⟨h, _⟩ | ⟨h, _⟩ | ⟨h, _⟩ | ⟨h, _⟩ | ⟨_, h1, h2, h3⟩)
      · omega
      · omega
      · omega
      · omega
      · exact ⟨⟨h1, h2⟩, h3⟩
  · simp [c2, c3, c4, c5, c6]

/-! ### The order of kinds -/
theorem within_refl (a : Kd) (ha : a.shaped = true) : a.within a = true := by
  have key : ∀ (n : Nat) (a : Kd), a.nodes ≤ n → a.shaped = true → a.within a = true := by
    intro n
    induction n with
    | zero => intro a h _; have := nodes_pos a; omega
    | succ n ih =>
      intro a hn ha
      rw [within_iff ha ha]
      exact .inr ⟨rfl, rfl, by omega, by omega, by omega, .inr fun i hi => ih _ (by have := pt_nodes hi; omega) (pt_shaped ha hi)⟩
  exact key a.nodes a (Nat.le_refl _) ha
theorem within_trans {a b c : Kd} (ha : a.shaped = true) (hb : b.shaped = true) (hc : c.shaped = true) (h1 : a.within b = true) (h2 : b.within c = true) : a.within c = true := by
  have key : ∀ (n : Nat) (a b c : Kd), a.nodes ≤ n → a.shaped = true → b.shaped = true → c.shaped = true → a.within b = true → b.within c = true → a.within c = true := by
    intro n
    induction n with
    | zero => intro a b c h; have := nodes_pos a; omega
    | succ n ih =>
      intro a b c hn ha hb hc h1 h2
      rw [within_iff ha hb] at h1
      rw [within_iff hb hc] at h2
      rw [within_iff ha hc]
      rcases h1 with h1 | ⟨a1, a2, a3, a4, a5, a6⟩
      · exact .inl h1
      rcases h2 with h2 | ⟨b1, b2, b3, b4, b5, b6⟩
      · exact .inl (by omega)
      refine .inr ⟨by omega, by omega, by omega, by omega, by omega, ?_⟩
      rcases a6 with a6 | a6
      · exact .inl a6
      rcases b6 with ⟨b6, b7⟩ | b6
      · have := mo_pos ha
        exact .inl ⟨by omega, by omega⟩
      · exact .inr fun i hi => ih _ _ _ (by have := pt_nodes hi; omega) (pt_shaped ha hi) (pt_shaped hb (by omega)) (pt_shaped hc (by omega)) (a6 i hi) (b6 i (by omega))
  exact key a.nodes a b c (Nat.le_refl _) ha hb hc h1 h2
/-- What the join is within, both are within. -/
theorem join_up {a b k c : Kd} (ha : a.shaped = true) (hb : b.shaped = true) (hc : c.shaped = true) (hj : a.join b = some k) (h : k.within c = true) : a.within c = true ∧ b.within c = true := by
  have key : ∀ (n : Nat) (a b k c : Kd), a.nodes ≤ n → a.shaped = true → b.shaped = true → c.shaped = true → a.join b = some k → k.within c = true → a.within c = true ∧ b.within c = true := by
    intro n
    induction n with
    | zero => intro a b k c h; have := nodes_pos a; omega
    | succ n ih =>
      intro a b k c hn ha hb hc hj h
      have hk := join_shaped a b k ha hb hj
      rcases join_some hj with ⟨h1, rfl⟩ | ⟨h1, h2, rfl⟩ | ⟨h1, h2, h3, h4, h5, h6, h7, h8, h9, h10⟩
      · exact ⟨(within_iff ha hc).2 (.inl h1), h⟩
      · exact ⟨h, (within_iff hb hc).2 (.inl h2)⟩
      · rw [within_iff hk hc] at h
        rw [within_iff ha hc, within_iff hb hc]
        rcases h with h | ⟨a1, a2, a3, a4, a5, a6⟩
        · omega
        have pa := mo_pos ha
        have pb := mo_pos hb
        rcases a6 with ⟨a6, a7⟩ | a6
        · exact ⟨.inr ⟨by omega, by omega, by omega, by omega, by omega, .inl ⟨by omega, by omega⟩⟩, .inr ⟨by omega, by omega, by omega, by omega, by omega, .inl ⟨by omega, by omega⟩⟩⟩
        · have hp := fun i (hi : i < a.ps.length) => ih _ _ _ _ (by have := pt_nodes hi; omega) (pt_shaped ha hi) (pt_shaped hb (by omega)) (pt_shaped hc (by omega)) (h10 i hi) (a6 i (by omega))
          exact ⟨.inr ⟨by omega, by omega, by omega, by omega, by omega, .inr fun i hi => (hp i hi).1⟩, .inr ⟨by omega, by omega, by omega, by omega, by omega, .inr fun i hi => (hp i (by omega)).2⟩⟩
  exact key a.nodes a b k c (Nat.le_refl _) ha hb hc hj h
/-- Sets of at most no element are of no kind's elements. -/
inductive Tidy : Kd → Prop
  | mk (k : Kd) : (k.f = 6 → k.mo = 0 → (pt k 0).f = 1) → (∀ x ∈ k.ps, Tidy x) → Tidy k
theorem Tidy.own {k : Kd} (h : Tidy k) : k.f = 6 → k.mo = 0 → (pt k 0).f = 1 := by cases h with | mk _ h _ => exact h
theorem Tidy.part {k : Kd} (h : Tidy k) {i : Nat} (hi : i < k.ps.length) : Tidy (pt k i) := by cases h with | mk _ _ h => exact h _ (pt_mem hi)
theorem join_lub {a b k c : Kd} (ha : a.shaped = true) (hb : b.shaped = true) (hc : c.shaped = true) (ta : Tidy a) (tb : Tidy b) (hj : a.join b = some k) (h1 : a.within c = true) (h2 : b.within c = true) : k.within c = true := by
  have key : ∀ (n : Nat) (a b k c : Kd), a.nodes ≤ n → a.shaped = true → b.shaped = true → c.shaped = true → Tidy a → Tidy b → a.join b = some k → a.within c = true → b.within c = true → k.within c = true := by
    intro n
    induction n with
    | zero => intro a b k c h; have := nodes_pos a; omega
    | succ n ih =>
      intro a b k c hn ha hb hc ta tb hj h1 h2
      have hk := join_shaped a b k ha hb hj
      rcases join_some hj with ⟨_, rfl⟩ | ⟨_, _, rfl⟩ | ⟨f1, f2, f3, f4, f5, f6, f7, f8, f9, f10⟩
      · exact h2
      · exact h1
      · rw [within_iff ha hc] at h1
        rw [within_iff hb hc] at h2
        rw [within_iff hk hc]
        rcases h1 with h1 | ⟨a1, a2, a3, a4, a5, a6⟩
        · omega
        rcases h2 with h2 | ⟨b1, b2, b3, b4, b5, b6⟩
        · omega
        refine .inr ⟨by omega, by omega, by omega, by omega, by omega, ?_⟩
        have wa : (a.f = 6 ∧ a.mo = 0 ∧ (pt a 0).f = 1) ∨ ∀ i, i < a.ps.length → (pt a i).within (pt c i) = true := by
          rcases a6 with ⟨a6, a7⟩ | a6
          · exact .inl ⟨a6, a7, ta.own a6 a7⟩
          · exact .inr a6
        refine .inr fun i hi => ?_
        have hia : i < a.ps.length := by omega
        have hib : i < b.ps.length := by omega
        have hic : i < c.ps.length := by omega
        have pa : (pt a i).within (pt c i) = true := by
          rcases a6 with ⟨a6, a7⟩ | a6
          · obtain ⟨x, hx, _⟩ := set_part ha a6
            have : i = 0 := by rw [hx] at hia; simpa using hia
            subst this
            exact (within_iff (pt_shaped ha hia) (pt_shaped hc hic)).2 (.inl (ta.own a6 a7))
          · exact a6 i hia
        have pb : (pt b i).within (pt c i) = true := by
          rcases b6 with ⟨b6, b7⟩ | b6
          · obtain ⟨x, hx, _⟩ := set_part hb b6
            have : i = 0 := by rw [hx] at hib; simpa using hib
            subst this
            exact (within_iff (pt_shaped hb hib) (pt_shaped hc hic)).2 (.inl (tb.own b6 b7))
          · exact b6 i hib
        exact ih _ _ _ _ (by have := pt_nodes hia; omega) (pt_shaped ha hia) (pt_shaped hb hib) (pt_shaped hc hic) (ta.part hia) (tb.part hib) (f10 i hia) pa pb
  exact key a.nodes a b k c (Nat.le_refl _) ha hb hc ta tb hj h1 h2
theorem join_tidy {a b k : Kd} (ha : a.shaped = true) (hb : b.shaped = true) (ta : Tidy a) (tb : Tidy b) (hj : a.join b = some k) : Tidy k := by
  have key : ∀ (n : Nat) (a b k : Kd), a.nodes ≤ n → a.shaped = true → b.shaped = true → Tidy a → Tidy b → a.join b = some k → Tidy k := by
    intro n
    induction n with
    | zero => intro a b k h; have := nodes_pos a; omega
    | succ n ih =>
      intro a b k hn ha hb ta tb hj
      rcases join_some hj with ⟨_, rfl⟩ | ⟨_, _, rfl⟩ | ⟨f1, f2, f3, f4, f5, f6, f7, f8, f9, f10⟩
      · exact tb
      · exact ta
      · refine .mk k (fun h6 h0 => ?_) fun x hx => ?_
        · have pa := mo_pos ha
          have pb := mo_pos hb
          have xa := ta.own (by omega) (by omega)
          have xb := tb.own (by omega) (by omega)
          obtain ⟨x, hx, _⟩ := set_part ha (by omega)
          have h := f10 0 (by rw [hx]; simp)
          rcases join_some h with ⟨_, h⟩ | ⟨_, _, h⟩ | ⟨h, _⟩
          · rw [h]; exact xb
          · rw [h]; exact xa
          · exact absurd xa h
        · obtain ⟨i, hi, rfl⟩ := List.mem_iff_getElem.1 hx
          have h := f10 i (by omega)
          have hp : pt k i = k.ps[i] := getD_get hi kz
          rw [← hp]
          have hia : i < a.ps.length := by omega
          have hib : i < b.ps.length := by omega
          exact ih _ _ _ (by have := pt_nodes hia; omega) (pt_shaped ha hia) (pt_shaped hb hib) (ta.part hia) (tb.part hib) h
  exact key a.nodes a b k (Nat.le_refl _) ha hb ta tb hj

/-- A value of a kind is of each one that it is within. -/
theorem has_within {k c : Kd} (v : Val) (hk : k.shaped = true) (hc : c.shaped = true) (h1 : k.has v = true) (h2 : k.within c = true) : c.has v = true := by
  have key : ∀ (n : Nat) (k c : Kd) (v : Val), k.nodes ≤ n → k.shaped = true → c.shaped = true → k.has v = true → k.within c = true → c.has v = true := by
    intro n
    induction n with
    | zero => intro k c v h; have := nodes_pos k; omega
    | succ n ih =>
      intro k c v hn hk hc h1 h2
      rw [within_iff hk hc] at h2
      rw [has_iff v hk] at h1
      rw [has_iff v hc]
      rcases h2 with h2 | ⟨a1, a2, a3, a4, a5, a6⟩
      · omega
      rcases h1 with ⟨b1, b2, b3, b4⟩ | ⟨b1, b2⟩ | ⟨b1, b2⟩ | ⟨b1, b2, b3, b4⟩ | ⟨b1, b2, b3, b4⟩
      · exact .inl ⟨by omega, b2, by omega, by omega⟩
      · exact .inr (.inl ⟨by omega, b2⟩)
      · exact .inr (.inr (.inl ⟨by omega, b2⟩))
      · refine .inr (.inr (.inr (.inl ⟨by omega, b2, by omega, fun i hi => ?_⟩)))
        rcases a6 with ⟨a6, _⟩ | a6
        · omega
        have hik : i < k.ps.length := by omega
        exact ih _ _ _ (by have := pt_nodes hik; omega) (pt_shaped hk hik) (pt_shaped hc hi) (b4 i hik) (a6 i hik)
      · refine .inr (.inr (.inr (.inr ⟨by omega, b2, by omega, fun u hu => ?_⟩)))
        obtain ⟨x, hx, _⟩ := set_part hk b1
        have h0 : 0 < k.ps.length := by rw [hx]; simp
        rcases a6 with ⟨_, a7⟩ | a6
        · have := List.length_pos_of_mem hu
          omega
        · exact ih _ _ _ (by have := pt_nodes h0; omega) (pt_shaped hk h0) (pt_shaped hc (by omega)) (b4 u hu) (a6 0 h0)
  exact key k.nodes k c v (Nat.le_refl _) hk hc h1 h2
end Go.Vi
end
