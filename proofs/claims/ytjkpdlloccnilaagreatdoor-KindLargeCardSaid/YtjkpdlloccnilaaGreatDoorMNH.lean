/- It is proved here what functions of the program's layer 5 and of its specification compute; conditions stand with each. What the least kinds are; sizes and counts. -/
import Derived.Test.YtjkpdlloccnilaaGreatDoorMNG
import Derived.Test.YtjkpdlloccnilaaGreatDoorMND
set_option linter.unusedVariables false
set_option linter.unusedSimpArgs false

section
/- layer 5: the least kind of a value, plain. No conditions but those that stand with each. -/
namespace Go.Vi
open Go Go.Lib Go.Proofs
set_option maxRecDepth 100000
attribute [local simp] E_skip E_ret E_exit E_text E_draw E_seq E_cond E_block E_scope E_loop runOps runOp drawR slotsOf Hp.kept_zero runDraw runVF runX runV finV gate FlOK FlOK0 wantD exec fin opd look putF norm constD constC fieldAddrD loadD storeD opCall lenD binD isShift intP strP numD indexAddrD indexD D.pd? D.pds? sub capsOf callD argsD argD D.nf unP cellD mkF H00 cD_agg cD_pagg cD_int cD_bool cD_str cD_sl cD_lit cells_int
attribute [local simp] fnOut retOut resD retsD retD oneD D.noRefs D.noRef alone Hp.cut
attribute [local simp] cells_encK encK_agg box_encK cells_enc enc_agg box_enc one_int one_str one_sl one_agg cD_own cD_ptr

theorem own75_leaf {k n : Int} {t : ByteArray} {ps : List Val} (h : own75 k n t ps = true) (hk : k = 1 ∨ k = 2 ∨ k = 3) : ps = [] := by
  unfold own75 at h
  by_cases c1 : k = 1
  · rw [if_pos c1] at h
    simp only [Bool.and_eq_true, decide_eq_true_eq] at h
    exact List.eq_nil_of_length_eq_zero h.2
  rw [if_neg c1] at h
  by_cases c2 : k = 2
  · rw [if_pos c2] at h
    simp only [Bool.and_eq_true, decide_eq_true_eq] at h
    exact List.eq_nil_of_length_eq_zero h.2
  rw [if_neg c2] at h
  have c3 : k = 3 := by omega
  rw [if_pos c3] at h
  simp only [Bool.and_eq_true, decide_eq_true_eq] at h
  exact List.eq_nil_of_length_eq_zero h.2
/-- What makes a kind the least one of a value. -/
def LeastOf (v : Val) (k : Kd) : Prop := Tidy k ∧ k.has v = true ∧ ∀ c : Kd, c.shaped = true → c.has v = true → k.within c = true
theorem tidy_leaf (f lo hi mo : Int) (h : f ≠ 6) : Tidy (.mk f lo hi mo []) := .mk _ (fun h6 => absurd h6 h) fun x hx => by cases hx
theorem kN_shaped : kN.shaped = true := rfl
mutual
theorem least_law : ∀ (v : Val), v.shaped = true → v.nodes ≤ 200 → ∀ k, leastG Kd.join v = some k → LeastOf v k
  | .mk k n t ps, hs, hn, q, hq => by
    have hq0 := hq
    have hvs := hs
    have hsh := ((least_ok _ hs hn).2 q hq).1
    simp only [Val.shaped, Bool.and_eq_true] at hs
    simp only [Val.nodes] at hn
    have hps := nodesL_pos ps
    simp only [leastG] at hq
    by_cases c1 : k = 1
    · rw [if_pos c1] at hq
      injection hq with hq
      subst hq
      refine ⟨tidy_leaf _ _ _ _ (by omega), (has_iff _ hsh).2 (.inl ⟨rfl, c1, Int.le_refl _, Int.le_refl _⟩), fun c hc h => ?_⟩
      have h' := (has_iff _ hc).1 h
      have fc := forms hc
      simp only [Val.k, Val.n] at h'
      rw [within_iff hsh hc]
      rcases h' with ⟨b1, _, b3, b4⟩ | ⟨_, b2⟩ | ⟨_, b2⟩ | ⟨_, b2, _⟩ | ⟨_, b2, _⟩ <;> try omega
      rcases fc with ⟨e, _⟩ | ⟨e, e1, e2, e3, e4, e5⟩ | ⟨e, _⟩ | ⟨e, _⟩ <;> try omega
      exact .inr ⟨by rw [b1]; rfl, by rw [e5]; rfl, b3, b4, by rw [e4]; exact Int.le_refl _, .inr fun i hi => by cases hi⟩
    rw [if_neg c1] at hq
    by_cases c2 : k = 2
    · rw [if_pos c2] at hq
      injection hq with hq
      subst hq
      refine ⟨tidy_leaf _ _ _ _ (by omega), (has_iff _ hsh).2 (.inr (.inl ⟨rfl, c2⟩)), fun c hc h => ?_⟩
      have h' := (has_iff _ hc).1 h
      have fc := forms hc
      simp only [Val.k, Val.n] at h'
      rw [within_iff hsh hc]
      rcases h' with ⟨_, b2, _⟩ | ⟨b1, _⟩ | ⟨_, b2⟩ | ⟨_, b2, _⟩ | ⟨_, b2, _⟩ <;> try omega
      rcases fc with ⟨e, e1, e2, e3, e4⟩ | ⟨e, _⟩ | ⟨e, _⟩ | ⟨e, _⟩ <;> try omega
      exact .inr ⟨by rw [b1]; rfl, by rw [e4]; rfl, by rw [e1]; exact Int.le_refl _, by rw [e2]; exact Int.le_refl _, by rw [e3]; exact Int.le_refl _, .inr fun i hi => by cases hi⟩
    rw [if_neg c2] at hq
    by_cases c3 : k = 3
    · rw [if_pos c3] at hq
      injection hq with hq
      subst hq
      refine ⟨tidy_leaf _ _ _ _ (by omega), (has_iff _ hsh).2 (.inr (.inr (.inl ⟨rfl, c3⟩))), fun c hc h => ?_⟩
      have h' := (has_iff _ hc).1 h
      have fc := forms hc
      simp only [Val.k, Val.n] at h'
      rw [within_iff hsh hc]
      rcases h' with ⟨_, b2, _⟩ | ⟨_, b2⟩ | ⟨b1, _⟩ | ⟨_, b2, _⟩ | ⟨_, b2, _⟩ <;> try omega
      rcases fc with ⟨e, e1, e2, e3, e4⟩ | ⟨e, _⟩ | ⟨e, _⟩ | ⟨e, _⟩ <;> try omega
      exact .inr ⟨by rw [b1]; rfl, by rw [e4]; rfl, by rw [e1]; exact Int.le_refl _, by rw [e2]; exact Int.le_refl _, by rw [e3]; exact Int.le_refl _, .inr fun i hi => by cases hi⟩
    rw [if_neg c3] at hq
    have hss : ∀ v ∈ ps, v.shaped = true := by rw [shapeds_all] at hs; exact fun v hv => List.all_eq_true.1 hs.1 v hv
    cases hl : leastsG Kd.join (decide (k = 5)) ps (.mk 1 0 0 0 []) with
    | none => rw [hl] at hq; cases hq
    | some y =>
      rw [hl] at hq
      simp only [Option.map_some, Option.some.injEq] at hq
      obtain ⟨g1, g2⟩ := leasts_law (decide (k = 5)) ps kN hss (by omega) kN_shaped (tidy_leaf _ _ _ _ (by omega)) y hl
      obtain ⟨o1, o2, o3, _⟩ := (leasts_ok (decide (k = 5)) ps kN hss (by omega) kN_shaped).2 y hl
      by_cases c5 : k = 5
      · rw [if_pos c5] at hq
        subst hq
        obtain ⟨t1, t2, t3, t4⟩ := g2 (by simp [c5])
        have hp0 : pt (.mk 6 0 0 ps.length [y.2]) 0 = y.2 := rfl
        refine ⟨.mk _ (fun _ h0 => ?_) (fun x hx => ?_), (has_iff _ hsh).2 (.inr (.inr (.inr (.inr ⟨rfl, c5, Int.le_refl _, fun u hu => ?_⟩)))), fun c hc h => ?_⟩
        · have h0 : (ps.length : Int) = 0 := h0
          have : ps = [] := List.eq_nil_of_length_eq_zero (by omega)
          subst this
          simp only [leastsG, Option.some.injEq] at hl
          rw [hp0, ← hl]
          rfl
        · have hx : x ∈ [y.2] := hx
          simp only [List.mem_singleton] at hx
          subst hx
          exact t1
        · rw [hp0]; exact t3 u hu
        · have h' := (has_iff _ hc).1 h
          have fc := forms hc
          simp only [Val.k, Val.n] at h'
          rw [within_iff hsh hc]
          rcases h' with ⟨_, b2, _⟩ | ⟨_, b2⟩ | ⟨_, b2⟩ | ⟨_, b2, _⟩ | ⟨b1, b2, b3, b4⟩ <;> try omega
          rcases fc with ⟨e, _⟩ | ⟨e, _⟩ | ⟨e, _⟩ | ⟨e, e1, e2, e3, e4, a, e5⟩ <;> try omega
          refine .inr ⟨by rw [b1]; rfl, by rw [e5]; rfl, by rw [e1]; exact Int.le_refl _, by rw [e2]; exact Int.le_refl _, b3, .inr fun i hi => ?_⟩
          have hi : i < 1 := hi
          have : i = 0 := by omega
          subst this
          rw [hp0]
          have hcs := pt_shaped hc (i := 0) (by rw [e5]; simp)
          exact t4 _ hcs ((within_iff kN_shaped hcs).2 (.inl rfl)) b4
      · rw [if_neg c5] at hq
        subst hq
        rcases own75_cases hs.2 with ⟨h, _⟩ | h | h | ⟨h, h8, h9⟩ | h <;> try omega
        have hpt : ∀ i, pt (.mk 5 0 0 0 y.1) i = y.1.getD i kz := fun i => rfl
        refine ⟨.mk _ (fun h6 => (by cases h6)) (fun x hx => ?_), (has_iff _ hsh).2 (.inr (.inr (.inr (.inl ⟨rfl, h, o3.symm, fun i hi => ?_⟩)))), fun c hc h => ?_⟩
        · have hx : x ∈ y.1 := hx
          obtain ⟨i, hi, rfl⟩ := List.mem_iff_getElem.1 hx
          have := (g1 i (by omega)).1
          rwa [getD_get hi] at this
        · have hi : i < y.1.length := hi
          exact (g1 i (by omega)).2.1
        · have h' := (has_iff _ hc).1 h
          have fc := forms hc
          simp only [Val.k, Val.n] at h'
          rw [within_iff hsh hc]
          rcases h' with ⟨_, b2, _⟩ | ⟨_, b2⟩ | ⟨_, b2⟩ | ⟨b1, b2, b3, b4⟩ | ⟨_, b2, _⟩ <;> try omega
          rcases fc with ⟨e, _⟩ | ⟨e, _⟩ | ⟨e, e1, e2, e3, e4, e5⟩ | ⟨e, _⟩ <;> try omega
          have b3 : ps.length = c.ps.length := b3
          refine .inr ⟨by rw [b1]; rfl, o3.trans b3, by rw [e1]; exact Int.le_refl _, by rw [e2]; exact Int.le_refl _, by rw [e3]; exact Int.le_refl _, .inr fun i hi => ?_⟩
          have hi : i < y.1.length := hi
          exact (g1 i (by omega)).2.2 _ (pt_shaped hc (by omega)) (b4 i (by omega))
theorem leasts_law : ∀ (s : Bool) (l : List Val) (q : Kd), (∀ v ∈ l, v.shaped = true) → nodesL l ≤ 200 → q.shaped = true → Tidy q → ∀ x, leastsG Kd.join s l q = some x →
    (∀ i, i < l.length → LeastOf (l.getD i vz) (x.1.getD i kz)) ∧ (s = true → Tidy x.2 ∧ q.within x.2 = true ∧ (∀ u ∈ l, x.2.has u = true) ∧ ∀ c : Kd, c.shaped = true → q.within c = true → (∀ u ∈ l, c.has u = true) → x.2.within c = true)
  | s, [], q, _, _, hq, tq, x, hx => by
    simp only [leastsG] at hx
    injection hx with hx
    subst hx
    exact ⟨fun i hi => by simp at hi, fun _ => ⟨tq, within_refl q hq, fun u hu => (by cases hu), fun c _ h _ => h⟩⟩
  | s, v :: r, q, hs, hn, hq, tq, x, hx => by
    have hr := nodesL_pos r
    have hv := nodes_posv v
    simp only [nodesL] at hn
    have hvs := hs v (by simp)
    simp only [leastsG] at hx
    cases hl : leastG Kd.join v with
    | none => rw [hl] at hx; cases hx
    | some k =>
      obtain ⟨k1, k2⟩ := (least_ok v hvs (by omega)).2 k hl
      have hk := least_law v hvs (by omega) k hl
      obtain ⟨kt, kh, kw⟩ := id hk
      rw [hl] at hx
      simp only at hx
      cases hj : (if s = true then q.join k else some q) with
      | none => rw [hj] at hx; cases hx
      | some q' =>
        rw [hj] at hx
        simp only at hx
        have hq' : q'.shaped = true ∧ Tidy q' := by
          cases s with
          | false =>
            simp only [Bool.false_eq_true, if_false, Option.some.injEq] at hj
            subst hj
            exact ⟨hq, tq⟩
          | true =>
            simp only [if_true] at hj
            exact ⟨join_shaped q k q' hq k1 hj, join_tidy hq k1 tq kt hj⟩
        have hrs : ∀ v ∈ r, v.shaped = true := fun v hv => hs v (by simp [hv])
        cases hm : leastsG Kd.join s r q' with
        | none => rw [hm] at hx; cases hx
        | some y =>
          rw [hm] at hx
          injection hx with hx
          subst hx
          obtain ⟨g1, g2⟩ := leasts_law s r q' hrs (by omega) hq'.1 hq'.2 y hm
          refine ⟨fun i hi => ?_, fun h => ?_⟩
          · cases i with
            | zero => simpa using hk
            | succ i => simpa using g1 i (by simpa using hi)
          · subst h
            simp only [if_true] at hj
            obtain ⟨t1, t2, t3, t4⟩ := g2 rfl
            have hy := ((leasts_ok true r q' hrs (by omega) hq'.1).2 y hm).2.1
            obtain ⟨u1, u2⟩ := join_up hq k1 hq'.1 hj (within_refl q' hq'.1)
            refine ⟨t1, within_trans hq hq'.1 hy u1 t2, fun u hu => ?_, fun c hc h1 h2 => ?_⟩
            · rcases List.mem_cons.1 hu with rfl | hu
              · exact has_within _ k1 hy kh (within_trans k1 hq'.1 hy u2 t2)
              · exact t3 u hu
            · exact t4 c hc (join_lub hq k1 hc tq kt hj h1 (kw c hc (h2 v (by simp)))) fun u hu => h2 u (by simp [hu])
end
end Go.Vi
end

section
/- layer 5: sizes and counts of what a kind has, plain. No conditions but those that stand with each. -/
namespace Go.Vi
open Go Go.Lib Go.Proofs
set_option maxRecDepth 100000
attribute [local simp] E_skip E_ret E_exit E_text E_draw E_seq E_cond E_block E_scope E_loop runOps runOp drawR slotsOf Hp.kept_zero runDraw runVF runX runV finV gate FlOK FlOK0 wantD exec fin opd look putF norm constD constC fieldAddrD loadD storeD opCall lenD binD isShift intP strP numD indexAddrD indexD D.pd? D.pds? sub capsOf callD argsD argD D.nf unP cellD mkF H00 cD_agg cD_pagg cD_int cD_bool cD_str cD_sl cD_lit cells_int
attribute [local simp] fnOut retOut resD retsD retD oneD D.noRefs D.noRef alone Hp.cut
attribute [local simp] cells_encK encK_agg box_encK cells_enc enc_agg box_enc one_int one_str one_sl one_agg cD_own cD_ptr

/-! ### Sizes and counts -/
theorem depth_pos : ∀ v : Val, 1 ≤ v.depth
  | .mk _ _ _ ps => by
    have : ∀ l : List Val, 0 ≤ depthL l := by
      intro l
      induction l with
      | nil => simp [depthL]
      | cons v r ih => simp only [depthL]; omega
    have := this ps
    simp only [Val.depth]
    omega
theorem sizeT_law : ∀ (l : List Kd) (m : List Val) (n d : Int), l.length = m.length → 0 ≤ n → (∀ i, i < l.length → (m.getD i vz).nodes ≤ (l.getD i kz).size.1 ∧ (m.getD i vz).depth ≤ (l.getD i kz).size.2 ∧ 1 ≤ (l.getD i kz).size.1) →
    ∃ n' d', sizeT l n d = some (n', d') ∧ min (n + nodesL m) 1000000000 ≤ n' ∧ d ≤ d' ∧ (m ≠ [] → depthL m ≤ d')
  | [], [], n, d, _, hn, _ => ⟨n, d, rfl, by simp only [nodesL]; omega, Int.le_refl _, fun h => absurd rfl h⟩
  | [], _ :: _, _, _, h, _, _ => by simp at h
  | _ :: _, [], _, _, h, _, _ => by simp at h
  | a :: r, v :: s, n, d, hl, hn, h => by
    obtain ⟨h1, h2, h3⟩ := h 0 (by simp)
    simp only [List.getD_cons_zero] at h1 h2 h3
    have hv := nodes_posv v
    have hs := nodesL_pos s
    have hr : ∀ i, i < r.length → (s.getD i vz).nodes ≤ (r.getD i kz).size.1 ∧ (s.getD i vz).depth ≤ (r.getD i kz).size.2 ∧ 1 ≤ (r.getD i kz).size.1 := fun i hi => by
      have := h (i + 1) (by simp; omega)
      simpa using this
    obtain ⟨n', d', e1, e2, e3, e5⟩ := sizeT_law r s (capI (n + a.size.1)) (max d a.size.2) (by simpa using hl) (by unfold capI; omega) hr
    have hdp := depth_pos v
    refine ⟨n', d', ?_, ?_, by omega, fun _ => ?_⟩
    · have : a.size.1 ≠ 0 := by omega
      simp only [sizeT]
      rw [if_neg this]
      exact e1
    · simp only [nodesL]
      unfold capI at e2
      omega
    · simp only [depthL]
      by_cases hm : s = []
      · subst hm; simp only [depthL]; omega
      · have := e5 hm; omega
theorem nodes_sum (x : Kd) (m : Int) : ∀ l : List Val, (∀ u ∈ l, u.nodes ≤ m) → nodesL l ≤ l.length * m
  | [], _ => by simp [nodesL]
  | v :: r, h => by
    have h1 := h v (by simp)
    have h2 := nodes_sum x m r fun u hu => h u (by simp [hu])
    simp only [nodesL, List.length_cons, Int.natCast_add, Int.add_mul, Int.natCast_one, Int.one_mul]
    omega
theorem depth_sum (d : Int) (hd : 0 ≤ d) : ∀ l : List Val, (∀ u ∈ l, u.depth ≤ d) → depthL l ≤ d
  | [], _ => by simpa [depthL] using hd
  | v :: r, h => by
    have h1 := h v (by simp)
    have h2 := depth_sum d hd r fun u hu => h u (by simp [hu])
    simp only [depthL]
    omega
theorem depth_eq' (v : Val) : v.depth = depthL v.ps + 1 := by cases v; rfl
theorem ptv_mem {v : Val} {i : Nat} (h : i < v.ps.length) : ptv v i ∈ v.ps := by
  unfold ptv
  rw [getD_get h]
  exact List.getElem_mem h
theorem has_size {k : Kd} (v : Val) (hk : k.shaped = true) (hs : v.shaped = true) (hn : v.nodes ≤ 1000000000) (h : k.has v = true) : v.nodes ≤ k.size.1 ∧ v.depth ≤ k.size.2 := by
  have key : ∀ (n : Nat) (k : Kd) (v : Val), k.nodes ≤ n → k.shaped = true → v.shaped = true → v.nodes ≤ 1000000000 → k.has v = true → v.nodes ≤ k.size.1 ∧ v.depth ≤ k.size.2 := by
    intro n
    induction n with
    | zero => intro k v h; have := nodes_pos k; omega
    | succ n ih =>
      intro k v hkn hk hs hn h
      rw [has_iff v hk] at h
      rw [sizeK_eq, nodes_eq, depth_eq']
      have hs' := hs
      rw [shaped_eq, Bool.and_eq_true] at hs'
      have leaf : (v.k = 1 ∨ v.k = 2 ∨ v.k = 3) → 1 + nodesL v.ps = 1 ∧ depthL v.ps + 1 = 1 := by
        intro hv
        rw [own75_leaf hs'.2 hv]
        exact ⟨rfl, rfl⟩
      have hne := nodes_eq v
      rcases h with ⟨b1, b2, _⟩ | ⟨b1, b2⟩ | ⟨b1, b2⟩ | ⟨b1, b2, b3, b4⟩ | ⟨b1, b2, b3, b4⟩
      · obtain ⟨h1, h2⟩ := leaf (by omega)
        rw [if_neg (by omega), if_neg (by omega), if_neg (by omega), h1, h2]
        exact ⟨Int.le_refl _, Int.le_refl _⟩
      · obtain ⟨h1, h2⟩ := leaf (by omega)
        rw [if_neg (by omega), if_neg (by omega), if_neg (by omega), h1, h2]
        exact ⟨Int.le_refl _, Int.le_refl _⟩
      · obtain ⟨h1, h2⟩ := leaf (by omega)
        rw [if_neg (by omega), if_neg (by omega), if_neg (by omega), h1, h2]
        exact ⟨Int.le_refl _, Int.le_refl _⟩
      · rw [if_neg (by omega), if_pos b1]
        have hp : ∀ i, i < k.ps.length → (v.ps.getD i vz).nodes ≤ (k.ps.getD i kz).size.1 ∧ (v.ps.getD i vz).depth ≤ (k.ps.getD i kz).size.2 ∧ 1 ≤ (k.ps.getD i kz).size.1 := by
          intro i hi
          have hm := ptv_mem (v := v) (i := i) (by omega)
          have hmn := ps_nodesv hm
          have := ih (pt k i) (ptv v i) (by have := pt_nodes hi; omega) (pt_shaped hk hi) (parts_okv hs _ hm) (by omega) (b4 i hi)
          have h1 := nodes_posv (ptv v i)
          exact ⟨this.1, this.2, Int.le_trans h1 this.1⟩
        obtain ⟨n', d', e1, e2, e3, e5⟩ := sizeT_law k.ps v.ps 1 0 b3.symm (by omega) hp
        rw [e1]
        simp only
        have hne5 : v.ps ≠ [] := by
          intro h0
          rw [h0] at b3
          have b3 : 0 = k.ps.length := b3
          rcases forms hk with ⟨e, _⟩ | ⟨e, _⟩ | ⟨e, _, _, _, e5, _⟩ | ⟨e, _⟩ <;> omega
        have := e5 hne5
        exact ⟨by omega, by omega⟩
      · rw [if_neg (by omega), if_neg (by omega), if_pos b1]
        obtain ⟨x, hx, m1, m2⟩ := set_part hk b1
        have h0 : 0 < k.ps.length := by rw [hx]; simp
        have hp0 : pt k 0 = x := by simp [pt, hx]
        have hH : sizeH k.ps = x.size := by rw [hx]; rfl
        rw [hH]
        rw [hp0] at b4
        have hxs : x.shaped = true := by rw [← hp0]; exact pt_shaped hk h0
        have hp : ∀ u ∈ v.ps, u.nodes ≤ x.size.1 ∧ u.depth ≤ x.size.2 := fun u hu => by
          have hmn := ps_nodesv hu
          exact ih x u (by rw [← hp0]; have := pt_nodes h0; omega) hxs (parts_okv hs _ hu) (by omega) (b4 u hu)
        by_cases hm : v.ps = []
        · rw [hm]
          simp only [nodesL, depthL]
          obtain ⟨_, s1, _, s2, _⟩ := size_same x hxs
          by_cases hz : x.size.1 = 0 ∨ k.mo = 0
          · rw [if_pos hz]; exact ⟨by omega, by omega⟩
          · rw [if_neg hz]
            obtain ⟨z0, z1, z2, z3, z4⟩ := size_same x hxs
            have q1 : 0 ≤ x.size.1 := by rw [z0]; simp only [capI]; omega
            have q2 : 0 ≤ x.size.2 := by rw [z0]; exact z3
            have q3 : 0 ≤ k.mo * x.size.1 := Int.mul_nonneg m1 q1
            simp only [capI]
            exact ⟨by omega, by omega⟩
        · obtain ⟨u, hu⟩ := List.exists_mem_of_ne_nil _ hm
          have hu1 := (hp u hu).1
          have hu2 := nodes_posv u
          have hd1 := (hp u hu).2
          have hd2 := depth_pos u
          have hlen : 0 < v.ps.length := List.length_pos_of_mem hu
          rw [if_neg (by omega)]
          have s1 := nodes_sum x x.size.1 v.ps fun u hu => (hp u hu).1
          have s2 := depth_sum x.size.2 (by omega) v.ps fun u hu => (hp u hu).2
          have s3 : (v.ps.length : Int) * x.size.1 ≤ k.mo * x.size.1 := Int.mul_le_mul_of_nonneg_right b3 (by omega)
          simp only [capI]
          exact ⟨by omega, by omega⟩
  exact key k.nodes k v (Nat.le_refl _) hk hs hn h
theorem cntLoop_pos (e : Bool) : ∀ (l : List (Option Int)) (n c : Int), 1 ≤ n → (∀ x ∈ l, ∀ m, x = some m → 1 ≤ m) → cntLoop e l n = some c → 1 ≤ c
  | [], n, c, hn, _, h => by simp only [cntLoop] at h; injection h with h; omega
  | none :: _, n, c, _, _, h => by simp only [cntLoop] at h; cases h
  | some m :: r, n, c, hn, hl, h => by
    simp only [cntLoop] at h
    have hm := hl (some m) (by simp) m rfl
    split at h
    · cases h
    · have h1 : 1 ≤ n * m := by
        have := Int.mul_le_mul hn hm (by omega) (by omega)
        omega
      exact cntLoop_pos e r _ c (by unfold capI; omega) (fun x hx => hl x (by simp [hx])) h
theorem has_cnt {k : Kd} (v : Val) (hk : k.shaped = true) (h : k.has v = true) : ∀ c, k.cnt = some c → 1 ≤ c := by
  have key : ∀ (n : Nat) (k : Kd) (v : Val), k.nodes ≤ n → k.shaped = true → k.has v = true → ∀ c, k.cnt = some c → 1 ≤ c := by
    intro n
    induction n with
    | zero => intro k v h; have := nodes_pos k; omega
    | succ n ih =>
      intro k v hkn hk h c hc
      rw [has_iff v hk] at h
      rw [cntK_eq] at hc
      rcases h with ⟨b1, b2, _⟩ | ⟨b1, b2⟩ | ⟨b1, b2⟩ | ⟨b1, b2, b3, b4⟩ | ⟨b1, b2, b3, b4⟩
      · rw [if_neg (by omega), if_neg (by omega), if_pos b1] at hc
        split at hc
        · injection hc with hc
          omega
        · cases hc
      · rw [if_neg (by omega), if_pos b1] at hc
        injection hc with hc
        omega
      · rw [if_neg (by omega), if_neg (by omega), if_neg (by omega), if_neg (by omega)] at hc
        cases hc
      · rw [if_neg (by omega), if_neg (by omega), if_neg (by omega), if_pos b1] at hc
        refine cntLoop_pos _ _ _ _ (by omega) (fun x hx m hm => ?_) hc
        rw [cnts_map] at hx
        obtain ⟨y, hy, rfl⟩ := List.mem_map.1 hx
        obtain ⟨i, hi, rfl⟩ := List.mem_iff_getElem.1 hy
        have hp : pt k i = k.ps[i] := getD_get hi kz
        rw [← hp] at hm
        exact ih (pt k i) (ptv v i) (by have := pt_nodes hi; omega) (pt_shaped hk hi) (b4 i hi) m hm
      · rw [if_neg (by omega), if_neg (by omega), if_neg (by omega), if_neg (by omega)] at hc
        cases hc
  exact key k.nodes k v (Nat.le_refl _) hk h

end Go.Vi
end
