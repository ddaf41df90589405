/- It is proved here what functions of the program's layer 11 and of its specification compute; conditions stand with each. Trees of splits by numbers. -/
import Derived.Test.YtodgddpkbmanoaaGreatDoorMPA
import Derived.Test.YtodgddpkbmanoaaGreatDoorMZA
import Derived.Test.YtodgddpkbmanoaaGreatDoorMZF
import Derived.Test.YtodgddpkbmanoaaGreatDoorMQA
import Derived.Test.YtodgddpkbmanoaaGreatDoorMRA
set_option linter.unusedVariables false
set_option linter.unusedSimpArgs false

section
/- Representations (layer 11), outright: trees of splits by numbers are trees. Plain Lean; no program in sight; no conditions but those that stand with each. -/
namespace Go.Vi
set_option maxRecDepth 10000

def zB : List Bool → Nat
  | [] => 0
  | b :: r => (if b = true then 0 else 1) + zB r
theorem zB_set : ∀ (sp : List Bool) (s : Nat), s < sp.length → sp.getD s false = false → zB (sp.set s true) + 1 = zB sp
  | [], s, h, _ => by simp at h
  | b :: r, 0, _, hb => by
    simp at hb
    simp [zB, hb]
    omega
  | b :: r, s + 1, h, hb => by
    have := zB_set r s (by simpa using h) (by simpa using hb)
    simp only [List.set_cons_succ, zB]
    omega
theorem zB_le : ∀ (sp : List Bool), zB sp ≤ sp.length
  | [] => Nat.le_refl _
  | b :: r => by
    have := zB_le r
    simp only [zB, List.length_cons]
    split <;> omega

def tm : Nat → Nat
  | 0 => 1
  | z + 1 => 1 + 5 * tm z
theorem tm_le : ∀ (a b : Nat), a ≤ b → tm a ≤ tm b
  | a, 0, h => by
    have : a = 0 := by omega
    subst this; exact Nat.le_refl _
  | a, b + 1, h => by
    by_cases e : a = b + 1
    · subst e; exact Nat.le_refl _
    · have := tm_le a b (by omega)
      simp only [tm]; omega

/-- The number that is read, and the place after it. -/
def rdN (by_ : List Int) (at_ : Nat) : Int × Nat := if at_ < by_.length then (by_.getD at_ 0, at_ + 1) else (255, at_)
/-- A tree of splits, and the place after what it read. -/
def prT (p : RProb) (by_ : List Int) : Nat → Nat → List Bool → List Int × Nat
  | 0, at_, _ => ([-1], at_)
  | k + 1, at_, sp =>
    let kk := (rdN by_ at_).1
    let s := kk % ((p.sets.length : Int) + 1)
    if kk = 255 ∨ s = p.sets.length ∨ sp.getD s.toNat false = true then ([-1], (rdN by_ at_).2)
    else (p.form s.toNat).foldl (fun acc _ => (acc.1 ++ (prT p by_ k acc.2 (sp.set s.toNat true)).1, (prT p by_ k acc.2 (sp.set s.toNat true)).2)) ([s], (rdN by_ at_).2)

theorem fold_len {p : RProb} {by_ : List Int} {k M : Nat} {sp : List Bool} (h : ∀ a, (prT p by_ k a sp).1.length ≤ M) : ∀ (l : List Int) (acc : List Int × Nat),
    (l.foldl (fun acc _ => (acc.1 ++ (prT p by_ k acc.2 sp).1, (prT p by_ k acc.2 sp).2)) acc).1.length ≤ acc.1.length + l.length * M
  | [], acc => by simp
  | f :: r, acc => by
    have h1 := fold_len h r (acc.1 ++ (prT p by_ k acc.2 sp).1, (prT p by_ k acc.2 sp).2)
    have h2 := h acc.2
    simp only [List.foldl_cons, List.length_cons, List.length_append] at h1 ⊢
    have : (r.length + 1) * M = r.length * M + M := by rw [Nat.add_mul, Nat.one_mul]
    omega
theorem fold_pos {p : RProb} {by_ : List Int} {k : Nat} {sp : List Bool} : ∀ (l : List Int) (acc : List Int × Nat), acc.1.length ≤ (l.foldl (fun acc _ => (acc.1 ++ (prT p by_ k acc.2 sp).1, (prT p by_ k acc.2 sp).2)) acc).1.length
  | [], acc => Nat.le_refl _
  | f :: r, acc => by
    have := fold_pos (p := p) (by_ := by_) (k := k) (sp := sp) r (acc.1 ++ (prT p by_ k acc.2 sp).1, (prT p by_ k acc.2 sp).2)
    simp only [List.foldl_cons, List.length_append] at this ⊢
    omega

theorem get_mid2 {α : Type} (pre : List α) (x : α) (post : List α) : (pre ++ x :: post)[pre.length]? = some x := by simp

theorem prT_at (p : RProb) (by_ : List Int) : ∀ (k at_ : Nat) (sp : List Bool), at_ ≤ by_.length → (prT p by_ k at_ sp).2 ≤ by_.length
  | 0, at_, sp, h => h
  | k + 1, at_, sp, h => by
    have h0 : (rdN by_ at_).2 ≤ by_.length := by
      unfold rdN
      split
      · simp only; omega
      · exact h
    simp only [prT]
    split
    · exact h0
    · have key : ∀ (l : List Int) (sp : List Bool) (acc : List Int × Nat), acc.2 ≤ by_.length → (l.foldl (fun acc _ => (acc.1 ++ (prT p by_ k acc.2 sp).1, (prT p by_ k acc.2 sp).2)) acc).2 ≤ by_.length := by
        intro l sp
        induction l with
        | nil => intro acc h; exact h
        | cons x l ih => intro acc h; exact ih _ (prT_at p by_ k acc.2 sp h)
      exact key _ _ _ h0

section
variable {p : RProb} (hp : p.ok = true) (by_ : List Int)
theorem split_facts {kk s : Int} {n : Nat} (hs : s = kk % ((n : Int) + 1)) (hne : ¬ s = n) : 0 ≤ s ∧ s.toNat < n ∧ (s.toNat : Int) = s := by
  have h1 := Int.emod_nonneg kk (show ((n : Int) + 1) ≠ 0 by omega)
  have h2 := Int.emod_lt_of_pos kk (show 0 < ((n : Int) + 1) by omega)
  omega
include hp
theorem prT_len : ∀ (k z at_ : Nat) (sp : List Bool), sp.length = p.sets.length → zB sp ≤ z → k = z + 1 → (prT p by_ k at_ sp).1.length ≤ tm z ∧ 1 ≤ (prT p by_ k at_ sp).1.length := by
  intro k
  induction k with
  | zero => intro z at_ sp _ _ h; omega
  | succ k ih =>
    intro z at_ sp hl hz hk
    have hpos : ∀ z, 1 ≤ tm z := fun z => by have := tm_le 0 z (Nat.zero_le _); simpa [tm] using this
    simp only [prT]
    split
    · exact ⟨hpos z, Nat.le_refl _⟩
    · rename_i hc
      simp only [not_or] at hc
      obtain ⟨h1, h2, h3⟩ := hc
      obtain ⟨k1, k2, k3⟩ := split_facts (kk := (rdN by_ at_).1) rfl h2
      generalize (rdN by_ at_).1 % ((p.sets.length : Int) + 1) = s at *
      have hz2 := zB_set sp s.toNat (by omega) (by simpa using h3)
      obtain ⟨z', rfl⟩ : ∃ z', z = z' + 1 := ⟨z - 1, by omega⟩
      have hih := fun a => ih z' a (sp.set s.toNat true) (by simpa using hl) (by omega) (by omega)
      have h5 := form_len hp k2
      refine ⟨Nat.le_trans (fold_len (fun a => (hih a).1) _ _) ?_, Nat.le_trans (show 1 ≤ [s].length from Nat.le_refl _) (fold_pos (p.form s.toNat) ([s], (rdN by_ at_).2))⟩
      simp only [tm, List.length_singleton]
      have := Nat.mul_le_mul_right (tm z') h5
      omega

/-- What is made is a tree. -/
theorem prT_tre (cost : Int) : ∀ (k : Nat) (z at_ : Nat) (sp : List Bool) (pre post part : List Int) (K : Nat), sp.length = p.sets.length → part.length = p.sets.length → (∀ j, j < part.length → (part.getD j 0 = 0 ↔ sp.getD j false = false)) → zB sp ≤ z → k = z + 1 → k ≤ K →
    ∃ w, tre p cost (pre ++ (prT p by_ k at_ sp).1 ++ post) K pre.length part = some (pre.length + (prT p by_ k at_ sp).1.length, w) := by
  intro k
  induction k with
  | zero => intro z at_ sp pre post part K _ _ _ _ h; omega
  | succ k ih =>
    intro z at_ sp pre post part K hl hpl hps hz hk hK
    obtain ⟨K', rfl⟩ : ∃ K', K = K' + 1 := ⟨K - 1, by omega⟩
    simp only [prT]
    split
    · refine ⟨if leafW p cost part = true then pre.length else -1, ?_⟩
      simp only [tre, List.append_assoc, List.singleton_append]
      rw [get_mid2 pre (-1) post]
      rfl
    · rename_i hc
      simp only [not_or] at hc
      obtain ⟨h1, h2, h3⟩ := hc
      obtain ⟨k1, k2, k3⟩ := split_facts (kk := (rdN by_ at_).1) rfl h2
      generalize (rdN by_ at_).1 % ((p.sets.length : Int) + 1) = s at *
      have hz2 := zB_set sp s.toNat (by omega) (by simpa using h3)
      obtain ⟨z', rfl⟩ : ∃ z', z = z' + 1 := ⟨z - 1, by omega⟩
      have hnz : ∀ f ∈ p.form s.toNat, f ≠ 0 := fun f hf => by
        have := (form_ne hp k2).2 f hf
        simp only [five, Bool.and_eq_true, decide_eq_true_eq] at this
        omega
      -- the subtrees
      have key : ∀ (l : List Int) (acc : List Int × Nat) (post : List Int) (w : Int), (∀ f ∈ l, f ≠ 0) → ∃ w', tres p cost (pre ++ (l.foldl (fun acc _ => (acc.1 ++ (prT p by_ k acc.2 (sp.set s.toNat true)).1, (prT p by_ k acc.2 (sp.set s.toNat true)).2)) acc).1 ++ post) K' (pre.length + acc.1.length) w s.toNat part l =
          some (pre.length + (l.foldl (fun acc _ => (acc.1 ++ (prT p by_ k acc.2 (sp.set s.toNat true)).1, (prT p by_ k acc.2 (sp.set s.toNat true)).2)) acc).1.length, w') := by
        intro l
        induction l with
        | nil => intro acc post w _; exact ⟨w, by simp [tres]⟩
        | cons f r ihl =>
          intro acc post w hf
          let acc' : List Int × Nat := (acc.1 ++ (prT p by_ k acc.2 (sp.set s.toNat true)).1, (prT p by_ k acc.2 (sp.set s.toNat true)).2)
          -- what comes behind the first subtree
          have pref : ∀ (l : List Int) (a : List Int × Nat), ∃ q, (l.foldl (fun acc _ => (acc.1 ++ (prT p by_ k acc.2 (sp.set s.toNat true)).1, (prT p by_ k acc.2 (sp.set s.toNat true)).2)) a).1 = a.1 ++ q := by
            intro l
            induction l with
            | nil => intro a; exact ⟨[], by simp⟩
            | cons x l ihp =>
              intro a
              obtain ⟨q, hq⟩ := ihp (a.1 ++ (prT p by_ k a.2 (sp.set s.toNat true)).1, (prT p by_ k a.2 (sp.set s.toNat true)).2)
              exact ⟨(prT p by_ k a.2 (sp.set s.toNat true)).1 ++ q, by rw [List.foldl_cons, hq, List.append_assoc]⟩
          obtain ⟨q, hq⟩ := pref r acc'
          have hfold : ((f :: r).foldl (fun acc _ => (acc.1 ++ (prT p by_ k acc.2 (sp.set s.toNat true)).1, (prT p by_ k acc.2 (sp.set s.toNat true)).2)) acc).1 = acc.1 ++ (prT p by_ k acc.2 (sp.set s.toNat true)).1 ++ q := hq
          obtain ⟨w1, h4⟩ := ih z' acc.2 (sp.set s.toNat true) (pre ++ acc.1) (q ++ post) (part.set s.toNat f) K' (by simpa using hl) (by simpa using hpl) (fun j hj => by
            rw [List.length_set] at hj
            by_cases e : s.toNat = j
            · subst e
              rw [getD_set_eq hj]
              have : (sp.set s.toNat true).getD s.toNat false = true := by simp [List.getD_eq_getElem?_getD, List.getElem?_set, show s.toNat < sp.length by omega]
              rw [this]
              simp [hf f (by simp)]
            · rw [getD_set_ne e]
              have : (sp.set s.toNat true).getD j false = sp.getD j false := by simp [List.getD_eq_getElem?_getD, List.getElem?_set, e]
              rw [this]
              exact hps j hj) (by omega) (by omega) (by omega)
          obtain ⟨w2, h5⟩ := ihl acc' post (if w < 0 then w1 else w) fun g hg => hf g (by simp [hg])
          refine ⟨w2, ?_⟩
          rw [hfold]
          have e1 : pre ++ (acc.1 ++ (prT p by_ k acc.2 (sp.set s.toNat true)).1 ++ q) ++ post = pre ++ acc.1 ++ (prT p by_ k acc.2 (sp.set s.toNat true)).1 ++ (q ++ post) := by simp [List.append_assoc]
          simp only [tres]
          rw [e1]
          rw [List.length_append] at h4
          rw [h4]
          simp only
          rw [hq] at h5
          have e2 : pre ++ acc.1 ++ (prT p by_ k acc.2 (sp.set s.toNat true)).1 ++ (q ++ post) = pre ++ (acc'.1 ++ q) ++ post := by simp [acc', List.append_assoc]
          have e3 : pre.length + acc.1.length + (prT p by_ k acc.2 (sp.set s.toNat true)).1.length = pre.length + acc'.1.length := by simp [acc']; omega
          rw [e2, e3, h5]
      obtain ⟨w', hw'⟩ := key (p.form s.toNat) ([s], (rdN by_ at_).2) post (-1) hnz
      refine ⟨w', ?_⟩
      -- the first number
      have hfirst : ∃ q, ((p.form s.toNat).foldl (fun acc _ => (acc.1 ++ (prT p by_ k acc.2 (sp.set s.toNat true)).1, (prT p by_ k acc.2 (sp.set s.toNat true)).2)) ([s], (rdN by_ at_).2)).1 = s :: q := by
        have : ∀ (l : List Int) (a : List Int × Nat), ∃ q, (l.foldl (fun acc _ => (acc.1 ++ (prT p by_ k acc.2 (sp.set s.toNat true)).1, (prT p by_ k acc.2 (sp.set s.toNat true)).2)) a).1 = a.1 ++ q := by
          intro l
          induction l with
          | nil => intro a; exact ⟨[], by simp⟩
          | cons x l ihp =>
            intro a
            obtain ⟨q, hq⟩ := ihp (a.1 ++ (prT p by_ k a.2 (sp.set s.toNat true)).1, (prT p by_ k a.2 (sp.set s.toNat true)).2)
            exact ⟨(prT p by_ k a.2 (sp.set s.toNat true)).1 ++ q, by rw [List.foldl_cons, hq, List.append_assoc]⟩
        obtain ⟨q, hq⟩ := this (p.form s.toNat) ([s], (rdN by_ at_).2)
        exact ⟨q, hq⟩
      generalize ((p.form s.toNat).foldl (fun acc _ => (acc.1 ++ (prT p by_ k acc.2 (sp.set s.toNat true)).1, (prT p by_ k acc.2 (sp.set s.toNat true)).2)) ([s], (rdN by_ at_).2)).1 = T at *
      obtain ⟨q, rfl⟩ := hfirst
      simp only [tre]
      have e0 : (pre ++ (s :: q) ++ post)[pre.length]? = some s := by simp
      rw [e0]
      simp only
      rw [if_neg (by omega), if_pos ⟨k1, by omega, (hps s.toNat (by omega)).2 (by simpa using h3)⟩]
      exact hw'
end
end Go.Vi
end

section
/- Vi: layer 11: trees of splits by numbers: the function of the law. No conditions but those that stand with each. -/
namespace Go.Vi
open Go Go.Lib Go.Proofs
set_option maxRecDepth 100000
attribute [local simp] E_skip E_ret E_exit E_text E_draw E_seq E_cond E_block E_scope E_loop runOps runOp runDraw runVF runV finV gate FlOK wantD exec fin opd look putF norm constD constC fieldAddrD loadD storeD opCall lenD binD isShift intP strP numD indexAddrD indexD D.pd? D.pds? sub capsOf callD argsD argD D.nf unP cellD mkF H00 cD_agg cD_pagg cD_int cD_bool cD_str cD_sl cD_lit cells_encS cells_encU cells_encW cells_encR box_encU box_encW box_encR encU_agg encR_agg encW_agg cells_int one_int buildSliceD elsD splice
attribute [local simp] fnOut retOut resD retsD retD oneD D.noRefs D.noRef alone Hp.cut newRow Hp.live convD

theorem numbers33_W (l : List PD) (H : Hp) (hH : (H.B.take H.B.length).all (blkNo H.B.length H.A.length) = true) : ∃ A', W 33 [.lit false l] H = some (.ret (.lit false l), ⟨H.B, A'⟩) ∧ A' = H.A := by
  obtain ⟨B, A⟩ := H
  refine ⟨A, W33_ofN (by rintro ⟨h, _⟩; revert h; decide) (by simp) ?_, rfl⟩
  simp only [List.take_length] at hH
  simp [code33, Tryz.f33, fnOutN, retOutN, retsN, retN]
  intro x hx
  exact List.all_eq_true.1 hH x hx

theorem clone50_W (l : List Bool) (hne : ¬ l = []) (hl : l.length ≤ 100) (B : List Blk) (A : List Arr) :
    W 50 [.p (.sl (l.map .bool))] ⟨B, A⟩ = some (.ret (.own (A.length + 1) 0), ⟨B, A ++ [⟨0, 4, 1, true, false, []⟩, ⟨0, 4, 1, false, false, l.map .bool⟩]⟩) := by
  refine W50_ofO (by rintro ⟨h, _⟩; revert h; decide) (by simp) ?_
  have hb : l.length ≤ 140737488355328 := by omega
  have hf : fits 1 (l.map PD.bool) = true := by
    simp only [fits, List.all_eq_true, List.mem_map]
    rintro _ ⟨x, _, rfl⟩
    rfl
  have hm : l.map PD.bool ≠ [] := by simpa using hne
  obtain ⟨x, r, rfl⟩ : ∃ x r, l = x :: r := by
    cases l with
    | nil => exact absurd rfl hne
    | cons x r => exact ⟨x, r, rfl⟩
  simp only [List.map_cons, List.length_cons] at hf hb ⊢
  have hf0 : fits 1 [] = true := rfl
  have hb' : r.length + 1 ≤ 140737488355328 := hb
  simp [code50, Tryz.f50, appendD, srcD, hf, hf0, nilD, isNil, hb', fnOutO]

/-- Numbers so far: as they were laid, or a row of the call's own. -/
def DRow (A : List Arr) (d : D) (L : List Int) : Prop := d = .lit false (L.map iP) ∨ ∃ k ver, d = .own k ver ∧ A[k]? = some ⟨ver, 3, 1, false, true, L.map iP⟩
/-- It is no older than so many rows. -/
def Newer (n : Nat) (d : D) : Prop := ∀ j v, d = .own j v → n ≤ j
theorem DRow.cut {A : List Arr} {d : D} {L : List Int} {nB nA : Nat} (h : DRow A d L) (hn : D.noRef nB nA d = true) : DRow (A.take nA) d L := by
  rcases h with h | ⟨k, ver, rfl, h⟩
  · exact .inl h
  · simp only [D.noRef, decide_eq_true_eq] at hn
    exact .inr ⟨k, ver, rfl, by rw [List.getElem?_take, if_pos hn]; exact h⟩
theorem DRow.set {A : List Arr} {d : D} {L : List Int} {j : Nat} {x : Arr} (h : DRow A d L) (hj : ∀ v, d ≠ .own j v) : DRow (A.set j x) d L := by
  rcases h with h | ⟨k, ver, rfl, h⟩
  · exact .inl h
  · have : j ≠ k := fun e => hj ver (by rw [e])
    exact .inr ⟨k, ver, rfl, by rw [List.getElem?_set_ne this]; exact h⟩
theorem DRow.app {A : List Arr} {d : D} {L : List Int} (h : DRow A d L) (B : List Blk) (T : List Int) (hne : T ≠ []) (hlen : (L.length + T.length) * 8 ≤ 140737488355328) :
    ∃ d' A', appendD Tryz.prog false ⟨B, A⟩ 49 d (.p (.sl (T.map iP))) = some (.val d' ⟨B, A'⟩) ∧ DRow A' d' (L ++ T) ∧ (∀ j ar, A[j]? = some ar → (∀ v, d ≠ .own j v) → A'[j]? = some ar ∧ ∀ v, d' ≠ .own j v) ∧
      ∀ A0, (∃ Y, A = A0 ++ Y) → Newer A0.length d → (∃ Y, A' = A0 ++ Y) ∧ Newer A0.length d' := by
  have f1 := fit_i L
  have f2 := fit_i T
  have hm : (T.map iP).isEmpty = false := by cases T with | nil => exact absurd rfl hne | cons => rfl
  rcases h with rfl | ⟨k, ver, rfl, h⟩
  · refine ⟨.own A.length 0, A ++ [⟨0, 3, 1, false, true, L.map iP ++ T.map iP⟩], ?_, .inr ⟨_, _, rfl, by simp⟩, fun j ar hj _ => ⟨by rw [List.getElem?_append_left (List.getElem?_eq_some_iff.1 hj).1]; exact hj, fun v e => ?_⟩, fun A0 ⟨Y, hY⟩ _ => ⟨⟨Y ++ [⟨0, 3, 1, false, true, L.map iP ++ T.map iP⟩], by rw [hY, List.append_assoc]⟩, fun j v e => ?_⟩⟩
    · simp [appendD, srcD, f1, f2, hm, hne, hlen]
    · injection e with e1 e2
      have := (List.getElem?_eq_some_iff.1 hj).1
      omega
    · injection e with e1 e2
      rw [hY, List.length_append] at e1
      omega
  · have hk := (List.getElem?_eq_some_iff.1 h).1
    refine ⟨.own k (ver + 1), A.set k ⟨ver + 1, 3, 1, false, true, L.map iP ++ T.map iP⟩, ?_, .inr ⟨_, _, rfl, by simp [hk]⟩, fun j ar hj hd => ⟨?_, fun v e => ?_⟩, fun A0 ⟨Y, hY⟩ hn => ⟨⟨Y.set (k - A0.length) ⟨ver + 1, 3, 1, false, true, L.map iP ++ T.map iP⟩, ?_⟩, fun j v e => ?_⟩⟩
    · simp [appendD, srcD, f2, hm, hne, hlen, h]
    · have : k ≠ j := fun e => hd ver (by rw [e])
      rw [List.getElem?_set_ne this]; exact hj
    · injection e with e1 e2
      exact hd ver (by rw [e1])
    · rw [hY, List.set_append_right _ _ (hn k ver rfl)]
    · injection e with e1 e2
      subst e1
      exact hn _ ver rfl

def bN (a : Nat) : Blk := .cells [.p (iP a)]
section
variable (p : RProb) (hp : p.ok = true) (by_ : List Int) (i : Nat) (B : List Blk) (hi : i < B.length)
def Bq (a : Nat) : List Blk := B.set i (bN a) ++ [bR p]
def rwS (fz : Bool) (sp : List Bool) : Arr := ⟨0, 4, 1, false, fz, sp.map .bool⟩
def fr14 (ks : Nat) (d : D) (n q : Nat) : Fr := [(1, .p (.sl (by_.map b8))), (2, .ptr i 0), (3, .own ks 0), (4, .ptr B.length 0), (11, d), (67, .p (iP n)), (68, .p (iP q))]

theorem bq_get (hi : i < B.length) (a : Nat) : (Bq p i B a)[i]? = some (bN a) ∧ (Bq p i B a)[B.length]? = some (bR p) := by
  constructor
  · simp only [Bq]
    rw [List.getElem?_append_left (by simpa using hi)]
    simp [hi]
  · simp only [Bq]
    rw [List.getElem?_append_right (by simp)]
    simp
theorem bq_set (hi : i < B.length) (a b : Nat) : (Bq p i B a).set i (bN b) = Bq p i B b := by
  simp only [Bq]
  rw [List.set_append_left _ _ (by simpa using hi), List.set_set]
theorem bq_len (a : Nat) : (Bq p i B a).length = B.length + 1 := by simp [Bq]

/-- What one call does. -/
def Calls14 (k : Nat) (sp : List Bool) : Prop := ∀ (i : Nat) (B : List Blk) (A : List Arr) (a : Nat), B[i]? = some (bN a) → (∀ m n, B.all (blkNo m n) = true) → a ≤ by_.length →
  W 14 [.p (encR p), .p (.sl (by_.map b8)), .ptr i 0, .p (.sl (sp.map .bool))] ⟨B, A⟩ = some (.ret (.p (.sl ((prT p by_ k a sp).1.map iP))), ⟨B.set i (bN (prT p by_ k a sp).2), A⟩)

structure St14 (A0 A : List Arr) (ks : Nat) (d : D) (L : List Int) (sp : List Bool) (fz : Bool) : Prop where
  pre : ∃ Y, A = A0 ++ Y
  le : A0.length ≤ ks
  row : A[ks]? = some (rwS fz sp)
  out : DRow A d L
  ne : ∀ v, d ≠ .own ks v
  new : Newer A0.length d

theorem pre_set {A A0 : List Arr} {k : Nat} {x : Arr} (h : ∃ Y, A = A0 ++ Y) (hk : A0.length ≤ k) : ∃ Y, A.set k x = A0 ++ Y := by
  obtain ⟨Y, rfl⟩ := h
  exact ⟨_, List.set_append_right _ _ hk⟩
theorem pre_take {A A0 : List Arr} {n : Nat} (h : ∃ Y, A = A0 ++ Y) (hn : A0.length ≤ n) : ∃ Y, A.take n = A0 ++ Y := by
  obtain ⟨Y, rfl⟩ := h
  exact ⟨Y.take (n - A0.length), by rw [List.take_append, List.take_of_length_le hn]⟩

theorem all_set {B : List Blk} {i : Nat} {b : Blk} (h : ∀ m n, B.all (blkNo m n) = true) (hb : ∀ m n, blkNo m n b = true) (m n : Nat) : (B.set i b).all (blkNo m n) = true := by
  rw [List.all_eq_true]
  intro x hx
  rcases List.mem_or_eq_of_mem_set hx with h1 | rfl
  · exact List.all_eq_true.1 (h m n) x h1
  · exact hb m n

include hi in
theorem round14 (hnb : ∀ m n, B.all (blkNo m n) = true) (k ks n q a : Nat) (d : D) (L : List Int) (sp : List Bool) (fz : Bool) (A0 A : List Arr) (hq : q < n) (hn : n ≤ 5) (ha : a ≤ by_.length) (hc : Calls14 p by_ k sp) (hT : 1 ≤ (prT p by_ k a sp).1.length ∧ (prT p by_ k a sp).1.length ≤ 4000) (hL : L.length ≤ 100000)
    (hs : St14 A0 A ks d L sp fz) : ∃ d' A', E false ⟨0, 0⟩ 14 lp14_0 (fr14 by_ i B ks d n q) ⟨Bq p i B a, A⟩ = some (.normal, fr14 by_ i B ks d' n (q + 1), ⟨Bq p i B (prT p by_ k a sp).2, A'⟩) ∧ St14 A0 A' ks d' (L ++ (prT p by_ k a sp).1) sp true := by
  obtain ⟨h1, h2, h3, h4, h5, h6⟩ := hs
  have hw : IntKind.i64.wrap ((q : Int) + 1) = (q : Int) + 1 := wrap64 (by omega) (by omega)
  have hks := (List.getElem?_eq_some_iff.1 h3).1
  obtain ⟨g1, g2⟩ := bq_get p i B hi a
  have hnq : ∀ m n, (Bq p i B a).all (blkNo m n) = true := all_snoc (all_set hnb fun m n => rfl) fun m n => rfl
  -- the row of the sets that are split is not written any more
  obtain ⟨A1, hA1, h3', h4', h1'⟩ : ∃ A1, (if fz = true then A else A.set ks ⟨0, 4, 1, false, true, sp.map .bool⟩) = A1 ∧ A1[ks]? = some (rwS true sp) ∧ DRow A1 d L ∧ ∃ Y, A1 = A0 ++ Y := by
    cases fz with
    | false => exact ⟨_, rfl, by simp [hks, rwS], h4.set h5, pre_set h1 h2⟩
    | true => exact ⟨_, rfl, h3, h4, h1⟩
  have hcall := hc i (Bq p i B a) A1 a g1 hnq ha
  rw [bq_set p i B hi] at hcall
  have hne : (prT p by_ k a sp).1 ≠ [] := by intro e; rw [e] at hT; simp at hT
  obtain ⟨d', A2, k1, k2, k3, k4⟩ := h4'.app (Bq p i B (prT p by_ k a sp).2) (prT p by_ k a sp).1 hne (by omega)
  obtain ⟨k5, k6⟩ := k3 ks _ h3' h5
  obtain ⟨k7, k8⟩ := k4 A0 h1' h6
  refine ⟨d', A2, ?_, k7, h2, k5, k2, k6, k8⟩
  generalize prT p by_ k a sp = T at *
  simp only [bR] at g2
  simp only [rwS] at hcall h3
  generalize Bq p i B a = Bx at *
  generalize Bq p i B T.2 = By at *
  cases fz with
  | false =>
    simp only [Bool.false_eq_true, if_false] at hA1
    simp [lp14_0, code14, Tryz.f14, fr14, hq, hw, g2, h3, hA1, hcall, k1]
  | true =>
    simp only [if_true] at hA1
    subst hA1
    simp [lp14_0, code14, Tryz.f14, fr14, hq, hw, g2, h3, hcall, k1]

/-- The trees of all forms, one behind the other. -/
def accT (p : RProb) (by_ : List Int) (k : Nat) (sp : List Bool) (s : Int) (a1 : Nat) (l : List Int) : List Int × Nat :=
  l.foldl (fun acc _ => (acc.1 ++ (prT p by_ k acc.2 sp).1, (prT p by_ k acc.2 sp).2)) ([s], a1)

include hi in
theorem loop14 (hnb : ∀ m n, B.all (blkNo m n) = true) (k ks a1 : Nat) (s : Int) (F : List Int) (hF : F.length ≤ 5) (sp : List Bool) (A0 A : List Arr) (ha : a1 ≤ by_.length) (hc : Calls14 p by_ k sp) (hT : ∀ a, 1 ≤ (prT p by_ k a sp).1.length ∧ (prT p by_ k a sp).1.length ≤ 4000)
    (hs : St14 A0 A ks (.lit false [iP s]) [s] sp false) : ∃ d' A', loopO false ⟨0, 0⟩ 14 lp14_0 (B.length + 1) A.length (fr14 by_ i B ks (.lit false [iP s]) F.length 0) ⟨Bq p i B a1, A⟩ = some (.exit 0, fr14 by_ i B ks d' F.length F.length ++ [(69, .p (.bool false))], ⟨Bq p i B (accT p by_ k sp s a1 F).2, A'⟩) ∧
      DRow A' d' (accT p by_ k sp s a1 F).1 ∧ Newer A0.length d' ∧ ∃ Y, A' = A0 ++ Y := by
  have hA0 : A0.length ≤ A.length := by
    obtain ⟨Y, h⟩ := hs.pre
    rw [h]; simp
  have hlen : ∀ q, (accT p by_ k sp s a1 (F.take q)).1.length ≤ 1 + (F.take q).length * 4000 := fun q => fold_len (fun a => (hT a).2) _ _
  have hat : ∀ q, (accT p by_ k sp s a1 (F.take q)).2 ≤ by_.length := by
    intro q
    unfold accT
    have key : ∀ (l : List Int) (acc : List Int × Nat), acc.2 ≤ by_.length → (l.foldl (fun acc _ => (acc.1 ++ (prT p by_ k acc.2 sp).1, (prT p by_ k acc.2 sp).2)) acc).2 ≤ by_.length := by
      intro l
      induction l with
      | nil => intro acc h; exact h
      | cons x l ih => intro acc h; exact ih _ (prT_at p by_ k acc.2 sp h)
    exact key _ _ ha
  obtain ⟨o, h1, d', A', h2, h3⟩ := for_inv (mu := false) (m := ⟨0, 0⟩) (f := 14) (c := lp14_0) (nB := B.length + 1) (nA := A.length) hd14_0 F.length
    (fun q F1 H1 => ∃ d1 A1 fz, F1 = fr14 by_ i B ks d1 F.length q ∧ H1 = ⟨Bq p i B (accT p by_ k sp s a1 (F.take q)).2, A1⟩ ∧ St14 A0 A1 ks d1 (accT p by_ k sp s a1 (F.take q)).1 sp fz)
    (fun o => ∃ d' A', o = (.exit 0, fr14 by_ i B ks d' F.length F.length ++ [(69, .p (.bool false))], ⟨Bq p i B (accT p by_ k sp s a1 F).2, A'⟩) ∧ DRow A' d' (accT p by_ k sp s a1 F).1 ∧ Newer A0.length d' ∧ ∃ Y, A' = A0 ++ Y)
    (fun F1 H1 ⟨d1, A1, fz, hf, hh, hst⟩ => by
      subst hf; subst hh
      rw [List.take_length] at hst ⊢
      refine ⟨_, ?_, by simp, d1, A1, rfl, hst.out, hst.new, hst.pre⟩
      simp [lp14_0, code14, Tryz.f14, fr14])
    (fun q F1 H1 hq ⟨d1, A1, fz, hf, hh, hst⟩ => by
      subst hf; subst hh
      have hl := hlen q
      have hq5 : (F.take q).length ≤ 5 := by simp; omega
      obtain ⟨d2, A2, r1, r2⟩ := round14 p by_ i B hi hnb k ks F.length q (accT p by_ k sp s a1 (F.take q)).2 d1 _ sp fz A0 A1 hq hF (hat q) hc (hT _) (by omega) hst
      have e : accT p by_ k sp s a1 (F.take (q + 1)) = ((accT p by_ k sp s a1 (F.take q)).1 ++ (prT p by_ k (accT p by_ k sp s a1 (F.take q)).2 sp).1, (prT p by_ k (accT p by_ k sp s a1 (F.take q)).2 sp).2) := by
        unfold accT
        rw [List.take_succ_eq_append_getElem hq, List.foldl_append]; rfl
      refine ⟨_, _, r1, ?_⟩
      obtain ⟨H3, g1, g2⟩ := cutD_or ⟨0, 0⟩ [1, 2, 3, 4, 11, 67, 68] (B.length + 1) A.length (fr14 by_ i B ks d2 F.length (q + 1)) ⟨Bq p i B (prT p by_ k (accT p by_ k sp s a1 (F.take q)).2 sp).2, A2⟩
      refine ⟨_, H3, g1, d2, H3.A, true, rfl, ?_⟩
      rw [e]
      rcases g2 with rfl | ⟨rfl, g2, _⟩
      · exact ⟨rfl, r2⟩
      · simp [frNo, fr14] at g2
        refine ⟨by rw [List.take_of_length_le (by rw [bq_len]; exact Nat.le_refl _)], pre_take r2.pre hA0, r2.le, ?_, r2.out.cut g2.2.2, r2.ne, r2.new⟩
        rw [List.getElem?_take, if_pos g2.2.1]
        exact r2.row)
    (F := fr14 by_ i B ks (.lit false [iP s]) F.length 0) (H := ⟨Bq p i B a1, A⟩) (F0 := fr14 by_ i B ks (.lit false [iP s]) F.length 0) (H0 := ⟨Bq p i B a1, A⟩)
    (by rw [show (B.length + 1) = (Bq p i B a1).length from (bq_len p i B a1).symm]; exact cut_full ⟨0, 0⟩ _ _ ⟨Bq p i B a1, A⟩) ⟨_, A, false, rfl, rfl, hs⟩
  exact ⟨d', A', by rw [h1, h2], h3⟩
end
end Go.Vi
end

section
/- Vi: layer 11: trees of splits by numbers: the whole function. No conditions but those that stand with each. -/
namespace Go.Vi
open Go Go.Lib Go.Proofs
set_option maxRecDepth 100000
attribute [local simp] E_skip E_ret E_exit E_text E_draw E_seq E_cond E_block E_scope E_loop runOps runOp runDraw runVF runV finV gate FlOK wantD exec fin opd look putF norm constD constC fieldAddrD loadD storeD opCall lenD binD isShift intP strP numD indexAddrD indexD D.pd? D.pds? sub capsOf callD argsD argD D.nf unP cellD mkF H00 cD_agg cD_pagg cD_int cD_bool cD_str cD_sl cD_lit cells_encS cells_encU cells_encW cells_encR box_encU box_encW box_encR encU_agg encR_agg encW_agg cells_int one_int buildSliceD elsD splice
attribute [local simp] fnOut retOut resD retsD retD oneD D.noRefs D.noRef alone Hp.cut newRow Hp.live convD

theorem cells_bool (b : Bool) : (PD.bool b).cells = [PD.bool b] := rfl
theorem one_bool (b : Bool) : (PD.bool b).one = true := rfl
attribute [local simp] cells_bool one_bool
theorem ge3 {α : Type} (A : List α) (x y z : α) : (A ++ [x, y, z])[A.length + 1 + 1]? = some z := by rw [List.getElem?_append_right (by omega), show A.length + 1 + 1 - A.length = 2 by omega]; rfl
theorem st3 {α : Type} (A : List α) (x y z w : α) : (A ++ [x, y, z]).set (A.length + 1 + 1) w = A ++ [x, y, w] := by rw [List.set_append_right _ _ (by omega), show A.length + 1 + 1 - A.length = 2 by omega]; rfl
attribute [local simp 2000] ge3 st3
section
variable (p : RProb) (hp : p.ok = true) (by_ : List Int)
theorem fin14 (i : Nat) (B : List Blk) (A : List Arr) (hi : i < B.length) (hnb : ∀ m n, B.all (blkNo m n) = true) (d : D) (L : List Int) (A' : List Arr) (a : Nat) (h1 : DRow A' d L) (h2 : Newer A.length d) (h3 : ∃ Y, A' = A ++ Y) :
    fnOut Tryz.prog [.tmp 8] B.length A.length (some (.ret, [(8, d)], ⟨Bq p i B a, A'⟩)) = some (.ret (.p (.sl (L.map iP))), ⟨B.set i (bN a), A⟩) := by
  obtain ⟨Y, rfl⟩ := h3
  have hb := all_set (i := i) (b := bN a) hnb (fun m n => rfl) B.length A.length
  have ht : (Bq p i B a).take B.length = B.set i (bN a) := by simp [Bq, List.take_append]
  have hA : (A ++ Y).take A.length = A := by simp
  have hall : ∀ x ∈ B.set i (bN a), blkNo B.length A.length x = true := fun x hx => List.all_eq_true.1 hb x hx
  rcases h1 with rfl | ⟨k, ver, rfl, h⟩
  · simp [ht]
    intro x hx hc
    rw [hall x hx] at hc
    cases hc
  · have hk := h2 k ver rfl
    have hk' : ¬ k < A.length := by omega
    simp [ht, hk', frz_own, h]
    intro x hx hc
    rw [hall x hx] at hc
    cases hc

theorem leaf_row : DRow ([] : List Arr) (.lit false [iP (-1)]) [-1] := .inl rfl

set_option maxHeartbeats 4000000 in
include hp in
theorem proof14_W (h1n : 1 ≤ p.sets.length) (hby : ∀ x ∈ by_, 0 ≤ x ∧ x < 256) (hbl : by_.length ≤ 1000) : ∀ (k z : Nat) (sp : List Bool), sp.length = p.sets.length → zB sp ≤ z → k = z + 1 → z ≤ 5 → Calls14 p by_ k sp := by
  intro k
  induction k with
  | zero => intro z sp _ _ h; omega
  | succ k ih =>
    intro z sp hl hz hk hz5 i B A a hbi hnb ha
    obtain ⟨hf, h5, h30, h10, hfl⟩ := ok_fine hp
    have hi := (List.getElem?_eq_some_iff.1 hbi).1
    refine W_ofH Tryz.func14 rfl (by kernel_rfl) rfl rfl rfl rfl (by simp [D.noRef, D.noRefs]) (by rw [Tryz.ntmps14]; simp) (c := code14) ?_
    rw [rs14]
    -- the blocks
    obtain ⟨g1, g2⟩ := bq_get p i B hi a
    have hBa : B ++ [bR p] = Bq p i B a := by
      have : B.set i (bN a) = B := by
        have := (List.getElem?_eq_some_iff.1 hbi).2
        rw [← this, List.set_getElem_self]
      simp only [Bq, this]
    have hset := bq_set p i B hi a (a + 1)
    obtain ⟨u1, u2⟩ := bq_get p i B hi (a + 1)
    have wn : IntKind.i64.wrap ((p.sets.length : Int) + 1) = (p.sets.length : Int) + 1 := wrap64 (by omega) (by omega)
    have wa : IntKind.i64.wrap ((a : Int) + 1) = (a : Int) + 1 := wrap64 (by omega) (by omega)
    have nn : ¬ ((p.sets.length : Int) + 1 = 0) := by omega
    have hA0 : ∃ Y, A ++ [(⟨0, 3, 1, true, true, []⟩ : Arr)] = A ++ Y := ⟨_, rfl⟩
    have hleaf : ∀ b, fnOut Tryz.prog [.tmp 8] B.length A.length (some (.ret, [(8, .lit false [iP (-1)])], ⟨Bq p i B b, A ++ [(⟨0, 3, 1, true, true, []⟩ : Arr)]⟩)) = some (.ret (.p (.sl (([-1] : List Int).map iP))), ⟨B.set i (bN b), A⟩) :=
      fun b => fin14 p i B A hi hnb _ _ _ b (.inl rfl) (fun j v h => by cases h) hA0
    have hnq : ∀ b, ((Bq p i B b).take (Bq p i B b).length).all (blkNo (Bq p i B b).length (A ++ [(⟨0, 3, 1, true, true, []⟩ : Arr)]).length) = true := fun b => by
      rw [List.take_length]
      exact all_snoc (all_set hnb fun m n => rfl) (fun m n => rfl) _ _
    have h33 := fun (l : List PD) b => (numbers33_W l ⟨Bq p i B b, A ++ [(⟨0, 3, 1, true, true, []⟩ : Arr)]⟩ (hnq b))
    have h33' : ∀ (l : List PD) b, W 33 [.lit false l] ⟨Bq p i B b, A ++ [(⟨0, 3, 1, true, true, []⟩ : Arr)]⟩ = some (.ret (.lit false l), ⟨Bq p i B b, A ++ [(⟨0, 3, 1, true, true, []⟩ : Arr)]⟩) := fun l b => by
      obtain ⟨A', e1, e2⟩ := h33 l b
      rw [e1, e2]
    have hca : ((a + 1 : Nat) : Int) = (a : Int) + 1 := rfl
    simp only [bN, bR, hca] at g1 g2 hBa hset u1 u2
    simp only [prT]
    by_cases hlt : a < by_.length
    · have hrd : rdN by_ a = (by_.getD a 0, a + 1) := by simp [rdN, hlt]
      have hga : by_.getD a 0 = by_[a] := by simp [List.getD_eq_getElem?_getD, hlt]
      rw [hrd, hga]
      have hx := hby _ (List.getElem_mem hlt)
      generalize hxe : by_[a] = x at hx ⊢
      have wx : IntKind.i64.wrap x = x := wrap64 (by omega) (by omega)
      have tx : x.tmod ((p.sets.length : Int) + 1) = x % ((p.sets.length : Int) + 1) := Int.tmod_eq_emod_of_nonneg hx.1
      simp only
      by_cases h255 : x = 255
      · rw [if_pos (.inl h255)]
        refine Eq.trans ?_ (hleaf (a + 1))
        congr 1
        show E false ⟨0, 0⟩ 14 code14 _ _ = _
        subst h255
        have tx' : Int.tmod 255 ((p.sets.length : Int) + 1) = 255 % ((p.sets.length : Int) + 1) := tx
        simp [code14, Tryz.f14, hBa, g1, g2, hlt, hxe, wx, wa, wn, nn, tx', hset, u1, u2, h33']
      · obtain ⟨s, hs⟩ : ∃ s, s = x % ((p.sets.length : Int) + 1) := ⟨_, rfl⟩
        rw [← hs] at tx ⊢
        have hsn := Int.emod_nonneg x nn
        rw [← hs] at hsn
        by_cases hsl : s = p.sets.length
        · rw [if_pos (.inr (.inl hsl))]
          refine Eq.trans ?_ (hleaf (a + 1))
          congr 1
          show E false ⟨0, 0⟩ 14 code14 _ _ = _
          simp [code14, Tryz.f14, hBa, g1, g2, hlt, hxe, wx, wa, wn, nn, tx, h255, hsl, hset, u1, u2, h33']
        · obtain ⟨k1, k2, k3⟩ := split_facts hs hsl
          have k2' : s.toNat < sp.length := by omega
          have hgs : sp.getD s.toNat false = sp[s.toNat] := by simp [List.getD_eq_getElem?_getD, k2']
          cases hsp : sp[s.toNat] with
          | true =>
            rw [if_pos (.inr (.inr (by rw [hgs, hsp])))]
            refine Eq.trans ?_ (hleaf (a + 1))
            congr 1
            show E false ⟨0, 0⟩ 14 code14 _ _ = _
            simp [code14, Tryz.f14, hBa, g1, g2, hlt, hxe, wx, wa, wn, nn, tx, h255, hsl, hset, u1, u2, h33', hsn, k2', hsp]
          | false =>
            rw [if_neg (by rw [hgs, hsp]; simp [h255, hsl])]
            have hz2 := zB_set sp s.toNat k2' (by rw [hgs, hsp])
            obtain ⟨z', rfl⟩ : ∃ z', z = z' + 1 := ⟨z - 1, by omega⟩
            have hcall := ih z' (sp.set s.toNat true) (by simpa using hl) (by omega) (by omega) (by omega)
            have hT := fun b => prT_len hp by_ k z' b (sp.set s.toNat true) (by simpa using hl) (by omega) (by omega)
            have htm : tm z' ≤ 4000 := Nat.le_trans (tm_le z' 5 (by omega)) (by decide)
            have hF := form_len hp k2
            have hFe : p.form s.toNat = (p.sets[s.toNat]).forms := by simp [RProb.form, List.getD_eq_getElem?_getD, k2]
            have hne : ¬ sp = [] := by intro e; rw [e] at k2'; simp at k2'
            have h50 := fun b => clone50_W sp hne (by omega) (Bq p i B b) (A ++ [(⟨0, 3, 1, true, true, []⟩ : Arr)])
            have hs14 : St14 A (A ++ [(⟨0, 3, 1, true, true, []⟩ : Arr), ⟨0, 4, 1, true, false, []⟩, rwS false (sp.set s.toNat true)]) (A.length + 1 + 1) (.lit false [iP s]) [s] (sp.set s.toNat true) false :=
              ⟨⟨_, rfl⟩, by omega, by rw [List.getElem?_append_right (by omega), show A.length + 1 + 1 - A.length = 2 by omega]; rfl, .inl rfl, (fun v h => by cases h), (fun j v h => by cases h)⟩
            obtain ⟨d', A', l1, l2, l3, l4⟩ := loop14 p by_ i B hi hnb k (A.length + 1 + 1) (a + 1) s (p.form s.toNat) hF (sp.set s.toNat true) A _ (by omega) hcall (fun b => ⟨(hT b).2, Nat.le_trans (hT b).1 htm⟩) hs14
            refine Eq.trans ?_ (fin14 p i B A hi hnb d' _ A' _ l2 l3 l4)
            congr 1
            show E false ⟨0, 0⟩ 14 code14 _ _ = _
            rw [← bq_len p i B (a + 1)] at l1
            have h33s := h33' [iP s] (a + 1)
            have hsI : s < (sp.length : Int) := by omega
            have hsJ : s < (p.sets.length : Int) := by omega
            have h50s := h50 (a + 1)
            simp only [fr14, bN, bR, hFe, rwS] at l1
            generalize Bq p i B (a + 1) = Bb at *
            simp [lp14_0, code14, Tryz.f14] at l1
            simp [code14, Tryz.f14, hBa, g1, g2, hlt, hxe, wx, wa, wn, nn, tx, h255, hsl, hset, u1, u2, h33s, hsn, k2', hsp, h50s, k2, hFe, setEl, hsI, hsJ, l1]
            rfl
    · have hrd : rdN by_ a = (255, a) := by simp [rdN, hlt]
      rw [hrd]
      have tx : Int.tmod 255 ((p.sets.length : Int) + 1) = 255 % ((p.sets.length : Int) + 1) := Int.tmod_eq_emod_of_nonneg (by omega)
      rw [if_pos (.inl rfl)]
      refine Eq.trans ?_ (hleaf a)
      congr 1
      show E false ⟨0, 0⟩ 14 code14 _ _ = _
      simp [code14, Tryz.f14, hBa, g1, g2, hlt, wn, nn, tx, h33']
end
end Go.Vi
end

section
/- Representations (layer 11), outright: what the law on bounds asks, in plain Lean. No conditions but those that stand with each. -/
namespace Go.Vi
set_option maxRecDepth 10000

theorem five_ne {x : Int} (h : five x = true) : x ≠ 0 := by
  simp only [five, Bool.and_eq_true, decide_eq_true_eq] at h
  omega
theorem total_nonneg {p : RProb} (hp : p.ok = true) (c : List Int) : 0 ≤ total p c := by
  have key : ∀ (l : List RUse) (s : Int), 0 ≤ s → (∀ u ∈ l, u ∈ p.uses) → 0 ≤ sumU (fun u => once p u (c.getD u.a.toNat 0) (c.getD u.b.toNat 0)) s l := by
    intro l
    induction l with
    | nil => intro s h _; exact h
    | cons u r ih =>
      intro s h hu
      refine ih _ ?_ fun v hv => hu v (by simp [hv])
      have h1 := (once_bd hp u (c.getD u.a.toNat 0) (c.getD u.b.toNat 0)).1
      have h2 := (ok_use hp (hu u (by simp))).1
      have h3 := Int.mul_nonneg h2 h1
      show 0 ≤ s + u.t * once p u (c.getD u.a.toNat 0) (c.getD u.b.toNat 0)
      omega
  exact key _ _ (Int.le_refl _) fun u hu => hu

theorem cho_facts {p : RProb} (hp : p.ok = true) {c : List Int} (hc : c ∈ choR p p.sets []) : Full p c ∧ allowed p c = true ∧ shapedE p c false = 0 ∧ shapedE p c true = 0 ∧ floorP p c = total p c := by
  obtain ⟨h1, h2⟩ := (full_iff hp).1 hc
  have ha : allowed p c = true := by rw [full_allowed hp h1]; exact h2
  have hs : ∀ op, c.all (shapedOK op) = true := fun op => by
    rw [List.all_eq_true]
    intro x hx
    obtain ⟨i, hi, rfl⟩ := List.getElem_of_mem hx
    have := (h1.2 i hi).2
    rw [List.getD_eq_getElem?_getD, List.getElem?_eq_getElem hi] at this
    have h5 : five c[i] = true := (form_ne hp (show i < p.sets.length by rw [← h1.1]; exact hi)).2 _ this
    simp only [shapedOK, h5, Bool.true_or]
  have hl : (p.ok && decide (c.length = p.sets.length)) = true := by rw [hp]; simp [h1.1]
  have hE : ∀ op, shapedE p c op = 0 := fun op => by unfold shapedE; rw [if_pos hl, if_pos (hs op), if_pos ha]
  exact ⟨h1, ha, hE false, hE true, floor_full hp h1⟩

/-- A part: each open, or of a form of its own. -/
def PartS (p : RProb) (l : List Int) : Prop := l.length = p.sets.length ∧ ∀ j, j < l.length → l.getD j 0 = 0 ∨ l.getD j 0 ∈ p.form j
theorem part_shaped {p : RProb} (hp : p.ok = true) {l : List Int} (h : PartS p l) : shapedE p l true = if allowed p l = true then 0 else 7 := by
  have hl : (p.ok && decide (l.length = p.sets.length)) = true := by rw [hp]; simp [h.1]
  have hs : l.all (shapedOK true) = true := by
    rw [List.all_eq_true]
    intro x hx
    obtain ⟨i, hi, rfl⟩ := List.getElem_of_mem hx
    have := h.2 i hi
    rw [List.getD_eq_getElem?_getD, List.getElem?_eq_getElem hi] at this
    rcases this with h0 | h0
    · simp only [Option.getD_some] at h0
      simp [shapedOK, h0]
    · have := (form_ne hp (show i < p.sets.length by rw [← h.1]; exact hi)).2 _ h0
      simp only [Option.getD_some] at this
      simp [shapedOK, this]
  unfold shapedE
  rw [if_pos hl, if_pos hs]

theorem opens_set {p : RProb} {l : List Int} {i : Nat} {x : Int} (h0 : l.getD i 0 = 0) (hx : x ∈ p.form i) (hx0 : x ≠ 0) (hi : i < l.length) (j : Nat) : ∀ y ∈ opens p (l.set i x) j, y ∈ opens p l j := by
  intro y hy
  unfold opens at *
  by_cases e : i = j
  · subst e
    rw [getD_set_eq hi, if_pos hx0] at hy
    rw [if_neg (Classical.not_not.2 h0)]
    simp only [List.mem_singleton] at hy
    rw [hy]; exact hx
  · rw [getD_set_ne e] at hy
    exact hy

theorem floor_mono {p : RProb} (hp : p.ok = true) {l : List Int} {i : Nat} {x : Int} (h0 : l.getD i 0 = 0) (hx : x ∈ p.form i) (hi : i < p.sets.length) (hl : l.length = p.sets.length) : floorP p l ≤ floorP p (l.set i x) := by
  have hx0 := five_ne ((form_ne hp hi).2 x hx)
  have hop := opens_set (p := p) h0 hx hx0 (by omega)
  refine sumU_le _ _ _ (Int.le_refl _) fun u hu => ⟨(ok_use hp hu).1, ?_⟩
  obtain ⟨_, _, ha, ha0, hb, hb0, _, _, _⟩ := ok_use hp hu
  refine minL_sub (low_nonneg hp u l) ?_ fun z hz => ?_
  · unfold lowL
    obtain ⟨a, ha'⟩ := List.exists_mem_of_ne_nil _ (opens_ne hp (part := l.set i x) ha)
    intro e
    rw [List.flatMap_eq_nil_iff] at e
    have e1 := e a ha'
    rw [List.map_eq_nil_iff] at e1
    split at e1
    · rename_i hd
      exact opens_ne hp (part := l.set i x) (hb hd.1).1 e1
    · cases e1
  · unfold lowL at *
    rw [List.mem_flatMap] at hz ⊢
    obtain ⟨a, ha', hz⟩ := hz
    refine ⟨a, hop _ a ha', ?_⟩
    rw [List.mem_map] at hz ⊢
    obtain ⟨b, hb', rfl⟩ := hz
    refine ⟨b, ?_, rfl⟩
    split at hb'
    · rename_i hd
      rw [if_pos hd]
      exact hop _ b hb'
    · rename_i hd
      rw [if_neg hd]
      exact hb'

/-- Does a choice have what a part has? -/
def goesB (l c : List Int) : Bool := (List.range l.length).all fun i => !(l.getD i 0 != 0 && l.getD i 0 != c.getD i 0)
theorem goesB_iff {l c : List Int} (hl : l.length = c.length) : goesB l c = true ↔ Goes l c := by
  simp only [goesB, List.all_eq_true, List.mem_range, Bool.not_eq_true', Bool.and_eq_false_iff, bne_eq_false_iff_eq]
  constructor
  · intro h
    refine ⟨hl, fun i hi => ?_⟩
    by_cases hil : i < l.length
    · exact ((h i hil).resolve_left hi).symm
    · rw [List.getD_eq_getElem?_getD, List.getElem?_eq_none (by omega)] at hi
      exact absurd rfl hi
  · intro h i _
    by_cases h0 : l.getD i 0 = 0
    · exact .inl h0
    · exact .inr (h.2 i h0).symm

/-- What is accepted bounds all costs; a floor is no more than what goes on from its part costs. -/
theorem bounds_ok {p : RProb} (hp : p.ok = true) {c : List Int} (hc : c ∈ choR p p.sets []) {cost : Int} {T : List Int} (h : (acceptA p cost T).2 = 0) : cost ≤ total p c := by
  obtain ⟨h1, h2, _⟩ := cho_facts hp hc
  unfold acceptA at h
  by_cases h4 : 4000 < T.length
  · rw [if_pos h4] at h; simp at h
  · rw [if_neg h4, if_pos hp] at h
    cases ht : tre p cost T (p.sets.length + 1) 0 p.zero with
    | none => rw [ht] at h; simp at h
    | some nl =>
      obtain ⟨next, leaf⟩ := nl
      rw [ht] at h
      simp only at h
      by_cases hn : next < T.length
      · rw [if_pos hn] at h; simp at h
      · rw [if_neg hn] at h
        by_cases hl : 0 ≤ leaf
        · rw [if_pos hl] at h; simp at h
        · exact tre_sound hp _ _ _ _ _ ht (by omega) c h1 ⟨by simp [RProb.zero, h1.1], fun i hi => absurd (zero_getD p i) hi⟩ h2
theorem accept_kind {p : RProb} (hp : p.ok = true) (by_ : List Int) (cost : Int) (sp : List Bool) (hsp : sp = List.replicate p.sets.length false) : (acceptA p cost (prT p by_ (p.sets.length + 1) 0 sp).1).2 = 0 ∨ (acceptA p cost (prT p by_ (p.sets.length + 1) 0 sp).1).2 = 7 := by
  have h5 : p.sets.length ≤ 5 := by
    simp only [RProb.ok, Bool.and_eq_true, decide_eq_true_eq] at hp
    exact hp.1.1.1.1.1
  have hl : sp.length = p.sets.length := by rw [hsp]; simp
  have hz : zB sp ≤ p.sets.length := by rw [← hl]; exact zB_le sp
  obtain ⟨k1, k2⟩ := prT_len hp by_ (p.sets.length + 1) p.sets.length 0 sp hl hz rfl
  have htm : tm p.sets.length ≤ 4000 := Nat.le_trans (tm_le _ 5 h5) (by decide)
  obtain ⟨w, hw⟩ := prT_tre hp by_ cost (p.sets.length + 1) p.sets.length 0 sp [] [] p.zero (p.sets.length + 1) hl (by simp [RProb.zero]) (fun j hj => by
    rw [zero_getD, hsp]
    simp only [List.getD_eq_getElem?_getD, List.getElem?_replicate, true_iff]
    split <;> rfl) hz rfl (Nat.le_refl _)
  simp only [List.nil_append, List.append_nil, List.length_nil, Nat.zero_add] at hw
  unfold acceptA
  rw [if_neg (by omega), if_pos hp, hw]
  simp only
  rw [if_neg (by omega)]
  split
  · exact .inr rfl
  · exact .inl rfl
end Go.Vi
end
