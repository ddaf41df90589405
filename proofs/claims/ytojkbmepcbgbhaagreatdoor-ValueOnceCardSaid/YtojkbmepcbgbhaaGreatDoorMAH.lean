/- It is proved here that a set of values does not hang on their order; conditions stand with each. -/
import Derived.Test.YtojkbmepcbgbhaaGreatDoorMAG
set_option linter.unusedVariables false
set_option linter.unusedSimpArgs false

section
/- Vi: a set of values does not hang on their order, nor on how often one comes. No conditions but those that stand with each. -/
namespace Go.Vi
open Go Go.Lib Go.Proofs
set_option maxRecDepth 100000

theorem foldW_same {l m : List Val} (hl : Shp l) (hm : Shp m) (h : ∀ x, x ∈ l ↔ x ∈ m) : foldW [] l = foldW [] m := by
  obtain ⟨a1, a2, a3⟩ := foldW_up l [] (fun _ h => by cases h) hl List.Pairwise.nil
  obtain ⟨b1, b2, b3⟩ := foldW_up m [] (fun _ h => by cases h) hm List.Pairwise.nil
  refine up_ext _ _ a2 b2 a1 b1 fun x => ?_
  rw [a3, b3]
  simp [h]

theorem foldW_len {l : List Val} (hl : Shp l) : (foldW [] l).length ≤ l.length := by
  have h1 := (set_perm hl).1.length_eq
  have h2 := ddp_len l []
  simp only [List.length_nil] at h2
  omega

theorem once_valid {l : List Val} (hs : Shp l) (hf : (setV (foldW [] l)).fits = true) : (setV (foldW [] l)).isSet = true ∧ (setV (foldW [] l)).valid = true ∧ Up (foldW [] l) ∧ Shp (foldW [] l) := by
  obtain ⟨_, hu, hsh⟩ := set_perm hs
  have h1 := (fits_iff _).1 hf
  have : (setV (foldW [] l)).shaped = true := by
    rw [shaped_eq]
    simp only [own75, Bool.and_eq_true]
    refine ⟨List.all_eq_true.2 hsh, ?_⟩
    simp [setV, Val.k, Val.n, Val.t, Val.ps, incr_sorted _ (up_incr.1 hu)]
  have hv := (valid_iff _).2 ⟨h1, this⟩
  refine ⟨?_, hv, hu, hsh⟩
  have hk : (setV (foldW [] l)).k = 5 := rfl
  simp [Val.isSet, hv, hk]

theorem inL_mem' {l : List Val} {v : Val} (hl : Shp l) (hv : v.shaped = true) : inL v l = true ↔ v ∈ l := by
  rw [inL, List.any_eq_true]
  constructor
  · rintro ⟨u, hu, h⟩
    rw [decide_eq_true_eq] at h
    rw [← (cmp_zero u v (hl u hu) hv).1 h]; exact hu
  · intro h
    exact ⟨v, h, by rw [decide_eq_true_eq]; exact cmp_self hv⟩

/-- Each is less than the next one. -/
theorem up_next {l : List Val} (h : Up l) {i : Nat} (hi : i + 1 < l.length) : l[i].cmp l[i + 1] < 0 :=
  (List.pairwise_iff_getElem.1 h) i (i + 1) (by omega) hi (by omega)
/-- A loop whose rounds are known: at its head its frame and its heap are those of some state; each round ends it, or goes to a state that is less. -/
theorem loop_run {mu : Bool} {m : Mk} {f : FuncId} {c : Code} {nB nA : Nat} {keep : List Tmp} (hd : ch.head f (firstR c) = keep) {α : Type} (fr : α → Fr) (hp : α → Hp) (out : α → CO) (I : α → Prop) (μ : α → Nat)
    (step : ∀ a, I a → (E mu m f c (fr a) (hp a) = some (out a) ∧ ∀ F H, out a ≠ (.normal, F, H)) ∨
      ∃ a' F H, E mu m f c (fr a) (hp a) = some (.normal, F, H) ∧ cutD m keep nB nA F H = some (fr a', hp a') ∧ μ a' < μ a ∧ I a' ∧ out a' = out a)
    (a : α) {F : Fr} {H : Hp} (hI : I a) (hcut : cutD m keep nB nA F H = some (fr a, hp a)) : loopO mu m f c nB nA F H = some (out a) := by
  have key : ∀ (n : Nat) (a : α) (F : Fr) (H : Hp), μ a < n → I a → cutD m keep nB nA F H = some (fr a, hp a) → loopO mu m f c nB nA F H = some (out a) := by
    intro n
    induction n with
    | zero => intro a F H h; omega
    | succ n ih =>
      intro a F H hn hI hcut
      rw [loopO_eq, hd, hcut]
      rcases step a hI with ⟨h1, h2⟩ | ⟨a', F', H', h1, h2, h3, h4, h5⟩
      · simp only [h1]
        generalize out a = o at h2
        obtain ⟨e, F1, H1⟩ := o
        cases e with
        | normal => exact absurd rfl (h2 F1 H1)
        | _ => rfl
      · simp only [h1]
        rw [← h5]
        exact ih a' F' H' (by omega) h4 h2
  exact key _ a F H (Nat.lt_succ_self _) hI hcut

section
variable {mu : Bool} {m : Mk} {f : FuncId} {c : Code} {nB nA : Nat} {keep : List Tmp}

/-- Each number below n is asked; the first that fails ends the loop. -/
theorem for_all (hd : ch.head f (firstR c) = keep) (n : Nat) (fr : Nat → Fr) (H0 : Hp) (p : Nat → Bool) {ex bad : CO} (hx : ex.1 ≠ .normal) (hb : bad.1 ≠ .normal)
    (hend : E mu m f c (fr n) H0 = some ex)
    (hstep : ∀ i, i < n → (p i = true ∧ ∃ F H, E mu m f c (fr i) H0 = some (.normal, F, H) ∧ cutD m keep nB nA F H = some (fr (i + 1), H0)) ∨ (p i = false ∧ E mu m f c (fr i) H0 = some bad))
    {F : Fr} {H : Hp} (hcut : cutD m keep nB nA F H = some (fr 0, H0)) : loopO mu m f c nB nA F H = some (if (List.range n).all p = true then ex else bad) := by
  have ne : ∀ {o : CO}, o.1 ≠ .normal → ∀ F H, o ≠ (.normal, F, H) := fun h F H e => h (by rw [e])
  have key := loop_run (mu := mu) (m := m) (f := f) (c := c) (nB := nB) (nA := nA) hd fr (fun _ => H0) (fun i => if (List.range' i (n - i)).all p = true then ex else bad) (fun i => i ≤ n) (fun i => n - i)
    (fun i hi => by
      by_cases hin : i = n
      · subst hin
        left
        simp only [Nat.sub_self, List.range'_zero, List.all_nil, if_true]
        exact ⟨hend, ne hx⟩
      · have hlt : i < n := by omega
        have e : List.range' i (n - i) = i :: List.range' (i + 1) (n - (i + 1)) := by
          rw [show n - i = (n - (i + 1)) + 1 by omega, List.range'_succ]
        rcases hstep i hlt with ⟨hp, F, H, h1, h2⟩ | ⟨hp, h1⟩
        · right
          exact ⟨i + 1, F, H, h1, h2, by omega, by omega, by simp only [e, List.all_cons, hp, Bool.true_and]⟩
        · left
          simp only [e, List.all_cons, hp, Bool.false_and, Bool.false_eq_true, if_false]
          exact ⟨h1, ne hb⟩) 0 (F := F) (H := H) (Nat.zero_le _) hcut
  rw [List.range_eq_range']
  simpa using key

/-- What is summed up over the numbers below n. -/
def foldN {α : Type} (stp : Nat → α → α) : Nat → Nat → α → α
  | 0, _, a => a
  | k + 1, i, a => foldN stp k (i + 1) (stp i a)

theorem for_fold {α : Type} (hd : ch.head f (firstR c) = keep) (n : Nat) (fr : Nat → α → Fr) (hp : Nat → α → Hp) (stp : Nat → α → α) (I : Nat → α → Prop) (ex : α → CO) (hx : ∀ a, (ex a).1 ≠ .normal)
    (hend : ∀ a, I n a → E mu m f c (fr n a) (hp n a) = some (ex a))
    (hstep : ∀ i a, i < n → I i a → I (i + 1) (stp i a) ∧ ∃ F H, E mu m f c (fr i a) (hp i a) = some (.normal, F, H) ∧ cutD m keep nB nA F H = some (fr (i + 1) (stp i a), hp (i + 1) (stp i a)))
    {a : α} {F : Fr} {H : Hp} (hI : I 0 a) (hcut : cutD m keep nB nA F H = some (fr 0 a, hp 0 a)) : loopO mu m f c nB nA F H = some (ex (foldN stp n 0 a)) := by
  have ne : ∀ {o : CO}, o.1 ≠ .normal → ∀ F H, o ≠ (.normal, F, H) := fun h F H e => h (by rw [e])
  have key := loop_run (mu := mu) (m := m) (f := f) (c := c) (nB := nB) (nA := nA) hd (fun x : Nat × α => fr x.1 x.2) (fun x => hp x.1 x.2) (fun x => ex (foldN stp (n - x.1) x.1 x.2)) (fun x => x.1 ≤ n ∧ I x.1 x.2) (fun x => n - x.1)
    (fun x hi => by
      obtain ⟨i, a⟩ := x
      obtain ⟨hi, ha⟩ := hi
      simp only at hi ha ⊢
      by_cases hin : i = n
      · subst hin
        left
        simp only [Nat.sub_self, foldN]
        exact ⟨hend a ha, ne (hx a)⟩
      · have hlt : i < n := by omega
        obtain ⟨h0, F, H, h1, h2⟩ := hstep i a hlt ha
        right
        refine ⟨(i + 1, stp i a), F, H, h1, h2, by simp only; omega, ⟨by simp only; omega, h0⟩, ?_⟩
        simp only
        rw [show n - i = (n - (i + 1)) + 1 by omega, foldN]) (0, a) (F := F) (H := H) ⟨Nat.zero_le _, hI⟩ hcut
  simpa using key
end

end Go.Vi
end
