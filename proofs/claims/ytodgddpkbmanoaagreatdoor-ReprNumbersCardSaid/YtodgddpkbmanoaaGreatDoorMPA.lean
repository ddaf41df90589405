/- It is proved here, in plain terms, that the search for the cheapest choice, and its proof, are right; conditions stand with each. -/
import Derived.Test.YtodgddpkbmanoaaGreatDoorMG
import Derived.Test.YtodgddpkbmanoaaGreatDoorMA
set_option linter.unusedVariables false
set_option linter.unusedSimpArgs false

section
/- Vi: loops over numbers: a loop that asks something of each number, and one that sums up. No conditions. -/
namespace Go.Vi
open Go Go.Lib Go.Proofs
set_option maxRecDepth 100000

section
variable {mu : Bool} {m : Mk} {f : FuncId} {c : Code} {nB nA : Nat} {keep : List Tmp}

/-- Each number below n is asked; the first that fails ends the loop. -/
theorem for_all (hd : ch.head f (firstR c) = keep) (n : Nat) (fr : Nat → Fr) (H0 : Hp) (p : Nat → Bool) {ex bad : CO} (hx : ex.1 ≠ .normal) (hb : bad.1 ≠ .normal)
    (hend : E mu m f c (fr n) H0 = some ex)
    (hstep : ∀ i, i < n → (p i = true ∧ ∃ F H, E mu m f c (fr i) H0 = some (.normal, F, H) ∧ cutD m keep nB nA F H = some (fr (i + 1), H0)) ∨ (p i = false ∧ E mu m f c (fr i) H0 = some bad))
    {F : Fr} {H : Hp} (hcut : cutD m keep nB nA F H = some (fr 0, H0)) : loopO mu m f c nB nA F H = some (if (List.range n).all p = true then ex else bad) := by
  have ne : ∀ {o : CO}, o.1 ≠ .normal → ∀ F H, o ≠ (.normal, F, H) := fun h F H e => h (by rw [e])
  have key := loop_run (mu := mu) (m := m) (f := f) (c := c) (nB := nB) (nA := nA) hd fr (fun _ => H0) (fun i => if (List.range' i (n - i)).all p = true then ex else bad) (fun i => i ≤ n) (fun i => n - i)
    (fun i hi => by
      by_cases hin : i = n
      · subst hin
        left
        simp only [Nat.sub_self, List.range'_zero, List.all_nil, if_true]
        exact ⟨hend, ne hx⟩
      · have hlt : i < n := by omega
        have e : List.range' i (n - i) = i :: List.range' (i + 1) (n - (i + 1)) := by
          rw [show n - i = (n - (i + 1)) + 1 by omega, List.range'_succ]
        rcases hstep i hlt with ⟨hp, F, H, h1, h2⟩ | ⟨hp, h1⟩
        · right
          exact ⟨i + 1, F, H, h1, h2, by omega, by omega, by simp only [e, List.all_cons, hp, Bool.true_and]⟩
        · left
          simp only [e, List.all_cons, hp, Bool.false_and, Bool.false_eq_true, if_false]
          exact ⟨h1, ne hb⟩) 0 (F := F) (H := H) (Nat.zero_le _) hcut
  rw [List.range_eq_range']
  simpa using key

/-- What is summed up over the numbers below n. -/
def foldN {α : Type} (stp : Nat → α → α) : Nat → Nat → α → α
  | 0, _, a => a
  | k + 1, i, a => foldN stp k (i + 1) (stp i a)

theorem for_fold {α : Type} (hd : ch.head f (firstR c) = keep) (n : Nat) (fr : Nat → α → Fr) (hp : Nat → α → Hp) (stp : Nat → α → α) (I : Nat → α → Prop) (ex : α → CO) (hx : ∀ a, (ex a).1 ≠ .normal)
    (hend : ∀ a, I n a → E mu m f c (fr n a) (hp n a) = some (ex a))
    (hstep : ∀ i a, i < n → I i a → I (i + 1) (stp i a) ∧ ∃ F H, E mu m f c (fr i a) (hp i a) = some (.normal, F, H) ∧ cutD m keep nB nA F H = some (fr (i + 1) (stp i a), hp (i + 1) (stp i a)))
    {a : α} {F : Fr} {H : Hp} (hI : I 0 a) (hcut : cutD m keep nB nA F H = some (fr 0 a, hp 0 a)) : loopO mu m f c nB nA F H = some (ex (foldN stp n 0 a)) := by
  have ne : ∀ {o : CO}, o.1 ≠ .normal → ∀ F H, o ≠ (.normal, F, H) := fun h F H e => h (by rw [e])
  have key := loop_run (mu := mu) (m := m) (f := f) (c := c) (nB := nB) (nA := nA) hd (fun x : Nat × α => fr x.1 x.2) (fun x => hp x.1 x.2) (fun x => ex (foldN stp (n - x.1) x.1 x.2)) (fun x => x.1 ≤ n ∧ I x.1 x.2) (fun x => n - x.1)
    (fun x hi => by
      obtain ⟨i, a⟩ := x
      obtain ⟨hi, ha⟩ := hi
      simp only at hi ha ⊢
      by_cases hin : i = n
      · subst hin
        left
        simp only [Nat.sub_self, foldN]
        exact ⟨hend a ha, ne (hx a)⟩
      · have hlt : i < n := by omega
        obtain ⟨h0, F, H, h1, h2⟩ := hstep i a hlt ha
        right
        refine ⟨(i + 1, stp i a), F, H, h1, h2, by simp only; omega, ⟨by simp only; omega, h0⟩, ?_⟩
        simp only
        rw [show n - i = (n - (i + 1)) + 1 by omega, foldN]) (0, a) (F := F) (H := H) ⟨Nat.zero_le _, hI⟩ hcut
  simpa using key
end

theorem range_all {α : Type} (q : α → Bool) (d : α) : ∀ (l : List α), (List.range l.length).all (fun i => q (l.getD i d)) = l.all q := by
  intro l
  rw [Bool.eq_iff_iff, List.all_eq_true, List.all_eq_true]
  constructor
  · intro h x hx
    obtain ⟨i, hi, rfl⟩ := List.getElem_of_mem hx
    have := h i (List.mem_range.2 hi)
    simpa [List.getD_eq_getElem?_getD, hi] using this
  · intro h i hi
    have hlt := List.mem_range.1 hi
    have := h l[i] (List.getElem_mem hlt)
    simpa [List.getD_eq_getElem?_getD, hlt] using this

theorem foldN_list {α β : Type} (g : β → α → α) (d : β) : ∀ (l : List β) (a : α), foldN (fun i a => g (l.getD i d) a) l.length 0 a = l.foldl (fun a x => g x a) a := by
  have key : ∀ (l pre : List β) (a : α), foldN (fun i a => g ((pre ++ l).getD i d) a) l.length pre.length a = l.foldl (fun a x => g x a) a := by
    intro l
    induction l with
    | nil => intro pre a; rfl
    | cons x l ih =>
      intro pre a
      have := ih (pre ++ [x]) (g x a)
      simp only [List.append_assoc, List.singleton_append, List.length_append, List.length_singleton] at this
      simp only [List.length_cons, foldN, List.foldl_cons]
      have e : (pre ++ x :: l).getD pre.length d = x := by simp [List.getD_eq_getElem?_getD]
      rw [e]
      exact this
  intro l a
  exact key l [] a
end Go.Vi
end

section
/- Representations (layer 11): problems as data, and what the reference and the program compute, in plain Lean. No program in sight; no conditions but those that stand with each. -/
namespace Go.Vi
set_option maxRecDepth 10000

structure RSet where
  size : Int
  forms : List Int
structure RUse where
  d : Int
  a : Int
  b : Int
  t : Int
structure RProb where
  sets : List RSet
  uses : List RUse
  same : List (Int × Int)

def RProb.form (p : RProb) (i : Nat) : List Int := (p.sets.getD i ⟨0, []⟩).forms
def RProb.size (p : RProb) (i : Nat) : Int := (p.sets.getD i ⟨0, []⟩).size

/-! ### As defined -/
def five (f : Int) : Bool := decide (1 ≤ f) && decide (f ≤ 5)
def dbl (d : Int) : Bool := d == 5 || d == 6
def incF : List Int → Bool
  | [] => true
  | [x] => five x
  | x :: y :: r => five x && decide (x < y) && incF (y :: r)
def formsOK (l : List Int) : Bool := incF l && !l.isEmpty
def inR (n lo hi : Int) : Bool := decide (lo ≤ n) && decide (n ≤ hi)
def useOK (n : Int) (u : RUse) : Bool := inR u.a 0 (n - 1) && inR u.t 1 1000 && inR u.d 1 6 && (if dbl u.d then inR u.b 0 (n - 1) else u.b == 0)
def pairOK (n : Int) (x : Int × Int) : Bool := inR x.1 0 (n - 1) && inR x.2 0 (n - 1) && x.1 != x.2
def RProb.ok (p : RProb) : Bool :=
  decide (p.sets.length ≤ 5) && decide (p.uses.length ≤ 30) && decide (p.same.length ≤ 10) && p.sets.all (fun s => inR s.size 0 1024 && formsOK s.forms) &&
    p.uses.all (useOK p.sets.length) && p.same.all (pairOK p.sets.length)

theorem incF_five : ∀ {l : List Int}, incF l = true → ∀ x ∈ l, five x = true
  | [], _, x, h => by cases h
  | [y], h, x, hx => by simp at hx; subst hx; exact h
  | y :: z :: r, h, x, hx => by
    simp only [incF, Bool.and_eq_true] at h
    rcases List.mem_cons.1 hx with rfl | hx
    · exact h.1.1
    · exact incF_five h.2 x hx

/-! ### What uses cost -/
def dig (n : Int) : Int := if n ≤ 0 then 0 else (Nat.log2 n.toNat + 1 : Nat)
def single (d n f : Int) : Int :=
  if d = 1 then (if f = 1 then dig n else if f = 2 then 2 else if f = 3 then 2 * dig n else if f = 4 then 5 else 3)
  else if d = 2 then (if f = 1 then n + 1 else if f = 2 then 2 else if f = 3 then 6 * dig n + 6 else if f = 4 then 5 else 4)
  else if d = 3 then (if f = 1 then n else if f = 2 then n + 32 else if f = 3 then 2 * n else if f = 4 then 2 * n + 5 else 2 * n + 8)
  else (if f = 1 then 1 else if f = 2 then 32 else if f = 3 then dig n else if f = 4 then 5 else 2 * n + 8)
def once (p : RProb) (u : RUse) (f g : Int) : Int :=
  if dbl u.d = false then single u.d (p.size u.a.toNat) f
  else if f ≠ g then single 3 (p.size u.b.toNat) g + p.size u.b.toNat * single 2 (p.size u.a.toNat) f
  else if u.d = 6 then 1
  else if f = 2 then 32
  else p.size u.a.toNat + p.size u.b.toNat

theorem dig_bd {n : Int} (h : n ≤ 1024) : 0 ≤ dig n ∧ dig n ≤ 11 := by
  unfold dig
  split
  · omega
  · rename_i h0
    have : Nat.log2 n.toNat ≤ 10 := by
      have h1 : n.toNat < 2 ^ 11 := by omega
      have := (Nat.log2_lt (by omega : n.toNat ≠ 0)).2 h1
      omega
    omega

theorem single_bd {d n f : Int} (h0 : 0 ≤ n) (h1 : n ≤ 1024) : 0 ≤ single d n f ∧ single d n f ≤ 2056 := by
  have := dig_bd h1
  unfold single
  (repeat' split) <;> omega

theorem size_bd {p : RProb} (h : p.ok = true) (i : Nat) : 0 ≤ p.size i ∧ p.size i ≤ 1024 := by
  unfold RProb.size
  rw [List.getD_eq_getElem?_getD]
  cases hx : p.sets[i]? with
  | none => simp
  | some s =>
    have hm := List.mem_of_getElem? hx
    simp only [RProb.ok, Bool.and_eq_true, List.all_eq_true] at h
    have := (h.1.1.2 s hm).1
    simp only [inR, Bool.and_eq_true, decide_eq_true_eq] at this
    simpa using this

theorem once_bd {p : RProb} (h : p.ok = true) (u : RUse) (f g : Int) : 0 ≤ once p u f g ∧ once p u f g ≤ 2200000 := by
  have ha := size_bd h u.a.toNat
  have hb := size_bd h u.b.toNat
  have s1 := single_bd (d := u.d) (f := f) ha.1 ha.2
  have s2 := single_bd (d := 3) (f := g) hb.1 hb.2
  have s3 := single_bd (d := 2) (f := f) ha.1 ha.2
  unfold once
  split
  · omega
  · split
    · generalize single 2 (p.size u.a.toNat) f = x at *
      generalize p.size u.b.toNat = y at *
      have h1 : 0 ≤ y * x := Int.mul_nonneg hb.1 s3.1
      have h2 : y * x ≤ 1024 * 2056 := Int.mul_le_mul hb.2 s3.2 s3.1 (by omega)
      omega
    · split
      · omega
      · split <;> omega

/-! ### Parts of choices -/
def fitsF (p : RProb) (i : Nat) (x : Int) : Bool := x == 0 || (p.form i).contains x
def apart (x y : Int) : Bool := x != 0 && y != 0 && x != y
def allowed (p : RProb) (part : List Int) : Bool :=
  (List.range part.length).all (fun i => fitsF p i (part.getD i 0)) && p.same.all (fun s => !apart (part.getD s.1.toNat 0) (part.getD s.2.toNat 0))
def opens (p : RProb) (part : List Int) (i : Nat) : List Int := if part.getD i 0 ≠ 0 then [part.getD i 0] else p.form i

def minL : Int → List Int → Int
  | m, [] => m
  | m, x :: r => minL (if m < 0 ∨ x < m then x else m) r
/-- What a use may cost once: the program's list. -/
def lowL (p : RProb) (u : RUse) (part : List Int) : List Int :=
  (opens p part u.a.toNat).flatMap fun a => (if dbl u.d = true ∧ u.a ≠ u.b then opens p part u.b.toNat else [a]).map fun b => once p u a b
def sumU (c : RUse → Int) : Int → List RUse → Int
  | s, [] => s
  | s, u :: r => sumU c (s + u.t * c u) r
def floorP (p : RProb) (part : List Int) : Int := sumU (fun u => minL (-1) (lowL p u part)) 0 p.uses
def total (p : RProb) (l : List Int) : Int := sumU (fun u => once p u (l.getD u.a.toNat 0) (l.getD u.b.toNat 0)) 0 p.uses

theorem minL_mem : ∀ (l : List Int) (m : Int), (∀ x ∈ l, 0 ≤ x) → (minL m l = m ∨ minL m l ∈ l) ∧ (0 ≤ m → minL m l ≤ m) ∧ (∀ x ∈ l, minL m l ≤ x) ∧ (-1 ≤ m → l ≠ [] → 0 ≤ minL m l)
  | [], m, _ => by simp [minL]
  | x :: r, m, h => by
    have hx := h x (by simp)
    obtain ⟨h1, h2, h3, h4⟩ := minL_mem r (if m < 0 ∨ x < m then x else m) fun y hy => h y (by simp [hy])
    simp only [minL]
    by_cases hc : m < 0 ∨ x < m
    · simp only [if_pos hc] at *
      refine ⟨.inr (by rcases h1 with h1 | h1 <;> simp [h1]), fun h0 => by have := h2 hx; omega, fun y hy => ?_, fun _ _ => ?_⟩
      · rcases List.mem_cons.1 hy with rfl | hy
        · exact h2 hx
        · exact h3 y hy
      · rcases h1 with h1 | h1
        · omega
        · exact h _ (by simp [h1])
    · simp only [if_neg hc] at *
      refine ⟨by rcases h1 with h1 | h1 <;> simp [h1], h2, fun y hy => ?_, fun _ _ => ?_⟩
      · rcases List.mem_cons.1 hy with rfl | hy
        · have := h2 (by omega); omega
        · exact h3 y hy
      · rcases h1 with h1 | h1
        · omega
        · exact h _ (by simp [h1])

/-- The least of a list that is not empty. -/
theorem minL_iff {l : List Int} (h : ∀ x ∈ l, 0 ≤ x) (hne : l ≠ []) {m : Int} (hm : m ∈ l) (hle : ∀ x ∈ l, m ≤ x) : minL (-1) l = m := by
  obtain ⟨h1, _, h3, h4⟩ := minL_mem l (-1) h
  have h0 := h4 (by omega) hne
  rcases h1 with h1 | h1
  · omega
  · have := h3 m hm
    have := hle _ h1
    omega

theorem minL_same {l k : List Int} (hl : ∀ x ∈ l, 0 ≤ x) (h : ∀ x, x ∈ l ↔ x ∈ k) : minL (-1) l = minL (-1) k := by
  cases l with
  | nil =>
    cases k with
    | nil => rfl
    | cons y k => exact absurd ((h y).2 (by simp)) (by simp)
  | cons x l =>
    have hk : ∀ y ∈ k, 0 ≤ y := fun y hy => hl y ((h y).2 hy)
    have hkne : k ≠ [] := fun e => by rw [e] at h; exact absurd ((h x).1 (by simp)) (by simp)
    obtain ⟨h1, _, h3, h4⟩ := minL_mem (x :: l) (-1) hl
    have h0 := h4 (by omega) (by simp)
    have hm : minL (-1) (x :: l) ∈ k := by
      rcases h1 with h1 | h1
      · omega
      · exact (h _).1 h1
    exact (minL_iff hk hkne hm fun y hy => h3 y ((h y).2 hy)).symm

theorem sumU_le {c c' : RUse → Int} : ∀ (l : List RUse) (s s' : Int), s ≤ s' → (∀ u ∈ l, 0 ≤ u.t ∧ c u ≤ c' u) → sumU c s l ≤ sumU c' s' l
  | [], s, s', h, _ => h
  | u :: r, s, s', h, hu => by
    have h1 := hu u (by simp)
    simp only [sumU]
    refine sumU_le r _ _ ?_ fun v hv => hu v (by simp [hv])
    have := Int.mul_le_mul_of_nonneg_left h1.2 h1.1
    omega

theorem sumU_congr {c c' : RUse → Int} : ∀ (l : List RUse) (s : Int), (∀ u ∈ l, c u = c' u) → sumU c s l = sumU c' s l
  | [], s, _ => rfl
  | u :: r, s, h => by
    simp only [sumU, h u (by simp)]
    exact sumU_congr r _ fun v hv => h v (by simp [hv])

/-! ### A choice that goes on from a part -/
/-- One form for each set, of its own. -/
def Full (p : RProb) (c : List Int) : Prop := c.length = p.sets.length ∧ ∀ i, i < c.length → c.getD i 0 ≠ 0 ∧ c.getD i 0 ∈ p.form i
def Goes (part c : List Int) : Prop := part.length = c.length ∧ ∀ i, part.getD i 0 ≠ 0 → c.getD i 0 = part.getD i 0

theorem ok_use {p : RProb} (h : p.ok = true) {u : RUse} (hu : u ∈ p.uses) : 0 ≤ u.t ∧ u.t ≤ 1000 ∧ u.a.toNat < p.sets.length ∧ 0 ≤ u.a ∧ (dbl u.d = true → u.b.toNat < p.sets.length ∧ 0 ≤ u.b) ∧ (dbl u.d = false → u.b = 0) ∧ 1 ≤ u.d ∧ u.d ≤ 6 ∧ 1 ≤ u.t := by
  simp only [RProb.ok, Bool.and_eq_true, List.all_eq_true] at h
  have h1 := h.1.2 u hu
  simp only [useOK, inR, Bool.and_eq_true, decide_eq_true_eq] at h1
  obtain ⟨⟨⟨h2, h3⟩, h4⟩, h5⟩ := h1
  refine ⟨by omega, by omega, by omega, by omega, fun hd => ?_, fun hd => ?_, by omega, by omega, by omega⟩
  · rw [if_pos hd] at h5
    simp only [Bool.and_eq_true, decide_eq_true_eq] at h5
    omega
  · rw [if_neg (by rw [hd]; simp)] at h5
    simpa using h5

theorem full_low {p : RProb} (h : p.ok = true) {part c : List Int} (hc : Full p c) (hg : Goes part c) {u : RUse} (hu : u ∈ p.uses) :
    once p u (c.getD u.a.toNat 0) (c.getD u.b.toNat 0) ∈ lowL p u part ∨ (dbl u.d = false ∧ once p u (c.getD u.a.toNat 0) (c.getD u.a.toNat 0) ∈ lowL p u part) := by
  obtain ⟨_, _, ha, ha0, hb, hb0, _, _, _⟩ := ok_use h hu
  have op : ∀ i, i < p.sets.length → c.getD i 0 ∈ opens p part i := fun i hi => by
    unfold opens
    split
    · rename_i hne; rw [hg.2 i hne]; simp
    · exact (hc.2 i (by rw [hc.1]; exact hi)).2
  have h1 := op _ ha
  unfold lowL
  by_cases hd : dbl u.d = true
  · left
    rw [List.mem_flatMap]
    refine ⟨_, h1, ?_⟩
    split
    · exact List.mem_map.2 ⟨_, op _ (hb hd).1, rfl⟩
    · rename_i hne
      have e : u.a = u.b := Classical.byContradiction fun e => hne ⟨hd, e⟩
      rw [← e]
      simp
  · right
    have hd' : dbl u.d = false := by simpa using hd
    refine ⟨hd', ?_⟩
    rw [List.mem_flatMap]
    refine ⟨_, h1, ?_⟩
    rw [if_neg fun h => hd h.1]
    simp

theorem once_single {p : RProb} {u : RUse} {f g g' : Int} (h : dbl u.d = false) : once p u f g = once p u f g' := by simp [once, h]

theorem low_nonneg {p : RProb} (h : p.ok = true) (u : RUse) (part : List Int) : ∀ x ∈ lowL p u part, 0 ≤ x := by
  intro x hx
  unfold lowL at hx
  rw [List.mem_flatMap] at hx
  obtain ⟨a, _, hx⟩ := hx
  rw [List.mem_map] at hx
  obtain ⟨b, _, rfl⟩ := hx
  exact (once_bd h u a b).1

theorem floor_le {p : RProb} (h : p.ok = true) {part c : List Int} (hc : Full p c) (hg : Goes part c) : floorP p part ≤ total p c := by
  refine sumU_le _ _ _ (Int.le_refl _) fun u hu => ⟨(ok_use h hu).1, ?_⟩
  refine (minL_mem _ (-1) (low_nonneg h u part)).2.2.1 _ ?_
  rcases full_low h hc hg hu with h1 | ⟨h1, h2⟩
  · exact h1
  · rw [once_single h1 (g' := c.getD u.a.toNat 0)]; exact h2

theorem goes_self (c : List Int) : Goes c c := ⟨rfl, fun _ _ => rfl⟩

/-- A whole choice's floor is what it costs. -/
theorem floor_full {p : RProb} (h : p.ok = true) {c : List Int} (hc : Full p c) : floorP p c = total p c := by
  refine sumU_congr _ _ fun u hu => ?_
  obtain ⟨_, _, ha, ha0, hb, hb0, _, _, _⟩ := ok_use h hu
  have one : ∀ i, i < p.sets.length → opens p c i = [c.getD i 0] := fun i hi => by
    unfold opens
    rw [if_pos (hc.2 i (by rw [hc.1]; exact hi)).1]
  have hm : ∀ x : Int, 0 ≤ x → minL (-1) [x] = x := fun x _ => by simp [minL]
  unfold lowL
  rw [one _ ha]
  simp only [List.flatMap_cons, List.flatMap_nil, List.append_nil]
  by_cases hd : dbl u.d = true ∧ u.a ≠ u.b
  · rw [if_pos hd, one _ (hb hd.1).1]
    simp only [List.map_cons, List.map_nil]
    exact hm _ (once_bd h u _ _).1
  · rw [if_neg hd]
    simp only [List.map_cons, List.map_nil]
    rw [hm _ (once_bd h u _ _).1]
    by_cases h1 : dbl u.d = true
    · have e : u.a = u.b := Classical.byContradiction fun e => hd ⟨h1, e⟩
      rw [← e]
    · exact once_single (by simpa using h1)

/-! ### The reference's floor -/
/-- The reference's list: places are told apart, so that a use of one set twice has one form. -/
def lowQ (p : RProb) (u : RUse) (part : List Int) : List Int :=
  (opens p part u.a.toNat).zipIdx.flatMap fun x => ((opens p part u.b.toNat).zipIdx.filter fun y => !(dbl u.d && u.a == u.b && x.2 != y.2)).map fun y => once p u x.1 y.1

theorem mem_zipIdx {l : List Int} {a : Int} : a ∈ l ↔ ∃ i, (a, i) ∈ l.zipIdx := by
  constructor
  · intro h
    obtain ⟨i, hi, e⟩ := List.getElem_of_mem h
    exact ⟨i, by rw [List.mem_zipIdx_iff_getElem?]; simp [hi, e]⟩
  · rintro ⟨i, h⟩
    rw [List.mem_zipIdx_iff_getElem?] at h
    exact List.mem_of_getElem? h

theorem form_ne {p : RProb} (h : p.ok = true) {i : Nat} (hi : i < p.sets.length) : p.form i ≠ [] ∧ ∀ x ∈ p.form i, five x = true := by
  simp only [RProb.ok, Bool.and_eq_true, List.all_eq_true] at h
  have h1 := h.1.1.2 p.sets[i] (List.getElem_mem hi)
  simp only [formsOK, Bool.and_eq_true] at h1
  have e : p.form i = p.sets[i].forms := by simp [RProb.form, List.getD_eq_getElem?_getD, hi]
  rw [e]
  exact ⟨fun e => by rw [e] at h1; simp at h1, incF_five h1.2.1⟩

theorem opens_ne {p : RProb} (h : p.ok = true) {part : List Int} {i : Nat} (hi : i < p.sets.length) : opens p part i ≠ [] := by
  unfold opens
  split
  · simp
  · exact (form_ne h hi).1

theorem low_same {p : RProb} (h : p.ok = true) {part : List Int} {u : RUse} (hu : u ∈ p.uses) : ∀ x, x ∈ lowQ p u part ↔ x ∈ lowL p u part := by
  obtain ⟨_, _, ha, ha0, hb, hb0, _, _, _⟩ := ok_use h hu
  intro x
  simp only [lowQ, lowL, List.mem_flatMap, List.mem_map, List.mem_filter]
  constructor
  · rintro ⟨⟨a, i⟩, hai, ⟨b, k⟩, ⟨hbk, hf⟩, rfl⟩
    refine ⟨a, mem_zipIdx.2 ⟨i, hai⟩, ?_⟩
    have hbm := mem_zipIdx.2 ⟨k, hbk⟩
    by_cases hd : dbl u.d = true ∧ u.a ≠ u.b
    · rw [if_pos hd]; exact ⟨b, hbm, rfl⟩
    · rw [if_neg hd]
      refine ⟨a, by simp, ?_⟩
      by_cases h1 : dbl u.d = true
      · have e : u.a = u.b := Classical.byContradiction fun e => hd ⟨h1, e⟩
        simp [h1, e] at hf
        rw [← e] at hbk
        rw [hf, List.mem_zipIdx_iff_getElem?] at hai
        rw [List.mem_zipIdx_iff_getElem?] at hbk
        have : some a = some b := hai.symm.trans hbk
        injection this with this
        rw [this]
      · exact once_single (by simpa using h1)
  · rintro ⟨a, hax, b, hbm, rfl⟩
    obtain ⟨i, hi⟩ := mem_zipIdx.1 hax
    by_cases hd : dbl u.d = true ∧ u.a ≠ u.b
    · rw [if_pos hd] at hbm
      obtain ⟨k, hk⟩ := mem_zipIdx.1 hbm
      exact ⟨(a, i), hi, (b, k), ⟨hk, by simp [hd.2]⟩, rfl⟩
    · rw [if_neg hd] at hbm
      simp only [List.mem_singleton] at hbm
      subst hbm
      by_cases h1 : dbl u.d = true
      · have e : u.a = u.b := Classical.byContradiction fun e => hd ⟨h1, e⟩
        exact ⟨(b, i), hi, (b, i), ⟨by rw [← e]; exact hi, by simp⟩, rfl⟩
      · have h1' : dbl u.d = false := by simpa using h1
        have h0 : u.b.toNat < p.sets.length := by rw [hb0 h1']; simp; omega
        obtain ⟨y, hy⟩ := List.exists_mem_of_ne_nil _ (opens_ne h (part := part) h0)
        obtain ⟨k, hk⟩ := mem_zipIdx.1 hy
        exact ⟨(b, i), hi, (y, k), ⟨hk, by simp [h1']⟩, once_single h1'⟩

def floorQ (p : RProb) (part : List Int) : Int := sumU (fun u => minL (-1) (lowQ p u part)) 0 p.uses
theorem floor_same {p : RProb} (h : p.ok = true) (part : List Int) : floorQ p part = floorP p part :=
  sumU_congr _ _ fun u hu => minL_same (fun x hx => low_nonneg h u part x ((low_same h hu x).1 hx)) (low_same h hu)
end Go.Vi
end

section
/- Representations (layer 11): the search for the cheapest choice, in plain Lean: it finds what trying all choices finds. No program in sight; no conditions but those that stand with each. -/
namespace Go.Vi
set_option maxRecDepth 10000

/-! ### All choices -/
def RProb.zero (p : RProb) : List Int := List.replicate p.sets.length 0
/-- The reference's: all that begin with some forms. -/
def choR (p : RProb) : List RSet → List Int → List (List Int)
  | [], b => if allowed p b = true then [b] else []
  | s :: r, b => s.forms.flatMap fun f => choR p r (b ++ [f])
/-- All that go on from a part, from a set on. -/
def choP (p : RProb) : Nat → List Int → Nat → List (List Int)
  | 0, c, _ => if allowed p c = true then [c] else []
  | k + 1, c, i => if c.getD i 0 ≠ 0 then choP p k c (i + 1) else (p.form i).flatMap fun f => choP p k (c.set i f) (i + 1)

abbrev Found := Option (List Int × Int)
def upd (p : RProb) (acc : Found) (c : List Int) : Found :=
  match acc with
  | none => some (c, total p c)
  | some (b, n) => if total p c < n then some (c, total p c) else some (b, n)
def srch (p : RProb) : Nat → List Int → Nat → Found → Found
  | k, c, i, acc =>
    if allowed p c = true then
      if (match acc with | some (_, n) => decide (n ≤ floorP p c) | none => false) = true then acc
      else
        match k with
        | 0 => some (c, floorP p c)
        | k + 1 => if c.getD i 0 ≠ 0 then srch p k c (i + 1) acc else (p.form i).foldl (fun acc f => srch p k (c.set i f) (i + 1) acc) acc
    else acc

theorem getD_set_eq {c : List Int} {i : Nat} {f : Int} (h : i < c.length) : (c.set i f).getD i 0 = f := by
  simp [List.getD_eq_getElem?_getD, List.getElem?_set, h]
theorem getD_set_ne {c : List Int} {i j : Nat} {f : Int} (h : i ≠ j) : (c.set i f).getD j 0 = c.getD j 0 := by
  simp [List.getD_eq_getElem?_getD, List.getElem?_set, h]

theorem goes_trans {a b c : List Int} (h : Goes a b) (k : Goes b c) : Goes a c :=
  ⟨h.1.trans k.1, fun i hi => by rw [k.2 i (by rw [h.2 i hi]; exact hi), h.2 i hi]⟩
theorem goes_set {c : List Int} {i : Nat} {f : Int} (h : c.getD i 0 = 0) : Goes c (c.set i f) :=
  ⟨by simp, fun j hj => by
    by_cases e : i = j
    · subst e; exact absurd h hj
    · exact getD_set_ne e⟩

theorem allowed_goes {p : RProb} {a b : List Int} (h : Goes a b) (hb : allowed p b = true) : allowed p a = true := by
  simp only [allowed, Bool.and_eq_true, List.all_eq_true, List.mem_range] at *
  refine ⟨fun i hi => ?_, fun s hs => ?_⟩
  · by_cases e : a.getD i 0 = 0
    · unfold fitsF; rw [e]; simp
    · rw [← h.2 i e]; exact hb.1 i (by rw [← h.1]; exact hi)
  · have := hb.2 s hs
    by_cases e1 : a.getD s.1.toNat 0 = 0
    · unfold apart; rw [e1]; simp
    · by_cases e2 : a.getD s.2.toNat 0 = 0
      · unfold apart; rw [e2]; simp
      · rw [← h.2 _ e1, ← h.2 _ e2]; exact this

/-- What goes on from a part: it has what the part has, and it is allowed; and it is whole, if the part was up to its place. -/
theorem choP_goes {p : RProb} : ∀ (k : Nat) (c : List Int) (i : Nat) (x : List Int), x ∈ choP p k c i → Goes c x ∧ allowed p x = true
  | 0, c, i, x, h => by
    simp only [choP] at h
    split at h
    · rename_i ha
      simp only [List.mem_singleton] at h
      subst h
      exact ⟨goes_self _, ha⟩
    · cases h
  | k + 1, c, i, x, h => by
    simp only [choP] at h
    split at h
    · exact choP_goes k c (i + 1) x h
    · rename_i h0
      rw [List.mem_flatMap] at h
      obtain ⟨f, _, h⟩ := h
      obtain ⟨h1, h2⟩ := choP_goes k _ (i + 1) x h
      exact ⟨goes_trans (goes_set (Classical.not_not.1 h0)) h1, h2⟩

theorem choP_none {p : RProb} {k : Nat} {c : List Int} {i : Nat} (h : ¬ allowed p c = true) : choP p k c i = [] := by
  cases hx : choP p k c i with
  | nil => rfl
  | cons x r =>
    have := choP_goes k c i x (by rw [hx]; simp)
    exact absurd (allowed_goes this.1 this.2) h

/-- Set up to a place. -/
def UpTo (c : List Int) (i : Nat) : Prop := ∀ j, j < i → c.getD j 0 ≠ 0

theorem choP_upto {p : RProb} (hp : p.ok = true) : ∀ (k : Nat) (c : List Int) (i : Nat) (x : List Int), i + k = c.length → c.length = p.sets.length → UpTo c i → x ∈ choP p k c i → UpTo x x.length
  | 0, c, i, x, hk, hl, hu, h => by
    have := (choP_goes 0 c i x h).1
    intro j hj
    rw [← this.1] at hj
    have h0 := hu j (by omega)
    rw [this.2 j h0]; exact h0
  | k + 1, c, i, x, hk, hl, hu, h => by
    simp only [choP] at h
    split at h
    · rename_i h0
      refine choP_upto hp k c (i + 1) x (by omega) hl (fun j hj => ?_) h
      by_cases e : j = i
      · subst e; exact h0
      · exact hu j (by omega)
    · rw [List.mem_flatMap] at h
      obtain ⟨f, hf, h⟩ := h
      refine choP_upto hp k _ (i + 1) x (by simp; omega) (by simpa using hl) (fun j hj => ?_) h
      by_cases e : i = j
      · subst e
        rw [getD_set_eq (by omega)]
        have := (form_ne hp (show i < p.sets.length by omega)).2 f hf
        simp only [five, Bool.and_eq_true, decide_eq_true_eq] at this
        omega
      · rw [getD_set_ne e]; exact hu j (by omega)

theorem full_of {p : RProb} {c : List Int} (hl : c.length = p.sets.length) (hu : UpTo c c.length) (ha : allowed p c = true) : Full p c := by
  refine ⟨hl, fun i hi => ⟨hu i hi, ?_⟩⟩
  simp only [allowed, Bool.and_eq_true, List.all_eq_true, List.mem_range] at ha
  have := ha.1 i hi
  simp only [fitsF, Bool.or_eq_true, beq_iff_eq] at this
  rcases this with h | h
  · exact absurd h (hu i hi)
  · simpa using h

theorem choP_full {p : RProb} (hp : p.ok = true) {k : Nat} {c : List Int} {i : Nat} {x : List Int} (hk : i + k = c.length) (hl : c.length = p.sets.length) (hu : UpTo c i) (h : x ∈ choP p k c i) : Full p x :=
  full_of (by rw [← (choP_goes k c i x h).1.1]; exact hl) (choP_upto hp k c i x hk hl hu h) (choP_goes k c i x h).2

theorem fold_keep {p : RProb} {b : List Int} {n : Int} : ∀ (l : List (List Int)), (∀ x ∈ l, n ≤ total p x) → l.foldl (upd p) (some (b, n)) = some (b, n)
  | [], _ => rfl
  | x :: r, h => by
    have h1 := h x (by simp)
    simp only [List.foldl_cons, upd]
    rw [if_neg (by omega)]
    exact fold_keep r fun y hy => h y (by simp [hy])

/-- The search finds what trying all finds. -/
theorem srch_eq {p : RProb} (hp : p.ok = true) : ∀ (k : Nat) (c : List Int) (i : Nat) (acc : Found), i + k = c.length → c.length = p.sets.length → UpTo c i → srch p k c i acc = (choP p k c i).foldl (upd p) acc := by
  intro k
  induction k with
  | zero =>
    intro c i acc hk hl hu
    unfold srch
    by_cases ha : allowed p c = true
    · have hf : Full p c := full_of hl (by rw [show c.length = i by omega]; exact hu) ha
      have e := floor_full hp hf
      rw [if_pos ha]
      simp only [choP, if_pos ha, List.foldl_cons, List.foldl_nil]
      cases acc with
      | none => simp only [Bool.false_eq_true, if_false, upd, e]
      | some bn =>
        obtain ⟨b, n⟩ := bn
        simp only [decide_eq_true_eq, upd, e]
        by_cases hc : n ≤ total p c
        · rw [if_pos hc, if_neg (by omega)]
        · rw [if_neg hc, if_pos (by omega)]
    · rw [if_neg ha, choP_none ha]
      rfl
  | succ k ih =>
    intro c i acc hk hl hu
    unfold srch
    by_cases ha : allowed p c = true
    · rw [if_pos ha]
      have step : (if c.getD i 0 ≠ 0 then srch p k c (i + 1) acc else (p.form i).foldl (fun acc f => srch p k (c.set i f) (i + 1) acc) acc) = (choP p (k + 1) c i).foldl (upd p) acc := by
        simp only [choP]
        by_cases h0 : c.getD i 0 ≠ 0
        · rw [if_pos h0, if_pos h0]
          refine ih c (i + 1) acc (by omega) hl fun j hj => ?_
          by_cases e : j = i
          · subst e; exact h0
          · exact hu j (by omega)
        · rw [if_neg h0, if_neg h0]
          have hfs := (form_ne hp (show i < p.sets.length by omega)).2
          generalize p.form i = fs at hfs ⊢
          induction fs generalizing acc with
          | nil => rfl
          | cons f fs ihf =>
            simp only [List.foldl_cons, List.flatMap_cons, List.foldl_append]
            rw [ih (c.set i f) (i + 1) acc (by simp; omega) (by simpa using hl) fun j hj => ?_]
            · exact ihf _ fun x hx => hfs x (by simp [hx])
            · by_cases e : i = j
              · subst e
                rw [getD_set_eq (by omega)]
                have := hfs f (by simp)
                simp only [five, Bool.and_eq_true, decide_eq_true_eq] at this
                omega
              · rw [getD_set_ne e]; exact hu j (by omega)
      cases acc with
      | none =>
        simp only [Bool.false_eq_true, if_false]
        exact step
      | some bn =>
        obtain ⟨b, n⟩ := bn
        simp only [decide_eq_true_eq]
        by_cases hc : n ≤ floorP p c
        · rw [if_pos hc, fold_keep]
          intro x hx
          have := floor_le hp (choP_full hp hk hl hu hx) (choP_goes _ _ _ _ hx).1
          omega
        · rw [if_neg hc]
          exact step
    · rw [if_neg ha, choP_none ha]
      rfl

/-! ### The reference's choices are those -/
theorem choR_eq {p : RProb} : ∀ (r : List RSet) (b : List Int), p.sets = p.sets.take b.length ++ r → b.length + r.length = p.sets.length →
    choR p r b = choP p r.length (b ++ List.replicate r.length 0) b.length
  | [], b, _, _ => by simp [choR, choP]
  | s :: r, b, hs, hl => by
    simp only [List.length_cons] at hl
    have hfm : p.form b.length = s.forms := by
      have : p.sets[b.length]? = some s := by
        rw [hs, List.getElem?_append_right (by simp; omega)]
        simp
        rw [show b.length - min b.length p.sets.length = 0 by omega]
        rfl
      simp [RProb.form, List.getD_eq_getElem?_getD, this]
    have h0 : (b ++ List.replicate (r.length + 1) 0).getD b.length 0 = (0 : Int) := by
      simp [List.getD_eq_getElem?_getD]
    simp only [choR, List.length_cons, choP]
    rw [if_neg (by rw [h0]; simp), hfm]
    have hset : ∀ f : Int, (b ++ List.replicate (r.length + 1) 0).set b.length f = (b ++ [f]) ++ List.replicate r.length 0 := fun f => by
      rw [List.replicate_succ, List.set_append_right _ _ (Nat.le_refl _)]
      simp
    have ih : ∀ f : Int, choR p r (b ++ [f]) = choP p r.length ((b ++ List.replicate (r.length + 1) 0).set b.length f) (b.length + 1) := fun f => by
      rw [hset, choR_eq r (b ++ [f]) ?_ (by simp; omega)]
      · simp
      · have h2 : p.sets.take (b.length + 1) = p.sets.take b.length ++ [s] := by
          rw [List.take_add_one]
          congr 1
          have : p.sets[b.length]? = some s := by
            rw [hs, List.getElem?_append_right (by simp; omega)]
            simp
            rw [show b.length - min b.length p.sets.length = 0 by omega]
            rfl
          rw [this]; rfl
        simp only [List.length_append, List.length_singleton]
        rw [h2, List.append_assoc]
        exact hs
    simp only [ih]

theorem choices_eq (p : RProb) : choR p p.sets [] = choP p p.sets.length p.zero 0 := by
  have := choR_eq (p := p) p.sets [] (by simp) (by simp)
  simpa [RProb.zero] using this

/-- The first of those that cost least. -/
def bestOf (p : RProb) (l : List (List Int)) : Found := l.foldl (upd p) none
/-- P11.3 -/
def bestR (p : RProb) : Found := bestOf p (choR p p.sets [])
theorem best_srch {p : RProb} (hp : p.ok = true) : srch p p.sets.length p.zero 0 none = bestR p := by
  rw [srch_eq hp _ _ _ _ (by simp [RProb.zero]) (by simp [RProb.zero]) (fun j hj => by omega), bestR, choices_eq]
  rfl

theorem incF_lt : ∀ {l : List Int}, incF l = true → l.Pairwise (· < ·)
  | [], _ => List.Pairwise.nil
  | [x], _ => by simp
  | x :: y :: r, h => by
    simp only [incF, Bool.and_eq_true, decide_eq_true_eq] at h
    have ih := incF_lt h.2
    refine List.Pairwise.cons (fun z hz => ?_) ih
    rcases List.mem_cons.1 hz with rfl | hz
    · exact h.1.2
    · have := (List.pairwise_cons.1 ih).1 z hz
      omega

theorem form_lt {p : RProb} (h : p.ok = true) {i : Nat} (hi : i < p.sets.length) : (p.form i).Pairwise (· < ·) := by
  simp only [RProb.ok, Bool.and_eq_true, List.all_eq_true] at h
  have h1 := h.1.1.2 p.sets[i] (List.getElem_mem hi)
  simp only [formsOK, Bool.and_eq_true] at h1
  have e : p.form i = p.sets[i].forms := by simp [RProb.form, List.getD_eq_getElem?_getD, hi]
  rw [e]
  exact incF_lt h1.2.1

/-- Just one of the lists is kept. -/
theorem flatMap_one {α : Type} (g : Int → List α) (f : Int) : ∀ (l : List Int), l.Pairwise (· < ·) → f ∈ l → l.flatMap (fun x => if x = f then g x else []) = g f
  | [], _, h => by cases h
  | x :: r, hp, h => by
    rw [List.pairwise_cons] at hp
    rw [List.flatMap_cons]
    by_cases e : x = f
    · subst e
      rw [if_pos rfl]
      have : r.flatMap (fun y => if y = x then g y else []) = [] := by
        rw [List.flatMap_eq_nil_iff]
        intro y hy
        have := hp.1 y hy
        rw [if_neg (by omega)]
      rw [this, List.append_nil]
    · rw [if_neg e, List.nil_append]
      exact flatMap_one g f r hp.2 ((List.mem_cons.1 h).resolve_left fun h => e h.symm)

theorem set_self {c : List Int} {s : Nat} {f : Int} (h : c.getD s 0 = f) (hs : s < c.length) : c.set s f = c := by
  apply List.ext_getElem?
  intro j
  rw [List.getElem?_set]
  split
  · rename_i e
    subst e
    have : c[s]? = some f := by
      simp only [List.getD_eq_getElem?_getD] at h
      rw [List.getElem?_eq_getElem hs] at h ⊢
      simpa using h
    rw [this]
    try rw [if_pos hs]
  · rfl

theorem flatMap_same {α : Type} {g g' : Int → List α} : ∀ (l : List Int), (∀ x ∈ l, g x = g' x) → l.flatMap g = l.flatMap g'
  | [], _ => rfl
  | x :: r, h => by rw [List.flatMap_cons, List.flatMap_cons, h x (by simp), flatMap_same r fun y hy => h y (by simp [hy])]

theorem choP_fixed {p : RProb} {s : Nat} {f : Int} (hf0 : f ≠ 0) {k : Nat} {c : List Int} {i : Nat} (h : c.getD s 0 = f) : (choP p k c i).filter (fun x => x.getD s 0 == f) = choP p k c i := by
  rw [List.filter_eq_self]
  intro x hx
  have := (choP_goes k c i x hx).1.2 s (by rw [h]; exact hf0)
  simp only [beq_iff_eq]
  exact this.trans h

/-- With the form of one set: those of all that have it. -/
theorem choP_filter {p : RProb} (hp : p.ok = true) {s : Nat} {f : Int} (hf0 : f ≠ 0) (hf : f ∈ p.form s) : ∀ (k : Nat) (c : List Int) (i : Nat), i + k = c.length → c.length = p.sets.length → s < c.length → i ≤ s → (∀ j, i ≤ j → c.getD j 0 = 0) →
    (choP p k c i).filter (fun x => x.getD s 0 == f) = choP p k (c.set s f) i := by
  intro k
  induction k with
  | zero => intro c i hk hl hs hi hz; omega
  | succ k ih =>
    intro c i hk hl hs hi hz
    have h0 := hz i (Nat.le_refl _)
    have hfive := (form_ne hp (show i < p.sets.length by omega)).2
    have hnz : ∀ g ∈ p.form i, g ≠ 0 := fun g hg => by
      have := hfive g hg
      simp only [five, Bool.and_eq_true, decide_eq_true_eq] at this
      omega
    by_cases e : i = s
    · subst e
      simp only [choP, if_neg (Classical.not_not.2 h0), getD_set_eq hs, if_pos hf0]
      rw [List.filter_flatMap]
      have key : ∀ g ∈ p.form i, (choP p k (c.set i g) (i + 1)).filter (fun x => x.getD i 0 == f) = if g = f then choP p k (c.set i g) (i + 1) else [] := by
        intro g hg
        split
        · rename_i e; subst e; exact choP_fixed hf0 (getD_set_eq hs)
        · rename_i e
          rw [List.filter_eq_nil_iff]
          intro x hx
          have := (choP_goes k _ _ x hx).1.2 i (by rw [getD_set_eq hs]; exact hnz g hg)
          rw [getD_set_eq hs] at this
          simp only [this, beq_iff_eq]
          exact e
      rw [flatMap_same _ key]
      exact flatMap_one (fun g => choP p k (c.set i g) (i + 1)) f _ (form_lt hp (by omega)) hf
    · simp only [choP, if_neg (Classical.not_not.2 h0), getD_set_ne (Ne.symm e), List.filter_flatMap]
      refine flatMap_same _ fun g hg => ?_
      rw [ih (c.set i g) (i + 1) (by simp; omega) (by simpa using hl) (by simpa using hs) (by omega) fun j hj => ?_]
      · rw [List.set_comm _ _ e]
      · rw [getD_set_ne (by omega)]; exact hz j (by omega)

/-- P11.4 -/
def leastR (p : RProb) (s : Nat) (f : Int) : Found := bestOf p ((choR p p.sets []).filter fun x => x.getD s 0 == f)
theorem zero_getD (p : RProb) (j : Nat) : p.zero.getD j 0 = 0 := by
  simp only [RProb.zero, List.getD_eq_getElem?_getD, List.getElem?_replicate]
  split <;> rfl

theorem srch_from {p : RProb} (hp : p.ok = true) : ∀ (k : Nat) (c : List Int) (i : Nat) (acc : Found), i + k = c.length → c.length = p.sets.length → UpTo c i → srch p k c i acc = (choP p k c i).foldl (upd p) acc := srch_eq hp

theorem least_srch {p : RProb} (hp : p.ok = true) {s : Nat} {f : Int} (hs : s < p.sets.length) (hf0 : f ≠ 0) : srch p p.sets.length (p.zero.set s f) 0 none = leastR p s f := by
  have hzl : p.zero.length = p.sets.length := by simp [RProb.zero]
  rw [srch_eq hp _ _ _ _ (by simp [hzl]) (by simp [hzl]) (fun j hj => by omega)]
  unfold leastR bestOf
  congr 1
  rw [choices_eq]
  by_cases hf : f ∈ p.form s
  · exact (choP_filter hp hf0 hf _ _ 0 (by simp [hzl]) hzl (by omega) (Nat.zero_le _) fun j _ => zero_getD p j).symm
  · rw [choP_none (c := p.zero.set s f)]
    · symm
      rw [List.filter_eq_nil_iff]
      intro x hx
      have := (choP_full hp (by simp [hzl]) hzl (fun j hj => by omega) hx).2 s (by
        rw [(choP_full hp (by simp [hzl]) hzl (fun j hj => by omega) hx).1]; exact hs)
      simp only [beq_iff_eq]
      intro e
      rw [e] at this
      exact hf this.2
    · intro ha
      simp only [allowed, Bool.and_eq_true, List.all_eq_true, List.mem_range] at ha
      have := ha.1 s (by simp [hzl]; exact hs)
      rw [getD_set_eq (by omega)] at this
      simp only [fitsF, Bool.or_eq_true, beq_iff_eq] at this
      rcases this with h | h
      · exact hf0 h
      · exact hf (by simpa using h)
end Go.Vi
end

section
/- Representations (layer 11): proofs that no choice costs less, in plain Lean. No program in sight; no conditions but those that stand with each. -/
namespace Go.Vi
set_option maxRecDepth 10000

/-- Is a leaf at a part wrong? -/
def leafW (p : RProb) (cost : Int) (part : List Int) : Bool := allowed p part && decide (floorP p part < cost)
mutual
/-- A tree of a proof from a place on: the place after it, and the first leaf that does not hold (-1: none); none: there is no tree. -/
def tre (p : RProb) (cost : Int) (proof : List Int) : Nat → Nat → List Int → Option (Nat × Int)
  | 0, _, _ => none
  | k + 1, at_, part =>
    match proof[at_]? with
    | none => none
    | some s =>
      if s = -1 then some (at_ + 1, if leafW p cost part = true then at_ else -1)
      else if 0 ≤ s ∧ s < p.sets.length ∧ part.getD s.toNat 0 = 0 then tres p cost proof k (at_ + 1) (-1) s.toNat part (p.form s.toNat)
      else none
def tres (p : RProb) (cost : Int) (proof : List Int) : Nat → Nat → Int → Nat → List Int → List Int → Option (Nat × Int)
  | _, at_, w, _, _, [] => some (at_, w)
  | k, at_, w, s, part, f :: r =>
    match tre p cost proof k at_ (part.set s f) with
    | some (next, leaf) => tres p cost proof k next (if w < 0 then leaf else w) s part r
    | none => none
end

/-- The proof that is made. -/
def grow (p : RProb) (cost : Int) : Nat → List Int → Nat → List Int
  | 0, _, _ => [-1]
  | k + 1, c, i => if allowed p c = true ∧ floorP p c < cost then (i : Int) :: (p.form i).flatMap fun f => grow p cost k (c.set i f) (i + 1) else [-1]

theorem form_len {p : RProb} (hp : p.ok = true) {i : Nat} (hi : i < p.sets.length) : (p.form i).length ≤ 5 := by
  have h1 := form_lt hp hi
  have h2 := (form_ne hp hi).2
  have key : ∀ (l : List Int) (a : Int), l.Pairwise (· < ·) → (∀ x ∈ l, a < x ∧ x ≤ 5) → 0 ≤ a → a ≤ 5 → (l.length : Int) ≤ 5 - a := by
    intro l
    induction l with
    | nil => intro a _ _ _ h; simp; omega
    | cons x r ih =>
      intro a hp hx h0 h5
      rw [List.pairwise_cons] at hp
      have h3 := hx x (by simp)
      have := ih x hp.2 (fun y hy => ⟨hp.1 y hy, (hx y (by simp [hy])).2⟩) (by omega) (by omega)
      simp only [List.length_cons]
      omega
  have := key (p.form i) 0 h1 (fun x hx => by
    have := h2 x hx
    simp only [five, Bool.and_eq_true, decide_eq_true_eq] at this
    omega) (by omega) (by omega)
  omega

def growMost : Nat → Nat
  | 0 => 1
  | k + 1 => 1 + 5 * growMost k
theorem grow_len {p : RProb} (hp : p.ok = true) (cost : Int) : ∀ (k : Nat) (c : List Int) (i : Nat), i + k = p.sets.length → (grow p cost k c i).length ≤ growMost k ∧ 1 ≤ (grow p cost k c i).length
  | 0, c, i, _ => by simp [grow, growMost]
  | k + 1, c, i, h => by
    simp only [grow, growMost]
    split
    · have h5 := form_len hp (show i < p.sets.length by omega)
      have key : ∀ (l : List Int), (l.flatMap fun f => grow p cost k (c.set i f) (i + 1)).length ≤ l.length * growMost k := by
        intro l
        induction l with
        | nil => simp
        | cons f r ih =>
          have := (grow_len hp cost k (c.set i f) (i + 1) (by omega)).1
          simp only [List.flatMap_cons, List.length_append, List.length_cons]
          rw [Nat.add_mul]
          omega
      have h6 := key (p.form i)
      have h7 : (p.form i).length * growMost k ≤ 5 * growMost k := Nat.mul_le_mul_right _ h5
      simp only [List.length_cons]
      omega
    · simp only [List.length_singleton]
      omega

theorem grow_bound {p : RProb} (hp : p.ok = true) (cost : Int) (c : List Int) : (grow p cost p.sets.length c 0).length ≤ 3906 := by
  have h1 := (grow_len hp cost p.sets.length c 0 (by omega)).1
  have h2 : p.sets.length ≤ 5 := by
    simp only [RProb.ok, Bool.and_eq_true, decide_eq_true_eq] at hp
    exact hp.1.1.1.1.1
  have h3 : growMost p.sets.length ≤ growMost 5 := by
    generalize p.sets.length = n at h2
    match n, h2 with
    | 0, _ | 1, _ | 2, _ | 3, _ | 4, _ | 5, _ => decide
  have : growMost 5 = 3906 := by decide
  omega

/-- What is grown is a tree; no leaf of it is wrong at a cost that no whole choice beats; one is wrong at a cost that a whole choice beats, and that is more than what it was grown for. -/
theorem grow_tre {p : RProb} (hp : p.ok = true) (cost cost' : Int) : ∀ (k : Nat) (c : List Int) (i : Nat) (pre post : List Int), i + k = c.length → c.length = p.sets.length → UpTo c i → (∀ j, i ≤ j → c.getD j 0 = 0) →
    ∃ w, tre p cost' (pre ++ (grow p cost k c i ++ post)) (k + 1) pre.length c = some (pre.length + (grow p cost k c i).length, w) ∧
      (cost' ≤ cost → (∀ x ∈ choP p k c i, cost' ≤ total p x) → w = -1) ∧ (∀ x ∈ choP p k c i, total p x < cost' → 0 ≤ w) ∧ (-1 ≤ w) := by
  intro k
  induction k with
  | zero =>
    intro c i pre post hk hl hu hz
    refine ⟨if leafW p cost' c = true then pre.length else -1, ?_, fun h1 h2 => ?_, fun x hx h => ?_, ?_⟩
    · simp [tre, grow]
    · unfold leafW
      by_cases ha : allowed p c = true
      · have := h2 c (by simp [choP, ha])
        rw [floor_full hp (full_of hl (by rw [show c.length = i by omega]; exact hu) ha)]
        simp [ha]
        omega
      · simp [ha]
    · simp only [choP] at hx
      split at hx
      · rename_i ha
        simp only [List.mem_singleton] at hx
        subst hx
        unfold leafW
        rw [floor_full hp (full_of hl (by rw [show x.length = i by omega]; exact hu) ha), ha]
        simp [h]
      · cases hx
    · split <;> omega
  | succ k ih =>
    intro c i pre post hk hl hu hz
    have hi : i < p.sets.length := by omega
    by_cases hg : allowed p c = true ∧ floorP p c < cost
    · have hgr : grow p cost (k + 1) c i = (i : Int) :: (p.form i).flatMap fun f => grow p cost k (c.set i f) (i + 1) := by simp only [grow, if_pos hg]
      have hfive := (form_ne hp hi).2
      have hnz : ∀ g ∈ p.form i, g ≠ 0 := fun g hg => by
        have := hfive g hg
        simp only [five, Bool.and_eq_true, decide_eq_true_eq] at this
        omega
      -- the loop over the forms
      have loop : ∀ (l : List Int) (pre' : List Int) (w : Int), (∀ x ∈ l, x ≠ 0) → -1 ≤ w →
          ∃ w', tres p cost' (pre' ++ ((l.flatMap fun f => grow p cost k (c.set i f) (i + 1)) ++ post)) (k + 1) pre'.length w i c l = some (pre'.length + (l.flatMap fun f => grow p cost k (c.set i f) (i + 1)).length, w') ∧
            (w = -1 → cost' ≤ cost → (∀ f ∈ l, ∀ x ∈ choP p k (c.set i f) (i + 1), cost' ≤ total p x) → w' = -1) ∧ ((∃ f ∈ l, ∃ x ∈ choP p k (c.set i f) (i + 1), total p x < cost') → 0 ≤ w') ∧ (0 ≤ w → 0 ≤ w') ∧ -1 ≤ w' := by
        intro l
        induction l with
        | nil =>
          intro pre' w _ hw
          exact ⟨w, by simp [tres], fun h _ _ => h, fun ⟨f, hf, _⟩ => absurd hf (by simp), id, hw⟩
        | cons f r ihr =>
          intro pre' w hl0 hw
          have hf0 := hl0 f (by simp)
          obtain ⟨w1, h1, h2, h3, h4⟩ := ih (c.set i f) (i + 1) pre' ((r.flatMap fun f => grow p cost k (c.set i f) (i + 1)) ++ post) (by simp; omega) (by simpa using hl) (fun j hj => by
            by_cases e : i = j
            · subst e; rw [getD_set_eq (by omega)]; exact hf0
            · rw [getD_set_ne e]; exact hu j (by omega)) (fun j hj => by rw [getD_set_ne (by omega)]; exact hz j (by omega))
          obtain ⟨w2, k1, k2, k3, k4, k5⟩ := ihr (pre' ++ grow p cost k (c.set i f) (i + 1)) (if w < 0 then w1 else w) (fun x hx => hl0 x (by simp [hx])) (by split <;> omega)
          refine ⟨w2, ?_, fun hw1 hc hx => ?_, fun ⟨g, hg, x, hx, hlt⟩ => ?_, fun h0 => ?_, k5⟩
          · simp only [List.flatMap_cons, tres]
            rw [List.append_assoc, h1]
            simp only
            rw [List.length_append, List.append_assoc] at k1
            rw [k1, List.length_append]
            simp only [Nat.add_assoc]
          · subst hw1
            have := h2 hc (hx f (by simp))
            rw [if_pos (by omega)] at k2
            exact k2 this hc fun g hg => hx g (by simp [hg])
          · rcases List.mem_cons.1 hg with rfl | hg
            · have := h3 x hx hlt
              exact k4 (by split <;> omega)
            · exact k3 ⟨g, hg, x, hx, hlt⟩
          · exact k4 (by rw [if_neg (by omega)]; exact h0)
      obtain ⟨w, h1, h2, h3, _, h5⟩ := loop (p.form i) (pre ++ [(i : Int)]) (-1) hnz (by omega)
      refine ⟨w, ?_, fun hc hx => ?_, fun x hx hlt => ?_, h5⟩
      · rw [hgr]
        have e0 : (pre ++ ((i : Int) :: (p.form i).flatMap (fun f => grow p cost k (c.set i f) (i + 1)) ++ post))[pre.length]? = some (i : Int) := by simp
        rw [show k + 1 + 1 = (k + 1) + 1 from rfl]
        simp only [tre, e0]
        rw [if_neg (by omega), if_pos ⟨by omega, by omega, by simpa using hz i (Nat.le_refl _)⟩]
        simp only [Int.toNat_natCast]
        simp only [List.length_append, List.length_singleton, List.append_assoc, List.singleton_append] at h1
        rw [List.cons_append, h1]
        simp only [List.length_cons]
        congr 2
        omega
      · refine h2 rfl hc fun f hf x hxx => hx x ?_
        simp only [choP, if_neg (Classical.not_not.2 (hz i (Nat.le_refl _)))]
        rw [List.mem_flatMap]
        exact ⟨f, hf, hxx⟩
      · simp only [choP, if_neg (Classical.not_not.2 (hz i (Nat.le_refl _)))] at hx
        rw [List.mem_flatMap] at hx
        obtain ⟨f, hf, hxx⟩ := hx
        exact h3 ⟨f, hf, x, hxx, hlt⟩
    · have hgr : grow p cost (k + 1) c i = [-1] := by simp only [grow, if_neg hg]
      rw [hgr]
      refine ⟨if leafW p cost' c = true then pre.length else -1, ?_, fun h1 h2 => ?_, fun x hx h => ?_, ?_⟩
      · simp [tre]
      · unfold leafW
        by_cases ha : allowed p c = true
        · have : ¬ floorP p c < cost := fun h => hg ⟨ha, h⟩
          simp [ha]
          omega
        · simp [ha]
      · have hgo := choP_goes _ _ _ _ hx
        have hfl := floor_le hp (choP_full hp hk hl hu hx) hgo.1
        have ha := allowed_goes hgo.1 hgo.2
        unfold leafW
        rw [ha]
        simp
        omega
      · split <;> omega
end Go.Vi
end

section
/- Representations (layer 11), outright: proofs bound costs, all choices as a product, floors grow, in plain Lean. No program in sight; no conditions but those that stand with each. -/
namespace Go.Vi
set_option maxRecDepth 10000

theorem goes_take {part c : List Int} {s : Nat} (hg : Goes part c) (h : part.getD s 0 = 0) : Goes (part.set s (c.getD s 0)) c := by
  refine ⟨by rw [List.length_set]; exact hg.1, fun i hi => ?_⟩
  by_cases e : s = i
  · subst e
    by_cases hs : s < part.length
    · rw [getD_set_eq hs]
    · rw [List.set_eq_of_length_le (by omega)] at hi
      exact absurd h hi
  · rw [getD_set_ne e] at hi ⊢
    exact hg.2 i hi

theorem tres_sound {p : RProb} {cost : Int} {proof : List Int} {k s : Nat} {part : List Int}
    (ih : ∀ (at_ : Nat) (f : Int) (next : Nat) (leaf : Int), tre p cost proof k at_ (part.set s f) = some (next, leaf) → leaf < 0 → ∀ c, Full p c → Goes (part.set s f) c → allowed p c = true → cost ≤ total p c) :
    ∀ (l : List Int) (at_ : Nat) (w : Int) (next : Nat) (leaf : Int), tres p cost proof k at_ w s part l = some (next, leaf) → leaf < 0 →
      w < 0 ∧ ∀ f ∈ l, ∀ c, Full p c → Goes (part.set s f) c → allowed p c = true → cost ≤ total p c
  | [], at_, w, next, leaf, h, hl => by
    simp only [tres, Option.some.injEq, Prod.mk.injEq] at h
    obtain ⟨_, rfl⟩ := h
    exact ⟨hl, fun f hf => by cases hf⟩
  | f :: r, at_, w, next, leaf, h, hl => by
    simp only [tres] at h
    cases ht : tre p cost proof k at_ (part.set s f) with
    | none => rw [ht] at h; cases h
    | some y =>
      obtain ⟨n1, l1⟩ := y
      rw [ht] at h
      obtain ⟨h1, h2⟩ := tres_sound ih r n1 _ next leaf h hl
      have hw : w < 0 := by
        by_cases hw : w < 0
        · exact hw
        · rw [if_neg hw] at h1; exact h1
      rw [if_pos hw] at h1
      refine ⟨hw, fun g hg => ?_⟩
      rcases List.mem_cons.1 hg with rfl | hg
      · exact ih at_ g n1 l1 ht h1
      · exact h2 g hg

/-- A tree without a wrong leaf bounds what all choices cost that go on from its part. -/
theorem tre_sound {p : RProb} (hp : p.ok = true) {cost : Int} {proof : List Int} : ∀ (k : Nat) (at_ : Nat) (part : List Int) (next : Nat) (leaf : Int), tre p cost proof k at_ part = some (next, leaf) → leaf < 0 →
    ∀ c, Full p c → Goes part c → allowed p c = true → cost ≤ total p c := by
  intro k
  induction k with
  | zero => intro at_ part next leaf h; simp [tre] at h
  | succ k ih =>
    intro at_ part next leaf h hl c hc hg ha
    simp only [tre] at h
    cases hs : proof[at_]? with
    | none => rw [hs] at h; cases h
    | some s =>
      rw [hs] at h
      simp only at h
      split at h
      · simp only [Option.some.injEq, Prod.mk.injEq] at h
        obtain ⟨_, rfl⟩ := h
        split at hl
        · omega
        · rename_i hw
          have h1 : allowed p part = true := allowed_goes hg ha
          simp only [leafW, h1, Bool.true_and, decide_eq_true_eq] at hw
          have := floor_le hp hc hg
          omega
      · split at h
        · rename_i hc2
          obtain ⟨h0, hn, hz⟩ := hc2
          have key := tres_sound (p := p) (cost := cost) (proof := proof) (k := k) (s := s.toNat) (part := part) (fun at_ f next leaf h hl c h1 h2 h3 => ih at_ _ next leaf h hl c h1 h2 h3) _ _ _ _ _ h hl
          have hlt : s.toNat < c.length := by rw [hc.1]; omega
          exact key.2 _ (hc.2 _ hlt).2 c hc (goes_take hg hz) ha
        · cases h

/-! ### All choices, as a product -/
def prodR : List RSet → List Int → List (List Int)
  | [], b => [b]
  | s :: r, b => s.forms.flatMap fun f => prodR r (b ++ [f])
/-- The law's: set by set. -/
def stepL (L : List (List Int)) (s : RSet) : List (List Int) := L.flatMap fun c => s.forms.map fun f => c ++ [f]
theorem fold_prod : ∀ (r : List RSet) (L : List (List Int)), r.foldl stepL L = L.flatMap (prodR r)
  | [], L => by
    induction L with
    | nil => rfl
    | cons c L ih => simp only [List.foldl_nil, List.flatMap_cons, prodR] at ih ⊢; rw [← ih]; rfl
  | s :: r, L => by
    rw [List.foldl_cons, fold_prod r]
    simp only [stepL, prodR, List.flatMap_assoc, List.flatMap_map]
theorem choR_prod (p : RProb) : ∀ (r : List RSet) (b : List Int), choR p r b = (prodR r b).filter (allowed p)
  | [], b => by
    simp only [choR, prodR, List.filter_cons, List.filter_nil]
  | s :: r, b => by
    simp only [choR, prodR, List.filter_flatMap]
    congr 1
    funext f
    exact choR_prod p r _

theorem prodR_mem : ∀ (r : List RSet) (b c : List Int), c ∈ prodR r b → ∃ t, c = b ++ t ∧ t.length = r.length ∧ ∀ i, i < t.length → t.getD i 0 ∈ (r.getD i ⟨0, []⟩).forms
  | [], b, c, h => by
    simp only [prodR, List.mem_singleton] at h
    exact ⟨[], by simp [h], rfl, fun i hi => absurd hi (by simp)⟩
  | s :: r, b, c, h => by
    simp only [prodR, List.mem_flatMap] at h
    obtain ⟨f, hf, h⟩ := h
    obtain ⟨t, h1, h2, h3⟩ := prodR_mem r _ c h
    refine ⟨f :: t, by simp [h1], by simp [h2], fun i hi => ?_⟩
    cases i with
    | zero => simpa using hf
    | succ i => simpa using h3 i (by simpa using hi)

/-- Are all pairs of one form? -/
def evens (p : RProb) (c : List Int) : Bool := p.same.all fun s => c.getD s.1.toNat 0 == c.getD s.2.toNat 0

theorem okY_pair {p : RProb} (h : p.ok = true) {s : Int × Int} (hs : s ∈ p.same) : s.1.toNat < p.sets.length ∧ s.2.toNat < p.sets.length := by
  simp only [RProb.ok, Bool.and_eq_true, List.all_eq_true] at h
  have := h.2 s hs
  simp only [pairOK, inR, Bool.and_eq_true, decide_eq_true_eq] at this
  omega

theorem full_allowed {p : RProb} (h : p.ok = true) {c : List Int} (hc : Full p c) : allowed p c = evens p c := by
  have h1 : (List.range c.length).all (fun i => fitsF p i (c.getD i 0)) = true := by
    rw [List.all_eq_true]
    intro i hi
    have := (hc.2 i (List.mem_range.1 hi)).2
    simp only [fitsF, Bool.or_eq_true]
    exact .inr (by simpa using this)
  simp only [allowed, h1, Bool.true_and, evens]
  have key : ∀ s ∈ p.same, (!apart (c.getD s.1.toNat 0) (c.getD s.2.toNat 0)) = (c.getD s.1.toNat 0 == c.getD s.2.toNat 0) := by
    intro s hs
    obtain ⟨k1, k2⟩ := okY_pair h hs
    have n1 := (hc.2 s.1.toNat (by rw [hc.1]; exact k1)).1
    have n2 := (hc.2 s.2.toNat (by rw [hc.1]; exact k2)).1
    revert n1 n2
    generalize c.getD s.1.toNat 0 = x
    generalize c.getD s.2.toNat 0 = y
    intro n1 n2
    rw [Bool.eq_iff_iff]
    simp [apart, n1, n2]
  rw [Bool.eq_iff_iff, List.all_eq_true, List.all_eq_true]
  exact ⟨fun h s hs => (key s hs) ▸ h s hs, fun h s hs => (key s hs).symm ▸ h s hs⟩

theorem prod_full {p : RProb} (h : p.ok = true) {c : List Int} (hc : c ∈ prodR p.sets []) : Full p c := by
  obtain ⟨t, e, h2, h3⟩ := prodR_mem _ _ _ hc
  rw [List.nil_append] at e
  subst e
  refine ⟨h2, fun i hi => ?_⟩
  have hm := h3 i hi
  have hi' : i < p.sets.length := by omega
  refine ⟨fun e => ?_, hm⟩
  have := (form_ne h hi').2 _ hm
  rw [e] at this
  simp [five] at this

/-- All that are allowed, as the law finds them. -/
def allL (p : RProb) : List (List Int) := (p.sets.foldl stepL [[]]).filter (evens p)
theorem all_choices {p : RProb} (h : p.ok = true) : allL p = choR p p.sets [] := by
  rw [allL, fold_prod, choR_prod]
  simp only [List.flatMap_cons, List.flatMap_nil, List.append_nil]
  exact List.filter_congr fun c hc => (full_allowed h (prod_full h hc)).symm

/-! ### Floors -/
theorem minL_sub {l k : List Int} (hl : ∀ x ∈ l, 0 ≤ x) (hk : k ≠ []) (h : ∀ x ∈ k, x ∈ l) : minL (-1) l ≤ minL (-1) k := by
  have h1 := minL_mem k (-1) fun x hx => hl x (h x hx)
  have h2 := minL_mem l (-1) hl
  rcases h1.1 with e | e
  · have := h1.2.2.2 (by omega) hk; omega
  · exact h2.2.2.1 _ (h _ e)

end Go.Vi
end

section
/- Representations (layer 11), outright: sets with other numbers: the least cost stays. Plain Lean; no program in sight; no conditions but those that stand with each. -/
namespace Go.Vi
set_option maxRecDepth 10000

/-! ### The least cost of some choices -/
def leastN (p : RProb) (l : List (List Int)) : Option Int := (bestOf p l).map (·.2)
theorem fold_min {p : RProb} : ∀ (l : List (List Int)) (b : List Int) (n : Int), ∃ b' m, l.foldl (upd p) (some (b, n)) = some (b', m) ∧ (m = n ∨ ∃ c ∈ l, total p c = m) ∧ m ≤ n ∧ ∀ c ∈ l, m ≤ total p c
  | [], b, n => ⟨b, n, rfl, .inl rfl, Int.le_refl _, fun c hc => by cases hc⟩
  | x :: r, b, n => by
    simp only [List.foldl_cons, upd]
    by_cases h : total p x < n
    · rw [if_pos h]
      obtain ⟨b', m, h1, h2, h3, h4⟩ := fold_min r x (total p x)
      refine ⟨b', m, h1, .inr ?_, by omega, fun c hc => ?_⟩
      · rcases h2 with h2 | ⟨c, hc, e⟩
        · exact ⟨x, by simp, h2.symm⟩
        · exact ⟨c, by simp [hc], e⟩
      · rcases List.mem_cons.1 hc with rfl | hc
        · exact h3
        · exact h4 c hc
    · rw [if_neg h]
      obtain ⟨b', m, h1, h2, h3, h4⟩ := fold_min r b n
      refine ⟨b', m, h1, ?_, h3, fun c hc => ?_⟩
      · rcases h2 with h2 | ⟨c, hc, e⟩
        · exact .inl h2
        · exact .inr ⟨c, by simp [hc], e⟩
      · rcases List.mem_cons.1 hc with rfl | hc
        · omega
        · exact h4 c hc

theorem leastN_spec (p : RProb) (l : List (List Int)) : (l = [] ∧ bestOf p l = none ∧ leastN p l = none) ∨ ∃ b m, l ≠ [] ∧ bestOf p l = some (b, m) ∧ leastN p l = some m ∧ (∃ c ∈ l, total p c = m) ∧ ∀ c ∈ l, m ≤ total p c := by
  cases l with
  | nil => exact .inl ⟨rfl, rfl, rfl⟩
  | cons x r =>
    right
    obtain ⟨b, m, h1, h2, h3, h4⟩ := fold_min (p := p) r x (total p x)
    have e : bestOf p (x :: r) = some (b, m) := h1
    refine ⟨b, m, by simp, e, by simp [leastN, e], ?_, fun c hc => ?_⟩
    · rcases h2 with h2 | ⟨c, hc, e⟩
      · exact ⟨x, by simp, h2.symm⟩
      · exact ⟨c, by simp [hc], e⟩
    · rcases List.mem_cons.1 hc with rfl | hc
      · exact h3
      · exact h4 c hc

/-- Two lists of choices with the same costs have the same least one. -/
theorem leastN_same {p q : RProb} {l k : List (List Int)} (h1 : ∀ c ∈ l, ∃ d ∈ k, total q d = total p c) (h2 : ∀ d ∈ k, ∃ c ∈ l, total p c = total q d) : leastN p l = leastN q k := by
  rcases leastN_spec p l with ⟨e, _, hl⟩ | ⟨b, m, hne, _, hl, ⟨c, hc, ec⟩, hle⟩
  · rcases leastN_spec q k with ⟨_, _, hk⟩ | ⟨_, _, hne, _, _, ⟨d, hd, _⟩, _⟩
    · rw [hl, hk]
    · obtain ⟨c, hc, _⟩ := h2 d hd
      rw [e] at hc; cases hc
  · rcases leastN_spec q k with ⟨e, _, hk⟩ | ⟨b', m', _, _, hk, ⟨d, hd, ed⟩, hle'⟩
    · obtain ⟨d, hd, _⟩ := h1 c hc
      rw [e] at hd; cases hd
    · obtain ⟨d', hd', e1⟩ := h1 c hc
      obtain ⟨c', hc', e2⟩ := h2 d hd
      have a1 := hle' d' hd'
      have a2 := hle c' hc'
      rw [hl, hk]
      congr 1
      omega

/-! ### All choices that are whole -/
theorem mem_prodR : ∀ (r : List RSet) (b t : List Int), t.length = r.length → (∀ i, i < t.length → t.getD i 0 ∈ (r.getD i ⟨0, []⟩).forms) → b ++ t ∈ prodR r b
  | [], b, t, hl, _ => by
    have : t = [] := List.length_eq_zero_iff.1 hl
    subst this
    simp [prodR]
  | s :: r, b, [], hl, _ => by simp at hl
  | s :: r, b, f :: t, hl, h => by
    simp only [prodR, List.mem_flatMap]
    refine ⟨f, by simpa using h 0 (by simp), ?_⟩
    have := mem_prodR r (b ++ [f]) t (by simpa using hl) fun i hi => by simpa using h (i + 1) (by simpa using hi)
    simpa using this

theorem full_iff {p : RProb} (h : p.ok = true) {c : List Int} : c ∈ choR p p.sets [] ↔ Full p c ∧ evens p c = true := by
  rw [choR_prod, List.mem_filter]
  constructor
  · rintro ⟨h1, h2⟩
    have hf := prod_full h h1
    exact ⟨hf, (full_allowed h hf) ▸ h2⟩
  · rintro ⟨h1, h2⟩
    refine ⟨?_, (full_allowed h h1).symm ▸ h2⟩
    have := mem_prodR p.sets [] c h1.1 fun i hi => (h1.2 i hi).2
    simpa using this

/-! ### Other numbers -/
/-- A list of all numbers up to its length, each once. -/
def PermN (to : List Nat) : Prop := to.Nodup ∧ ∀ x ∈ to, x < to.length

theorem perm_mem {to : List Nat} (h : PermN to) {j : Nat} (hj : j < to.length) : j ∈ to := by
  have key : ∀ (n : Nat) (l : List Nat), l.Nodup → (∀ x ∈ l, x < n) → l.length = n → ∀ j, j < n → j ∈ l := by
    intro n
    induction n with
    | zero => intro l _ _ _ j hj; omega
    | succ n ih =>
      intro l hn hb hl j hj
      by_cases hm : n ∈ l
      · by_cases e : j = n
        · rw [e]; exact hm
        · have h1 := ih (l.erase n) (hn.erase n) (fun x hx => by
            have h2 := hb x (List.mem_of_mem_erase hx)
            have h3 : x ≠ n := fun e => by rw [e] at hx; exact absurd hx hn.not_mem_erase
            omega) (by rw [List.length_erase_of_mem hm]; omega) j (by omega)
          exact List.mem_of_mem_erase h1
      · -- n + 1 numbers below n
        exfalso
        have : ∀ (m : Nat) (l : List Nat), l.Nodup → (∀ x ∈ l, x < m) → l.length ≤ m := by
          intro m
          induction m with
          | zero => intro l _ hb; cases l with
            | nil => simp
            | cons x r => exact absurd (hb x (by simp)) (by omega)
          | succ m ihm =>
            intro l hn hb
            by_cases hm : m ∈ l
            · have h1 := ihm (l.erase m) (hn.erase m) (fun x hx => by
                have h2 := hb x (List.mem_of_mem_erase hx)
                have h3 : x ≠ m := fun e => by rw [e] at hx; exact absurd hx hn.not_mem_erase
                omega)
              rw [List.length_erase_of_mem hm] at h1
              omega
            · have h1 := ihm l hn (fun x hx => by
                have h2 := hb x hx
                have h3 : x ≠ m := fun e => hm (e ▸ hx)
                omega)
              omega
        have h1 := this n l hn (fun x hx => by
          have h2 := hb x hx
          have h3 : x ≠ n := fun e => hm (e ▸ hx)
          omega)
        omega
  exact key to.length to h.1 h.2 rfl j hj

def inv (to : List Nat) (j : Nat) : Nat := to.idxOf j
theorem inv_lt {to : List Nat} (h : PermN to) {j : Nat} (hj : j < to.length) : inv to j < to.length := List.idxOf_lt_length_of_mem (perm_mem h hj)
theorem to_inv {to : List Nat} (h : PermN to) {j : Nat} (hj : j < to.length) : to.getD (inv to j) 0 = j := by
  have := inv_lt h hj
  rw [List.getD_eq_getElem?_getD, List.getElem?_eq_getElem this]
  exact List.getElem_idxOf this
theorem inv_to {to : List Nat} (h : PermN to) {i : Nat} (hi : i < to.length) : inv to (to.getD i 0) = i := by
  rw [List.getD_eq_getElem?_getD, List.getElem?_eq_getElem hi]
  exact h.1.idxOf_getElem i hi
theorem to_lt {to : List Nat} (h : PermN to) {i : Nat} (hi : i < to.length) : to.getD i 0 < to.length := by
  rw [List.getD_eq_getElem?_getD, List.getElem?_eq_getElem hi]
  exact h.2 _ (List.getElem_mem hi)

/-- The problem with other numbers. -/
def renU (to : List Nat) (u : RUse) : RUse := ⟨u.d, (to.getD u.a.toNat 0 : Nat), if 5 ≤ u.d then (to.getD u.b.toNat 0 : Nat) else u.b, u.t⟩
def renW (to : List Nat) (x : Int × Int) : Int × Int := ((to.getD x.1.toNat 0 : Nat), (to.getD x.2.toNat 0 : Nat))
def renP (p : RProb) (to : List Nat) : RProb := ⟨(List.range to.length).map fun j => p.sets.getD (inv to j) ⟨0, []⟩, p.uses.map (renU to), p.same.map (renW to)⟩
def renC (to : List Nat) (c : List Int) : List Int := (List.range to.length).map fun j => c.getD (inv to j) 0

theorem renC_to {to : List Nat} (h : PermN to) (c : List Int) {i : Nat} (hi : i < to.length) : (renC to c).getD (to.getD i 0) 0 = c.getD i 0 := by
  have h1 := to_lt h hi
  simp only [renC, List.getD_eq_getElem?_getD, List.getElem?_map]
  rw [List.getElem?_range (by rw [← List.getD_eq_getElem?_getD]; exact h1)]
  simp only [Option.map_some, Option.getD_some]
  rw [← List.getD_eq_getElem?_getD, ← List.getD_eq_getElem?_getD, inv_to h hi]
  exact List.getD_eq_getElem?_getD
theorem renS_to {p : RProb} {to : List Nat} (h : PermN to) {i : Nat} (hi : i < to.length) : (renP p to).sets.getD (to.getD i 0) ⟨0, []⟩ = p.sets.getD i ⟨0, []⟩ := by
  have h1 := to_lt h hi
  simp only [renP, List.getD_eq_getElem?_getD, List.getElem?_map]
  rw [List.getElem?_range (by rw [← List.getD_eq_getElem?_getD]; exact h1)]
  simp only [Option.map_some, Option.getD_some]
  rw [← List.getD_eq_getElem?_getD, ← List.getD_eq_getElem?_getD, inv_to h hi]
  exact List.getD_eq_getElem?_getD

theorem dbl_le {d : Int} (h : 1 ≤ d ∧ d ≤ 6) : dbl d = decide (5 ≤ d) := by
  unfold dbl
  rw [Bool.eq_iff_iff]
  simp only [Bool.or_eq_true, beq_iff_eq, decide_eq_true_eq]
  omega

section
variable {p : RProb} {to : List Nat} (hp : p.ok = true) (ht : PermN to) (hl : to.length = p.sets.length)
include hp ht hl

theorem ren_ok : (renP p to).ok = true := by
  have hp' := hp
  simp only [RProb.ok, Bool.and_eq_true, List.all_eq_true, decide_eq_true_eq] at hp'
  obtain ⟨⟨⟨⟨⟨h1, h2⟩, h3⟩, h4⟩, h5⟩, h6⟩ := hp'
  simp only [RProb.ok, Bool.and_eq_true, List.all_eq_true, decide_eq_true_eq]
  refine ⟨⟨⟨⟨⟨?_, ?_⟩, ?_⟩, ?_⟩, ?_⟩, ?_⟩
  · simp only [renP, List.length_map, List.length_range]; omega
  · simp only [renP, List.length_map]; omega
  · simp only [renP, List.length_map]; omega
  · intro s hs
    simp only [renP, List.mem_map, List.mem_range] at hs
    obtain ⟨j, hj, rfl⟩ := hs
    have := inv_lt ht hj
    rw [List.getD_eq_getElem?_getD, List.getElem?_eq_getElem (by omega)]
    exact h4 _ (List.getElem_mem _)
  · intro u hu
    simp only [renP, List.mem_map] at hu
    obtain ⟨v, hv, rfl⟩ := hu
    obtain ⟨k1, k2, k3, k4, k5, k6, k7, k8, k9⟩ := ok_use hp hv
    have e1 := to_lt ht (i := v.a.toNat) (by omega)
    have hlen : (renP p to).sets.length = p.sets.length := by simp [renP, hl]
    rw [hlen]
    have q1 : inR (renU to v).a 0 ((p.sets.length : Int) - 1) = true := by
      show inR ((to.getD v.a.toNat 0 : Nat) : Int) 0 _ = true
      generalize to.getD v.a.toNat 0 = x at e1 ⊢
      simp only [inR, Bool.and_eq_true, decide_eq_true_eq]; omega
    have q2 : inR (renU to v).t 1 1000 = true := by
      show inR v.t 1 1000 = true
      simp only [inR, Bool.and_eq_true, decide_eq_true_eq]; omega
    have q3 : inR (renU to v).d 1 6 = true := by
      show inR v.d 1 6 = true
      simp only [inR, Bool.and_eq_true, decide_eq_true_eq]; omega
    unfold useOK
    rw [q1, q2, q3]
    show (true && true && true && if dbl v.d = true then inR (if 5 ≤ v.d then ((to.getD v.b.toNat 0 : Nat) : Int) else v.b) 0 ((p.sets.length : Int) - 1) else (if 5 ≤ v.d then ((to.getD v.b.toNat 0 : Nat) : Int) else v.b) == 0) = true
    by_cases hd : dbl v.d = true
    · have h5d : 5 ≤ v.d := by rw [dbl_le ⟨k7, k8⟩] at hd; simpa using hd
      rw [if_pos hd, if_pos h5d]
      have e2 := to_lt ht (i := v.b.toNat) (by have := k5 hd; omega)
      generalize to.getD v.b.toNat 0 = x at e2 ⊢
      simp only [inR, Bool.true_and, Bool.and_eq_true, decide_eq_true_eq]; omega
    · have h5d : ¬ 5 ≤ v.d := by rw [dbl_le ⟨k7, k8⟩] at hd; simpa using hd
      rw [if_neg hd, if_neg h5d]
      have := k6 (by simpa using hd)
      simp [this]
  · intro x hx
    simp only [renP, List.mem_map] at hx
    obtain ⟨y, hy, rfl⟩ := hx
    have hy' := h6 y hy
    simp only [pairOK, inR, Bool.and_eq_true, decide_eq_true_eq, bne_iff_ne] at hy'
    have e1 := to_lt ht (i := y.1.toNat) (by omega)
    have e2 := to_lt ht (i := y.2.toNat) (by omega)
    have hlen : (renP p to).sets.length = p.sets.length := by simp [renP, hl]
    rw [hlen]
    show pairOK (p.sets.length : Int) (((to.getD y.1.toNat 0 : Nat) : Int), ((to.getD y.2.toNat 0 : Nat) : Int)) = true
    have ne : to.getD y.1.toNat 0 ≠ to.getD y.2.toNat 0 := fun e3 => hy'.2 (by
      have := congrArg (inv to) e3
      rw [inv_to ht (by omega), inv_to ht (by omega)] at this
      omega)
    generalize to.getD y.1.toNat 0 = a at e1 ne ⊢
    generalize to.getD y.2.toNat 0 = b at e2 ne ⊢
    simp only [pairOK, inR, Bool.and_eq_true, decide_eq_true_eq, bne_iff_ne]
    refine ⟨⟨⟨by omega, by omega⟩, by omega, by omega⟩, by omega⟩

theorem ren_full {c : List Int} (hc : Full p c) : Full (renP p to) (renC to c) := by
  have _u := hp
  refine ⟨by simp [renC, renP], fun j hj => ?_⟩
  have hj' : j < to.length := by simpa [renC] using hj
  have h1 := inv_lt ht hj'
  have e := renC_to ht c h1
  rw [to_inv ht hj'] at e
  have e2 := renS_to (p := p) ht h1
  rw [to_inv ht hj'] at e2
  rw [RProb.form, e, e2]
  exact hc.2 _ (by rw [hc.1]; omega)

theorem ren_evens (c : List Int) : evens (renP p to) (renC to c) = evens p c := by
  unfold evens
  simp only [renP, List.all_map]
  have key : ∀ x ∈ p.same, ((fun s : Int × Int => (renC to c).getD s.1.toNat 0 == (renC to c).getD s.2.toNat 0) ∘ renW to) x = (c.getD x.1.toNat 0 == c.getD x.2.toNat 0) := by
    intro x hx
    obtain ⟨k1, k2⟩ := okY_pair hp hx
    simp only [Function.comp, renW, Int.toNat_natCast]
    rw [renC_to ht c (by omega), renC_to ht c (by omega)]
  rw [Bool.eq_iff_iff, List.all_eq_true, List.all_eq_true]
  exact ⟨fun h x hx => (key x hx) ▸ h x hx, fun h x hx => (key x hx).symm ▸ h x hx⟩

theorem ren_total (c : List Int) : total (renP p to) (renC to c) = total p c := by
  have key : ∀ (l : List RUse) (s : Int), (∀ u ∈ l, u ∈ p.uses) →
      sumU (fun u => once (renP p to) u ((renC to c).getD u.a.toNat 0) ((renC to c).getD u.b.toNat 0)) s (l.map (renU to)) = sumU (fun u => once p u (c.getD u.a.toNat 0) (c.getD u.b.toNat 0)) s l := by
    intro l
    induction l with
    | nil => intro s _; rfl
    | cons u r ih =>
      intro s h
      obtain ⟨k1, k2, k3, k4, k5, k6, k7, k8, k9⟩ := ok_use hp (h u (by simp))
      simp only [List.map_cons, sumU]
      have eU : once (renP p to) (renU to u) ((renC to c).getD (renU to u).a.toNat 0) ((renC to c).getD (renU to u).b.toNat 0) = once p u (c.getD u.a.toNat 0) (c.getD u.b.toNat 0) := by
        have e1 : (renC to c).getD (renU to u).a.toNat 0 = c.getD u.a.toNat 0 := renC_to ht c (by omega)
        have s1 : (renP p to).size (renU to u).a.toNat = p.size u.a.toNat := by
          show ((renP p to).sets.getD (to.getD u.a.toNat 0) ⟨0, []⟩).size = _
          rw [renS_to ht (by omega)]; rfl
        rw [e1]
        have hdd : (renU to u).d = u.d := rfl
        by_cases hd : dbl u.d = true
        · have h5d : 5 ≤ u.d := by rw [dbl_le ⟨k7, k8⟩] at hd; simpa using hd
          have hb : (renU to u).b = (to.getD u.b.toNat 0 : Nat) := by simp only [renU, if_pos h5d]
          have e2 : (renC to c).getD (renU to u).b.toNat 0 = c.getD u.b.toNat 0 := by
            rw [hb, Int.toNat_natCast]
            exact renC_to ht c (by have := k5 hd; omega)
          have s2 : (renP p to).size (renU to u).b.toNat = p.size u.b.toNat := by
            rw [hb, Int.toNat_natCast]
            show ((renP p to).sets.getD (to.getD u.b.toNat 0) ⟨0, []⟩).size = _
            rw [renS_to ht (by have := k5 hd; omega)]; rfl
          rw [e2]
          unfold once
          rw [hdd, s1, s2]
        · have hd' : dbl u.d = false := by simpa using hd
          unfold once
          rw [hdd, if_pos hd', if_pos hd', s1]
      rw [eU]
      have : (renU to u).t = u.t := rfl
      rw [this]
      exact ih _ fun v hv => h v (by simp [hv])
  exact key p.uses 0 fun u hu => hu

/-- Each choice of the problem with other numbers is one of the problem. -/
theorem ren_back {d : List Int} (hd : Full (renP p to) d) : ∃ c, Full p c ∧ renC to c = d := by
  have _u := hp
  have hdl : d.length = to.length := by rw [hd.1]; simp [renP]
  refine ⟨(List.range to.length).map fun i => d.getD (to.getD i 0) 0, ⟨by simp [hl], fun i hi => ?_⟩, ?_⟩
  · have hi' : i < to.length := by simpa using hi
    have e : ((List.range to.length).map fun i => d.getD (to.getD i 0) 0).getD i 0 = d.getD (to.getD i 0) 0 := by
      rw [List.getD_eq_getElem?_getD, List.getElem?_map, List.getElem?_range hi']
      rfl
    rw [e]
    have h1 := to_lt ht hi'
    have := hd.2 _ (show to.getD i 0 < d.length by omega)
    rw [RProb.form, renS_to ht hi'] at this
    exact this
  · apply List.ext_getElem?
    intro j
    simp only [renC, List.getElem?_map]
    by_cases hj : j < to.length
    · have h1 := inv_lt ht hj
      rw [List.getElem?_range hj, List.getElem?_eq_getElem (by omega)]
      simp only [Option.map_some, Option.some.injEq]
      rw [List.getD_eq_getElem?_getD, List.getElem?_map, List.getElem?_range h1]
      simp only [Option.map_some, Option.getD_some]
      rw [to_inv ht hj, List.getD_eq_getElem?_getD, List.getElem?_eq_getElem (by omega)]
      rfl
    · rw [List.getElem?_eq_none (by simp; omega), List.getElem?_eq_none (by omega)]
      rfl

theorem ren_least (q : List Int → Bool) (q' : List Int → Bool) (hq : ∀ c, Full p c → q' (renC to c) = q c) :
    leastN (renP p to) ((choR (renP p to) (renP p to).sets []).filter q') = leastN p ((choR p p.sets []).filter q) := by
  have hok := ren_ok hp ht hl
  refine leastN_same (fun d hd => ?_) (fun c hc => ?_)
  · rw [List.mem_filter] at hd
    obtain ⟨h1, h2⟩ := (full_iff hok).1 hd.1
    obtain ⟨c, hc, rfl⟩ := ren_back hp ht hl h1
    refine ⟨c, List.mem_filter.2 ⟨(full_iff hp).2 ⟨hc, by rw [← ren_evens hp ht hl]; exact h2⟩, by rw [← hq c hc]; exact hd.2⟩, (ren_total hp ht hl c).symm⟩
  · rw [List.mem_filter] at hc
    obtain ⟨h1, h2⟩ := (full_iff hp).1 hc.1
    refine ⟨renC to c, List.mem_filter.2 ⟨(full_iff hok).2 ⟨ren_full hp ht hl h1, by rw [ren_evens hp ht hl]; exact h2⟩, by rw [hq c h1]; exact hc.2⟩, ren_total hp ht hl c⟩
end

theorem filter_true {α : Type} (l : List α) : l.filter (fun _ => true) = l := by simp

theorem ren_best {p : RProb} {to : List Nat} (hp : p.ok = true) (ht : PermN to) (hl : to.length = p.sets.length) : leastN (renP p to) (choR (renP p to) (renP p to).sets []) = leastN p (choR p p.sets []) := by
  have := ren_least hp ht hl (fun _ => true) (fun _ => true) fun _ _ => rfl
  rw [filter_true, filter_true] at this
  exact this
theorem ren_leastR {p : RProb} {to : List Nat} (hp : p.ok = true) (ht : PermN to) (hl : to.length = p.sets.length) {i : Nat} (hi : i < to.length) (f : Int) :
    (leastR (renP p to) (to.getD i 0) f).map (·.2) = (leastR p i f).map (·.2) := by
  have := ren_least hp ht hl (fun x => x.getD i 0 == f) (fun x => x.getD (to.getD i 0) 0 == f) fun c _ => by
    show ((renC to c).getD (to.getD i 0) 0 == f) = _
    rw [renC_to ht c hi]
  exact this
end Go.Vi
end
