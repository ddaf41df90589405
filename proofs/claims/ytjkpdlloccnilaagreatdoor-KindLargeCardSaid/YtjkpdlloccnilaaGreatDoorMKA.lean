/- It is proved here what functions of the program's layer 5 and of its specification compute; conditions stand with each. Kinds as data, weights, what is as defined, equal. -/
import Derived.Test.YtjkpdlloccnilaaGreatDoorMG
import Derived.Test.YtjkpdlloccnilaaGreatDoorMA
set_option linter.unusedVariables false
set_option linter.unusedSimpArgs false

section
/- Vi: loops over numbers: a loop that asks something of each number, and one that sums up. No conditions. -/
namespace Go.Vi
open Go Go.Lib Go.Proofs
set_option maxRecDepth 100000

section
variable {mu : Bool} {m : Mk} {f : FuncId} {c : Code} {nB nA : Nat} {keep : List Tmp}

/-- Each number below n is asked; the first that fails ends the loop. -/
theorem for_all (hd : ch.head f (firstR c) = keep) (n : Nat) (fr : Nat → Fr) (H0 : Hp) (p : Nat → Bool) {ex bad : CO} (hx : ex.1 ≠ .normal) (hb : bad.1 ≠ .normal)
    (hend : E mu m f c (fr n) H0 = some ex)
    (hstep : ∀ i, i < n → (p i = true ∧ ∃ F H, E mu m f c (fr i) H0 = some (.normal, F, H) ∧ cutD m keep nB nA F H = some (fr (i + 1), H0)) ∨ (p i = false ∧ E mu m f c (fr i) H0 = some bad))
    {F : Fr} {H : Hp} (hcut : cutD m keep nB nA F H = some (fr 0, H0)) : loopO mu m f c nB nA F H = some (if (List.range n).all p = true then ex else bad) := by
  have ne : ∀ {o : CO}, o.1 ≠ .normal → ∀ F H, o ≠ (.normal, F, H) := fun h F H e => h (by rw [e])
  have key := loop_run (mu := mu) (m := m) (f := f) (c := c) (nB := nB) (nA := nA) hd fr (fun _ => H0) (fun i => if (List.range' i (n - i)).all p = true then ex else bad) (fun i => i ≤ n) (fun i => n - i)
    (fun i hi => by
      by_cases hin : i = n
      · subst hin
        left
        simp only [Nat.sub_self, List.range'_zero, List.all_nil, if_true]
        exact ⟨hend, ne hx⟩
      · have hlt : i < n := by omega
        have e : List.range' i (n - i) = i :: List.range' (i + 1) (n - (i + 1)) := by
          rw [show n - i = (n - (i + 1)) + 1 by omega, List.range'_succ]
        rcases hstep i hlt with ⟨hp, F, H, h1, h2⟩ | ⟨hp, h1⟩
        · right
          exact ⟨i + 1, F, H, h1, h2, by omega, by omega, by simp only [e, List.all_cons, hp, Bool.true_and]⟩
        · left
          simp only [e, List.all_cons, hp, Bool.false_and, Bool.false_eq_true, if_false]
          exact ⟨h1, ne hb⟩) 0 (F := F) (H := H) (Nat.zero_le _) hcut
  rw [List.range_eq_range']
  simpa using key

/-- What is summed up over the numbers below n. -/
def foldN {α : Type} (stp : Nat → α → α) : Nat → Nat → α → α
  | 0, _, a => a
  | k + 1, i, a => foldN stp k (i + 1) (stp i a)

theorem for_fold {α : Type} (hd : ch.head f (firstR c) = keep) (n : Nat) (fr : Nat → α → Fr) (hp : Nat → α → Hp) (stp : Nat → α → α) (I : Nat → α → Prop) (ex : α → CO) (hx : ∀ a, (ex a).1 ≠ .normal)
    (hend : ∀ a, I n a → E mu m f c (fr n a) (hp n a) = some (ex a))
    (hstep : ∀ i a, i < n → I i a → I (i + 1) (stp i a) ∧ ∃ F H, E mu m f c (fr i a) (hp i a) = some (.normal, F, H) ∧ cutD m keep nB nA F H = some (fr (i + 1) (stp i a), hp (i + 1) (stp i a)))
    {a : α} {F : Fr} {H : Hp} (hI : I 0 a) (hcut : cutD m keep nB nA F H = some (fr 0 a, hp 0 a)) : loopO mu m f c nB nA F H = some (ex (foldN stp n 0 a)) := by
  have ne : ∀ {o : CO}, o.1 ≠ .normal → ∀ F H, o ≠ (.normal, F, H) := fun h F H e => h (by rw [e])
  have key := loop_run (mu := mu) (m := m) (f := f) (c := c) (nB := nB) (nA := nA) hd (fun x : Nat × α => fr x.1 x.2) (fun x => hp x.1 x.2) (fun x => ex (foldN stp (n - x.1) x.1 x.2)) (fun x => x.1 ≤ n ∧ I x.1 x.2) (fun x => n - x.1)
    (fun x hi => by
      obtain ⟨i, a⟩ := x
      obtain ⟨hi, ha⟩ := hi
      simp only at hi ha ⊢
      by_cases hin : i = n
      · subst hin
        left
        simp only [Nat.sub_self, foldN]
        exact ⟨hend a ha, ne (hx a)⟩
      · have hlt : i < n := by omega
        obtain ⟨h0, F, H, h1, h2⟩ := hstep i a hlt ha
        right
        refine ⟨(i + 1, stp i a), F, H, h1, h2, by simp only; omega, ⟨by simp only; omega, h0⟩, ?_⟩
        simp only
        rw [show n - i = (n - (i + 1)) + 1 by omega, foldN]) (0, a) (F := F) (H := H) ⟨Nat.zero_le _, hI⟩ hcut
  simpa using key
end

theorem range_all {α : Type} (q : α → Bool) (d : α) : ∀ (l : List α), (List.range l.length).all (fun i => q (l.getD i d)) = l.all q := by
  intro l
  rw [Bool.eq_iff_iff, List.all_eq_true, List.all_eq_true]
  constructor
  · intro h x hx
    obtain ⟨i, hi, rfl⟩ := List.getElem_of_mem hx
    have := h i (List.mem_range.2 hi)
    simpa [List.getD_eq_getElem?_getD, hi] using this
  · intro h i hi
    have hlt := List.mem_range.1 hi
    have := h l[i] (List.getElem_mem hlt)
    simpa [List.getD_eq_getElem?_getD, hlt] using this

theorem foldN_list {α β : Type} (g : β → α → α) (d : β) : ∀ (l : List β) (a : α), foldN (fun i a => g (l.getD i d) a) l.length 0 a = l.foldl (fun a x => g x a) a := by
  have key : ∀ (l pre : List β) (a : α), foldN (fun i a => g ((pre ++ l).getD i d) a) l.length pre.length a = l.foldl (fun a x => g x a) a := by
    intro l
    induction l with
    | nil => intro pre a; rfl
    | cons x l ih =>
      intro pre a
      have := ih (pre ++ [x]) (g x a)
      simp only [List.append_assoc, List.singleton_append, List.length_append, List.length_singleton] at this
      simp only [List.length_cons, foldN, List.foldl_cons]
      have e : (pre ++ x :: l).getD pre.length d = x := by simp [List.getD_eq_getElem?_getD]
      rw [e]
      exact this
  intro l a
  exact key l [] a
end Go.Vi
end

section
/- Kinds (layer 5) as data, and what the reference and the program compute, in plain Lean. No program in sight; no conditions but those that stand with each. -/
namespace Go.Vi
set_option maxRecDepth 10000

inductive Kd where
  | mk (f lo hi mo : Int) (ps : List Kd)

def Kd.f : Kd → Int | .mk f _ _ _ _ => f
def Kd.lo : Kd → Int | .mk _ lo _ _ _ => lo
def Kd.hi : Kd → Int | .mk _ _ hi _ _ => hi
def Kd.mo : Kd → Int | .mk _ _ _ mo _ => mo
def Kd.ps : Kd → List Kd | .mk _ _ _ _ ps => ps

mutual
def encK : Kd → PD
  | .mk f lo hi mo ps => .agg [.int .i64 f, .int .i64 lo, .int .i64 hi, .int .i64 mo, .sl (encKs ps)]
def encKs : List Kd → List PD
  | [] => []
  | k :: r => encK k :: encKs r
end
theorem encKs_map : ∀ l : List Kd, encKs l = l.map encK
  | [] => rfl
  | k :: r => by simp [encKs, encKs_map r]
theorem encK_eq (k : Kd) : encK k = .agg [.int .i64 k.f, .int .i64 k.lo, .int .i64 k.hi, .int .i64 k.mo, .sl (k.ps.map encK)] := by
  cases k; simp [encK, encKs_map, Kd.f, Kd.lo, Kd.hi, Kd.mo, Kd.ps]

/-! ### Weights -/
mutual
def Kd.weigh : Kd → Int → Int → Int
  | .mk _ _ _ _ ps, l, d => if l < 1 ∨ d < 1 then -1 else weighKs ps (l - 1) (d - 1)
def weighKs : List Kd → Int → Int → Int
  | [], l, _ => l
  | k :: r, l, d => if 0 ≤ l then weighKs r (k.weigh l d) d else l
end
theorem weighK_eq (k : Kd) (l d : Int) : k.weigh l d = if l < 1 ∨ d < 1 then -1 else weighKs k.ps (l - 1) (d - 1) := by
  cases k; simp [Kd.weigh, Kd.ps]
mutual
theorem weighK_le : ∀ (k : Kd) (l d : Int), 0 ≤ l → k.weigh l d ≤ l - 1 ∧ -1 ≤ k.weigh l d
  | .mk _ _ _ _ ps, l, d, h => by
    simp only [Kd.weigh]
    split
    · omega
    · have := weighKs_le ps (l - 1) (d - 1) (by omega); omega
theorem weighKs_le : ∀ (ps : List Kd) (l d : Int), -1 ≤ l → weighKs ps l d ≤ l ∧ -1 ≤ weighKs ps l d
  | [], l, d, h => by simp only [weighKs]; omega
  | k :: r, l, d, h => by
    simp only [weighKs]
    split
    · rename_i h0
      have h1 := weighK_le k l d h0
      have h2 := weighKs_le r (k.weigh l d) d h1.2
      omega
    · omega
end

/-! Nodes and depth. -/
mutual
def Kd.nodes : Kd → Nat
  | .mk _ _ _ _ ps => nodesKs ps + 1
def nodesKs : List Kd → Nat
  | [] => 0
  | k :: r => k.nodes + nodesKs r
end
mutual
def Kd.deep : Kd → Nat
  | .mk _ _ _ _ ps => deepKs ps + 1
def deepKs : List Kd → Nat
  | [] => 0
  | k :: r => max k.deep (deepKs r)
end
theorem nodesK_eq (k : Kd) : k.nodes = nodesKs k.ps + 1 := by cases k; simp [Kd.nodes, Kd.ps]
theorem deepK_eq (k : Kd) : k.deep = deepKs k.ps + 1 := by cases k; simp [Kd.deep, Kd.ps]

mutual
theorem weighK_iff : ∀ (k : Kd) (l d : Int), 0 ≤ l → ((k.nodes : Int) ≤ l ∧ (k.deep : Int) ≤ d → k.weigh l d = l - k.nodes) ∧ (0 ≤ k.weigh l d → (k.nodes : Int) ≤ l ∧ (k.deep : Int) ≤ d)
  | .mk _ _ _ _ ps, l, d, h => by
    simp only [Kd.weigh, Kd.nodes, Kd.deep]
    have ih := weighKs_iff ps (l - 1) (d - 1)
    split
    · rename_i hc
      refine ⟨fun ⟨h1, h2⟩ => ?_, fun h => by omega⟩
      exfalso; omega
    · rename_i hc
      obtain ⟨ih1, ih2⟩ := ih (by omega)
      refine ⟨fun ⟨h1, h2⟩ => ?_, fun h3 => ?_⟩
      · rw [ih1 ⟨by omega, by omega⟩]; omega
      · have h4 := ih2 h3
        cases ps with
        | nil => simp only [nodesKs, deepKs] at h4 ⊢; omega
        | cons y r => have := h4.2 (by simp); omega
theorem weighKs_iff : ∀ (ps : List Kd) (l d : Int), 0 ≤ l → ((nodesKs ps : Int) ≤ l ∧ (deepKs ps : Int) ≤ d → weighKs ps l d = l - nodesKs ps) ∧ (0 ≤ weighKs ps l d → (nodesKs ps : Int) ≤ l ∧ (ps ≠ [] → (deepKs ps : Int) ≤ d))
  | [], l, d, h => by simp [weighKs, nodesKs, deepKs]
  | k :: r, l, d, h => by
    simp only [weighKs, nodesKs, deepKs, if_pos h]
    obtain ⟨i1, i2⟩ := weighK_iff k l d h
    have hb := weighK_le k l d h
    refine ⟨fun ⟨h1, h2⟩ => ?_, fun h3 => ?_⟩
    · have e := i1 ⟨by omega, by omega⟩
      obtain ⟨j1, _⟩ := weighKs_iff r (k.weigh l d) d (by omega)
      rw [j1 ⟨by omega, by omega⟩, e]; omega
    · by_cases hk : 0 ≤ k.weigh l d
      · obtain ⟨k1, k2⟩ := i2 hk
        have e := i1 ⟨k1, k2⟩
        obtain ⟨_, j2⟩ := weighKs_iff r (k.weigh l d) d hk
        obtain ⟨m1, m2⟩ := j2 h3
        refine ⟨by omega, fun _ => ?_⟩
        cases r with
        | nil => simp [deepKs]; omega
        | cons y r => have := m2 (by simp); omega
      · have : weighKs r (k.weigh l d) d ≤ k.weigh l d := (weighKs_le r (k.weigh l d) d hb.2).1
        omega
end

/-- At most so many nodes, and so deep. -/
def Kd.fitK (k : Kd) (n d : Nat) : Bool := decide (k.nodes ≤ n) && decide (k.deep ≤ d)
theorem weighK_fit (k : Kd) (n d : Nat) : decide (0 ≤ k.weigh n d) = k.fitK n d := by
  have h := weighK_iff k n d (by omega)
  unfold Kd.fitK
  by_cases hc : k.nodes ≤ n ∧ k.deep ≤ d
  · have := h.1 ⟨by omega, by omega⟩
    rw [decide_eq_true hc.1, decide_eq_true hc.2, decide_eq_true (by omega)]
    rfl
  · have h1 : ¬ 0 ≤ k.weigh n d := fun h0 => by have := h.2 h0; omega
    rw [decide_eq_false h1]
    by_cases h2 : k.nodes ≤ n
    · rw [decide_eq_false (show ¬ k.deep ≤ d from fun h3 => hc ⟨h2, h3⟩)]; simp
    · rw [decide_eq_false h2]; simp

/-! ### As defined -/
def Kd.plain (k : Kd) : Bool := k.lo == 0 && k.hi == 0 && k.mo == 0
def rangeB (n lo hi : Int) : Bool := decide (lo ≤ n) && decide (n ≤ hi)
def Kd.own (k : Kd) : Bool :=
  if k.f = 1 ∨ k.f = 3 ∨ k.f = 4 then k.plain && decide (k.ps.length = 0)
  else if k.f = 2 then rangeB k.lo (-1000000000) 1000000000 && rangeB k.hi k.lo 1000000000 && k.mo == 0 && decide (k.ps.length = 0)
  else if k.f = 5 then k.plain && rangeB k.ps.length 2 6
  else if k.f = 6 then k.lo == 0 && k.hi == 0 && rangeB k.mo 0 199 && decide (k.ps.length = 1)
  else false
mutual
def Kd.shaped : Kd → Bool
  | .mk f lo hi mo ps => shapedKs ps && Kd.own (.mk f lo hi mo ps)
def shapedKs : List Kd → Bool
  | [] => true
  | k :: r => k.shaped && shapedKs r
end
theorem shapedKs_all : ∀ l : List Kd, shapedKs l = l.all Kd.shaped
  | [] => rfl
  | k :: r => by simp [shapedKs, shapedKs_all r]
theorem shapedK_eq (k : Kd) : k.shaped = (k.ps.all Kd.shaped && k.own) := by
  cases k; simp [Kd.shaped, shapedKs_all, Kd.ps]
def Kd.small (k : Kd) : Bool := k.fitK 30 9
def Kd.valid (k : Kd) : Bool := k.fitK 20 6 && k.shaped

/-! ### Equal -/
mutual
def Kd.eqb : Kd → Kd → Bool
  | .mk f lo hi mo ps, .mk f' lo' hi' mo' ps' => f == f' && lo == lo' && hi == hi' && mo == mo' && eqbKs ps ps'
def eqbKs : List Kd → List Kd → Bool
  | [], [] => true
  | a :: r, b :: s => a.eqb b && eqbKs r s
  | _, _ => false
end
mutual
theorem eqbK_iff : ∀ (a b : Kd), a.eqb b = true ↔ a = b
  | .mk f lo hi mo ps, .mk f' lo' hi' mo' ps' => by
    simp only [Kd.eqb, Bool.and_eq_true, beq_iff_eq, Kd.mk.injEq, eqbKs_iff ps ps', and_assoc]
theorem eqbKs_iff : ∀ (a b : List Kd), eqbKs a b = true ↔ a = b
  | [], [] => by simp [eqbKs]
  | a :: r, b :: s => by simp only [eqbKs, Bool.and_eq_true, eqbK_iff a b, eqbKs_iff r s, List.cons.injEq]
  | [], _ :: _ => by simp [eqbKs]
  | _ :: _, [] => by simp [eqbKs]
end

/-! ### Within -/
mutual
/-- The reference's. -/
def Kd.within : Kd → Kd → Bool
  | .mk f lo hi mo ps, .mk f' lo' hi' mo' ps' =>
    if f = 1 then true
    else if f ≠ f' ∨ ps.length ≠ ps'.length then false
    else if f = 6 then decide (mo ≤ mo') && (mo == 0 || withinH ps ps')
    else withinKs ps ps' && (decide (lo' ≤ lo) && decide (hi ≤ hi'))
def withinH : List Kd → List Kd → Bool
  | a :: _, b :: _ => a.within b
  | _, _ => true
def withinKs : List Kd → List Kd → Bool
  | a :: r, b :: s => a.within b && withinKs r s
  | _, _ => true
end
mutual
/-- The program's. -/
def Kd.withinP : Kd → Kd → Bool
  | .mk f lo hi mo ps, .mk f' lo' hi' mo' ps' =>
    if f = 1 then true
    else if f ≠ f' ∨ ps.length ≠ ps'.length then false
    else if f = 2 then decide (lo' ≤ lo) && decide (hi ≤ hi')
    else if f = 6 then decide (mo ≤ mo') && (withinPs ps ps' || mo == 0)
    else withinPs ps ps'
def withinPs : List Kd → List Kd → Bool
  | a :: r, b :: s => a.withinP b && withinPs r s
  | _, _ => true
end

/-! ### Joins -/
mutual
/-- The reference's. -/
def Kd.join : Kd → Kd → Option Kd
  | .mk f lo hi mo ps, .mk f' lo' hi' mo' ps' =>
    if f = 1 then some (.mk f' lo' hi' mo' ps')
    else if f' = 1 then some (.mk f lo hi mo ps)
    else if f ≠ f' ∨ ps.length ≠ ps'.length then none
    else (joinKs ps ps').map fun l => .mk f (min lo lo') (max hi hi') (max mo mo') l
def joinKs : List Kd → List Kd → Option (List Kd)
  | a :: r, b :: s =>
    match a.join b with
    | some x => (joinKs r s).map (x :: ·)
    | none => none
  | _, _ => some []
end
mutual
/-- The program's. -/
def Kd.joinP : Kd → Kd → Option Kd
  | .mk f lo hi mo ps, .mk f' lo' hi' mo' ps' =>
    if f = 1 then some (.mk f' lo' hi' mo' ps')
    else if f' = 1 then some (.mk f lo hi mo ps)
    else if f ≠ f' ∨ ps.length ≠ ps'.length then none
    else (joinPs ps ps').map fun l => .mk f (if f = 2 then min lo lo' else 0) (if f = 2 then max hi hi' else 0) (max mo mo') l
def joinPs : List Kd → List Kd → Option (List Kd)
  | a :: r, b :: s =>
    match a.joinP b with
    | some x => (joinPs r s).map (x :: ·)
    | none => none
  | _, _ => some []
end

/-! ### Sizes -/
def capI (n : Int) : Int := min n 1000000000
mutual
/-- The reference's. -/
def Kd.size : Kd → Int × Int
  | .mk f _ _ mo ps =>
    if f = 1 then (0, 0)
    else if f = 5 then
      match sizeT ps 1 0 with
      | some (n, d) => (n, d + 1)
      | none => (0, 0)
    else if f = 6 then
      match sizeH ps with
      | (m, d) => if m = 0 ∨ mo = 0 then (1, 1) else (capI (1 + mo * m), d + 1)
    else (1, 1)
def sizeH : List Kd → Int × Int
  | a :: _ => a.size
  | [] => (0, 0)
def sizeT : List Kd → Int → Int → Option (Int × Int)
  | [], n, d => some (n, d)
  | a :: r, n, d =>
    match a.size with
    | (m, e) => if m = 0 then none else sizeT r (capI (n + m)) (max d e)
end
mutual
/-- The program's. -/
def Kd.sizeP : Kd → Int × Int
  | .mk f _ _ mo ps =>
    match sizePs f ps 0 0 with
    | none => (0, 0)
    | some (n, d) =>
      if f = 1 then (0, 0)
      else if f = 5 then (n + 1, d + 1)
      else if f = 6 then (if mo = 0 ∨ n = 0 then (1, 1) else (1 + mo * capI n, d + 1))
      else (1, 1)
def sizePs : Int → List Kd → Int → Int → Option (Int × Int)
  | _, [], n, d => some (n, d)
  | f, a :: r, n, d =>
    match a.sizeP with
    | (m, e) => if m = 0 ∧ f = 5 then none else sizePs f r (n + m) (max d e)
end
end Go.Vi
end

section
/- Kinds (layer 5): the program's and the reference's answers are the same, for kinds as defined. No program in sight; no conditions but those that stand with each. -/
namespace Go.Vi
set_option maxRecDepth 10000

theorem shapedK_mk {f lo hi mo : Int} {ps : List Kd} : (Kd.mk f lo hi mo ps).shaped = true ↔ (∀ k ∈ ps, k.shaped = true) ∧ (Kd.mk f lo hi mo ps).own = true := by
  rw [shapedK_eq]; simp [Kd.ps]
/-- What the form of a kind says. -/
theorem own_cases {f lo hi mo : Int} {ps : List Kd} (h : (Kd.mk f lo hi mo ps).own = true) :
    ((f = 1 ∨ f = 3 ∨ f = 4) ∧ lo = 0 ∧ hi = 0 ∧ mo = 0 ∧ ps = []) ∨ (f = 2 ∧ -1000000000 ≤ lo ∧ lo ≤ hi ∧ hi ≤ 1000000000 ∧ mo = 0 ∧ ps = []) ∨
    (f = 5 ∧ lo = 0 ∧ hi = 0 ∧ mo = 0 ∧ 2 ≤ ps.length ∧ ps.length ≤ 6) ∨ (f = 6 ∧ lo = 0 ∧ hi = 0 ∧ 0 ≤ mo ∧ mo ≤ 199 ∧ ∃ a, ps = [a]) := by
  have h : (if f = 1 ∨ f = 3 ∨ f = 4 then (lo == 0 && hi == 0 && mo == 0) && decide (ps.length = 0) else if f = 2 then rangeB lo (-1000000000) 1000000000 && rangeB hi lo 1000000000 && mo == 0 && decide (ps.length = 0)
    else if f = 5 then (lo == 0 && hi == 0 && mo == 0) && rangeB ps.length 2 6 else if f = 6 then lo == 0 && hi == 0 && rangeB mo 0 199 && decide (ps.length = 1) else false) = true := h
  simp only [rangeB] at h
  by_cases c1 : f = 1 ∨ f = 3 ∨ f = 4
  · rw [if_pos c1] at h
    simp only [Bool.and_eq_true, beq_iff_eq, decide_eq_true_eq] at h
    exact .inl ⟨c1, h.1.1.1, h.1.1.2, h.1.2, List.eq_nil_of_length_eq_zero h.2⟩
  rw [if_neg c1] at h
  by_cases c2 : f = 2
  · rw [if_pos c2] at h
    simp only [Bool.and_eq_true, beq_iff_eq, decide_eq_true_eq] at h
    exact .inr (.inl ⟨c2, by omega, by omega, by omega, h.1.2, List.eq_nil_of_length_eq_zero h.2⟩)
  rw [if_neg c2] at h
  by_cases c3 : f = 5
  · rw [if_pos c3] at h
    simp only [Bool.and_eq_true, beq_iff_eq, decide_eq_true_eq] at h
    exact .inr (.inr (.inl ⟨c3, h.1.1.1, h.1.1.2, h.1.2, by omega, by omega⟩))
  rw [if_neg c3] at h
  by_cases c4 : f = 6
  · rw [if_pos c4] at h
    simp only [Bool.and_eq_true, beq_iff_eq, decide_eq_true_eq] at h
    refine .inr (.inr (.inr ⟨c4, h.1.1.1, h.1.1.2, h.1.2.1, h.1.2.2, ?_⟩))
    match ps, h.2 with
    | [a], _ => exact ⟨a, rfl⟩
  · rw [if_neg c4] at h; cases h

mutual
theorem within_same : ∀ (a b : Kd), a.shaped = true → b.shaped = true → a.withinP b = a.within b
  | .mk f lo hi mo ps, .mk f' lo' hi' mo' ps', ha, hb => by
    rw [shapedK_mk] at ha hb
    have ih := withinKs_same ps ps' ha.1 hb.1
    simp only [Kd.withinP, Kd.within]
    by_cases h1 : f = 1
    · rw [if_pos h1, if_pos h1]
    rw [if_neg h1, if_neg h1]
    by_cases h2 : f ≠ f' ∨ ps.length ≠ ps'.length
    · rw [if_pos h2, if_pos h2]
    rw [if_neg h2, if_neg h2]
    have hff : f = f' := Classical.byContradiction fun e => h2 (.inl e)
    subst hff
    rcases own_cases ha.2 with ⟨e, a1, a2, a3, a4⟩ | ⟨e, a1, a2, a3, a4, a5⟩ | ⟨e, a1, a2, a3, a4, a5⟩ | ⟨e, a1, a2, a3, a4, x, a5⟩
    · have e2 : f ≠ 2 := by omega
      have e6 : f ≠ 6 := by omega
      rw [if_neg e2, if_neg e6, if_neg e6]
      subst a4
      rcases own_cases hb.2 with ⟨_, b1, b2, _, _⟩ | ⟨b0, _⟩ | ⟨b0, _⟩ | ⟨b0, _⟩
      · rw [a1, a2, b1, b2]; simp [withinPs, withinKs]
      all_goals omega
    · subst e
      rw [if_pos rfl, if_neg (by decide)]
      subst a5
      simp [withinKs]
    · subst e
      rw [if_neg (by decide), if_neg (by decide), if_neg (by decide), ih]
      rcases own_cases hb.2 with ⟨b0, _⟩ | ⟨b0, _⟩ | ⟨_, b1, b2, _⟩ | ⟨b0, _⟩
      · omega
      · omega
      · rw [a1, a2, b1, b2]; simp
      · omega
    · subst e
      subst a5
      rw [if_neg (by decide), if_pos rfl, if_pos rfl, ih]
      rcases own_cases hb.2 with ⟨b0, _⟩ | ⟨b0, _⟩ | ⟨b0, _⟩ | ⟨_, _, _, _, _, y, b5⟩
      · omega
      · omega
      · omega
      · subst b5
        simp only [withinKs, withinH, Bool.and_true]
        rw [Bool.or_comm]
theorem withinKs_same : ∀ (l m : List Kd), (∀ k ∈ l, k.shaped = true) → (∀ k ∈ m, k.shaped = true) → withinPs l m = withinKs l m
  | [], m, _, _ => by simp [withinPs, withinKs]
  | a :: r, [], _, _ => by simp [withinPs, withinKs]
  | a :: r, b :: s, h1, h2 => by
    simp only [withinPs, withinKs]
    rw [within_same a b (h1 a (by simp)) (h2 b (by simp)), withinKs_same r s (fun k hk => h1 k (by simp [hk])) (fun k hk => h2 k (by simp [hk]))]
end

mutual
theorem join_same : ∀ (a b : Kd), a.shaped = true → b.shaped = true → a.joinP b = a.join b
  | .mk f lo hi mo ps, .mk f' lo' hi' mo' ps', ha, hb => by
    rw [shapedK_mk] at ha hb
    have ih := joinKs_same ps ps' ha.1 hb.1
    simp only [Kd.joinP, Kd.join]
    by_cases h1 : f = 1
    · rw [if_pos h1, if_pos h1]
    rw [if_neg h1, if_neg h1]
    by_cases h1' : f' = 1
    · rw [if_pos h1', if_pos h1']
    rw [if_neg h1', if_neg h1']
    by_cases h2 : f ≠ f' ∨ ps.length ≠ ps'.length
    · rw [if_pos h2, if_pos h2]
    rw [if_neg h2, if_neg h2, ih]
    have hff : f = f' := Classical.byContradiction fun e => h2 (.inl e)
    subst hff
    by_cases e2 : f = 2
    · rw [if_pos e2, if_pos e2]
    · rw [if_neg e2, if_neg e2]
      have z : ∀ {lo hi mo : Int} {ps : List Kd}, (Kd.mk f lo hi mo ps).own = true → lo = 0 ∧ hi = 0 := fun h => by
        rcases own_cases h with ⟨_, b1, b2, _⟩ | ⟨b0, _⟩ | ⟨_, b1, b2, _⟩ | ⟨_, b1, b2, _⟩
        · exact ⟨b1, b2⟩
        · exact absurd b0 e2
        · exact ⟨b1, b2⟩
        · exact ⟨b1, b2⟩
      obtain ⟨a1, a2⟩ := z ha.2
      obtain ⟨b1, b2⟩ := z hb.2
      rw [a1, a2, b1, b2]
      rfl
theorem joinKs_same : ∀ (l m : List Kd), (∀ k ∈ l, k.shaped = true) → (∀ k ∈ m, k.shaped = true) → joinPs l m = joinKs l m
  | [], m, _, _ => by simp [joinPs, joinKs]
  | a :: r, [], _, _ => by simp [joinPs, joinKs]
  | a :: r, b :: s, h1, h2 => by
    simp only [joinPs, joinKs]
    rw [join_same a b (h1 a (by simp)) (h2 b (by simp)), joinKs_same r s (fun k hk => h1 k (by simp [hk])) (fun k hk => h2 k (by simp [hk]))]
end

/-! ### Sizes -/
theorem capI_cap (a b : Int) (ha : 0 ≤ a) (hb : 0 ≤ b) : capI (capI a + capI b) = capI (a + b) := by
  unfold capI; omega
/-- So large a size can be while it is summed up. -/
def sizeMost : Int := 200000000000

theorem capI_id {n : Int} (h0 : 0 ≤ n) (h : n ≤ 1000000000) : capI n = n := by unfold capI; omega
mutual
theorem size_same : ∀ (k : Kd), k.shaped = true → k.size = (capI k.sizeP.1, k.sizeP.2) ∧ 0 ≤ k.sizeP.1 ∧ k.sizeP.1 ≤ sizeMost * k.nodes ∧ 0 ≤ k.sizeP.2 ∧ k.sizeP.2 ≤ k.nodes
  | .mk f lo hi mo ps, hk => by
    rw [shapedK_mk] at hk
    have ih := sizes_same ps hk.1
    simp only [Kd.size, Kd.sizeP, Kd.nodes]
    rcases own_cases hk.2 with ⟨e, a1, a2, a3, a4⟩ | ⟨e, a1, a2, a3, a4, a5⟩ | ⟨e, a1, a2, a3, a4, a5⟩ | ⟨e, a1, a2, a3, a4, x, a5⟩
    · subst a4
      have e5 : f ≠ 5 := by omega
      have e6 : f ≠ 6 := by omega
      simp only [sizePs, if_neg e5, if_neg e6, nodesKs]
      by_cases e1 : f = 1
      · simp only [if_pos e1, sizeMost]
        rw [capI_id (by omega) (by omega)]
        exact ⟨rfl, by omega⟩
      · simp only [if_neg e1, sizeMost]
        rw [capI_id (by omega) (by omega)]
        exact ⟨rfl, by omega⟩
    · subst e; subst a5
      simp only [sizePs, nodesKs, sizeMost, show ¬ (2 : Int) = 1 by decide, show ¬ (2 : Int) = 5 by decide, show ¬ (2 : Int) = 6 by decide, if_false]
      rw [capI_id (by omega) (by omega)]
      exact ⟨rfl, by omega⟩
    · subst e
      have hc : capI (0 + 1) = 1 := by decide
      simp only [show ¬ (5 : Int) = 1 by decide, if_false, if_true]
      rcases ih.1 0 0 (by omega) (by omega) with ⟨h1, h2⟩ | ⟨n, d, h1, h2, h3, h4, h5, h6⟩
      · rw [hc] at h1
        simp only [h1, h2, sizeMost]
        rw [capI_id (by omega) (by omega)]
        exact ⟨rfl, by omega⟩
      · rw [hc] at h1
        simp only [h1, h2, sizeMost] at h4 ⊢
        refine ⟨trivial, by omega, by omega, by omega, by omega⟩
    · subst e; subst a5
      obtain ⟨h1, h2, h3, h4, h5⟩ := ih.2 x (by simp)
      have hs : sizePs 6 [x] 0 0 = some (x.sizeP.1, x.sizeP.2) := by
        simp only [sizePs]
        rw [if_neg (by omega)]
        simp only [Option.some.injEq, Prod.mk.injEq]
        omega
      simp only [sizeH, hs, nodesKs, h1, show ¬ (6 : Int) = 1 by decide, show ¬ (6 : Int) = 5 by decide, if_false, if_true]
      have hz : capI x.sizeP.1 = 0 ↔ x.sizeP.1 = 0 := by unfold capI; omega
      by_cases hc : mo = 0 ∨ x.sizeP.1 = 0
      · rw [if_pos (by rw [hz]; exact hc.symm), if_pos hc]
        simp only [sizeMost]
        rw [capI_id (by omega) (by omega)]
        exact ⟨rfl, by omega⟩
      · rw [if_neg (by rw [hz]; exact fun h => hc h.symm), if_neg hc]
        have b1 : 0 ≤ mo * capI x.sizeP.1 := Int.mul_nonneg a3 (by unfold capI; omega)
        have b2 : mo * capI x.sizeP.1 ≤ 199 * 1000000000 := Int.mul_le_mul a4 (by unfold capI; omega) (by unfold capI; omega) (by omega)
        simp only [sizeMost] at *
        refine ⟨trivial, ?_⟩
        omega
theorem sizes_same : ∀ (l : List Kd), (∀ k ∈ l, k.shaped = true) →
    (∀ n d : Int, 0 ≤ n → 0 ≤ d → (sizeT l (capI (n + 1)) d = none ∧ sizePs 5 l n d = none) ∨
      ∃ n' d', sizeT l (capI (n + 1)) d = some (capI (n' + 1), d') ∧ sizePs 5 l n d = some (n', d') ∧ n ≤ n' ∧ n' ≤ n + sizeMost * nodesKs l ∧ d ≤ d' ∧ (d' ≤ d ∨ d' ≤ nodesKs l)) ∧
    (∀ k ∈ l, k.size = (capI k.sizeP.1, k.sizeP.2) ∧ 0 ≤ k.sizeP.1 ∧ k.sizeP.1 ≤ sizeMost * k.nodes ∧ 0 ≤ k.sizeP.2 ∧ k.sizeP.2 ≤ k.nodes)
  | [], _ => ⟨fun n d _ _ => .inr ⟨n, d, rfl, rfl, by omega, by simp [nodesKs], by omega, .inl (by omega)⟩, fun k hk => by cases hk⟩
  | a :: r, h => by
    have h0 := size_same a (h a (by simp))
    have ih := sizes_same r fun k hk => h k (by simp [hk])
    obtain ⟨h1, h2, h3, h4, h5⟩ := h0
    refine ⟨fun n d hn hd => ?_, fun k hk => ?_⟩
    · simp only [sizeT, sizePs, h1, nodesKs]
      have hz : capI a.sizeP.1 = 0 ↔ a.sizeP.1 = 0 := by unfold capI; omega
      by_cases hc : a.sizeP.1 = 0
      · left
        rw [if_pos (hz.2 hc), if_pos ⟨hc, trivial⟩]
        exact ⟨rfl, rfl⟩
      · rw [if_neg (fun h => hc (hz.1 h)), if_neg (fun h => hc h.1)]
        rw [show capI (capI (n + 1) + capI a.sizeP.1) = capI ((n + a.sizeP.1) + 1) by rw [capI_cap _ _ (by omega) h2]; congr 1; omega]
        rcases ih.1 (n + a.sizeP.1) (max d a.sizeP.2) (by omega) (by omega) with h6 | ⟨n', d', k1, k2, k3, k4, k5, k6⟩
        · exact .inl h6
        · refine .inr ⟨n', d', k1, k2, by omega, ?_, by omega, by omega⟩
          simp only [sizeMost] at *
          omega
    · rcases List.mem_cons.1 hk with rfl | hk
      · exact ⟨h1, h2, h3, h4, h5⟩
      · exact ih.2 k hk
end

/-! ### Counts -/
def prodLoop : List Int → Int → Option Int
  | [], out => some out
  | n :: r, out => if 1000000000 / out < n then none else prodLoop r (out * n)
def prodP (l : List Int) : Option Int := if l.contains 0 then some 0 else prodLoop l 1
mutual
/-- The program's; none where it says -1. -/
def Kd.cntP : Kd → Option Int
  | .mk f lo hi _ ps =>
    if f = 1 then some 0
    else if f = 2 then (if hi - lo + 1 ≤ 1000000000 then some (hi - lo + 1) else none)
    else if f = 3 then some 2
    else if f = 5 then (cntsP ps).bind prodP
    else none
def cntsP : List Kd → Option (List Int)
  | [] => some []
  | a :: r =>
    match a.cntP with
    | some n => (cntsP r).map (n :: ·)
    | none => none
end
/-- Is a part without values? -/
def emptyL (l : List (Option Int)) : Bool := l.any fun x => x == some 0
/-- The loop over a tuple's parts: e: is one of them empty? -/
def cntLoop (e : Bool) : List (Option Int) → Int → Option Int
  | [], n => some n
  | none :: _, _ => none
  | some m :: r, n => if 1000000000 < n * m ∧ e = false then none else cntLoop e r (capI (n * m))
mutual
/-- The reference's. -/
def Kd.cnt : Kd → Option Int
  | .mk f lo hi _ ps =>
    if f = 1 then some 0
    else if f = 3 then some 2
    else if f = 2 then (if hi - lo + 1 ≤ 1000000000 then some (hi - lo + 1) else none)
    else if f = 5 then cntLoop (emptyL (cnts ps)) (cnts ps) 1
    else none
def cnts : List Kd → List (Option Int)
  | [] => []
  | a :: r => a.cnt :: cnts r
end
theorem cnts_map : ∀ l : List Kd, cnts l = l.map Kd.cnt
  | [] => rfl
  | a :: r => by simp [cnts, cnts_map r]

theorem cntLoop_none (e : Bool) : ∀ (l : List (Option Int)) (n : Int), none ∈ l → cntLoop e l n = none
  | [], _, h => by cases h
  | none :: r, n, _ => rfl
  | some m :: r, n, h => by
    simp only [cntLoop]
    split
    · rfl
    · exact cntLoop_none e r _ (by simpa using h)

theorem cntLoop_zero : ∀ (l : List Int) (n : Int), (∀ x ∈ l, 0 ≤ x) → 0 ≤ n → (n = 0 ∨ 0 ∈ l) → cntLoop true (l.map some) n = some 0
  | [], n, _, _, h => by
    rcases h with h | h
    · simp only [cntLoop, h, List.map_nil]
    · cases h
  | m :: r, n, h0, hn, h => by
    simp only [List.map_cons, cntLoop]
    rw [if_neg (by simp)]
    have hm := h0 m (by simp)
    have hnm : 0 ≤ n * m := Int.mul_nonneg hn hm
    refine cntLoop_zero r _ (fun x hx => h0 x (by simp [hx])) (by unfold capI; omega) ?_
    rcases h with h | h
    · left; rw [h, Int.zero_mul]; decide
    · rcases List.mem_cons.1 h with h | h
      · left; rw [← h, Int.mul_zero]; decide
      · exact .inr h

theorem cntLoop_some : ∀ (l : List Int) (n : Int), (∀ x ∈ l, 1 ≤ x) → 1 ≤ n → n ≤ 1000000000 → cntLoop false (l.map some) n = prodLoop l n
  | [], n, _, _, _ => rfl
  | m :: r, n, h0, hn, hM => by
    simp only [List.map_cons, cntLoop, prodLoop, and_true]
    have hm := h0 m (by simp)
    have hiff : 1000000000 < n * m ↔ 1000000000 / n < m := by
      rw [Int.ediv_lt_iff_lt_mul (by omega), Int.mul_comm]
    by_cases hc : 1000000000 < n * m
    · rw [if_pos hc, if_pos (hiff.1 hc)]
    · rw [if_neg hc, if_neg (fun h => hc (hiff.2 h))]
      have : capI (n * m) = n * m := by unfold capI; omega
      rw [this]
      have h1 : 1 ≤ n * m := by
        have := Int.mul_le_mul hn hm (by omega) (by omega : (0:Int) ≤ n)
        omega
      exact cntLoop_some r _ (fun x hx => h0 x (by simp [hx])) h1 (by omega)

mutual
theorem cnt_same : ∀ (k : Kd), k.shaped = true → k.cntP = k.cnt ∧ ∀ n, k.cnt = some n → 0 ≤ n ∧ n ≤ 1000000000
  | .mk f lo hi mo ps, hk => by
    rw [shapedK_mk] at hk
    have ih := cnts_same ps hk.1
    simp only [Kd.cntP, Kd.cnt]
    by_cases h1 : f = 1
    · rw [if_pos h1, if_pos h1]
      exact ⟨rfl, fun n h => by injection h with h; omega⟩
    rw [if_neg h1, if_neg h1]
    by_cases h2 : f = 2
    · subst h2
      simp only [show ¬ (2 : Int) = 3 by decide, if_false, if_true]
      refine ⟨trivial, fun n h => ?_⟩
      rcases own_cases hk.2 with ⟨e, _⟩ | ⟨_, a1, a2, a3, _⟩ | ⟨e, _⟩ | ⟨e, _⟩
      · omega
      · split at h
        · injection h with h; omega
        · cases h
      · omega
      · omega
    rw [if_neg h2]
    by_cases h3 : f = 3
    · rw [if_pos h3, if_pos h3]
      exact ⟨rfl, fun n h => by injection h with h; omega⟩
    rw [if_neg h3, if_neg h3, if_neg h2]
    by_cases h5 : f = 5
    · rw [if_pos h5, if_pos h5]
      rcases ih with ⟨i1, i2⟩ | ⟨l, i1, i2, i3⟩
      · rw [i1, cntLoop_none _ _ _ i2]
        exact ⟨rfl, fun n h => by cases h⟩
      · rw [i1, i2]
        simp only [Option.bind_some, prodP]
        have he : emptyL (l.map some) = l.contains 0 := by
          simp only [emptyL]
          rw [Bool.eq_iff_iff, List.any_eq_true, List.contains_iff_mem]
          constructor
          · rintro ⟨x, hx, h⟩
            rw [List.mem_map] at hx
            obtain ⟨y, hy, rfl⟩ := hx
            have : y = 0 := by simpa using h
            rw [← this]; exact hy
          · intro h
            exact ⟨some 0, List.mem_map.2 ⟨0, h, rfl⟩, by simp⟩
        rw [he]
        cases hz : l.contains 0 with
        | true =>
          have hm : (0 : Int) ∈ l := List.contains_iff_mem.1 hz
          rw [cntLoop_zero l 1 (fun x hx => (i3 x hx).1) (by omega) (.inr hm)]
          exact ⟨rfl, fun n h => by injection h with h; omega⟩
        | false =>
          have hnm : (0 : Int) ∉ l := fun h => by rw [List.contains_iff_mem.2 h] at hz; cases hz
          have hpos : ∀ x ∈ l, 1 ≤ x := fun x hx => by
            have := (i3 x hx).1
            have : x ≠ 0 := fun e => hnm (e ▸ hx)
            omega
          rw [cntLoop_some l 1 hpos (by omega) (by omega)]
          refine ⟨rfl, fun n h => ?_⟩
          have key : ∀ (l : List Int) (m n : Int), (∀ x ∈ l, 1 ≤ x) → 1 ≤ m → m ≤ 1000000000 → prodLoop l m = some n → 0 ≤ n ∧ n ≤ 1000000000 := by
            intro l
            induction l with
            | nil => intro m n _ h1 h2 h; injection h with h; omega
            | cons x r ih =>
              intro m n hx h1 h2 h
              simp only [prodLoop] at h
              split at h
              · cases h
              · rename_i hc
                have hx1 := hx x (by simp)
                have hb : ¬ 1000000000 < m * x := fun h => hc (by rw [Int.ediv_lt_iff_lt_mul (by omega), Int.mul_comm]; exact h)
                have h3 : 1 ≤ m * x := by
                  have := Int.mul_le_mul h1 hx1 (by omega) (by omega : (0:Int) ≤ m)
                  omega
                exact ih (m * x) n (fun y hy => hx y (by simp [hy])) h3 (by omega) h
          exact key l 1 n hpos (by omega) (by omega) h
    · rw [if_neg h5, if_neg h5]
      exact ⟨rfl, fun n h => by cases h⟩
theorem cnts_same : ∀ (l : List Kd), (∀ k ∈ l, k.shaped = true) → (cntsP l = none ∧ none ∈ cnts l) ∨ ∃ m, cntsP l = some m ∧ cnts l = m.map some ∧ ∀ x ∈ m, 0 ≤ x ∧ x ≤ 1000000000
  | [], _ => .inr ⟨[], rfl, rfl, fun x h => by cases h⟩
  | a :: r, h => by
    obtain ⟨h1, h2⟩ := cnt_same a (h a (by simp))
    have ih := cnts_same r fun k hk => h k (by simp [hk])
    simp only [cntsP, cnts, h1]
    cases hc : a.cnt with
    | none => left; simp
    | some n =>
      have hn := h2 n hc
      rcases ih with ⟨i1, i2⟩ | ⟨m, i1, i2, i3⟩
      · left; rw [i1]; exact ⟨rfl, by simp [i2]⟩
      · right
        refine ⟨n :: m, by rw [i1]; rfl, by rw [i2]; rfl, fun x hx => ?_⟩
        rcases List.mem_cons.1 hx with rfl | hx
        · exact hn
        · exact i3 x hx
end
end Go.Vi
end

section
/- Vi: kinds (layer 5) as data of the evaluator; swardref05.Weigh. No conditions but those that stand with each. -/
namespace Go.Vi
open Go Go.Lib Go.Proofs
set_option maxRecDepth 100000

theorem cells_encK (k : Kd) : (encK k).cells = [.int .i64 k.f, .int .i64 k.lo, .int .i64 k.hi, .int .i64 k.mo, .sl (k.ps.map encK)] := by rw [encK_eq]; rfl
theorem encK_agg (k : Kd) : PD.agg [.int .i64 k.f, .int .i64 k.lo, .int .i64 k.hi, .int .i64 k.mo, .sl (k.ps.map encK)] = encK k := (encK_eq k).symm
theorem box_encK (k : Kd) : cellsD (.p (encK k)) = [.p (.int .i64 k.f), .p (.int .i64 k.lo), .p (.int .i64 k.hi), .p (.int .i64 k.mo), .p (.sl (k.ps.map encK))] := by rw [encK_eq]; rfl
def bK (k : Kd) : Blk := .cells [.p (.int .i64 k.f), .p (.int .i64 k.lo), .p (.int .i64 k.hi), .p (.int .i64 k.mo), .p (.sl (k.ps.map encK))]
def stK (k : Kd) : Hp := ⟨[.cells [.p (.int .i64 k.f), .p (.int .i64 k.lo), .p (.int .i64 k.hi), .p (.int .i64 k.mo), .p (.sl (k.ps.map encK))]], []⟩

def frK63 (i : Nat) (l d : Int) : Fr := [(1, .p (.int .i64 l)), (2, .p (.int .i64 d)), (3, .ptr 0 0), (7, .p (.int .i64 i))]

theorem bodyK63_end (v : Kd) (i : Nat) (l d : Int) (h : ¬ (i < v.ps.length ∧ 0 ≤ l)) :
    E false ⟨0, 0⟩ 49 lp49_0 (frK63 i l d) (stK v) = some (.exit 0, [(1, .p (.int .i64 l)), (2, .p (.int .i64 d)), (3, .ptr 0 0), (7, .p (.int .i64 i)), (24, .p (.bool false))], stK v) := by
  by_cases hlt : i < v.ps.length
  · have hl : ¬ 0 ≤ l := fun h2 => h ⟨hlt, h2⟩
    simp [E_skip, E_ret, E_exit, E_text, E_seq, E_cond, E_block, E_loop, frK63, lp49_0, code49, Tryz.f49, runOps, runOp, wantD, exec, fin, opd, look, putF, norm, constD, constC, stK, fieldAddrD, loadD, opCall, lenD, binD, isShift, intP, hlt, hl]
  · simp [E_skip, E_ret, E_exit, E_text, E_seq, E_cond, E_block, E_loop, frK63, lp49_0, code49, Tryz.f49, runOps, runOp, wantD, exec, fin, opd, look, putF, norm, constD, constC, stK, fieldAddrD, loadD, opCall, lenD, binD, isShift, intP, hlt]

theorem bodyK63_step (v : Kd) (i : Nat) (l d : Int) (hlt : i < v.ps.length) (hl : 0 ≤ l) (hi : i < 9223372036854775807) (hd : 1 ≤ d) (hd2 : d < 9223372036854775807) (r : Int)
    (hr : ∀ H, W 49 [.p (encK v.ps[i]), .p (.int .i64 l), .p (.int .i64 (d - 1))] H = some (.ret (.p (.int .i64 r)), H)) :
    E false ⟨0, 0⟩ 49 lp49_0 (frK63 i l d) (stK v) = some (.normal, frK63 (i + 1) r d, stK v) := by
  have hw : IntKind.i64.wrap ((i : Int) + 1) = (i : Int) + 1 := wrap64 (by omega) (by omega)
  have hw2 : IntKind.i64.wrap (d - 1) = d - 1 := wrap64 (by omega) (by omega)
  simp [E_skip, E_ret, E_exit, E_text, E_seq, E_cond, E_block, E_loop, frK63, lp49_0, code49, Tryz.f49, runOps, runOp, wantD, exec, fin, opd, look, putF, norm, constD, constC, stK, fieldAddrD, loadD, opCall, lenD, binD, isShift, intP, hlt,
        numD, indexAddrD, D.pd?, cells_encK, sub, capsOf, callD, argsD, argD, D.nf, encK_agg, hr, unP, hw, hw2, hl]

theorem cutK63 (v : Kd) (i : Nat) (l d : Int) (F : Fr) (hF : norm [1, 2, 3, 7] F = frK63 i l d) : cutD ⟨0, 0⟩ [1, 2, 3, 7] 1 0 F (stK v) = some (frK63 i l d, stK v) := by
  simp [cutD, hF, frK63, frNo, stK, blkNo, D.noRef, D.noRefs, Hp.cut]

/-- What is known of calls of less depth. -/
def RecK63 (d : Int) : Prop := ∀ (u : Kd) (l : Int) (H : Hp), 0 ≤ l → l < 4611686018427387904 → W 49 [.p (encK u), .p (.int .i64 l), .p (.int .i64 d)] H = some (.ret (.p (.int .i64 (u.weigh l d))), H)

theorem loopK63_ok (v : Kd) (d : Int) (hd : 1 ≤ d) (hd2 : d < 4611686018427387904) (hrec : RecK63 (d - 1)) : ∀ (m i : Nat) (l : Int) (F : Fr), m = v.ps.length - i → i ≤ v.ps.length → -1 ≤ l → (i : Int) + l < 4611686018427387904 →
    norm [1, 2, 3, 7] F = frK63 i l d →
    ∃ k b, loopO false ⟨0, 0⟩ 49 lp49_0 1 0 F (stK v) = some (.exit 0, [(1, .p (.int .i64 (weighKs (v.ps.drop i) l (d - 1)))), (2, .p (.int .i64 d)), (3, .ptr 0 0), (7, k), (24, b)], stK v) := by
  intro m
  induction m with
  | zero =>
    intro i l F hm hi hl hb hF
    have hie : i = v.ps.length := by omega
    refine ⟨.p (.int .i64 i), .p (.bool false), ?_⟩
    rw [show weighKs (v.ps.drop i) l (d - 1) = l by rw [hie, List.drop_length, weighKs], loopO_eq, hd49_0, cutK63 v _ _ _ F hF]
    simp only [bodyK63_end v i l d (by omega)]
  | succ m ih =>
    intro i l F hm hi hl hb hF
    have hlt : i < v.ps.length := by omega
    rw [loopO_eq, hd49_0, cutK63 v _ _ _ F hF, List.drop_eq_getElem_cons hlt, weighKs]
    by_cases h0 : 0 ≤ l
    · have hw := weighK_le v.ps[i] l (d - 1) h0
      simp only [bodyK63_step v i l d hlt h0 (by omega) hd (by omega) _ (fun H => hrec v.ps[i] l H h0 (by omega)), if_pos h0]
      exact ih (i + 1) _ (frK63 (i + 1) _ d) (by omega) (by omega) (by omega) (by omega) rfl
    · refine ⟨.p (.int .i64 i), .p (.bool false), ?_⟩
      simp only [bodyK63_end v i l d (by omega), if_neg h0]

theorem weighK_step (v : Kd) (l d : Int) (h0 : 0 ≤ l) (hl : l < 4611686018427387904) (hd2 : d < 4611686018427387904) (hrec : 1 ≤ d → RecK63 (d - 1)) (H : Hp) :
    W 49 [.p (encK v), .p (.int .i64 l), .p (.int .i64 d)] H = some (.ret (.p (.int .i64 (v.weigh l d))), H) := by
  refine W49_of rfl (by simp) ?_
  rw [weighK_eq]
  have fin1 : ∀ x : Int, alone H (fnOut Tryz.prog [.tmp 6] 0 0 (some (.ret, [(6, .p (.int .i64 x))], stK v))) = some (.ret (.p (.int .i64 x)), H) := fun x => by
    simp [fnOut, retOut, resD, look, retsD, retD, argD, D.nf, D.pd?, oneD, D.noRefs, D.noRef, alone, Hp.cut]
  by_cases h1 : l < 1
  · have key : E false ⟨0, 0⟩ 49 code49 (mkF 0 [.p (encK v), .p (.int .i64 l), .p (.int .i64 d)]) H00 = some (.ret, [(6, .p (.int .i64 (-1)))], stK v) := by
      simp [E_skip, E_ret, E_exit, E_text, E_seq, E_cond, E_block, E_loop, code49, Tryz.f49, mkF, H00, runOps, runOp, wantD, exec, fin, opd, look, putF, norm, constD, constC, box_encK, cellD, stK, binD, isShift, intP, h1]
    rw [key, fin1, if_pos (.inl h1)]
  · by_cases h2 : d < 1
    · have key : E false ⟨0, 0⟩ 49 code49 (mkF 0 [.p (encK v), .p (.int .i64 l), .p (.int .i64 d)]) H00 = some (.ret, [(6, .p (.int .i64 (-1)))], stK v) := by
        simp [E_skip, E_ret, E_exit, E_text, E_seq, E_cond, E_block, E_loop, code49, Tryz.f49, mkF, H00, runOps, runOp, wantD, exec, fin, opd, look, putF, norm, constD, constC, box_encK, cellD, stK, binD, isShift, intP, h1, h2]
      rw [key, fin1, if_pos (.inr h2)]
    · have hw : IntKind.i64.wrap (l - 1) = l - 1 := wrap64 (by omega) (by omega)
      obtain ⟨k, b, hloop⟩ := loopK63_ok v d (by omega) hd2 (hrec (by omega)) v.ps.length 0 (l - 1) (frK63 0 (l - 1) d) rfl (Nat.zero_le _) (by omega) (by omega) rfl
      have key : E false ⟨0, 0⟩ 49 code49 (mkF 0 [.p (encK v), .p (.int .i64 l), .p (.int .i64 d)]) H00 = some (.ret, [(6, .p (.int .i64 (weighKs v.ps (l - 1) (d - 1))))], stK v) := by
        have h00 : ((0 : Nat) : Int) = 0 := rfl
        simp only [lp49_0, code49, Tryz.f49, frK63, stK, h00, List.drop_zero] at hloop
        simp [E_skip, E_ret, E_exit, E_text, E_seq, E_cond, E_block, E_loop, code49, Tryz.f49, mkF, H00, runOps, runOp, wantD, exec, fin, opd, look, putF, norm, constD, constC, box_encK, cellD, stK, binD, isShift, intP, h1, h2, hw, hloop]
      rw [key, fin1, if_neg (by omega)]

theorem weighK_W : ∀ (n : Nat) (d : Int), d ≤ n → d < 4611686018427387904 → RecK63 d := by
  intro n
  induction n with
  | zero => intro d hn hd u l H h0 hl; exact weighK_step u l d h0 hl hd (fun h => absurd h (by omega)) H
  | succ n ih => intro d hn hd u l H h0 hl; exact weighK_step u l d h0 hl hd (fun _ => ih (d - 1) (by omega) (by omega)) H
end Go.Vi
end

section
/- Vi: layer 5: loops that find; swardref05.in, plain, shaped, Small, Valid; syntax.kindNodes, isForm, CheckKind; kind.valid, Check. No conditions but those that stand with each. -/
namespace Go.Vi
open Go Go.Lib Go.Proofs
set_option maxRecDepth 100000

theorem cD_agg (l : List D) : cellsD (.agg l) = l := rfl
theorem cD_pagg (l : List PD) : cellsD (.p (.agg l)) = l.map .p := rfl
theorem cD_int (k : IntKind) (n : Int) : cellsD (.p (.int k n)) = [.p (.int k n)] := rfl
theorem cD_bool (b : Bool) : cellsD (.p (.bool b)) = [.p (.bool b)] := rfl
theorem cD_str (s : ByteArray) : cellsD (.p (.str s)) = [.p (.str s)] := rfl
theorem cD_sl (l : List PD) : cellsD (.p (.sl l)) = [.p (.sl l)] := rfl
theorem cD_lit (b : Bool) (l : List PD) : cellsD (.lit b l) = [.lit b l] := rfl
theorem cD_own (i n : Nat) : cellsD (.own i n) = [.own i n] := rfl
theorem cD_ptr (i o : Nat) : cellsD (.ptr i o) = [.ptr i o] := rfl
theorem one_int (k : IntKind) (n : Int) : (PD.int k n).one = true := rfl
theorem one_str (x : ByteArray) : (PD.str x).one = true := rfl
theorem one_sl (x : List PD) : (PD.sl x).one = true := rfl
theorem one_agg (l : List PD) : (PD.agg l).one = false := rfl
theorem cells_int (k : IntKind) (n : Int) : (PD.int k n).cells = [PD.int k n] := rfl
theorem cells_sl (l : List PD) : (PD.sl l).cells = [.sl l] := rfl
theorem cells_agg (l : List PD) : (PD.agg l).cells = l := rfl
abbrev iP (n : Int) : PD := .int .i64 n

/-! ### How many, how deep -/
theorem nodes_mem : ∀ {l : List Kd} {x : Kd}, x ∈ l → x.nodes ≤ nodesKs l
  | y :: r, x, h => by
    simp only [nodesKs]
    rcases List.mem_cons.1 h with rfl | h
    · omega
    · have := nodes_mem h; omega
theorem nodes_pos (k : Kd) : 1 ≤ k.nodes := by rw [nodesK_eq]; omega
theorem nodes_len : ∀ (l : List Kd), l.length ≤ nodesKs l
  | [] => by simp [nodesKs]
  | y :: r => by
    simp only [nodesKs, List.length_cons]
    have := nodes_len r
    have := nodes_pos y
    omega
theorem ps_nodes {k x : Kd} (h : x ∈ k.ps) : x.nodes < k.nodes := by rw [nodesK_eq k]; have := nodes_mem h; omega
theorem ps_len (k : Kd) : k.ps.length < k.nodes := by rw [nodesK_eq k]; have := nodes_len k.ps; omega

section
variable {mu : Bool} {m : Mk} {f : FuncId} {c : Code} {nB nA : Nat} {keep : List Tmp}
/-- Each number below n is asked; the first that is found ends the loop. -/
theorem for_find (hd : ch.head f (firstR c) = keep) (n : Nat) (fr : Nat → Fr) (H0 : Hp) (p : Nat → Bool) {ex : CO} {bad : Nat → CO} (hx : ex.1 ≠ .normal) (hb : ∀ i, (bad i).1 ≠ .normal)
    (hend : E mu m f c (fr n) H0 = some ex)
    (hstep : ∀ i, i < n → (p i = false ∧ ∃ F H, E mu m f c (fr i) H0 = some (.normal, F, H) ∧ cutD m keep nB nA F H = some (fr (i + 1), H0)) ∨ (p i = true ∧ E mu m f c (fr i) H0 = some (bad i)))
    {F : Fr} {H : Hp} (hcut : cutD m keep nB nA F H = some (fr 0, H0)) : loopO mu m f c nB nA F H = some (match (List.range n).find? p with | some i => bad i | none => ex) := by
  have ne : ∀ {o : CO}, o.1 ≠ .normal → ∀ F H, o ≠ (.normal, F, H) := fun h F H e => h (by rw [e])
  have key := loop_run (mu := mu) (m := m) (f := f) (c := c) (nB := nB) (nA := nA) hd fr (fun _ => H0) (fun i => match (List.range' i (n - i)).find? p with | some i => bad i | none => ex) (fun i => i ≤ n) (fun i => n - i)
    (fun i hi => by
      by_cases hin : i = n
      · subst hin
        left
        simp only [Nat.sub_self, List.range'_zero, List.find?_nil]
        exact ⟨hend, ne hx⟩
      · have hlt : i < n := by omega
        have e : List.range' i (n - i) = i :: List.range' (i + 1) (n - (i + 1)) := by
          rw [show n - i = (n - (i + 1)) + 1 by omega, List.range'_succ]
        rcases hstep i hlt with ⟨hp, F, H, h1, h2⟩ | ⟨hp, h1⟩
        · right
          exact ⟨i + 1, F, H, h1, h2, by omega, by omega, by simp only [e, List.find?_cons, hp]⟩
        · left
          simp only [e, List.find?_cons, hp]
          exact ⟨h1, ne (hb i)⟩) 0 (F := F) (H := H) (Nat.zero_le _) hcut
  rw [List.range_eq_range']
  simpa using key
end

/-! ### Code in parts -/
def cFst : Code → Code
  | .seq a _ => a
  | c => c
def cSnd : Code → Code
  | .seq _ b => b
  | c => c
def isSeq : Code → Bool
  | .seq _ _ => true
  | _ => false
theorem E_cut {mu : Bool} {m : Mk} {f : FuncId} {F : Fr} {H : Hp} {c : Code} (h : isSeq c = true) : E mu m f c F H = match E mu m f (cFst c) F H with | some (.normal, F1, H1) => E mu m f (cSnd c) F1 H1 | r => r := by
  cases c with
  | seq a b => exact E_seq
  | _ => cases h

attribute [local simp] E_skip E_ret E_exit E_text E_draw E_seq E_cond E_block E_scope E_loop runOps runOp drawR slotsOf Hp.kept_zero runDraw runVF runX runV finV gate FlOK FlOK0 wantD exec fin opd look putF norm constD constC fieldAddrD loadD storeD opCall lenD binD isShift intP strP numD indexAddrD indexD D.pd? D.pds? sub capsOf callD argsD argD D.nf unP cellD mkF H00 cD_agg cD_pagg cD_int cD_bool cD_str cD_sl cD_lit cells_int
attribute [local simp] fnOut retOut resD retsD retD oneD D.noRefs D.noRef alone Hp.cut
attribute [local simp] cells_encK encK_agg box_encK

theorem in68_W (n lo hi : Int) (H : Hp) : W 68 [.p (.int .i64 n), .p (.int .i64 lo), .p (.int .i64 hi)] H = some (.ret (.p (.bool (rangeB n lo hi))), H) := by
  refine W68_of rfl (by simp) ?_
  by_cases h1 : lo ≤ n <;> by_cases h2 : n ≤ hi <;> simp [code68, Tryz.f68, rangeB, h1, h2]

theorem in188_W (n lo hi : Int) (H : Hp) : W 188 [.p (.int .i64 n), .p (.int .i64 lo), .p (.int .i64 hi)] H = some (.ret (.p (.bool (rangeB n lo hi))), H) := by
  refine W188_of rfl (by simp) ?_
  by_cases h1 : lo ≤ n <;> by_cases h2 : n ≤ hi <;> simp [code188, Tryz.f188, rangeB, h1, h2]

theorem isInt187_W (n : Int) (H : Hp) : W 187 [.p (.int .i64 n)] H = some (.ret (.p (.bool (rangeB n (-1000000000) 1000000000))), H) := by
  refine W187_of rfl (by simp) ?_
  simp [code187, Tryz.f187, in188_W]

theorem plain106_W (k : Kd) (H : Hp) : W 106 [.p (encK k)] H = some (.ret (.p (.bool k.plain)), H) := by
  refine W106_of rfl (by simp) ?_
  by_cases h1 : k.lo = 0 <;> by_cases h2 : k.hi = 0 <;> by_cases h3 : k.mo = 0 <;> simp [code106, Tryz.f106, Kd.plain, h1, h2, h3]

def fr67 (i : Nat) : Fr := [(1, .ptr 0 0), (3, .p (.int .i64 i))]
/-- What is known of calls with fewer nodes. -/
def Rec67 (n : Nat) : Prop := ∀ (u : Kd) (H : Hp), u.nodes < n → W 67 [.p (encK u)] H = some (.ret (.p (.bool u.shaped)), H)
theorem loop67_ok (k : Kd) (hn : k.nodes < 4611686018427387904) (hrec : Rec67 k.nodes) : loopO false ⟨0, 0⟩ 67 lp67_0 1 0 (fr67 0) (stK k) =
    some (if k.ps.all Kd.shaped = true then (.exit 0, [(1, .ptr 0 0), (3, .p (.int .i64 k.ps.length)), (8, .p (.bool false))], stK k) else (.ret, [(2, .p (.bool false))], stK k)) := by
  have hl := ps_len k
  rw [← range_all Kd.shaped (.mk 0 0 0 0 []) k.ps]
  refine for_all (hd67_0) k.ps.length fr67 (stK k) (fun i => (k.ps.getD i (.mk 0 0 0 0 [])).shaped) (by simp) (by simp) ?_ (fun i hi => ?_) (F := fr67 0) (H := stK k) (by simp [cutD, fr67, frNo, stK, blkNo])
  · simp [lp67_0, code67, Tryz.f67, fr67, stK]
  · have hg : k.ps.getD i (.mk 0 0 0 0 []) = k.ps[i] := by simp [List.getD_eq_getElem?_getD, hi]
    have hr := fun H => hrec k.ps[i] H (ps_nodes (List.getElem_mem hi))
    have hw : IntKind.i64.wrap ((i : Int) + 1) = (i : Int) + 1 := wrap64 (by omega) (by omega)
    rw [hg]
    cases hs : k.ps[i].shaped with
    | true =>
      left
      refine ⟨rfl, [(1, .ptr 0 0), (3, .p (.int .i64 (i + 1 : Nat)))], stK k, ?_, by simp [cutD, fr67, frNo, stK, blkNo]⟩
      simp [lp67_0, code67, Tryz.f67, fr67, stK, hi, hr, hs, hw]
    | false =>
      right
      refine ⟨rfl, ?_⟩
      simp [lp67_0, code67, Tryz.f67, fr67, stK, hi, hr, hs, hw]

end Go.Vi
end

section
/- Vi: layer 5: swardref05.shaped, Small, Valid. No conditions but those that stand with each. -/
namespace Go.Vi
open Go Go.Lib Go.Proofs
set_option maxRecDepth 100000
attribute [local simp] E_skip E_ret E_exit E_text E_draw E_seq E_cond E_block E_scope E_loop runOps runOp drawR slotsOf Hp.kept_zero runDraw runVF runX runV finV gate FlOK FlOK0 wantD exec fin opd look putF norm constD constC fieldAddrD loadD storeD opCall lenD binD isShift intP strP numD indexAddrD indexD D.pd? D.pds? sub capsOf callD argsD argD D.nf unP cellD mkF H00 cD_agg cD_pagg cD_int cD_bool cD_str cD_sl cD_lit cells_int
attribute [local simp] fnOut retOut resD retsD retD oneD D.noRefs D.noRef alone Hp.cut
attribute [local simp] cells_encK encK_agg box_encK

theorem ini67_W (k : Kd) : E false ⟨0, 0⟩ 67 (cFst code67) (mkF 0 [.p (encK k)]) H00 = some (.normal, [(1, .ptr 0 0)], stK k) := by
  simp [cFst, code67, Tryz.f67, stK]
theorem blk67_W (k : Kd) (hb : k.nodes < 4611686018427387904) (hrec : Rec67 k.nodes) : E false ⟨0, 0⟩ 67 (cFst (cSnd code67)) [(1, .ptr 0 0)] (stK k) =
    if k.ps.all Kd.shaped = true then some (.normal, [(1, .ptr 0 0), (3, .p (.int .i64 k.ps.length)), (8, .p (.bool false))], stK k) else some (.ret, [(2, .p (.bool false))], stK k) := by
  have hloop := loop67_ok k hb hrec
  have h00 : ((0 : Nat) : Int) = 0 := rfl
  simp only [lp67_0, code67, Tryz.f67, fr67, stK, h00] at hloop
  cases hall : k.ps.all Kd.shaped <;> rw [hall] at hloop <;> simp only [Bool.false_eq_true, if_false, if_true] at hloop ⊢ <;> simp [cFst, cSnd, code67, Tryz.f67, stK, hloop]
theorem rst67_W (k : Kd) (x y : D) : E false ⟨0, 0⟩ 67 (cSnd (cSnd code67)) [(1, .ptr 0 0), (3, x), (8, y)] (stK k) = some (.ret, [(2, .p (.bool k.own))], stK k) := by
  unfold Kd.own
  by_cases c1 : k.f = 1
  · have e := eq_true c1
    cases hp : k.plain <;> simp [cSnd, code67, Tryz.f67, stK, e, plain106_W, hp]
  have n1 := eq_false c1
  by_cases c3 : k.f = 3
  · have e := eq_true c3
    cases hp : k.plain <;> simp [cSnd, code67, Tryz.f67, stK, n1, e, plain106_W, hp]
  have n3 := eq_false c3
  by_cases c4 : k.f = 4
  · have e := eq_true c4
    cases hp : k.plain <;> simp [cSnd, code67, Tryz.f67, stK, n1, n3, e, plain106_W, hp]
  have n4 := eq_false c4
  by_cases c2 : k.f = 2
  · have e := eq_true c2
    cases h1 : rangeB k.lo (-1000000000) 1000000000 <;> cases h2 : rangeB k.hi k.lo 1000000000 <;> by_cases h3 : k.mo = 0 <;> (first | have h3' := eq_false h3 | have h3' := eq_true h3) <;> simp [cSnd, code67, Tryz.f67, stK, n1, n3, n4, e, in68_W, h1, h2, h3']
  have n2 := eq_false c2
  by_cases c5 : k.f = 5
  · have e := eq_true c5
    cases hp : k.plain <;> simp [cSnd, code67, Tryz.f67, stK, n1, n2, n3, n4, e, plain106_W, in68_W, hp]
  have n5 := eq_false c5
  by_cases c6 : k.f = 6
  · have e := eq_true c6
    by_cases h1 : k.lo = 0 <;> by_cases h2 : k.hi = 0 <;> (first | have h1' := eq_false h1 | have h1' := eq_true h1) <;> (first | have h2' := eq_false h2 | have h2' := eq_true h2) <;> cases h3 : rangeB k.mo 0 199 <;>
      simp [cSnd, code67, Tryz.f67, stK, n1, n2, n3, n4, n5, e, in68_W, h1', h2', h3] <;> (simp [h1, h2]; omega)
  · have n6 := eq_false c6
    simp [cSnd, code67, Tryz.f67, stK, n1, n2, n3, n4, n5, n6]

theorem shaped67_W (k : Kd) : ∀ (H : Hp), k.nodes < 4611686018427387904 → W 67 [.p (encK k)] H = some (.ret (.p (.bool k.shaped)), H) := by
  have key : ∀ (n : Nat) (k : Kd) (H : Hp), k.nodes ≤ n → k.nodes < 4611686018427387904 → W 67 [.p (encK k)] H = some (.ret (.p (.bool k.shaped)), H) := by
    intro n
    induction n with
    | zero => intro k H h _; have := nodes_pos k; omega
    | succ n ih =>
      intro k H hn hb
      refine W67_of rfl (by simp) ?_
      rw [shapedK_eq, E_cut (by rfl), ini67_W]
      simp only
      rw [E_cut (by rfl), blk67_W k hb fun u H hu => ih u H (by omega) (by omega)]
      cases hall : k.ps.all Kd.shaped with
      | false => simp [stK]
      | true =>
        simp only [if_true, Bool.true_and]
        rw [rst67_W]
        simp [stK]
  exact fun H h => key k.nodes k H (Nat.le_refl _) h

theorem small12_W (k : Kd) (H : Hp) : W 12 [.p (encK k)] H = some (.ret (.p (.bool k.small)), H) := by
  refine W12_of rfl (by simp) ?_
  have h49 := fun H => weighK_W 9 9 (by omega) (by omega) k 30 H (by omega) (by omega)
  have hf : decide (0 ≤ k.weigh 30 9) = k.fitK 30 9 := weighK_fit k 30 9
  unfold Kd.small
  rw [← hf]
  simp [code12, Tryz.f12, h49]

theorem fit_nodes {k : Kd} {n d : Nat} (h : k.fitK n d = true) : k.nodes ≤ n := by
  unfold Kd.fitK at h
  rw [Bool.and_eq_true, decide_eq_true_eq] at h
  exact h.1

theorem valid21_W (k : Kd) (H : Hp) : W 21 [.p (encK k)] H = some (.ret (.p (.bool k.valid)), H) := by
  refine W21_of rfl (by simp) ?_
  have h49 := fun H => weighK_W 6 6 (by omega) (by omega) k 20 H (by omega) (by omega)
  have hf' : decide (0 ≤ k.weigh 20 6) = k.fitK 20 6 := weighK_fit k 20 6
  unfold Kd.valid
  cases hk : k.fitK 20 6 with
  | true =>
    rw [hk] at hf'
    have h67 := fun H => shaped67_W k H (by have := fit_nodes hk; omega)
    have h0 : 0 ≤ k.weigh 20 6 := of_decide_eq_true hf'
    simp [code21, Tryz.f21, h49, h67, h0]
  | false =>
    rw [hk] at hf'
    have h0 : ¬ 0 ≤ k.weigh 20 6 := of_decide_eq_false hf'
    simp [code21, Tryz.f21, h49, h0]
end Go.Vi
end

section
/- Vi: rows that grow, as what they hold; loops by what stays true. No conditions but those that stand with each. -/
namespace Go.Vi
open Go Go.Lib Go.Proofs
set_option maxRecDepth 100000

/-- A row that nothing writes into any more, or none yet, with what it holds. -/
def GRow (A : List Arr) (e : TypeId) (sz : Nat) (d : D) (L : List PD) : Prop :=
  (d = .lit true [] ∧ L = []) ∨ ∃ k ver, d = .own k ver ∧ A[k]? = some ⟨ver, e, sz, false, true, L⟩
/-- Two rows are not the same one. -/
def Apart (c d : D) : Prop := ∀ k v v', c = .own k v → d ≠ .own k v'
theorem Apart.symm {c d : D} (h : Apart c d) : Apart d c := fun k v v' h1 h2 => h k v' v h2 h1
theorem apart_lit (c : D) (b : Bool) (l : List PD) : Apart c (.lit b l) := fun k v v' _ h => by cases h

theorem GRow.pd {A : List Arr} {e : TypeId} {sz : Nat} {d : D} {L : List PD} (h : GRow A e sz d L) : D.pd? A d = some (.sl L) := by
  rcases h with ⟨rfl, rfl⟩ | ⟨k, ver, rfl, h⟩
  · rfl
  · simp [D.pd?, h]
theorem GRow.src {A : List Arr} {e : TypeId} {sz : Nat} {d : D} {L : List PD} (h : GRow A e sz d L) (B : List Blk) : srcD ⟨B, A⟩ d = some L := by
  rcases h with ⟨rfl, rfl⟩ | ⟨k, ver, rfl, h⟩
  · rfl
  · simp [srcD, Hp.live, h]
theorem GRow.len {A : List Arr} {e : TypeId} {sz : Nat} {d : D} {L : List PD} (h : GRow A e sz d L) (B : List Blk) : lenD ⟨B, A⟩ false d = some (L.length : Int) := by
  rcases h with ⟨rfl, rfl⟩ | ⟨k, ver, rfl, h⟩
  · rfl
  · simp [lenD, Hp.live, h]
theorem GRow.cell {A : List Arr} {e : TypeId} {sz : Nat} {d : D} {L : List PD} (h : GRow A e sz d L) : cellD d = true := by
  rcases h with ⟨rfl, rfl⟩ | ⟨k, ver, rfl, h⟩ <;> rfl
theorem GRow.cells {A : List Arr} {e : TypeId} {sz : Nat} {d : D} {L : List PD} (h : GRow A e sz d L) : cellsD d = [d] := by
  rcases h with ⟨rfl, rfl⟩ | ⟨k, ver, rfl, h⟩ <;> rfl
theorem GRow.mono {A : List Arr} {e : TypeId} {sz : Nat} {d : D} {L : List PD} (h : GRow A e sz d L) (X : List Arr) : GRow (A ++ X) e sz d L := by
  rcases h with h | ⟨k, ver, rfl, h⟩
  · exact .inl h
  · exact .inr ⟨k, ver, rfl, by rw [List.getElem?_append_left (List.getElem?_eq_some_iff.1 h).1]; exact h⟩
theorem GRow.cut {A : List Arr} {e : TypeId} {sz : Nat} {d : D} {L : List PD} {nB nA : Nat} (h : GRow A e sz d L) (hn : D.noRef nB nA d = true) : GRow (A.take nA) e sz d L := by
  rcases h with h | ⟨k, ver, rfl, h⟩
  · exact .inl h
  · simp only [D.noRef, decide_eq_true_eq] at hn
    exact .inr ⟨k, ver, rfl, by rw [List.getElem?_take, if_pos hn]; exact h⟩

/-- One more, or some. -/
theorem GRow.app {A : List Arr} {e t : TypeId} {sz by_ : Nat} {d : D} {L ys : List PD} (h : GRow A e sz d L) (B : List Blk) {y : D} (he : elemOf Tryz.prog t = some e) (hs : szOf Tryz.prog e = some sz) (hb : byOf Tryz.prog e = some by_)
    (h0 : 0 < by_) (h1 : 0 < sz) (hz : zOK Tryz.prog e sz = true) (hy : srcD ⟨B, A⟩ y = some ys) (hne : ys ≠ []) (hf : fits sz ys = true) (hlen : (L.length + ys.length) * by_ ≤ 140737488355328) :
    ∃ d' A', appendD Tryz.prog false ⟨B, A⟩ t d y = some (.val d' ⟨B, A'⟩) ∧ GRow A' e sz d' (L ++ ys) ∧ cellsD d' = [d'] ∧ (∀ e' sz' c M, GRow A e' sz' c M → Apart c d → GRow A' e' sz' c M ∧ Apart c d') := by
  have hem : ys.isEmpty = false := by cases ys with | nil => exact absurd rfl hne | cons => rfl
  rcases h with ⟨rfl, rfl⟩ | ⟨k, ver, rfl, h⟩
  · refine ⟨.own A.length 0, A ++ [⟨0, e, sz, false, true, ys⟩], ?_, .inr ⟨_, _, rfl, by simp⟩, rfl, fun e' sz' c M hc _ => ⟨hc.mono _, fun k v v' h1 h2 => ?_⟩⟩
    · have hf0 : fits sz [] = true := rfl
      have hlen' : ys.length * by_ ≤ 140737488355328 := by simpa using hlen
      simp [appendD, he, hs, hb, hy, hf, h0, h1, hz, hem, hf0, newRow, hlen']
    · subst h1
      rcases hc with ⟨h, _⟩ | ⟨k', ver', h, h'⟩
      · cases h
      · injection h with e1 e2
        injection h2 with e3 e4
        have := (List.getElem?_eq_some_iff.1 h').1
        omega
  · have hk := (List.getElem?_eq_some_iff.1 h).1
    refine ⟨.own k (ver + 1), A.set k ⟨ver + 1, e, sz, false, true, L ++ ys⟩, ?_, .inr ⟨_, _, rfl, by simp [hk]⟩, rfl, fun e' sz' c M hc ha => ⟨?_, fun k' v v' h1 h2 => ?_⟩⟩
    · simp [appendD, he, hs, hb, hy, hf, h0, h1, hz, Hp.live, h, hlen]
    · rcases hc with hc | ⟨k', ver', rfl, h'⟩
      · exact .inl hc
      · refine .inr ⟨k', ver', rfl, ?_⟩
        have : k ≠ k' := fun e => ha k' ver' ver rfl (by rw [e])
        rw [List.getElem?_set_ne this]; exact h'
    · injection h2 with e1 e2
      exact ha k' v ver h1 (by rw [e1])

/-- At a loop's head the heap is as it is, or cut. -/
theorem cutD_or (m : Mk) (keep : List Tmp) (nB nA : Nat) (F : Fr) (H : Hp) : ∃ H', cutD m keep nB nA F H = some (norm keep F, H') ∧ (H' = H ∨ (H' = ⟨H.B.take nB, H.A.take nA⟩ ∧ frNo nB nA (norm keep F) = true ∧ (H.B.take nB).all (blkNo nB nA) = true)) := by
  unfold cutD
  split
  · rename_i h
    exact ⟨_, rfl, .inr ⟨rfl, h.1, h.2⟩⟩
  · exact ⟨_, rfl, .inl rfl⟩

/-- A loop over the numbers below n by what stays true. -/
theorem for_inv {mu : Bool} {m : Mk} {f : FuncId} {c : Code} {nB nA : Nat} {keep : List Tmp} (hd : ch.head f (firstR c) = keep) (n : Nat) (I : Nat → Fr → Hp → Prop) (Q : CO → Prop)
    (hend : ∀ F H, I n F H → ∃ o, E mu m f c F H = some o ∧ o.1 ≠ .normal ∧ Q o)
    (hstep : ∀ i F H, i < n → I i F H → ∃ F1 H1, E mu m f c F H = some (.normal, F1, H1) ∧ ∃ F2 H2, cutD m keep nB nA F1 H1 = some (F2, H2) ∧ I (i + 1) F2 H2)
    {F F0 : Fr} {H H0 : Hp} (hcut : cutD m keep nB nA F H = some (F0, H0)) (hI : I 0 F0 H0) : ∃ o, loopO mu m f c nB nA F H = some o ∧ Q o := by
  have key : ∀ (k i : Nat) (F : Fr) (H : Hp) (F0 : Fr) (H0 : Hp), i + k = n → cutD m keep nB nA F H = some (F0, H0) → I i F0 H0 → ∃ o, loopO mu m f c nB nA F H = some o ∧ Q o := by
    intro k
    induction k with
    | zero =>
      intro i F H F0 H0 hi hcut hI
      have : i = n := by omega
      subst this
      obtain ⟨o, h1, h2, h3⟩ := hend F0 H0 hI
      refine ⟨o, ?_, h3⟩
      rw [loopO_eq, hd, hcut]
      simp only [h1]
      obtain ⟨e, F1, H1⟩ := o
      cases e with
      | normal => exact absurd rfl h2
      | _ => rfl
    | succ k ih =>
      intro i F H F0 H0 hi hcut hI
      obtain ⟨F1, H1, h1, F2, H2, h2, h3⟩ := hstep i F0 H0 (by omega) hI
      obtain ⟨o, h4, h5⟩ := ih (i + 1) F1 H1 F2 H2 (by omega) h2 h3
      refine ⟨o, ?_, h5⟩
      rw [loopO_eq, hd, hcut]
      simp only [h1]
      exact h4
  exact key n 0 F H F0 H0 (by omega) hcut hI

/-- The same, where a round may end the loop. -/
theorem for_ex {mu : Bool} {m : Mk} {f : FuncId} {c : Code} {nB nA : Nat} {keep : List Tmp} (hd : ch.head f (firstR c) = keep) (n : Nat) (I : Nat → Fr → Hp → Prop) (Q : CO → Prop)
    (hend : ∀ F H, I n F H → ∃ o, E mu m f c F H = some o ∧ o.1 ≠ .normal ∧ Q o)
    (hstep : ∀ i F H, i < n → I i F H → (∃ o, E mu m f c F H = some o ∧ o.1 ≠ .normal ∧ Q o) ∨ ∃ F1 H1, E mu m f c F H = some (.normal, F1, H1) ∧ ∃ F2 H2, cutD m keep nB nA F1 H1 = some (F2, H2) ∧ I (i + 1) F2 H2)
    {F F0 : Fr} {H H0 : Hp} (hcut : cutD m keep nB nA F H = some (F0, H0)) (hI : I 0 F0 H0) : ∃ o, loopO mu m f c nB nA F H = some o ∧ Q o := by
  have stop : ∀ {F0 : Fr} {H0 : Hp} {F : Fr} {H : Hp}, cutD m keep nB nA F H = some (F0, H0) → (∃ o, E mu m f c F0 H0 = some o ∧ o.1 ≠ .normal ∧ Q o) → ∃ o, loopO mu m f c nB nA F H = some o ∧ Q o := by
    rintro F0 H0 F H hcut ⟨o, h1, h2, h3⟩
    refine ⟨o, ?_, h3⟩
    rw [loopO_eq, hd, hcut]
    simp only [h1]
    obtain ⟨e, F1, H1⟩ := o
    cases e with
    | normal => exact absurd rfl h2
    | _ => rfl
  have key : ∀ (k i : Nat) (F : Fr) (H : Hp) (F0 : Fr) (H0 : Hp), i + k = n → cutD m keep nB nA F H = some (F0, H0) → I i F0 H0 → ∃ o, loopO mu m f c nB nA F H = some o ∧ Q o := by
    intro k
    induction k with
    | zero =>
      intro i F H F0 H0 hi hcut hI
      have : i = n := by omega
      subst this
      exact stop hcut (hend F0 H0 hI)
    | succ k ih =>
      intro i F H F0 H0 hi hcut hI
      rcases hstep i F0 H0 (by omega) hI with h | ⟨F1, H1, h1, F2, H2, h2, h3⟩
      · exact stop hcut h
      · obtain ⟨o, h4, h5⟩ := ih (i + 1) F1 H1 F2 H2 (by omega) h2 h3
        refine ⟨o, ?_, h5⟩
        rw [loopO_eq, hd, hcut]
        simp only [h1]
        exact h4
  exact key n 0 F H F0 H0 (by omega) hcut hI

theorem get_concat (X : List Blk) (b : Blk) : (X ++ [b])[X.length]? = some b := by simp
theorem set_concat (X : List Blk) (b c : Blk) : (X ++ [b]).set X.length c = X ++ [c] := by simp
end Go.Vi
end

section
/- Vi: layer 5: syntax.kindNodes, isForm, CheckKind; kind.valid, Check. No conditions but those that stand with each. -/
namespace Go.Vi
open Go Go.Lib Go.Proofs
set_option maxRecDepth 100000
attribute [local simp] E_skip E_ret E_exit E_text E_draw E_seq E_cond E_block E_scope E_loop runOps runOp drawR slotsOf Hp.kept_zero runDraw runVF runX runV finV gate FlOK FlOK0 wantD exec fin opd look putF norm constD constC fieldAddrD loadD storeD opCall lenD binD isShift intP strP numD indexAddrD indexD D.pd? D.pds? sub capsOf callD argsD argD D.nf unP cellD mkF H00 cD_agg cD_pagg cD_int cD_bool cD_str cD_sl cD_lit cells_int
attribute [local simp] fnOut retOut resD retsD retD oneD D.noRefs D.noRef alone Hp.cut
attribute [local simp] cells_encK encK_agg box_encK

/-! ### kindNodes -/
def fr176 (k : Kd) (l d : Int) (i : Nat) : Fr := [(1, .p (.int .i64 l)), (2, .p (.int .i64 d)), (18, .p (.sl (k.ps.map encK))), (19, .p (.int .i64 k.ps.length)), (20, .p (.int .i64 i))]
def Rec176 (n : Nat) : Prop := ∀ (u : Kd) (l d : Int) (H : Hp), u.nodes < n → 0 ≤ l → l < 4611686018427387904 → -1 ≤ d → d < 4611686018427387904 → W 176 [.p (encK u), .p (.int .i64 l), .p (.int .i64 d)] H = some (.ret (.p (.int .i64 (u.weigh l d))), H)
def Q176 (k : Kd) (d r : Int) (o : CO) : Prop :=
  (0 ≤ r ∧ o = (.exit 0, [(1, .p (.int .i64 r)), (2, .p (.int .i64 d)), (18, .p (.sl (k.ps.map encK))), (19, .p (.int .i64 k.ps.length)), (20, .p (.int .i64 k.ps.length)), (21, .p (.bool false))], stK k)) ∨
  (r < 0 ∧ ∃ x, o = (.ret, [(6, .p (.int .i64 (-1)))], ⟨[bK k, bK x], []⟩))

theorem loop176_ok (k : Kd) (l d : Int) (hn : k.nodes < 4611686018427387904) (hd1 : 1 ≤ d) (hd2 : d < 4611686018427387904) (h0 : 0 ≤ l) (hl : l < 4611686018427387904) (hrec : Rec176 k.nodes) :
    ∃ o, loopO false ⟨0, 0⟩ 176 lp176_0 1 0 (fr176 k l d 0) (stK k) = some o ∧ Q176 k d (weighKs k.ps l (d - 1)) o := by
  have hlen := ps_len k
  refine for_ex (hd176_0) k.ps.length (fun i F H => ∃ l', F = fr176 k l' d i ∧ H = stK k ∧ 0 ≤ l' ∧ l' ≤ l ∧ weighKs (k.ps.drop i) l' (d - 1) = weighKs k.ps l (d - 1)) (Q176 k d (weighKs k.ps l (d - 1))) ?_ ?_
    (F := fr176 k l d 0) (H := stK k) (F0 := fr176 k l d 0) (H0 := stK k) (by simp [cutD, fr176, frNo, stK, blkNo]) ⟨l, rfl, rfl, h0, Int.le_refl _, rfl⟩
  · rintro F H ⟨l', rfl, rfl, h1, h2, h3⟩
    rw [List.drop_length, weighKs] at h3
    refine ⟨(.exit 0, [(1, .p (.int .i64 l')), (2, .p (.int .i64 d)), (18, .p (.sl (k.ps.map encK))), (19, .p (.int .i64 k.ps.length)), (20, .p (.int .i64 k.ps.length)), (21, .p (.bool false))], stK k), ?_, by simp, ?_⟩
    · simp [lp176_0, code176, Tryz.f176, fr176, stK]
    · rw [← h3]
      exact .inl ⟨h1, rfl⟩
  · rintro i F H hi ⟨l', rfl, rfl, h1, h2, h3⟩
    rw [List.drop_eq_getElem_cons hi, weighKs, if_pos h1] at h3
    have hw1 : IntKind.i64.wrap (d - 1) = d - 1 := wrap64 (by omega) (by omega)
    have hw2 : IntKind.i64.wrap ((i : Int) + 1) = (i : Int) + 1 := wrap64 (by omega) (by omega)
    have hr := fun H => hrec k.ps[i] l' (d - 1) H (ps_nodes (List.getElem_mem hi)) h1 (by omega) (by omega) (by omega)
    have hb := weighK_le k.ps[i] l' (d - 1) h1
    by_cases hneg : k.ps[i].weigh l' (d - 1) < 0
    · left
      refine ⟨(.ret, [(6, .p (.int .i64 (-1)))], ⟨[bK k, bK k.ps[i]], []⟩), ?_, by simp, .inr ⟨?_, _, rfl⟩⟩
      · simp [lp176_0, code176, Tryz.f176, fr176, stK, bK, hi, hr, hw1, hw2, hneg, splice]
      · rw [← h3]
        have := (weighKs_le (k.ps.drop (i + 1)) (k.ps[i].weigh l' (d - 1)) (d - 1) hb.2).1
        omega
    · right
      refine ⟨fr176 k (k.ps[i].weigh l' (d - 1)) d (i + 1), ⟨[bK k, bK k.ps[i]], []⟩, ?_, fr176 k (k.ps[i].weigh l' (d - 1)) d (i + 1), stK k, ?_, _, rfl, rfl, by omega, by omega, h3⟩
      · simp [lp176_0, code176, Tryz.f176, fr176, stK, bK, hi, hr, hw1, hw2, hneg, splice]
      · simp [cutD, fr176, frNo, stK, blkNo, bK]

theorem nodes176_W (k : Kd) : ∀ (l d : Int) (H : Hp), k.nodes < 4611686018427387904 → 0 ≤ l → l < 4611686018427387904 → -1 ≤ d → d < 4611686018427387904 →
    W 176 [.p (encK k), .p (.int .i64 l), .p (.int .i64 d)] H = some (.ret (.p (.int .i64 (k.weigh l d))), H) := by
  have key : ∀ (n : Nat) (k : Kd) (l d : Int) (H : Hp), k.nodes ≤ n → k.nodes < 4611686018427387904 → 0 ≤ l → l < 4611686018427387904 → -1 ≤ d → d < 4611686018427387904 →
      W 176 [.p (encK k), .p (.int .i64 l), .p (.int .i64 d)] H = some (.ret (.p (.int .i64 (k.weigh l d))), H) := by
    intro n
    induction n with
    | zero => intro k l d H h; have := nodes_pos k; omega
    | succ n ih =>
      intro k l d H hn hb h0 hl hd1 hd2
      refine W176_of rfl (by simp) ?_
      rw [weighK_eq]
      by_cases c1 : l < 1
      · rw [if_pos (.inl c1)]
        simp [code176, Tryz.f176, c1]
      by_cases c2 : d < 1
      · rw [if_pos (.inr c2)]
        simp [code176, Tryz.f176, c1, c2]
      rw [if_neg (by omega)]
      have hw : IntKind.i64.wrap (l - 1) = l - 1 := wrap64 (by omega) (by omega)
      obtain ⟨o, hloop, hq⟩ := loop176_ok k (l - 1) d hb (by omega) hd2 (by omega) (by omega) fun u l d H hu a b c e => ih u l d H (by omega) (by omega) a b c e
      have h00 : ((0 : Nat) : Int) = 0 := rfl
      simp only [lp176_0, code176, Tryz.f176, fr176, stK, h00] at hloop
      rcases hq with ⟨h3, rfl⟩ | ⟨h3, x, rfl⟩
      · simp [code176, Tryz.f176, c1, c2, hw, hloop, stK]
      · have := (weighKs_le k.ps (l - 1) (d - 1) (by omega)).2
        have e : weighKs k.ps (l - 1) (d - 1) = -1 := by omega
        rw [e]
        simp [code176, Tryz.f176, c1, c2, hw, hloop]
  exact fun l d H => key k.nodes k l d H (Nat.le_refl _)

/-! ### isForm -/
def idxK (p : Kd → Bool) (l : List Kd) : Int := match l.findIdx? p with | some i => (i : Int) | none => -1
theorem find_idx (p : Kd → Bool) (x : Kd) : ∀ (l : List Kd), (List.range l.length).find? (fun i => p (l.getD i x)) = l.findIdx? p := by
  have key : ∀ (l pre : List Kd), (List.range' pre.length l.length).find? (fun i => p ((pre ++ l).getD i x)) = (l.findIdx? p).map (· + pre.length) := by
    intro l
    induction l with
    | nil => intro pre; rfl
    | cons y r ih =>
      intro pre
      have hg : (pre ++ y :: r).getD pre.length x = y := by simp [List.getD_eq_getElem?_getD]
      rw [List.length_cons, List.range'_succ, List.find?_cons, hg, List.findIdx?_cons]
      cases hy : p y with
      | true => simp
      | false =>
        have := ih (pre ++ [y])
        simp only [List.length_append, List.length_singleton, List.append_assoc, List.singleton_append] at this
        simp only [Bool.false_eq_true, if_false]
        rw [this, Option.map_map]
        congr 1
        funext j
        simp; omega
  intro l
  rw [List.range_eq_range']
  have := key l []
  simpa using this

theorem idx219_W (g : FuncId) (hg : g < 1000000000) (hov : hn.ownArg g = false) (hom : hn.ownMut g = false) (p : Kd → Bool) (l : List Kd) (hlen : l.length < 4611686018427387904) (hp : ∀ x ∈ l, ∀ H, W g [.p (encK x)] H = some (.ret (.p (.bool (p x))), H)) (H : Hp) :
    W 219 [.p (.sl (l.map encK)), .p (.fn g)] H = some (.ret (.p (.int .i64 (idxK p l))), H) := by
  refine W219_of rfl (by simp) ?_
  have hloop : loopO false ⟨0, 0⟩ 219 lp219_0 0 0 [(0, .p (.sl (l.map encK))), (1, .p (.fn g)), (7, .p (.int .i64 l.length)), (8, .p (.int .i64 (0 : Nat)))] H00 =
      some (match (List.range l.length).find? (fun i => p (l.getD i (.mk 0 0 0 0 []))) with
        | some i => (.ret, [(4, .p (.int .i64 i))], H00)
        | none => (.exit 0, [(0, .p (.sl (l.map encK))), (1, .p (.fn g)), (7, .p (.int .i64 l.length)), (8, .p (.int .i64 l.length)), (9, .p (.bool false))], H00)) := by
    refine for_find (hd219_0) l.length (fun i => [(0, .p (.sl (l.map encK))), (1, .p (.fn g)), (7, .p (.int .i64 l.length)), (8, .p (.int .i64 i))]) H00 (fun i => p (l.getD i (.mk 0 0 0 0 [])))
      (by simp) (by simp) ?_ (fun i hi => ?_) (by simp [cutD, frNo])
    · simp [lp219_0, code219, Tryz.f219]
    · have hgd : l.getD i (.mk 0 0 0 0 []) = l[i] := by simp [List.getD_eq_getElem?_getD, hi]
      have hw : IntKind.i64.wrap ((i : Int) + 1) = (i : Int) + 1 := wrap64 (by omega) (by omega)
      have hr := fun H => hp l[i] (List.getElem_mem hi) H
      rw [hgd]
      cases hpi : p l[i] with
      | false =>
        left
        refine ⟨rfl, [(0, .p (.sl (l.map encK))), (1, .p (.fn g)), (7, .p (.int .i64 l.length)), (8, .p (.int .i64 (i + 1 : Nat)))], H00, ?_, by simp [cutD, frNo]⟩
        simp [lp219_0, code219, Tryz.f219, hi, hr, hpi, hw, hg, hov, hom]
      | true =>
        right
        refine ⟨rfl, ?_⟩
        simp [lp219_0, code219, Tryz.f219, hi, hr, hpi, hw, hg, hov, hom]
  rw [find_idx] at hloop
  have h00 : ((0 : Nat) : Int) = 0 := rfl
  simp only [lp219_0, code219, Tryz.f219, h00, H00] at hloop
  unfold idxK
  cases hf : l.findIdx? p with
  | none => rw [hf] at hloop; simp [code219, Tryz.f219, hloop]
  | some i => rw [hf] at hloop; simp [code219, Tryz.f219, hloop]

theorem idxK_any (p : Kd → Bool) (l : List Kd) : decide (0 ≤ idxK p l) = l.any p := by
  unfold idxK
  cases hf : l.findIdx? p with
  | none =>
    have := List.findIdx?_eq_none_iff.1 hf
    have h2 : l.any p = false := by
      rw [List.any_eq_false]; intro x hx; simp [this x hx]
    rw [h2]; rfl
  | some i =>
    have h := List.findIdx?_eq_some_iff_getElem.1 hf
    obtain ⟨hi, hp, _⟩ := h
    have h2 : l.any p = true := List.any_eq_true.2 ⟨l[i], List.getElem_mem hi, hp⟩
    rw [h2]; simp

theorem any206_W (g : FuncId) (hg : g < 1000000000) (hov : hn.ownArg g = false) (hom : hn.ownMut g = false) (p : Kd → Bool) (l : List Kd) (hlen : l.length < 4611686018427387904) (hp : ∀ x ∈ l, ∀ H, W g [.p (encK x)] H = some (.ret (.p (.bool (p x))), H)) (H : Hp) :
    W 206 [.p (.sl (l.map encK)), .p (.fn g)] H = some (.ret (.p (.bool (l.any p))), H) := by
  refine W206_of rfl (by simp) ?_
  have h := fun H => idx219_W g hg hov hom p l hlen hp H
  rw [← idxK_any]
  simp [code206, Tryz.f206, h]
end Go.Vi
end

section
/- Vi: layer 5: syntax.isForm, CheckKind; kind.valid, Check. No conditions but those that stand with each. -/
namespace Go.Vi
open Go Go.Lib Go.Proofs
set_option maxRecDepth 100000
attribute [local simp] E_skip E_ret E_exit E_text E_draw E_seq E_cond E_block E_scope E_loop runOps runOp drawR slotsOf Hp.kept_zero runDraw runVF runX runV finV gate FlOK FlOK0 wantD exec fin opd look putF norm constD constC fieldAddrD loadD storeD opCall lenD binD isShift intP strP numD indexAddrD indexD D.pd? D.pds? sub capsOf callD argsD argD D.nf unP cellD mkF H00 cD_agg cD_pagg cD_int cD_bool cD_str cD_sl cD_lit cells_int
attribute [local simp] fnOut retOut resD retsD retD oneD D.noRefs D.noRef alone Hp.cut
attribute [local simp] cells_encK encK_agg box_encK

def Rec177 (n : Nat) : Prop := ∀ (u : Kd) (H : Hp), u.nodes < n → W 177 [.p (encK u)] H = some (.ret (.p (.bool u.shaped)), H)
theorem not207_W (n : Nat) (h : Rec177 n) (u : Kd) (H : Hp) (hu : u.nodes < n) : W 207 [.p (encK u)] H = some (.ret (.p (.bool (!u.shaped))), H) := by
  refine W207_of rfl (by simp) ?_
  have hr := fun H => h u H hu
  simp [code207, Tryz.f207, hr]
theorem any_not (k : Kd) : k.ps.any (fun u => !u.shaped) = !k.ps.all Kd.shaped := by
  induction k.ps with
  | nil => rfl
  | cons x r ih => simp [List.any_cons, List.all_cons, ih]

theorem one177_W (k : Kd) : E false ⟨0, 0⟩ 177 (cFst code177) (mkF 0 [.p (encK k)]) H00 = some (.normal, [(1, .ptr 0 0)], stK k) := by
  simp [cFst, code177, Tryz.f177, stK]
theorem two177_W (k : Kd) : E false ⟨0, 0⟩ 177 (cFst (cSnd code177)) [(1, .ptr 0 0)] (stK k) = some (.normal, [(1, .ptr 0 0), (3, .p (.bool k.plain))], stK k) := by
  unfold Kd.plain
  by_cases h1 : k.lo = 0 <;> by_cases h2 : k.hi = 0 <;> by_cases h3 : k.mo = 0 <;> simp [cFst, cSnd, code177, Tryz.f177, stK, h1, h2, h3]
theorem three177_W (k : Kd) (x : D) (hb : k.nodes < 4611686018427387904) (h : Rec177 k.nodes) : E false ⟨0, 0⟩ 177 (cFst (cSnd (cSnd code177))) [(1, .ptr 0 0), (3, x)] (stK k) =
    if k.ps.all Kd.shaped = true then some (.normal, [(1, .ptr 0 0), (3, x), (19, .p (.bool false))], stK k) else some (.ret, [(2, .p (.bool false))], stK k) := by
  have hl := ps_len k
  have ha := fun H => any206_W 207 (by decide) (by rfl) (by rfl) (fun u => !u.shaped) k.ps (by omega) (fun x hx H => not207_W k.nodes h x H (ps_nodes hx)) H
  rw [any_not] at ha
  cases hall : k.ps.all Kd.shaped <;> rw [hall] at ha <;> simp [cFst, cSnd, code177, Tryz.f177, stK, ha]
theorem rst177_W (k : Kd) (y : D) : E false ⟨0, 0⟩ 177 (cSnd (cSnd (cSnd code177))) [(1, .ptr 0 0), (3, .p (.bool k.plain)), (19, y)] (stK k) = some (.ret, [(2, .p (.bool k.own))], stK k) := by
  unfold Kd.own
  have z1 : ∀ n : Nat, ((n : Int) = 0) = (n = 0) := fun n => by simp
  have z2 : ∀ n : Nat, ((n : Int) = 1) = (n = 1) := fun n => by simp only [eq_iff_iff]; omega
  by_cases c1 : k.f = 1
  · have e := eq_true c1
    cases hp : k.plain <;> simp [cSnd, code177, Tryz.f177, stK, e, hp]
  have n1 := eq_false c1
  by_cases c3 : k.f = 3
  · have e := eq_true c3
    cases hp : k.plain <;> simp [cSnd, code177, Tryz.f177, stK, n1, e, hp]
  have n3 := eq_false c3
  by_cases c4 : k.f = 4
  · have e := eq_true c4
    cases hp : k.plain <;> simp [cSnd, code177, Tryz.f177, stK, n1, n3, e, hp]
  have n4 := eq_false c4
  by_cases c2 : k.f = 2
  · have e := eq_true c2
    have hr : (rangeB k.lo (-1000000000) 1000000000 && rangeB k.hi k.lo 1000000000) = (rangeB k.lo (-1000000000) 1000000000 && rangeB k.hi (-1000000000) 1000000000 && decide (k.lo ≤ k.hi)) := by
      unfold rangeB
      rw [Bool.eq_iff_iff]
      simp only [Bool.and_eq_true, decide_eq_true_eq]
      omega
    simp only [if_neg (show ¬ (k.f = 1 ∨ k.f = 3 ∨ k.f = 4) by omega), if_pos c2, hr]
    cases h1 : rangeB k.lo (-1000000000) 1000000000 <;> cases h2 : rangeB k.hi (-1000000000) 1000000000 <;> by_cases h4 : k.lo ≤ k.hi <;> by_cases h3 : k.mo = 0 <;> (first | have h3' := eq_false h3 | have h3' := eq_true h3) <;>
      simp [cSnd, code177, Tryz.f177, stK, n1, n3, n4, e, isInt187_W, h1, h2, h4, h3']
  have n2 := eq_false c2
  by_cases c5 : k.f = 5
  · have e := eq_true c5
    cases hp : k.plain <;> simp [cSnd, code177, Tryz.f177, stK, n1, n2, n3, n4, e, in188_W, hp]
  have n5 := eq_false c5
  by_cases c6 : k.f = 6
  · have e := eq_true c6
    by_cases h1 : k.lo = 0 <;> by_cases h2 : k.hi = 0 <;> (first | have h1' := eq_false h1 | have h1' := eq_true h1) <;> (first | have h2' := eq_false h2 | have h2' := eq_true h2) <;> cases h3 : rangeB k.mo 0 199 <;>
      simp [cSnd, code177, Tryz.f177, stK, n1, n2, n3, n4, n5, e, in188_W, h1', h2', h3] <;> (simp [h1, h2]; omega)
  · have n6 := eq_false c6
    simp [cSnd, code177, Tryz.f177, stK, n1, n2, n3, n4, n5, n6]

theorem isForm177_W (k : Kd) : ∀ (H : Hp), k.nodes < 4611686018427387904 → W 177 [.p (encK k)] H = some (.ret (.p (.bool k.shaped)), H) := by
  have key : ∀ (n : Nat) (k : Kd) (H : Hp), k.nodes ≤ n → k.nodes < 4611686018427387904 → W 177 [.p (encK k)] H = some (.ret (.p (.bool k.shaped)), H) := by
    intro n
    induction n with
    | zero => intro k H h _; have := nodes_pos k; omega
    | succ n ih =>
      intro k H hn hb
      refine W177_of rfl (by simp) ?_
      rw [shapedK_eq, E_cut (by rfl), one177_W]
      simp only
      rw [E_cut (by rfl), two177_W]
      simp only
      rw [E_cut (by rfl), three177_W k _ hb fun u H hu => ih u H (by omega) (by omega)]
      cases hall : k.ps.all Kd.shaped with
      | false => simp [stK]
      | true =>
        simp only [if_true, Bool.true_and]
        rw [rst177_W]
        simp [stK]
  exact fun H h => key k.nodes k H (Nat.le_refl _) h

theorem isKind141_W (k : Kd) (H : Hp) (hb : k.nodes < 4611686018427387904) : W 141 [.p (encK k)] H = some (.ret (.p (.bool k.valid)), H) := by
  refine W141_of rfl (by simp) ?_
  have h49 := fun H => nodes176_W k 20 6 H hb (by omega) (by omega) (by omega) (by omega)
  have hf' : decide (0 ≤ k.weigh 20 6) = k.fitK 20 6 := weighK_fit k 20 6
  have h67 := fun H => isForm177_W k H hb
  unfold Kd.valid
  cases hk : k.fitK 20 6 with
  | true =>
    rw [hk] at hf'
    have h0 : 0 ≤ k.weigh 20 6 := of_decide_eq_true hf'
    simp [code141, Tryz.f141, h49, h67, h0]
  | false =>
    rw [hk] at hf'
    have h0 : ¬ 0 ≤ k.weigh 20 6 := of_decide_eq_false hf'
    simp [code141, Tryz.f141, h49, h0]

/-- The error of what is as defined, or is not. -/
def errB (b : Bool) : Int := if b = true then 0 else 2
theorem refused108_W (b : Bool) (H : Hp) : W 108 [.p (.bool b)] H = some (.ret (.p (.int .i64 (errB b))), H) := by
  refine W108_of rfl (by simp) ?_
  cases b <;> simp [code108, Tryz.f108, errB]
theorem check94_W (k : Kd) (H : Hp) (hb : k.nodes < 4611686018427387904) : W 94 [.p (encK k)] H = some (.ret (.p (.int .i64 (errB k.valid))), H) := by
  refine W94_of rfl (by simp) ?_
  have h := fun H => isKind141_W k H hb
  simp [code94, Tryz.f94, h, refused108_W]
theorem valid60_W (k : Kd) (H : Hp) (hb : k.nodes < 4611686018427387904) : W 60 [.p (encK k)] H = some (.ret (.p (.bool k.valid)), H) := by
  refine W60_of rfl (by simp) ?_
  have h := fun H => check94_W k H hb
  cases hv : k.valid <;> simp [code60, Tryz.f60, h, hv, errB]
theorem check41_W (k : Kd) (H : Hp) (hb : k.nodes < 4611686018427387904) : W 41 [.p (encK k)] H = some (.ret (.p (.int .i64 (errB k.valid))), H) := by
  refine W41_of rfl (by simp) ?_
  have h := fun H => valid60_W k H hb
  cases hv : k.valid <;> simp [code41, Tryz.f41, h, hv, errB]
end Go.Vi
end

section
/- Vi: layer 5: swardref05.Equal; swardlaw05.none. No conditions but those that stand with each. -/
namespace Go.Vi
open Go Go.Lib Go.Proofs
set_option maxRecDepth 100000
attribute [local simp] E_skip E_ret E_exit E_text E_draw E_seq E_cond E_block E_scope E_loop runOps runOp drawR slotsOf Hp.kept_zero runDraw runVF runX runV finV gate FlOK FlOK0 wantD exec fin opd look putF norm constD constC fieldAddrD loadD storeD opCall lenD binD isShift intP strP numD indexAddrD indexD D.pd? D.pds? sub capsOf callD argsD argD D.nf unP cellD mkF H00 cD_agg cD_pagg cD_int cD_bool cD_str cD_sl cD_lit cells_int
attribute [local simp] fnOut retOut resD retsD retD oneD D.noRefs D.noRef alone Hp.cut
attribute [local simp] cells_encK encK_agg box_encK

/-- Two lists asked side by side. -/
def zipAll {α β : Type} (q : α → β → Bool) : List α → List β → Bool
  | a :: r, b :: s => q a b && zipAll q r s
  | _, _ => true
theorem zipAll_iff {α β : Type} (q : α → β → Bool) (d : α) (e : β) : ∀ (l : List α) (m : List β), l.length = m.length → (zipAll q l m = true ↔ ∀ i, i < l.length → q (l.getD i d) (m.getD i e) = true)
  | [], [], _ => by simp [zipAll]
  | a :: r, b :: s, h => by
    have ih := zipAll_iff q d e r s (by simpa using h)
    simp only [zipAll, Bool.and_eq_true, ih, List.length_cons]
    constructor
    · rintro ⟨h1, h2⟩ i hi
      cases i with
      | zero => simpa using h1
      | succ i => simpa using h2 i (by omega)
    · intro h
      exact ⟨by simpa using h 0 (by omega), fun i hi => by simpa using h (i + 1) (by omega)⟩
  | [], _ :: _, h => by simp at h
  | _ :: _, [], h => by simp at h
theorem range_all2 {α β : Type} (q : α → β → Bool) (d : α) (e : β) (l : List α) (m : List β) (h : l.length = m.length) : (List.range l.length).all (fun i => q (l.getD i d) (m.getD i e)) = zipAll q l m := by
  rw [Bool.eq_iff_iff, zipAll_iff q d e l m h, List.all_eq_true]
  simp only [List.mem_range]
abbrev kz : Kd := .mk 0 0 0 0 []
theorem getD_get {α : Type} {l : List α} {i : Nat} (h : i < l.length) (d : α) : l.getD i d = l[i] := by simp [List.getD_eq_getElem?_getD, h]

/-- Two kinds in variables. -/
def st2 (a b : Kd) : Hp := ⟨[bK a, bK b], []⟩
theorem eqbKs_zip : ∀ (l m : List Kd), eqbKs l m = (decide (l.length = m.length) && zipAll Kd.eqb l m)
  | [], [] => rfl
  | a :: r, b :: s => by
    simp only [eqbKs, zipAll, eqbKs_zip r s, List.length_cons]
    have e : decide (r.length + 1 = s.length + 1) = decide (r.length = s.length) := by
      rw [decide_eq_decide]; omega
    rw [e]
    cases a.eqb b <;> cases decide (r.length = s.length) <;> rfl
  | [], _ :: _ => by simp [eqbKs]
  | _ :: _, [] => by simp [eqbKs]
theorem eqbK_eq (a b : Kd) : a.eqb b = (a.f == b.f && a.lo == b.lo && a.hi == b.hi && a.mo == b.mo && decide (a.ps.length = b.ps.length) && zipAll Kd.eqb a.ps b.ps) := by
  obtain ⟨f, lo, hi, mo, ps⟩ := a
  obtain ⟨f', lo', hi', mo', ps'⟩ := b
  simp only [Kd.eqb, eqbKs_zip, Bool.and_assoc]
  rfl

def fr20 (i : Nat) : Fr := [(2, .ptr 0 0), (3, .ptr 1 0), (5, .p (.int .i64 i))]
def Rec20 (n : Nat) : Prop := ∀ (u v : Kd) (H : Hp), u.nodes < n → W 20 [.p (encK u), .p (encK v)] H = some (.ret (.p (.bool (u.eqb v))), H)
theorem loop20_ok (a b : Kd) (hn : a.nodes < 4611686018427387904) (hl : a.ps.length = b.ps.length) (hrec : Rec20 a.nodes) : loopO false ⟨0, 0⟩ 20 lp20_0 2 0 (fr20 0) (st2 a b) =
    some (if zipAll Kd.eqb a.ps b.ps = true then (.exit 0, [(2, .ptr 0 0), (3, .ptr 1 0), (5, .p (.int .i64 a.ps.length)), (45, .p (.bool false))], st2 a b) else (.ret, [(4, .p (.bool false))], st2 a b)) := by
  have hla := ps_len a
  rw [← range_all2 Kd.eqb kz kz a.ps b.ps hl]
  refine for_all (hd20_0) a.ps.length fr20 (st2 a b) _ (by simp) (by simp) ?_ (fun i hi => ?_) (F := fr20 0) (H := st2 a b) (by simp [cutD, fr20, frNo, st2, bK, blkNo])
  · simp [lp20_0, code20, Tryz.f20, fr20, st2, bK]
  · have hib : i < b.ps.length := by omega
    have hr := fun H => hrec a.ps[i] b.ps[i] H (ps_nodes (List.getElem_mem hi))
    have hw : IntKind.i64.wrap ((i : Int) + 1) = (i : Int) + 1 := wrap64 (by omega) (by omega)
    rw [getD_get hi, getD_get hib]
    cases hs : a.ps[i].eqb b.ps[i] with
    | true =>
      left
      refine ⟨rfl, fr20 (i + 1), st2 a b, ?_, by simp [cutD, fr20, frNo, st2, bK, blkNo]⟩
      simp [lp20_0, code20, Tryz.f20, fr20, st2, bK, hi, hib, hr, hs, hw]
    | false =>
      right
      refine ⟨rfl, ?_⟩
      simp [lp20_0, code20, Tryz.f20, fr20, st2, bK, hi, hib, hr, hs, hw]

theorem fst20_W (a b : Kd) : E false ⟨0, 0⟩ 20 (cFst code20) (mkF 0 [.p (encK a), .p (encK b)]) H00 = some (.normal, [(2, .ptr 0 0), (3, .ptr 1 0)], st2 a b) := by
  simp [cFst, code20, Tryz.f20, st2, bK]
theorem two20_W (a b : Kd) : E false ⟨0, 0⟩ 20 (cFst (cSnd code20)) [(2, .ptr 0 0), (3, .ptr 1 0)] (st2 a b) =
    if (a.f == b.f && a.lo == b.lo && a.hi == b.hi && a.mo == b.mo && decide (a.ps.length = b.ps.length)) = true then some (.normal, [(2, .ptr 0 0), (3, .ptr 1 0), (40, .p (.bool false))], st2 a b) else some (.ret, [(4, .p (.bool false))], st2 a b) := by
  have z : ((a.ps.length : Int) = b.ps.length) = (a.ps.length = b.ps.length) := by simp only [eq_iff_iff]; omega
  by_cases h1 : a.f = b.f
  · by_cases h2 : a.lo = b.lo
    · by_cases h3 : a.hi = b.hi
      · by_cases h4 : a.mo = b.mo
        · by_cases h5 : a.ps.length = b.ps.length <;> simp [cFst, cSnd, code20, Tryz.f20, st2, bK, h1, h2, h3, h4, h5, z]
        · simp [cFst, cSnd, code20, Tryz.f20, st2, bK, h1, h2, h3, h4]
      · simp [cFst, cSnd, code20, Tryz.f20, st2, bK, h1, h2, h3]
    · simp [cFst, cSnd, code20, Tryz.f20, st2, bK, h1, h2]
  · simp [cFst, cSnd, code20, Tryz.f20, st2, bK, h1]
theorem three20_W (a b : Kd) (x : D) (hn : a.nodes < 4611686018427387904) (hl : a.ps.length = b.ps.length) (hrec : Rec20 a.nodes) : E false ⟨0, 0⟩ 20 (cSnd (cSnd code20)) [(2, .ptr 0 0), (3, .ptr 1 0), (40, x)] (st2 a b) =
    some (.ret, [(4, .p (.bool (zipAll Kd.eqb a.ps b.ps)))], st2 a b) := by
  have hloop := loop20_ok a b hn hl hrec
  have h00 : ((0 : Nat) : Int) = 0 := rfl
  simp only [lp20_0, code20, Tryz.f20, fr20, st2, bK, h00] at hloop
  cases hz : zipAll Kd.eqb a.ps b.ps <;> rw [hz] at hloop <;> simp only [Bool.false_eq_true, if_false, if_true] at hloop <;> simp [cSnd, code20, Tryz.f20, st2, bK, hloop]
theorem equal20_W (a b : Kd) (H : Hp) (hb : a.nodes < 4611686018427387904) : W 20 [.p (encK a), .p (encK b)] H = some (.ret (.p (.bool (a.eqb b))), H) := by
  have key : ∀ (n : Nat) (a b : Kd) (H : Hp), a.nodes ≤ n → a.nodes < 4611686018427387904 → W 20 [.p (encK a), .p (encK b)] H = some (.ret (.p (.bool (a.eqb b))), H) := by
    intro n
    induction n with
    | zero => intro k b H h _; have := nodes_pos k; omega
    | succ n ih =>
      intro a b H hn hb
      refine W20_of rfl (by simp) ?_
      rw [eqbK_eq, E_cut (by rfl), fst20_W]
      simp only
      rw [E_cut (by rfl), two20_W]
      cases hc : (a.f == b.f && a.lo == b.lo && a.hi == b.hi && a.mo == b.mo && decide (a.ps.length = b.ps.length)) with
      | false => simp [st2]
      | true =>
        have hl : a.ps.length = b.ps.length := by
          simp only [Bool.and_eq_true, decide_eq_true_eq] at hc
          exact hc.2
        simp only [if_true, Bool.true_and]
        rw [three20_W a b _ hb hl fun u v H hu => ih u v H (by omega) (by omega)]
        simp [st2]
  exact key a.nodes a b H (Nat.le_refl _) hb

@[simp] theorem pl25 : placesOf Tryz.prog 25 = some [(0, 1), (1, 1), (2, 1), (3, 1), (4, 1)] := by kernel_rfl
theorem none18_W (k : Kd) (H : Hp) (hb : k.nodes < 4611686018427387904) : W 18 [.p (encK k)] H = some (.ret (.p (.bool (k.eqb kz))), H) := by
  refine W18_of rfl (by simp) ?_
  have h := fun H => equal20_W k kz H hb
  have e : encK kz = .agg [.int .i64 0, .int .i64 0, .int .i64 0, .int .i64 0, .sl []] := rfl
  rw [e] at h
  simp [code18, Tryz.f18, buildD, buildD.go, h]
end Go.Vi
end
