/- It is proved here what the program's functions that read and write texts compute, the first part; conditions stand with each. -/
import Derived.Test.YtapnoihkfocgkaaGreatDoorMZ
import Derived.Lib.ItoaNum
set_option linter.unusedVariables false
set_option linter.unusedSimpArgs false

section
/- Vi: the text of a value; what ref.read and value.Read make of a text, in plain words. No conditions. -/
namespace Go.Vi
open Go Go.Lib Go.Proofs

def S (l : List UInt8) : ByteArray := ⟨l.toArray⟩
theorem S_app (a b : List UInt8) : S a ++ S b = S (a ++ b) := by
  apply ByteArray.ext
  simp [S]
theorem S_size (a : List UInt8) : (S a).size = a.length := by
  show a.toArray.size = _
  simp
theorem S_of (t : ByteArray) : S t.data.toList = t := by cases t; simp [S]
theorem S_inj {a b : List UInt8} : S a = S b ↔ a = b := by simp [S]
theorem S_data (a : List UInt8) : (S a).data.toList = a := by simp [S]

def tru : List UInt8 := [116, 114, 117, 101]
def fls : List UInt8 := [102, 97, 108, 115, 101]
mutual
def txt : Val → List UInt8
  | .mk k n t ps =>
    if k = 1 then itoa n
    else if k = 2 then (if n = 1 then tru else fls)
    else if k = 3 then 34 :: (t.data.toList ++ [34])
    else if k = 4 then 40 :: (txtL ps ++ [41])
    else 123 :: (txtL ps ++ [125])
def txtL : List Val → List UInt8
  | [] => []
  | v :: r => txt v ++ sepd r
def sepd : List Val → List UInt8
  | [] => []
  | v :: r => 44 :: 32 :: (txt v ++ sepd r)
end

def digB (c : UInt8) : Bool := decide (48 ≤ c.toNat) && decide (c.toNat ≤ 57)
def wordB (c : UInt8) : Bool := c != 44 && c != 41 && c != 125
def noQ (c : UInt8) : Bool := c != 34
def dval : Int → List UInt8 → Int
  | n, [] => n
  | n, c :: r => dval (10 * n + ((c.toNat : Int) - 48)) r
def unsign : List UInt8 → List UInt8
  | [] => []
  | c :: r => if c = 45 then r else c :: r
def negB : List UInt8 → Bool
  | [] => false
  | c :: _ => decide (c = 45)
def sg (neg : Bool) (n : Int) : Int := if neg = true then -n else n
def numW (w : List UInt8) : Option Int :=
  if 10 < (unsign w).length then none
  else if (unsign w).all digB = true then
    if itoa (sg (negB w) (dval 0 (unsign w))) = w then some (sg (negB w) (dval 0 (unsign w))) else none
  else none
def plainV (w : List UInt8) : Option Val :=
  if w = tru then some (.mk 2 1 ⟨#[]⟩ [])
  else if w = fls then some (.mk 2 0 ⟨#[]⟩ [])
  else match numW w with
    | some n => if -1000000000 ≤ n ∧ n ≤ 1000000000 then some (.mk 1 n ⟨#[]⟩ []) else none
    | none => none
def skip2 : List UInt8 → Option (List UInt8)
  | a :: b :: r => if a = 44 ∧ b = 32 then some r else none
  | _ => none

def rlist (rd : List UInt8 → Int → Option (Val × List UInt8 × Int)) (en : UInt8) : Nat → Bool → List UInt8 → Int → Option (List Val × List UInt8 × Int)
  | 0, _, _, _ => none
  | _ + 1, _, [], _ => none
  | m + 1, fst, c :: r, left =>
    if c = en then some ([], r, left)
    else match (if fst = true then some (c :: r) else skip2 (c :: r)) with
      | none => none
      | some l1 =>
        match rd l1 left with
        | none => none
        | some (x, l2, q) =>
          match rlist rd en m false l2 q with
          | none => none
          | some (ps, l3, q2) => some (x :: ps, l3, q2)
def rread : Nat → List UInt8 → Int → Option (Val × List UInt8 × Int)
  | 0, _, _ => none
  | _ + 1, [], _ => none
  | d + 1, c :: r, left =>
    if left < 1 then none
    else if c = 34 then
      match r.dropWhile noQ with
      | [] => none
      | _ :: r2 => some (.mk 3 0 (S (r.takeWhile noQ)) [], r2, left - 1)
    else if c = 40 then
      match rlist (rread d) 41 (r.length + 1) true r (left - 1) with
      | none => none
      | some (ps, r2, q) => some (.mk 4 0 ⟨#[]⟩ ps, r2, q)
    else if c = 123 then
      match rlist (rread d) 125 (r.length + 1) true r (left - 1) with
      | none => none
      | some (ps, r2, q) => some (.mk 5 0 ⟨#[]⟩ ps, r2, q)
    else match plainV ((c :: r).takeWhile wordB) with
      | none => none
      | some v => some (v, (c :: r).dropWhile wordB, left - 1)

def pnum (l : List UInt8) : Option (Val × List UInt8) :=
  let ds := (unsign l).takeWhile digB
  if 1 ≤ ds.length ∧ ds.length ≤ 10 then some (.mk 1 (sg (negB l) (dval 0 ds)) ⟨#[]⟩ [], (unsign l).dropWhile digB) else none
def plist (pv : List UInt8 → Option (Val × List UInt8)) (en : UInt8) : Nat → Nat → List UInt8 → Option (List Val × List UInt8)
  | 0, _, _ => none
  | _ + 1, _, [] => none
  | m + 1, k, c :: r =>
    if c = en then some ([], r)
    else match (if k = 0 then some (c :: r) else skip2 (c :: r)) with
      | none => none
      | some l1 =>
        match pv l1 with
        | none => none
        | some (x, l2) =>
          if k + 1 ≤ 200 then
            match plist pv en m (k + 1) l2 with
            | none => none
            | some (ps, l3) => some (x :: ps, l3)
          else none
def pval : Nat → List UInt8 → Option (Val × List UInt8)
  | 0, _ => none
  | d + 1, l =>
    if tru.isPrefixOf l = true then some (.mk 2 1 ⟨#[]⟩ [], l.drop 4)
    else if fls.isPrefixOf l = true then some (.mk 2 0 ⟨#[]⟩ [], l.drop 5)
    else match l with
      | [] => none
      | c :: r =>
        if c = 34 then
          match r.dropWhile noQ with
          | [] => none
          | _ :: r2 => some (.mk 3 0 (S (r.takeWhile noQ)) [], r2)
        else if c = 40 then
          match plist (pval d) 41 (r.length + 1) 0 r with
          | none => none
          | some (ps, r2) => some (.mk 4 0 ⟨#[]⟩ ps, r2)
        else if c = 123 then
          match plist (pval d) 125 (r.length + 1) 0 r with
          | none => none
          | some (ps, r2) => some (.mk 5 0 ⟨#[]⟩ ps, r2)
        else pnum (c :: r)

/-! ### Numerals -/
theorem u8_of {k : Nat} (h : k < 10) : (UInt8.ofNat (48 + k)).toNat = 48 + k := by simp; omega
theorem dval_app : ∀ (a b : List UInt8) (n : Int), dval n (a ++ b) = dval (dval n a) b
  | [], b, n => rfl
  | c :: r, b, n => by simp only [List.cons_append, dval]; exact dval_app r b _
theorem dd_dig (u : Nat) : ∀ c ∈ decDigits u, digB c = true := by
  induction u using Nat.strongRecOn with
  | _ u ih =>
    intro c hc
    rw [decDigits] at hc
    split at hc
    · rename_i h
      have e : c = UInt8.ofNat (48 + u) := by simpa using hc
      simp only [digB, e, u8_of h, Bool.and_eq_true, decide_eq_true_eq]; omega
    · rename_i h
      rcases List.mem_append.1 hc with hc | hc
      · exact ih (u / 10) (by omega) c hc
      · have e : c = UInt8.ofNat (48 + u % 10) := by simpa using hc
        simp only [digB, e, u8_of (show u % 10 < 10 by omega), Bool.and_eq_true, decide_eq_true_eq]; omega
theorem dd_val (u : Nat) : dval 0 (decDigits u) = u := by
  induction u using Nat.strongRecOn with
  | _ u ih =>
    rw [decDigits]
    split
    · rename_i h
      simp only [dval, u8_of h]; omega
    · rename_i h
      rw [dval_app, ih (u / 10) (by omega)]
      simp only [dval, u8_of (show u % 10 < 10 by omega)]; omega
theorem dd_len : ∀ (k u : Nat), u < 10 ^ (k + 1) → (decDigits u).length ≤ k + 1
  | 0, u, h => by rw [decDigits, dif_pos (by simpa using h)]; simp
  | k + 1, u, h => by
    rw [decDigits]
    split
    · simp
    · have := dd_len k (u / 10) (by rw [Nat.pow_succ] at h; omega)
      rw [List.length_append]; simp; omega
theorem dd_pos (u : Nat) : 0 < (decDigits u).length := by
  rw [decDigits]
  split <;> simp
theorem dd_cons (u : Nat) : ∃ c r, decDigits u = c :: r ∧ digB c = true := by
  have h := dd_pos u
  have hd := dd_dig u
  cases hl : decDigits u with
  | nil => rw [hl] at h; simp at h
  | cons c r => exact ⟨c, r, rfl, hd c (by rw [hl]; simp)⟩
theorem dig_ne {c : UInt8} (h : digB c = true) (x : UInt8) (hx : digB x = false) : c ≠ x := fun e => by rw [e, hx] at h; cases h

theorem itoa_parts (n : Int) : negB (itoa n) = decide (n < 0) ∧ unsign (itoa n) = decDigits n.natAbs := by
  unfold itoa
  by_cases h : n < 0
  · rw [if_pos h]; simp [negB, unsign, h]
  · rw [if_neg h]
    obtain ⟨c, r, e, hd⟩ := dd_cons n.toNat
    have hc : c ≠ 45 := dig_ne hd 45 (by decide)
    rw [show n.natAbs = n.toNat by omega, e]
    simp [negB, unsign, hc, h]
theorem sg_abs (n : Int) : sg (decide (n < 0)) (n.natAbs : Int) = n := by
  unfold sg
  by_cases h : n < 0
  · rw [if_pos (by simp [h])]; omega
  · rw [if_neg (by simp [h])]; omega
theorem numW_itoa (n : Int) (h1 : -1000000000 ≤ n) (h2 : n ≤ 1000000000) : numW (itoa n) = some n := by
  obtain ⟨e1, e2⟩ := itoa_parts n
  have hl := dd_len 9 n.natAbs (by omega)
  unfold numW
  rw [e1, e2, if_neg (by omega), if_pos (List.all_eq_true.2 (dd_dig _)), dd_val, sg_abs, if_pos rfl]
theorem numW_is {w : List UInt8} {n : Int} (h : numW w = some n) : itoa n = w := by
  unfold numW at h
  split at h
  · cases h
  · split at h
    · split at h
      · rename_i e
        simp only [Option.some.injEq] at h
        rw [← h]; exact e
      · cases h
    · cases h

theorem tw_app {p : UInt8 → Bool} : ∀ (a r : List UInt8), (∀ c ∈ a, p c = true) → (∀ c r', r = c :: r' → p c = false) → (a ++ r).takeWhile p = a ∧ (a ++ r).dropWhile p = r
  | [], [], _, _ => ⟨rfl, rfl⟩
  | [], c :: r', _, h => by simp [h c r' rfl]
  | c :: a, r, h, h2 => by
    obtain ⟨i1, i2⟩ := tw_app a r (fun x hx => h x (by simp [hx])) h2
    simp [h c (by simp), i1, i2]

/-- What may follow a number or a truth. -/
def Ends' (r : List UInt8) : Prop := ∀ c r', r = c :: r' → wordB c = false
theorem ends_dig {r : List UInt8} (h : Ends' r) : ∀ c r', r = c :: r' → digB c = false := fun c r' e => by
  have := h c r' e
  simp only [wordB, Bool.and_eq_false_iff, bne_eq_false_iff_eq] at this
  rcases this with (h | h) | h <;> rw [h] <;> decide
theorem dig_word {c : UInt8} (h : digB c = true) : wordB c = true := by
  have h1 : c ≠ 44 := dig_ne h 44 (by decide)
  have h2 : c ≠ 41 := dig_ne h 41 (by decide)
  have h3 : c ≠ 125 := dig_ne h 125 (by decide)
  simp [wordB, h1, h2, h3]
theorem itoa_word (n : Int) : ∀ c ∈ itoa n, wordB c = true := by
  intro c hc
  unfold itoa at hc
  split at hc
  · rcases List.mem_cons.1 hc with rfl | hc
    · decide
    · exact dig_word (dd_dig _ c hc)
  · exact dig_word (dd_dig _ c hc)
theorem itoa_head (n : Int) : ∃ c r, itoa n = c :: r ∧ (c = 45 ∨ digB c = true) := by
  unfold itoa
  split
  · exact ⟨_, _, rfl, .inl rfl⟩
  · obtain ⟨c, r, e, h⟩ := dd_cons n.toNat
    exact ⟨c, r, e, .inr h⟩
theorem itoa_ne (n : Int) (x : UInt8) (hx : digB x = false) (h45 : x ≠ 45) : ∀ c r, itoa n = c :: r → c ≠ x := by
  intro c r e
  obtain ⟨c', r', e', h⟩ := itoa_head n
  rw [e] at e'
  injection e' with e1 e2
  subst e1
  rcases h with h | h
  · rw [h]; exact Ne.symm h45
  · exact dig_ne h x hx
theorem plainV_itoa (n : Int) (h1 : -1000000000 ≤ n) (h2 : n ≤ 1000000000) : plainV (itoa n) = some (.mk 1 n ⟨#[]⟩ []) := by
  unfold plainV
  have a := itoa_ne n 116 (by decide) (by decide)
  have b := itoa_ne n 102 (by decide) (by decide)
  have na : itoa n ≠ tru := fun e => a _ _ e rfl
  have nb : itoa n ≠ fls := fun e => b _ _ e rfl
  rw [if_neg na, if_neg nb, numW_itoa n h1 h2]
  simp only
  rw [if_pos ⟨h1, h2⟩]
theorem plainV_txt {w : List UInt8} {v : Val} (h : plainV w = some v) : txt v = w ∧ v.nodes = 1 ∧ ((w = tru ∧ v = .mk 2 1 ⟨#[]⟩ []) ∨ (w = fls ∧ v = .mk 2 0 ⟨#[]⟩ []) ∨ ∃ n : Int, -1000000000 ≤ n ∧ n ≤ 1000000000 ∧ v = .mk 1 n ⟨#[]⟩ [] ∧ itoa n = w) := by
  unfold plainV at h
  split at h
  · rename_i e
    simp only [Option.some.injEq] at h
    rw [← h, e]
    exact ⟨by simp [txt], nodes_leaf _ _ _, .inl ⟨rfl, rfl⟩⟩
  · split at h
    · rename_i e
      simp only [Option.some.injEq] at h
      rw [← h, e]
      exact ⟨by simp [txt], nodes_leaf _ _ _, .inr (.inl ⟨rfl, rfl⟩)⟩
    · split at h
      · rename_i n hn
        split at h
        · rename_i hb
          simp only [Option.some.injEq] at h
          rw [← h]
          have e := numW_is hn
          exact ⟨by simp [txt, e], nodes_leaf _ _ _, .inr (.inr ⟨n, hb.1, hb.2, rfl, e⟩)⟩
        · cases h
      · cases h

theorem pnum_itoa (n : Int) (r : List UInt8) (h1 : -1000000000 ≤ n) (h2 : n ≤ 1000000000) (hr : Ends' r) : pnum (itoa n ++ r) = some (.mk 1 n ⟨#[]⟩ [], r) := by
  have hu : unsign (itoa n ++ r) = decDigits n.natAbs ++ r ∧ negB (itoa n ++ r) = decide (n < 0) := by
    obtain ⟨e1, e2⟩ := itoa_parts n
    obtain ⟨c, r', e, _⟩ := itoa_head n
    rw [e] at e1 e2 ⊢
    refine ⟨?_, by simpa [negB] using e1⟩
    simp only [List.cons_append, unsign] at e2 ⊢
    split
    · rename_i hc; rw [if_pos hc] at e2; rw [e2]
    · rename_i hc; rw [if_neg hc] at e2; rw [← e2]; rfl
  obtain ⟨t1, t2⟩ := tw_app (p := digB) (decDigits n.natAbs) r (dd_dig _) (ends_dig hr)
  have hl := dd_len 9 n.natAbs (by omega)
  have hp := dd_pos n.natAbs
  unfold pnum
  simp only [hu.1, hu.2, t1, t2]
  rw [if_pos ⟨by omega, by omega⟩, dd_val, sg_abs]

/-! ### What ref.read gives is what is written -/
theorem dw_head {r x : List UInt8} {c : UInt8} (h : r.dropWhile noQ = c :: x) : c = 34 := by
  induction r with
  | nil => cases h
  | cons a r ih =>
    rw [List.dropWhile_cons] at h
    split at h
    · exact ih h
    · rename_i ha
      injection h with h1 h2
      subst h1
      simpa [noQ] using ha
theorem skip2_is {l r : List UInt8} (h : skip2 l = some r) : l = 44 :: 32 :: r := by
  unfold skip2 at h
  split at h
  · split at h
    · rename_i hc
      simp only [Option.some.injEq] at h
      rw [hc.1, hc.2, h]
    · cases h
  · cases h

def RR (rd : List UInt8 → Int → Option (Val × List UInt8 × Int)) : Prop := ∀ l left v r q, rd l left = some (v, r, q) → l = txt v ++ r ∧ q = left - v.nodes
theorem rlist_R {rd : List UInt8 → Int → Option (Val × List UInt8 × Int)} (hrd : RR rd) (en : UInt8) : ∀ (m : Nat) (fst : Bool) (l : List UInt8) (left : Int) (ps : List Val) (r : List UInt8) (q : Int),
    rlist rd en m fst l left = some (ps, r, q) → l = (if fst = true then txtL ps else sepd ps) ++ en :: r ∧ q = left - nodesL ps
  | 0, _, _, _, _, _, _, h => by cases h
  | m + 1, _, [], _, _, _, _, h => by cases h
  | m + 1, fst, c :: r0, left, ps, r, q, h => by
    unfold rlist at h
    split at h
    · rename_i hc
      simp only [Option.some.injEq, Prod.mk.injEq] at h
      obtain ⟨rfl, rfl, rfl⟩ := h
      subst hc
      refine ⟨by cases fst <;> simp [txtL, sepd], by simp [nodesL]⟩
    · split at h
      · cases h
      rename_i l1 hl1
      split at h
      · cases h
      rename_i x l2 q1 hx
      split at h
      · cases h
      rename_i ps2 l3 q2 hp
      simp only [Option.some.injEq, Prod.mk.injEq] at h
      obtain ⟨rfl, rfl, rfl⟩ := h
      obtain ⟨e1, e2⟩ := hrd _ _ _ _ _ hx
      obtain ⟨e3, e4⟩ := rlist_R hrd en m false l2 q1 ps2 l3 q2 hp
      rw [if_neg (by simp)] at e3
      refine ⟨?_, by simp only [nodesL]; omega⟩
      cases fst with
      | true =>
        simp only [if_true, Option.some.injEq] at hl1
        rw [hl1, e1, e3]; simp [txtL]
      | false =>
        simp only [Bool.false_eq_true, if_false] at hl1 ⊢
        rw [skip2_is hl1, e1, e3]; simp [sepd]
theorem rread_R : ∀ d : Nat, RR (rread d)
  | 0 => fun l left v r q h => by simp [rread] at h
  | d + 1 => fun l left v r q h => by
    cases l with
    | nil => simp [rread] at h
    | cons c r0 =>
      unfold rread at h
      split at h
      · cases h
      split at h
      · rename_i hc
        split at h
        · cases h
        · rename_i x r2 hd
          simp only [Option.some.injEq, Prod.mk.injEq] at h
          obtain ⟨rfl, rfl, rfl⟩ := h
          have := dw_head hd
          subst this; subst hc
          refine ⟨?_, by rw [nodes_leaf]⟩
          have e := List.takeWhile_append_dropWhile (p := noQ) (l := r0)
          rw [hd] at e
          simp [txt, S_data, e]
      split at h
      · rename_i hc
        split at h
        · cases h
        · rename_i ps r2 q2 hl
          simp only [Option.some.injEq, Prod.mk.injEq] at h
          obtain ⟨rfl, rfl, rfl⟩ := h
          obtain ⟨e1, e2⟩ := rlist_R (rread_R d) 41 _ _ _ _ _ _ _ hl
          subst hc
          refine ⟨?_, by simp only [Val.nodes]; omega⟩
          rw [e1]; simp [txt]
      split at h
      · rename_i hc
        split at h
        · cases h
        · rename_i ps r2 q2 hl
          simp only [Option.some.injEq, Prod.mk.injEq] at h
          obtain ⟨rfl, rfl, rfl⟩ := h
          obtain ⟨e1, e2⟩ := rlist_R (rread_R d) 125 _ _ _ _ _ _ _ hl
          subst hc
          refine ⟨?_, by simp only [Val.nodes]; omega⟩
          rw [e1]; simp [txt]
      · split at h
        · cases h
        · rename_i x hx
          simp only [Option.some.injEq, Prod.mk.injEq] at h
          obtain ⟨rfl, rfl, rfl⟩ := h
          obtain ⟨e1, e2, _⟩ := plainV_txt hx
          refine ⟨?_, by rw [e2]⟩
          rw [e1, List.takeWhile_append_dropWhile]

/-! ### What ref.read gives, value.Read gives -/
def AA (rd : List UInt8 → Int → Option (Val × List UInt8 × Int)) (pv : List UInt8 → Option (Val × List UInt8)) : Prop :=
  ∀ l left v r q, rd l left = some (v, r, q) → left ≤ 200 → pv l = some (v, r)
theorem rlist_A {rd : List UInt8 → Int → Option (Val × List UInt8 × Int)} {pv : List UInt8 → Option (Val × List UInt8)} (hr : RR rd) (ha : AA rd pv) (hz : ∀ l left v r q, rd l left = some (v, r, q) → 1 ≤ left) (en : UInt8) :
    ∀ (m : Nat) (fst : Bool) (k : Nat) (l : List UInt8) (left : Int) (ps : List Val) (r : List UInt8) (q : Int),
    rlist rd en m fst l left = some (ps, r, q) → (fst = true ↔ k = 0) → left + k ≤ 200 → plist pv en m k l = some (ps, r)
  | 0, _, _, _, _, _, _, _, h, _, _ => by cases h
  | m + 1, _, _, [], _, _, _, _, h, _, _ => by cases h
  | m + 1, fst, k, c :: r0, left, ps, r, q, h, hk, hb => by
    unfold rlist at h
    unfold plist
    split at h
    · rename_i hc
      rw [if_pos hc]
      simp only [Option.some.injEq, Prod.mk.injEq] at h
      obtain ⟨rfl, rfl, rfl⟩ := h
      rfl
    · rename_i hc
      rw [if_neg hc]
      split at h
      · cases h
      rename_i l1 hl1
      split at h
      · cases h
      rename_i x l2 q1 hx
      split at h
      · cases h
      rename_i ps2 l3 q2 hp
      simp only [Option.some.injEq, Prod.mk.injEq] at h
      obtain ⟨rfl, rfl, rfl⟩ := h
      obtain ⟨_, e2⟩ := hr _ _ _ _ _ hx
      have h1 := hz _ _ _ _ _ hx
      have hn := nodes_pos x
      have e1 : (if k = 0 then some (c :: r0) else skip2 (c :: r0)) = some l1 := by
        rw [← hl1]
        by_cases hk0 : k = 0
        · rw [if_pos hk0, if_pos (hk.2 hk0)]
        · rw [if_neg hk0, if_neg (fun e => hk0 (hk.1 e))]
      rw [e1]
      simp only [ha _ _ _ _ _ hx (by omega)]
      rw [if_pos (by omega), rlist_A hr ha hz en m false (k + 1) l2 q1 ps2 l3 q2 hp (by simp) (by omega)]
theorem rread_left {d : Nat} {l : List UInt8} {left : Int} {v : Val} {r : List UInt8} {q : Int} (h : rread d l left = some (v, r, q)) : 1 ≤ left := by
  cases d with
  | zero => simp [rread] at h
  | succ d =>
    cases l with
    | nil => simp [rread] at h
    | cons c r0 =>
      unfold rread at h
      split at h
      · cases h
      · omega
theorem dw_ends (l : List UInt8) : Ends' (l.dropWhile wordB) := by
  induction l with
  | nil => intro c r' e; cases e
  | cons a l ih =>
    intro c r' e
    rw [List.dropWhile_cons] at e
    split at e
    · exact ih c r' e
    · rename_i ha
      injection e with e1 e2
      subst e1
      simpa using ha
theorem pre_app (a l : List UInt8) : a.isPrefixOf (a ++ l) = true := by
  rw [List.isPrefixOf_iff_prefix]; exact List.prefix_append a l
theorem pre_no {a l : List UInt8} {x c : UInt8} (h : c ≠ x) : (x :: a).isPrefixOf (c :: l) = false := by
  simp [List.isPrefixOf, Ne.symm h]
theorem rread_A : ∀ d : Nat, AA (rread d) (pval d)
  | 0 => fun l left v r q h => by simp [rread] at h
  | d + 1 => fun l left v r q h hb => by
    cases l with
    | nil => simp [rread] at h
    | cons c r0 =>
      unfold rread at h
      unfold pval
      split at h
      · cases h
      by_cases c34 : c = 34
      · subst c34
        rw [if_pos rfl] at h
        rw [if_neg (by rw [tru, pre_no (by decide)]; simp), if_neg (by rw [fls, pre_no (by decide)]; simp)]
        simp only [if_true]
        split at h
        · cases h
        · simp only [Option.some.injEq, Prod.mk.injEq] at h
          obtain ⟨rfl, rfl, rfl⟩ := h
          simp [*]
      rw [if_neg c34] at h
      by_cases c40 : c = 40
      · subst c40
        rw [if_pos rfl] at h
        rw [if_neg (by rw [tru, pre_no (by decide)]; simp), if_neg (by rw [fls, pre_no (by decide)]; simp)]
        simp only [if_neg c34, if_true]
        split at h
        · cases h
        · rename_i ps r2 q2 hl
          simp only [Option.some.injEq, Prod.mk.injEq] at h
          obtain ⟨rfl, rfl, rfl⟩ := h
          rw [rlist_A (rread_R d) (rread_A d) (fun l left v r q h => rread_left h) 41 _ true 0 _ _ _ _ _ hl (by simp) (by omega)]
      rw [if_neg c40] at h
      by_cases c123 : c = 123
      · subst c123
        rw [if_pos rfl] at h
        rw [if_neg (by rw [tru, pre_no (by decide)]; simp), if_neg (by rw [fls, pre_no (by decide)]; simp)]
        simp only [if_neg c34, if_neg c40, if_true]
        split at h
        · cases h
        · rename_i ps r2 q2 hl
          simp only [Option.some.injEq, Prod.mk.injEq] at h
          obtain ⟨rfl, rfl, rfl⟩ := h
          rw [rlist_A (rread_R d) (rread_A d) (fun l left v r q h => rread_left h) 125 _ true 0 _ _ _ _ _ hl (by simp) (by omega)]
      rw [if_neg c123] at h
      split at h
      · cases h
      · rename_i x hx
        simp only [Option.some.injEq, Prod.mk.injEq] at h
        obtain ⟨rfl, rfl, rfl⟩ := h
        have e0 := List.takeWhile_append_dropWhile (p := wordB) (l := c :: r0)
        have he := dw_ends (c :: r0)
        obtain ⟨_, _, ht | ht | ⟨n, h1, h2, rfl, ht⟩⟩ := plainV_txt hx
        · rw [ht.1] at e0
          rw [ht.2]
          generalize (c :: r0).dropWhile wordB = r1 at *
          rw [← e0, pre_app, if_pos rfl]; rfl
        · rw [ht.1] at e0
          rw [ht.2]
          generalize (c :: r0).dropWhile wordB = r1 at *
          rw [← e0]
          rw [if_neg (by rw [tru, fls, List.cons_append, pre_no (by decide)]; simp), pre_app, if_pos rfl]; rfl
        · rw [← ht] at e0
          generalize (c :: r0).dropWhile wordB = r1 at *
          obtain ⟨c', r', e, hc⟩ := itoa_head n
          have ec : c' = c := by
            rw [e, List.cons_append] at e0
            injection e0
          have n1 := itoa_ne n 116 (by decide) (by decide) c' r' e
          have n2 := itoa_ne n 102 (by decide) (by decide) c' r' e
          rw [ec] at n1 n2
          rw [if_neg (by rw [tru, pre_no n1]; simp), if_neg (by rw [fls, pre_no n2]; simp)]
          simp only [if_neg c34, if_neg c40, if_neg c123]
          rw [← e0]
          exact pnum_itoa n r1 h1 h2 he
end Go.Vi
end

section
/- Vi: what is written ref.read reads; ref.Read and value.Read in plain words answer alike. No conditions. -/
namespace Go.Vi
open Go Go.Lib Go.Proofs

theorem u8_ext {a b : UInt8} (h : a.toNat = b.toNat) : a = b := UInt8.toNat_inj.1 h
theorem noQ_letters {t : ByteArray} (h : letters t = true) : ∀ c ∈ t.data.toList, noQ c = true := by
  intro c hc
  simp only [letters, Bool.and_eq_true] at h
  have := List.all_eq_true.1 h.1 c hc
  simp only [okB] at this
  by_cases e : c = 34
  · subst e; revert this; decide
  · simp [noQ, e]

/-- What a shaped value looks like. -/
theorem shaped_k (v : Val) (h : v.shaped = true) :
    (∃ n : Int, v = .mk 1 n ⟨#[]⟩ [] ∧ -1000000000 ≤ n ∧ n ≤ 1000000000) ∨ (v = .mk 2 0 ⟨#[]⟩ []) ∨ (v = .mk 2 1 ⟨#[]⟩ []) ∨
    (∃ t, v = .mk 3 0 t [] ∧ letters t = true) ∨ (∃ ps, v = .mk 4 0 ⟨#[]⟩ ps ∧ ∀ u ∈ ps, u.shaped = true) ∨ (∃ ps, v = .mk 5 0 ⟨#[]⟩ ps ∧ ∀ u ∈ ps, u.shaped = true) := by
  have hm := shaped_mem h
  rw [shaped_eq, Bool.and_eq_true] at h
  cases v with
  | mk k n t ps =>
    have h2 := h.2
    simp only [k_mk, n_mk, t_mk, ps_mk] at h2 hm
    unfold own75 at h2
    split at h2
    · rename_i e; subst e
      simp only [inB, Bool.and_eq_true, decide_eq_true_eq] at h2
      obtain ⟨⟨h3, rfl⟩, h4⟩ := h2
      obtain rfl := List.eq_nil_of_length_eq_zero h4
      exact .inl ⟨n, rfl, by omega, by omega⟩
    split at h2
    · rename_i e; subst e
      simp only [inB, Bool.and_eq_true, decide_eq_true_eq] at h2
      obtain ⟨⟨h3, rfl⟩, h4⟩ := h2
      obtain rfl := List.eq_nil_of_length_eq_zero h4
      rcases (show n = 0 ∨ n = 1 by omega) with rfl | rfl
      · exact .inr (.inl rfl)
      · exact .inr (.inr (.inl rfl))
    split at h2
    · rename_i e; subst e
      simp only [Bool.and_eq_true, decide_eq_true_eq] at h2
      obtain ⟨⟨rfl, h3⟩, h4⟩ := h2
      obtain rfl := List.eq_nil_of_length_eq_zero h4
      exact .inr (.inr (.inr (.inl ⟨t, rfl, h3⟩)))
    split at h2
    · rename_i e; subst e
      simp only [Bool.and_eq_true, decide_eq_true_eq] at h2
      obtain ⟨⟨rfl, rfl⟩, h4⟩ := h2
      exact .inr (.inr (.inr (.inr (.inl ⟨ps, rfl, hm⟩))))
    split at h2
    · rename_i e; subst e
      simp only [Bool.and_eq_true, decide_eq_true_eq] at h2
      obtain ⟨_, rfl, rfl⟩ := h2
      exact .inr (.inr (.inr (.inr (.inr ⟨ps, rfl, hm⟩))))
    · cases h2
theorem depthL_nn : ∀ l : List Val, 0 ≤ depthL l
  | [] => Int.le_refl _
  | v :: r => by simp only [depthL]; have := depthL_nn r; omega


/-- A value's text does not begin with what ends a list. -/
theorem txt_head (v : Val) (h : v.shaped = true) (en : UInt8) (he : en = 41 ∨ en = 125) : ∃ c r, txt v = c :: r ∧ c ≠ en := by
  have ne : ∀ x : UInt8, x ≠ 41 → x ≠ 125 → x ≠ en := fun x h1 h2 e => by rcases he with rfl | rfl <;> contradiction
  rcases shaped_k v h with ⟨n, rfl, _⟩ | rfl | rfl | ⟨t, rfl, _⟩ | ⟨ps, rfl, _⟩ | ⟨ps, rfl, _⟩
  · obtain ⟨c, r, e, _⟩ := itoa_head n
    have h1 := itoa_ne n 41 (by decide) (by decide) c r e
    have h2 := itoa_ne n 125 (by decide) (by decide) c r e
    exact ⟨c, r, by simp [txt, e], ne c h1 h2⟩
  · exact ⟨102, [97, 108, 115, 101], by simp [txt, fls], ne _ (by decide) (by decide)⟩
  · exact ⟨116, [114, 117, 101], by simp [txt, tru], ne _ (by decide) (by decide)⟩
  · exact ⟨34, t.data.toList ++ [34], by simp [txt], ne _ (by decide) (by decide)⟩
  · exact ⟨40, txtL ps ++ [41], by simp [txt], ne _ (by decide) (by decide)⟩
  · exact ⟨123, txtL ps ++ [125], by simp [txt], ne _ (by decide) (by decide)⟩

theorem ends_en {en : UInt8} (he : en = 41 ∨ en = 125) (r : List UInt8) : Ends' (en :: r) := fun c r' e => by
  injection e with e1 e2
  subst e1
  rcases he with rfl | rfl <;> decide
theorem ends_sepd (ps : List Val) {en : UInt8} (he : en = 41 ∨ en = 125) (r : List UInt8) : Ends' (sepd ps ++ en :: r) := by
  cases ps with
  | nil => exact ends_en he r
  | cons p ps =>
    intro c r' e
    simp only [sepd, List.cons_append] at e
    injection e with e1 e2
    subst e1; decide

theorem sepd_two : ∀ l : List Val, 2 * l.length ≤ (sepd l).length
  | [] => Nat.le_refl _
  | v :: r => by have := sepd_two r; simp only [sepd, List.length_cons, List.length_append]; omega
def BB (d : Nat) (v : Val) : Prop := v.shaped = true → v.depth ≤ d → ∀ (r : List UInt8) (left : Int), Ends' r → v.nodes ≤ left → rread d (txt v ++ r) left = some (v, r, left - v.nodes)
theorem rlist_B (d : Nat) {en : UInt8} (he : en = 41 ∨ en = 125) : ∀ (ps : List Val), (∀ u ∈ ps, BB d u) → (∀ u ∈ ps, u.shaped = true) → depthL ps ≤ d →
    ∀ (m : Nat) (fst : Bool) (r : List UInt8) (left : Int), nodesL ps ≤ left → ps.length < m →
    rlist (rread d) en m fst ((if fst = true then txtL ps else sepd ps) ++ en :: r) left = some (ps, r, left - nodesL ps)
  | [], _, _, _, m, fst, r, left, _, hm => by
    obtain ⟨m, rfl⟩ : ∃ k, m = k + 1 := ⟨m - 1, by omega⟩
    cases fst <;> simp [rlist, txtL, sepd, nodesL]
  | p :: ps, hb, hs, hd, m, fst, r, left, hn, hm => by
    obtain ⟨m, rfl⟩ : ∃ k, m = k + 1 := ⟨m - 1, by omega⟩
    simp only [nodesL] at hn ⊢
    simp only [depthL] at hd
    have h0 := nodesL_pos ps
    have hp := hb p (by simp) (hs p (by simp)) (by omega) (sepd ps ++ en :: r) left (ends_sepd ps he r) (by omega)
    have ih := rlist_B d he ps (fun u hu => hb u (by simp [hu])) (fun u hu => hs u (by simp [hu])) (by omega) m false r (left - p.nodes) (by omega) (by simp only [List.length_cons] at hm; omega)
    simp only [Bool.false_eq_true, if_false] at ih
    obtain ⟨c, rt, e, hc⟩ := txt_head p (hs p (by simp)) en he
    have hne : (44 : UInt8) ≠ en := by rcases he with rfl | rfl <;> decide
    have hl : left - p.nodes - nodesL ps = left - (p.nodes + nodesL ps) := by omega
    cases fst with
    | true =>
      simp only [if_true, txtL, List.append_assoc]
      rw [e] at hp ⊢
      simp only [List.cons_append] at hp ⊢
      simp only [rlist, if_neg hc, if_true, hp, ih, hl]
    | false =>
      simp only [Bool.false_eq_true, if_false, sepd, List.cons_append, List.append_assoc]
      simp only [rlist, if_neg hne, Bool.false_eq_true, if_false, skip2, and_self, if_true, hp, ih, hl]

theorem rread_B : ∀ (d : Nat) (v : Val), BB d v
  | 0, v => fun _ hd => by
    exfalso
    cases v with
    | mk k n t ps =>
      have := depthL_nn ps
      simp only [Val.depth] at hd
      omega
  | d + 1, v => fun hs hd r left hr hl => by
    have hp := nodes_pos v
    rcases shaped_k v hs with ⟨n, rfl, h1, h2⟩ | rfl | rfl | ⟨t, rfl, ht⟩ | ⟨ps, rfl, hps⟩ | ⟨ps, rfl, hps⟩
    · rw [nodes_leaf] at hl ⊢
      have et : txt (.mk 1 n ⟨#[]⟩ []) = itoa n := by simp [txt]
      rw [et]
      obtain ⟨t1, t2⟩ := tw_app (p := wordB) (itoa n) r (itoa_word n) hr
      obtain ⟨c, r', e, _⟩ := itoa_head n
      have n1 := itoa_ne n 34 (by decide) (by decide) c r' e
      have n2 := itoa_ne n 40 (by decide) (by decide) c r' e
      have n3 := itoa_ne n 123 (by decide) (by decide) c r' e
      have hpv := plainV_itoa n h1 h2
      rw [e] at t1 t2 hpv ⊢
      simp only [List.cons_append] at t1 t2 ⊢
      unfold rread
      rw [if_neg (by omega), if_neg n1, if_neg n2, if_neg n3, t1, t2, hpv]
    · rw [nodes_leaf] at hl ⊢
      have et : txt (.mk 2 0 ⟨#[]⟩ []) = fls := by simp [txt]
      rw [et]
      obtain ⟨t1, t2⟩ := tw_app (p := wordB) fls r (by decide) hr
      have hpv : plainV fls = some (.mk 2 0 ⟨#[]⟩ []) := by unfold plainV; rw [if_neg (by decide), if_pos rfl]
      rw [fls] at t1 t2 hpv ⊢
      simp only [List.cons_append] at t1 t2 ⊢
      unfold rread
      rw [if_neg (by omega), if_neg (by decide), if_neg (by decide), if_neg (by decide), t1, t2, hpv]
    · rw [nodes_leaf] at hl ⊢
      have et : txt (.mk 2 1 ⟨#[]⟩ []) = tru := by simp [txt]
      rw [et]
      obtain ⟨t1, t2⟩ := tw_app (p := wordB) tru r (by decide) hr
      have hpv : plainV tru = some (.mk 2 1 ⟨#[]⟩ []) := by unfold plainV; rw [if_pos rfl]
      rw [tru] at t1 t2 hpv ⊢
      simp only [List.cons_append] at t1 t2 ⊢
      unfold rread
      rw [if_neg (by omega), if_neg (by decide), if_neg (by decide), if_neg (by decide), t1, t2, hpv]
    · rw [nodes_leaf] at hl ⊢
      have et : txt (.mk 3 0 t []) = 34 :: (t.data.toList ++ [34]) := by simp [txt]
      rw [et]
      obtain ⟨t1, t2⟩ := tw_app (p := noQ) t.data.toList (34 :: r) (noQ_letters ht) (fun c r' e => by injection e with e1 e2; subst e1; decide)
      simp only [List.cons_append, List.append_assoc, List.nil_append]
      unfold rread
      rw [if_neg (by omega), if_pos rfl, t1, t2, S_of]
    · simp only [Val.nodes] at hl ⊢
      simp only [Val.depth] at hd
      have et : txt (.mk 4 0 ⟨#[]⟩ ps) = 40 :: (txtL ps ++ [41]) := by simp [txt]
      rw [et]
      have h0 := nodesL_pos ps
      have hlen : ps.length < (txtL ps ++ 41 :: r).length + 1 := by
        cases ps with
        | nil => simp
        | cons p ps => have := sepd_two ps; simp [txtL]; omega
      have h := rlist_B d (en := 41) (.inl rfl) ps (fun u _ => rread_B d u) hps (by omega) ((txtL ps ++ 41 :: r).length + 1) true r (left - 1) (by omega) hlen
      rw [if_pos rfl] at h
      simp only [List.cons_append, List.append_assoc, List.nil_append]
      unfold rread
      rw [if_neg (by omega), if_neg (by decide), if_pos rfl, h]
      simp only
      rw [show left - 1 - nodesL ps = left - (1 + nodesL ps) by omega]
    · simp only [Val.nodes] at hl ⊢
      simp only [Val.depth] at hd
      have et : txt (.mk 5 0 ⟨#[]⟩ ps) = 123 :: (txtL ps ++ [125]) := by simp [txt]
      rw [et]
      have h0 := nodesL_pos ps
      have hlen : ps.length < (txtL ps ++ 125 :: r).length + 1 := by
        cases ps with
        | nil => simp
        | cons p ps => have := sepd_two ps; simp [txtL]; omega
      have h := rlist_B d (en := 125) (.inr rfl) ps (fun u _ => rread_B d u) hps (by omega) ((txtL ps ++ 125 :: r).length + 1) true r (left - 1) (by omega) hlen
      rw [if_pos rfl] at h
      simp only [List.cons_append, List.append_assoc, List.nil_append]
      unfold rread
      rw [if_neg (by omega), if_neg (by decide), if_neg (by decide), if_pos rfl, h]
      simp only
      rw [show left - 1 - nodesL ps = left - (1 + nodesL ps) by omega]

/-! ### Both answers -/
def pRead (b : List UInt8) : Option Val :=
  match pval 8 b with
  | none => none
  | some (v, _) => if v.valid = true ∧ txt v = b then some v else none
def rRead (b : List UInt8) : Option Val :=
  match rread 8 b 200 with
  | none => none
  | some (v, r, _) => if r = [] ∧ v.valid = true then some v else none
theorem rRead_is {b : List UInt8} {v : Val} (h : rRead b = some v) : v.valid = true ∧ txt v = b ∧ ∃ q, rread 8 b 200 = some (v, [], q) := by
  unfold rRead at h
  split at h
  · cases h
  · rename_i x r q hr
    split at h
    · rename_i hc
      simp only [Option.some.injEq] at h
      subst h
      obtain ⟨rfl, hv⟩ := hc
      have e := (rread_R 8 _ _ _ _ _ hr).1
      rw [List.append_nil] at e
      exact ⟨hv, e.symm, q, hr⟩
    · cases h
theorem rRead_of {b : List UInt8} {v : Val} (hv : v.valid = true) (ht : txt v = b) : rRead b = some v := by
  obtain ⟨⟨hn, hd⟩, hs⟩ := (valid_iff v).1 hv
  have h := rread_B 8 v hs (by omega) [] 200 (fun c r e => by cases e) hn
  rw [List.append_nil, ht] at h
  unfold rRead
  rw [h]
  simp only
  rw [if_pos ⟨trivial, hv⟩]
theorem read_same (b : List UInt8) : pRead b = rRead b := by
  cases hr : rRead b with
  | some v =>
    obtain ⟨hv, ht, q, hq⟩ := rRead_is hr
    have hp := rread_A 8 _ _ _ _ _ hq (by omega)
    unfold pRead
    rw [hp]
    simp only
    rw [if_pos ⟨hv, ht⟩]
  | none =>
    unfold pRead
    split
    · rfl
    · rename_i v r hp
      split
      · rename_i hc
        rw [rRead_of hc.1 hc.2] at hr
        cases hr
      · rfl
theorem pRead_txt {v : Val} (hv : v.valid = true) : pRead (txt v) = some v := by rw [read_same, rRead_of hv rfl]
end Go.Vi
end

section
/- Vi: value.text (f81), value.Print (f28). No conditions. -/
namespace Go.Vi
open Go Go.Lib Go.Proofs
set_option maxRecDepth 100000
attribute [local simp] E_skip E_ret E_exit E_text E_draw E_seq E_cond E_block E_scope E_loop runOps runOp runDraw runVF runV finV gate FlOK wantD exec fin opd look putF norm constD constC fieldAddrD loadD storeD opCall lenD binD isShift intP strP numD indexAddrD indexD D.pd? D.pds? cells_enc sub capsOf callD argsD argD D.nf enc_agg unP box_enc cellD mkF H00 st1 cD_agg cD_pagg cD_int cD_bool cD_str cD_sl cD_lit

theorem itoa118_W (n : Int) (h1 : -9223372036854775808 ≤ n) (h2 : n ≤ 9223372036854775807) (H : Hp) : W 118 [.p (.int .i64 n)] H = some (.ret (.p (.str (S (itoa n)))), H) := by
  refine calW_of ?_
  unfold calF
  rw [if_neg (by decide), if_pos (show others.is 118 = true from rfl)]
  show itoaD [.p (.int .i64 n)] H = _
  simp only [itoaD]
  rw [if_pos ⟨h1, h2⟩, itoaK_eq h1 h2]
  rfl

theorem S_34 : (⟨#[34]⟩ : ByteArray) = S [34] := rfl
theorem S_40 : (⟨#[40]⟩ : ByteArray) = S [40] := rfl
theorem S_41 : (⟨#[41]⟩ : ByteArray) = S [41] := rfl
theorem S_123 : (⟨#[123]⟩ : ByteArray) = S [123] := rfl
theorem S_125 : (⟨#[125]⟩ : ByteArray) = S [125] := rfl
theorem S_cm : (⟨#[44, 32]⟩ : ByteArray) = S [44, 32] := rfl
theorem S_nil : (⟨#[]⟩ : ByteArray) = S [] := rfl
theorem S_tru : (⟨#[116, 114, 117, 101]⟩ : ByteArray) = S tru := rfl
theorem S_fls : (⟨#[102, 97, 108, 115, 101]⟩ : ByteArray) = S fls := rfl

theorem fbool143_W (b : Bool) (H : Hp) : W 143 [.p (.bool b)] H = some (.ret (.p (.str (S (if b = true then tru else fls)))), H) := by
  refine W143_of rfl (by simp) ?_
  have key : E false ⟨0, 0⟩ 143 code143 (mkF 0 [.p (.bool b)]) H00 = some (.ret, [(2, .p (.str (S (if b = true then tru else fls))))], H00) := by
    cases b <;> simp [code143, Tryz.f143, S_tru, S_fls]
  rw [key]
  simp [fnOut, retOut, resD, retsD, retD, oneD, D.noRefs, D.noRef, alone, Hp.cut]
theorem fbool119_W (b : Bool) (H : Hp) : W 119 [.p (.bool b)] H = some (.ret (.p (.str (S (if b = true then tru else fls)))), H) := by
  refine W119_of rfl (by simp) ?_
  have h := fun H => fbool143_W b H
  have key : E false ⟨0, 0⟩ 119 code119 (mkF 0 [.p (.bool b)]) H00 = some (.ret, [(2, .p (.str (S (if b = true then tru else fls))))], H00) := by
    simp [code119, Tryz.f119, h]
  rw [key]
  simp [fnOut, retOut, resD, retsD, retD, oneD, D.noRefs, D.noRef, alone, Hp.cut]

/-! ### Sizes -/
theorem txt_eq (v : Val) : txt v = if v.k = 1 then itoa v.n else if v.k = 2 then (if v.n = 1 then tru else fls) else if v.k = 3 then 34 :: (v.t.data.toList ++ [34]) else if v.k = 4 then 40 :: (txtL v.ps ++ [41]) else 123 :: (txtL v.ps ++ [125]) := by
  cases v; rw [txt]; rfl
theorem itoa_len (n : Int) (h1 : -1000000000 ≤ n) (h2 : n ≤ 1000000000) : (itoa n).length ≤ 11 := by
  have hl := dd_len 9 n.natAbs (by omega)
  unfold itoa
  split
  · rw [List.length_cons]; omega
  · rw [show n.toNat = n.natAbs by omega]; omega
theorem txtL_sepd (l : List Val) : (txtL l).length ≤ (sepd l).length := by
  cases l with
  | nil => simp [txtL, sepd]
  | cons v r => simp [txtL, sepd]; omega
mutual
theorem txt_len : ∀ v : Val, v.shaped = true → ((txt v).length : Int) + 2 ≤ 24 * v.nodes
  | .mk k n t ps, h => by
    have hp := sepd_len ps (shaped_mem h)
    have h0 := nodesL_pos ps
    have ht := txtL_sepd ps
    have hn := nodes_eq (.mk k n t ps)
    rw [txt]
    generalize (Val.mk k n t ps).nodes = N at *
    simp only [k_mk, n_mk, t_mk, ps_mk] at hn ⊢
    rcases shaped_cases h with ⟨h1, h2⟩ | ⟨h1, h2⟩ | ⟨h1, h2, _, h3, _⟩ | ⟨h1, h2⟩ | ⟨h1, h2⟩ <;> simp only [k_mk, n_mk, t_mk, ps_mk] at h1 <;> simp only [h1, if_true]
    · simp only [n_mk] at h2
      have := itoa_len n h2.1 h2.2.1
      omega
    · simp only [Int.reduceEq, if_false]
      by_cases e : n = 1
      · rw [if_pos e]; simp [tru]; omega
      · rw [if_neg e]; simp [fls]; omega
    · simp only [k_mk, n_mk, t_mk, ps_mk] at h3
      have h4 : t.data.toList.length = t.size := rfl
      simp only [Int.reduceEq, if_false]
      simp only [List.length_cons, List.length_append, h4, List.length_nil]
      omega
    · simp; omega
    · simp; omega
theorem sepd_len : ∀ l : List Val, (∀ u ∈ l, u.shaped = true) → ((sepd l).length : Int) ≤ 24 * nodesL l
  | [], _ => by simp [sepd, nodesL]
  | v :: r, h => by
    have h1 := txt_len v (h v (by simp))
    have h2 := sepd_len r (fun u hu => h u (by simp [hu]))
    simp only [sepd, nodesL, List.length_append, List.length_cons]
    omega
end
theorem sepd_app : ∀ a b : List Val, sepd (a ++ b) = sepd a ++ sepd b
  | [], b => rfl
  | v :: r, b => by simp [sepd, sepd_app r b]
theorem txtL_app (a : List Val) (b : List Val) (ha : a ≠ []) : txtL (a ++ b) = txtL a ++ sepd b := by
  cases a with
  | nil => exact absurd rfl ha
  | cons v r => simp [txtL, sepd_app]
/-- The list's text with one more value. -/
theorem txtL_take (l : List Val) (i : Nat) (h : i < l.length) : txtL (l.take (i + 1)) = txtL (l.take i) ++ ((if i = 0 then [] else [44, 32]) ++ txt l[i]) := by
  rw [List.take_succ_eq_append_getElem h]
  by_cases hi : i = 0
  · subst hi; simp [txtL, sepd]
  · rw [txtL_app _ _ (by intro e; have h2 : (l.take i).length = i := (by rw [List.length_take]; omega); rw [e] at h2; simp at h2; omega), if_neg hi]; simp [sepd]
theorem txtL_take_len (l : List Val) (i : Nat) : (txtL (l.take i)).length ≤ (txtL l).length := by
  by_cases hi : l.take i = []
  · rw [hi]; simp [txtL]
  · have h := txtL_app (l.take i) (l.drop i) hi
    rw [List.take_append_drop] at h
    rw [h, List.length_append]; omega

/-! ### value.listed (f120), value.text (f81) -/
def fr120 (ps : List Val) (i : Nat) (s : List UInt8) : Fr := [(3, .p (.str (S s))), (6, .p (.sl (ps.map enc))), (7, .p (.int .i64 ps.length)), (8, .p (.int .i64 i))]
theorem body120_end (ps : List Val) (s : List UInt8) : E false ⟨0, 0⟩ 120 lp120_0 (fr120 ps ps.length s) H00 = some (.exit 0, fr120 ps ps.length s ++ [(9, .p (.bool false))], H00) := by
  simp [fr120, lp120_0, code120, Tryz.f120]
theorem body120_step (ps : List Val) (i : Nat) (s : List UInt8) (hlt : i < ps.length) (hlen : ps.length ≤ 1000000) (hb : s.length + (txt ps[i]).length ≤ 100000000)
    (hr : ∀ H, W 81 [.p (enc ps[i])] H = some (.ret (.p (.str (S (txt ps[i])))), H)) :
    E false ⟨0, 0⟩ 120 lp120_0 (fr120 ps i s) H00 = some (.normal, fr120 ps (i + 1) (s ++ ((if i = 0 then [] else [44, 32]) ++ txt ps[i])), ⟨[box25 ps[i]], []⟩) := by
  have hw : IntKind.i64.wrap ((i : Int) + 1) = (i : Int) + 1 := wrap64 (by omega) (by omega)
  have c1 : (s.length : Int) + ((txt ps[i]).length : Int) ≤ 9223372036854775807 := by omega
  by_cases h0 : i = 0
  · subst h0
    have b1 : s.length + (txt ps[0]).length ≤ 9223372036854775807 := by omega
    have w1 : IntKind.i64.wrap 1 = 1 := wrap64 (by omega) (by omega)
    simp [w1, fr120, lp120_0, code120, Tryz.f120, hlt, hr, z25', splice, box25, S_app, S_size, b1]
  · have hi : 0 < i := by omega
    have b1 : s.length + 2 ≤ 9223372036854775807 := by omega
    have b2 : s.length + 2 + (txt ps[i]).length ≤ 9223372036854775807 := by omega
    simp [fr120, lp120_0, code120, Tryz.f120, hlt, hw, hr, z25', splice, box25, h0, hi, S_cm, S_app, S_size, b1, b2]
theorem cut120 (ps : List Val) (ex : List Blk) (i : Nat) (s : List UInt8) (F : Fr) (hF : norm [3, 6, 7, 8] F = fr120 ps i s) : cutD ⟨0, 0⟩ [3, 6, 7, 8] 0 0 F ⟨ex, []⟩ = some (fr120 ps i s, H00) := by
  simp only [cutD, hF]
  simp [fr120, frNo, blkNo, D.noRefs, D.noRef, Hp.cut]
theorem loop120_ok (ps : List Val) (hlen : ps.length ≤ 1000000) (hb : (txtL ps).length ≤ 10000000) (hrec : ∀ u ∈ ps, ∀ H, W 81 [.p (enc u)] H = some (.ret (.p (.str (S (txt u)))), H)) :
    ∀ (m i : Nat) (F : Fr) (ex : List Blk), m = ps.length - i → i ≤ ps.length → norm [3, 6, 7, 8] F = fr120 ps i (txtL (ps.take i)) →
    loopO false ⟨0, 0⟩ 120 lp120_0 0 0 F ⟨ex, []⟩ = some (.exit 0, fr120 ps ps.length (txtL ps) ++ [(9, .p (.bool false))], H00) := by
  intro m
  induction m with
  | zero =>
    intro i F ex hm hi hF
    have hie : i = ps.length := by omega
    subst hie
    rw [loopO_eq, hd120_0, cut120 ps ex _ _ F hF]
    simp only [body120_end, List.take_length]
  | succ m ih =>
    intro i F ex hm hi hF
    have hlt : i < ps.length := by omega
    rw [loopO_eq, hd120_0, cut120 ps ex _ _ F hF]
    have hbd : (txtL (ps.take i)).length + (txt ps[i]).length ≤ 100000000 := by
      have h1 := txtL_take ps i hlt
      have h2 := txtL_take_len ps (i + 1)
      rw [h1, List.length_append, List.length_append] at h2
      omega
    simp only [body120_step ps i _ hlt hlen hbd (hrec ps[i] (List.getElem_mem hlt))]
    rw [← txtL_take ps i hlt]
    exact ih (i + 1) (fr120 ps (i + 1) (txtL (ps.take (i + 1)))) _ (by omega) (by omega) rfl
theorem listed_W (ps : List Val) (hlen : ps.length ≤ 1000000) (hb : (txtL ps).length ≤ 10000000) (hrec : ∀ u ∈ ps, ∀ H, W 81 [.p (enc u)] H = some (.ret (.p (.str (S (txt u)))), H)) (H : Hp) :
    W 120 [.p (.sl (ps.map enc))] H = some (.ret (.p (.str (S (txtL ps)))), H) := by
  refine W120_of rfl (by simp) ?_
  have hloop := loop120_ok ps hlen hb hrec ps.length 0 (fr120 ps 0 []) [] rfl (Nat.zero_le _) rfl
  have h00 : ((0 : Nat) : Int) = 0 := rfl
  have key : ∃ F, E false ⟨0, 0⟩ 120 code120 (mkF 0 [.p (.sl (ps.map enc))]) H00 = some (.ret, F, H00) ∧ look F 2 = .p (.str (S (txtL ps))) := by
    simp only [lp120_0, code120, Tryz.f120, fr120, h00, ← S_nil, H00] at hloop
    exact ⟨_, by simp [code120, Tryz.f120, hloop]; rfl, rfl⟩
  obtain ⟨F, key, hF⟩ := key
  rw [key]
  simp [fnOut, retOut, resD, hF, retsD, retD, oneD, D.noRefs, D.noRef, alone, Hp.cut]

theorem text_int (v : Val) (hv : v.k = 1) (h1 : -1000000000 ≤ v.n) (h2 : v.n ≤ 1000000000) (hk : v.kind = .ifc 119 (.agg [.int .i64 v.n])) :
    ∃ B, E false ⟨0, 0⟩ 81 code81 (mkF 0 [.p (enc v)]) H00 = some (.ret, [(2, .p (.str (S (itoa v.n))))], ⟨B, []⟩) := by
  have h117 := fun H => of_W v H
  rw [hk] at h117
  have h118 := fun H => itoa118_W v.n (by omega) (by omega) H
  obtain ⟨_, s119⟩ := us119
  exact ⟨_, by simp [code81, Tryz.f81, h117, h118, assertD, s119, z119, splice]; rfl⟩
theorem text_bool (v : Val) (hk : v.kind = .ifc 120 (.agg [.int .i64 v.n])) :
    ∃ B, E false ⟨0, 0⟩ 81 code81 (mkF 0 [.p (enc v)]) H00 = some (.ret, [(2, .p (.str (S (if v.n = 1 then tru else fls))))], ⟨B, []⟩) := by
  have h117 := fun H => of_W v H
  rw [hk] at h117
  have h119 := fun b H => fbool119_W b H
  obtain ⟨_, s119⟩ := us119
  obtain ⟨_, s120⟩ := us120
  exact ⟨_, by simp [code81, Tryz.f81, h117, h119, assertD, s119, s120, z119, z120, splice]; rfl⟩
theorem text_text (v : Val) (ht : v.t.size ≤ 20) (hk : v.kind = .ifc 123 (.agg [.str v.t])) :
    ∃ B, E false ⟨0, 0⟩ 81 code81 (mkF 0 [.p (enc v)]) H00 = some (.ret, [(2, .p (.str (S (34 :: (v.t.data.toList ++ [34])))))], ⟨B, []⟩) := by
  have h117 := fun H => of_W v H
  rw [hk] at h117
  have et := S_of v.t
  obtain ⟨_, s119⟩ := us119
  obtain ⟨_, s120⟩ := us120
  obtain ⟨_, s123⟩ := us123
  have e1 : (⟨#[34]⟩ : ByteArray) ++ v.t ++ ⟨#[34]⟩ = S (34 :: (v.t.data.toList ++ [34])) := by
    rw [S_34, ← et, S_app, S_app, S_data]; rfl
  have e2 : (⟨#[34]⟩ : ByteArray).size = 1 := rfl
  have e3 : 1 + v.t.size ≤ 9223372036854775807 := by omega
  have e4 : 1 + v.t.size + 1 ≤ 9223372036854775807 := by omega
  have e5 : ((⟨#[34]⟩ : ByteArray) ++ v.t).size = 1 + v.t.size := by rw [ByteArray.size_append]; rfl
  exact ⟨_, by simp [code81, Tryz.f81, h117, assertD, s119, s120, s123, z119, z120, z123, splice, e1, e2, e3, e4, e5]; rfl⟩
theorem text_list (v : Val) (T : TypeId) (a b : UInt8) (hkT : (T = 125 ∧ a = 40 ∧ b = 41) ∨ (T = 144 ∧ a = 123 ∧ b = 125)) (hk : v.kind = .ifc T (.agg [.sl (v.ps.map enc)])) (hb : (txtL v.ps).length ≤ 10000000)
    (h120 : ∀ H, W 120 [.p (.sl (v.ps.map enc))] H = some (.ret (.p (.str (S (txtL v.ps)))), H)) :
    ∃ B, E false ⟨0, 0⟩ 81 code81 (mkF 0 [.p (enc v)]) H00 = some (.ret, [(2, .p (.str (S (a :: (txtL v.ps ++ [b])))))], ⟨B, []⟩) := by
  have h117 := fun H => of_W v H
  rw [hk] at h117
  obtain ⟨_, s119⟩ := us119
  obtain ⟨_, s120⟩ := us120
  obtain ⟨_, s123⟩ := us123
  obtain ⟨_, s125⟩ := us125
  obtain ⟨_, s144⟩ := us144
  have z125 : zeroOf Tryz.prog 125 = some (.agg #[.slice none 0 0]) := by kernel_rfl
  have e3 : 1 + (txtL v.ps).length ≤ 9223372036854775807 := by omega
  have e4 : (txtL v.ps).length + 1 + 1 ≤ 9223372036854775807 := by omega
  have e5 : (txtL v.ps).length + 1 ≤ 9223372036854775807 := by omega
  rcases hkT with ⟨rfl, rfl, rfl⟩ | ⟨rfl, rfl, rfl⟩
  · exact ⟨_, by simp [code81, Tryz.f81, h117, h120, assertD, s119, s120, s123, s125, z119, z120, z123, z125, splice, S_40, S_41, S_app, S_size, e3, e4, e5]; rfl⟩
  · exact ⟨_, by simp [code81, Tryz.f81, h117, h120, assertD, s119, s120, s123, s144, z119, z120, z123, z125, splice, S_123, S_125, S_app, S_size, e3, e4, e5]; rfl⟩

theorem text_step (v : Val) (h : v.shaped = true) (hn : v.nodes ≤ 250) (hrec : ∀ u ∈ v.ps, ∀ H, W 81 [.p (enc u)] H = some (.ret (.p (.str (S (txt u)))), H)) (H : Hp) : W 81 [.p (enc v)] H = some (.ret (.p (.str (S (txt v)))), H) := by
  refine W81_of rfl (by simp) ?_
  have en := nodes_eq v
  have h0 := nodesL_len v.ps
  have hl := sepd_len v.ps (shaped_mem h)
  have hl2 := txtL_sepd v.ps
  rcases shaped_cases h with ⟨h1, h2, h3, h4, h5⟩ | ⟨h1, h2, h3, h4, h5⟩ | ⟨h1, h2, h3, h4, h5⟩ | ⟨h1, h2, h3, h4, h5⟩ | ⟨h1, h2, h3, h4⟩
  · have hk : v.kind = .ifc 119 (.agg [.int .i64 v.n]) := by simp [Val.kind, h1, h4, h5]
    obtain ⟨B, key⟩ := text_int v h1 h2 h3 hk
    have et : txt v = itoa v.n := by rw [txt_eq, if_pos h1]
    rw [key, et]
    simp [fnOut, retOut, resD, look, retsD, retD, argD, D.nf, D.pd?, oneD, D.noRefs, D.noRef, alone, Hp.cut]
  · have hk : v.kind = .ifc 120 (.agg [.int .i64 v.n]) := by simp [Val.kind, h1, h4, h5]
    obtain ⟨B, key⟩ := text_bool v hk
    have et : txt v = if v.n = 1 then tru else fls := by rw [txt_eq, if_neg (by omega), if_pos h1]
    rw [key, et]
    simp [fnOut, retOut, resD, look, retsD, retD, argD, D.nf, D.pd?, oneD, D.noRefs, D.noRef, alone, Hp.cut]
  · have hk : v.kind = .ifc 123 (.agg [.str v.t]) := by simp [Val.kind, h1, h2, h5]
    obtain ⟨B, key⟩ := text_text v h4 hk
    have et : txt v = 34 :: (v.t.data.toList ++ [34]) := by rw [txt_eq, if_neg (by omega), if_neg (by omega), if_pos h1]
    rw [key, et]
    simp [fnOut, retOut, resD, look, retsD, retD, argD, D.nf, D.pd?, oneD, D.noRefs, D.noRef, alone, Hp.cut]
  · have hk : v.kind = .ifc 125 (.agg [.sl (v.ps.map enc)]) := by simp [Val.kind, h1, h2, h3]
    obtain ⟨B, key⟩ := text_list v 125 40 41 (.inl ⟨rfl, rfl, rfl⟩) hk (by omega) (fun H => listed_W v.ps (by omega) (by omega) hrec H)
    have et : txt v = 40 :: (txtL v.ps ++ [41]) := by rw [txt_eq, if_neg (by omega), if_neg (by omega), if_neg (by omega), if_pos h1]
    rw [key, et]
    simp [fnOut, retOut, resD, look, retsD, retD, argD, D.nf, D.pd?, oneD, D.noRefs, D.noRef, alone, Hp.cut]
  · have hk : v.kind = .ifc 144 (.agg [.sl (v.ps.map enc)]) := by simp [Val.kind, h1, h2, h3]
    obtain ⟨B, key⟩ := text_list v 144 123 125 (.inr ⟨rfl, rfl, rfl⟩) hk (by omega) (fun H => listed_W v.ps (by omega) (by omega) hrec H)
    have et : txt v = 123 :: (txtL v.ps ++ [125]) := by rw [txt_eq, if_neg (by omega), if_neg (by omega), if_neg (by omega), if_neg (by omega)]
    rw [key, et]
    simp [fnOut, retOut, resD, look, retsD, retD, argD, D.nf, D.pd?, oneD, D.noRefs, D.noRef, alone, Hp.cut]
mutual
theorem text_W : ∀ v : Val, v.shaped = true → v.nodes ≤ 250 → ∀ H, W 81 [.p (enc v)] H = some (.ret (.p (.str (S (txt v)))), H)
  | .mk k n t ps, h, hn => text_step (.mk k n t ps) h hn (texts_W ps (shaped_mem h) (by have := nodes_eq (.mk k n t ps); simp only [ps_mk] at this; omega))
theorem texts_W : ∀ l : List Val, (∀ u ∈ l, u.shaped = true) → nodesL l ≤ 250 → ∀ u ∈ l, ∀ H, W 81 [.p (enc u)] H = some (.ret (.p (.str (S (txt u)))), H)
  | [], _, _, u, hu => by cases hu
  | v :: r, h, hn, u, hu => by
    have h1 := nodes_pos v
    have h2 := nodesL_pos r
    simp only [nodesL] at hn
    rcases List.mem_cons.1 hu with e | hu
    · rw [e]; exact text_W v (h v (by simp)) (by omega)
    · exact texts_W r (fun x hx => h x (by simp [hx])) (by omega) u hu
end

theorem print28_W (v : Val) (H : Hp) : W 28 [.p (enc v)] H = some (.ret (.tup (if v.valid = true then [.p (.str (S (txt v))), .p (.int .i64 0)] else [.p (.str (S [])), .p (.int .i64 2)])), H) := by
  refine W28_of rfl (by simp) ?_
  have h1 := fun H => valid71_W v H
  cases hv : v.valid with
  | false =>
    rw [hv] at h1
    have key : E false ⟨0, 0⟩ 28 code28 (mkF 0 [.p (enc v)]) H00 = some (.ret, [(2, .p (.str (S []))), (3, .p (.int .i64 2))], ⟨[box25 v], []⟩) := by
      simp [code28, Tryz.f28, box25, h1, S_nil]
    rw [key]
    simp [fnOut, retOut, resD, look, retsD, retD, argD, D.nf, D.pd?, oneD, D.noRefs, D.noRef, alone, Hp.cut]
  | true =>
    rw [hv] at h1
    have h2 := fun H => text_W v (valid_shaped hv) (by have := (valid_fine hv).2; omega) H
    have key : E false ⟨0, 0⟩ 28 code28 (mkF 0 [.p (enc v)]) H00 = some (.ret, [(2, .p (.str (S (txt v)))), (3, .p (.int .i64 0))], ⟨[box25 v], []⟩) := by
      simp [code28, Tryz.f28, box25, h1, h2]
    rw [key]
    simp [fnOut, retOut, resD, look, retsD, retD, argD, D.nf, D.pd?, oneD, D.noRefs, D.noRef, alone, Hp.cut]
end Go.Vi
end

section
/- Vi: ref.digit (f132), ref.Decimal (f96), ref.Print (f48). No conditions. -/
namespace Go.Vi
open Go Go.Lib Go.Proofs
set_option maxRecDepth 100000
/-! ### f160: sward/swardref01.number -/
@[simp] theorem k160_0 : ch.keep 160 0 = [0, 1] := by kernel_rfl
@[simp] theorem k160_1 : ch.keep 160 1 = [0, 1, 6] := by kernel_rfl
@[simp] theorem k160_2 : ch.keep 160 2 = [0, 1, 6, 16] := by kernel_rfl
@[simp] theorem k160_3 : ch.keep 160 3 = [0, 1, 6] := by kernel_rfl
@[simp] theorem k160_4 : ch.keep 160 4 = [0, 6, 22] := by kernel_rfl
@[simp] theorem k160_5 : ch.keep 160 5 = [4, 5] := by kernel_rfl
@[simp] theorem k160_6 : ch.keep 160 6 = [0, 6, 7] := by kernel_rfl
@[simp] theorem k160_7 : ch.keep 160 7 = [0, 6, 7, 8] := by kernel_rfl
@[simp] theorem k160_8 : ch.keep 160 8 = [0, 6, 7, 8, 27] := by kernel_rfl
@[simp] theorem k160_9 : ch.keep 160 9 = [0, 6, 7, 8] := by kernel_rfl
@[simp] theorem k160_10 : ch.keep 160 10 = [0, 6, 7, 8, 39] := by kernel_rfl
@[simp] theorem k160_11 : ch.keep 160 11 = [4, 5] := by kernel_rfl
@[simp] theorem k160_12 : ch.keep 160 12 = [0, 6, 7, 8] := by kernel_rfl
@[simp] theorem k160_13 : ch.keep 160 13 = [0, 7, 49] := by kernel_rfl
@[simp] theorem k160_14 : ch.keep 160 14 = [0, 7] := by kernel_rfl
@[simp] theorem k160_15 : ch.keep 160 15 = [4, 5] := by kernel_rfl
noncomputable def code160 : Code := match Tryz.f160.body with | some c => c | none => .skip
noncomputable def lp160_0 : Code := match code160 with | .seq _ (.seq _ (.seq _ (.seq _ (.seq _ (.seq (.seq _ (.block _ (.loop c))) _))))) => c | c => c
theorem hd160_0 : ch.head 160 (firstR lp160_0) = [0, 6, 7, 8] := by kernel_rfl
theorem rs160 : Tryz.f160.results.toList = [.tmp 4, .tmp 5] := rfl
theorem W160_of {args : List D} (ha : args.all (D.noRef 0 0) = true) (hl : args.length ≤ 57) {H : Hp} {o : Out × Hp}
    (h : alone H (fnOut Tryz.prog [.tmp 4, .tmp 5] 0 0 (E false ⟨0, 0⟩ 160 code160 (mkF 0 args) H00)) = some o) : W 160 args H = some o :=
  W_of Tryz.func160 rfl (by kernel_rfl) rfl rfl ha (by rw [Tryz.ntmps160]; exact hl) h
attribute [local simp] E_skip E_ret E_exit E_text E_draw E_seq E_cond E_block E_scope E_loop runOps runOp runDraw runVF runV finV gate FlOK wantD exec fin opd look putF norm constD constC fieldAddrD loadD storeD opCall lenD binD isShift intP strP numD indexAddrD indexD D.pd? D.pds? cells_enc sub capsOf callD argsD argD D.nf enc_agg unP box_enc cellD mkF H00 st1 cD_agg cD_pagg cD_int cD_bool cD_str cD_sl cD_lit

theorem dig_cut (k : Nat) (h : k < 10) : (⟨#[48, 49, 50, 51, 52, 53, 54, 55, 56, 57]⟩ : ByteArray).extract k (k + 1) = S [UInt8.ofNat (48 + k)] := by
  have : ∀ j : Fin 10, (⟨#[48, 49, 50, 51, 52, 53, 54, 55, 56, 57]⟩ : ByteArray).extract j.val (j.val + 1) = S [UInt8.ofNat (48 + j.val)] := by decide +kernel
  exact this ⟨k, h⟩
theorem dig_size : (⟨#[48, 49, 50, 51, 52, 53, 54, 55, 56, 57]⟩ : ByteArray).size = 10 := rfl
theorem digit_W (k : Nat) (h : k < 10) (H : Hp) : W 132 [.p (.int .i64 k)] H = some (.ret (.p (.str (S [UInt8.ofNat (48 + k)]))), H) := by
  refine W132_of rfl (by simp) ?_
  have hw : IntKind.i64.wrap ((k : Int) + 1) = (k : Int) + 1 := wrap64 (by omega) (by omega)
  have c1 : 0 ≤ (k : Int) ∧ (k : Int) ≤ k + 1 ∧ (k : Int) + 1 ≤ 10 := ⟨by omega, by omega, by omega⟩
  have c2 : (k : Int) + 1 ≤ 10 := by omega
  have c3 : ((k : Int) + 1).toNat = k + 1 := by omega
  have c4 : (k : Int) ≤ k + 1 := by omega
  have e := dig_cut k h
  have key : E false ⟨0, 0⟩ 132 code132 (mkF 0 [.p (.int .i64 k)]) H00 = some (.ret, [(2, .p (.str (S [UInt8.ofNat (48 + k)])))], H00) := by
    simp [code132, Tryz.f132, sliceD, boundD, hw, c2, c3, c4, e, dig_size]
  rw [key]
  simp [fnOut, retOut, resD, retsD, retD, oneD, D.noRefs, D.noRef, alone, Hp.cut]

def fr96 (n r : Int) (s : List UInt8) : Fr := [(0, .p (.int .i64 n)), (3, .p (.str (S s))), (4, .p (.int .i64 r))]
theorem body96 (n r : Int) (s : List UInt8) (h1 : -9223372036854775808 < r) (h2 : r ≤ 9223372036854775807) (hs : s.length ≤ 1000) :
    E false ⟨0, 0⟩ 96 lp96_0 (fr96 n r s) H00 = if r.natAbs < 10 then some (.exit 0, fr96 n r (UInt8.ofNat (48 + r.natAbs % 10) :: s) ++ [(20, .p (.bool true))], H00)
      else some (.normal, fr96 n (r.tdiv 10) (UInt8.ofNat (48 + r.natAbs % 10) :: s), H00) := by
  have hd := fun H => digit_W (r.natAbs % 10) (by omega) H
  have nd : (r.tdiv 10).natAbs = r.natAbs / 10 := by rw [Int.natAbs_tdiv]; rfl
  have q0 : r.tdiv 10 = 0 ↔ r.natAbs < 10 := by rw [← Int.natAbs_eq_zero, nd]; omega
  have mb : (r.tmod 10).natAbs = r.natAbs % 10 := by rw [Int.natAbs_tmod]; rfl
  obtain ⟨q, hq⟩ : ∃ q, r.tdiv 10 = q := ⟨_, rfl⟩
  obtain ⟨a, ha⟩ : ∃ a, r.tmod 10 = a := ⟨_, rfl⟩
  rw [hq] at nd q0 ⊢
  rw [ha] at mb
  have w1 : IntKind.i64.wrap q = q := wrap64 (by omega) (by omega)
  have w2 : IntKind.i64.wrap (-a) = -a := wrap64 (by omega) (by omega)
  have b1 : 1 + s.length ≤ 9223372036854775807 := by omega
  obtain ⟨d, hd0⟩ : ∃ d, r.natAbs % 10 = d := ⟨_, rfl⟩
  rw [hd0] at mb hd ⊢
  have key : (if a < -a then -a else a) = (d : Int) := by split <;> omega
  by_cases hlt : a < -a
  · rw [if_pos hlt] at key
    rw [← key] at hd
    by_cases h : r.natAbs < 10
    · have hz := q0.2 h
      have w0 : IntKind.i64.wrap 0 = 0 := wrap64 (by omega) (by omega)
      rw [if_pos h]
      simp only [fr96, lp96_0, code96, Tryz.f96]
      simp [hq, ha, w1, w2, w0, hlt, hd, hz, S_app, S_size, b1]
    · have hz : ¬ q = 0 := fun e => h (q0.1 e)
      rw [if_neg h]
      simp only [fr96, lp96_0, code96, Tryz.f96]
      simp [hq, ha, w1, w2, hlt, hd, hz, S_app, S_size, b1]
  · rw [if_neg hlt] at key
    rw [← key] at hd
    by_cases h : r.natAbs < 10
    · have hz := q0.2 h
      have w0 : IntKind.i64.wrap 0 = 0 := wrap64 (by omega) (by omega)
      rw [if_pos h]
      simp only [fr96, lp96_0, code96, Tryz.f96]
      simp [hq, ha, w1, w2, w0, hlt, hd, hz, S_app, S_size, b1]
    · have hz : ¬ q = 0 := fun e => h (q0.1 e)
      rw [if_neg h]
      simp only [fr96, lp96_0, code96, Tryz.f96]
      simp [hq, ha, w1, w2, hlt, hd, hz, S_app, S_size, b1]
theorem cut96 (n r : Int) (s : List UInt8) (F : Fr) (hF : norm [0, 3, 4] F = fr96 n r s) : cutD ⟨0, 0⟩ [0, 3, 4] 0 0 F H00 = some (fr96 n r s, H00) := by
  simp only [cutD, hF]
  simp [fr96, frNo, blkNo, D.noRefs, D.noRef, Hp.cut]
theorem loop96 (n : Int) : ∀ (u : Nat) (r : Int) (s : List UInt8) (F : Fr), r.natAbs = u → -9223372036854775808 < r → r ≤ 9223372036854775807 → s.length + (decDigits u).length ≤ 100 → norm [0, 3, 4] F = fr96 n r s →
    ∃ r', loopO false ⟨0, 0⟩ 96 lp96_0 0 0 F H00 = some (.exit 0, fr96 n r' (decDigits u ++ s) ++ [(20, .p (.bool true))], H00) := by
  intro u
  induction u using Nat.strongRecOn with
  | _ u ih =>
    intro r s F hu h1 h2 hs hF
    rw [loopO_eq, hd96_0, cut96 n r s F hF]
    simp only [body96 n r s h1 h2 (by omega)]
    rw [decDigits] at hs ⊢
    by_cases h : u < 10
    · rw [dif_pos h]
      refine ⟨r, ?_⟩
      rw [hu, if_pos h, Nat.mod_eq_of_lt h]
      rfl
    · rw [dif_neg h] at hs ⊢
      rw [hu, if_neg h]
      have e : (r.tdiv 10).natAbs = u / 10 := by rw [Int.natAbs_tdiv, hu]; rfl
      rw [List.length_append] at hs
      obtain ⟨r', ih⟩ := ih (u / 10) (by omega) (r.tdiv 10) (UInt8.ofNat (48 + u % 10) :: s) (fr96 n (r.tdiv 10) (UInt8.ofNat (48 + u % 10) :: s)) e (by omega) (by omega) (by simp at hs ⊢; omega) rfl
      refine ⟨r', ?_⟩
      simp only
      rw [ih, List.append_assoc]
      rfl
theorem decimal_W (n : Int) (h1 : -1000000000000000000 ≤ n) (h2 : n ≤ 1000000000000000000) (H : Hp) : W 96 [.p (.int .i64 n)] H = some (.ret (.p (.str (S (itoa n)))), H) := by
  refine W96_of rfl (by simp) ?_
  have hl := dd_len 18 n.natAbs (by omega)
  obtain ⟨r', hloop⟩ := loop96 n n.natAbs n [] (fr96 n n []) rfl (by omega) (by omega) (by simp; omega) rfl
  have b1 : 1 + (decDigits n.natAbs).length ≤ 9223372036854775807 := by omega
  have e45 : (⟨#[45]⟩ : ByteArray) = S [45] := rfl
  have key : E false ⟨0, 0⟩ 96 code96 (mkF 0 [.p (.int .i64 n)]) H00 = some (.ret, [(2, .p (.str (S (itoa n))))], H00) := by
    unfold itoa
    by_cases h : n < 0
    · simp only [lp96_0, code96, Tryz.f96, fr96, ← S_nil, H00] at hloop
      simp [code96, Tryz.f96, hloop, h, e45, S_app, S_size, b1]
    · have e : n.toNat = n.natAbs := by omega
      rw [← e] at hloop
      simp only [lp96_0, code96, Tryz.f96, fr96, ← S_nil, H00] at hloop
      simp [code96, Tryz.f96, hloop, h]
  rw [key]
  simp [fnOut, retOut, resD, retsD, retD, oneD, D.noRefs, D.noRef, alone, Hp.cut]

/-! ### ref.Print -/
theorem z9 : zeroOf Tryz.prog 9 = some (.string ⟨#[]⟩) := by kernel_rfl
theorem cells_str (x : ByteArray) : (PD.str x).cells = [PD.str x] := rfl
def fr48 (i : Nat) (s : List UInt8) : Fr := [(1, .ptr 0 0), (3, .p (.str (S s))), (4, .p (.int .i64 i))]
theorem body48_end (v : Val) (s : List UInt8) : E false ⟨0, 0⟩ 48 lp48_0 (fr48 v.ps.length s) (st1 v) = some (.exit 1, fr48 v.ps.length s ++ [(29, .p (.bool false))], st1 v) := by
  simp [fr48, lp48_0, code48, Tryz.f48]
theorem body48_step (v : Val) (i : Nat) (s : List UInt8) (hlt : i < v.ps.length) (hlen : v.ps.length ≤ 1000000) (hb : s.length + (txt v.ps[i]).length ≤ 100000000)
    (hr : ∀ H, W 48 [.p (enc v.ps[i])] H = some (.ret (.p (.str (S (txt v.ps[i])))), H)) :
    E false ⟨0, 0⟩ 48 lp48_0 (fr48 i s) (st1 v) = some (.normal, fr48 (i + 1) (s ++ ((if i = 0 then [] else [44, 32]) ++ txt v.ps[i])), st1 v) := by
  have hw : IntKind.i64.wrap ((i : Int) + 1) = (i : Int) + 1 := wrap64 (by omega) (by omega)
  by_cases h0 : i = 0
  · subst h0
    have b1 : s.length + (txt v.ps[0]).length ≤ 9223372036854775807 := by omega
    have w1 : IntKind.i64.wrap 1 = 1 := wrap64 (by omega) (by omega)
    simp [w1, fr48, lp48_0, code48, Tryz.f48, hlt, hr, S_app, S_size, b1]
  · have hi : 0 < i := by omega
    have b1 : s.length + 2 ≤ 9223372036854775807 := by omega
    have b2 : s.length + 2 + (txt v.ps[i]).length ≤ 9223372036854775807 := by omega
    simp [fr48, lp48_0, code48, Tryz.f48, hlt, hw, hr, h0, hi, S_cm, S_app, S_size, b1, b2]
theorem cut48 (v : Val) (i : Nat) (s : List UInt8) (F : Fr) (hF : norm [1, 3, 4] F = fr48 i s) : cutD ⟨0, 0⟩ [1, 3, 4] 1 0 F (st1 v) = some (fr48 i s, st1 v) := by
  have h : cutD ⟨0, 0⟩ [1, 3, 4] 1 0 F (st1 v) = some (norm [1, 3, 4] F, st1 v) := cut_full ⟨0, 0⟩ _ F (st1 v)
  rw [h, hF]
theorem loop48_ok (v : Val) (hlen : v.ps.length ≤ 1000000) (hb : (txtL v.ps).length ≤ 10000000) (hrec : ∀ u ∈ v.ps, ∀ H, W 48 [.p (enc u)] H = some (.ret (.p (.str (S (txt u)))), H)) :
    ∀ (m i : Nat) (F : Fr), m = v.ps.length - i → i ≤ v.ps.length → norm [1, 3, 4] F = fr48 i (txtL (v.ps.take i)) →
    loopO false ⟨0, 0⟩ 48 lp48_0 1 0 F (st1 v) = some (.exit 1, fr48 v.ps.length (txtL v.ps) ++ [(29, .p (.bool false))], st1 v) := by
  intro m
  induction m with
  | zero =>
    intro i F hm hi hF
    have hie : i = v.ps.length := by omega
    subst hie
    rw [loopO_eq, hd48_0, cut48 v _ _ F hF]
    simp only [body48_end, List.take_length]
  | succ m ih =>
    intro i F hm hi hF
    have hlt : i < v.ps.length := by omega
    rw [loopO_eq, hd48_0, cut48 v _ _ F hF]
    have hbd : (txtL (v.ps.take i)).length + (txt v.ps[i]).length ≤ 100000000 := by
      have h1 := txtL_take v.ps i hlt
      have h2 := txtL_take_len v.ps (i + 1)
      rw [h1, List.length_append, List.length_append] at h2
      omega
    simp only [body48_step v i _ hlt hlen hbd (hrec v.ps[i] (List.getElem_mem hlt))]
    rw [← txtL_take v.ps i hlt]
    exact ih (i + 1) (fr48 (i + 1) (txtL (v.ps.take (i + 1)))) (by omega) (by omega) rfl

theorem rprint_step (v : Val) (h : v.shaped = true) (hn : v.nodes ≤ 250) (hrec : ∀ u ∈ v.ps, ∀ H, W 48 [.p (enc u)] H = some (.ret (.p (.str (S (txt u)))), H)) (H : Hp) : W 48 [.p (enc v)] H = some (.ret (.p (.str (S (txt v)))), H) := by
  refine W48_of rfl (by simp) ?_
  have en := nodes_eq v
  have h0 := nodesL_len v.ps
  have hl := sepd_len v.ps (shaped_mem h)
  have hl2 := txtL_sepd v.ps
  have h00 : ((0 : Nat) : Int) = 0 := rfl
  have hloop := loop48_ok v (by omega) (by omega) hrec v.ps.length 0 (fr48 0 []) rfl (Nat.zero_le _) rfl
  simp only [lp48_0, code48, Tryz.f48, fr48, h00, ← S_nil, st1] at hloop
  have e3 : 1 + (txtL v.ps).length ≤ 9223372036854775807 := by omega
  have e4 : (txtL v.ps).length + 1 + 1 ≤ 9223372036854775807 := by omega
  have e5 : (txtL v.ps).length + 1 ≤ 9223372036854775807 := by omega
  suffices key : E false ⟨0, 0⟩ 48 code48 (mkF 0 [.p (enc v)]) H00 = some (.ret, [(2, .p (.str (S (txt v))))], st1 v) by
    rw [key]
    simp [fnOut, retOut, resD, look, retsD, retD, argD, D.nf, D.pd?, oneD, D.noRefs, D.noRef, alone, Hp.cut]
  rcases shaped_cases h with ⟨h1, h2, h3, h4, h5⟩ | ⟨h1, h2, h3, h4, h5⟩ | ⟨h1, h2, h3, h4, h5⟩ | ⟨h1, h2, h3, h4, h5⟩ | ⟨h1, h2, h3, h4⟩
  · have et : txt v = itoa v.n := by rw [txt_eq, if_pos h1]
    rw [et]
    have hd := fun H => decimal_W v.n (by omega) (by omega) H
    simp [code48, Tryz.f48, h1, hd]
  · have et : txt v = if v.n = 1 then tru else fls := by rw [txt_eq, if_neg (by omega), if_pos h1]
    rw [et]
    rcases (show v.n = 0 ∨ v.n = 1 by omega) with e | e <;> simp [code48, Tryz.f48, h1, e, buildSliceD, elsD, one_str, cells_str, z9, S_tru, S_fls]
  · have et : txt v = 34 :: (v.t.data.toList ++ [34]) := by rw [txt_eq, if_neg (by omega), if_neg (by omega), if_pos h1]
    rw [et]
    have e1 : (⟨#[34]⟩ : ByteArray) ++ v.t ++ ⟨#[34]⟩ = S (34 :: (v.t.data.toList ++ [34])) := by
      rw [S_34, ← S_of v.t, S_app, S_app, S_data]; rfl
    have e2 : (⟨#[34]⟩ : ByteArray).size = 1 := rfl
    have e3 : 1 + v.t.size ≤ 9223372036854775807 := by omega
    have e4 : 1 + v.t.size + 1 ≤ 9223372036854775807 := by omega
    have e5 : ((⟨#[34]⟩ : ByteArray) ++ v.t).size = 1 + v.t.size := by rw [ByteArray.size_append]; rfl
    simp [code48, Tryz.f48, h1, e1, e2, e3, e4, e5]
  · have et : txt v = 40 :: (txtL v.ps ++ [41]) := by rw [txt_eq, if_neg (by omega), if_neg (by omega), if_neg (by omega), if_pos h1]
    rw [et]
    simp only [h1] at hloop
    simp [code48, Tryz.f48, h1, hloop, S_40, S_41, S_app, S_size, e3, e4, e5]
  · have et : txt v = 123 :: (txtL v.ps ++ [125]) := by rw [txt_eq, if_neg (by omega), if_neg (by omega), if_neg (by omega), if_neg (by omega)]
    rw [et]
    simp only [h1] at hloop
    simp [code48, Tryz.f48, h1, hloop, S_123, S_125, S_app, S_size, e3, e4, e5]
mutual
theorem rprint_W : ∀ v : Val, v.shaped = true → v.nodes ≤ 250 → ∀ H, W 48 [.p (enc v)] H = some (.ret (.p (.str (S (txt v)))), H)
  | .mk k n t ps, h, hn => rprint_step (.mk k n t ps) h hn (rprints_W ps (shaped_mem h) (by have := nodes_eq (.mk k n t ps); simp only [ps_mk] at this; omega))
theorem rprints_W : ∀ l : List Val, (∀ u ∈ l, u.shaped = true) → nodesL l ≤ 250 → ∀ u ∈ l, ∀ H, W 48 [.p (enc u)] H = some (.ret (.p (.str (S (txt u)))), H)
  | [], _, _, u, hu => by cases hu
  | v :: r, h, hn, u, hu => by
    have h1 := nodes_pos v
    have h2 := nodesL_pos r
    simp only [nodesL] at hn
    rcases List.mem_cons.1 hu with e | hu
    · rw [e]; exact rprint_W v (h v (by simp)) (by omega)
    · exact rprints_W r (fun x hx => h x (by simp [hx])) (by omega) u hu
end
end Go.Vi
end

section
/- Vi: ref.number (f160), ref.Numbers (f144), ref.Truth (f69), ref.plain (f122), ref.word (f121). No conditions. -/
namespace Go.Vi
open Go Go.Lib Go.Proofs
set_option maxRecDepth 100000
attribute [local simp] E_skip E_ret E_exit E_text E_draw E_seq E_cond E_block E_scope E_loop runOps runOp runDraw runVF runV finV gate FlOK wantD exec fin opd look putF norm constD constC fieldAddrD loadD storeD opCall lenD binD isShift intP strP numD indexAddrD indexD D.pd? D.pds? cells_enc sub capsOf callD argsD argD D.nf enc_agg unP box_enc cellD mkF H00 st1 cD_agg cD_pagg cD_int cD_bool cD_str cD_sl cD_lit

theorem S_get (l : List UInt8) (i : Nat) : (S l)[i]? = l[i]? := by
  by_cases h : i < l.length
  · have h2 : i < (S l).size := by rw [S_size]; exact h
    rw [getElem?_pos (S l) i h2, getElem?_pos l i h]
    rfl
  · have h2 : ¬ i < (S l).size := by rw [S_size]; exact h
    rw [getElem?_neg (S l) i h2, getElem?_neg l i h]
theorem S_at (l : List UInt8) (i : Nat) (h : i < (S l).size) : (S l)[i]'h = l[i]'(by rw [← S_size]; exact h) := rfl
theorem drop_at {b : List UInt8} {j : Nat} {c : UInt8} {r : List UInt8} (h : b.drop j = c :: r) : j < b.length ∧ b[j]? = some c ∧ b.drop (j + 1) = r := by
  have h1 : j < b.length := by
    rcases Nat.lt_or_ge j b.length with h1 | h1
    · exact h1
    · rw [List.drop_of_length_le h1] at h; cases h
  rw [List.drop_eq_getElem_cons h1] at h
  injection h with e1 e2
  exact ⟨h1, by rw [List.getElem?_eq_getElem h1, e1], e2⟩
theorem drop_el {b : List UInt8} {j : Nat} {c : UInt8} {r : List UInt8} (h : b.drop j = c :: r) : ∀ hj : j < b.length, b[j]'hj = c := fun hj => by
  have := (drop_at h).2.1
  rw [List.getElem?_eq_getElem hj] at this
  exact Option.some.inj this
theorem drop_no {b : List UInt8} {j : Nat} (h : b.drop j = []) : b.length ≤ j := List.drop_eq_nil_iff.1 h
theorem u8n {c x : UInt8} (k : Int) (hk : (x.toNat : Int) = k) (h : c ≠ x) : ¬ (c.toNat : Int) = k := fun e => h (UInt8.toNat_inj.1 (by rw [← hk] at e; exact_mod_cast e))

theorem dval_bd : ∀ (l : List UInt8) (n M : Int), l.all digB = true → 0 ≤ n → (n + 1) * 10 ^ l.length ≤ M → 0 ≤ dval n l ∧ dval n l + 1 ≤ M
  | [], n, M, _, h, h2 => by simp at h2; exact ⟨h, h2⟩
  | c :: r, n, M, ha, h, h2 => by
    simp only [List.all_cons, Bool.and_eq_true] at ha
    have hc := ha.1
    simp only [digB, Bool.and_eq_true, decide_eq_true_eq] at hc
    have hp : (0 : Int) ≤ 10 ^ r.length := Int.pow_nonneg (by omega)
    refine dval_bd r (10 * n + ((c.toNat : Int) - 48)) M ha.2 (by omega) (Int.le_trans (b := (10 * (n + 1)) * 10 ^ r.length) (Int.mul_le_mul_of_nonneg_right (by omega) hp) ?_)
    rw [List.length_cons, Int.pow_succ] at h2
    rw [Int.mul_assoc 10, Int.mul_comm 10, Int.mul_assoc]
    exact h2

def fr160 (w : List UInt8) (k n : Int) (i : Nat) : Fr := [(0, .p (.str (S w))), (6, .p (.int .i64 k)), (7, .p (.int .i64 n)), (8, .p (.int .i64 i))]
theorem body160_end (w : List UInt8) (k n : Int) : E false ⟨0, 0⟩ 160 lp160_0 (fr160 w k n w.length) H00 = some (.exit 0, fr160 w k n w.length ++ [(27, .p (.bool false))], H00) := by
  simp [fr160, lp160_0, code160, Tryz.f160, S_size]
theorem body160_step (w : List UInt8) (k n : Int) (i : Nat) (c : UInt8) (r : List UInt8) (h : w.drop i = c :: r) (hw : w.length ≤ 100000) (h1 : 0 ≤ n) (h2 : n ≤ 100000000000) :
    E false ⟨0, 0⟩ 160 lp160_0 (fr160 w k n i) H00 = if digB c = true then some (.normal, fr160 w k (10 * n + ((c.toNat : Int) - 48)) (i + 1), H00) else some (.ret, [(4, .p (.int .i64 0)), (5, .p (.bool false))], H00) := by
  obtain ⟨hlt, hg, _⟩ := drop_at h
  have he := drop_el h
  have hw1 : IntKind.i64.wrap ((i : Int) + 1) = (i : Int) + 1 := wrap64 (by omega) (by omega)
  have hw2 : IntKind.i64.wrap (10 * n) = 10 * n := wrap64 (by omega) (by omega)
  have hb := c.toNat_lt
  by_cases c1 : (c.toNat : Int) < 48
  · have e : digB c = false := by simp only [digB, Bool.and_eq_false_iff, decide_eq_false_iff_not]; omega
    simp [fr160, lp160_0, code160, Tryz.f160, S_size, S_get, S_at, he, hlt, hg, c1, e]
  · by_cases c2 : (57 : Int) < c.toNat
    · have e : digB c = false := by simp only [digB, Bool.and_eq_false_iff, decide_eq_false_iff_not]; omega
      simp [fr160, lp160_0, code160, Tryz.f160, S_size, S_get, S_at, he, hlt, hg, c1, c2, e]
    · have e : digB c = true := by simp only [digB, Bool.and_eq_true, decide_eq_true_eq]; omega
      have w3 : IntKind.u8.wrap ((c.toNat : Int) - 48) = (c.toNat : Int) - 48 := u8w (by omega) (by omega)
      have w4 : IntKind.i64.wrap ((c.toNat : Int) - 48) = (c.toNat : Int) - 48 := wrap64 (by omega) (by omega)
      have w5 : IntKind.i64.wrap (10 * n + ((c.toNat : Int) - 48)) = 10 * n + ((c.toNat : Int) - 48) := wrap64 (by omega) (by omega)
      simp [fr160, lp160_0, code160, Tryz.f160, S_size, S_get, S_at, he, hlt, hg, c1, c2, e, hw1, hw2, w3, w4, w5, convD]
theorem cut160 (w : List UInt8) (k n : Int) (i : Nat) (F : Fr) (hF : norm [0, 6, 7, 8] F = fr160 w k n i) : cutD ⟨0, 0⟩ [0, 6, 7, 8] 0 0 F H00 = some (fr160 w k n i, H00) := by
  simp only [cutD, hF]
  simp [fr160, frNo, blkNo, D.noRefs, D.noRef, Hp.cut]
theorem loop160 (w : List UInt8) (k : Int) (hw : w.length ≤ 100000) : ∀ (l : List UInt8) (i : Nat) (n : Int) (F : Fr), w.drop i = l → i ≤ w.length → 0 ≤ n → (n + 1) * 10 ^ l.length ≤ 10000000000 → norm [0, 6, 7, 8] F = fr160 w k n i →
    loopO false ⟨0, 0⟩ 160 lp160_0 0 0 F H00 = if l.all digB = true then some (.exit 0, fr160 w k (dval n l) w.length ++ [(27, .p (.bool false))], H00) else some (.ret, [(4, .p (.int .i64 0)), (5, .p (.bool false))], H00)
  | [], i, n, F, h, hi, h1, h2, hF => by
    have := drop_no h
    obtain rfl : i = w.length := by omega
    rw [loopO_eq, hd160_0, cut160 w k n _ F hF]
    simp only [body160_end]
    rfl
  | c :: r, i, n, F, h, hi, h1, h2, hF => by
    obtain ⟨hlt, _, hr⟩ := drop_at h
    have hp : (1 : Int) ≤ 10 ^ r.length := Int.pow_pos (by omega)
    rw [List.length_cons, Int.pow_succ] at h2
    have hb : n + 1 ≤ 10000000000 := Int.le_trans (by
      have := Int.mul_le_mul_of_nonneg_left (a := 1) (b := 10 ^ r.length * 10) (c := n + 1) (by omega) (by omega)
      rw [Int.mul_one] at this; exact this) h2
    rw [loopO_eq, hd160_0, cut160 w k n _ F hF]
    simp only [body160_step w k n i c r h hw h1 (by omega)]
    by_cases hc : digB c = true
    · rw [if_pos hc]
      simp only
      have hd := hc
      simp only [digB, Bool.and_eq_true, decide_eq_true_eq] at hd
      rw [loop160 w k hw r (i + 1) (10 * n + ((c.toNat : Int) - 48)) (fr160 w k (10 * n + ((c.toNat : Int) - 48)) (i + 1)) hr (by omega) (by omega) (Int.le_trans (b := (10 * (n + 1)) * 10 ^ r.length) (Int.mul_le_mul_of_nonneg_right (by omega) (by omega)) (by rw [Int.mul_assoc 10, Int.mul_comm 10, Int.mul_assoc]; exact h2)) rfl]
      simp only [List.all_cons, hc, Bool.true_and, dval]
    · rw [if_neg hc]
      simp only [List.all_cons, hc, Bool.false_and, Bool.not_eq_true] at hc ⊢
      simp

def num10 (w : List UInt8) : Int × Bool :=
  if 10 < (unsign w).length then (0, false)
  else if (unsign w).all digB = true then (sg (negB w) (dval 0 (unsign w)), decide (itoa (sg (negB w) (dval 0 (unsign w))) = w))
  else (0, false)
theorem numW_10 (w : List UInt8) : numW w = if (num10 w).2 = true then some (num10 w).1 else none := by
  unfold numW num10
  split
  · simp
  · split
    · by_cases h : itoa (sg (negB w) (dval 0 (unsign w))) = w <;> simp [h]
    · simp
theorem pow10_le {m : Nat} (h : m ≤ 10) : (0 + 1 : Int) * 10 ^ m ≤ 10000000000 := by
  have : (10 : Nat) ^ m ≤ 10 ^ 10 := Nat.pow_le_pow_right (by omega) h
  have e : ((10 ^ m : Nat) : Int) = (10 : Int) ^ m := by simp
  rw [Int.zero_add, Int.one_mul, ← e]
  omega

theorem number_W (w : List UInt8) (hw : w.length ≤ 100000) (H : Hp) : W 160 [.p (.str (S w)), .p (.int .i64 10)] H = some (.ret (.tup [.p (.int .i64 (num10 w).1), .p (.bool (num10 w).2)]), H) := by
  refine W160_of rfl (by simp) ?_
  suffices key : ∃ F, E false ⟨0, 0⟩ 160 code160 (mkF 0 [.p (.str (S w)), .p (.int .i64 10)]) H00 = some (.ret, F, H00) ∧ look F 4 = .p (.int .i64 (num10 w).1) ∧ look F 5 = .p (.bool (num10 w).2) by
    obtain ⟨F, key, h4, h5⟩ := key
    rw [key]
    simp [fnOut, retOut, resD, h4, h5, retsD, retD, oneD, D.noRefs, D.noRef, alone, Hp.cut]
  cases w with
  | nil =>
    have hloop := loop160 [] 0 (by simp) [] 0 0 (fr160 [] 0 0 0) rfl (by simp) (by omega) (pow10_le (by simp)) rfl
    have hd := fun H => decimal_W 0 (by omega) (by omega) H
    have hno : ¬ itoa 0 = [] := by
      obtain ⟨c, r, e, _⟩ := itoa_head 0
      rw [e]; simp
    simp only [lp160_0, code160, Tryz.f160, fr160, dval, List.all_nil, if_true, List.length_nil, H00, show ((0 : Nat) : Int) = 0 from rfl] at hloop
    refine ⟨[(4, .p (.int .i64 0)), (5, .p (.bool false))], ?_, by simp [num10, unsign, negB, dval, sg], by simp [num10, unsign, negB, dval, sg, hno]⟩
    have w0 : IntKind.i64.wrap 0 = 0 := wrap64 (by omega) (by omega)
    simp [code160, Tryz.f160, hloop, S_size, hd, S_inj, hno, w0]
  | cons c r =>
    by_cases c45 : c = 45
    · subst c45
      have e1 : unsign (45 :: r) = r := rfl
      have e2 : negB (45 :: r) = true := rfl
      have g0 : (S (45 :: r))[0]? = some 45 := by rw [S_get]; rfl
      have a0 : ∀ h, (S (45 :: r))[0]'h = 45 := fun h => rfl
      have wl : IntKind.i64.wrap (r.length : Int) = r.length := wrap64 (by omega) (by simp at hw; omega)
      have hpos : (0 : Int) < (r.length : Int) + 1 := by omega
      unfold num10
      rw [e1, e2]
      by_cases h10 : 10 < r.length
      · rw [if_pos h10]
        have h10' : (10 : Int) < r.length := by omega
        exact ⟨[(4, .p (.int .i64 0)), (5, .p (.bool false))], by simp [code160, Tryz.f160, S_size, g0, a0, wl, h10', hpos], by simp, by simp⟩
      · rw [if_neg h10]
        have h10' : ¬ (10 : Int) < r.length := by omega
        have hloop := loop160 (45 :: r) 1 (by omega) r 1 0 (fr160 (45 :: r) 1 0 1) rfl (by simp) (by omega) (pow10_le (by omega)) rfl
        by_cases ha : r.all digB = true
        · rw [if_pos ha] at hloop ⊢
          have bd := dval_bd r 0 10000000000 ha (by omega) (pow10_le (by omega))
          have hd := fun H => decimal_W (-(dval 0 r)) (by omega) (by omega) H
          have wn : IntKind.i64.wrap (-(dval 0 r)) = -(dval 0 r) := wrap64 (by omega) (by omega)
          simp only [lp160_0, code160, Tryz.f160, fr160, H00, show ((1 : Nat) : Int) = 1 from rfl] at hloop
          refine ⟨[(4, .p (.int .i64 (-(dval 0 r)))), (5, .p (.bool (decide (itoa (-(dval 0 r)) = 45 :: r))))], ?_, by simp [sg], by simp [sg]⟩
          simp [code160, Tryz.f160, hloop, S_size, g0, a0, wl, h10', hpos, hd, wn, S_inj]
        · rw [if_neg ha] at hloop ⊢
          simp only [lp160_0, code160, Tryz.f160, fr160, H00, show ((1 : Nat) : Int) = 1 from rfl] at hloop
          refine ⟨[(4, .p (.int .i64 0)), (5, .p (.bool false))], ?_, by simp, by simp⟩
          simp [code160, Tryz.f160, hloop, S_size, g0, a0, wl, h10', hpos]
    · have e1 : unsign (c :: r) = c :: r := by simp [unsign, c45]
      have e2 : negB (c :: r) = false := by simp [negB, c45]
      have g0 : (S (c :: r))[0]? = some c := by rw [S_get]; rfl
      have a0 : ∀ h, (S (c :: r))[0]'h = c := fun h => rfl
      have c45' : ¬ (c.toNat : Int) = 45 := u8n 45 rfl c45
      have wl : IntKind.i64.wrap (((r.length : Int) + 1)) = r.length + 1 := wrap64 (by omega) (by simp at hw; omega)
      have hpos : (0 : Int) < (r.length : Int) + 1 := by omega
      unfold num10
      rw [e1, e2]
      by_cases h10 : 10 < (c :: r).length
      · rw [if_pos h10]
        have h10' : (10 : Int) < (r.length : Int) + 1 := by simp at h10; omega
        exact ⟨[(4, .p (.int .i64 0)), (5, .p (.bool false))], by simp [code160, Tryz.f160, S_size, g0, a0, c45', wl, h10', hpos], by simp, by simp⟩
      · rw [if_neg h10]
        have h10' : ¬ (10 : Int) < (r.length : Int) + 1 := by simp at h10; omega
        have hloop := loop160 (c :: r) 0 (by omega) (c :: r) 0 0 (fr160 (c :: r) 0 0 0) rfl (by simp) (by omega) (pow10_le (by omega)) rfl
        generalize hL : c :: r = w at *
        have hL' : w.length = r.length + 1 := by rw [← hL]; rfl
        by_cases ha : w.all digB = true
        · rw [if_pos ha] at hloop ⊢
          have bd := dval_bd w 0 10000000000 ha (by omega) (pow10_le (by omega))
          have hd := fun H => decimal_W (dval 0 w) (by omega) (by omega) H
          simp only [lp160_0, code160, Tryz.f160, fr160, H00, show ((0 : Nat) : Int) = 0 from rfl] at hloop
          refine ⟨[(4, .p (.int .i64 (dval 0 w))), (5, .p (.bool (decide (itoa (dval 0 w) = w))))], ?_, by simp [sg], by simp [sg]⟩
          simp [code160, Tryz.f160, hloop, S_size, hL', g0, a0, c45', wl, h10', hpos, hd, S_inj]
        · rw [if_neg ha] at hloop ⊢
          simp only [lp160_0, code160, Tryz.f160, fr160, H00, show ((0 : Nat) : Int) = 0 from rfl] at hloop
          refine ⟨[(4, .p (.int .i64 0)), (5, .p (.bool false))], ?_, by simp, by simp⟩
          simp [code160, Tryz.f160, hloop, S_size, hL', g0, a0, c45', wl, h10', hpos]

/-! ### ref.word -/
def fr121 (b : List UInt8) (f : Nat) (i : Nat) : Fr := [(0, .p (.str (S b))), (1, .p (.int .i64 f)), (5, .p (.int .i64 i))]
theorem body121_end (b : List UInt8) (f i : Nat) (h : b.length ≤ f + i) (hb : f + i ≤ 1000000) : E false ⟨0, 0⟩ 121 lp121_0 (fr121 b f i) H00 = some (.exit 0, fr121 b f i ++ [(35, .p (.bool false))], H00) := by
  have hw2 : IntKind.i64.wrap ((f : Int) + i) = (f : Int) + i := wrap64 (by omega) (by omega)
  have c1 : ¬ (f : Int) + i < b.length := by omega
  simp [fr121, lp121_0, code121, Tryz.f121, S_size, hw2, c1]
theorem body121_step (b : List UInt8) (f i : Nat) (c : UInt8) (r : List UInt8) (h : b.drop (f + i) = c :: r) (hb : b.length ≤ 1000000) :
    E false ⟨0, 0⟩ 121 lp121_0 (fr121 b f i) H00 = if wordB c = true then some (.normal, fr121 b f (i + 1), H00) else some (.exit 0, fr121 b f i ++ [(35, .p (.bool false))], H00) := by
  obtain ⟨hlt, hg, _⟩ := drop_at h
  have he := drop_el h
  have hw1 : IntKind.i64.wrap ((i : Int) + 1) = (i : Int) + 1 := wrap64 (by omega) (by omega)
  have hw2 : IntKind.i64.wrap ((f : Int) + i) = (f : Int) + i := wrap64 (by omega) (by omega)
  have c1 : (f : Int) + i < b.length := by omega
  have p1 : 0 ≤ (f : Int) + i := by omega
  have t1 : ((f : Int) + i).toNat = f + i := by omega
  by_cases c44 : c = 44
  · subst c44
    simp [fr121, lp121_0, code121, Tryz.f121, S_size, S_get, S_at, he, hw2, c1, p1, t1, hg, wordB]
  · have n44 : ¬ (c.toNat : Int) = 44 := u8n 44 rfl c44
    by_cases c41 : c = 41
    · subst c41
      simp [fr121, lp121_0, code121, Tryz.f121, S_size, S_get, S_at, he, hw2, c1, p1, t1, hg, wordB]
    · have n41 : ¬ (c.toNat : Int) = 41 := u8n 41 rfl c41
      by_cases c125 : c = 125
      · subst c125
        simp [fr121, lp121_0, code121, Tryz.f121, S_size, S_get, S_at, he, hw2, c1, p1, t1, hg, wordB]
      · have n125 : ¬ (c.toNat : Int) = 125 := u8n 125 rfl c125
        simp [fr121, lp121_0, code121, Tryz.f121, S_size, S_get, S_at, he, hw1, hw2, c1, p1, t1, hg, wordB, c44, c41, c125, n44, n41, n125]
theorem cut121 (b : List UInt8) (f i : Nat) (F : Fr) (hF : norm [0, 1, 5] F = fr121 b f i) : cutD ⟨0, 0⟩ [0, 1, 5] 0 0 F H00 = some (fr121 b f i, H00) := by
  simp only [cutD, hF]
  simp [fr121, frNo, blkNo, D.noRefs, D.noRef, Hp.cut]
theorem loop121 (b : List UInt8) (f : Nat) (hb : b.length ≤ 1000000) : ∀ (l : List UInt8) (i : Nat) (F : Fr), b.drop (f + i) = l → f + i ≤ 1000000 → norm [0, 1, 5] F = fr121 b f i →
    loopO false ⟨0, 0⟩ 121 lp121_0 0 0 F H00 = some (.exit 0, fr121 b f (i + (l.takeWhile wordB).length) ++ [(35, .p (.bool false))], H00)
  | [], i, F, h, hi, hF => by
    rw [loopO_eq, hd121_0, cut121 b f i F hF]
    simp only [body121_end b f i (drop_no h) hi]
    rfl
  | c :: r, i, F, h, hi, hF => by
    obtain ⟨hlt, _, hr⟩ := drop_at h
    rw [loopO_eq, hd121_0, cut121 b f i F hF]
    simp only [body121_step b f i c r h hb]
    by_cases hc : wordB c = true
    · rw [if_pos hc]
      simp only
      rw [loop121 b f hb r (i + 1) (fr121 b f (i + 1)) hr (by omega) rfl]
      rw [List.takeWhile_cons, if_pos hc, List.length_cons, show i + 1 + (r.takeWhile wordB).length = i + ((r.takeWhile wordB).length + 1) by omega]
    · rw [if_neg hc, List.takeWhile_cons, if_neg hc]
      rfl
theorem word_W (b : List UInt8) (f : Nat) (hb : b.length ≤ 1000000) (hf : f ≤ 1000000) (H : Hp) : W 121 [.p (.str (S b)), .p (.int .i64 f)] H = some (.ret (.p (.int .i64 (((b.drop f).takeWhile wordB).length : Nat))), H) := by
  refine W121_of rfl (by simp) ?_
  have hloop := loop121 b f hb (b.drop f) 0 (fr121 b f 0) rfl (by omega) rfl
  have key : E false ⟨0, 0⟩ 121 code121 (mkF 0 [.p (.str (S b)), .p (.int .i64 f)]) H00 = some (.ret, [(4, .p (.int .i64 (((b.drop f).takeWhile wordB).length : Nat)))], H00) := by
    simp only [lp121_0, code121, Tryz.f121, fr121, H00, Nat.zero_add, show ((0 : Nat) : Int) = 0 from rfl] at hloop
    simp [code121, Tryz.f121, hloop]
  rw [key]
  simp [fnOut, retOut, resD, retsD, retD, oneD, D.noRefs, D.noRef, alone, Hp.cut]
end Go.Vi
end

section
/- Vi: ref.Numbers (f144), ref.Truth (f69), ref.plain (f122). No conditions. -/
namespace Go.Vi
open Go Go.Lib Go.Proofs
set_option maxRecDepth 100000
attribute [local simp] E_skip E_ret E_exit E_text E_draw E_seq E_cond E_block E_scope E_loop runOps runOp runDraw runVF runV finV gate FlOK wantD exec fin opd look putF norm constD constC fieldAddrD loadD storeD opCall lenD binD isShift intP strP numD indexAddrD indexD D.pd? D.pds? cells_enc sub capsOf callD argsD argD D.nf enc_agg unP box_enc cellD mkF H00 st1 cD_agg cD_pagg cD_int cD_bool cD_str cD_sl cD_lit cD_own

def r144 : Arr := ⟨0, 3, 1, true, true, []⟩
def s144 (n : Int) : Arr := ⟨1, 3, 1, false, true, [.int .i64 n]⟩
theorem zok3 : zOK Tryz.prog 3 1 = true := by kernel_rfl
theorem z3' : zeroOf Tryz.prog 3 = some (.int .i64 0) := by kernel_rfl
def fr144 (w : List UInt8) (i m : Nat) : Fr := [(0, .p (.sl [.str (S w)])), (1, .p (.int .i64 10)), (6, .own 1 m), (7, .p (.int .i64 i))]

theorem numbers144_W (w : List UInt8) (hw : w.length ≤ 100000) (H : Hp) : W 144 [.p (.sl [.str (S w)]), .p (.int .i64 10)] H = some (.ret (.tup (match numW w with
    | some n => [.p (.sl [.int .i64 n]), .p (.bool true)]
    | none => [.p (.sl []), .p (.bool false)])), H) := by
  refine W144_of rfl (by simp) ?_
  have h160 := fun H => number_W w hw H
  have hcut : ∀ F A, A.length = 2 → cutD ⟨0, 0⟩ [0, 1, 6, 7] 0 2 F ⟨[], A⟩ = some (norm [0, 1, 6, 7] F, ⟨[], A⟩) := fun F A h => by
    have := cut_full ⟨0, 0⟩ [0, 1, 6, 7] F ⟨[], A⟩
    rw [h] at this
    exact this
  have w1 : IntKind.i64.wrap 1 = 1 := wrap64 (by omega) (by omega)
  rw [numW_10]
  cases hn : (num10 w).2 with
  | false =>
    rw [hn] at h160
    have body : E false ⟨0, 0⟩ 144 lp144_0 (fr144 w 0 0) ⟨[], [r144, r144]⟩ = some (.ret, [(4, .own 2 0), (5, .p (.bool false))], ⟨[], [r144, r144, r144]⟩) := by
      simp [fr144, r144, lp144_0, code144, Tryz.f144, h160, cells_str, newRow]
    have hloop : loopO false ⟨0, 0⟩ 144 lp144_0 0 2 (fr144 w 0 0) ⟨[], [r144, r144]⟩ = some (.ret, [(4, .own 2 0), (5, .p (.bool false))], ⟨[], [r144, r144, r144]⟩) := by
      rw [loopO_eq, hd144_0, hcut _ _ rfl]
      rw [show norm [0, 1, 6, 7] (fr144 w 0 0) = fr144 w 0 0 from rfl]
      simp only [body]
    have key : E false ⟨0, 0⟩ 144 code144 (mkF 0 [.p (.sl [.str (S w)]), .p (.int .i64 10)]) H00 = some (.ret, [(4, .own 2 0), (5, .p (.bool false))], ⟨[], [r144, r144, r144]⟩) := by
      simp only [lp144_0, code144, Tryz.f144, fr144, r144, show ((0 : Nat) : Int) = 0 from rfl] at hloop
      simp [code144, Tryz.f144, hloop, newRow, r144]
    rw [key]
    simp [fnOut, retOut, resD, look, retsD, retD, argD, D.nf, D.pd?, oneD, D.noRefs, D.noRef, alone, Hp.cut, Hp.live, r144]
  | true =>
    rw [hn] at h160
    have body : E false ⟨0, 0⟩ 144 lp144_0 (fr144 w 0 0) ⟨[], [r144, r144]⟩ = some (.normal, fr144 w 1 1, ⟨[], [r144, s144 (num10 w).1]⟩) := by
      simp [fr144, r144, s144, lp144_0, code144, Tryz.f144, h160, cells_str, cells_int, one_int, one_str, newRow, w1, z3', zok3, buildSliceD, elsD, appendD, srcD, Hp.live, fits]
    have body2 : E false ⟨0, 0⟩ 144 lp144_0 (fr144 w 1 1) ⟨[], [r144, s144 (num10 w).1]⟩ = some (.exit 0, fr144 w 1 1 ++ [(13, .p (.bool false))], ⟨[], [r144, s144 (num10 w).1]⟩) := by
      simp [fr144, r144, s144, lp144_0, code144, Tryz.f144]
    have hloop : loopO false ⟨0, 0⟩ 144 lp144_0 0 2 (fr144 w 0 0) ⟨[], [r144, r144]⟩ = some (.exit 0, fr144 w 1 1 ++ [(13, .p (.bool false))], ⟨[], [r144, s144 (num10 w).1]⟩) := by
      rw [loopO_eq, hd144_0, hcut _ _ rfl]
      rw [show norm [0, 1, 6, 7] (fr144 w 0 0) = fr144 w 0 0 from rfl]
      simp only [body]
      rw [loopO_eq, hd144_0, hcut _ _ rfl]
      rw [show norm [0, 1, 6, 7] (fr144 w 1 1) = fr144 w 1 1 from rfl]
      simp only [body2]
    have key : E false ⟨0, 0⟩ 144 code144 (mkF 0 [.p (.sl [.str (S w)]), .p (.int .i64 10)]) H00 = some (.ret, [(4, .own 1 1), (5, .p (.bool true))], ⟨[], [r144, s144 (num10 w).1]⟩) := by
      simp only [lp144_0, code144, Tryz.f144, fr144, r144, s144, show ((0 : Nat) : Int) = 0 from rfl] at hloop
      simp [code144, Tryz.f144, hloop, newRow, r144, s144]
    rw [key]
    simp [fnOut, retOut, resD, look, retsD, retD, argD, D.nf, D.pd?, oneD, D.noRefs, D.noRef, alone, Hp.cut, Hp.live, r144, s144]

theorem truth69_W (t : Bool) (H : Hp) : W 69 [.p (.bool t)] H = some (.ret (.p (enc (.mk 2 (if t = true then 1 else 0) ⟨#[]⟩ []))), H) := by
  refine W69_of rfl (by simp) ?_
  have b1 : ∀ F, buildD Tryz.prog F 25 [(0, .const (.int .i64 2)), (1, .const (.int .i64 1))] = some (.agg [.p (.int .i64 2), .p (.int .i64 1), .p (.str ⟨#[]⟩), .lit true []]) := fun F => by
    have pl25 : placesOf Tryz.prog 25 = some [(0, 1), (1, 1), (2, 1), (3, 1)] := by kernel_rfl
    simp [buildD, z25', pl25, buildD.go, splice]
  have b2 : ∀ F, buildD Tryz.prog F 25 [(0, .const (.int .i64 2))] = some (.agg [.p (.int .i64 2), .p (.int .i64 0), .p (.str ⟨#[]⟩), .lit true []]) := fun F => by
    have pl25 : placesOf Tryz.prog 25 = some [(0, 1), (1, 1), (2, 1), (3, 1)] := by kernel_rfl
    simp [buildD, z25', pl25, buildD.go, splice]
  have key : E false ⟨0, 0⟩ 69 code69 (mkF 0 [.p (.bool t)]) H00 = some (.ret, [(2, .ptr 0 0)], ⟨[.cells [.p (.int .i64 2), .p (.int .i64 (if t = true then 1 else 0)), .p (.str ⟨#[]⟩), .lit true []]], []⟩) := by
    cases t <;> simp [code69, Tryz.f69, z25', b1, b2, splice]
  rw [key, enc_eq]
  simp [fnOut, retOut, resD, retsD, retD, oneD, D.noRefs, D.noRef, alone, Hp.cut, k_mk, n_mk, t_mk, ps_mk]

def out122 : Option Val → List D
  | some v => [.p (enc v), .p (.bool true)]
  | none => [.p (enc Val.zero), .p (.bool false)]
theorem fin122 (H : Hp) (v : Val) (t : Bool) (B : List Blk) (A : List Arr) : alone H (fnOut Tryz.prog [.cell 2 25, .tmp 3] 0 0 (some (.ret, [(2, .ptr 0 0), (3, .p (.bool t))], ⟨box25 v :: B, A⟩))) = some (.ret (.tup [.p (enc v), .p (.bool t)]), H) := by
  rw [enc_eq v]
  simp [fnOut, retOut, resD, look, retsD, retD, argD, D.nf, D.pd?, oneD, D.noRefs, D.noRef, alone, Hp.cut, box25]
theorem fin122z (H : Hp) (B : List Blk) (A : List Arr) : alone H (fnOut Tryz.prog [.cell 2 25, .tmp 3] 0 0 (some (.ret, [(2, .ptr 0 0), (3, .p (.bool false))], ⟨zeroB :: B, A⟩))) = some (.ret (.tup [.p (enc Val.zero), .p (.bool false)]), H) := by
  rw [enc_zero]
  simp [fnOut, retOut, resD, look, retsD, retD, argD, D.nf, D.pd?, oneD, D.noRefs, D.noRef, alone, Hp.cut, zeroB]

theorem plain_W (w : List UInt8) (hw : w.length ≤ 100000) (H : Hp) : W 122 [.p (.str (S w))] H = some (.ret (.tup (out122 (plainV w))), H) := by
  refine W122_of rfl (by simp) ?_
  have b0 : ∀ F, buildD Tryz.prog F 25 [] = some (.agg [.p (.int .i64 0), .p (.int .i64 0), .p (.str ⟨#[]⟩), .lit true []]) := fun F => by
    have pl25 : placesOf Tryz.prog 25 = some [(0, 1), (1, 1), (2, 1), (3, 1)] := by kernel_rfl
    simp [buildD, z25', pl25, buildD.go, splice]
  unfold plainV
  by_cases e1 : w = tru
  · rw [if_pos e1]
    have h69 := fun H => truth69_W true H
    rw [if_pos rfl] at h69
    have key : E false ⟨0, 0⟩ 122 code122 (mkF 0 [.p (.str (S w))]) H00 = some (.ret, [(2, .ptr 0 0), (3, .p (.bool true))], ⟨[box25 (.mk 2 1 ⟨#[]⟩ [])], []⟩) := by
      subst e1
      simp [code122, Tryz.f122, z25', S_tru, S_fls, h69, splice, box25, k_mk, n_mk, t_mk, ps_mk]
    rw [key, fin122]; rfl
  rw [if_neg e1]
  have n1 : ¬ S w = S tru := fun h => e1 (S_inj.1 h)
  by_cases e2 : w = fls
  · rw [if_pos e2]
    have h69 := fun H => truth69_W false H
    rw [if_neg (by simp)] at h69
    have key : E false ⟨0, 0⟩ 122 code122 (mkF 0 [.p (.str (S w))]) H00 = some (.ret, [(2, .ptr 0 0), (3, .p (.bool true))], ⟨[box25 (.mk 2 0 ⟨#[]⟩ [])], []⟩) := by
      subst e2
      simp [code122, Tryz.f122, z25', S_tru, S_fls, n1, h69, splice, box25, k_mk, n_mk, t_mk, ps_mk]
    rw [key, fin122]; rfl
  rw [if_neg e2]
  have n2 : ¬ S w = S fls := fun h => e2 (S_inj.1 h)
  have h144 := fun H => numbers144_W w hw H
  cases hn : numW w with
  | none =>
    rw [hn] at h144
    have key : E false ⟨0, 0⟩ 122 code122 (mkF 0 [.p (.str (S w))]) H00 = some (.ret, [(2, .ptr 0 0), (3, .p (.bool false))], ⟨[zeroB], []⟩) := by
      simp [code122, Tryz.f122, z25', z9, S_tru, S_fls, n1, n2, h144, b0, splice, zeroB, buildSliceD, elsD, one_str, cells_str]
    rw [key, fin122z]; rfl
  | some n =>
    rw [hn] at h144
    have h74 := fun H => in_W n (-1000000000) 1000000000 H
    simp only
    by_cases hb : -1000000000 ≤ n ∧ n ≤ 1000000000
    · rw [if_pos hb]
      have hi : inB n (-1000000000) 1000000000 = true := by simp only [inB, Bool.and_eq_true, decide_eq_true_eq]; omega
      have h68 := fun H => int68_W n H
      have key : E false ⟨0, 0⟩ 122 code122 (mkF 0 [.p (.str (S w))]) H00 = some (.ret, [(2, .ptr 0 0), (3, .p (.bool true))], ⟨[box25 (.mk 1 n ⟨#[]⟩ [])], []⟩) := by
        simp [code122, Tryz.f122, z25', z9, S_tru, S_fls, n1, n2, h144, h74, hi, h68, b0, splice, box25, buildSliceD, elsD, one_str, cells_str, cells_int, k_mk, n_mk, t_mk, ps_mk]
      rw [key, fin122]; rfl
    · rw [if_neg hb]
      have hi : inB n (-1000000000) 1000000000 = false := by
        rw [Bool.eq_false_iff]; simp only [inB, ne_eq, Bool.and_eq_true, decide_eq_true_eq]; omega
      have key : E false ⟨0, 0⟩ 122 code122 (mkF 0 [.p (.str (S w))]) H00 = some (.ret, [(2, .ptr 0 0), (3, .p (.bool false))], ⟨[zeroB], []⟩) := by
        simp [code122, Tryz.f122, z25', z9, S_tru, S_fls, n1, n2, h144, h74, hi, b0, splice, zeroB, buildSliceD, elsD, one_str, cells_str, cells_int]
      rw [key, fin122z]; rfl
end Go.Vi
end
