/- It is proved here that the order of shaped values is antisymmetric, transitive, and 0 just for equal values; no condition but that. -/
import Derived.Test.YtojkbmepcbgbhaaGreatDoorMU
set_option linter.unusedVariables false
set_option linter.unusedSimpArgs false

section
/- Vi: the order of shaped values: antisymmetric, transitive, 0 just for equal values. No conditions. -/
namespace Go.Vi
open Go Go.Lib Go.Proofs

theorem ne_off {α β : Type} {a b : β} [Decidable (a ≠ b)] (h : a = b) (x y : α) : (if a ≠ b then x else y) = y := if_neg (fun n => n h)
theorem k_mk (k n t ps) : (Val.mk k n t ps).k = k := rfl
theorem n_mk (k n t ps) : (Val.mk k n t ps).n = n := rfl
theorem t_mk (k n t ps) : (Val.mk k n t ps).t = t := rfl
theorem ps_mk (k n t ps) : (Val.mk k n t ps).ps = ps := rfl
theorem bless_cons (a b : UInt8) (x y : List UInt8) : Op.bytesLess (a :: x) (b :: y) = true ↔ a.toNat < b.toNat ∨ a.toNat = b.toNat ∧ Op.bytesLess x y = true := by
  simp only [Op.bytesLess, Bool.or_eq_true, Bool.and_eq_true, decide_eq_true_eq, beq_iff_eq, UInt8.lt_iff_toNat_lt, ← UInt8.toNat_inj]

theorem bless_trans : ∀ (a b c : List UInt8), Op.bytesLess a b = true → Op.bytesLess b c = true → Op.bytesLess a c = true
  | [], [], _, h, _ => by simp [Op.bytesLess] at h
  | [], _ :: _, [], _, h => by simp [Op.bytesLess] at h
  | [], _ :: _, _ :: _, _, _ => by simp [Op.bytesLess]
  | _ :: _, [], _, h, _ => by simp [Op.bytesLess] at h
  | _ :: _, _ :: _, [], _, h => by simp [Op.bytesLess] at h
  | a :: x, b :: y, c :: z, h, g => by
    rw [bless_cons] at h g ⊢
    have ih := bless_trans x y z
    rcases h with h | h
    · rcases g with g | g <;> left <;> omega
    · rcases g with g | g
      · left; omega
      · right; exact ⟨by omega, ih h.2 g.2⟩

theorem bless_asymm : ∀ (a b : List UInt8), Op.bytesLess a b = true → ¬ Op.bytesLess b a = true
  | [], [], h => by simp [Op.bytesLess] at h
  | [], _ :: _, _ => by simp [Op.bytesLess]
  | _ :: _, [], h => by simp [Op.bytesLess] at h
  | a :: x, b :: y, h => by
    rw [bless_cons] at h ⊢
    have ih := bless_asymm x y
    rintro (g | g)
    · omega
    · rcases h with h | h
      · omega
      · exact ih h.2 g.2

theorem bless_total : ∀ (a b : List UInt8), ¬ Op.bytesLess a b = true → ¬ Op.bytesLess b a = true → a = b
  | [], [], _, _ => rfl
  | [], _ :: _, h, _ => by simp [Op.bytesLess] at h
  | _ :: _, [], _, h => by simp [Op.bytesLess] at h
  | a :: x, b :: y, h, g => by
    rw [bless_cons] at h g
    have e : a.toNat = b.toNat := by omega
    rw [UInt8.toNat_inj.1 e, bless_total x y (fun hh => h (.inr ⟨e, hh⟩)) (fun hh => g (.inr ⟨e.symm, hh⟩))]

def tcmp (s t : ByteArray) : Int := if s = t then 0 else if lessB s t = true then -1 else 1
theorem tcmp_zero (s t : ByteArray) : tcmp s t = 0 ↔ s = t := by
  unfold tcmp
  split
  · simp [*]
  · split <;> simp [*]
theorem lessB_self (s : ByteArray) : lessB s s = false := by
  cases h : lessB s s with
  | false => rfl
  | true => exact absurd h (bless_asymm _ _ h)
theorem tcmp_anti (s t : ByteArray) : tcmp s t = - tcmp t s := by
  by_cases e : s = t
  · simp [tcmp, e]
  · have e' : ¬ t = s := fun h => e h.symm
    unfold tcmp
    rw [if_neg e, if_neg e']
    cases h1 : lessB s t with
    | true => have : lessB t s = false := by simpa [lessB] using bless_asymm _ _ h1
              simp [this]
    | false =>
      cases h2 : lessB t s with
      | true => simp
      | false => exact absurd (ba_ext.2 (bless_total _ _ (by rw [lessB] at h1; rw [h1]; simp) (by rw [lessB] at h2; rw [h2]; simp))) e
theorem tcmp_neg (s t : ByteArray) : tcmp s t < 0 ↔ lessB s t = true := by
  unfold tcmp
  split
  · rename_i e; subst e; simp [lessB_self]
  · split <;> simp [*]
theorem tcmp_bd (s t : ByteArray) : -1 ≤ tcmp s t ∧ tcmp s t ≤ 1 := by
  unfold tcmp
  split
  · simp
  · split <;> simp
theorem tcmp_trans (s t u : ByteArray) (h : tcmp s t < 0) (g : tcmp t u < 0) : tcmp s u < 0 := by
  rw [tcmp_neg] at *
  exact bless_trans _ _ _ h g

theorem ordI_neg (a b : Int) : ordI a b < 0 ↔ a < b := by
  unfold ordI
  split
  · simp [*]
  · split <;> simp [*]
theorem ordI_anti (a b : Int) : ordI a b = - ordI b a := by
  unfold ordI
  by_cases h1 : a < b
  · have : ¬ b < a := by omega
    simp [h1, this]
  · by_cases h2 : b < a <;> simp [h1, h2]

/-- The order on shaped values, in its plain form. -/
theorem cmp_plain {v u : Val} (hv : v.shaped = true) (hu : u.shaped = true) : v.cmp u = if v.k ≠ u.k then ordI v.k u.k else if v.k = 3 then tcmp v.t u.t
    else if v.k = 1 ∨ v.k = 2 then ordI v.n u.n else if v.ps.length ≠ u.ps.length then ordI v.ps.length u.ps.length else cmpL v.ps u.ps := by
  rw [cmp_eq]
  by_cases hk : v.k = u.k
  · rw [shaped_eq, Bool.and_eq_true] at hv hu
    obtain ⟨_, ho⟩ := hv
    obtain ⟨_, ho'⟩ := hu
    rw [ne_off hk, ne_off hk]
    by_cases h3 : v.k = 3
    · rw [if_pos h3, if_pos h3]; rfl
    · rw [if_neg h3, if_neg h3]
      by_cases h1 : v.k = 1
      · have h1' : u.k = 1 := by omega
        simp [own75, h1, h1'] at ho ho'
        rw [if_pos (.inl h1), if_pos (.inl h1), ho.2, ho'.2]
        simp [ordI_same]
      by_cases h2 : v.k = 2
      · have h2' : u.k = 2 := by omega
        simp [own75, h2, h2'] at ho ho'
        rw [if_pos (.inr (.inl h2)), if_pos (.inr h2)]
        simp [ho, ho', ordI_same]
      rw [if_neg (show ¬ (v.k = 1 ∨ v.k = 2) by omega)]
      by_cases hl : v.ps.length = u.ps.length
      · rw [if_neg (by omega), if_neg (by omega)]
      · rw [if_pos (by omega), if_pos (by omega)]
        have hn : v.n = 0 ∧ u.n = 0 := by
          by_cases h4 : v.k = 4
          · have h4' : u.k = 4 := by omega
            simp [own75, h4, h4'] at ho ho'; omega
          by_cases h5 : v.k = 5
          · have h5' : u.k = 5 := by omega
            simp [own75, h5, h5'] at ho ho'; omega
          · simp [own75, h1, h2, h3, h4, h5] at ho
        rw [hn.1, hn.2]
        simp [ordI_same]
  · rw [if_pos hk, if_pos hk]

theorem shaped_same {v u : Val} (hv : v.shaped = true) (hu : u.shaped = true) : v = u ↔ v.k = u.k ∧ (v.k = 3 → v.t = u.t) ∧ (v.k = 1 ∨ v.k = 2 → v.n = u.n) ∧ (v.k ≠ 3 → ¬ (v.k = 1 ∨ v.k = 2) → v.ps = u.ps) := by
  constructor
  · rintro rfl; simp
  · rintro ⟨hk, h3, h12, h45⟩
    rw [shaped_eq, Bool.and_eq_true] at hv hu
    obtain ⟨_, ho⟩ := hv
    obtain ⟨_, ho'⟩ := hu
    obtain ⟨k, n, t, ps⟩ := v
    obtain ⟨k', n', t', ps'⟩ := u
    simp only [k_mk, n_mk, t_mk, ps_mk] at *
    subst hk
    have ee : ∀ x : ByteArray, x.size = 0 → x = ⟨#[]⟩ := fun x hx => by cases x; simp [ByteArray.size] at hx; simp [hx]
    by_cases h1 : k = 1
    · simp [own75, h1] at ho ho' h12
      simp [ho, ho', h12]
    by_cases h2 : k = 2
    · simp [own75, h2] at ho ho' h12
      simp [ho, ho', h12]
    by_cases hk3 : k = 3
    · simp [own75, hk3] at ho ho' h3
      simp [ho, ho', h3]
    · have hps := h45 hk3 (by omega)
      by_cases h4 : k = 4
      · simp [own75, h4] at ho ho'
        simp [ho, ho', hps]
      by_cases h5 : k = 5
      · simp [own75, h5] at ho ho'
        simp [ho, ho', hps]
      · simp [own75, h1, h2, hk3, h4, h5] at ho

theorem cmp_zero_step (v u : Val) (hv : v.shaped = true) (hu : u.shaped = true) (ih : v.ps.length = u.ps.length → (∀ x ∈ v.ps, x.shaped = true) → (∀ x ∈ u.ps, x.shaped = true) → (cmpL v.ps u.ps = 0 ↔ v.ps = u.ps)) : (v.cmp u = 0 ↔ v = u) := by
    rw [cmp_plain hv hu, shaped_same hv hu]
    have hs := shaped_mem hv
    have hs' := shaped_mem hu
    by_cases hk : v.k = u.k
    · rw [ne_off hk]
      by_cases h3 : v.k = 3
      · rw [if_pos h3, tcmp_zero]; simp [h3]; omega
      rw [if_neg h3]
      by_cases h12 : v.k = 1 ∨ v.k = 2
      · rw [if_pos h12, ordI_zero]; simp [h3, h12, hk ▸ h12, hk]; simp [← hk, h12, h3]
      rw [if_neg h12]
      by_cases hl : v.ps.length = u.ps.length
      · rw [ne_off hl, ih hl hs hs']; simp [h3, h12, ← hk]
      · rw [if_pos hl, ordI_zero]
        constructor
        · intro h; omega
        · rintro ⟨_, _, _, h⟩; exact absurd (by rw [h h3 h12]) hl
    · rw [if_pos hk, ordI_zero]; simp [hk]

mutual
theorem cmp_zero : ∀ v u : Val, v.shaped = true → u.shaped = true → (v.cmp u = 0 ↔ v = u)
  | .mk k n t ps, u, hv, hu => cmp_zero_step _ u hv hu (fun h1 h2 h3 => cmpL_zero ps u.ps h1 h2 h3)
theorem cmpL_zero : ∀ l m : List Val, l.length = m.length → (∀ u ∈ l, u.shaped = true) → (∀ u ∈ m, u.shaped = true) → (cmpL l m = 0 ↔ l = m)
  | [], [], _, _, _ => by simp [cmpL]
  | [], _ :: _, h, _, _ => by simp at h
  | _ :: _, [], h, _, _ => by simp at h
  | v :: r, u :: s, h, hl, hm => by
    simp only [cmpL]
    have h1 := cmp_zero v u (hl v (by simp)) (hm u (by simp))
    have h2 := cmpL_zero r s (by simpa using h) (fun x hx => hl x (by simp [hx])) (fun x hx => hm x (by simp [hx]))
    by_cases hc : v.cmp u = 0
    · rw [ne_off hc, h2]; simp [h1.1 hc]
    · rw [if_pos hc]; simp [hc, ← h1]
end

theorem cmp_anti_step (v u : Val) (hv : v.shaped = true) (hu : u.shaped = true) (ih : v.ps.length = u.ps.length → (∀ x ∈ v.ps, x.shaped = true) → (∀ x ∈ u.ps, x.shaped = true) → cmpL v.ps u.ps = - cmpL u.ps v.ps) : v.cmp u = - u.cmp v := by
    rw [cmp_plain hv hu, cmp_plain hu hv]
    have hs := shaped_mem hv
    have hs' := shaped_mem hu
    by_cases hk : v.k = u.k
    · rw [ne_off hk, ne_off hk.symm, ← hk]
      by_cases h3 : v.k = 3
      · rw [if_pos h3, if_pos h3, tcmp_anti]
      rw [if_neg h3, if_neg h3]
      by_cases h12 : v.k = 1 ∨ v.k = 2
      · rw [if_pos h12, if_pos h12, ordI_anti]
      rw [if_neg h12, if_neg h12]
      by_cases hl : v.ps.length = u.ps.length
      · rw [ne_off hl, ne_off hl.symm, ih hl hs hs']
      · rw [if_pos hl, if_pos (fun e => hl e.symm), ordI_anti]
    · rw [if_pos hk, if_pos (fun e => hk e.symm), ordI_anti]

mutual
theorem cmp_anti : ∀ v u : Val, v.shaped = true → u.shaped = true → v.cmp u = - u.cmp v
  | .mk k n t ps, u, hv, hu => cmp_anti_step _ u hv hu (fun h1 h2 h3 => cmpL_anti ps u.ps h1 h2 h3)
theorem cmpL_anti : ∀ l m : List Val, l.length = m.length → (∀ u ∈ l, u.shaped = true) → (∀ u ∈ m, u.shaped = true) → cmpL l m = - cmpL m l
  | [], [], _, _, _ => by simp [cmpL]
  | [], _ :: _, h, _, _ => by simp at h
  | _ :: _, [], h, _, _ => by simp at h
  | v :: r, u :: s, h, hl, hm => by
    simp only [cmpL]
    have h1 := cmp_anti v u (hl v (by simp)) (hm u (by simp))
    have h2 := cmpL_anti r s (by simpa using h) (fun x hx => hl x (by simp [hx])) (fun x hx => hm x (by simp [hx]))
    by_cases hc : v.cmp u = 0
    · rw [ne_off hc, if_neg (by omega), h2]
    · rw [if_pos hc, if_pos (by omega), h1]
end

theorem cmp_trans_step (v u w : Val) (hv : v.shaped = true) (hu : u.shaped = true) (hw : w.shaped = true) (ih : v.ps.length = u.ps.length → v.ps.length = w.ps.length → (∀ x ∈ v.ps, x.shaped = true) → (∀ x ∈ u.ps, x.shaped = true) → (∀ x ∈ w.ps, x.shaped = true) → cmpL v.ps u.ps < 0 → cmpL u.ps w.ps < 0 → cmpL v.ps w.ps < 0) : v.cmp u < 0 → u.cmp w < 0 → v.cmp w < 0 := by
    rw [cmp_plain hv hu, cmp_plain hu hw, cmp_plain hv hw]
    have hs := shaped_mem hv
    have hs' := shaped_mem hu
    have hs'' := shaped_mem hw
    by_cases hk : v.k = u.k
    · rw [ne_off hk, ← hk]
      by_cases hk' : v.k = w.k
      · rw [ne_off hk', ne_off hk']
        by_cases h3 : v.k = 3
        · rw [if_pos h3, if_pos h3, if_pos h3]; exact tcmp_trans _ _ _
        rw [if_neg h3, if_neg h3, if_neg h3]
        by_cases h12 : v.k = 1 ∨ v.k = 2
        · rw [if_pos h12, if_pos h12, if_pos h12, ordI_neg, ordI_neg, ordI_neg]; omega
        rw [if_neg h12, if_neg h12, if_neg h12]
        by_cases hl : v.ps.length = u.ps.length
        · rw [ne_off hl, ← hl]
          by_cases hl' : v.ps.length = w.ps.length
          · rw [ne_off hl', ne_off hl']
            exact ih hl hl' hs hs' hs''
          · rw [if_pos hl', if_pos hl']; exact fun _ h => h
        · rw [if_pos hl, ordI_neg]
          by_cases hl' : u.ps.length = w.ps.length
          · rw [ne_off hl', ← hl', if_pos hl, ordI_neg]; exact fun h _ => h
          · rw [if_pos hl', ordI_neg]
            intro a b
            rw [if_pos (by omega), ordI_neg]; omega
      · rw [if_pos hk', if_pos hk']; exact fun _ h => h
    · rw [if_pos hk, ordI_neg]
      by_cases hk' : u.k = w.k
      · rw [ne_off hk', ← hk', if_pos hk, ordI_neg]; exact fun h _ => h
      · rw [if_pos hk', ordI_neg]
        intro a b
        rw [if_pos (by omega), ordI_neg]; omega

mutual
theorem cmp_trans : ∀ v u w : Val, v.shaped = true → u.shaped = true → w.shaped = true → v.cmp u < 0 → u.cmp w < 0 → v.cmp w < 0
  | .mk k n t ps, u, w, hv, hu, hw => cmp_trans_step _ u w hv hu hw (fun h1 h2 h3 h4 h5 => cmpL_trans ps u.ps w.ps h1 h2 h3 h4 h5)
theorem cmpL_trans : ∀ l m o : List Val, l.length = m.length → l.length = o.length → (∀ u ∈ l, u.shaped = true) → (∀ u ∈ m, u.shaped = true) → (∀ u ∈ o, u.shaped = true) → cmpL l m < 0 → cmpL m o < 0 → cmpL l o < 0
  | [], _, _, _, _, _, _, _ => by simp [cmpL]
  | _ :: _, [], _, h, _, _, _, _ => by simp at h
  | _ :: _, _ :: _, [], _, h, _, _, _ => by simp at h
  | v :: r, u :: s, w :: q, h, h', hl, hm, ho => by
    simp only [cmpL]
    have sv := hl v (by simp)
    have su := hm u (by simp)
    have sw := ho w (by simp)
    have h1 := cmp_trans v u w sv su sw
    have h2 := cmpL_trans r s q (by simpa using h) (by simpa using h') (fun x hx => hl x (by simp [hx])) (fun x hx => hm x (by simp [hx])) (fun x hx => ho x (by simp [hx]))
    by_cases hc : v.cmp u = 0
    · rw [ne_off hc]
      obtain rfl := (cmp_zero v u sv su).1 hc
      by_cases hc' : v.cmp w = 0
      · rw [ne_off hc', ne_off hc']; exact h2
      · rw [if_pos hc', if_pos hc']; exact fun _ h => h
    · rw [if_pos hc]
      by_cases hc' : u.cmp w = 0
      · rw [ne_off hc']
        obtain rfl := (cmp_zero u w su sw).1 hc'
        rw [if_pos hc]; exact fun h _ => h
      · rw [if_pos hc']
        intro a b
        have := h1 a b
        rw [if_pos (by omega)]; exact this
end

theorem cmp_bd_step (v u : Val) (hv : v.shaped = true) (hu : u.shaped = true) (ih : (∀ x ∈ v.ps, x.shaped = true) → (∀ x ∈ u.ps, x.shaped = true) → -1 ≤ cmpL v.ps u.ps ∧ cmpL v.ps u.ps ≤ 1) : -1 ≤ v.cmp u ∧ v.cmp u ≤ 1 := by
    rw [cmp_plain hv hu]
    have hs := shaped_mem hv
    have hs' := shaped_mem hu
    split
    · exact ordI_bd _ _
    split
    · exact tcmp_bd _ _
    split
    · exact ordI_bd _ _
    split
    · exact ordI_bd _ _
    · exact ih hs hs'

mutual
theorem cmp_bd : ∀ v u : Val, v.shaped = true → u.shaped = true → -1 ≤ v.cmp u ∧ v.cmp u ≤ 1
  | .mk k n t ps, u, hv, hu => cmp_bd_step _ u hv hu (fun h2 h3 => cmpL_bd ps u.ps h2 h3)
theorem cmpL_bd : ∀ l m : List Val, (∀ u ∈ l, u.shaped = true) → (∀ u ∈ m, u.shaped = true) → -1 ≤ cmpL l m ∧ cmpL l m ≤ 1
  | [], _, _, _ => by simp [cmpL]
  | _ :: _, [], _, _ => by simp [cmpL]
  | v :: r, u :: s, hl, hm => by
    simp only [cmpL]
    split
    · exact cmp_bd v u (hl v (by simp)) (hm u (by simp))
    · exact cmpL_bd r s (fun x hx => hl x (by simp [hx])) (fun x hx => hm x (by simp [hx]))
end

theorem valid_shaped {v : Val} (h : v.valid = true) : v.shaped = true := by simp only [Val.valid, Bool.and_eq_true] at h; exact h.2
theorem cmp_eqb {v u : Val} (hv : v.shaped = true) (hu : u.shaped = true) : decide (v.cmp u = 0) = v.eqb u := by
  rw [Bool.eq_iff_iff, decide_eq_true_eq, cmp_zero v u hv hu, eqb_iff]
end Go.Vi
end
