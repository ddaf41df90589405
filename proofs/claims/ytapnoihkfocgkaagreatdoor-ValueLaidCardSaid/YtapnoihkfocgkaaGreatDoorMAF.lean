/- It is proved here what laying does to a map; conditions stand with each. -/
import Derived.Test.YtapnoihkfocgkaaGreatDoorMAE
set_option linter.unusedVariables false
set_option linter.unusedSimpArgs false

section
/- Vi: maps, plainly: what is laid is found, all else stays. No conditions. -/
namespace Go.Vi
open Go Go.Lib Go.Proofs

/-- A key is that of one pair alone. -/
def KeyInj (l : List Val) : Prop := ∀ x ∈ l, ∀ y ∈ l, x.k0 = y.k0 → x = y
theorem Keyed.inj {l : List Val} (h : Keyed l) (hs : Shp l) : KeyInj l := by
  intro x hx y hy e
  obtain ⟨i, hi, rfl⟩ := List.getElem_of_mem hx
  obtain ⟨j, hj, rfl⟩ := List.getElem_of_mem hy
  have hinc := up_incr.1 h.up
  have hself := cmp_self (k0_shaped (h.pair _ hx) (hs _ hx))
  rcases Nat.lt_trichotomy i j with hlt | rfl | hlt
  · have := hinc i j (by simpa using hi) (by simpa using hj) hlt
    simp only [List.getElem_map] at this
    rw [← e] at this; omega
  · rfl
  · have := hinc j i (by simpa using hj) (by simpa using hi) hlt
    simp only [List.getElem_map] at this
    rw [← e] at this; omega
theorem keyed_of {l : List Val} (hp : ∀ p ∈ l, p.pair = true) (hs : Shp l) (hu : Up l) (hi : KeyInj l) : Keyed l := by
  refine ⟨hp, ?_⟩
  unfold Up
  rw [List.pairwise_map]
  refine hu.imp_of_mem fun {x y} hx hy h => ?_
  have h1 := key_le (hp x hx) (hp y hy) h
  by_cases h0 : x.k0.cmp y.k0 = 0
  · have := hi x hx y hy ((cmp_zero _ _ (k0_shaped (hp x hx) (hs x hx)) (k0_shaped (hp y hy) (hs y hy))).1 h0)
    rw [this, cmp_self (hs y hy)] at h; omega
  · omega

theorem lookR_some {q u : Val} : ∀ {l : List Val}, lookR q l = some u → ∃ p ∈ l, p.k0.cmp q = 0 ∧ p.k1 = u
  | p :: r, h => by
    simp only [lookR] at h
    split at h
    · rename_i hc
      injection h with h
      exact ⟨p, by simp, hc, h⟩
    · obtain ⟨x, hx, h1, h2⟩ := lookR_some h
      exact ⟨x, by simp [hx], h1, h2⟩
theorem lookR_none {q : Val} : ∀ {l : List Val}, lookR q l = none → ∀ p ∈ l, p.k0.cmp q ≠ 0
  | p :: r, h, x, hx => by
    simp only [lookR] at h
    split at h
    · cases h
    · rename_i hc
      rcases List.mem_cons.1 hx with e | hx
      · rw [e]; exact hc
      · exact lookR_none h x hx
theorem lookR_at {l : List Val} (hp : ∀ p ∈ l, p.pair = true) (hs : Shp l) (hi : KeyInj l) {p : Val} (h : p ∈ l) : lookR p.k0 l = some p.k1 := by
  have hps := k0_shaped (hp p h) (hs p h)
  cases hl : lookR p.k0 l with
  | none => exact absurd (cmp_self hps) (lookR_none hl p h)
  | some u =>
    obtain ⟨x, hx, h1, h2⟩ := lookR_some hl
    have := hi x hx p h ((cmp_zero _ _ (k0_shaped (hp x hx) (hs x hx)) hps).1 h1)
    rw [← h2, this]

/-- The pairs after laying. -/
def layL (key v : Val) (l : List Val) : List Val := mg (delL key l) [tupV [key, v]]

theorem del_mem {key : Val} {l : List Val} (hk : Keyed l) (hs : Shp l) (sk : key.shaped = true) {x : Val} : x ∈ delL key l ↔ x ∈ l ∧ x.k0 ≠ key := by
  unfold delL
  rw [List.mem_filter]
  refine and_congr_right fun hx => ?_
  have hx0 := k0_shaped (hk.pair x hx) (hs x hx)
  simp only [isK, Bool.not_eq_true', decide_eq_false_iff_not, pc_cmp _ _ hx0 sk, cmp_zero _ _ hx0 sk, ne_eq]
section
variable {key v : Val} {l : List Val} (hk : Keyed l) (hs : Shp l) (hu : Up l) (sk : key.shaped = true) (sv : v.shaped = true)
include hk hs hu sk sv

theorem lay_up : Up (layL key v l) ∧ ∀ x, x ∈ layL key v l ↔ (x ∈ l ∧ x.k0 ≠ key) ∨ x = tupV [key, v] := by
  have ht := tup_shaped sk sv
  have s1 : Shp (delL key l) := fun u h => hs u ((del_mem hk hs sk).1 h).1
  obtain ⟨h4, h5⟩ := mg_up (delL key l) [tupV [key, v]] s1 (fun u hu => by simp only [List.mem_singleton] at hu; rw [hu]; exact ht) (hu.filter _) (List.pairwise_singleton _ _)
  refine ⟨h4, fun x => ?_⟩
  rw [show layL key v l = mg (delL key l) [tupV [key, v]] from rfl, h5 x, del_mem hk hs sk, List.mem_singleton]
theorem lay_shp : Shp (layL key v l) := fun x hx => by
  rcases ((lay_up hk hs hu sk sv).2 x).1 hx with h | h
  · exact hs x h.1
  · rw [h]; exact tup_shaped sk sv
theorem lay_pair : ∀ p ∈ layL key v l, p.pair = true := fun x hx => by
  rcases ((lay_up hk hs hu sk sv).2 x).1 hx with h | h
  · exact hk.pair x h.1
  · rw [h]; rfl
theorem lay_inj : KeyInj (layL key v l) := by
  intro x hx y hy e
  rcases ((lay_up hk hs hu sk sv).2 x).1 hx with h | h <;> rcases ((lay_up hk hs hu sk sv).2 y).1 hy with h' | h'
  · exact hk.inj hs x h.1 y h'.1 e
  · exact absurd (by rw [e, h']; rfl) h.2
  · exact absurd (by rw [← e, h]; rfl) h'.2
  · rw [h, h']
theorem lay_keyed : Keyed (layL key v l) := keyed_of (lay_pair hk hs hu sk sv) (lay_shp hk hs hu sk sv) (lay_up hk hs hu sk sv).1 (lay_inj hk hs hu sk sv)

/-- What was laid is found. -/
theorem lay_found : lookR key (layL key v l) = some v :=
  lookR_at (p := tupV [key, v]) (lay_pair hk hs hu sk sv) (lay_shp hk hs hu sk sv) (lay_inj hk hs hu sk sv) (((lay_up hk hs hu sk sv).2 _).2 (.inr rfl))
/-- What is laid twice is laid once. -/
theorem lay_again : layL key v (layL key v l) = layL key v l := by
  have hk' := lay_keyed hk hs hu sk sv
  have hs' := lay_shp hk hs hu sk sv
  have hu' := (lay_up hk hs hu sk sv).1
  refine up_ext _ _ (lay_shp hk' hs' hu' sk sv) hs' (lay_up hk' hs' hu' sk sv).1 hu' fun x => ?_
  rw [(lay_up hk' hs' hu' sk sv).2 x, (lay_up hk hs hu sk sv).2 x]
  constructor
  · rintro (⟨h, _⟩ | h)
    · exact h
    · exact .inr h
  · rintro (h | h)
    · exact .inl ⟨.inl h, h.2⟩
    · exact .inr h
/-- For another key there is what was there before. -/
theorem lay_other {q : Val} (sq : q.shaped = true) (hq : q ≠ key) : lookR q (layL key v l) = lookR q l := by
  cases h : lookR q l with
  | some u =>
    obtain ⟨p, hp, h1, h2⟩ := lookR_some h
    have e := (cmp_zero _ _ (k0_shaped (hk.pair p hp) (hs p hp)) sq).1 h1
    rw [← h2, ← e]
    exact lookR_at (lay_pair hk hs hu sk sv) (lay_shp hk hs hu sk sv) (lay_inj hk hs hu sk sv) (((lay_up hk hs hu sk sv).2 _).2 (.inl ⟨hp, by rw [e]; exact hq⟩))
  | none =>
    cases h' : lookR q (layL key v l) with
    | none => rfl
    | some u =>
      obtain ⟨p, hp, h1, h2⟩ := lookR_some h'
      rcases ((lay_up hk hs hu sk sv).2 p).1 hp with h3 | h3
      · exact absurd h1 (lookR_none h p h3.1)
      · rw [h3] at h1
        exact absurd ((cmp_zero key q sk sq).1 h1).symm hq
/-- The keys are those of before, and this one. -/
theorem lay_keys {q : Val} (sq : q.shaped = true) : inL q ((layL key v l).map Val.k0) = (inL q (l.map Val.k0) || q.eqb key) := by
  have key' : ∀ m : List Val, (∀ p ∈ m, p.pair = true) → Shp m → (inL q (m.map Val.k0) = true ↔ ∃ p ∈ m, p.k0 = q) := fun m hp hm => by
    unfold inL
    rw [List.any_map, List.any_eq_true]
    constructor
    · rintro ⟨p, h1, h2⟩
      exact ⟨p, h1, (cmp_zero _ _ (k0_shaped (hp p h1) (hm p h1)) sq).1 (of_decide_eq_true h2)⟩
    · rintro ⟨p, h1, h2⟩
      exact ⟨p, h1, decide_eq_true ((cmp_zero _ _ (k0_shaped (hp p h1) (hm p h1)) sq).2 h2)⟩
  rw [Bool.eq_iff_iff, Bool.or_eq_true, key' _ (lay_pair hk hs hu sk sv) (lay_shp hk hs hu sk sv), key' _ hk.pair hs, eqb_iff]
  constructor
  · rintro ⟨p, hp, e⟩
    rcases ((lay_up hk hs hu sk sv).2 p).1 hp with h | h
    · exact .inl ⟨p, h.1, e⟩
    · right; rw [← e, h]; rfl
  · rintro (⟨p, hp, e⟩ | e)
    · by_cases h : p.k0 = key
      · exact ⟨tupV [key, v], ((lay_up hk hs hu sk sv).2 _).2 (.inr rfl), by rw [← e, h]; rfl⟩
      · exact ⟨p, ((lay_up hk hs hu sk sv).2 _).2 (.inl ⟨hp, h⟩), e⟩
    · exact ⟨tupV [key, v], ((lay_up hk hs hu sk sv).2 _).2 (.inr rfl), by rw [e]; rfl⟩
end

theorem set_valid {l : List Val} (hs : Shp l) (hu : Up l) (hf : (setV l).fits = true) : (setV l).isSet = true := by
  have h1 := (fits_iff _).1 hf
  have : (setV l).shaped = true := by
    rw [shaped_eq]
    simp only [setV_ps, setV_k, setV_n, setV_t, own75, Bool.and_eq_true]
    refine ⟨List.all_eq_true.2 hs, ?_⟩
    simp [incr_sorted l (up_incr.1 hu)]
  simp [Val.isSet, (valid_iff _).2 ⟨h1, this⟩]
theorem set_map {l : List Val} (hk : Keyed l) (hs : Shp l) (hu : Up l) (hf : (setV l).fits = true) : (setV l).isMap = true := by
  unfold Val.isMap
  rw [set_valid hs hu hf, setV_ps, (mapL_keyed hs hu).2 hk]; rfl
end Go.Vi
end
