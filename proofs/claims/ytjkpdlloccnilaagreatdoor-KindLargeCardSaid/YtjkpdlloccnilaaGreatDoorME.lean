/- It is proved here that the evaluator of the program's functions agrees with the model's run; no condition. This part: a function's call, and the loops over functions. -/
import Derived.Test.YtjkpdlloccnilaaGreatDoorMD
set_option linter.unusedVariables false
set_option linter.unusedSimpArgs false

section
/- Vi, part 21: functions. No conditions. -/
namespace Go.Vi
open Go Go.Lib

def mkF : Nat → List D → Fr
  | _, [] => []
  | k, d :: r => (k, d) :: mkF (k + 1) r

def resD (P : Program) (F : Fr) (H : Hp) : List ResultVar → Option (List D)
  | [] => some []
  | .tmp t :: r =>
    match resD P F H r with
    | some ds => some (look F t :: ds)
    | none => none
  | .cell a t :: r =>
    match aggOf P t, szOf P t with
    | some ag, some n =>
      match loadD H (look F a) ag n, resD P F H r with
      | some d, some ds => some (d :: ds)
      | _, _ => none
    | _, _ => none

mutual
/-- The rows within are never written again. -/
def D.frz (A : List Arr) : D → List Arr
  | .own i ver =>
    match Hp.live A i ver with
    | some ar => if ar.fz = true then A else A.set i { ar with fz := true }
    | none => A
  | .agg l => D.frzs A l
  | .ifc _ x => D.frz A x
  | _ => A
def D.frzs (A : List Arr) : List D → List Arr
  | [] => A
  | d :: r => D.frzs (D.frz A d) r
end
@[simp] theorem frz_p (A : List Arr) (x : PD) : D.frz A (.p x) = A := by simp only [D.frz]
@[simp] theorem frz_lit (A : List Arr) (n : Bool) (l : List PD) : D.frz A (.lit n l) = A := by simp only [D.frz]
@[simp] theorem frz_ptr (A : List Arr) (i o : Nat) : D.frz A (.ptr i o) = A := by simp only [D.frz]
@[simp] theorem frz_elt (A : List Arr) (l : List PD) : D.frz A (.elt l) = A := by simp only [D.frz]
@[simp] theorem frz_oelt (A : List Arr) (i v k o : Nat) : D.frz A (.oelt i v k o) = A := by simp only [D.frz]
@[simp] theorem frz_fn (A : List Arr) (f : FuncId) (l : List D) : D.frz A (.fn f l) = A := by simp only [D.frz]
@[simp] theorem frz_tup (A : List Arr) (l : List D) : D.frz A (.tup l) = A := by simp only [D.frz]
@[simp] theorem frz_agg (A : List Arr) (l : List D) : D.frz A (.agg l) = D.frzs A l := by simp only [D.frz]
@[simp] theorem frz_ifc (A : List Arr) (t : TypeId) (x : D) : D.frz A (.ifc t x) = D.frz A x := by simp only [D.frz]
@[simp] theorem frz_emp (A : List Arr) : D.frz A .emp = A := by simp only [D.frz]
@[simp] theorem frz_dead (A : List Arr) : D.frz A .dead = A := by simp only [D.frz]
@[simp] theorem frz_mp (A : List Arr) (i : Nat) : D.frz A (.mp i) = A := by simp only [D.frz]
@[simp] theorem frz_bsl (A : List Arr) (i o n c : Nat) : D.frz A (.bsl i o n c) = A := by simp only [D.frz]
@[simp] theorem frz_yld (A : List Arr) (i : Nat) : D.frz A (.yld i) = A := by simp only [D.frz]
@[simp] theorem frz_clip (A : List Arr) (l : List PD) : D.frz A (.clip l) = A := by simp only [D.frz]
@[simp] theorem frz_bnd (A : List Arr) (f : FuncId) (l : List D) : D.frz A (.bnd f l) = A := by simp only [D.frz]
@[simp] theorem frzs_nil (A : List Arr) : D.frzs A [] = A := by simp only [D.frzs]
@[simp] theorem frzs_cons (A : List Arr) (d : D) (r : List D) : D.frzs A (d :: r) = D.frzs (D.frz A d) r := by simp only [D.frzs]
theorem frz_own (A : List Arr) (i ver : Nat) : D.frz A (.own i ver) = match Hp.live A i ver with | some ar => if ar.fz = true then A else A.set i { ar with fz := true } | none => A := by simp only [D.frz]

/-- A result: a row of the call's own is handed over as data. -/
def retD (nA : Nat) (A : List Arr) (d : D) : Option (D × List Arr) :=
  match d with
  | .own i ver => if i < nA then some (.own i ver, A) else argD false A (.own i ver)
  | d => argD false (D.frz A d) d

def retsD (nA : Nat) (A : List Arr) : List D → Option (List D × List Arr)
  | [] => some ([], A)
  | d :: r =>
    match retD nA A d with
    | some (x, A1) =>
      match retsD nA A1 r with
      | some (xs, A2) => some (x :: xs, A2)
      | none => none
    | none => none

def oneD : List D → D
  | [x] => x
  | xs => .tup xs

def retOut (P : Program) (rs : List ResultVar) (nB nA : Nat) (F : Fr) (H : Hp) : Option (Out × Hp) :=
  match resD P F H rs with
  | some ds =>
    match retsD nA H.A ds with
    | some (xs, A2) => if D.noRefs nB nA xs = true ∧ (H.B.take nB).all (blkNo nB nA) = true then some (.ret (oneD xs), Hp.cut ⟨H.B, A2⟩ nB nA) else some (.ret (oneD xs), ⟨H.B, A2⟩)
    | none => none
  | none => none

def fnOut (P : Program) (rs : List ResultVar) (nB nA : Nat) : Option CO → Option (Out × Hp)
  | some (.normal, F, H) => retOut P rs nB nA F H
  | some (.ret, F, H) => retOut P rs nB nA F H
  | some (.pan x, _, H) => if (H.B.take nB).all (blkNo nB nA) = true then some (.pan x, H.cut nB nA) else some (.pan x, H)
  | _ => none

/-- A result of which it is told whether it is nil. -/
def retN (nA : Nat) (A : List Arr) (d : D) : Option (D × List Arr) :=
  match d with
  | .lit n l => some (.lit n l, A)
  | .emp => some (.emp, A)
  | .own i ver =>
    if i < nA then some (.own i ver, A)
    else
      match Hp.live A i ver with
      | some ar => if ar.els = [] then some (if ar.nil = true then .lit true [] else .emp, A) else argD false A (.own i ver)
      | none => none
  | d => argD false A d

def retsN (nA : Nat) (A : List Arr) : List D → Option (List D × List Arr)
  | [] => some ([], A)
  | d :: r =>
    match retN nA A d with
    | some (x, A1) =>
      match retsN nA A1 r with
      | some (xs, A2) => some (x :: xs, A2)
      | none => none
    | none => none

def retOutN (P : Program) (rs : List ResultVar) (nB nA : Nat) (F : Fr) (H : Hp) : Option (Out × Hp) :=
  match resD P F H rs with
  | some ds =>
    match retsN nA H.A ds with
    | some (xs, A2) => if D.noRefs nB nA xs = true ∧ (H.B.take nB).all (blkNo nB nA) = true then some (.ret (oneD xs), Hp.cut ⟨H.B, A2⟩ nB nA) else some (.ret (oneD xs), ⟨H.B, A2⟩)
    | none => none
  | none => none

def fnOutN (P : Program) (rs : List ResultVar) (nB nA : Nat) : Option CO → Option (Out × Hp)
  | some (.normal, F, H) => retOutN P rs nB nA F H
  | some (.ret, F, H) => retOutN P rs nB nA F H
  | some (.pan x, _, H) => if (H.B.take nB).all (blkNo nB nA) = true then some (.pan x, H.cut nB nA) else some (.pan x, H)
  | _ => none

/-- New rows are handed over as they are. -/
def fnOutO (P : Program) (rs : List ResultVar) : Option CO → Option (Out × Hp)
  | some (.normal, F, H) => (resD P F H rs).map fun ds => (.ret (oneD ds), H)
  | some (.ret, F, H) => (resD P F H rs).map fun ds => (.ret (oneD ds), H)
  | some (.pan x, _, H) => some (.pan x, H)
  | _ => none

def okFn (P : Program) (ch : CH) (f : FuncId) : Bool :=
  plainFn P f && match P.funcs[f]? with
    | some fn =>
      match fn.body with
      | some c => okC ch f fn.ntmps c
      | none => false
    | none => false

noncomputable def evalFun (P : Program) (hn : Hints) (ch : CH) (cal : Cal) : Cal := fun f args H =>
  match P.funcs[f]? with
  | none => none
  | some fn =>
    match fn.body with
    | none => none
    | some c =>
      if okFn P ch f = true ∧ args.length ≤ fn.ntmps then
        if ch.opn f = true then fnOutO P fn.results.toList (evalC P hn ch (hn.mutF f) ⟨0, 0⟩ cal f c (mkF 0 args) H)
        else if ch.keepN f = true then fnOutN P fn.results.toList H.B.length H.A.length (evalC P hn ch (hn.mutF f) ⟨0, 0⟩ cal f c (mkF 0 args) H)
        else fnOut P fn.results.toList H.B.length H.A.length (evalC P hn ch (hn.mutF f) ⟨0, 0⟩ cal f c (mkF 0 args) H)
      else none

section
variable {P : Program} {hn : Hints} {ch : CH}

theorem evalFun_mono {c d : Cal} (h : CalLe c d) : CalLe (evalFun P hn ch c) (evalFun P hn ch d) := by
  intro f args H r hr
  unfold evalFun at *
  split at hr
  · cases hr
  · split at hr
    · cases hr
    · rename_i fn hf _ c' hb
      split at hr
      · rename_i hk
        simp only [hb, if_pos hk]
        cases he : evalC P hn ch (hn.mutF f) ⟨0, 0⟩ c f c' (mkF 0 args) H with
        | none => rw [he] at hr; (repeat' split at hr) <;> cases hr
        | some r1 => rw [he] at hr; rw [evalC_mono h _ _ _ _ he]; exact hr
      · cases hr

mutual
theorem frz_len : ∀ (d : D) (A : List Arr), (D.frz A d).length = A.length
  | .own i ver, A => by
    rw [frz_own]
    split
    · split <;> simp
    · rfl
  | .agg l, A => by rw [frz_agg]; exact frzs_len l A
  | .ifc _ x, A => by rw [frz_ifc]; exact frz_len x A
  | .p _, A => by simp
  | .lit _ _, A => by simp
  | .ptr _ _, A => by simp
  | .elt _, A => by simp
  | .oelt _ _ _ _, A => by simp
  | .fn _ _, A => by simp
  | .tup _, A => by simp
  | .yld _, A => by simp
  | .mp _, A => by simp
  | .bsl _ _ _ _, A => by simp
  | .emp, A => by simp
  | .clip _, A => by simp
  | .bnd _ _, A => by simp
  | .dead, A => by simp
theorem frzs_len : ∀ (l : List D) (A : List Arr), (D.frzs A l).length = A.length
  | [], A => by simp
  | d :: r, A => by rw [frzs_cons, frzs_len r, frz_len d]
end

theorem retsD_len {nA : Nat} : ∀ {l xs : List D} {A A1 : List Arr}, retsD nA A l = some (xs, A1) → A1.length = A.length := by
  have one : ∀ {d x : D} {A A1 : List Arr}, retD nA A d = some (x, A1) → A1.length = A.length := by
    intro d x A A1 h
    have viaArgs : ∀ {d x : D} {A A1 : List Arr}, argD false A d = some (x, A1) → A1.length = A.length := by
      intro d x A A1 h
      have : argsD false A [d] = some ([x], A1) := by simp only [argsD, h]
      exact argsD_len this
    unfold retD at h
    split at h
    · split at h
      · simp only [Option.some.injEq, Prod.mk.injEq] at h; rw [← h.2]
      · exact viaArgs h
    · rw [viaArgs h, frz_len]
  intro l
  induction l with
  | nil =>
    intro xs A A1 h
    simp only [retsD, Option.some.injEq, Prod.mk.injEq] at h
    rw [← h.2]
  | cons d r ih =>
    intro xs A A1 h
    simp only [retsD] at h
    split at h
    · rename_i x A2 hx
      split at h
      · rename_i ys A3 hy
        simp only [Option.some.injEq, Prod.mk.injEq] at h
        rw [← h.2, ih hy, one hx]
      · cases h
    · cases h

theorem look_mkF : ∀ (l : List D) (k t : Nat), look (mkF k l) t = if k ≤ t then (l[t - k]?).getD .dead else .dead
  | [], k, t => by simp [mkF, look]
  | d :: r, k, t => by
    simp only [mkF, look]
    rw [look_mkF r (k + 1) t]
    by_cases h : k = t
    · subst h; simp
    · rw [if_neg h]
      by_cases h1 : k ≤ t
      · rw [if_pos h1, if_pos (by omega), show t - k = (t - (k + 1)) + 1 by omega]; simp
      · rw [if_neg h1, if_neg (by omega)]

theorem frz_plain {w : World} {g : Gh} {H : Hp} (hi : Inv w g H) : ∃ g', Inv w g' { H with A := H.A } ∧ Ext w g H.A w g' H.A := ⟨g, hi, Ext.refl _ _ _⟩
mutual
theorem frz_sound {w : World} : ∀ (d : D) (v : Value) (g : Gh) (H : Hp), Inv w g H → RepD w g H.A d v → ∃ g', Inv w g' { H with A := D.frz H.A d } ∧ Ext w g H.A w g' (D.frz H.A d)
  | .own i ver, v, g, H, hi, hd => by
    rw [frz_own]
    cases hl : Hp.live H.A i ver with
    | none => exact frz_plain hi
    | some ar =>
      obtain ⟨g', h1, h2, _⟩ := arg_sound (own := false) hi hd (x := .p (.sl ar.els)) (A1 := if ar.fz = true then H.A else H.A.set i { ar with fz := true }) (by simp only [argD, hl]; rfl)
      exact ⟨g', h1, h2⟩
  | .agg l, v, g, H, hi, hd => by
    rw [frz_agg]
    refine frzs_sound l g H hi ?_
    cases hd with
    | agg _ cs hs h =>
      intro x hx
      obtain ⟨j, hj⟩ := List.getElem?_of_mem hx
      have hlt : j < cs.size := by rw [hs]; exact (List.getElem?_eq_some_iff.1 hj).1
      exact ⟨cs[j], h j x cs[j] hj (by simp [hlt])⟩
  | .ifc _ x, v, g, H, hi, hd => by
    rw [frz_ifc]
    cases hd with
    | ifc _ _ u h => exact frz_sound x u g H hi h
  | .p _, _, g, H, hi, _ => by rw [frz_p]; exact frz_plain hi
  | .lit _ _, _, g, H, hi, _ => by rw [frz_lit]; exact frz_plain hi
  | .ptr _ _, _, g, H, hi, _ => by rw [frz_ptr]; exact frz_plain hi
  | .elt _, _, g, H, hi, _ => by rw [frz_elt]; exact frz_plain hi
  | .oelt _ _ _ _, _, g, H, hi, _ => by rw [frz_oelt]; exact frz_plain hi
  | .fn _ _, _, g, H, hi, _ => by rw [frz_fn]; exact frz_plain hi
  | .tup _, _, g, H, hi, _ => by rw [frz_tup]; exact frz_plain hi
  | .yld _, _, g, H, hi, _ => by rw [frz_yld]; exact frz_plain hi
  | .mp _, _, g, H, hi, _ => by rw [frz_mp]; exact frz_plain hi
  | .bsl _ _ _ _, _, g, H, hi, _ => by rw [frz_bsl]; exact frz_plain hi
  | .emp, _, g, H, hi, _ => by rw [frz_emp]; exact frz_plain hi
  | .clip _, _, g, H, hi, _ => by rw [frz_clip]; exact frz_plain hi
  | .bnd _ _, _, g, H, hi, _ => by rw [frz_bnd]; exact frz_plain hi
  | .dead, _, g, H, hi, _ => by rw [frz_dead]; exact frz_plain hi
theorem frzs_sound {w : World} : ∀ (l : List D) (g : Gh) (H : Hp), Inv w g H → (∀ x ∈ l, ∃ v, RepD w g H.A x v) → ∃ g', Inv w g' { H with A := D.frzs H.A l } ∧ Ext w g H.A w g' (D.frzs H.A l)
  | [], g, H, hi, _ => by rw [frzs_nil]; exact frz_plain hi
  | d :: r, g, H, hi, h => by
    obtain ⟨v, hv⟩ := h d (by simp)
    obtain ⟨g1, hi1, he1⟩ := frz_sound d v g H hi hv
    obtain ⟨g2, hi2, he2⟩ := frzs_sound r g1 { H with A := D.frz H.A d } hi1 fun x hx => by
      obtain ⟨u, hu⟩ := h x (by simp [hx])
      exact ⟨u, hu.ext he1⟩
    rw [frzs_cons]
    exact ⟨g2, hi2, he1.trans he2⟩
end

theorem ret_sound {w : World} {g : Gh} {H : Hp} (hi : Inv w g H) {nA : Nat} {d x : D} {v : Value} {A1 : List Arr} (hd : RepD w g H.A d v) (h : retD nA H.A d = some (x, A1)) :
    ∃ g', Inv w g' { H with A := A1 } ∧ Ext w g H.A w g' A1 ∧ RepD w g' A1 x v := by
  unfold retD at h
  split at h
  · split at h
    · simp only [Option.some.injEq, Prod.mk.injEq] at h
      obtain ⟨rfl, rfl⟩ := h
      exact ⟨g, hi, Ext.refl _ _ _, hd⟩
    · exact arg_sound hi hd h
  · obtain ⟨g1, hi1, he1⟩ := frz_sound d v g H hi hd
    obtain ⟨g2, hi2, he2, hr2⟩ := arg_sound hi1 (hd.ext he1) h
    exact ⟨g2, hi2, he1.trans he2, hr2⟩

theorem rets_sound {w : World} {nA : Nat} : ∀ (ds xs : List D) (vs : List Value) (g : Gh) (H : Hp) (A1 : List Arr), Inv w g H → PW w g H.A ds vs → retsD nA H.A ds = some (xs, A1) →
    ∃ g', Inv w g' { H with A := A1 } ∧ Ext w g H.A w g' A1 ∧ PW w g' A1 xs vs := by
  intro ds
  induction ds with
  | nil =>
    intro xs vs g H A1 hi hp h
    simp only [retsD, Option.some.injEq, Prod.mk.injEq] at h
    obtain ⟨rfl, rfl⟩ := h
    exact ⟨g, hi, Ext.refl _ _ _, hp⟩
  | cons d r ih =>
    intro xs vs g H A1 hi hp h
    simp only [retsD] at h
    split at h
    · rename_i x A2 hx
      split at h
      · rename_i ys A3 hys
        simp only [Option.some.injEq, Prod.mk.injEq] at h
        obtain ⟨rfl, rfl⟩ := h
        cases vs with
        | nil => have := hp.1; simp at this
        | cons v vs =>
          obtain ⟨g1, hi1, he1, hr1⟩ := ret_sound hi (hp.2 0 d v (by simp) (by simp)) hx
          obtain ⟨g2, hi2, he2, hp2⟩ := ih ys vs g1 { H with A := A2 } A3 hi1 ⟨by have := hp.1; simpa using this, fun j d u hd hu => (hp.2 (j + 1) d u (by simpa using hd) (by simpa using hu)).ext he1⟩ hys
          refine ⟨g2, hi2, he1.trans he2, by simp [hp2.1], fun j e u he hu => ?_⟩
          cases j with
          | zero => simp at he hu; subst he; subst hu; exact hr1.ext he2
          | succ j => exact hp2.2 j e u (by simpa using he) (by simpa using hu)
      · cases h
    · cases h

theorem retN_sound {w : World} {g : Gh} {H : Hp} (hi : Inv w g H) {nA : Nat} {d x : D} {v : Value} {A1 : List Arr} (hd : RepD w g H.A d v) (h : retN nA H.A d = some (x, A1)) :
    ∃ g', Inv w g' { H with A := A1 } ∧ Ext w g H.A w g' A1 ∧ RepD w g' A1 x v := by
  have raw : some (d, H.A) = some (x, A1) → ∃ g', Inv w g' { H with A := A1 } ∧ Ext w g H.A w g' A1 ∧ RepD w g' A1 x v := fun h => by
    simp only [Option.some.injEq, Prod.mk.injEq] at h
    obtain ⟨rfl, rfl⟩ := h
    exact ⟨g, hi, Ext.refl _ _ _, hd⟩
  unfold retN at h
  split at h
  · exact raw h
  · exact raw h
  · split at h
    · exact raw h
    · split at h
      · rename_i ar hl
        split at h
        · rename_i he
          simp only [Option.some.injEq, Prod.mk.injEq] at h
          obtain ⟨rfl, rfl⟩ := h
          refine ⟨g, hi, Ext.refl _ _ _, ?_⟩
          obtain ⟨_, _, q, _, rfl, _, hA⟩ := own_live hi hd hl
          rw [he]
          cases q with
          | none =>
            rw [if_pos hA.2]
            exact .litN
          | some q =>
            obtain ⟨b, cap⟩ := q
            rw [if_neg (by rw [hA.1]; simp)]
            exact .emp _ _
        · exact arg_sound hi hd h
      · cases h
  · exact arg_sound hi hd h

theorem retsN_sound {w : World} {nA : Nat} : ∀ (ds xs : List D) (vs : List Value) (g : Gh) (H : Hp) (A1 : List Arr), Inv w g H → PW w g H.A ds vs → retsN nA H.A ds = some (xs, A1) →
    ∃ g', Inv w g' { H with A := A1 } ∧ Ext w g H.A w g' A1 ∧ PW w g' A1 xs vs := by
  intro ds
  induction ds with
  | nil =>
    intro xs vs g H A1 hi hp h
    simp only [retsN, Option.some.injEq, Prod.mk.injEq] at h
    obtain ⟨rfl, rfl⟩ := h
    exact ⟨g, hi, Ext.refl _ _ _, hp⟩
  | cons d r ih =>
    intro xs vs g H A1 hi hp h
    simp only [retsN] at h
    split at h
    · rename_i x A2 hx
      split at h
      · rename_i ys A3 hys
        simp only [Option.some.injEq, Prod.mk.injEq] at h
        obtain ⟨rfl, rfl⟩ := h
        cases vs with
        | nil => have := hp.1; simp at this
        | cons v vs =>
          obtain ⟨g1, hi1, he1, hr1⟩ := retN_sound hi (hp.2 0 d v (by simp) (by simp)) hx
          obtain ⟨g2, hi2, he2, hp2⟩ := ih ys vs g1 { H with A := A2 } A3 hi1 ⟨by have := hp.1; simpa using this, fun j d u hd hu => (hp.2 (j + 1) d u (by simpa using hd) (by simpa using hu)).ext he1⟩ hys
          refine ⟨g2, hi2, he1.trans he2, by simp [hp2.1], fun j e u he hu => ?_⟩
          cases j with
          | zero => simp at he hu; subst he; subst hu; exact hr1.ext he2
          | succ j => exact hp2.2 j e u (by simpa using he) (by simpa using hu)
      · cases h
    · cases h

theorem run_cellVar {w : World} {t : TypeId} {v u : Value} (h : (Instr.loadAt t v).run P w = .ok u w) (hp : ∃ a, v = .pointer (some a)) : (do loadVar t (← asAddr v) : Sem Value).run P w = .ok u w := by
  obtain ⟨a, rfl⟩ := hp
  simpa [Instr.loadAt, Instr.sureAddr, asAddr] using h

theorem load_ptr {w : World} {g : Gh} {H : Hp} (hi : Inv w g H) {ag : Bool} {n : Nat} {d r : D} {v : Value} (hd : RepD w g H.A d v) (h : loadD H d ag n = some r) : ∃ a, v = .pointer (some a) := by
  cases hd with
  | ptr i off b hb => exact ⟨_, rfl⟩
  | elt l b o h' => exact ⟨_, rfl⟩
  | oelt i ver k off _ hi' hv h' =>
    simp only [loadD] at h
    split at h
    · rename_i ar hl
      unfold Hp.live at hl
      split at hl
      · rename_i ar' har
        split at hl
        · rename_i hver
          obtain ⟨b, cap, _, rfl⟩ := (h' ar' har).2 hver
          exact ⟨_, rfl⟩
        · cases hl
      · cases hl
    · cases h
  | _ => cases h

theorem res_sound {w : World} {g : Gh} {F : Fr} {H : Hp} {a : Act} {N : Fm} (hs : Sim w g F H a N) (fn : ResultVar → Sem Value) (hf : ∀ u, fn (.tmp u) = pure (a.tmps.getD u undef))
    (hc : ∀ p t, fn (.cell p t) = (do loadVar t (← asAddr (a.tmps.getD p undef)))) : ∀ (rs : List ResultVar) (ds : List D), resD P F H rs = some ds →
    ∃ vs, (rs.mapM fn).run P w = .ok vs w ∧ PW w g H.A ds vs := by
  intro rs
  induction rs with
  | nil =>
    intro ds h
    simp only [resD, Option.some.injEq] at h
    subst h
    exact ⟨[], by simp, PW.nil⟩
  | cons r rs ih =>
    intro ds h
    cases r with
    | tmp t =>
      simp only [resD] at h
      split at h
      · rename_i ds' h1
        injection h with h
        subst h
        obtain ⟨vs, h2, h3⟩ := ih ds' h1
        exact ⟨a.tmps.getD t undef :: vs, by simp [List.mapM_cons, hf, h2], PW.cons (hs.fr t) h3⟩
      · cases h
    | cell p t =>
      simp only [resD] at h
      split at h
      · rename_i ag n hag hn
        split at h
        · rename_i d ds' hl h1
          injection h with h
          subst h
          obtain ⟨vs, h2, h3⟩ := ih ds' h1
          obtain ⟨u, hu, hr⟩ := load_sound (P := P) hs.inv hag hn (hs.fr p) hl
          have := run_cellVar hu (load_ptr hs.inv (hs.fr p) hl)
          refine ⟨u :: vs, ?_, PW.cons hr h3⟩
          rw [List.mapM_cons, hc]
          rw [Sem.run_bind, this]
          simp [h2]
        · cases h
      · cases h

theorem results_sound {w : World} {g : Gh} {F : Fr} {H : Hp} {a : Act} {N : Fm} (hs : Sim w g F H a N) {fn : Func} {ds : List D} (h : resD P F H fn.results.toList = some ds) :
    ∃ vs, (results fn a.tmps).run P w = .ok (if h : vs.toArray.size = 1 then vs.toArray[0] else .tuple vs.toArray) w ∧ PW w g H.A ds vs := by
  obtain ⟨vs, hrun, hpw⟩ := res_sound (P := P) hs (fun r => match r with | .tmp t => pure (a.tmps.getD t undef) | .cell p t => do loadVar t (← asAddr (a.tmps.getD p undef)))
    (fun _ => rfl) (fun _ _ => rfl) _ _ h
  refine ⟨vs, ?_, hpw⟩
  unfold results
  rw [show fn.results = fn.results.toList.toArray by simp, List.mapM_toArray]
  simp only [Sem.run_bind, Sem.run_map]
  rw [show (List.mapM _ fn.results.toList : Sem (List Value)).run P w = .ok vs w from (by
    refine Eq.trans (congrArg (fun φ => (List.mapM φ fn.results.toList : Sem (List Value)).run P w) ?_) hrun
    funext r; cases r <;> rfl)]
  simp

/-- What is put off at a function's end is taken up: blocks of their own are shut. -/
structure Took (s : Nat) (w w' : World) : Prop where
  heap : ∀ b, b < s → w'.heap[b]? = w.heap[b]?
  size : w'.heap.size = w.heap.size
  cell : ∀ b o, w'.cell? ⟨b, o, none⟩ = w.cell? ⟨b, o, none⟩
  os : w'.os = w.os
  tape : w'.tape = w.tape
  output : Outs w w'

theorem Took.refl (s : Nat) (w : World) : Took s w w := ⟨fun _ _ => rfl, rfl, fun _ _ => rfl, rfl, rfl, .same rfl rfl⟩
theorem Took.trans {s : Nat} {w w1 w2 : World} (h : Took s w w1) (k : Took s w1 w2) : Took s w w2 :=
  ⟨fun b hb => (k.heap b hb).trans (h.heap b hb), k.size.trans h.size, fun b o => (k.cell b o).trans (h.cell b o), k.os.trans h.os, k.tape.trans h.tape, h.output.trans k.output⟩

theorem Took.rep {s : Nat} {w w' : World} {g : Gh} {A : List Arr} (h : Took s w w') {d : D} {v : Value} (hd : RepD w g A d v) : RepD w' g A d v :=
  hd.ext0 (fun _ _ h => h) ⟨fun _ _ h => h, fun b o _ => h.cell b o⟩ (Nat.le_refl _) fun i ar' _ h => ⟨ar', h, Nat.le_refl _, rfl, fun _ => ⟨rfl, rfl⟩⟩

theorem Took.ext {w0 w w' : World} {g0 g : Gh} {A0 A : List Arr} (h : Took w0.heap.size w w') (he : Ext w0 g0 A0 w g A) : Ext w0 g0 A0 w' g A :=
  ⟨he.ptr, ⟨he.same.inn, fun b o hi => (h.cell b o).trans (he.same.cell b o hi)⟩, he.lenA, he.row, fun b hb ho => (h.heap b hb).trans (he.heap b hb ho), by rw [h.size]; exact he.size, he.owned,
    h.os.trans he.os, h.tape.trans he.tape, he.output.trans h.output, he.news⟩

theorem take_one {s b : Nat} {w : World} {g : Gh} {H : Hp} (hi : Inv w g H) (hs : s ≤ b) (hb : b ∉ g.owned) (hd : w.heap[b]? = some (.deferred (some []))) :
    Inv (w.putObj b (.deferred none)) g H ∧ Took s w (w.putObj b (.deferred none)) := by
  have hne : ∀ k, k ≠ b → (w.putObj b (.deferred none)).heap[k]? = w.heap[k]? := fun k hk => World.putObj_heap_other hk
  have hlt := (Array.getElem?_eq_some_iff.1 hd).1
  have ht : Took s w (w.putObj b (.deferred none)) := by
    refine ⟨fun k hk => hne k (by omega), World.putObj_size, fun k o => ?_, rfl, rfl, .same rfl rfl⟩
    by_cases h : k = b
    · subst h
      simp only [World.cell?, hd, World.putObj_heap_same hlt]
    · simp only [World.cell?, hne k h]
  refine ⟨⟨hi.lenB, hi.lenA, fun i bk c h1 h2 => ?_, fun i ar q h1 h2 => ?_, hi.nB, hi.nBA, hi.nA, fun k hk => by rw [ht.size]; exact hi.lt k hk, hi.iB, hi.iA, fun k o h => by rw [ht.size]; exact hi.iLt k o h, ⟨fun e => by
    obtain ⟨h1, ty, fr, h2⟩ := hi.tab.1 e
    have hne' : tabB ≠ b := fun e => by rw [e, hd] at h2; cases h2
    exact ⟨h1, ty, fr, (hne _ hne').trans h2⟩, fun k l hk => (hi.tab.2 k l hk).same ⟨fun _ _ h => h, fun k o _ => ht.cell k o⟩⟩, hi.hole⟩, ht⟩
  · have hc : c ≠ b := fun e => hb (e ▸ mem_ownedB h2)
    have := hi.blk i bk c h1 h2
    cases bk with
    | hole => trivial
    | cells l =>
      obtain ⟨cs, t, e1, e2, e3⟩ := this
      exact ⟨cs, t, (hne c hc).trans e1, e2, fun j d v k1 k2 => ht.rep (e3 j d v k1 k2)⟩
    | sit s' pos => exact (hne c hc).trans this
    | mset l =>
      obtain ⟨es, clock, k1, k2, k3⟩ := this
      exact ⟨es, clock, (hne c hc).trans k1, k2, fun j k x e hk hx => let ⟨r1, r2⟩ := k3 j k x e hk hx
        have hsm : Same w g.I (w.putObj b (.deferred none)) g.I := ⟨fun _ _ h => h, fun k o _ => ht.cell k o⟩
        ⟨r1.same hsm, r2.same hsm⟩⟩
    | lp st pend f F ps assign body =>
      obtain ⟨r, k1, k2, k3, k4, k5, k6, k7, k8⟩ := this
      exact ⟨r, (hne c hc).trans k1, k2, k3, k4, k5, k6, k7, fun t => ht.rep (k8 t)⟩
  · obtain ⟨h3, h4⟩ := hi.arr i ar q h1 h2
    exact ⟨h3, h4.ext ⟨fun _ _ h => h, fun k o _ => ht.cell k o⟩ fun c cap hq => hne c fun e => hb (e ▸ mem_ownedA (hq ▸ h2))⟩

theorem leaves_sound {Fe : Fence} {nn : Nat} {N : Fm} {g : Gh} {H : Hp} {fn : Func} {tmps : Array Value} {R : Ending → World → Prop} {u : FrameMode} (hu : u ≠ .run) : ∀ (ds : List Deferred) (w : World),
    Dfs N w g ds → Inv w g H → (∀ w', Inv w' g H → Took N.s w w' → LeavesIn Fe nn P fn tmps R [] u w') → LeavesInM Fe nn P fn tmps R ds u w := by
  intro ds
  induction ds with
  | nil => intro w hd hi hK; exact hK w hi (Took.refl _ _)
  | cons d ds ih =>
    intro w hd hi hK
    obtain ⟨b, hb1, hb2, hb3, hb4⟩ := hd.mark d (by simp)
    obtain ⟨hi1, ht1⟩ := take_one hi hb2 hb3 hb4
    refine ⟨hu, .inl ⟨b, _, by rw [hb1], run_takeDeferred hb4, ih _ ⟨by rw [ht1.size]; exact hd.le, fun d' hd' => ?_, (List.pairwise_cons.1 hd.apart).2, fun e => absurd (hd.non e) (by simp)⟩ hi1 fun w' hi' ht' => hK w' hi' (ht1.trans ht')⟩⟩
    obtain ⟨c, hc1, hc2, hc3, hc4⟩ := hd.mark d' (by simp [hd'])
    have hne : c ≠ b := fun e => (List.pairwise_cons.1 hd.apart).1 d' hd' (by rw [hb1, hc1, e])
    exact ⟨c, hc1, hc2, hc3, (World.putObj_heap_other hne).trans hc4⟩

theorem fun_sound {cal : Cal} (hc : CalOK P cal) (hmix : P.follows .mixedOrders = true) {f : FuncId} {args : List D} {H : Hp} {out : Out} {H' : Hp}
    (h : evalFun P hn ch cal f args H = some (out, H')) : plainFn P f = true ∧
    ∀ (w : World) (g : Gh) (vs : List Value), Inv w g H → PW w g H.A args vs → Calls P f vs.toArray w (CallPost w g H out H') := by
  unfold evalFun at h
  split at h
  · cases h
  · rename_i fn hf
    split at h
    · cases h
    · rename_i c hb
      split at h
      · rename_i hk
        obtain ⟨hk, hlen⟩ := hk
        simp only [okFn, Bool.and_eq_true, hf, hb] at hk
        refine ⟨hk.1, fun w g vs hi hp => (callsIn_wide (n := 0)).1 (callsIn_of_wp_marks hf hb trivial ?_)⟩
        have hs0 : Sim w g (mkF 0 args) H { tmps := vs.toArray ++ Array.replicate (fn.ntmps - vs.toArray.size) undef, defers := [] } ⟨fn.ntmps, w.heap.size, true⟩ := by
          have hlen' : vs.length = args.length := hp.1
          refine ⟨fun t => ?_, hi, by simp; omega, Dfs.nil (Nat.le_refl _)⟩
          rw [look_mkF]
          simp only [Nat.zero_le, if_true, Nat.sub_zero]
          cases ha : args[t]? with
          | none => exact .dead _
          | some d =>
            have hlt : t < vs.length := by rw [hlen']; exact (List.getElem?_eq_some_iff.1 ha).1
            have := hp.2 t d vs[t] ha (by simp [hlt])
            have e : (vs.toArray ++ Array.replicate (fn.ntmps - vs.toArray.size) undef).getD t undef = vs[t] := by
              rw [Array.getD_eq_getD_getElem?, Array.getElem?_append_left (by simpa using hlt)]
              simp [hlt]
            rw [e]
            exact this
        cases he : evalC P hn ch (hn.mutF f) ⟨0, 0⟩ cal f c (mkF 0 args) H with
        | none => rw [he] at h; (repeat' split at h) <;> cases h
        | some r1 =>
          rw [he] at h
          refine code_sound (m := ⟨0, 0⟩) (rd := none) hc hmix c w g _ H _ r1 _ hk.2 (fun e => (by cases e)) hs0 trivial he ?_
          have cutOK : ∀ {w' : World} {g' : Gh} {H1 : Hp}, Inv w' g' H1 → Ext w g H.A w' g' H1.A → (H1.B.take H.B.length).all (blkNo H.B.length H.A.length) = true →
              Inv w' (g'.cut H.B.length H.A.length) (H1.cut H.B.length H.A.length) ∧ Ext w g H.A w' (g'.cut H.B.length H.A.length) (H1.cut H.B.length H.A.length).A := fun hi' he' hall =>
            ⟨inv_cut hi' he'.lenA (all_blk hall), ext_cut he' (by rw [hi.lenB]; exact Nat.le_refl _) (Nat.le_refl _)⟩
          have ret : ∀ F1 H1, retOut P fn.results.toList H.B.length H.A.length F1 H1 = some (out, H') → ∀ a' w' g', Sim w' g' F1 H1 a' ⟨fn.ntmps, w.heap.size, true⟩ → Ext w g H.A w' g' H1.A →
              LeavesInM Fence.wide 0 P fn a'.tmps (CallPost w g H out H') a'.defers .returning w' := by
            intro F1 H1 h a' w' g' hs' he'
            refine leaves_sound (by simp) _ _ hs'.df hs'.inv fun w5 hi5 ht5 => ?_
            have hs5 : Sim w5 g' F1 H1 { a' with defers := [] } ⟨fn.ntmps, w.heap.size, true⟩ := ⟨fun t => ht5.rep (hs'.fr t), hi5, hs'.sz, Dfs.nil (by rw [ht5.size]; exact hs'.df.le)⟩
            have he5 : Ext w g H.A w5 g' H1.A := ht5.ext he'
            show ∃ v, (results fn a'.tmps).run P w5 = .ok v w5 ∧ CallPost w g H out H' (.returned v) w5
            unfold retOut at h
            split at h
            · rename_i ds hds
              split at h
              · rename_i xs A2 hx
                obtain ⟨vs', hres, hpw⟩ := results_sound (P := P) hs5 hds
                obtain ⟨g2, hi2, he2, hpw2⟩ := rets_sound ds xs vs' g' H1 A2 hs5.inv hpw hx
                have hsz : vs'.length = xs.length := hpw2.1
                have key : ∀ (g3 : Gh) (A3 : List Arr), (∀ (j : Nat) (d : D) (v : Value), xs[j]? = some d → vs'.toArray[j]? = some v → RepD w5 g3 A3 d v) →
                    RepD w5 g3 A3 (oneD xs) (if h : vs'.toArray.size = 1 then vs'.toArray[0] else .tuple vs'.toArray) := by
                  intro g3 A3 hcut
                  match xs, vs', hsz, hcut with
                  | [], [], _, _ => exact .tup [] #[] rfl (fun i x v h => by simp at h)
                  | [x], [v], _, hcut => exact hcut 0 x v (by simp) (by simp)
                  | x :: y :: r, v :: u :: s, hsz, hcut =>
                    have e : ¬ (v :: u :: s).toArray.size = 1 := by simp
                    rw [dif_neg e]
                    exact .tup (x :: y :: r) (v :: u :: s).toArray (by simpa using hsz) hcut
                split at h
                · rename_i hno
                  simp only [Option.some.injEq, Prod.mk.injEq] at h
                  obtain ⟨rfl, rfl⟩ := h
                  have he52 := he5.trans he2
                  obtain ⟨hi3, he3⟩ := cutOK hi2 he52 hno.2
                  exact ⟨_, hres, g2.cut H.B.length H.A.length, hi3, he3, _, rfl, key _ _ (RepD.cuts (by have := he52.lenA; exact this) xs hno.1 fun j d v h1 h2 => hpw2.2 j d v h1 (by simpa using h2))⟩
                · simp only [Option.some.injEq, Prod.mk.injEq] at h
                  obtain ⟨rfl, rfl⟩ := h
                  exact ⟨_, hres, g2, hi2, he5.trans he2, _, rfl, key _ _ fun j d v h1 h2 => hpw2.2 j d v h1 (by simpa using h2)⟩
              · cases h
            · cases h
          have retNs : ∀ F1 H1, retOutN P fn.results.toList H.B.length H.A.length F1 H1 = some (out, H') → ∀ a' w' g', Sim w' g' F1 H1 a' ⟨fn.ntmps, w.heap.size, true⟩ → Ext w g H.A w' g' H1.A →
              LeavesInM Fence.wide 0 P fn a'.tmps (CallPost w g H out H') a'.defers .returning w' := by
            intro F1 H1 h a' w' g' hs' he'
            refine leaves_sound (by simp) _ _ hs'.df hs'.inv fun w5 hi5 ht5 => ?_
            have hs5 : Sim w5 g' F1 H1 { a' with defers := [] } ⟨fn.ntmps, w.heap.size, true⟩ := ⟨fun t => ht5.rep (hs'.fr t), hi5, hs'.sz, Dfs.nil (by rw [ht5.size]; exact hs'.df.le)⟩
            have he5 : Ext w g H.A w5 g' H1.A := ht5.ext he'
            show ∃ v, (results fn a'.tmps).run P w5 = .ok v w5 ∧ CallPost w g H out H' (.returned v) w5
            unfold retOutN at h
            split at h
            · rename_i ds hds
              split at h
              · rename_i xs A2 hx
                obtain ⟨vs', hres, hpw⟩ := results_sound (P := P) hs5 hds
                obtain ⟨g2, hi2, he2, hpw2⟩ := retsN_sound ds xs vs' g' H1 A2 hs5.inv hpw hx
                have hsz : vs'.length = xs.length := hpw2.1
                have key : ∀ (g3 : Gh) (A3 : List Arr), (∀ (j : Nat) (d : D) (v : Value), xs[j]? = some d → vs'.toArray[j]? = some v → RepD w5 g3 A3 d v) →
                    RepD w5 g3 A3 (oneD xs) (if h : vs'.toArray.size = 1 then vs'.toArray[0] else .tuple vs'.toArray) := by
                  intro g3 A3 hcut
                  match xs, vs', hsz, hcut with
                  | [], [], _, _ => exact .tup [] #[] rfl (fun i x v h => by simp at h)
                  | [x], [v], _, hcut => exact hcut 0 x v (by simp) (by simp)
                  | x :: y :: r, v :: u :: s, hsz, hcut =>
                    have e : ¬ (v :: u :: s).toArray.size = 1 := by simp
                    rw [dif_neg e]
                    exact .tup (x :: y :: r) (v :: u :: s).toArray (by simpa using hsz) hcut
                split at h
                · rename_i hno
                  simp only [Option.some.injEq, Prod.mk.injEq] at h
                  obtain ⟨rfl, rfl⟩ := h
                  have he52 := he5.trans he2
                  obtain ⟨hi3, he3⟩ := cutOK hi2 he52 hno.2
                  exact ⟨_, hres, g2.cut H.B.length H.A.length, hi3, he3, _, rfl, key _ _ (RepD.cuts (by have := he52.lenA; exact this) xs hno.1 fun j d v h1 h2 => hpw2.2 j d v h1 (by simpa using h2))⟩
                · simp only [Option.some.injEq, Prod.mk.injEq] at h
                  obtain ⟨rfl, rfl⟩ := h
                  exact ⟨_, hres, g2, hi2, he5.trans he2, _, rfl, key _ _ fun j d v h1 h2 => hpw2.2 j d v h1 (by simpa using h2)⟩
              · cases h
            · cases h
          have retO : ∀ F1 H1, (resD P F1 H1 fn.results.toList).map (fun ds => (Out.ret (oneD ds), H1)) = some (out, H') → ∀ a' w' g', Sim w' g' F1 H1 a' ⟨fn.ntmps, w.heap.size, true⟩ → Ext w g H.A w' g' H1.A →
              LeavesInM Fence.wide 0 P fn a'.tmps (CallPost w g H out H') a'.defers .returning w' := by
            intro F1 H1 h a' w' g' hs' he'
            refine leaves_sound (by simp) _ _ hs'.df hs'.inv fun w5 hi5 ht5 => ?_
            have hs5 : Sim w5 g' F1 H1 { a' with defers := [] } ⟨fn.ntmps, w.heap.size, true⟩ := ⟨fun t => ht5.rep (hs'.fr t), hi5, hs'.sz, Dfs.nil (by rw [ht5.size]; exact hs'.df.le)⟩
            have he5 : Ext w g H.A w5 g' H1.A := ht5.ext he'
            show ∃ v, (results fn a'.tmps).run P w5 = .ok v w5 ∧ CallPost w g H out H' (.returned v) w5
            simp only [Option.map_eq_some_iff, Prod.mk.injEq] at h
            obtain ⟨xs, hds, rfl, rfl⟩ := h
            obtain ⟨vs', hres, hpw2⟩ := results_sound (P := P) hs5 hds
            have hsz : vs'.length = xs.length := hpw2.1
            refine ⟨_, hres, g', hi5, he5, _, rfl, ?_⟩
            have hall : ∀ (j : Nat) (d : D) (v : Value), xs[j]? = some d → vs'.toArray[j]? = some v → RepD w5 g' H1.A d v := fun j d v h1 h2 => hpw2.2 j d v h1 (by simpa using h2)
            match xs, vs', hsz, hall with
            | [], [], _, _ => exact .tup [] #[] rfl (fun i x v h => by simp at h)
            | [x], [v], _, hcut => exact hcut 0 x v (by simp) (by simp)
            | x :: y :: r, v :: u :: s, hsz, hcut =>
              have e : ¬ (v :: u :: s).toArray.size = 1 := by simp
              rw [dif_neg e]
              exact .tup (x :: y :: r) (v :: u :: s).toArray (by simpa using hsz) hcut
          obtain ⟨e, F1, H1⟩ := r1
          split at h
          · cases e with
            | normal => exact retO F1 H1 h
            | ret => exact retO F1 H1 h
            | pan x =>
              simp only [fnOutO, Option.some.injEq, Prod.mk.injEq] at h
              obtain ⟨rfl, rfl⟩ := h
              intro a' w' g' v hi' he' hr hdf
              refine leaves_sound (by simp) _ _ hdf hi' fun w5 hi5 ht5 => ?_
              exact ⟨_, hi5, ht5.ext he', v, rfl, hr.same ⟨fun _ _ h => h, fun b o _ => ht5.cell b o⟩⟩
            | exit id => cases h
          split at h
          · cases e with
            | normal => exact retNs F1 H1 h
            | ret => exact retNs F1 H1 h
            | pan x =>
              simp only [fnOutN] at h
              intro a' w' g' v hi' he' hr hdf
              refine leaves_sound (by simp) _ _ hdf hi' fun w5 hi5 ht5 => ?_
              have he5 : Ext w g H.A w5 g' H1.A := ht5.ext he'
              have hr5 : RepP w5 g'.I x v := hr.same ⟨fun _ _ h => h, fun b o _ => ht5.cell b o⟩
              show CallPost w g H out H' (.panicked _) w5
              split at h
              · rename_i hall
                simp only [Option.some.injEq, Prod.mk.injEq] at h
                obtain ⟨rfl, rfl⟩ := h
                obtain ⟨hi3, he3⟩ := cutOK hi5 he5 hall
                exact ⟨_, hi3, he3, v, rfl, hr5⟩
              · simp only [Option.some.injEq, Prod.mk.injEq] at h
                obtain ⟨rfl, rfl⟩ := h
                exact ⟨_, hi5, he5, v, rfl, hr5⟩
            | exit id => cases h
          cases e with
          | normal => exact ret F1 H1 h
          | ret => exact ret F1 H1 h
          | pan x =>
            simp only [fnOut] at h
            intro a' w' g' v hi' he' hr hdf
            refine leaves_sound (by simp) _ _ hdf hi' fun w5 hi5 ht5 => ?_
            have he5 : Ext w g H.A w5 g' H1.A := ht5.ext he'
            have hr5 : RepP w5 g'.I x v := hr.same ⟨fun _ _ h => h, fun b o _ => ht5.cell b o⟩
            show CallPost w g H out H' (.panicked _) w5
            split at h
            · rename_i hall
              simp only [Option.some.injEq, Prod.mk.injEq] at h
              obtain ⟨rfl, rfl⟩ := h
              obtain ⟨hi3, he3⟩ := cutOK hi5 he5 hall
              exact ⟨_, hi3, he3, v, rfl, hr5⟩
            · simp only [Option.some.injEq, Prod.mk.injEq] at h
              obtain ⟨rfl, rfl⟩ := h
              exact ⟨_, hi5, he5, v, rfl, hr5⟩
          | exit id => cases h
      · cases h

/-! ### Rounds -/
def putL : List Tmp → List D → Fr → Fr
  | t :: ts, d :: ds, F => putL ts ds ((t, d) :: F)
  | _, _, F => F

/-- A round's end. -/
def rndFin (nB nA : Nat) (jump : Option Code) (H : Hp) : Option (Out × Hp) :=
  if (H.B.take nB).all (blkNo nB nA) = true then some (.ret (.p (.bool jump.isNone)), H.cut nB nA) else some (.ret (.p (.bool jump.isNone)), H)

def rndEnd (i nB nA : Nat) (jump : Option Code) (H : Hp) : Option (Out × Hp) :=
  match H.B[i]? with
  | some (.lp .busy _ f F ps assign body) => rndFin nB nA jump { H with B := H.B.set i (.lp (if jump.isNone then .ready else .done) jump f F ps assign body) }
  | _ => none

def rndOut (i nB nA : Nat) : Option CO → Option (Out × Hp)
  | some (.normal, _, H) => rndEnd i nB nA none H
  | some (.ret, _, H) => rndEnd i nB nA (some .ret) H
  | some (.exit id, _, H) => rndEnd i nB nA (some (.exit id)) H
  | _ => none

/-- The round itself. -/
def rndRun (ev : FuncId → Code → Fr → Hp → Option CO) (okb : FuncId → Code → Bool) (i : Nat) (args : List D) (H : Hp) : Option (Out × Hp) :=
  match H.B[i]? with
  | some (.lp .ready none f F ps assign body) =>
    if args.length = ps.size ∧ okb f assign = true ∧ okb f body = true then
      match ev f assign (putL ps.toList args F) H with
      | some (.normal, F1, H1) =>
        match H1.B[i]? with
        | some (.lp .ready none f1 G1 ps1 as1 bo1) => rndOut i H.B.length H.A.length (ev f body F1 { H1 with B := H1.B.set i (.lp .busy none f1 G1 ps1 as1 bo1) })
        | _ => none
      | _ => none
    else none
  | _ => none

noncomputable def evalRound (P : Program) (hn : Hints) (ch : CH) (cal : Cal) (i : Nat) (args : List D) (H : Hp) : Option (Out × Hp) :=
  rndRun (fun f c F H => evalC P hn ch (hn.mutF f) ⟨i + 1, 0⟩ cal f c F H) (okD ch) i args H

theorem rndRun_mono {e d : FuncId → Code → Fr → Hp → Option CO} {okb : FuncId → Code → Bool} (hed : ∀ f c F H r, e f c F H = some r → d f c F H = some r) {i : Nat} {args : List D} {H : Hp} {r : Out × Hp}
    (h : rndRun e okb i args H = some r) : rndRun d okb i args H = some r := by
  unfold rndRun at h ⊢
  split at h
  · rename_i f F ps assign body hb
    split at h
    · rename_i hk
      rw [if_pos hk]
      cases h1 : e f assign (putL ps.toList args F) H with
      | none => rw [h1] at h; cases h
      | some r1 =>
        rw [h1] at h
        rw [hed _ _ _ _ _ h1]
        obtain ⟨x, F1, H1⟩ := r1
        cases x with
        | normal =>
          simp only at h ⊢
          split at h
          · rename_i f1 G1 ps1 as1 bo1 hb1
            cases h2 : e f body F1 { H1 with B := H1.B.set i (.lp .busy none f1 G1 ps1 as1 bo1) } with
            | none => rw [h2] at h; cases h
            | some r2 =>
              rw [h2] at h
              rw [hed _ _ _ _ _ h2]
              exact h
          · cases h
        | _ => cases h
    · cases h
  · cases h

theorem look_putL : ∀ (ts : List Tmp) (vs : List Value) (ds : List D) (F : Fr) (tmps : Array Value) (R : D → Value → Prop), ds.length = ts.length → vs.length = ds.length →
    (∀ (j : Nat) (d : D) (v : Value), ds[j]? = some d → vs[j]? = some v → R d v) → (∀ t ∈ ts, t < tmps.size) → (∀ t, R (look F t) (tmps.getD t undef)) →
    (((ts.zip vs).foldl (fun tmps (p : Tmp × Value) => tmps.setIfInBounds p.1 p.2) tmps).size = tmps.size) ∧
    ∀ t, R (look (putL ts ds F) t) (((ts.zip vs).foldl (fun tmps (p : Tmp × Value) => tmps.setIfInBounds p.1 p.2) tmps).getD t undef)
  | [], vs, ds, F, tmps, R, hl, _, _, _, h => by
    have : ds = [] := List.eq_nil_of_length_eq_zero hl
    subst this
    exact ⟨rfl, h⟩
  | t :: ts, vs, [], F, tmps, R, hl, _, _, _, h => by simp at hl
  | t :: ts, [], d :: ds, F, tmps, R, _, hv, _, _, h => by simp at hv
  | t :: ts, v :: vs, d :: ds, F, tmps, R, hl, hv, hr, hlt, h => by
    have := look_putL ts vs ds ((t, d) :: F) (tmps.setIfInBounds t v) R (by simpa using hl) (by simpa using hv) (fun j e u he hu => hr (j + 1) e u (by simpa using he) (by simpa using hu))
      (fun s hs => by simp; exact hlt s (by simp [hs])) fun s => by
        simp only [look]
        by_cases hts : t = s
        · subst hts
          rw [if_pos rfl]
          have h0 := hr 0 d v (by simp) (by simp)
          have hlt' := hlt t (by simp)
          simpa [hlt'] using h0
        · rw [if_neg hts]
          have := h s
          simpa [Array.getElem?_setIfInBounds_ne hts] using this
    simp only [List.zip_cons_cons, List.foldl_cons, putL]
    exact ⟨this.1.trans (by simp), this.2⟩

theorem round_sound {cal : Cal} (hc : CalOK P cal) (hmix : P.follows .mixedOrders = true) {i : Nat} {args : List D} {H : Hp} {out : Out} {H' : Hp}
    (h : evalRound P hn ch cal i args H = some (out, H')) (w : World) (g : Gh) (vs : List Value) (b : Nat) (hb : g.B[i]? = some (some b)) (hi : Inv w g H) (hp : PW w g H.A args vs) :
    Yields P b vs.toArray w (CallPost w g H out H') := by
  unfold evalRound rndRun at h
  dsimp only at h
  split at h
  case h_2 => cases h
  rename_i f F ps assign body hbk
  split at h
  case isFalse => cases h
  rename_i hk
  obtain ⟨hlen, hk1, hk2⟩ := hk
  obtain ⟨r, h1, h2, h3, h4, h5, h6, h7, h8⟩ := hi.blk i _ b hbk hb
  have hvl : vs.length = args.length := hp.1
  refine ⟨r.fn, _, r.assign, r.body, run_yield h1 (by rw [h4, ← hlen, ← hvl]; simp), ?_⟩
  have hfr := look_putL ps.toList vs args F r.tmps (RepD w g H.A) (by simpa using hlen) hvl hp.2 (fun t ht => by
    have := h7.2.2
    rw [Array.all_eq_true_iff_forall_mem] at this
    exact of_decide_eq_true (this t (by simpa using ht))) h8
  have hfold : (r.params.zip vs.toArray).foldl (fun tmps (x : Tmp × Value) => match x with | (t, a) => tmps.setIfInBounds t a) r.tmps =
      (ps.toList.zip vs).foldl (fun tmps (p : Tmp × Value) => tmps.setIfInBounds p.1 p.2) r.tmps := by
    rw [h4, ← Array.foldl_toList, Array.toList_zip]
  rw [hfold]
  generalize hT : (ps.toList.zip vs).foldl (fun tmps (p : Tmp × Value) => tmps.setIfInBounds p.1 p.2) r.tmps = tmps at hfr ⊢
  rw [h5, h6]
  have hs0 : Sim w g (putL ps.toList args F) H { tmps := tmps, defers := [] } ⟨r.tmps.size, 0, true⟩ := ⟨hfr.2, hi, hfr.1, Dfs.nil (Nat.zero_le _)⟩
  refine roundIn_of_wpIn (F := Fence.wide) (n := 0) trivial ?_
  split at h
  case h_2 => cases h
  rename_i F1 H1 he1
  split at h
  case h_2 => cases h
  rename_i f1 G1 ps1 as1 bo1 hbk1
  refine code_sound (rd := some b) (m := ⟨i + 1, 0⟩) (ch := ch) (f := f) (N := ⟨r.tmps.size, 0, true⟩) hc hmix assign w g _ H _ _ _ (okC_of _ h7.1 hk1) (fun e => (by cases e)) hs0 hb he1 ?_
  intro a1 w1 g1 hs1 hx1
  have hb1 : g1.B[i]? = some (some b) := hx1.ptr _ _ hb
  obtain ⟨r1, e1, e2, e3, e4, e5, e6, e7, e8, hi2, hx2⟩ := lp_turn (st' := .busy) (pend' := none) hs1.inv hb1 hbk1
  have hbeg := run_beginRound (P := P) e1 e2
  rw [e3] at hbeg
  refine ⟨_, hbeg, ?_⟩
  have hs2 := sim_ext (H' := { H1 with B := H1.B.set i (.lp .busy none f1 G1 ps1 as1 bo1) }) hs1 hx2 hi2
  have hb2 := hx2.ptr _ _ hb1
  have hx12 := hx1.trans hx2
  have fin1 : ∀ (jump : Option Code) (H3 : Hp), rndEnd i H.B.length H.A.length jump H3 = some (out, H') → ∀ (w3 : World) (g3 : Gh), Inv w3 g3 H3 → Ext w g H.A w3 g3 H3.A →
      ∃ v w', (Instr.endRound b jump).run P w3 = .ok v w' ∧ CallPost w g H out H' (.returned v) w' := by
    intro jump H3 h w3 g3 hi3 hx3
    have hb3 : g3.B[i]? = some (some b) := hx3.ptr _ _ hb
    unfold rndEnd at h
    split at h
    case h_2 => cases h
    rename_i pend3 f3 G3 ps3 as3 bo3 hbk3
    obtain ⟨r3, k1, k2, k3, k4, k5, k6, k7, k8, hi4, hx4⟩ := lp_turn (st' := if jump.isNone then .ready else .done) (pend' := jump) hi3 hb3 hbk3
    have hx34 := hx3.trans hx4
    refine ⟨_, _, run_endRound jump k1, ?_⟩
    unfold rndFin at h
    have hA : ({ H3 with B := H3.B.set i (.lp (if jump.isNone then .ready else .done) jump f3 G3 ps3 as3 bo3) } : Hp).A = H3.A := rfl
    generalize ({ H3 with B := H3.B.set i (.lp (if jump.isNone then .ready else .done) jump f3 G3 ps3 as3 bo3) } : Hp) = H4 at h hi4 hA
    rw [← hA] at hx34
    split at h
    · rename_i hall
      simp only [Option.some.injEq, Prod.mk.injEq] at h
      obtain ⟨rfl, rfl⟩ := h
      exact ⟨g3.cut H.B.length H.A.length, inv_cut hi4 hx34.lenA (all_blk hall), ext_cut hx34 (by rw [hi.lenB]; exact Nat.le_refl _) (Nat.le_refl _), _, rfl, .p _ _ (.bool _)⟩
    · simp only [Option.some.injEq, Prod.mk.injEq] at h
      obtain ⟨rfl, rfl⟩ := h
      exact ⟨g3, hi4, hx34, _, rfl, .p _ _ (.bool _)⟩
  cases he2 : evalC P hn ch (hn.mutF f) ⟨i + 1, 0⟩ cal f body F1 { H1 with B := H1.B.set i (.lp .busy none f1 G1 ps1 as1 bo1) } with
  | none => rw [he2] at h; cases h
  | some r2 =>
    rw [he2] at h
    refine code_sound (rd := some b) (m := ⟨i + 1, 0⟩) (ch := ch) (f := f) (N := ⟨r.tmps.size, 0, true⟩) hc hmix body _ g1 _ _ _ r2 _ (okC_of _ h7.2.1 hk2) (fun e => (by cases e)) hs2 hb2 he2 ?_
    obtain ⟨x, F2, H2⟩ := r2
    cases x with
    | normal => exact fun a3 w3 g3 hs3 hx3 => fin1 none H2 h w3 g3 hs3.inv (hx12.trans hx3)
    | ret => exact fun a3 w3 g3 hs3 hx3 => fin1 (some .ret) H2 h w3 g3 hs3.inv (hx12.trans hx3)
    | exit id => exact fun a3 w3 g3 hs3 hx3 => fin1 (some (.exit id)) H2 h w3 g3 hs3.inv (hx12.trans hx3)
    | pan x => cases h

/-! ### All calls -/
/-- Functions whose calls are known otherwise. -/
structure Others (P : Program) where
  is : FuncId → Bool
  does : Cal → Cal
  mono : ∀ c d, CalLe c d → CalLe (does c) (does d)
  ok : ∀ c, CalOK P c → ∀ f args H out H', does c f args H = some (out, H') → plainFn P f = true ∧
    ∀ (w : World) (g : Gh) (vs : List Value), Inv w g H → PW w g H.A args vs → Calls P f vs.toArray w (CallPost w g H out H')

theorem RepD.up {w : World} {g0 g : Gh} {A : List Arr} (hB : g0.B = []) (hI : g.I = g0.I) {d : D} {v : Value} (h : RepD w g0 [] d v) : RepD w g A d v := by
  induction h with
  | p x v h => exact .p x v (by rw [hI]; exact h)
  | litN => exact .litN
  | lit l b o h => exact .lit l b o (by rw [hI]; exact h)
  | ptr i off b h => rw [hB] at h; simp at h
  | elt l b o h => exact .elt l b o (by rw [hI]; exact h)
  | yld i b h => rw [hB] at h; simp at h
  | mp i b h => rw [hB] at h; simp at h
  | bsl i off n c b h => rw [hB] at h; simp at h
  | own i ver v hi hsl h => simp at hi
  | oelt i ver k off v hi hsl h => simp at hi
  | agg l cs hs _ ih => exact .agg l cs hs ih
  | fn f l cs hs _ ih => exact .fn f l cs hs ih
  | bnd f l cs hs _ ih => exact .bnd f l cs hs ih
  | ifc t x v _ ih => exact .ifc t x v ih
  | tup l cs hs _ ih => exact .tup l cs hs ih
  | dead v => exact .dead v
  | emp a c => exact .emp a c
  | clip l a h => exact .clip l a (by rw [hI]; exact h)

def H00 : Hp := ⟨[], []⟩

/-- A call that is handed data alone is looked at with no variables and no rows. -/
def alone (H : Hp) : Option (Out × Hp) → Option (Out × Hp)
  | some (.ret d, ⟨[], []⟩) => if D.noRef 0 0 d = true then some (.ret d, H) else none
  | some (.pan x, ⟨[], []⟩) => some (.pan x, H)
  | _ => none

theorem alone_inv {H : Hp} {r : Option (Out × Hp)} {o : Out × Hp} (h : alone H r = some o) : r = some (o.1, H00) ∧ o.2 = H ∧ (∀ d, o.1 = .ret d → D.noRef 0 0 d = true) := by
  unfold alone at h
  split at h
  · split at h
    · rename_i hn
      injection h with h
      subst h
      exact ⟨rfl, rfl, fun d e => by cases e; exact hn⟩
    · cases h
  · injection h with h
    subst h
    exact ⟨rfl, rfl, fun d e => by cases e⟩
  · cases h

theorem alone_mono {H : Hp} {r r' : Option (Out × Hp)} (hr : ∀ x, r = some x → r' = some x) {o : Out × Hp} (h : alone H r = some o) : alone H r' = some o := by
  cases r with
  | none => cases h
  | some x => rw [hr x rfl]; exact h

theorem alone_sound {f : FuncId} {args : List D} {H : Hp} {r : Option (Out × Hp)} {out : Out} {H' : Hp}
    (hc : ∀ out H', r = some (out, H') → plainFn P f = true ∧ ∀ (w : World) (g : Gh) (vs : List Value), Inv w g H00 → PW w g H00.A args vs → Calls P f vs.toArray w (CallPost w g H00 out H'))
    (ha : args.all (D.noRef 0 0) = true) (h : alone H r = some (out, H')) :
    plainFn P f = true ∧ ∀ (w : World) (g : Gh) (vs : List Value), Inv w g H → PW w g H.A args vs → Calls P f vs.toArray w (CallPost w g H out H') := by
  obtain ⟨h1, h2, h3⟩ := alone_inv h
  simp only at h1 h2 h3
  subst h2
  obtain ⟨hp, hcalls⟩ := hc out H00 h1
  refine ⟨hp, fun w g vs hi hpw => ?_⟩
  have hi0 : Inv w (g.cut 0 0) H00 := inv_cut (nB := 0) (nA := 0) hi (Nat.zero_le _) fun i hlt => absurd hlt (Nat.not_lt_zero i)
  have hpw0 : PW w (g.cut 0 0) H00.A args vs := ⟨hpw.1, fun j d v hd hv => RepD.cut (Nat.zero_le _) d v (hpw.2 j d v hd hv) (List.all_eq_true.1 ha d (List.mem_of_getElem? hd))⟩
  refine (hcalls w (g.cut 0 0) vs hi0 hpw0).mono fun e w' hpost => ?_
  obtain ⟨g0, hi', he', hout⟩ := hpost
  have hown : (g.cut 0 0).owned = [] := by simp [Gh.owned, Gh.cut]
  have hgrow : Grows w w' := ⟨fun b hb => he'.heap b hb (by rw [hown]; simp), he'.size, he'.os, he'.tape, he'.output⟩
  obtain ⟨hi1, he1⟩ := hi.grow hgrow g0.I he'.same.inn fun b o hI => by
    rcases Nat.lt_or_ge b w.heap.size with hlt | hge
    · exact .inl (he'.news b o hI hlt (by rw [hown]; simp))
    · exact .inr ⟨hge, hi'.iLt b o hI⟩
  have hB0 : g0.B = [] := List.eq_nil_of_length_eq_zero hi'.lenB
  refine ⟨⟨g.B, g.A, g0.I⟩, hi1, he1, ?_⟩
  cases out with
  | ret d =>
    obtain ⟨v, rfl, hr⟩ := hout
    exact ⟨v, rfl, RepD.up (g0 := g0) (g := ⟨g.B, g.A, g0.I⟩) hB0 rfl (show RepD w' g0 [] d v from hr)⟩
  | pan x => exact hout

mutual
/-- Data in which no address lies. -/
def PD.flat : PD → Bool
  | .sl _ => false
  | .ifc _ x => PD.flat x
  | .agg l => PD.flats l
  | _ => true
def PD.flats : List PD → Bool
  | [] => true
  | x :: r => PD.flat x && PD.flats r
end
mutual
def D.flat : D → Bool
  | .p x => x.flat
  | .tup l => D.flats l
  | .emp => true
  | _ => false
def D.flats : List D → Bool
  | [] => true
  | x :: r => D.flat x && D.flats r
end
mutual
theorem flat_rep {w w' : World} {I I' : Nat → Nat → Prop} : ∀ (x : PD) (v : Value), x.flat = true → RepP w I x v → RepP w' I' x v
  | .int _ _, _, _, .int k n => .int k n
  | .bool _, _, _, .bool b => .bool b
  | .str _, _, _, .str s => .str s
  | .nilI, _, _, .nilI => .nilI
  | .nilF, _, _, .nilF => .nilF
  | .nilP, _, _, .nilP => .nilP
  | .nilM, _, _, .nilM => .nilM
  | .fn _, _, _, .fn f => .fn f
  | .ifc t x, _, h, .ifc _ _ v hv => .ifc t x v (flat_rep x v (by simpa [PD.flat] using h) hv)
  | .agg l, _, h, .agg _ cs hs hv => .agg l cs hs (flats_rep l (by simpa [PD.flat] using h) hv)
  | .sl _, _, h, _ => by simp [PD.flat] at h
theorem flats_rep {w w' : World} {I I' : Nat → Nat → Prop} : ∀ (l : List PD), PD.flats l = true → ∀ {cs : Array Value}, (∀ (i : Nat) (x : PD) (v : Value), l[i]? = some x → cs[i]? = some v → RepP w I x v) →
    ∀ (i : Nat) (x : PD) (v : Value), l[i]? = some x → cs[i]? = some v → RepP w' I' x v
  | [], _, _, _, i, x, v, h, _ => by simp at h
  | d :: r, hn, cs, h, i, x, v, hx, hv => by
    simp only [PD.flats, Bool.and_eq_true] at hn
    cases i with
    | zero =>
      have e : d = x := by simpa using hx
      subst e
      exact flat_rep d v hn.1 (h 0 d v (by simp) hv)
    | succ i =>
      have key := flats_rep (w' := w') (I' := I') r hn.2 (cs := cs.extract 1 cs.size) (fun j y u hy hu => h (j + 1) y u (by simpa using hy) (by
        rw [Array.getElem?_extract] at hu
        split at hu
        · rw [Nat.add_comm]; exact hu
        · simp at hu))
      exact key i x v (by simpa using hx) (by
        rw [Array.getElem?_extract]
        have : i + 1 < cs.size := (Array.getElem?_eq_some_iff.1 hv).1
        rw [if_pos (by omega), Nat.add_comm]
        exact hv)
end
mutual
theorem flatD_rep {w w' : World} {g g' : Gh} {A A' : List Arr} : ∀ (d : D) (v : Value), d.flat = true → RepD w g A d v → RepD w' g' A' d v
  | .p x, _, h, .p _ v hv => .p x v (flat_rep x v (by simpa [D.flat] using h) hv)
  | .tup l, _, h, .tup _ cs hs hv => .tup l cs hs (flatsD_rep l (by simpa [D.flat] using h) hv)
  | .lit _ _, _, h, _ => by simp [D.flat] at h
  | .ptr _ _, _, h, _ => by simp [D.flat] at h
  | .elt _, _, h, _ => by simp [D.flat] at h
  | .own _ _, _, h, _ => by simp [D.flat] at h
  | .oelt _ _ _ _, _, h, _ => by simp [D.flat] at h
  | .agg _, _, h, _ => by simp [D.flat] at h
  | .fn _ _, _, h, _ => by simp [D.flat] at h
  | .bnd _ _, _, h, _ => by simp [D.flat] at h
  | .ifc _ _, _, h, _ => by simp [D.flat] at h
  | .yld _, _, h, _ => by simp [D.flat] at h
  | .mp _, _, h, _ => by simp [D.flat] at h
  | .bsl _ _ _ _, _, h, _ => by simp [D.flat] at h
  | .dead, _, h, _ => by simp [D.flat] at h
  | .emp, _, _, .emp a c => .emp a c
  | .clip _, _, h, _ => by simp [D.flat] at h
theorem flatsD_rep {w w' : World} {g g' : Gh} {A A' : List Arr} : ∀ (l : List D), D.flats l = true → ∀ {cs : Array Value}, (∀ (i : Nat) (x : D) (v : Value), l[i]? = some x → cs[i]? = some v → RepD w g A x v) →
    ∀ (i : Nat) (x : D) (v : Value), l[i]? = some x → cs[i]? = some v → RepD w' g' A' x v
  | [], _, _, _, i, x, v, h, _ => by simp at h
  | d :: r, hn, cs, h, i, x, v, hx, hv => by
    simp only [D.flats, Bool.and_eq_true] at hn
    cases i with
    | zero =>
      have e : d = x := by simpa using hx
      subst e
      exact flatD_rep d v hn.1 (h 0 d v (by simp) hv)
    | succ i =>
      have key := flatsD_rep (w' := w') (g' := g') (A' := A') r hn.2 (cs := cs.extract 1 cs.size) (fun j y u hy hu => h (j + 1) y u (by simpa using hy) (by
        rw [Array.getElem?_extract] at hu
        split at hu
        · rw [Nat.add_comm]; exact hu
        · simp at hu))
      exact key i x v (by simpa using hx) (by
        rw [Array.getElem?_extract]
        have : i + 1 < cs.size := (Array.getElem?_eq_some_iff.1 hv).1
        rw [if_pos (by omega), Nat.add_comm]
        exact hv)
end

/-- A call that only looks at what it is handed, rows of the call's own too; its answer leads nowhere. -/
def lent (H : Hp) : Option (Out × Hp) → Option (Out × Hp)
  | some (.ret d, ⟨[], []⟩) => if D.flat d = true then some (.ret d, H) else none
  | _ => none

theorem lent_inv {H : Hp} {r : Option (Out × Hp)} {o : Out × Hp} (h : lent H r = some o) : ∃ d, o = (.ret d, H) ∧ r = some (.ret d, H00) ∧ D.flat d = true := by
  unfold lent at h
  split at h
  · rename_i d
    split at h
    · rename_i hn
      injection h with h
      exact ⟨d, h.symm, rfl, hn⟩
    · cases h
  · cases h

theorem lent_mono {H : Hp} {r r' : Option (Out × Hp)} (hr : ∀ x, r = some x → r' = some x) {o : Out × Hp} (h : lent H r = some o) : lent H r' = some o := by
  cases r with
  | none => cases h
  | some x => rw [hr x rfl]; exact h

def lendD (H : Hp) (args : List D) (r : List D → Option (Out × Hp)) : Option (Out × Hp) :=
  match argsD false H.A args with
  | some (xs, _) => if xs.all (D.noRef 0 0) = true then lent H (r xs) else none
  | none => none

theorem lend_mono {H : Hp} {args : List D} {r r' : List D → Option (Out × Hp)} (hr : ∀ xs x, r xs = some x → r' xs = some x) {o : Out × Hp} (h : lendD H args r = some o) : lendD H args r' = some o := by
  unfold lendD at *
  split at h
  · split at h
    · rename_i e; rw [if_pos e]; exact lent_mono (hr _) h
    · cases h
  · cases h

theorem lend_sound {f : FuncId} {args : List D} {H : Hp} {r : List D → Option (Out × Hp)} {out : Out} {H' : Hp}
    (hc : ∀ xs out H', r xs = some (out, H') → plainFn P f = true ∧ ∀ (w : World) (g : Gh) (vs : List Value), Inv w g H00 → PW w g H00.A xs vs → Calls P f vs.toArray w (CallPost w g H00 out H'))
    (h : lendD H args r = some (out, H')) :
    plainFn P f = true ∧ ∀ (w : World) (g : Gh) (vs : List Value), Inv w g H → PW w g H.A args vs → Calls P f vs.toArray w (CallPost w g H out H') := by
  unfold lendD at h
  split at h
  case h_2 => cases h
  rename_i xs A1 hxs
  split at h
  case isFalse => cases h
  rename_i hno
  obtain ⟨d, h1, h2, hfl⟩ := lent_inv h
  simp only [Prod.mk.injEq] at h1
  obtain ⟨rfl, rfl⟩ := h1
  obtain ⟨hp, hcalls⟩ := hc xs _ H00 h2
  refine ⟨hp, fun w g vs hi hpw => ?_⟩
  obtain ⟨g1, hi1, he1, hpw1⟩ := args_sound args xs vs g H' A1 hi hpw hxs
  have hi0 : Inv w (g1.cut 0 0) H00 := inv_cut (H := { H' with A := A1 }) (nB := 0) (nA := 0) hi1 (Nat.zero_le _) fun i hlt => absurd hlt (Nat.not_lt_zero i)
  have hpw0 : PW w (g1.cut 0 0) H00.A xs vs := ⟨hpw1.1, fun j d v hd hv => RepD.cut (Nat.zero_le _) d v (hpw1.2 j d v hd hv) (List.all_eq_true.1 hno d (List.mem_of_getElem? hd))⟩
  refine (hcalls w (g1.cut 0 0) vs hi0 hpw0).mono fun e w' hpost => ?_
  obtain ⟨g0, hi', he', v, rfl, hr⟩ := hpost
  have hown : (g1.cut 0 0).owned = [] := by simp [Gh.owned, Gh.cut]
  have hgrow : Grows w w' := ⟨fun b hb => he'.heap b hb (by rw [hown]; simp), he'.size, he'.os, he'.tape, he'.output⟩
  obtain ⟨hi2, he2⟩ := hi.grow hgrow g.I (fun _ _ h => h) fun b o hI => .inl hI
  exact ⟨⟨g.B, g.A, g.I⟩, hi2, he2, v, rfl, flatD_rep d v hfl hr⟩

noncomputable def calF (P : Program) (hn : Hints) (ch : CH) (x : Others P) (cal : Cal) : Cal := fun f args H =>
  if YB ≤ f then evalRound P hn ch cal (f - YB) args H
  else if x.is f = true then x.does cal f args H
  else if ch.lend f = true then lendD H args (fun xs => evalFun P hn ch cal f xs H00)
  else if ch.pure f = true ∧ args.all (D.noRef 0 0) = true then alone H (evalFun P hn ch cal f args H00)
  else evalFun P hn ch cal f args H

noncomputable def calW (P : Program) (hn : Hints) (ch : CH) (x : Others P) : Cal := least (calF P hn ch x)

theorem evalRound_mono {c d : Cal} (h : CalLe c d) {i : Nat} {args : List D} {H : Hp} {r : Out × Hp} (hr : evalRound P hn ch c i args H = some r) : evalRound P hn ch d i args H = some r :=
  rndRun_mono (fun _ k _ _ _ h2 => evalC_mono h k _ _ _ h2) hr

theorem calF_mono (x : Others P) (c d : Cal) (h : CalLe c d) : CalLe (calF P hn ch x c) (calF P hn ch x d) := by
  intro f args H r hr
  unfold calF at *
  split at hr
  · rename_i e; rw [if_pos e]; exact evalRound_mono h hr
  · rename_i e0
    rw [if_neg e0]
    split at hr
    · rename_i e; rw [if_pos e]; exact x.mono c d h f args H r hr
    · rename_i e
      rw [if_neg e]
      split at hr
      · rename_i e2; rw [if_pos e2]; exact lend_mono (fun xs x => evalFun_mono h f xs H00 x) hr
      rename_i e1
      rw [if_neg e1]
      split at hr
      · rename_i e2; rw [if_pos e2]; exact alone_mono (fun x => evalFun_mono h f args H00 x) hr
      · rename_i e2; rw [if_neg e2]; exact evalFun_mono h f args H r hr

theorem calW_of {x : Others P} {f : FuncId} {args : List D} {H : Hp} {r : Out × Hp} (h : calF P hn ch x (calW P hn ch x) f args H = some r) : calW P hn ch x f args H = some r :=
  least_le (calF_mono x) f args H r h

theorem calW_sound (hmix : P.follows .mixedOrders = true) (x : Others P) : CalOK P (calW P hn ch x) := by
  have key := least_ind (Φ := calF P hn ch x) (fun f args H r =>
      (f < YB → plainFn P f = true ∧ ∀ (w : World) (g : Gh) (vs : List Value), Inv w g H → PW w g H.A args vs → Calls P f vs.toArray w (CallPost w g H r.1 r.2)) ∧
      (YB ≤ f → ∀ (w : World) (g : Gh) (vs : List Value) (b : Nat), g.B[f - YB]? = some (some b) → Inv w g H → PW w g H.A args vs → Yields P b vs.toArray w (CallPost w g H r.1 r.2))) (fun c hc f a H r hr => by
    have hk : CalOK P c := fun f a H o H' h => hc f a H (o, H') h
    unfold calF at hr
    split at hr
    · rename_i e; exact ⟨fun hlt => absurd hlt (Nat.not_lt.2 e), fun _ w g vs b hb hi hp => round_sound hk hmix hr w g vs b hb hi hp⟩
    · rename_i e0
      refine ⟨fun _ => ?_, fun e => absurd e e0⟩
      split at hr
      · exact x.ok c hk f a H r.1 r.2 hr
      split at hr
      · exact lend_sound (fun xs o H' h => fun_sound hk hmix h) hr
      · split at hr
        · rename_i e2; exact alone_sound (fun o H' h => fun_sound hk hmix h) e2.2 hr
        · exact fun_sound hk hmix hr)
  exact fun f a H o H' h => key f a H (o, H') h
end
end Go.Vi
end

section
/- Vi, part 22: the same by a clock, to be computed. No conditions. -/
namespace Go.Vi
open Go Go.Lib

mutual
def PD.eqb : PD → PD → Bool
  | .int k n, .int k' n' => k == k' && n == n'
  | .bool b, .bool b' => b == b'
  | .str s, .str s' => s.data.toList == s'.data.toList
  | .nilI, .nilI => true
  | .nilF, .nilF => true
  | .nilP, .nilP => true
  | .nilM, .nilM => true
  | .fn f, .fn f' => f == f'
  | .ifc t x, .ifc t' x' => t == t' && PD.eqb x x'
  | .agg l, .agg l' => PD.eqbs l l'
  | .sl l, .sl l' => PD.eqbs l l'
  | _, _ => false
def PD.eqbs : List PD → List PD → Bool
  | [], [] => true
  | x :: r, y :: s => PD.eqb x y && PD.eqbs r s
  | _, _ => false
end

mutual
theorem PD.eqb_eq : ∀ (x y : PD), PD.eqb x y = true → x = y
  | .int k n, y, h => by cases y <;> simp [PD.eqb] at h ⊢; exact h
  | .bool b, y, h => by cases y <;> simp [PD.eqb] at h ⊢; exact h
  | .str s, y, h => by
    cases y <;> simp [PD.eqb] at h ⊢
    rename_i s'
    obtain ⟨⟨l⟩⟩ := s; obtain ⟨⟨l'⟩⟩ := s'
    simp at h
    rw [h]
  | .nilI, y, h => by cases y <;> simp [PD.eqb] at h ⊢
  | .nilF, y, h => by cases y <;> simp [PD.eqb] at h ⊢
  | .nilP, y, h => by cases y <;> simp [PD.eqb] at h ⊢
  | .nilM, y, h => by cases y <;> simp [PD.eqb] at h ⊢
  | .fn f, y, h => by cases y <;> simp [PD.eqb] at h ⊢; exact h
  | .ifc t x, y, h => by
    cases y <;> simp [PD.eqb] at h ⊢
    exact ⟨h.1, PD.eqb_eq _ _ h.2⟩
  | .agg l, y, h => by
    cases y <;> simp [PD.eqb] at h ⊢
    exact PD.eqbs_eq _ _ h
  | .sl l, y, h => by
    cases y <;> simp [PD.eqb] at h ⊢
    exact PD.eqbs_eq _ _ h
theorem PD.eqbs_eq : ∀ (x y : List PD), PD.eqbs x y = true → x = y
  | [], [], _ => rfl
  | x :: r, y :: s, h => by
    simp only [PD.eqbs, Bool.and_eq_true] at h
    rw [PD.eqb_eq _ _ h.1, PD.eqbs_eq _ _ h.2]
  | [], _ :: _, h => by simp [PD.eqbs] at h
  | _ :: _, [], h => by simp [PD.eqbs] at h
end

mutual
def D.eqb : D → D → Bool
  | .p x, .p y => PD.eqb x y
  | .lit b l, .lit b' l' => b == b' && PD.eqbs l l'
  | .ptr i o, .ptr i' o' => i == i' && o == o'
  | .elt l, .elt l' => PD.eqbs l l'
  | .own i v, .own i' v' => i == i' && v == v'
  | .oelt i v k o, .oelt i' v' k' o' => i == i' && v == v' && k == k' && o == o'
  | .agg l, .agg l' => D.eqbs l l'
  | .fn f l, .fn f' l' => f == f' && D.eqbs l l'
  | .bnd f l, .bnd f' l' => f == f' && D.eqbs l l'
  | .ifc t x, .ifc t' x' => t == t' && D.eqb x x'
  | .tup l, .tup l' => D.eqbs l l'
  | .yld i, .yld i' => i == i'
  | .mp i, .mp i' => i == i'
  | .bsl i o n c, .bsl i' o' n' c' => i == i' && o == o' && n == n' && c == c'
  | .dead, .dead => true
  | .emp, .emp => true
  | .clip l, .clip l' => PD.eqbs l l'
  | _, _ => false
def D.eqbs : List D → List D → Bool
  | [], [] => true
  | x :: r, y :: s => D.eqb x y && D.eqbs r s
  | _, _ => false
end

mutual
theorem D.eqb_eq : ∀ (x y : D), D.eqb x y = true → x = y
  | .p x, y, h => by cases y <;> simp [D.eqb] at h ⊢; exact PD.eqb_eq _ _ h
  | .lit b l, y, h => by cases y <;> simp [D.eqb] at h ⊢; exact ⟨h.1, PD.eqbs_eq _ _ h.2⟩
  | .ptr i o, y, h => by cases y <;> simp [D.eqb] at h ⊢; exact h
  | .elt l, y, h => by cases y <;> simp [D.eqb] at h ⊢; exact PD.eqbs_eq _ _ h
  | .own i v, y, h => by cases y <;> simp [D.eqb] at h ⊢; exact h
  | .oelt i v k o, y, h => by cases y <;> simp [D.eqb] at h ⊢; exact ⟨h.1.1.1, h.1.1.2, h.1.2, h.2⟩
  | .agg l, y, h => by cases y <;> simp [D.eqb] at h ⊢; exact D.eqbs_eq _ _ h
  | .fn f l, y, h => by cases y <;> simp [D.eqb] at h ⊢; exact ⟨h.1, D.eqbs_eq _ _ h.2⟩
  | .bnd f l, y, h => by cases y <;> simp [D.eqb] at h ⊢; exact ⟨h.1, D.eqbs_eq _ _ h.2⟩
  | .ifc t x, y, h => by cases y <;> simp [D.eqb] at h ⊢; exact ⟨h.1, D.eqb_eq _ _ h.2⟩
  | .tup l, y, h => by cases y <;> simp [D.eqb] at h ⊢; exact D.eqbs_eq _ _ h
  | .yld i, y, h => by cases y <;> simp [D.eqb] at h ⊢; exact h
  | .mp i, y, h => by cases y <;> simp [D.eqb] at h ⊢; exact h
  | .bsl i o n c, y, h => by cases y <;> simp [D.eqb] at h ⊢; exact ⟨h.1.1.1, h.1.1.2, h.1.2, h.2⟩
  | .dead, y, h => by cases y <;> simp [D.eqb] at h ⊢
  | .emp, y, h => by cases y <;> simp [D.eqb] at h ⊢
  | .clip l, y, h => by cases y <;> simp [D.eqb] at h ⊢; exact PD.eqbs_eq _ _ h
theorem D.eqbs_eq : ∀ (x y : List D), D.eqbs x y = true → x = y
  | [], [], _ => rfl
  | x :: r, y :: s, h => by
    simp only [D.eqbs, Bool.and_eq_true] at h
    rw [D.eqb_eq _ _ h.1, D.eqbs_eq _ _ h.2]
  | [], _ :: _, h => by simp [D.eqbs] at h
  | _ :: _, [], h => by simp [D.eqbs] at h
end

def Blk.eqb : Blk → Blk → Bool
  | .hole, .hole => true
  | .cells l, .cells l' => D.eqbs l l'
  | .sit s p, .sit s' p' => s.data.toList == s'.data.toList && p == p'
  | .mset l, .mset l' => PD.eqbs (l.map (·.1)) (l'.map (·.1)) && PD.eqbs (l.map (·.2)) (l'.map (·.2))
  | _, _ => false
def Blk.eqbs : List Blk → List Blk → Bool
  | [], [] => true
  | x :: r, y :: s => Blk.eqb x y && Blk.eqbs r s
  | _, _ => false
theorem pairs_eq {α β : Type} : ∀ {l l' : List (α × β)}, l.map (·.1) = l'.map (·.1) → l.map (·.2) = l'.map (·.2) → l = l'
  | [], [], _, _ => rfl
  | (a, b) :: l, (a', b') :: l', h1, h2 => by
    simp only [List.map_cons, List.cons.injEq] at h1 h2
    rw [h1.1, h2.1, pairs_eq h1.2 h2.2]
  | [], _ :: _, h, _ => by simp at h
  | _ :: _, [], h, _ => by simp at h
theorem Blk.eqb_eq (x y : Blk) (h : Blk.eqb x y = true) : x = y := by
  cases x <;> cases y <;> simp [Blk.eqb] at h ⊢
  · exact D.eqbs_eq _ _ h
  · rename_i s p s' p'
    obtain ⟨⟨l⟩⟩ := s; obtain ⟨⟨l'⟩⟩ := s'
    simp at h
    rw [h.1, h.2]
    exact ⟨rfl, rfl⟩
  · exact pairs_eq (PD.eqbs_eq _ _ h.1) (PD.eqbs_eq _ _ h.2)
theorem Blk.eqbs_eq : ∀ (x y : List Blk), Blk.eqbs x y = true → x = y
  | [], [], _ => rfl
  | x :: r, y :: s, h => by
    simp only [Blk.eqbs, Bool.and_eq_true] at h
    rw [Blk.eqb_eq _ _ h.1, Blk.eqbs_eq _ _ h.2]
  | [], _ :: _, h => by simp [Blk.eqbs] at h
  | _ :: _, [], h => by simp [Blk.eqbs] at h

def Arr.eqb (x y : Arr) : Bool := x.ver == y.ver && x.ty == y.ty && x.sz == y.sz && x.nil == y.nil && x.fz == y.fz && PD.eqbs x.els y.els
def Arr.eqbs : List Arr → List Arr → Bool
  | [], [] => true
  | x :: r, y :: s => Arr.eqb x y && Arr.eqbs r s
  | _, _ => false
theorem Arr.eqb_eq (x y : Arr) (h : Arr.eqb x y = true) : x = y := by
  cases x; cases y
  simp [Arr.eqb] at h ⊢
  exact ⟨h.1.1.1.1.1, h.1.1.1.1.2, h.1.1.1.2, h.1.1.2, h.1.2, PD.eqbs_eq _ _ h.2⟩
theorem Arr.eqbs_eq : ∀ (x y : List Arr), Arr.eqbs x y = true → x = y
  | [], [], _ => rfl
  | x :: r, y :: s, h => by
    simp only [Arr.eqbs, Bool.and_eq_true] at h
    rw [Arr.eqb_eq _ _ h.1, Arr.eqbs_eq _ _ h.2]
  | [], _ :: _, h => by simp [Arr.eqbs] at h
  | _ :: _, [], h => by simp [Arr.eqbs] at h

def Hp.eqb (x y : Hp) : Bool := Blk.eqbs x.B y.B && Arr.eqbs x.A y.A
theorem Hp.eqb_eq {x y : Hp} (h : Hp.eqb x y = true) : x = y := by
  cases x; cases y
  simp only [Hp.eqb, Bool.and_eq_true] at h
  simp only [Hp.mk.injEq]
  exact ⟨Blk.eqbs_eq _ _ h.1, Arr.eqbs_eq _ _ h.2⟩

/-- An operation that doesn't look at rows. -/
def soft (F : Fr) (o : Oper) : Bool :=
  match o.op with
  | .load _ a =>
    match opd F a with
    | .ptr _ _ | .elt _ => true
    | _ => false
  | .buildSlice _ _ ps => ps.toList.all fun p => D.noRef 0 0 (opd F p.2)
  | .move _ => true
  | .extract _ _ => true
  | .build _ _ => true
  | .field _ _ _ => true
  | .index _ _ _ => true
  | .typeAssert _ _ _ _ => true
  | .unOp _ _ _ => true
  | .fieldAddr _ x _ =>
    match opd F x with
    | .ptr _ _ | .elt _ => true
    | _ => false
  | .slice _ x _ _ none => D.noRef 0 0 (opd F x)
  | .indexAddr _ x _ => D.noRef 0 0 (opd F x)
  | _ => false

mutual
theorem pd_no {nB : Nat} {A A' : List Arr} : ∀ (d : D), D.noRef nB 0 d = true → D.pd? A d = D.pd? A' d
  | .p _, _ => rfl
  | .lit _ _, _ => rfl
  | .elt _, _ => rfl
  | .dead, _ => rfl
  | .emp, _ => rfl
  | .clip _, _ => rfl
  | .ptr _ _, _ => rfl
  | .yld _, _ => rfl
  | .mp _, _ => rfl
  | .bsl _ _ _ _, _ => rfl
  | .own i _, h => by simp [D.noRef] at h
  | .oelt i _ _ _, h => by simp [D.noRef] at h
  | .agg l, h => by simp only [D.noRef] at h; simp only [D.pd?]; rw [pds_no l h]
  | .fn _ l, h => rfl
  | .bnd _ l, h => rfl
  | .ifc _ x, h => by simp only [D.noRef] at h; simp only [D.pd?]; rw [pd_no x h]
  | .tup l, h => rfl
theorem pds_no {nB : Nat} {A A' : List Arr} : ∀ (l : List D), D.noRefs nB 0 l = true → D.pds? A l = D.pds? A' l
  | [], _ => rfl
  | d :: r, h => by
    simp only [D.noRefs, Bool.and_eq_true] at h
    simp only [D.pds?]
    rw [pd_no d h.1, pds_no r h.2]
end

theorem els_no {A A' : List Arr} {F : Fr} {ag : Bool} {sz : Nat} : ∀ (l : List (Nat × Operand)) (k : Nat), (∀ p ∈ l, D.noRef 0 0 (opd F p.2) = true) → elsD A F ag sz k l = elsD A' F ag sz k l
  | [], _, _ => rfl
  | (i, x) :: r, k, h => by
    simp only [elsD]
    rw [pd_no (A' := A') (opd F x) (h (i, x) (by simp)), els_no r (k + 1) fun p hp => h p (by simp [hp])]

section
variable {P : Program} {hn : Hints} {ch : CH} {mu : Bool} {m : Mk} {cal : Cal} {f : FuncId} {ops : Array Oper}

theorem soft_spec {F : Fr} {H H1 : Hp} {o : Oper} {d : D} (hs : soft F o = true) (h : runV P hn mu m cal ops F H o = some (.inl (d, H1))) :
    ∀ A, runV P hn mu m cal ops F ⟨H.B, A⟩ o = some (.inl (d, ⟨H.B, A⟩)) := by
  intro A
  obtain ⟨dst, op, type, pos, after, guard⟩ := o
  have hw : ∀ b, wantD ops F ⟨dst, op, type, pos, after, guard⟩ = some b → b = false ∨ b = true := fun b _ => by cases b <;> simp
  unfold runV at h ⊢
  split at h
  · rename_i hwant
    have key : ∃ e : Hp → Option D, (∀ H, exec P hn mu m F H ⟨dst, op, type, pos, after, guard⟩ = (e H).map (fun d => Nx.val d H)) ∧ e ⟨H.B, A⟩ = e H := by
      cases op <;> simp only [soft] at hs <;> try (cases hs; done)
      case move x => exact ⟨fun _ => some (opd F x), fun H => rfl, rfl⟩
      case build t ps => exact ⟨fun _ => buildD P F t ps.toList, fun H => rfl, rfl⟩
      case field t x j =>
        refine ⟨fun _ => match fieldOf P t j with | some (off, n, ag) => partD (opd F x) off n ag | none => none, fun H => ?_, rfl⟩
        simp only [exec]; rcases fieldOf P t j with _ | ⟨off, n, ag⟩ <;> rfl
      case index t x ix =>
        refine ⟨fun _ => match numD (opd F ix) with | some n => indexD P t (opd F x) n | none => none, fun H => ?_, rfl⟩
        simp only [exec]; cases numD (opd F ix) <;> rfl
      case typeAssert x xt at_ ok => exact ⟨fun _ => assertD P (opd F x) at_ ok, fun H => rfl, rfl⟩
      case unOp op t x =>
        refine ⟨fun _ => match opd F x with | .p v => (unP op v).map .p | _ => none, fun H => ?_, rfl⟩
        simp only [exec]
        cases opd F x with
        | p v => simp only [Option.map_map]; rfl
        | _ => rfl
      case load t a =>
        split at hs
        · rename_i i off ha
          refine ⟨fun H => match aggOf P t, szOf P t with | some ag, some n => loadD H (opd F a) ag n | _, _ => none, fun H => ?_, ?_⟩
          · simp only [exec]; rcases aggOf P t with _ | ag <;> rcases szOf P t with _ | n <;> rfl
          · simp only [ha]; rfl
        · rename_i l ha
          refine ⟨fun H => match aggOf P t, szOf P t with | some ag, some n => loadD H (opd F a) ag n | _, _ => none, fun H => ?_, ?_⟩
          · simp only [exec]; rcases aggOf P t with _ | ag <;> rcases szOf P t with _ | n <;> rfl
          · simp only [ha]; rfl
        · cases hs
      case buildSlice t n ps =>
        refine ⟨fun H => buildSliceD P F H t n ps.toList, fun H => rfl, ?_⟩
        simp only [buildSliceD]
        have hels : ∀ ag sz, elsD A F ag sz 0 ps.toList = elsD H.A F ag sz 0 ps.toList := fun ag sz => els_no ps.toList 0 fun p hp => List.all_eq_true.1 hs p hp
        simp only [hels]
      case fieldAddr t x j =>
        refine ⟨fun H => match fieldOf P t j with | some (off, n, _) => if n = 0 then none else fieldAddrD H.A (opd F x) off | none => none, fun H => ?_, ?_⟩
        · simp only [exec]
          rcases fieldOf P t j with _ | ⟨off, n, ag⟩
          · rfl
          · simp only; split <;> rfl
        · split at hs
          · rename_i i off ha; simp only [ha]; rfl
          · rename_i l ha; simp only [ha]; rfl
          · cases hs
      case slice t x lo hi mx =>
        cases mx with
        | some _ => cases hs
        | none =>
          refine ⟨fun H => sliceD P H F t x lo hi, fun H => rfl, ?_⟩
          have := pd_no (nB := 0) (A := A) (A' := H.A) (opd F x) hs
          simp only [sliceD, this]
      case indexAddr t x ix =>
        refine ⟨fun H => match numD (opd F ix) with | some n => indexAddrD P H t (opd F x) n | none => none, fun H => ?_, ?_⟩
        · simp only [exec]; cases numD (opd F ix) <;> rfl
        · have hpd := pd_no (nB := 0) (A := A) (A' := H.A) (opd F x) hs
          cases numD (opd F ix) with
          | none => rfl
          | some n =>
            simp only [indexAddrD]
            cases hd : opd F x with
            | ptr i o => rw [hd] at hs; simp [D.noRef] at hs
            | own i v => rw [hd] at hs; simp [D.noRef] at hs
            | oelt i v k o => rw [hd] at hs; simp [D.noRef] at hs
            | bsl i o n c => rw [hd] at hs; simp [D.noRef] at hs
            | _ => rw [hd] at hpd; simp only [hpd]; rfl
      case extract x i =>
        refine ⟨fun H => match opd F x with | .tup l => l[i]? | _ => none, fun H => ?_, rfl⟩
        simp only [exec]; cases opd F x <;> rfl
    obtain ⟨e, he, heq⟩ := key
    rw [he] at h ⊢
    rw [heq]
    cases hx : e H with
    | none => rw [hx] at h; cases h
    | some d' =>
      rw [hx] at h
      simp only [Option.map_some, finV, Option.some.injEq, Sum.inl.injEq, Prod.mk.injEq] at h ⊢
      exact ⟨h.1, trivial⟩
  · simp only [Option.some.injEq, Sum.inl.injEq, Prod.mk.injEq] at h ⊢
    exact ⟨h.1, trivial⟩
  · cases h

/-- An operation that leaves memory as it is: 2; its variables: 1. -/
def quiet (o : Oper) : Nat :=
  match o.op with
  | .move _ | .binOp _ _ _ _ _ | .unOp _ _ _ | .convert _ _ _ | .load _ _ | .field _ _ _ | .fieldAddr _ _ _ | .index _ _ _ | .indexAddr _ _ _ | .extract _ _ | .typeAssert _ _ _ _ | .makeInterface _ _
  | .nilCheck _ | .pick _ _ _ | .build _ _ | .buildSlice _ _ _ | .lookup _ _ _ _ => 2
  | .slice _ _ _ _ _ => 2
  | .assign x =>
    match x with
    | .const (.slice none 0 0) => 0
    | _ => 2
  | .makeFunc (.func _) _ _ => 2
  | .call c =>
    match c.callee with
    | .builtin .len | .builtin .max | .builtin .min => 2
    | .builtin .append => 1
    | _ => 0
  | _ => 0

def NxSame (q : Nat) (H : Hp) : Nx → Prop
  | .val _ H1 | .skip H1 => (q = 2 → H1 = H) ∧ (q = 1 → H1.B = H.B)
  | .pan _ => True
  | .call _ _ _ | .yield _ _ _ => q = 0

theorem mapq {x : Option D} {nx : Nx} {H : Hp} (h : x.map (fun d => Nx.val d H) = some nx) : NxSame 2 H nx := by
  cases x with
  | none => cases h
  | some d => simp only [Option.map_some, Option.some.injEq] at h; subst h; exact ⟨fun _ => rfl, fun h => by cases h⟩

theorem append_same {P : Program} {mu : Bool} {H : Hp} {t : TypeId} {s x : D} {nx : Nx} (h : appendD P mu H t s x = some nx) : NxSame 1 H nx := by
  unfold appendD at h
  (repeat' split at h) <;> first | (cases h; done) | (injection h with h; subst h; exact ⟨fun h => (by cases h), fun _ => rfl⟩)

theorem quiet_exec {P : Program} {hn : Hints} {mu : Bool} {m : Mk} {F : Fr} {H : Hp} {o : Oper} {nx : Nx} (h : exec P hn mu m F H o = some nx) : NxSame (quiet o) H nx := by
  obtain ⟨dst, op, type, pos, after, guard⟩ := o
  have zero : ∀ nx, NxSame 0 H nx := fun nx => by cases nx <;> first | trivial | exact ⟨fun h => (by cases h), fun h => (by cases h)⟩ | rfl
  cases op
  case call c =>
    obtain ⟨callee, args, argTypes⟩ := c
    cases callee with
    | builtin b =>
      cases b
      case append =>
        simp only [exec, opCall] at h
        show NxSame 1 H nx
        (repeat' split at h) <;> first | (cases h; done) | exact append_same h
      case len =>
        simp only [exec, opCall] at h
        show NxSame 2 H nx
        (repeat' split at h) <;> first | (cases h; done) | (simp only [Option.map_eq_some_iff] at h; obtain ⟨_, _, rfl⟩ := h; exact ⟨fun _ => rfl, fun h => by cases h⟩)
      case max =>
        simp only [exec, opCall] at h
        show NxSame 2 H nx
        (repeat' split at h) <;> first | (cases h; done) | (injection h with h; subst h; exact ⟨fun _ => rfl, fun h => by cases h⟩)
      case min =>
        simp only [exec, opCall] at h
        show NxSame 2 H nx
        (repeat' split at h) <;> first | (cases h; done) | (injection h with h; subst h; exact ⟨fun _ => rfl, fun h => by cases h⟩)
      all_goals exact zero nx
    | _ => exact zero nx
  case assign x =>
    simp only [exec] at h
    simp only [quiet]
    split
    · exact zero nx
    · rename_i hne
      split at h
      · exact absurd rfl hne
      · injection h with h; subst h; exact ⟨fun _ => rfl, fun h => by cases h⟩
  case slice t x lo hi mx =>
    cases mx with
    | none => simp only [exec] at h; exact mapq h
    | some _ => simp only [exec] at h; exact mapq h
  case makeFunc fn first caps =>
    cases fn
    case func f =>
      simp only [exec] at h
      show NxSame 2 H nx
      (repeat' split at h) <;> first | (cases h; done) | (injection h with h; subst h; exact ⟨fun _ => rfl, fun h => by cases h⟩)
    all_goals exact zero nx
  all_goals
    simp only [exec] at h
    first
      | (cases h; done)
      | exact mapq h
      | exact zero nx
      | (show NxSame 2 H nx
         (repeat' split at h) <;> first | (cases h; done) | exact mapq h | (injection h with h; subst h; exact ⟨fun _ => rfl, fun h => by cases h⟩) | (simp only [Option.map_eq_some_iff] at h; obtain ⟨_, _, rfl⟩ := h; exact ⟨fun _ => rfl, fun h => by cases h⟩))
      | (injection h with h; subst h; exact ⟨fun _ => rfl, fun h => by cases h⟩)

theorem quiet_spec {P : Program} {hn : Hints} {mu : Bool} {m : Mk} {cal : Cal} {ops : Array Oper} {F : Fr} {H H1 : Hp} {o : Oper} {d : D} (h : runV P hn mu m cal ops F H o = some (.inl (d, H1))) :
    (quiet o = 2 → H1 = H) ∧ (quiet o = 1 → H1.B = H.B) := by
  unfold runV at h
  split at h
  · split at h
    · cases h
    · cases hx : exec P hn mu m F H o with
      | none => rw [hx] at h; cases h
      | some nx =>
        have hq := quiet_exec hx
        rw [hx] at h
        cases nx with
        | val d H2 => simp only [finV, Option.some.injEq, Sum.inl.injEq, Prod.mk.injEq] at h; obtain ⟨_, rfl⟩ := h; exact hq
        | skip H2 => simp only [finV, Option.some.injEq, Sum.inl.injEq, Prod.mk.injEq] at h; obtain ⟨_, rfl⟩ := h; exact hq
        | pan x => cases h
        | call g args H2 => rw [show quiet o = 0 from hq]; exact ⟨fun h => (by cases h), fun h => (by cases h)⟩
        | yield i args H2 => rw [show quiet o = 0 from hq]; exact ⟨fun h => (by cases h), fun h => (by cases h)⟩
  · simp only [Option.some.injEq, Sum.inl.injEq, Prod.mk.injEq] at h
    obtain ⟨_, rfl⟩ := h
    exact ⟨fun _ => rfl, fun _ => rfl⟩
  · cases h

/-- Calls that are looked at alone, with arguments that lead nowhere, besides. -/
def quietF (pq : FuncId → Bool) (F : Fr) (o : Oper) : Nat :=
  match o.op with
  | .call c =>
    match c.callee with
    | .value f =>
      match capsOf (opd F f) with
      | some (g, caps) => if pq g = true ∧ (c.args.toList.map (opd F) ++ caps).all (D.noRef 0 0) = true then 2 else 0
      | none => 0
    | _ => quiet o
  | _ => quiet o

def PqOK (pq : FuncId → Bool) (cal : Cal) : Prop := ∀ g args H out H1, pq g = true → args.all (D.noRef 0 0) = true → cal g args H = some (out, H1) → H1 = H

theorem argsD_no {own : Bool} {A : List Arr} : ∀ {l xs : List D} {A1 : List Arr}, l.all (D.noRef 0 0) = true → argsD own A l = some (xs, A1) → A1 = A ∧ xs.all (D.noRef 0 0) = true
  | [], xs, A1, _, h => by
    simp only [argsD, Option.some.injEq, Prod.mk.injEq] at h
    obtain ⟨rfl, rfl⟩ := h
    exact ⟨rfl, rfl⟩
  | d :: r, xs, A1, hl, h => by
    simp only [List.all_cons, Bool.and_eq_true] at hl
    have one : ∀ {x A2}, argD own A d = some (x, A2) → A2 = A ∧ D.noRef 0 0 x = true := by
      intro x A2 h
      unfold argD at h
      split at h
      · simp [D.noRef] at hl
      · simp only [Option.some.injEq, Prod.mk.injEq] at h
        obtain ⟨rfl, rfl⟩ := h
        refine ⟨rfl, ?_⟩
        split
        · exact hl.1
        · unfold D.nf
          split
          · rfl
          · exact hl.1
    simp only [argsD] at h
    split at h
    · rename_i x A2 hx
      obtain ⟨rfl, h1⟩ := one hx
      split at h
      · rename_i ys A3 hy
        simp only [Option.some.injEq, Prod.mk.injEq] at h
        obtain ⟨rfl, rfl⟩ := h
        obtain ⟨h2, h3⟩ := argsD_no hl.2 hy
        exact ⟨h2, by simp only [List.all_cons, h1, h3, Bool.and_self]⟩
      · cases h
    · cases h

theorem quietF_spec {pq : FuncId → Bool} {P : Program} {hn : Hints} {mu : Bool} {m : Mk} {cal : Cal} (hpq : PqOK pq cal) {ops : Array Oper} {F : Fr} {H H1 : Hp} {o : Oper} {d : D}
    (h : runV P hn mu m cal ops F H o = some (.inl (d, H1))) : (quietF pq F o = 2 → H1 = H) ∧ (quietF pq F o = 1 → H1.B = H.B) := by
  have hq := quiet_spec h
  unfold quietF
  split
  · rename_i c hop
    split
    · rename_i f hcal
      split
      · rename_i g caps hcaps
        split
        · rename_i hk
          refine ⟨fun _ => ?_, fun e => (by cases e)⟩
          unfold runV at h
          split at h
          · split at h
            · cases h
            · have hny : ∀ i, opd F f ≠ .yld i := fun i e => by rw [e] at hcaps; simp [capsOf] at hcaps
              have hx : exec P hn mu m F H o = callD hn H g (c.args.toList.map (opd F) ++ caps) := by
                obtain ⟨dst, op, type, pos, after, guard⟩ := o
                simp only at hop
                subst hop
                simp only [exec, opCall, hcal]
                generalize opd F f = dd at hcaps hny ⊢
                cases dd with
                | yld i => exact absurd rfl (hny i)
                | bnd _ _ => simp [capsOf] at hcaps
                | _ => simp only [hcaps]
              rw [hx] at h
              unfold callD at h
              cases ha : argsD (hn.ownArg g || (hn.ownMut g && (c.args.toList.map (opd F) ++ caps).any (openOwn H.A))) H.A (c.args.toList.map (opd F) ++ caps) with
              | none => rw [ha] at h; cases h
              | some y =>
                obtain ⟨xs, A1⟩ := y
                obtain ⟨rfl, h3⟩ := argsD_no hk.2 ha
                rw [ha] at h
                simp only [finV] at h
                split at h
                · split at h
                  · rename_i d2 H2 hc
                    simp only [Option.some.injEq, Sum.inl.injEq, Prod.mk.injEq] at h
                    obtain ⟨_, rfl⟩ := h
                    exact hpq _ _ _ _ _ hk.1 h3 hc
                  · cases h
                  · cases h
                · cases h
          · simp only [Option.some.injEq, Sum.inl.injEq, Prod.mk.injEq] at h
            exact h.2.symm
          · cases h
        · exact ⟨fun e => (by cases e), fun e => (by cases e)⟩
      · exact ⟨fun e => (by cases e), fun e => (by cases e)⟩
    · exact hq
  · exact hq

/-- What is done to rows alone: 4; to variables alone: 5. -/
def soft45 (F : Fr) (o : Oper) : Nat :=
  match o.op with
  | .indexAddr _ _ _ => 4
  | .store _ a _ =>
    match opd F a with
    | .oelt _ _ _ _ => 4
    | .ptr _ _ => 5
    | _ => 0
  | _ => 0

theorem soft45_spec {P : Program} {hn : Hints} {mu : Bool} {m : Mk} {cal : Cal} {ops : Array Oper} {F : Fr} {H H1 : Hp} {o : Oper} {d : D} (h : runV P hn mu m cal ops F H o = some (.inl (d, H1))) :
    (soft45 F o = 4 → H1.B = H.B ∧ ∀ B, runV P hn mu m cal ops F ⟨B, H.A⟩ o = some (.inl (d, ⟨B, H1.A⟩))) ∧
    (soft45 F o = 5 → H1.A = H.A ∧ ∀ A, runV P hn mu m cal ops F ⟨H.B, A⟩ o = some (.inl (d, ⟨H1.B, A⟩))) := by
  obtain ⟨dst, op, type, pos, after, guard⟩ := o
  have skip : ∀ {r : Prop}, some (Sum.inl (D.tup [], H)) = (some (.inl (d, H1)) : Option ((D × Hp) ⊕ (PD × Hp))) → d = .tup [] ∧ H1 = H := fun h => by
    simp only [Option.some.injEq, Sum.inl.injEq, Prod.mk.injEq] at h
    exact ⟨h.1.symm, h.2.symm⟩
  unfold soft45
  cases op <;> simp only [reduceCtorEq, false_implies, and_self, Nat.reduceEqDiff, imp_self]
  case indexAddr t x ix =>
    refine ⟨fun _ => ?_, by simp⟩
    unfold runV at h ⊢
    cases hw : wantD ops F ⟨dst, .indexAddr t x ix, type, pos, after, guard⟩ with
    | none => rw [hw] at h; cases h
    | some b =>
      rw [hw] at h
      cases b with
      | false =>
        obtain ⟨rfl, rfl⟩ := skip (r := True) h
        exact ⟨rfl, fun B => rfl⟩
      | true =>
        simp only [exec] at h ⊢
        cases hn1 : numD (opd F ix) with
        | none => rw [hn1] at h; cases h
        | some n =>
          rw [hn1] at h
          simp only at h ⊢
          have e : ∀ B, indexAddrD P ⟨B, H.A⟩ t (opd F x) n = indexAddrD P H t (opd F x) n := fun B => rfl
          cases hx : indexAddrD P H t (opd F x) n with
          | none => rw [hx] at h; cases h
          | some y =>
            rw [hx] at h
            simp only [Option.map_some, finV, Option.some.injEq, Sum.inl.injEq, Prod.mk.injEq] at h
            obtain ⟨rfl, rfl⟩ := h
            exact ⟨rfl, fun B => by rw [e B, hx]; rfl⟩
  case store t a x =>
    cases ha : opd F a <;> simp only [reduceCtorEq, false_implies, and_self, Nat.reduceEqDiff, imp_self]
    case oelt i ver k off =>
      refine ⟨fun _ => ?_, by simp⟩
      unfold runV at h ⊢
      cases hw : wantD ops F ⟨dst, .store t a x, type, pos, after, guard⟩ with
      | none => rw [hw] at h; cases h
      | some b =>
        rw [hw] at h
        cases b with
        | false =>
          obtain ⟨rfl, rfl⟩ := skip (r := True) h
          exact ⟨rfl, fun B => rfl⟩
        | true =>
          simp only [exec, ha] at h ⊢
          cases hz : szOf P t with
          | none => rw [hz] at h; cases h
          | some n =>
            rw [hz] at h
            simp only at h ⊢
            cases hx : storeD m H (.oelt i ver k off) (cellsD (opd F x)) n with
            | none => rw [hx] at h; cases h
            | some H2 =>
              rw [hx] at h
              simp only [Option.map_some, finV, Option.some.injEq, Sum.inl.injEq, Prod.mk.injEq] at h
              obtain ⟨rfl, rfl⟩ := h
              have key : H2.B = H.B ∧ ∀ B, storeD m ⟨B, H.A⟩ (.oelt i ver k off) (cellsD (opd F x)) n = some ⟨B, H2.A⟩ := by
                simp only [storeD] at hx ⊢
                cases h1 : Hp.live H.A i ver with
                | none => rw [h1] at hx; cases hx
                | some ar =>
                  cases h2 : D.pds? H.A (cellsD (opd F x)) with
                  | none => rw [h1, h2] at hx; cases hx
                  | some xs =>
                    rw [h1, h2] at hx
                    simp only at hx ⊢
                    cases h3 : ar.els[k]? with
                    | none => rw [h3] at hx; cases hx
                    | some e =>
                      rw [h3] at hx
                      simp only at hx ⊢
                      split at hx
                      · rename_i hc
                        injection hx with hx
                        subst hx
                        exact ⟨rfl, fun B => by rw [if_pos hc]⟩
                      · cases hx
              exact ⟨key.1, fun B => by rw [key.2 B]; rfl⟩
    case ptr i off =>
      refine ⟨by simp, fun _ => ?_⟩
      unfold runV at h ⊢
      cases hw : wantD ops F ⟨dst, .store t a x, type, pos, after, guard⟩ with
      | none => rw [hw] at h; cases h
      | some b =>
        rw [hw] at h
        cases b with
        | false =>
          obtain ⟨rfl, rfl⟩ := skip (r := True) h
          exact ⟨rfl, fun B => rfl⟩
        | true =>
          simp only [exec, ha] at h ⊢
          cases hz : szOf P t with
          | none => rw [hz] at h; cases h
          | some n =>
            rw [hz] at h
            simp only at h ⊢
            cases hx : storeD m H (.ptr i off) (cellsD (opd F x)) n with
            | none => rw [hx] at h; cases h
            | some H2 =>
              rw [hx] at h
              simp only [Option.map_some, finV, Option.some.injEq, Sum.inl.injEq, Prod.mk.injEq] at h
              obtain ⟨rfl, rfl⟩ := h
              have key : H2.A = H.A ∧ ∀ A, storeD m ⟨H.B, A⟩ (.ptr i off) (cellsD (opd F x)) n = some ⟨H2.B, A⟩ := by
                simp only [storeD] at hx ⊢
                cases h3 : H.B[i]? with
                | none => rw [h3] at hx; cases hx
                | some e =>
                  rw [h3] at hx
                  cases e with
                  | cells l =>
                    simp only at hx ⊢
                    split at hx
                    · rename_i hc
                      injection hx with hx
                      subst hx
                      exact ⟨rfl, fun A => by rw [if_pos hc]⟩
                    · cases hx
                  | _ => cases hx
              exact ⟨key.1, fun A => by rw [key.2 A]; rfl⟩

/-- What an operation that leaves memory as it is looks at: the variables; the rows besides, if so said. -/
def rdB (F : Fr) (o : Oper) : Option (List Nat) :=
  match o.op with
  | .load _ a =>
    match opd F a with
    | .ptr i _ => some [i]
    | .elt _ | .oelt _ _ _ _ => some []
    | _ => none
  | .move _ | .extract _ _ | .build _ _ | .field _ _ _ | .index _ _ _ | .unOp _ _ _ | .typeAssert _ _ _ _ | .fieldAddr _ _ _ | .indexAddr _ _ _ | .binOp _ _ _ _ _ | .convert _ _ _ | .buildSlice _ _ _ => some []
  | _ => none

/-- Looks at nothing in memory. -/
def freeM (F : Fr) (o : Oper) : Bool :=
  match o.op with
  | .move _ | .extract _ _ | .build _ _ | .field _ _ _ | .index _ _ _ | .unOp _ _ _ | .typeAssert _ _ _ _ => true
  | .fieldAddr _ x _ =>
    match opd F x with
    | .ptr _ _ | .elt _ => true
    | _ => false
  | .call c =>
    match c.callee with
    | .builtin .max | .builtin .min => true
    | _ => false
  | _ => false

theorem rd_spec {R : Hp → Prop} {F : Fr} {H H1 : Hp} {o : Oper} {d : D} (key : ∃ e : Hp → Option D, (∀ H, exec P hn mu m F H o = (e H).map (fun d => Nx.val d H)) ∧ ∀ H', R H' → e H' = e H)
    (h : runV P hn mu m cal ops F H o = some (.inl (d, H1))) : H1 = H ∧ ∀ H', R H' → runV P hn mu m cal ops F H' o = some (.inl (d, H')) := by
  obtain ⟨e, he, heq⟩ := key
  unfold runV at h ⊢
  cases hw : wantD ops F o with
  | none => rw [hw] at h; cases h
  | some b =>
    rw [hw] at h
    cases b with
    | true =>
      simp only [he] at h ⊢
      cases hx : e H with
      | none => rw [hx] at h; cases h
      | some d' =>
        rw [hx] at h
        simp only [Option.map_some, finV, Option.some.injEq, Sum.inl.injEq, Prod.mk.injEq] at h
        obtain ⟨rfl, rfl⟩ := h
        exact ⟨rfl, fun H' hr => by rw [heq H' hr, hx]; rfl⟩
    | false =>
      simp only [Option.some.injEq, Sum.inl.injEq, Prod.mk.injEq] at h
      obtain ⟨rfl, rfl⟩ := h
      exact ⟨rfl, fun H' _ => rfl⟩

theorem rdB_spec {F : Fr} {H H1 : Hp} {o : Oper} {d : D} {l : List Nat} (hs : rdB F o = some l) (h : runV P hn mu m cal ops F H o = some (.inl (d, H1))) :
    H1 = H ∧ ∀ B', (∀ i ∈ l, B'[i]? = H.B[i]?) → runV P hn mu m cal ops F ⟨B', H.A⟩ o = some (.inl (d, ⟨B', H.A⟩)) := by
  have main : ∃ e : Hp → Option D, (∀ H, exec P hn mu m F H o = (e H).map (fun d => Nx.val d H)) ∧ ∀ H' : Hp, (H'.A = H.A ∧ ∀ i ∈ l, H'.B[i]? = H.B[i]?) → e H' = e H := by
    obtain ⟨dst, op, type, pos, after, guard⟩ := o
    cases op <;> simp only [rdB] at hs <;> try (cases hs; done)
    case move x => exact ⟨fun _ => some (opd F x), fun H => rfl, fun _ _ => rfl⟩
    case build t ps => exact ⟨fun _ => buildD P F t ps.toList, fun H => rfl, fun _ _ => rfl⟩
    case field t x j =>
      refine ⟨fun _ => match fieldOf P t j with | some (off, n, ag) => partD (opd F x) off n ag | none => none, fun H => ?_, fun _ _ => rfl⟩
      simp only [exec]; rcases fieldOf P t j with _ | ⟨off, n, ag⟩ <;> rfl
    case index t x ix =>
      refine ⟨fun _ => match numD (opd F ix) with | some n => indexD P t (opd F x) n | none => none, fun H => ?_, fun _ _ => rfl⟩
      simp only [exec]; cases numD (opd F ix) <;> rfl
    case typeAssert x xt at_ ok => exact ⟨fun _ => assertD P (opd F x) at_ ok, fun H => rfl, fun _ _ => rfl⟩
    case unOp op t x =>
      refine ⟨fun _ => match opd F x with | .p v => (unP op v).map .p | _ => none, fun H => ?_, fun _ _ => rfl⟩
      simp only [exec]
      cases opd F x with
      | p v => simp only [Option.map_map]; rfl
      | _ => rfl
    case load t a =>
      refine ⟨fun H => match aggOf P t, szOf P t with | some ag, some n => loadD H (opd F a) ag n | _, _ => none, fun H => ?_, fun H' hr => ?_⟩
      · simp only [exec]; rcases aggOf P t with _ | ag <;> rcases szOf P t with _ | n <;> rfl
      · have : ∀ ag n, loadD H' (opd F a) ag n = loadD H (opd F a) ag n := by
          intro ag n
          split at hs
          · rename_i i off ha
            injection hs with hs
            subst hs
            rw [ha]
            simp only [loadD]
            rw [hr.2 i (by simp)]
          · rename_i la ha; rw [ha]; rfl
          · rename_i i v k o ha; rw [ha]; simp only [loadD, hr.1]
          · cases hs
        simp only [this]
    case fieldAddr t x j =>
      refine ⟨fun H => match fieldOf P t j with | some (off, n, _) => if n = 0 then none else fieldAddrD H.A (opd F x) off | none => none, fun H => ?_, fun H' hr => ?_⟩
      · simp only [exec]
        rcases fieldOf P t j with _ | ⟨off, n, ag⟩
        · rfl
        · simp only; split <;> rfl
      · simp only [hr.1]
    case indexAddr t x ix =>
      refine ⟨fun H => match numD (opd F ix) with | some n => indexAddrD P H t (opd F x) n | none => none, fun H => ?_, fun H' hr => ?_⟩
      · simp only [exec]; cases numD (opd F ix) <;> rfl
      · simp only [indexAddrD, hr.1]
    case extract x i =>
      refine ⟨fun H => match opd F x with | .tup l => l[i]? | _ => none, fun H => ?_, fun _ _ => rfl⟩
      simp only [exec]; cases opd F x <;> rfl
    case binOp op t x y z => exact ⟨fun H => binD P H.A op t x y (opd F x) (opd F y), fun H => rfl, fun H' hr => by simp only [hr.1]⟩
    case convert s d x => exact ⟨fun H => convD P s d (D.pd? H.A (opd F x)), fun H => rfl, fun H' hr => by simp only [hr.1]⟩
    case buildSlice t n ps => exact ⟨fun H => buildSliceD P F H t n ps.toList, fun H => rfl, fun H' hr => by simp only [buildSliceD, hr.1]⟩
  obtain ⟨h1, h2⟩ := rd_spec main h
  exact ⟨h1, fun B' hb => h2 ⟨B', H.A⟩ ⟨rfl, hb⟩⟩

theorem freeM_spec {F : Fr} {H H1 : Hp} {o : Oper} {d : D} (hs : freeM F o = true) (h : runV P hn mu m cal ops F H o = some (.inl (d, H1))) :
    H1 = H ∧ ∀ H', runV P hn mu m cal ops F H' o = some (.inl (d, H')) := by
  have main : ∃ e : Hp → Option D, (∀ H, exec P hn mu m F H o = (e H).map (fun d => Nx.val d H)) ∧ ∀ H' : Hp, True → e H' = e H := by
    obtain ⟨dst, op, type, pos, after, guard⟩ := o
    cases op <;> simp only [freeM] at hs <;> try (cases hs; done)
    case move x => exact ⟨fun _ => some (opd F x), fun H => rfl, fun _ _ => rfl⟩
    case build t ps => exact ⟨fun _ => buildD P F t ps.toList, fun H => rfl, fun _ _ => rfl⟩
    case field t x j =>
      refine ⟨fun _ => match fieldOf P t j with | some (off, n, ag) => partD (opd F x) off n ag | none => none, fun H => ?_, fun _ _ => rfl⟩
      simp only [exec]; rcases fieldOf P t j with _ | ⟨off, n, ag⟩ <;> rfl
    case index t x ix =>
      refine ⟨fun _ => match numD (opd F ix) with | some n => indexD P t (opd F x) n | none => none, fun H => ?_, fun _ _ => rfl⟩
      simp only [exec]; cases numD (opd F ix) <;> rfl
    case typeAssert x xt at_ ok => exact ⟨fun _ => assertD P (opd F x) at_ ok, fun H => rfl, fun _ _ => rfl⟩
    case unOp op t x =>
      refine ⟨fun _ => match opd F x with | .p v => (unP op v).map .p | _ => none, fun H => ?_, fun _ _ => rfl⟩
      simp only [exec]
      cases opd F x with
      | p v => simp only [Option.map_map]; rfl
      | _ => rfl
    case fieldAddr t x j =>
      refine ⟨fun H => match fieldOf P t j with | some (off, n, _) => if n = 0 then none else fieldAddrD H.A (opd F x) off | none => none, fun H => ?_, fun H' _ => ?_⟩
      · simp only [exec]
        rcases fieldOf P t j with _ | ⟨off, n, ag⟩
        · rfl
        · simp only; split <;> rfl
      · split at hs
        · rename_i i off ha; simp only [ha]; rfl
        · rename_i l ha; simp only [ha]; rfl
        · cases hs
    case extract x i =>
      refine ⟨fun H => match opd F x with | .tup l => l[i]? | _ => none, fun H => ?_, fun _ _ => rfl⟩
      simp only [exec]; cases opd F x <;> rfl
    case call c =>
      obtain ⟨callee, args, argTypes⟩ := c
      cases callee with
      | builtin b =>
        cases b <;> simp only at hs <;> try (cases hs; done)
        case max =>
          refine ⟨fun _ => match exec P hn mu m F ⟨[], []⟩ ⟨dst, .call ⟨.builtin .max, args, argTypes⟩, type, pos, after, guard⟩ with | some (.val d _) => some d | _ => none, fun H => ?_, fun _ _ => rfl⟩
          simp only [exec, opCall]
          (repeat' split) <;> simp_all
        case min =>
          refine ⟨fun _ => match exec P hn mu m F ⟨[], []⟩ ⟨dst, .call ⟨.builtin .min, args, argTypes⟩, type, pos, after, guard⟩ with | some (.val d _) => some d | _ => none, fun H => ?_, fun _ _ => rfl⟩
          simp only [exec, opCall]
          (repeat' split) <;> simp_all
      | _ => simp only at hs; cases hs
  obtain ⟨h1, h2⟩ := rd_spec main h
  exact ⟨h1, fun H' => h2 H' trivial⟩

/-- The further ways (there are nB variables). -/
def soft6 (F : Fr) (o : Oper) (fl nB : Nat) : Bool :=
  match fl with
  | 6 => freeM F o
  | 7 => true
  | 8 => match o.op with
    | .alloc _ => true
    | _ => false
  | 9 => match rdB F o with
    | some l => l.all fun i => decide (i < nB)
    | none => freeM F o
  | n + 12 => if n % 2 = 0 then match o.op with
      | .store _ a _ => match opd F a with
        | .ptr i _ => i == nB - 1 - n / 2
        | _ => false
      | _ => false
    else match rdB F o with
    | some l => l.all fun i => !(i == nB - 1 - n / 2)
    | none => freeM F o
  | _ => false

theorem soft6_spec {F : Fr} {H H1 : Hp} {o : Oper} {d : D} {fl : Nat} (h5 : 5 < fl) (h : runV P hn mu m cal ops F H o = some (.inl (d, H1))) :
    soft6 F o fl H.B.length = true → FlOK0 fl (fun H => runV P hn mu m cal ops F H o) d H H1 := by
  match fl, h5 with
  | 6, _ => exact fun hs => freeM_spec hs h
  | 7, _ => exact fun _ => trivial
  | 8, _ =>
    intro hs
    obtain ⟨dst, op, type, pos, after, guard⟩ := o
    cases op <;> simp only [soft6] at hs <;> try (cases hs; done)
    case alloc t =>
      simp only [FlOK0]
      unfold runV at h ⊢
      cases hw : wantD ops F ⟨dst, .alloc t, type, pos, after, guard⟩ with
      | none => rw [hw] at h; cases h
      | some b =>
        rw [hw] at h
        cases b with
        | true =>
          simp only [exec] at h ⊢
          cases hz : zeroOf P t with
          | none => rw [hz] at h; cases h
          | some z =>
            rw [hz] at h
            simp only at h ⊢
            by_cases hc : (cellsD (constD z)).all cellD = true
            · rw [if_pos hc] at h
              simp only [finV, Option.some.injEq, Sum.inl.injEq, Prod.mk.injEq] at h
              obtain ⟨rfl, rfl⟩ := h
              exact ⟨_, rfl, fun A => by simp only [if_pos hc]; rfl⟩
            · rw [if_neg hc] at h; cases h
        | false =>
          simp only [Option.some.injEq, Sum.inl.injEq, Prod.mk.injEq] at h
          obtain ⟨rfl, rfl⟩ := h
          exact ⟨[], by simp, fun A => by simp⟩
  | 9, _ =>
    intro hs
    simp only [soft6] at hs
    simp only [FlOK0]
    split at hs
    · rename_i l hl
      obtain ⟨h1, h2⟩ := rdB_spec hl h
      refine ⟨h1, fun X => h2 _ fun i hi => ?_⟩
      have := List.all_eq_true.1 hs i hi
      exact List.getElem?_append_left (of_decide_eq_true this)
    · obtain ⟨h1, h2⟩ := freeM_spec hs h
      exact ⟨h1, fun X => h2 _⟩
  | 10, _ => intro hs; simp [soft6] at hs
  | 11, _ => intro hs; simp [soft6] at hs
  | n + 12, _ =>
    intro hs
    simp only [soft6] at hs
    simp only [FlOK0]
    split
    · rename_i hn
      rw [if_pos hn] at hs
      obtain ⟨dst, op, type, pos, after, guard⟩ := o
      cases op <;> simp only at hs <;> try (cases hs; done)
      case store t a x =>
        split at hs
        · rename_i i off ha
          rw [beq_iff_eq] at hs
          rw [← hs]
          unfold runV at h
          cases hw : wantD ops F ⟨dst, .store t a x, type, pos, after, guard⟩ with
          | none => rw [hw] at h; cases h
          | some b =>
            rw [hw] at h
            cases b with
            | true =>
              simp only [exec, ha] at h
              cases hz : szOf P t with
              | none => rw [hz] at h; cases h
              | some k =>
                rw [hz] at h
                simp only at h
                cases hx : storeD m H (.ptr i off) (cellsD (opd F x)) k with
                | none => rw [hx] at h; cases h
                | some H2 =>
                  rw [hx] at h
                  simp only [Option.map_some, finV, Option.some.injEq, Sum.inl.injEq, Prod.mk.injEq] at h
                  obtain ⟨rfl, rfl⟩ := h
                  simp only [storeD] at hx
                  split at hx
                  · split at hx
                    · injection hx with hx
                      subst hx
                      exact ⟨rfl, _, rfl⟩
                    · cases hx
                  · cases hx
            | false =>
              simp only [Option.some.injEq, Sum.inl.injEq, Prod.mk.injEq] at h
              obtain ⟨rfl, rfl⟩ := h
              refine ⟨rfl, ?_⟩
              by_cases hi : i < H.B.length
              · exact ⟨H.B[i], by rw [List.set_getElem_self]⟩
              · exact ⟨.cells [], (List.set_eq_of_length_le (by omega)).symm⟩
        · cases hs
    · rename_i hn
      rw [if_neg hn] at hs
      split at hs
      · rename_i l hl
        obtain ⟨h1, h2⟩ := rdB_spec hl h
        refine ⟨h1, fun b => h2 _ fun i hi => ?_⟩
        have := List.all_eq_true.1 hs i hi
        simp only [Bool.not_eq_true', beq_eq_false_iff_ne] at this
        exact List.getElem?_set_ne (Ne.symm this)
      · obtain ⟨h1, h2⟩ := freeM_spec hs h
        exact ⟨h1, fun X => h2 _⟩

def flN (fl : Nat) (H H1 : Hp) (sf : Bool) (q s : Nat) (x : Nat → Nat → Bool) : Bool :=
  match fl with
  | 0 => true
  | 1 => q == 2 || Hp.eqb H1 H
  | 2 => (q == 2 || Hp.eqb H1 H) && sf
  | 3 => q == 2 || q == 1 || Blk.eqbs H1.B H.B
  | 4 => s == 4
  | 5 => s == 5
  | n + 6 => x (n + 6) H.B.length

theorem flN_ok {pq : FuncId → Bool} (hpq : PqOK pq cal) {fl : Nat} {F : Fr} {H H1 : Hp} {o : Oper} {d : D} (hv : runV P hn mu m cal ops F H o = some (.inl (d, H1)))
    (h : flN fl H H1 (soft F o) (quietF pq F o) (soft45 F o) (soft6 F o) = true) : FlOK0 fl (fun H => runV P hn mu m cal ops F H o) d H H1 := by
  have hq := quietF_spec hpq hv
  have hs := soft45_spec hv
  have two : (quietF pq F o == 2 || Hp.eqb H1 H) = true → H1 = H := fun h => by
    simp only [Bool.or_eq_true, beq_iff_eq] at h
    exact h.elim hq.1 Hp.eqb_eq
  match fl, h with
  | 0, _ => trivial
  | 1, h => exact two h
  | 2, h =>
    simp only [flN, Bool.and_eq_true] at h
    exact ⟨two h.1, soft_spec h.2 hv⟩
  | 3, h =>
    simp only [flN, Bool.or_eq_true, beq_iff_eq] at h
    rcases h with (h | h) | h
    · rw [hq.1 h]; exact rfl
    · exact hq.2 h
    · exact Blk.eqbs_eq _ _ h
  | 4, h => exact hs.1 (by simpa [flN] using h)
  | 5, h => exact hs.2 (by simpa [flN] using h)
  | n + 6, h => exact soft6_spec (by omega) hv h

/-- It leaves memory as it is, and looks at no variable from n0 on. -/
def rdLow (n0 : Nat) (F : Fr) (o : Oper) : Bool :=
  match rdB F o with
  | some l => l.all fun i => decide (i < n0)
  | none => freeM F o
theorem rdLow_spec {n0 : Nat} {F : Fr} {H H1 : Hp} {o : Oper} {d : D} (hs : rdLow n0 F o = true) (hl : n0 ≤ H.B.length) (h : runV P hn mu m cal ops F H o = some (.inl (d, H1))) :
    H1 = H ∧ ∀ T, runV P hn mu m cal ops F ⟨H.B.take n0 ++ T, H.A⟩ o = some (.inl (d, ⟨H.B.take n0 ++ T, H.A⟩)) := by
  unfold rdLow at hs
  split at hs
  · rename_i l hr
    obtain ⟨h1, h2⟩ := rdB_spec hr h
    refine ⟨h1, fun T => h2 _ fun i hi => ?_⟩
    have := of_decide_eq_true (List.all_eq_true.1 hs i hi)
    rw [List.getElem?_append_left (by rw [List.length_take]; omega), List.getElem?_take, if_pos this]
  · obtain ⟨h1, h2⟩ := freeM_spec hs h
    exact ⟨h1, fun T => h2 _⟩

/-- It bears on the variable s alone. -/
def slotF (s : Nat) (F : Fr) (o : Oper) : Bool :=
  match o.op with
  | .alloc _ => true
  | .load _ a => match opd F a with
    | .ptr i _ => i == s
    | _ => false
  | .store _ a _ => match opd F a with
    | .ptr i _ => i == s
    | _ => false
  | _ => false

theorem set_same {B : List Blk} {s : Nat} {c : Blk} (h : B[s]? = some c) : B.set s c = B := by
  obtain ⟨hl, rfl⟩ := List.getElem?_eq_some_iff.1 h
  exact List.set_getElem_self hl

theorem slotF_spec {n0 fl : Nat} (hfl : 2000 ≤ fl) {F : Fr} {H H1 : Hp} {o : Oper} {d : D} (hs : slotF (n0 + (fl - 2000)) F o = true) (hl : n0 + (fl - 2000) < H.B.length)
    (h : runX P hn mu m cal ops n0 fl F H o = some (.inl (d, H1))) : FlS (n0 + (fl - 2000)) (fun H => runX P hn mu m cal ops n0 fl F H o) d H H1 := by
  obtain ⟨dst, op, type, pos, after, guard⟩ := o
  generalize hn0 : n0 + (fl - 2000) = s at hs hl ⊢
  have hb : H.B[s]? = some H.B[s] := List.getElem?_eq_getElem hl
  have skip : ∀ {r : Hp → Option ((D × Hp) ⊕ (PD × Hp))}, (∀ H', r H' = some (.inl (.tup [], H'))) → r H = some (.inl (d, H1)) → FlS s r d H H1 := by
    intro r hr h
    rw [hr] at h
    simp only [Option.some.injEq, Sum.inl.injEq, Prod.mk.injEq] at h
    obtain ⟨rfl, rfl⟩ := h
    exact ⟨H.B[s], by rw [set_same hb], fun B' A' e => by rw [hr, set_same (by rw [e]; exact hb)]⟩
  cases op <;> simp only [slotF] at hs <;> try (cases hs; done)
  case alloc t =>
    unfold runX at h ⊢
    simp only [if_pos hfl] at h ⊢
    cases hw : wantD ops F ⟨dst, .alloc t, type, pos, after, guard⟩ with
    | none => rw [hw] at h; cases h
    | some b =>
      cases b with
      | false => rw [hw] at h; exact skip (fun _ => rfl) h
      | true =>
        rw [hw] at h
        simp only [hn0] at h ⊢
        unfold slotD at h
        split at h
        · rename_i z hz hh
          split at h
          · rename_i hc
            simp only [Option.some.injEq, Sum.inl.injEq, Prod.mk.injEq] at h
            obtain ⟨rfl, rfl⟩ := h
            refine ⟨_, rfl, fun B' A' e => ?_⟩
            unfold slotD
            simp only [hz, e, hh, if_pos hc]
          · cases h
        · cases h
  case load t a =>
    split at hs
    case h_2 => cases hs
    rename_i i off ha
    rw [beq_iff_eq] at hs
    subst hs
    unfold runX at h ⊢
    simp only [if_pos hfl] at h ⊢
    unfold runV at h ⊢
    cases hw : wantD ops F ⟨dst, .load t a, type, pos, after, guard⟩ with
    | none => rw [hw] at h; cases h
    | some b =>
      cases b with
      | false => rw [hw] at h; exact skip (fun _ => rfl) h
      | true =>
        rw [hw] at h
        simp only [exec, ha] at h ⊢
        have e1 : ∀ (H' : Hp), H'.B[i]? = H.B[i]? → ∀ ag n, loadD H' (.ptr i off) ag n = loadD H (.ptr i off) ag n := fun H' e ag n => by simp only [loadD, e]
        rcases hag : aggOf P t with _ | ag
        · rw [hag] at h; cases h
        rcases hsz : szOf P t with _ | n
        · rw [hag, hsz] at h; cases h
        rw [hag, hsz] at h
        simp only at h
        cases hv : loadD H (.ptr i off) ag n with
        | none => rw [hv] at h; cases h
        | some d' =>
          rw [hv] at h
          simp only [Option.map_some, finV, Option.some.injEq, Sum.inl.injEq, Prod.mk.injEq] at h
          obtain ⟨rfl, rfl⟩ := h
          refine ⟨H.B[i], by rw [set_same hb], fun B' A' e => ?_⟩
          have e2 := e1 ⟨B', A'⟩ e ag n
          simp only [e2, hv, set_same (show B'[i]? = some H.B[i] by rw [e]; exact hb)]
          rfl
  case store t a x =>
    split at hs
    case h_2 => cases hs
    rename_i i off ha
    rw [beq_iff_eq] at hs
    subst hs
    unfold runX at h ⊢
    simp only [if_pos hfl] at h ⊢
    unfold runV at h ⊢
    cases hw : wantD ops F ⟨dst, .store t a x, type, pos, after, guard⟩ with
    | none => rw [hw] at h; cases h
    | some b =>
      cases b with
      | false => rw [hw] at h; exact skip (fun _ => rfl) h
      | true =>
        rw [hw] at h
        simp only [exec, ha] at h ⊢
        cases hz : szOf P t with
        | none => rw [hz] at h; cases h
        | some n =>
          rw [hz] at h
          simp only at h ⊢
          cases hx : storeD m H (.ptr i off) (cellsD (opd F x)) n with
          | none => rw [hx] at h; cases h
          | some H2 =>
            rw [hx] at h
            simp only [Option.map_some, finV, Option.some.injEq, Sum.inl.injEq, Prod.mk.injEq] at h
            obtain ⟨rfl, rfl⟩ := h
            simp only [storeD] at hx
            cases h3 : H.B[i]? with
            | none => rw [h3] at hx; cases hx
            | some bk =>
              rw [h3] at hx
              cases bk with
              | cells l =>
                simp only at hx
                split at hx
                · rename_i hc
                  injection hx with hx
                  subst hx
                  refine ⟨_, rfl, fun B' A' e => ?_⟩
                  simp only [storeD, e, h3]
                  rw [if_pos hc]
                  rfl
                · cases hx
              | _ => cases hx

/-- The ways from 1000 on. -/
def flX (n0 k fl : Nat) (F : Fr) (H H1 : Hp) (o : Oper) : Bool :=
  decide (n0 + k ≤ H.B.length) && (
    if fl = 1001 then rdLow n0 F o
    else if fl = 1002 then rdLow n0 F o && (soft F o || freeM F o)
    else if fl = 1003 then Blk.eqbs (H1.B.take n0) (H.B.take n0)
    else if fl = 1000 then true
    else if 2000 ≤ fl then decide (fl - 2000 < k) && slotF (n0 + (fl - 2000)) F o
    else false)

theorem flX_ok {n0 k fl : Nat} (hfl : 1000 ≤ fl) {F : Fr} {H H1 : Hp} {o : Oper} {d : D} (hv : runX P hn mu m cal ops n0 fl F H o = some (.inl (d, H1))) (h : flX n0 k fl F H H1 o = true) :
    FlOK n0 k fl (fun H => runX P hn mu m cal ops n0 fl F H o) d H H1 := by
  unfold flX at h
  rw [Bool.and_eq_true, decide_eq_true_eq] at h
  obtain ⟨hl, h⟩ := h
  unfold FlOK
  rw [if_neg (by omega)]
  refine ⟨hl, ?_⟩
  have plain : fl ≠ 1000 → fl ≠ 1003 → fl < 2000 → (fun H => runX P hn mu m cal ops n0 fl F H o) = (fun H => runV P hn mu m cal ops F H o) := by
    intro a b c
    funext H
    unfold runX
    rw [if_neg (by omega), if_neg (by omega)]
  have hv' : (fun H => runX P hn mu m cal ops n0 fl F H o) H = some (.inl (d, H1)) := hv
  have masked : fl = 1000 ∨ fl = 1003 → ∃ B1 X, B1.length = n0 ∧ H1.B = B1 ++ H.B.drop n0 ++ X ∧ ∀ T, T.length = H.B.length - n0 →
      runX P hn mu m cal ops n0 fl F ⟨H.B.take n0 ++ T, H.A⟩ o = some (.inl (d, ⟨B1 ++ T ++ X, H1.A⟩)) := by
    intro hf
    have e : ∀ H, runX P hn mu m cal ops n0 fl F H o = maskX n0 H (lowF n0 ops F o && closedB n0 H.B) (fun H => runV P hn mu m cal ops F H o) := by
      intro H
      unfold runX
      rw [if_neg (by omega), if_pos hf]
    rw [e] at hv
    obtain ⟨hlow, d', B1, A1, hr, h1, h2, h3⟩ := maskX_inv hv
    injection h3 with h3
    simp only [Prod.mk.injEq] at h3
    obtain ⟨rfl, rfl⟩ := h3
    have hlen : (H.B.take n0).length = n0 := by rw [List.length_take]; omega
    refine ⟨B1.take n0, B1.drop H.B.length, by rw [List.length_take]; omega, rfl, fun T hT => ?_⟩
    rw [e]
    have e1 : (H.B.take n0 ++ T).take n0 = H.B.take n0 := by rw [List.take_append_of_le_length (by omega), List.take_of_length_le (by omega)]
    have e2 : (H.B.take n0 ++ T).drop n0 = T := by rw [List.drop_append_of_le_length (by omega), List.drop_eq_nil_of_le (by omega), List.nil_append]
    have e3 : (H.B.take n0 ++ T).length = H.B.length := by rw [List.length_append, hlen, hT]; omega
    have e4 : maskD n0 ⟨H.B.take n0 ++ T, H.A⟩ = maskD n0 H := by unfold maskD; rw [e1, e3]
    have e5 : closedB n0 (H.B.take n0 ++ T) = closedB n0 H.B := by unfold closedB; rw [e1, e3]
    unfold maskX
    rw [e4, e5, if_pos hlow]
    simp only [hr, e2, e3]
    rw [if_pos ⟨h1, h2⟩]
  split at h
  · rename_i e1
    subst e1
    rw [plain (by omega) (by omega) (by omega)] at hv' ⊢
    rw [if_pos (by omega)]
    unfold FlI
    rw [if_pos rfl]
    exact rdLow_spec h (by omega) hv'
  split at h
  · rename_i _ e1
    subst e1
    rw [plain (by omega) (by omega) (by omega)] at hv' ⊢
    rw [if_pos (by omega)]
    unfold FlI
    rw [if_neg (by omega), if_pos rfl]
    rw [Bool.and_eq_true] at h
    obtain ⟨a, b⟩ := rdLow_spec h.1 (by omega) hv'
    refine ⟨a, fun T A => ?_⟩
    rw [Bool.or_eq_true] at h
    rcases h.2 with h2 | h2
    · exact soft_spec h2 (b T) A
    · exact (freeM_spec h2 hv').2 _
  split at h
  · rename_i _ _ e1
    rw [if_pos (by omega)]
    unfold FlI
    rw [if_neg (by omega), if_neg (by omega), if_pos e1]
    obtain ⟨B1, X, hB, hX, hT⟩ := masked (.inr e1)
    have h4 := Blk.eqbs_eq _ _ h
    rw [hX, List.append_assoc, List.take_append_of_le_length (by omega), List.take_of_length_le (by omega)] at h4
    subst h4
    refine ⟨X, by rw [hX, List.take_append_drop], hT⟩
  split at h
  · rename_i _ _ _ e1
    rw [if_pos (by omega)]
    unfold FlI
    rw [if_neg (by omega), if_neg (by omega), if_neg (by omega), if_pos e1]
    exact masked (.inl e1)
  split at h
  · rename_i _ _ _ _ e1
    rw [if_neg (by omega)]
    rw [Bool.and_eq_true, decide_eq_true_eq] at h
    exact ⟨h.1, slotF_spec e1 h.2 (by omega) hv⟩
  · cases h

/-- The check of a drawn region's operation. -/
def flY (pq : FuncId → Bool) (n0 k fl : Nat) (F : Fr) (H H1 : Hp) (o : Oper) : Bool :=
  if 1000 ≤ fl then flX n0 k fl F H H1 o else flN fl H H1 (soft F o) (quietF pq F o) (soft45 F o) (soft6 F o)
theorem flY_ok {pq : FuncId → Bool} (hpq : PqOK pq cal) {n0 k fl : Nat} {F : Fr} {H H1 : Hp} {o : Oper} {d : D} (hv : runX P hn mu m cal ops n0 fl F H o = some (.inl (d, H1)))
    (h : flY pq n0 k fl F H H1 o = true) : FlOK n0 k fl (fun H => runX P hn mu m cal ops n0 fl F H o) d H H1 := by
  unfold flY at h
  split at h
  · rename_i e; exact flX_ok e hv h
  · rename_i e
    have e1 : (fun H => runX P hn mu m cal ops n0 fl F H o) = (fun H => runV P hn mu m cal ops F H o) := by
      funext H
      unfold runX
      rw [if_neg (by omega), if_neg (by omega)]
    have hv' : (fun H => runX P hn mu m cal ops n0 fl F H o) H = some (.inl (d, H1)) := hv
    unfold FlOK
    rw [if_pos (by omega)]
    rw [e1] at hv' ⊢
    exact flN_ok hpq hv' h

def gateN (pq : FuncId → Bool) (n0 k fl : Nat) (F : Fr) (H : Hp) (o : Oper) (r : Option ((D × Hp) ⊕ (PD × Hp))) : Option ((D × Hp) ⊕ (PD × Hp)) :=
  match r with
  | some (.inl (d, H1)) =>
    if flY pq n0 k fl F H H1 o = true then some (.inl (d, H1)) else none
  | some (.inr x) => if fl = 0 then some (.inr x) else none
  | none => none

def runDrawN (pq : FuncId → Bool) (P : Program) (hi : Hints) (mu : Bool) (m : Mk) (cal : Cal) (ops : Array Oper) (n0 k : Nat) : List Oper → List Nat → Fr → Hp → Option RO
  | [], _, F, H => some (.go F H)
  | o :: r, fl, F, H =>
    match gateN pq n0 k (fl.headD 0) F H o (runX P hi mu m cal ops n0 (fl.headD 0) F H o) with
    | some (.inl (d, H1)) => runDrawN pq P hi mu m cal ops n0 k r fl.tail (putF o.dst d F) H1
    | some (.inr (x, H1)) => some (.pan x H1)
    | none => none
def drawRN (pq : FuncId → Bool) (P : Program) (hi : Hints) (mu : Bool) (m : Mk) (cal : Cal) (ops : Array Oper) (fl : List Nat) (F : Fr) (H : Hp) : Option RO :=
  runDrawN pq P hi mu m cal ops H.B.length (slotsOf fl) ops.toList fl F (H.kept (slotsOf fl))

theorem gateN_le {pq : FuncId → Bool} (hpq : PqOK pq cal) {n0 k fl : Nat} {F : Fr} {H : Hp} {o : Oper} {x : (D × Hp) ⊕ (PD × Hp)} (h : gateN pq n0 k fl F H o (runX P hn mu m cal ops n0 fl F H o) = some x) :
    runVF P hn mu m cal ops n0 k fl F H o = some x := by
  unfold gateN at h
  split at h
  · rename_i d H1 hv
    split at h
    · rename_i hk
      injection h with h
      subst h
      exact gate_inl.2 ⟨hv, flY_ok hpq hv hk⟩
    · cases h
  · rename_i y hv
    split at h
    · rename_i hk
      injection h with h
      subst h
      exact gate_inr.2 ⟨hv, hk⟩
    · cases h
  · cases h

theorem runDrawN_le {pq : FuncId → Bool} (hpq : PqOK pq cal) {n0 k : Nat} : ∀ (l : List Oper) (fl : List Nat) (F : Fr) (H : Hp) (ro : RO), runDrawN pq P hn mu m cal ops n0 k l fl F H = some ro → runDraw P hn mu m cal ops n0 k l fl F H = some ro := by
  intro l
  induction l with
  | nil => intro fl F H ro h; exact h
  | cons o r ih =>
    intro fl F H ro h
    simp only [runDrawN, runDraw] at h ⊢
    split at h
    · rename_i hv; rw [gateN_le hpq hv]; exact ih _ _ _ _ h
    · rename_i hv; rw [gateN_le hpq hv]; exact h
    · cases h
theorem drawRN_le {pq : FuncId → Bool} (hpq : PqOK pq cal) {fl : List Nat} {F : Fr} {H : Hp} {ro : RO} (h : drawRN pq P hn mu m cal ops fl F H = some ro) : drawR P hn mu m cal ops fl F H = some ro := runDrawN_le hpq _ _ _ _ _ h

def evalCN (pq : FuncId → Bool) (P : Program) (hi : Hints) (ch : CH) (mu : Bool) (m : Mk) (n : Nat) (cal : Cal) (f : FuncId) : Code → Fr → Hp → Option CO
  | .skip, F, H => some (.normal, F, H)
  | .label _, F, H => some (.normal, F, H)
  | .region id ops draw, F, H =>
    match (if draw = true then drawRN pq P hi mu m cal ops (ch.fl f id) F H else runOps P hi mu m cal ops ops.toList F H) with
    | some (.go F1 H1) => some (.normal, norm (ch.keep f id) F1, H1)
    | some (.pan x H1) => some (.pan x, [], H1)
    | none => none
  | .seq a b, F, H =>
    match evalCN pq P hi ch mu m n cal f a F H with
    | some (.normal, F1, H1) => evalCN pq P hi ch mu m n cal f b F1 H1
    | r => r
  | .cond c a b, F, H =>
    match opd F c with
    | .p (.bool t) => if t = true then evalCN pq P hi ch mu m n cal f a F H else evalCN pq P hi ch mu m n cal f b F H
    | _ => none
  | .block id c, F, H =>
    match evalCN pq P hi ch mu m n cal f c F H with
    | some (.exit i, F1, H1) => if i = id then some (.normal, F1, H1) else some (.exit i, F1, H1)
    | r => r
  | .loop c, F, H => loopN (evalCN pq P hi ch mu m n cal f c) (cutD m (ch.head f (firstR c)) H.B.length H.A.length) n F H
  | .scope c, F, H => evalCN pq P hi ch mu m n cal f c F H
  | .exit id, F, H => some (.exit id, F, H)
  | .ret, F, H => some (.ret, F, H)
  | .rangeFunc g ps assign body, F, H => rangeD m cal f g ps assign body F H
  | _, _, _ => none

theorem evalCN_le {pq : FuncId → Bool} (hpq : PqOK pq cal) {n : Nat} : ∀ (k : Code) (F : Fr) (H : Hp) (r : CO), evalCN pq P hn ch mu m n cal f k F H = some r → evalC P hn ch mu m cal f k F H = some r := by
  intro k
  induction k with
  | region id ops draw =>
    intro F H r h
    simp only [evalC, evalCN] at h ⊢
    have key : ∀ ro, (if draw = true then drawRN pq P hn mu m cal ops (ch.fl f id) F H else runOps P hn mu m cal ops ops.toList F H) = some ro →
        (if draw = true then drawR P hn mu m cal ops (ch.fl f id) F H else runOps P hn mu m cal ops ops.toList F H) = some ro := by
      intro ro h9
      split at h9
      · rename_i e; rw [if_pos e]; exact drawRN_le hpq h9
      · rename_i e; rw [if_neg e]; exact h9
    split at h
    · rename_i h1; rw [key _ h1]; exact h
    · rename_i h1; rw [key _ h1]; exact h
    · cases h
  | seq a b iha ihb =>
    intro F H r h
    simp only [evalC, evalCN] at h ⊢
    split at h
    · rename_i F1 H1 h1; rw [iha _ _ _ h1]; exact ihb _ _ _ h
    · rename_i hne
      rw [iha _ _ _ h]
      obtain ⟨e, F1, H1⟩ := r
      cases e with
      | normal => exact absurd h (hne F1 H1)
      | _ => rfl
  | cond x a b iha ihb =>
    intro F H r h
    simp only [evalC, evalCN] at h ⊢
    split at h
    · rename_i t ht
      simp only [ht]
      split at h
      · rename_i e; rw [if_pos e]; exact iha _ _ _ h
      · rename_i e; rw [if_neg e]; exact ihb _ _ _ h
    · cases h
  | block id k ih =>
    intro F H r h
    simp only [evalC, evalCN] at h ⊢
    split at h
    · rename_i h1; rw [ih _ _ _ h1]; exact h
    · rename_i hne
      rw [ih _ _ _ h]
      obtain ⟨e, F1, H1⟩ := r
      cases e with
      | exit i => exact absurd h (hne i F1 H1)
      | _ => rfl
  | scope k ih => intro F H r h; simp only [evalC, evalCN] at h ⊢; exact ih _ _ _ h
  | loop k ih =>
    intro F H r h
    simp only [evalC, evalCN] at h ⊢
    refine loopW_iff.2 ⟨n, ?_⟩
    have key : ∀ cut n' F H r, loopN (evalCN pq P hn ch mu m n cal f k) cut n' F H = some r → loopN (evalC P hn ch mu m cal f k) cut n' F H = some r := by
      intro cut n'
      induction n' with
      | zero => intro F H r h; cases h
      | succ n' ihn =>
        intro F H r h
        rw [loopN] at h ⊢
        split at h
        · cases h
        · rename_i F0 H0 hcut
          split at h
          · rename_i F1 H1 h1
            simp only [ih _ _ _ h1]
            exact ihn _ _ _ h
          · rename_i hne
            simp only [ih _ _ _ h]
            obtain ⟨e, F1, H1⟩ := r
            cases e with
            | normal => exact absurd h (hne F1 H1)
            | _ => rfl
    exact key _ n F H r h
  | _ => intro F H r h; exact h

def evalFunN (pq : FuncId → Bool) (P : Program) (hn : Hints) (ch : CH) (n : Nat) (cal : Cal) : Cal := fun f args H =>
  match P.funcs[f]? with
  | none => none
  | some fn =>
    match fn.body with
    | none => none
    | some c =>
      if args.length ≤ fn.ntmps then
        if ch.opn f = true then fnOutO P fn.results.toList (evalCN pq P hn ch (hn.mutF f) ⟨0, 0⟩ n cal f c (mkF 0 args) H)
        else if ch.keepN f = true then fnOutN P fn.results.toList H.B.length H.A.length (evalCN pq P hn ch (hn.mutF f) ⟨0, 0⟩ n cal f c (mkF 0 args) H)
        else fnOut P fn.results.toList H.B.length H.A.length (evalCN pq P hn ch (hn.mutF f) ⟨0, 0⟩ n cal f c (mkF 0 args) H)
      else none

def evalRoundN (pq : FuncId → Bool) (P : Program) (hn : Hints) (ch : CH) (n : Nat) (cal : Cal) (i : Nat) (args : List D) (H : Hp) : Option (Out × Hp) :=
  rndRun (fun f c F H => evalCN pq P hn ch (hn.mutF f) ⟨i + 1, 0⟩ n cal f c F H) (okD ch) i args H

def pqX (P : Program) (ch : CH) (x : Others P) (g : FuncId) : Bool := decide (g < 1000000000) && (!x.is g && (ch.lend g || ch.pure g))

/-- ok: the functions that were looked at beforehand. -/
def calN (P : Program) (hn : Hints) (ch : CH) (x : Others P) (dn : Nat → Cal → Cal) (ok : FuncId → Bool) : Nat → Cal
  | 0 => fun _ _ _ => none
  | n + 1 => fun f args H =>
    if YB ≤ f then evalRoundN (pqX P ch x) P hn ch n (calN P hn ch x dn ok n) (f - YB) args H
    else if x.is f = true then dn n (calN P hn ch x dn ok n) f args H
    else if ok f = true then
      (if ch.lend f = true then lendD H args (fun xs => evalFunN (pqX P ch x) P hn ch n (calN P hn ch x dn ok n) f xs H00) else if ch.pure f = true ∧ args.all (D.noRef 0 0) = true then alone H (evalFunN (pqX P ch x) P hn ch n (calN P hn ch x dn ok n) f args H00) else evalFunN (pqX P ch x) P hn ch n (calN P hn ch x dn ok n) f args H)
    else none

theorem evalFunN_le {pq : FuncId → Bool} {c d : Cal} (hpq : PqOK pq c) (hcd : CalLe c d) {n : Nat} {f : FuncId} (hk : okFn P ch f = true) {a : List D} {H : Hp} {r : Out × Hp} (h : evalFunN pq P hn ch n c f a H = some r) :
    evalFun P hn ch d f a H = some r := by
  refine evalFun_mono hcd f a H r ?_
  unfold evalFunN at h
  unfold evalFun
  split at h
  · cases h
  · rename_i fn hf
    split at h
    · cases h
    · rename_i c' hb
      split at h
      · rename_i hlen
        simp only [hf, hb, hk, hlen, and_self, if_true]
        cases he : evalCN pq P hn ch (hn.mutF f) ⟨0, 0⟩ n c f c' (mkF 0 a) H with
        | none => rw [he] at h; (repeat' split at h) <;> cases h
        | some r1 => rw [he] at h; rw [evalCN_le hpq _ _ _ _ he]; exact h
      · cases h

theorem evalRoundN_le {pq : FuncId → Bool} {c d : Cal} (hpq : PqOK pq c) (hcd : CalLe c d) {n i : Nat} {a : List D} {H : Hp} {r : Out × Hp} (h : evalRoundN pq P hn ch n c i a H = some r) : evalRound P hn ch d i a H = some r :=
  evalRound_mono hcd (rndRun_mono (fun _ k _ _ _ h2 => evalCN_le hpq k _ _ _ h2) h)

theorem calN_pq {x : Others P} {dn : Nat → Cal → Cal} {ok : FuncId → Bool} : ∀ n, PqOK (pqX P ch x) (calN P hn ch x dn ok n) := by
  intro n g args H out H1 hg ha h
  simp only [pqX, Bool.and_eq_true, decide_eq_true_eq, Bool.not_eq_true'] at hg
  cases n with
  | zero => cases h
  | succ n =>
    simp only [calN] at h
    rw [if_neg (Nat.not_le.2 hg.1), if_neg (by rw [hg.2.1]; simp)] at h
    split at h
    · split at h
      · unfold lendD at h
        split at h
        · split at h
          · obtain ⟨d, h1, _, _⟩ := lent_inv h
            simp only [Prod.mk.injEq] at h1
            exact h1.2
          · cases h
        · cases h
      · rename_i hl
        have hp : ch.pure g = true := by
          have := hg.2.2
          simp only [Bool.or_eq_true] at this
          exact this.resolve_left hl
        rw [if_pos ⟨hp, ha⟩] at h
        exact (alone_inv h).2.1
    · cases h

theorem calN_le {x : Others P} {dn : Nat → Cal → Cal} {ok : FuncId → Bool} (hok : ∀ f, ok f = true → okFn P ch f = true)
    (hdn : ∀ n c d, PqOK (pqX P ch x) c → CalLe c d → ∀ f a H r, dn n c f a H = some r → x.does d f a H = some r) : ∀ n, CalLe (calN P hn ch x dn ok n) (calW P hn ch x) := by
  intro n
  induction n with
  | zero => intro f a H r h; cases h
  | succ n ih =>
    intro f a H r h
    refine calW_of ?_
    simp only [calN, calF] at h ⊢
    split at h
    · rename_i e; rw [if_pos e]; exact evalRoundN_le (calN_pq n) ih h
    · rename_i e0
      rw [if_neg e0]
      split at h
      · rename_i e; rw [if_pos e]; exact hdn n _ _ (calN_pq n) ih f a H r h
      · rename_i e
        rw [if_neg e]
        split at h
        · rename_i hk
          split at h
          · rename_i e2; rw [if_pos e2]; exact lend_mono (fun xs y hy => evalFunN_le (calN_pq n) ih (hok f hk) hy) h
          rename_i e1
          rw [if_neg e1]
          split at h
          · rename_i e2; rw [if_pos e2]; exact alone_mono (fun y hy => evalFunN_le (calN_pq n) ih (hok f hk) hy) h
          · rename_i e2; rw [if_neg e2]; exact evalFunN_le (calN_pq n) ih (hok f hk) h
        · cases h
end
end Go.Vi
end
