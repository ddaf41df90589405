/- It is proved here that the evaluator of the program's functions agrees with the model's run; no condition. This part: regions that draw, the code's shape, more fuel changes nothing. -/
import Derived.Test.YtjkpdlloccnilaaGreatDoorMC
import Derived.Orders
import Derived.OrdersIn
import Derived.RangeFuncLeaves
import Derived.RangeFuncRecord
import Derived.RangeFuncNested
set_option linter.unusedVariables false
set_option linter.unusedSimpArgs false

section
/- Vi, part 16: regions in the text's order. No conditions. -/
namespace Go.Vi
open Go Go.Lib

/-- A function whose call is entered. -/
def plainFn (P : Program) (f : FuncId) : Bool :=
  match P.funcs[f]? with
  | some fn => fn.name != "runtime.NumGoroutine" && fn.body.isSome
  | none => false

/-- What a call ends with. -/
def CallPost (w : World) (g : Gh) (H : Hp) (out : Out) (H' : Hp) (e : Ending) (w' : World) : Prop :=
  ∃ g', Inv w' g' H' ∧ Ext w g H.A w' g' H'.A ∧
    match out with
    | .ret d => ∃ v, e = .returned v ∧ RepD w' g' H'.A d v
    | .pan x => ∃ v, e = .panicked [{ v := v, recovered := false }] ∧ RepP w' g'.I x v

/-- A call of the function that carries out a round. -/
def Yields (P : Program) (b : Nat) (vs : Array Value) (w : World) (R : Ending → World → Prop) : Prop :=
  ∃ fn tmps assign body, (Instr.yield b vs).run P w = .ok (.round b fn tmps assign body) w ∧ RoundIn Fence.wide 0 P b fn tmps assign body w R

/-- What is said of a call is so. -/
def CalOK (P : Program) (cal : Cal) : Prop :=
  ∀ (f : FuncId) (args : List D) (H : Hp) (out : Out) (H' : Hp), cal f args H = some (out, H') →
    (f < YB → plainFn P f = true ∧ ∀ (w : World) (g : Gh) (vs : List Value), Inv w g H → PW w g H.A args vs → Calls P f vs.toArray w (CallPost w g H out H')) ∧
    (YB ≤ f → ∀ (w : World) (g : Gh) (vs : List Value) (b : Nat), g.B[f - YB]? = some (some b) → Inv w g H → PW w g H.A args vs → Yields P b vs.toArray w (CallPost w g H out H'))

/-- The fence: all functions; within a round, or not. -/
abbrev FR (rd : Option Nat) : Fence := { Fence.wide with round := rd }

section
variable {P : Program} {w : World} {g : Gh} {F : Fr} {H : Hp} {a : Act} {N : Fm}

theorem run_callFunc {f : FuncId} (h : plainFn P f = true) (vs : Array Value) : (callFunc f vs).run P w = .ok (.enter f vs) w := by
  unfold plainFn at h
  split at h
  · rename_i fn hf
    simp only [Bool.and_eq_true, bne_iff_ne, ne_eq] at h
    obtain ⟨h1, h2⟩ := h
    obtain ⟨c, hc⟩ := Option.isSome_iff_exists.1 h2
    simp [callFunc, hf, h1, hc]
  · cases h

theorem sim_put {w' : World} {g' : Gh} {H' : Hp} (hs : Sim w g F H a N) (he : Ext w g H.A w' g' H'.A) (hi : Inv w' g' H') {dst : Option Tmp} (hd : ∀ t, dst = some t → t < N.n) {d : D} {v : Value}
    (hr : RepD w' g' H'.A d v) : Sim w' g' (putF dst d F) H' (a.put dst v) N := by
  cases dst with
  | none => exact ⟨fun t => (hs.fr t).ext he, hi, hs.sz, hs.df.ext he⟩
  | some t0 =>
    refine ⟨fun t => ?_, hi, by simp [Act.put, hs.sz], hs.df.ext he⟩
    have hlt := hd t0 rfl
    simp only [putF, look, Act.put]
    by_cases ht : t0 = t
    · subst ht
      rw [if_pos rfl]
      simpa [hs.sz, hlt] using hr
    · rw [if_neg ht]
      have := (hs.fr t).ext he
      simpa [Array.getElem?_setIfInBounds_ne ht] using this

theorem sim_ext {w' : World} {g' : Gh} {H' : Hp} (hs : Sim w g F H a N) (he : Ext w g H.A w' g' H'.A) (hi : Inv w' g' H') : Sim w' g' F H' a N :=
  ⟨fun t => (hs.fr t).ext he, hi, hs.sz, hs.df.ext he⟩

theorem want_sound (hs : Sim w g F H a N) {ops : Array Oper} {o : Oper} {b : Bool} (h : wantD ops F o = some b) : Region.wanted o (yielded ops a.tmps) = b := by
  unfold wantD at h
  unfold Region.wanted
  split at h
  · rename_i hg
    simp only [hg]
    injection h
  · rename_i j want hg
    simp only [hg]
    split at h
    · rename_i hn
      injection h with h
      simp [yielded, hn, ← h]
    · rename_i t ht
      have hr := hs.fr t
      split at h
      · rename_i b' hb
        rw [hb] at hr
        injection h with h
        have hv := inv_bool hr
        have hlt : t < a.tmps.size := by
          rcases Nat.lt_or_ge t a.tmps.size with h1 | h1
          · exact h1
          · rw [Array.getD_eq_getD_getElem?, Array.getElem?_eq_none h1] at hv
            cases hv
        have : a.tmps[t]? = some (.bool b') := by
          rw [Array.getD_eq_getD_getElem?, Array.getElem?_eq_getElem hlt] at hv
          rw [Array.getElem?_eq_getElem hlt]
          simpa using hv
        simp only [yielded, ht, Option.bind_some, this, ← h]
        cases b' <;> cases want <;> rfl
      · rename_i hb
        rw [hb] at hr
        injection h with h
        have hv : a.tmps.getD t undef = .tuple #[] := by
          generalize a.tmps.getD t undef = v at hr ⊢
          cases hr with
          | tup _ cs hs _ => 
            have : cs = #[] := Array.eq_empty_of_size_eq_zero (by simpa using hs)
            rw [this]
        simp only [yielded, ht, Option.bind_some, ← h]
        cases hx : a.tmps[t]? with
        | none => rfl
        | some u =>
          rw [Array.getD_eq_getD_getElem?, hx] at hv
          simp only [Option.getD_some] at hv
          rw [hv]
          rfl
      · cases h

/-- What holds behind a region. -/
def After (w : World) (g : Gh) (H : Hp) (N : Fm) (Q : Exit → Act → World → Prop) : RO → Prop
  | .go F' H' => ∀ a' w' g', Sim w' g' F' H' a' N → Ext w g H.A w' g' H'.A → Q .normal a' w'
  | .pan x H' => ∀ (a' : Act) (w' : World) (g' : Gh) (v : Value), Inv w' g' H' → Ext w g H.A w' g' H'.A → RepP w' g'.I x v → Dfs N w' g' a'.defers → Q (.panic [{ v := v, recovered := false }]) a' w'

theorem After.ext {w1 : World} {g1 : Gh} {H1 : Hp} {Q : Exit → Act → World → Prop} {ro : RO} (he : Ext w g H.A w1 g1 H1.A) (h : After w g H N Q ro) : After w1 g1 H1 N Q ro := by
  cases ro with
  | go F' H' => exact fun a' w' g' hs he' => h a' w' g' hs (he.trans he')
  | pan x H' => exact fun a' w' g' v hi he' => h a' w' g' v hi (he.trans he')

theorem exec_nodefer {hn : Hints} {mu : Bool} {m : Mk} {o : Oper} {r : Nx} (h : exec P hn mu m F H o = some r) : ∀ c, o.op ≠ .defer c := by
  obtain ⟨dst, op, type, pos, after, guard⟩ := o
  rintro c rfl
  simp [exec] at h

def ofRO (r : Option Nx) : Prop := ∀ x, r ≠ some (.pan x)

theorem runOp_cases {hn : Hints} {mu : Bool} {m : Mk} {cal : Cal} {ops : Array Oper} {o : Oper} {ro : RO} (hs : Sim w g F H a N) (h : runOp P hn mu m cal ops F H o = some ro) :
    (Region.wanted o (yielded ops a.tmps) = false ∧ ro = .go (putF o.dst (.tup []) F) H) ∨
    (Region.wanted o (yielded ops a.tmps) = true ∧ ∃ nx, exec P hn mu m F H o = some nx ∧ ((∃ x, nx = .pan x ∧ ro = .pan x H) ∨ (fin o.dst F (some nx) cal = some ro))) := by
  unfold runOp at h
  split at h
  · rename_i hw
    refine .inr ⟨want_sound hs hw, ?_⟩
    split at h
    · rename_i x hx
      injection h with h
      exact ⟨_, hx, .inl ⟨x, rfl, h.symm⟩⟩
    · rename_i r hnp
      cases hr : exec P hn mu m F H o with
      | none => rw [hr] at h; simp [fin] at h
      | some nx => exact ⟨nx, rfl, .inr (by rw [hr] at h; exact h)⟩
  · rename_i hw
    injection h with h
    exact .inl ⟨want_sound hs hw, h.symm⟩
  · cases h

/-- One operation: the machine goes on, or gives up, as the evaluator says. -/
theorem op_soundP {hn : Hints} {mu : Bool} {m : Mk} {cal : Cal} {rd : Option Nat} (hc : CalOK P cal) (hs : Sim w g F H a N) {ops : Array Oper} {o : Oper} (hd : ∀ t, o.dst = some t → t < N.n) {ro : RO}
    (h : runOp P hn mu m cal ops F H o = some ro) (K : Act → World → Prop) (Q : Exit → Act → World → Prop)
    (hK : match ro with
      | .go F' H' => ∀ v w' g', Sim w' g' F' H' (a.put o.dst v) N → Ext w g H.A w' g' H'.A → K (a.put o.dst v) w'
      | .pan x H' => ∀ (a' : Act) (w' : World) (g' : Gh) (v : Value), Inv w' g' H' → Ext w g H.A w' g' H'.A → RepP w' g'.I x v → Dfs N w' g' a'.defers → Q (.panic [{ v := v, recovered := false }]) a' w') :
    if Region.wanted o (yielded ops a.tmps) then o.wpIn (FR rd) 0 P a w K Q else (∀ f, o.about P w a.eval = some f → (FR rd).fn f) ∧ K (a.put o.dst undef) w := by
  rcases runOp_cases hs h with ⟨hw, rfl⟩ | ⟨hw, nx, hx, h⟩
  · rw [hw, if_neg (by simp)]
    exact ⟨fun _ _ => trivial, hK _ w g (sim_put hs (Ext.refl _ _ _) hs.inv hd (tup_of PW.nil)) (Ext.refl _ _ _)⟩
  · rw [hw, if_pos rfl]
    unfold Oper.wpIn
    rw [Oper.semAt_eq _ _ _ (exec_nodefer hx)]
    refine ⟨fun _ _ => trivial, ?_⟩
    have hg := exec_sound hs hx
    cases nx with
    | pan x =>
      obtain ⟨v, hv, hr⟩ := hg
      rcases h with ⟨y, hy, rfl⟩ | h
      · injection hy with hy
        subst hy
        rw [hv]
        exact hK a w g v hs.inv (Ext.refl _ _ _) hr hs.df
      · simp [fin] at h
    | val d H1 =>
      rcases h with ⟨y, hy, _⟩ | h
      · cases hy
      simp only [fin, Option.some.injEq] at h
      subst h
      obtain ⟨v, w1, g1, hv, hrep, hi1, he1⟩ := hg
      rw [hv]
      exact hK _ w1 g1 (sim_put hs he1 hi1 hd hrep) he1
    | skip H1 =>
      rcases h with ⟨y, hy, _⟩ | h
      · cases hy
      simp only [fin, Option.some.injEq] at h
      subst h
      obtain ⟨w1, g1, hv, hi1, he1⟩ := hg
      rw [hv]
      exact hK _ w1 g1 (sim_put hs he1 hi1 hd (tup_of PW.nil)) he1
    | call f args H1 =>
      rcases h with ⟨y, hy, _⟩ | h
      · cases hy
      obtain ⟨vs, g1, hv, hi1, he1, hl, hargs⟩ := hg
      rw [hv]
      simp only [fin] at h
      split at h
      · rename_i hlt
        have ret : ∀ out H2, cal f args H1 = some (out, H2) → plainFn P f = true ∧ CallsIn (FR rd) (0 - 1) P f vs.toArray w (CallPost w g1 H1 out H2) := fun out H2 hcal =>
          ⟨((hc f args H1 out H2 hcal).1 hlt).1, callsIn_wide.2 (((hc f args H1 out H2 hcal).1 hlt).2 w g1 vs hi1 ⟨hl, hargs⟩)⟩
        split at h
        · rename_i d H2 hcal
          injection h with h
          subst h
          obtain ⟨hp, hcalls⟩ := ret _ _ hcal
          rw [run_callFunc hp]
          refine ⟨fun hx => (by simp [Fence.wide] at hx), hcalls.mono fun e w2 hpost => ?_⟩
          obtain ⟨g2, hi2, he2, v, rfl, hrep⟩ := hpost
          exact hK _ w2 g2 (sim_put hs (he1.trans he2) hi2 hd hrep) (he1.trans he2)
        · rename_i x H2 hcal
          injection h with h
          subst h
          obtain ⟨hp, hcalls⟩ := ret _ _ hcal
          rw [run_callFunc hp]
          refine ⟨fun hx => (by simp [Fence.wide] at hx), hcalls.mono fun e w2 hpost => ?_⟩
          obtain ⟨g2, hi2, he2, v, rfl, hrep⟩ := hpost
          exact hK a w2 g2 v hi2 (he1.trans he2) hrep (hs.df.ext (he1.trans he2))
        · cases h
      · cases h
    | yield i args H1 =>
      rcases h with ⟨y, hy, _⟩ | h
      · cases hy
      obtain ⟨vs, g1, b, hv, hb, hi1, he1, hl, hargs⟩ := hg
      rw [hv]
      simp only [fin] at h
      have ret : ∀ out H2, cal (YB + i) args H1 = some (out, H2) → Yields P b vs.toArray w (CallPost w g1 H1 out H2) := fun out H2 hcal =>
        (hc _ args H1 out H2 hcal).2 (Nat.le_add_right _ _) w g1 vs b (by rw [Nat.add_sub_cancel_left]; exact hb) hi1 ⟨hl, hargs⟩
      split at h
      · rename_i d H2 hcal
        injection h with h
        subst h
        obtain ⟨fn, tmps, assign, body, hy, hround⟩ := ret _ _ hcal
        rw [hy]
        refine ⟨fun hx => (by simp [Fence.wide] at hx), RoundIn.mono (F := FR rd) (n := 0) hround fun e w2 hpost => ?_⟩
        obtain ⟨g2, hi2, he2, v, rfl, hrep⟩ := hpost
        exact hK _ w2 g2 (sim_put hs (he1.trans he2) hi2 hd hrep) (he1.trans he2)
      · rename_i x H2 hcal
        injection h with h
        subst h
        obtain ⟨fn, tmps, assign, body, hy, hround⟩ := ret _ _ hcal
        rw [hy]
        refine ⟨fun hx => (by simp [Fence.wide] at hx), RoundIn.mono (F := FR rd) (n := 0) hround fun e w2 hpost => ?_⟩
        obtain ⟨g2, hi2, he2, v, rfl, hrep⟩ := hpost
        exact hK a w2 g2 v hi2 (he1.trans he2) hrep (hs.df.ext (he1.trans he2))
      · cases h

theorem op_sound {hn : Hints} {mu : Bool} {m : Mk} {cal : Cal} {rd : Option Nat} (hc : CalOK P cal) (hs : Sim w g F H a N) {ops : Array Oper} {o : Oper} (hd : ∀ t, o.dst = some t → t < N.n) {ro : RO}
    (h : runOp P hn mu m cal ops F H o = some ro) (K : Act → World → Prop) (Q : Exit → Act → World → Prop)
    (hK : After w g H N (fun e a w => match e with | .normal => K a w | e => Q e a w) ro) :
    if Region.wanted o (yielded ops a.tmps) then o.wpIn (FR rd) 0 P a w K Q else (∀ f, o.about P w a.eval = some f → (FR rd).fn f) ∧ K (a.put o.dst undef) w := by
  refine op_soundP hc hs hd h K Q ?_
  cases ro with
  | go F' H' => exact fun v w' g' hs' he' => hK _ w' g' hs' he'
  | pan x H' => exact hK

theorem ops_sound {hn : Hints} {mu : Bool} {m : Mk} {cal : Cal} {rd : Option Nat} (hc : CalOK P cal) {ops : Array Oper} {Q : Exit → Act → World → Prop} : ∀ (l : List Oper) (w : World) (g : Gh) (F : Fr) (H : Hp) (a : Act) (ro : RO),
    Sim w g F H a N → (∀ o ∈ l, ∀ t, o.dst = some t → t < N.n) → runOps P hn mu m cal ops l F H = some ro → After w g H N Q ro → wpListIn (FR rd) 0 P ops Q l a w := by
  intro l
  induction l with
  | nil =>
    intro w g F H a ro hs _ h hQ
    simp only [runOps, Option.some.injEq] at h
    subst h
    exact hQ a w g hs (Ext.refl _ _ _)
  | cons o r ih =>
    intro w g F H a ro hs hd h hQ
    simp only [runOps] at h
    refine wpListIn_step fun K hKK => ?_
    split at h
    · rename_i F1 H1 h1
      refine op_sound hc hs (hd o (by simp)) h1 K Q fun a' w' g' hs' he' => hKK _ _ ?_
      exact ih w' g' F1 H1 a' ro hs' (fun o ho => hd o (by simp [ho])) h (hQ.ext he')
    · rename_i hne
      cases ro with
      | go F1 H1 => exact absurd h (hne F1 H1)
      | pan x H1 => exact op_sound hc hs (hd o (by simp)) h K Q fun a' w' g' v hi he hr hdf => hQ a' w' g' v hi he hr hdf

/-! ### The same without a fence, where no round is asked for -/
def NoY (cal : Cal) : Prop := ∀ i args H, cal (YB + i) args H = none

theorem op_sound0 {hn : Hints} {mu : Bool} {m : Mk} {cal : Cal} (hc : CalOK P cal) (hny : NoY cal) (hs : Sim w g F H a N) {ops : Array Oper} {o : Oper} (hd : ∀ t, o.dst = some t → t < N.n) {ro : RO}
    (h : runOp P hn mu m cal ops F H o = some ro) (K : Act → World → Prop) (Q : Exit → Act → World → Prop)
    (hK : After w g H N (fun e a w => match e with | .normal => K a w | e => Q e a w) ro) :
    if Region.wanted o (yielded ops a.tmps) then o.wp P a w K Q else K (a.put o.dst undef) w := by
  rcases runOp_cases hs h with ⟨hw, rfl⟩ | ⟨hw, nx, hx, h⟩
  · rw [hw, if_neg (by simp)]
    exact hK _ w g (sim_put hs (Ext.refl _ _ _) hs.inv hd (tup_of PW.nil)) (Ext.refl _ _ _)
  · rw [hw, if_pos rfl]
    unfold Oper.wp
    have hg := exec_sound hs hx
    cases nx with
    | pan x =>
      obtain ⟨v, hv, hr⟩ := hg
      rcases h with ⟨y, hy, rfl⟩ | h
      · injection hy with hy
        subst hy
        rw [hv]
        exact hK a w g v hs.inv (Ext.refl _ _ _) hr hs.df
      · simp [fin] at h
    | val d H1 =>
      rcases h with ⟨y, hy, _⟩ | h
      · cases hy
      simp only [fin, Option.some.injEq] at h
      subst h
      obtain ⟨v, w1, g1, hv, hrep, hi1, he1⟩ := hg
      rw [hv]
      exact hK _ w1 g1 (sim_put hs he1 hi1 hd hrep) he1
    | skip H1 =>
      rcases h with ⟨y, hy, _⟩ | h
      · cases hy
      simp only [fin, Option.some.injEq] at h
      subst h
      obtain ⟨w1, g1, hv, hi1, he1⟩ := hg
      rw [hv]
      exact hK _ w1 g1 (sim_put hs he1 hi1 hd (tup_of PW.nil)) he1
    | call f args H1 =>
      rcases h with ⟨y, hy, _⟩ | h
      · cases hy
      obtain ⟨vs, g1, hv, hi1, he1, hl, hargs⟩ := hg
      rw [hv]
      simp only [fin] at h
      split at h
      · rename_i hlt
        have ret : ∀ out H2, cal f args H1 = some (out, H2) → plainFn P f = true ∧ Calls P f vs.toArray w (CallPost w g1 H1 out H2) := fun out H2 hcal =>
          ⟨((hc f args H1 out H2 hcal).1 hlt).1, ((hc f args H1 out H2 hcal).1 hlt).2 w g1 vs hi1 ⟨hl, hargs⟩⟩
        split at h
        · rename_i d H2 hcal
          injection h with h
          subst h
          obtain ⟨hp, hcalls⟩ := ret _ _ hcal
          rw [run_callFunc hp]
          refine hcalls.mono fun e w2 hpost => ?_
          obtain ⟨g2, hi2, he2, v, rfl, hrep⟩ := hpost
          exact hK _ w2 g2 (sim_put hs (he1.trans he2) hi2 hd hrep) (he1.trans he2)
        · rename_i x H2 hcal
          injection h with h
          subst h
          obtain ⟨hp, hcalls⟩ := ret _ _ hcal
          rw [run_callFunc hp]
          refine hcalls.mono fun e w2 hpost => ?_
          obtain ⟨g2, hi2, he2, v, rfl, hrep⟩ := hpost
          exact hK a w2 g2 v hi2 (he1.trans he2) hrep (hs.df.ext (he1.trans he2))
        · cases h
      · cases h
    | yield i args H1 =>
      rcases h with ⟨y, hy, _⟩ | h
      · cases hy
      simp only [fin] at h
      rw [hny i args H1] at h
      cases h

theorem ops_sound0 {hn : Hints} {mu : Bool} {m : Mk} {cal : Cal} (hc : CalOK P cal) (hny : NoY cal) {ops : Array Oper} {Q : Exit → Act → World → Prop} : ∀ (l : List Oper) (w : World) (g : Gh) (F : Fr) (H : Hp) (a : Act) (ro : RO),
    Sim w g F H a N → (∀ o ∈ l, ∀ t, o.dst = some t → t < N.n) → runOps P hn mu m cal ops l F H = some ro → After w g H N Q ro → wpList P ops Q l a w := by
  intro l
  induction l with
  | nil =>
    intro w g F H a ro hs _ h hQ
    simp only [runOps, Option.some.injEq] at h
    subst h
    exact hQ a w g hs (Ext.refl _ _ _)
  | cons o r ih =>
    intro w g F H a ro hs hd h hQ
    simp only [runOps] at h
    refine wpList_step fun K hKK => ?_
    split at h
    · rename_i F1 H1 h1
      refine op_sound0 hc hny hs (hd o (by simp)) h1 K Q fun a' w' g' hs' he' => hKK _ _ ?_
      exact ih w' g' F1 H1 a' ro hs' (fun o ho => hd o (by simp [ho])) h (hQ.ext he')
    · rename_i hne
      cases ro with
      | go F1 H1 => exact absurd h (hne F1 H1)
      | pan x H1 => exact op_sound0 hc hny hs (hd o (by simp)) h K Q fun a' w' g' v hi he hr hdf => hQ a' w' g' v hi he hr hdf
end
end Go.Vi
end

section
/- Vi: what is looked at with the first variables alone, the others hidden. No conditions. -/
namespace Go.Vi
open Go Go.Lib

mutual
theorem RepD.no {w : World} {g : Gh} {A : List Arr} : ∀ (d : D) (v : Value), RepD w g A d v → D.noRef g.B.length A.length d = true
  | .p _, _, _ => rfl
  | .lit _ _, _, _ => rfl
  | .elt _, _, _ => rfl
  | .dead, _, _ => rfl
  | .emp, _, _ => rfl
  | .clip _, _, _ => rfl
  | .ptr i _, _, .ptr _ _ b h => by
    simp only [D.noRef, decide_eq_true_eq]
    exact (List.getElem?_eq_some_iff.1 h).1
  | .yld i, _, .yld _ b h => by
    simp only [D.noRef, decide_eq_true_eq]
    exact (List.getElem?_eq_some_iff.1 h).1
  | .mp i, _, .mp _ b h => by
    simp only [D.noRef, decide_eq_true_eq]
    exact (List.getElem?_eq_some_iff.1 h).1
  | .bsl i _ _ _, _, .bsl _ _ _ _ b h => by
    simp only [D.noRef, decide_eq_true_eq]
    exact (List.getElem?_eq_some_iff.1 h).1
  | .own i _, _, .own _ _ _ hi _ _ => by simpa [D.noRef] using hi
  | .oelt i _ _ _, _, .oelt _ _ _ _ _ hi _ _ => by simpa [D.noRef] using hi
  | .agg l, _, .agg _ cs hs h => by simp only [D.noRef]; exact RepD.nos l hs h
  | .fn _ l, _, .fn _ _ cs hs h => by simp only [D.noRef]; exact RepD.nos l hs h
  | .bnd _ l, _, .bnd _ _ cs hs h => by simp only [D.noRef]; exact RepD.nos l hs h
  | .tup l, _, .tup _ cs hs h => by simp only [D.noRef]; exact RepD.nos l hs h
  | .ifc _ x, _, .ifc _ _ v h => by simp only [D.noRef]; exact RepD.no x v h
theorem RepD.nos {w : World} {g : Gh} {A : List Arr} : ∀ (l : List D) {cs : Array Value}, cs.size = l.length →
    (∀ (i : Nat) (x : D) (v : Value), l[i]? = some x → cs[i]? = some v → RepD w g A x v) → D.noRefs g.B.length A.length l = true
  | [], _, _, _ => rfl
  | d :: r, cs, hs, h => by
    simp only [D.noRefs, Bool.and_eq_true]
    have hlt : 0 < cs.size := by rw [hs]; simp
    refine ⟨RepD.no d cs[0] (h 0 d cs[0] (by simp) (by simp [hlt])), RepD.nos r (cs := cs.extract 1 cs.size) (by simp at hs ⊢; omega) fun i x v hx hv => h (i + 1) x v (by simpa using hx) ?_⟩
    rw [Array.getElem?_extract] at hv
    split at hv
    · rw [Nat.add_comm]; exact hv
    · simp at hv
end

mutual
/-- One beyond the last variable that it leads to. -/
def D.top : D → Nat
  | .ptr i _ => i + 1
  | .yld i => i + 1
  | .mp i => i + 1
  | .bsl i _ _ _ => i + 1
  | .agg l => D.tops l
  | .fn _ l => D.tops l
  | .bnd _ l => D.tops l
  | .tup l => D.tops l
  | .ifc _ x => D.top x
  | _ => 0
def D.tops : List D → Nat
  | [] => 0
  | d :: r => max (D.top d) (D.tops r)
end
def Blk.top : Blk → Nat
  | .cells l => D.tops l
  | .lp _ _ _ F _ _ _ => D.tops (F.map (·.2))
  | _ => 0
def maskD (n : Nat) (H : Hp) : Hp := ⟨H.B.take n ++ List.replicate (H.B.length - n) .hole, H.A⟩
def allHole (l : List Blk) : Bool := l.all fun b => match b with | .hole => true | _ => false

theorem D.tops_le {l : List D} {n : Nat} (h : D.tops l ≤ n) : ∀ d ∈ l, D.top d ≤ n := by
  induction l with
  | nil => intro d hd; cases hd
  | cons x r ih =>
    simp only [D.tops, Nat.max_le] at h
    intro d hd
    rcases List.mem_cons.1 hd with rfl | hd
    · exact h.1
    · exact ih h.2 d hd

mutual
theorem RepD.mask {w : World} {g g' : Gh} {A : List Arr} {n : Nat} (hI : g'.I = g.I) (hA : g'.A = g.A) (hB : ∀ i b, i < n → g.B[i]? = some (some b) → g'.B[i]? = some (some b)) :
    ∀ (d : D) (v : Value), D.top d ≤ n → RepD w g A d v → RepD w g' A d v
  | .p x, _, _, .p _ v h => .p x v (by rw [hI]; exact h)
  | .lit _ _, _, _, .litN => .litN
  | .lit _ _, _, _, .lit l b o h => .lit l b o (by rw [hI]; exact h)
  | .ptr i off, _, hn, .ptr _ _ b h => .ptr i off b (hB i b (by simp only [D.top] at hn; omega) h)
  | .elt l, _, _, .elt _ b o h => .elt l b o (by rw [hI]; exact h)
  | .yld i, _, hn, .yld _ b h => .yld i b (hB i b (by simp only [D.top] at hn; omega) h)
  | .mp i, _, hn, .mp _ b h => .mp i b (hB i b (by simp only [D.top] at hn; omega) h)
  | .bsl i off k c, _, hn, .bsl _ _ _ _ b h => .bsl i off k c b (hB i b (by simp only [D.top] at hn; omega) h)
  | .own i ver, v, _, .own _ _ _ hi hsl h => .own i ver v hi hsl (fun ar har => by rw [hA]; exact h ar har)
  | .oelt i ver k off, v, _, .oelt _ _ _ _ _ hi hsl h => .oelt i ver k off v hi hsl (fun ar har => by rw [hA]; exact h ar har)
  | .agg l, _, hn, .agg _ cs hs h => .agg l cs hs (RepD.masks hI hA hB l (by simpa [D.top] using hn) h)
  | .fn f l, _, hn, .fn _ _ cs hs h => .fn f l cs hs (RepD.masks hI hA hB l (by simpa [D.top] using hn) h)
  | .bnd f l, _, hn, .bnd _ _ cs hs h => .bnd f l cs hs (RepD.masks hI hA hB l (by simpa [D.top] using hn) h)
  | .ifc t x, _, hn, .ifc _ _ v h => .ifc t x v (RepD.mask hI hA hB x v (by simpa [D.top] using hn) h)
  | .tup l, _, hn, .tup _ cs hs h => .tup l cs hs (RepD.masks hI hA hB l (by simpa [D.top] using hn) h)
  | .dead, v, _, _ => .dead v
  | .emp, _, _, .emp a c => .emp a c
  | .clip l, _, _, .clip _ a h => .clip l a (by rw [hI]; exact h)
theorem RepD.masks {w : World} {g g' : Gh} {A : List Arr} {n : Nat} (hI : g'.I = g.I) (hA : g'.A = g.A) (hB : ∀ i b, i < n → g.B[i]? = some (some b) → g'.B[i]? = some (some b)) :
    ∀ (l : List D), D.tops l ≤ n → ∀ {cs : Array Value}, (∀ (i : Nat) (x : D) (v : Value), l[i]? = some x → cs[i]? = some v → RepD w g A x v) →
    ∀ (i : Nat) (x : D) (v : Value), l[i]? = some x → cs[i]? = some v → RepD w g' A x v
  | [], _, _, _, i, x, v, h, _ => by simp at h
  | d :: r, hn, cs, h, i, x, v, hx, hv => by
    simp only [D.tops, Nat.max_le] at hn
    cases i with
    | zero =>
      have e : d = x := by simpa using hx
      subst e
      exact RepD.mask hI hA hB d v hn.1 (h 0 d v (by simp) hv)
    | succ i =>
      have key := RepD.masks hI hA hB r hn.2 (cs := cs.extract 1 cs.size) (fun j y u hy hu => h (j + 1) y u (by simpa using hy) (by
        rw [Array.getElem?_extract] at hu
        split at hu
        · rw [Nat.add_comm]; exact hu
        · simp at hu))
      exact key i x v (by simpa using hx) (by
        rw [Array.getElem?_extract]
        have : i + 1 < cs.size := (Array.getElem?_eq_some_iff.1 hv).1
        rw [if_pos (by omega), Nat.add_comm]
        exact hv)
end

theorem look_top {n : Nat} : ∀ {F : Fr}, D.tops (F.map (·.2)) ≤ n → ∀ t, D.top (look F t) ≤ n
  | [], _, _ => Nat.zero_le _
  | (u, d) :: r, h, t => by
    simp only [List.map_cons, D.tops, Nat.max_le] at h
    simp only [look]
    split
    · exact h.1
    · exact look_top (F := r) h.2 t

theorem BlkRep.ren {w w' : World} {g g' : Gh} {A A' : List Arr} {bk : Blk} {b : Nat} (hr : ∀ d v, D.top d ≤ bk.top → RepD w g A d v → RepD w' g' A' d v) (hs : Same w g.I w' g'.I) (hb : w'.heap[b]? = w.heap[b]?) (h : BlkRep w g A bk b) :
    BlkRep w' g' A' bk b := by
  cases bk with
  | hole => trivial
  | cells l =>
    obtain ⟨cs, t, h1, h2, h3⟩ := h
    exact ⟨cs, t, hb.trans h1, h2, fun j d v hd hv => hr d v (D.tops_le (Nat.le_refl _) d (List.mem_of_getElem? hd)) (h3 j d v hd hv)⟩
  | sit s pos => exact hb.trans h
  | mset l =>
    obtain ⟨es, clock, h1, h2, h3⟩ := h
    exact ⟨es, clock, hb.trans h1, h2, fun j k x e hk hx => let ⟨r1, r2⟩ := h3 j k x e hk hx; ⟨r1.same hs, r2.same hs⟩⟩
  | lp st pend f F ps assign body =>
    obtain ⟨r, h1, h2, h3, h4, h5, h6, h7, h8⟩ := h
    exact ⟨r, hb.trans h1, h2, h3, h4, h5, h6, h7, fun t => hr _ _ (look_top (Nat.le_refl _) t) (h8 t)⟩

def Gh.mask (g : Gh) (n : Nat) : Gh := ⟨g.B.take n ++ List.replicate (g.B.length - n) none, g.A, g.I⟩

theorem mask_get {g : Gh} {n i : Nat} {q : Option Nat} (h : (g.mask n).B[i]? = some q) : (i < n ∧ g.B[i]? = some q) ∨ (n ≤ i ∧ q = none) := by
  change (g.B.take n ++ List.replicate (g.B.length - n) none)[i]? = _ at h
  rcases Nat.lt_or_ge i (g.B.take n).length with hlt | hge
  · rw [List.getElem?_append_left hlt, List.getElem?_take] at h
    split at h
    · rename_i hi; exact .inl ⟨hi, h⟩
    · cases h
  · rw [List.getElem?_append_right hge, List.getElem?_replicate] at h
    split at h
    · rename_i h2
      rw [List.length_take] at hge h2
      injection h with h
      refine .inr ⟨by omega, h.symm⟩
    · cases h
theorem mask_lt {α : Type} {l : List α} {n i : Nat} {x : α} (hi : i < n) (h : l[i]? = some x) (y : α) : (l.take n ++ List.replicate (l.length - n) y)[i]? = some x := by
  have := (List.getElem?_eq_some_iff.1 h).1
  rw [List.getElem?_append_left (by rw [List.length_take]; omega), List.getElem?_take, if_pos hi]
  exact h
theorem mask_ge {α : Type} {l : List α} {n i : Nat} (hi : n ≤ i) (h : i < l.length) (y : α) : (l.take n ++ List.replicate (l.length - n) y)[i]? = some y := by
  rw [List.getElem?_append_right (by rw [List.length_take]; omega), List.getElem?_replicate, List.length_take, if_pos (by omega)]
theorem mask_none {α : Type} {l : List α} {n i : Nat} (h : l.length ≤ i) (y : α) : (l.take n ++ List.replicate (l.length - n) y)[i]? = none := by
  rw [List.getElem?_eq_none]
  rw [List.length_append, List.length_take, List.length_replicate]; omega

theorem inv_mask {w : World} {g : Gh} {H : Hp} (hi : Inv w g H) {n : Nat} (hc : ∀ i bk, i < n → H.B[i]? = some bk → bk.top ≤ n) : Inv w (g.mask n) (maskD n H) := by
  have lB := hi.lenB
  have old : ∀ {i b : Nat}, (g.mask n).B[i]? = some (some b) → i < n ∧ g.B[i]? = some (some b) := fun h => (mask_get h).resolve_right fun e => by cases e.2
  have sub : ∀ b, some b ∈ (g.mask n).B → some b ∈ g.B := fun b h => by
    obtain ⟨i, hi⟩ := List.mem_iff_getElem?.1 h
    exact List.mem_of_getElem? (old hi).2
  have subo : ∀ b, b ∈ (g.mask n).owned → b ∈ g.owned := by
    intro b h
    rw [owned_iff] at h ⊢
    rcases h with ⟨i, h⟩ | h
    · exact .inl ⟨i, (old h).2⟩
    · exact .inr h
  exact
    { lenB := by show (g.B.take n ++ List.replicate (g.B.length - n) none).length = (H.B.take n ++ List.replicate (H.B.length - n) Blk.hole).length; simp [lB]
      lenA := hi.lenA
      blk := fun i bk b h1 h2 => by
        obtain ⟨hlt, h3⟩ := old h2
        have hl : i < H.B.length := by rw [← lB]; exact (List.getElem?_eq_some_iff.1 h3).1
        change (H.B.take n ++ List.replicate (H.B.length - n) Blk.hole)[i]? = _ at h1
        rw [mask_lt hlt (List.getElem?_eq_getElem hl)] at h1
        have h4 : H.B[i]? = some bk := by rw [List.getElem?_eq_getElem hl]; exact h1
        exact (hi.blk i bk b h4 h3).ren (fun d v hd hr => RepD.mask (n := n) (g := g) (g' := g.mask n) rfl rfl (fun i b hi h => mask_lt hi h none) d v (Nat.le_trans hd (hc i bk hlt h4)) hr) ⟨fun _ _ h => h, fun _ _ _ => rfl⟩ rfl
      arr := hi.arr
      nB := fun i j b h1 h2 => hi.nB i j b (old h1).2 (old h2).2
      nBA := fun i j b cap h1 => hi.nBA i j b cap (old h1).2
      nA := hi.nA
      lt := fun b h => hi.lt b (subo b h)
      iB := fun b o h h2 => hi.iB b o h (sub b h2)
      iA := hi.iA
      iLt := hi.iLt
      tab := hi.tab.of (fun _ _ _ => rfl) (fun b _ h hb' => h (subo b hb')) ⟨fun _ _ h => h, fun _ _ _ => rfl⟩
      hole := fun i => by
        show (H.B.take n ++ List.replicate (H.B.length - n) Blk.hole)[i]? = _ ↔ (g.B.take n ++ List.replicate (g.B.length - n) none)[i]? = _
        rcases Nat.lt_or_ge i H.B.length with hl | hl
        · rcases Nat.lt_or_ge i n with hlt | hge
          · rw [mask_lt hlt (List.getElem?_eq_getElem hl), mask_lt hlt (List.getElem?_eq_getElem (by omega))]
            have := hi.hole i
            rwa [List.getElem?_eq_getElem hl, List.getElem?_eq_getElem (by omega)] at this
          · rw [mask_ge hge hl, mask_ge hge (by omega)]
            simp
        · rw [mask_none hl, mask_none (by omega)]
          simp }

theorem three {α : Type} {x y : List α} {n L i : Nat} (hL : L ≤ x.length) (hn : n ≤ L) (hy : y.length = L) :
    (x.take n ++ y.drop n ++ x.drop L)[i]? = if n ≤ i ∧ i < L then y[i]? else x[i]? := by
  have l1 : (x.take n).length = n := by rw [List.length_take]; omega
  have l2 : (y.drop n).length = L - n := by rw [List.length_drop, hy]
  rcases Nat.lt_or_ge i n with h1 | h1
  · rw [if_neg (by omega), List.append_assoc, List.getElem?_append_left (by omega), List.getElem?_take, if_pos h1]
  · rcases Nat.lt_or_ge i L with h2 | h2
    · rw [if_pos ⟨h1, h2⟩, List.append_assoc, List.getElem?_append_right (by omega), List.getElem?_append_left (by omega), List.getElem?_drop]
      congr 1; omega
    · rw [if_neg (by omega), List.getElem?_append_right (by rw [List.length_append]; omega), List.getElem?_drop, List.length_append, l1, l2]
      congr 1; omega

theorem allHole_get {B1 : List Blk} {n L i : Nat} (h : allHole ((B1.drop n).take (L - n)) = true) (hL : L ≤ B1.length) (h1 : n ≤ i) (h2 : i < L) : B1[i]? = some .hole := by
  unfold allHole at h
  rw [List.all_eq_true] at h
  have hl : i < B1.length := by omega
  have h4 := h B1[i] (by
    refine List.mem_iff_getElem?.2 ⟨i - n, ?_⟩
    rw [List.getElem?_take, if_pos (by omega), List.getElem?_drop, show n + (i - n) = i by omega, List.getElem?_eq_getElem hl])
  rw [List.getElem?_eq_getElem hl]
  cases hb : B1[i] with
  | hole => rfl
  | _ => rw [hb] at h4; cases h4

/-- What was hidden is there again. -/
theorem unmask {w w' : World} {g g1 : Gh} {H : Hp} {n : Nat} {B1 : List Blk} {A1 : List Arr} (hi : Inv w g H) (hi1 : Inv w' g1 ⟨B1, A1⟩) (he1 : Ext w (g.mask n) H.A w' g1 A1) (hnL : n ≤ H.B.length) (hLB : H.B.length ≤ B1.length)
    (hho : ∀ i, n ≤ i → i < H.B.length → B1[i]? = some .hole) :
    ∃ g', Inv w' g' ⟨B1.take n ++ H.B.drop n ++ B1.drop H.B.length, A1⟩ ∧ Ext w g H.A w' g' A1 ∧ ∀ d v, RepD w' g1 A1 d v → RepD w' g' A1 d v := by
  have lB := hi.lenB
  have lB1 : g1.B.length = B1.length := hi1.lenB
  let g' : Gh := ⟨g1.B.take n ++ g.B.drop n ++ g1.B.drop H.B.length, g1.A, g1.I⟩
  have gget : ∀ i, g'.B[i]? = if n ≤ i ∧ i < H.B.length then g.B[i]? else g1.B[i]? := fun i => three (by omega) hnL (by omega)
  have hget : ∀ i, (B1.take n ++ H.B.drop n ++ B1.drop H.B.length)[i]? = if n ≤ i ∧ i < H.B.length then H.B[i]? else B1[i]? := fun i => three hLB hnL rfl
  have g1hole : ∀ i, n ≤ i → i < H.B.length → g1.B[i]? = some none := fun i a b => (hi1.hole i).1 (hho i a b)
  have up1 : ∀ i b : Nat, g1.B[i]? = some (some b) → g'.B[i]? = some (some b) := by
    intro i b h
    rw [gget]
    split
    · rename_i hk; rw [g1hole i hk.1 hk.2] at h; cases h
    · exact h
  have up : ∀ i b : Nat, g.B[i]? = some (some b) → g'.B[i]? = some (some b) := by
    intro i b h
    have hl := (List.getElem?_eq_some_iff.1 h).1
    rw [gget]
    split
    · exact h
    · rename_i hk
      exact he1.ptr i b (mask_lt (by omega) h none)
  -- what was hidden
  have hid : ∀ {i b : Nat}, n ≤ i → g.B[i]? = some (some b) → b ∉ (g.mask n).owned := by
    intro i b hn h hm
    rw [owned_iff] at hm
    rcases hm with ⟨j, hj⟩ | ⟨j, cap, hj⟩
    · rcases mask_get hj with ⟨hlt, h2⟩ | ⟨_, h2⟩
      · have := hi.nB i j b h h2; omega
      · cases h2
    · exact hi.nBA i j b cap h hj
  have hidlt : ∀ {i b : Nat}, g.B[i]? = some (some b) → b < w.heap.size := fun h => hi.lt _ (mem_ownedB h)
  have hid1 : ∀ {i b : Nat}, n ≤ i → g.B[i]? = some (some b) → b ∉ g1.owned := fun hn h => he1.owned _ (hidlt h) (hid hn h)
  have masko : ∀ b, b ∈ (g.mask n).owned → b ∈ g.owned := by
    intro b h
    rw [owned_iff] at h ⊢
    rcases h with ⟨i, h⟩ | h
    · rcases mask_get h with ⟨_, h2⟩ | ⟨_, h2⟩
      · exact .inl ⟨i, h2⟩
      · cases h2
    · exact .inr h
  have case : ∀ {i b : Nat}, g'.B[i]? = some (some b) → (n ≤ i ∧ i < H.B.length ∧ g.B[i]? = some (some b)) ∨ (¬ (n ≤ i ∧ i < H.B.length) ∧ g1.B[i]? = some (some b)) := by
    intro i b h
    rw [gget] at h
    split at h
    · rename_i hk; exact .inl ⟨hk.1, hk.2, h⟩
    · rename_i hk; exact .inr ⟨hk, h⟩
  have owned' : ∀ b, b ∈ g'.owned → b ∈ g1.owned ∨ ∃ i, n ≤ i ∧ g.B[i]? = some (some b) := by
    intro b h
    rw [owned_iff] at h
    rcases h with ⟨i, h⟩ | h
    · rcases case h with ⟨a, _, c⟩ | ⟨_, c⟩
      · exact .inr ⟨i, a, c⟩
      · exact .inl (mem_ownedB c)
    · exact .inl (owned_iff.2 (.inr h))
  have he : Ext w g H.A w' g' A1 :=
    { ptr := up, same := he1.same, lenA := he1.lenA, row := he1.row
      heap := fun b hb ho => he1.heap b hb fun h => ho (masko b h)
      size := he1.size
      owned := fun b hb ho h => by
        rcases owned' b h with h | ⟨i, _, h⟩
        · exact he1.owned b hb (fun h => ho (masko b h)) h
        · exact ho (mem_ownedB h)
      os := he1.os, tape := he1.tape, output := he1.output
      news := fun b o h hb ho => he1.news b o h hb fun h => ho (masko b h) }
  have ren1 : ∀ d v, RepD w' g1 A1 d v → RepD w' g' A1 d v := fun d v h =>
    h.ext0 (g' := g') up1 ⟨fun _ _ h => h, fun _ _ _ => rfl⟩ (Nat.le_refl _) fun i ar' hi h => ⟨ar', h, Nat.le_refl _, rfl, fun _ => ⟨rfl, rfl⟩⟩
  refine ⟨g', ?_, he, ren1⟩
  · exact
      { lenB := by
          show (g1.B.take n ++ g.B.drop n ++ g1.B.drop H.B.length).length = (B1.take n ++ H.B.drop n ++ B1.drop H.B.length).length
          simp only [List.length_append, List.length_take, List.length_drop, lB1, lB]
        lenA := hi1.lenA
        blk := fun i bk b h1 h2 => by
          simp only [hget] at h1
          rcases case h2 with ⟨a, b', c⟩ | ⟨a, c⟩
          · rw [if_pos ⟨a, b'⟩] at h1
            exact (hi.blk i bk b h1 c).ext he (he1.heap b (hidlt c) (hid a c))
          · rw [if_neg a] at h1
            exact (hi1.blk i bk b h1 c).ren (fun d v _ h => ren1 d v h) ⟨fun _ _ h => h, fun _ _ _ => rfl⟩ rfl
        arr := hi1.arr
        nB := fun i j b h1 h2 => by
          rcases case h1 with ⟨a, _, c⟩ | ⟨_, c⟩ <;> rcases case h2 with ⟨a', _, c'⟩ | ⟨_, c'⟩
          · exact hi.nB i j b c c'
          · exact absurd (mem_ownedB c') (hid1 a c)
          · exact absurd (mem_ownedB c) (hid1 a' c')
          · exact hi1.nB i j b c c'
        nBA := fun i j b cap h1 h2 => by
          rcases case h1 with ⟨a, _, c⟩ | ⟨_, c⟩
          · exact hid1 a c (mem_ownedA h2)
          · exact hi1.nBA i j b cap c h2
        nA := hi1.nA
        lt := fun b h => by
          rcases owned' b h with h | ⟨i, _, h⟩
          · exact hi1.lt b h
          · exact Nat.lt_of_lt_of_le (hidlt h) he1.size
        iB := fun b o h h2 => by
          obtain ⟨i, hq⟩ := List.mem_iff_getElem?.1 h2
          rcases case hq with ⟨a, _, c⟩ | ⟨_, c⟩
          · exact hi.iB b o (he1.news b o h (hidlt c) (hid a c)) (List.mem_of_getElem? c)
          · exact hi1.iB b o h (List.mem_of_getElem? c)
        iA := hi1.iA
        iLt := hi1.iLt
        tab := hi.tab.ext he
        hole := fun i => by
          simp only [hget, gget]
          split
          · exact hi.hole i
          · exact hi1.hole i }
end Go.Vi
end

section
/- Vi, part 17: regions whose order is drawn. No conditions. -/
namespace Go.Vi
open Go Go.Lib

section congr
variable {P : Program} {hn : Hints} {mu : Bool} {m : Mk} {F F' : Fr} {H : Hp}

theorem boundD_congr {x : Option Operand} {n : Int} (h : ∀ y ∈ x.toArray, opd F y = opd F' y) : boundD F x n = boundD F' x n := by
  cases x with
  | none => rfl
  | some o => simp [boundD, h o (by simp)]

theorem go_congr {place : Nat → Option (Nat × Nat)} : ∀ (l : List (Nat × Operand)) (cs : List D), (∀ x ∈ l.map (·.2), opd F x = opd F' x) →
    buildD.go F cs place l = buildD.go F' cs place l
  | [], _, _ => rfl
  | (i, x) :: r, cs, h => by
    simp only [buildD.go]
    rw [h x (by simp)]
    split
    · split
      · exact go_congr r _ fun y hy => h y (by simp only [List.map_cons, List.mem_cons]; exact .inr hy)
      · rfl
    · rfl

theorem elsD_congr {A : List Arr} {ag : Bool} {sz : Nat} : ∀ (l : List (Nat × Operand)) (k : Nat), (∀ x ∈ l.map (·.2), opd F x = opd F' x) →
    elsD A F ag sz k l = elsD A F' ag sz k l
  | [], _, _ => rfl
  | (i, x) :: r, k, h => by
    simp only [elsD]
    rw [h x (by simp), elsD_congr r (k + 1) fun y hy => h y (by simp only [List.map_cons, List.mem_cons]; exact .inr hy)]

theorem opCall_congr (c : Call) (h : ∀ x ∈ c.operands, opd F x = opd F' x) : opCall P hn mu F H c = opCall P hn mu F' H c := by
  have hargs : c.args.toList.map (opd F) = c.args.toList.map (opd F') := List.map_congr_left fun x hx => h x (by simp [Call.operands]; right; simpa using hx)
  unfold opCall
  simp only [hargs]
  cases hc : c.callee with
  | value f => have hf : opd F f = opd F' f := h f (by simp [Call.operands, hc]); simp only [hf]
  | invoke r m => have hr : opd F r = opd F' r := h r (by simp [Call.operands, hc]); simp only [hr]
  | builtin b => cases b <;> rfl

theorem exec_congr (o : Oper) (h : ∀ x ∈ o.op.operands, opd F x = opd F' x) : exec P hn mu m F H o = exec P hn mu m F' H o := by
  obtain ⟨dst, op, type, pos, after, guard⟩ := o
  cases op <;> simp only [Op.operands] at h
  case build t ps =>
    have hp : ∀ x ∈ ps.toList.map (·.2), opd F x = opd F' x := fun x hx => h x (by simpa using hx)
    simp only [exec, buildD]
    split
    · split
      · rw [go_congr _ _ hp]
      · split
        · split
          · rw [go_congr _ _ hp]
          · rfl
        · rfl
    · rfl
  case buildSlice t n ps =>
    have hp : ∀ x ∈ ps.toList.map (·.2), opd F x = opd F' x := fun x hx => h x (by simpa using hx)
    simp only [exec, buildSliceD, elsD_congr _ _ hp]
  case makeFunc fn first captured =>
    have hp : captured.toList.map (opd F) = captured.toList.map (opd F') := List.map_congr_left fun x hx => h x (by simp; right; simpa using hx)
    have hp2 : first.toList.map (opd F) = first.toList.map (opd F') := List.map_congr_left fun x hx => h x (by simp; left; simpa using hx)
    cases fn <;> simp only [exec, hp, hp2]
  case call c => simp only [exec, opCall_congr c h]
  case slice t x lo hi mx =>
    have hx : opd F x = opd F' x := h x (by simp)
    have h1 : ∀ n, boundD F lo n = boundD F' lo n := fun n => boundD_congr fun y hy => h y (by simp only [Array.mem_append]; exact .inl (.inl (.inr hy)))
    have h2 : ∀ n, boundD F hi n = boundD F' hi n := fun n => boundD_congr fun y hy => h y (by simp only [Array.mem_append]; exact .inl (.inr hy))
    cases mx with
    | some mo =>
      have h3 : opd F mo = opd F' mo := h mo (by simp)
      have h4 : ∀ y, hi = some y → opd F y = opd F' y := fun y hy => h y (by subst hy; simp)
      have e : clipD P H F t x lo hi (some mo) = clipD P H F' t x lo hi (some mo) := by
        unfold clipD
        generalize P.underlying t = u
        cases hi with
        | none =>
          cases u with
          | none => rfl
          | some td => cases td <;> cases lo <;> rfl
        | some y =>
          have h5 := h4 y rfl
          cases u with
          | none => rfl
          | some td => cases td <;> cases lo <;> first | rfl | simp only [hx, h3, h5]
      simp only [exec, e]
    | none => simp only [exec, sliceD, hx, h1, h2]
  case assign x =>
    have hx : opd F x = opd F' x := h x (by simp)
    simp only [exec]
    split
    · rfl
    · rw [hx]
  case next it b =>
    have hx : opd F it = opd F' it := h it (by simp)
    cases b with
    | true => simp only [exec, hx]
    | false => rfl
  case makeMap t r =>
    cases r with
    | none => rfl
    | some _ => rfl
  all_goals (first | rfl | (simp only [exec]; simp_all; done) | (simp_all [exec]; done))

theorem look_looks {ops : Array Oper} {o : Oper} (h : ∀ t ∈ o.looksAt ops, look F t = look F' t) : ∀ x ∈ o.op.operands, opd F x = opd F' x := by
  intro x hx
  cases x with
  | tmp t => exact h t (List.mem_append_left _ (List.mem_filterMap.2 ⟨.tmp t, by simpa using hx, rfl⟩))
  | _ => rfl

theorem want_congr {ops : Array Oper} {o : Oper} (h : ∀ t ∈ o.looksAt ops, look F t = look F' t) : wantD ops F o = wantD ops F' o := by
  unfold wantD
  cases hg : o.guard with
  | none => rfl
  | some gw =>
    obtain ⟨j, want⟩ := gw
    simp only
    cases ht : (ops[j]?).bind (·.dst) with
    | none => rfl
    | some t => simp only [h t (by simp [Oper.looksAt, hg, ht])]
end congr

/-! ### One operation, without its place -/
def finV : Option Nx → Cal → Option ((D × Hp) ⊕ (PD × Hp))
  | some (.val d H), _ => some (.inl (d, H))
  | some (.skip H), _ => some (.inl (.tup [], H))
  | some (.pan _), _ => none
  | some (.call g args H), cal =>
    if g < 1000000000 then
      match cal g args H with
      | some (.ret d, H1) => some (.inl (d, H1))
      | some (.pan x, H1) => some (.inr (x, H1))
      | none => none
    else none
  | some (.yield i args H), cal =>
    match cal (1000000000 + i) args H with
    | some (.ret d, H1) => some (.inl (d, H1))
    | some (.pan x, H1) => some (.inr (x, H1))
    | none => none
  | none, _ => none

def runV (P : Program) (hi : Hints) (mu : Bool) (m : Mk) (cal : Cal) (ops : Array Oper) (F : Fr) (H : Hp) (o : Oper) : Option ((D × Hp) ⊕ (PD × Hp)) :=
  match wantD ops F o with
  | some true =>
    match exec P hi mu m F H o with
    | some (.pan x) => some (.inr (x, H))
    | r => finV r cal
  | some false => some (.inl (.tup [], H))
  | none => none

/-- How an operation of a drawn region bears on memory. 0: any; 1: memory stays; 2: besides, its rows don't matter; 3: the variables stay; 4: they don't matter either; 5: the rows stay and don't matter; 6: memory stays and doesn't matter;
7: any that doesn't panic; 8: variables are added, the rows don't matter; 9: memory stays, variables added don't matter; 10: the variables stay, ones added don't matter; 12 + 2 n: only the variable n from the last one is changed;
13 + 2 n: memory stays, and that variable doesn't matter. -/
def FlOK0 (fl : Nat) (r : Hp → Option ((D × Hp) ⊕ (PD × Hp))) (d : D) (H H1 : Hp) : Prop :=
  match fl with
  | 0 => True
  | 1 => H1 = H
  | 2 => H1 = H ∧ ∀ A, r ⟨H.B, A⟩ = some (.inl (d, ⟨H.B, A⟩))
  | 3 => H1.B = H.B
  | 4 => H1.B = H.B ∧ ∀ B, r ⟨B, H.A⟩ = some (.inl (d, ⟨B, H1.A⟩))
  | 5 => H1.A = H.A ∧ ∀ A, r ⟨H.B, A⟩ = some (.inl (d, ⟨H1.B, A⟩))
  | 6 => H1 = H ∧ ∀ H', r H' = some (.inl (d, H'))
  | 7 => True
  | 8 => ∃ X, H1 = ⟨H.B ++ X, H.A⟩ ∧ ∀ A, r ⟨H.B, A⟩ = some (.inl (d, ⟨H.B ++ X, A⟩))
  | 9 => H1 = H ∧ ∀ X, r ⟨H.B ++ X, H.A⟩ = some (.inl (d, ⟨H.B ++ X, H.A⟩))
  | 10 => H1.B = H.B ∧ ∀ X, r ⟨H.B ++ X, H.A⟩ = some (.inl (d, ⟨H.B ++ X, H1.A⟩))
  | 11 => False
  | n + 12 => if n % 2 = 0 then H1.A = H.A ∧ ∃ b, H1.B = H.B.set (H.B.length - 1 - n / 2) b
    else H1 = H ∧ ∀ b, r ⟨H.B.set (H.B.length - 1 - n / 2) b, H.A⟩ = some (.inl (d, ⟨H.B.set (H.B.length - 1 - n / 2) b, H.A⟩))

/-- How many variables a region keeps places for. -/
def slotsOf (fl : List Nat) : Nat := fl.foldl (fun n x => if 2000 ≤ x then max n (x - 2000 + 1) else n) 0

/-- What goes beside what is laid at places kept for it, from n0 on. 1000: the variables from n0 on don't matter and stay, others are added; 1003: the older ones stay, too; 1001: memory stays, and the variables from n0 on don't matter; 1002: nor the rows. -/
def FlI (n0 fl : Nat) (r : Hp → Option ((D × Hp) ⊕ (PD × Hp))) (d : D) (H H1 : Hp) : Prop :=
  if fl = 1001 then H1 = H ∧ ∀ T, r ⟨H.B.take n0 ++ T, H.A⟩ = some (.inl (d, ⟨H.B.take n0 ++ T, H.A⟩))
  else if fl = 1002 then H1 = H ∧ ∀ T A, r ⟨H.B.take n0 ++ T, A⟩ = some (.inl (d, ⟨H.B.take n0 ++ T, A⟩))
  else if fl = 1003 then ∃ X, H1.B = H.B ++ X ∧ ∀ T, T.length = H.B.length - n0 → r ⟨H.B.take n0 ++ T, H.A⟩ = some (.inl (d, ⟨H.B.take n0 ++ T ++ X, H1.A⟩))
  else if fl = 1000 then ∃ B1 X, B1.length = n0 ∧ H1.B = B1 ++ H.B.drop n0 ++ X ∧ ∀ T, T.length = H.B.length - n0 → r ⟨H.B.take n0 ++ T, H.A⟩ = some (.inl (d, ⟨B1 ++ T ++ X, H1.A⟩))
  else False

/-- Only the variable s is changed; nothing else matters. -/
def FlS (s : Nat) (r : Hp → Option ((D × Hp) ⊕ (PD × Hp))) (d : D) (H H1 : Hp) : Prop :=
  ∃ c, H1 = ⟨H.B.set s c, H.A⟩ ∧ ∀ B' A', B'[s]? = H.B[s]? → r ⟨B', A'⟩ = some (.inl (d, ⟨B'.set s c, A'⟩))

def FlOK (n0 k fl : Nat) (r : Hp → Option ((D × Hp) ⊕ (PD × Hp))) (d : D) (H H1 : Hp) : Prop :=
  if fl < 1000 then FlOK0 fl r d H H1 else n0 + k ≤ H.B.length ∧ (if fl < 2000 then FlI n0 fl r d H H1 else fl - 2000 < k ∧ FlS (n0 + (fl - 2000)) r d H H1)

open Classical in
noncomputable def gate (n0 k fl : Nat) (H : Hp) (r : Hp → Option ((D × Hp) ⊕ (PD × Hp))) : Option ((D × Hp) ⊕ (PD × Hp)) :=
  match r H with
  | some (.inl (d, H1)) => if FlOK n0 k fl r d H H1 then some (.inl (d, H1)) else none
  | some (.inr x) => if fl = 0 then some (.inr x) else none
  | none => none

theorem gate_inl {n0 k fl : Nat} {H H1 : Hp} {r : Hp → Option ((D × Hp) ⊕ (PD × Hp))} {d : D} :
    gate n0 k fl H r = some (.inl (d, H1)) ↔ r H = some (.inl (d, H1)) ∧ FlOK n0 k fl r d H H1 := by
  unfold gate
  constructor
  · intro h
    split at h
    · rename_i d1 H2 hv
      split at h
      · rename_i hc
        simp only [Option.some.injEq, Sum.inl.injEq, Prod.mk.injEq] at h
        obtain ⟨rfl, rfl⟩ := h
        exact ⟨hv, hc⟩
      · cases h
    · split at h <;> simp at h
    · cases h
  · rintro ⟨h, hc⟩
    rw [h]
    simp only [hc, if_true]

theorem gate_inr {n0 k fl : Nat} {H : Hp} {r : Hp → Option ((D × Hp) ⊕ (PD × Hp))} {x : PD × Hp} : gate n0 k fl H r = some (.inr x) ↔ r H = some (.inr x) ∧ fl = 0 := by
  unfold gate
  constructor
  · intro h
    split at h
    · split at h <;> simp at h
    · rename_i y hv
      split at h
      · rename_i hc
        simp only [Option.some.injEq, Sum.inr.injEq] at h
        subst h
        exact ⟨hv, hc⟩
      · cases h
    · cases h
  · rintro ⟨h, rfl⟩
    rw [h]
    simp

/-- What is laid at a place kept for it. -/
def slotD (P : Program) (t : TypeId) (s : Nat) (H : Hp) : Option ((D × Hp) ⊕ (PD × Hp)) :=
  match zeroOf P t, H.B[s]? with
  | some z, some .hole => if (cellsD (constD z)).all cellD = true then some (.inl (.ptr s 0, ⟨H.B.set s (.cells (cellsD (constD z))), H.A⟩)) else none
  | _, _ => none
/-- All that is looked at leads to the first variables alone. -/
def lowF (n0 : Nat) (ops : Array Oper) (F : Fr) (o : Oper) : Bool := (o.looksAt ops).all fun t => decide (D.top (look F t) ≤ n0)
def closedB (n0 : Nat) (B : List Blk) : Bool := decide (n0 ≤ B.length) && (B.take n0).all fun b => decide (b.top ≤ n0)
/-- With all variables from n0 on hidden. -/
def maskX (n0 : Nat) (H : Hp) (low : Bool) (r : Hp → Option ((D × Hp) ⊕ (PD × Hp))) : Option ((D × Hp) ⊕ (PD × Hp)) :=
  if low = true then
    match r (maskD n0 H) with
    | some (.inl (d, ⟨B1, A1⟩)) =>
      if H.B.length ≤ B1.length ∧ allHole ((B1.drop n0).take (H.B.length - n0)) = true then some (.inl (d, ⟨B1.take n0 ++ H.B.drop n0 ++ B1.drop H.B.length, A1⟩)) else none
    | _ => none
  else none
theorem maskX_inv {n0 : Nat} {H : Hp} {low : Bool} {r : Hp → Option ((D × Hp) ⊕ (PD × Hp))} {y : (D × Hp) ⊕ (PD × Hp)} (h : maskX n0 H low r = some y) :
    low = true ∧ ∃ d B1 A1, r (maskD n0 H) = some (.inl (d, ⟨B1, A1⟩)) ∧ H.B.length ≤ B1.length ∧ allHole ((B1.drop n0).take (H.B.length - n0)) = true ∧
      y = .inl (d, ⟨B1.take n0 ++ H.B.drop n0 ++ B1.drop H.B.length, A1⟩) := by
  unfold maskX at h
  split at h
  · rename_i hl
    split at h
    · rename_i d B1 A1 hr
      split at h
      · rename_i hk
        injection h with h
        exact ⟨hl, d, B1, A1, hr, hk.1, hk.2, h.symm⟩
      · cases h
    · cases h
  · cases h
def runX (P : Program) (hi : Hints) (mu : Bool) (m : Mk) (cal : Cal) (ops : Array Oper) (n0 fl : Nat) (F : Fr) (H : Hp) (o : Oper) : Option ((D × Hp) ⊕ (PD × Hp)) :=
  if 2000 ≤ fl then
    match o.op with
    | .alloc t =>
      match wantD ops F o with
      | some true => slotD P t (n0 + (fl - 2000)) H
      | some false => some (.inl (.tup [], H))
      | none => none
    | _ => runV P hi mu m cal ops F H o
  else if fl = 1000 ∨ fl = 1003 then maskX n0 H (lowF n0 ops F o && closedB n0 H.B) (fun H => runV P hi mu m cal ops F H o)
  else runV P hi mu m cal ops F H o

noncomputable def runVF (P : Program) (hi : Hints) (mu : Bool) (m : Mk) (cal : Cal) (ops : Array Oper) (n0 k fl : Nat) (F : Fr) (H : Hp) (o : Oper) : Option ((D × Hp) ⊕ (PD × Hp)) :=
  gate n0 k fl H fun H => runX P hi mu m cal ops n0 fl F H o

noncomputable def runDraw (P : Program) (hi : Hints) (mu : Bool) (m : Mk) (cal : Cal) (ops : Array Oper) (n0 k : Nat) : List Oper → List Nat → Fr → Hp → Option RO
  | [], _, F, H => some (.go F H)
  | o :: r, fl, F, H =>
    match runVF P hi mu m cal ops n0 k (fl.headD 0) F H o with
    | some (.inl (d, H1)) => runDraw P hi mu m cal ops n0 k r fl.tail (putF o.dst d F) H1
    | some (.inr (x, H1)) => some (.pan x H1)
    | none => none

/-- Places are kept. -/
def Hp.kept (H : Hp) (k : Nat) : Hp := ⟨H.B ++ List.replicate k .hole, H.A⟩
theorem Hp.kept_zero (H : Hp) : H.kept 0 = H := by simp [Hp.kept]
noncomputable def drawR (P : Program) (hi : Hints) (mu : Bool) (m : Mk) (cal : Cal) (ops : Array Oper) (fl : List Nat) (F : Fr) (H : Hp) : Option RO :=
  runDraw P hi mu m cal ops H.B.length (slotsOf fl) ops.toList fl F (H.kept (slotsOf fl))

def befs : List Oper → List Nat → List Nat
  | [], acc => acc
  | o :: r, acc => befs r (acc ++ [o.after.toList.foldl (fun m e => if Region.binds .any e then (m ||| (1 <<< e.on)) ||| acc.getD e.on 0 else m) 0])

def still (x : Nat) : Bool := decide (x ≤ 2) || x == 9 || (decide (12 < x) && x % 2 == 1 && decide (x < 1000)) || x == 1001 || x == 1002
def okPair (x y : Nat) : Bool := x != 0 && y != 0 && ((x == 2 && y == 3) || (x == 3 && y == 2) || (x == 4 && y == 5) || (x == 5 && y == 4) || (still x && still y) || x == 6 || y == 6 ||
  ((x == 9 || x == 10) && y == 8) || (decide (11 < x) && (x % 2 == 0 && y == x + 1 && decide (x < 998))) || (decide (11 < y) && (y % 2 == 0 && x == y + 1 && decide (y < 998))) ||
  (x == 1002 && y == 1003) || (x == 1003 && y == 1002) || (decide (2000 ≤ x) && decide (1000 ≤ y) && x != y) || (decide (2000 ≤ y) && decide (1000 ≤ x) && x != y))

/-- Those not in order may change places. -/
def okDraw (ops : Array Oper) (fl : List Nat) : Bool :=
  let ms := befs ops.toList []
  (List.range ops.size).all fun j =>
    match ops[j]?, ms[j]? with
    | some o, some m => o.after.all (fun e => !(Region.binds .any e) || e.on < j) &&
        (List.range j).all fun i => m.testBit i || match ops[i]? with
          | some oi => okPair (fl.getD i 0) (fl.getD j 0) && oi.apart ops o
          | none => true
    | _, _ => false

section
variable {P : Program} {hn : Hints} {mu : Bool} {m : Mk} {cal : Cal} {ops : Array Oper} {F F' : Fr} {H : Hp} {n0 kk : Nat}

theorem runOp_eq (o : Oper) : runOp P hn mu m cal ops F H o = (runV P hn mu m cal ops F H o).map fun
    | .inl (d, H1) => .go (putF o.dst d F) H1
    | .inr (x, H1) => .pan x H1 := by
  unfold runOp runV
  rcases wantD ops F o with _ | _ | _
  · rfl
  · rfl
  · simp only
    rcases exec P hn mu m F H o with _ | nx
    · rfl
    · cases nx with
      | val d H1 => rfl
      | skip H1 => rfl
      | pan x => rfl
      | call f args H1 =>
        simp only [fin, finV]
        split
        · rcases cal f args H1 with _ | ⟨out, H2⟩
          · rfl
          · cases out <;> rfl
        · rfl
      | yield i args H1 =>
        simp only [fin, finV]
        rcases cal (1000000000 + i) args H1 with _ | ⟨out, H2⟩
        · rfl
        · cases out <;> rfl

theorem runV_congr {o : Oper} (h : ∀ t ∈ o.looksAt ops, look F t = look F' t) : runV P hn mu m cal ops F H o = runV P hn mu m cal ops F' H o := by
  unfold runV
  rw [want_congr h, exec_congr o (look_looks h)]

theorem lowF_congr {o : Oper} (h : ∀ t ∈ o.looksAt ops, look F t = look F' t) : lowF n0 ops F o = lowF n0 ops F' o := by
  unfold lowF
  rw [Bool.eq_iff_iff, List.all_eq_true, List.all_eq_true]
  constructor
  · intro k t ht; rw [← h t ht]; exact k t ht
  · intro k t ht; rw [h t ht]; exact k t ht

theorem runX_congr {fl : Nat} {o : Oper} (h : ∀ t ∈ o.looksAt ops, look F t = look F' t) : runX P hn mu m cal ops n0 fl F H o = runX P hn mu m cal ops n0 fl F' H o := by
  unfold runX
  rw [want_congr h, runV_congr h, funext fun H => runV_congr (P := P) (hn := hn) (mu := mu) (m := m) (cal := cal) (H := H) h, lowF_congr h]

theorem runVF_congr {fl : Nat} {o : Oper} (h : ∀ t ∈ o.looksAt ops, look F t = look F' t) : runVF P hn mu m cal ops n0 kk fl F H o = runVF P hn mu m cal ops n0 kk fl F' H o := by
  unfold runVF
  rw [funext fun H => runX_congr (P := P) (hn := hn) (mu := mu) (m := m) (cal := cal) (H := H) h]

theorem look_put_ne {dst : Option Tmp} {d : D} {t : Tmp} (h : ∀ s, dst = some s → s ≠ t) : look (putF dst d F) t = look F t := by
  cases dst with
  | none => rfl
  | some s => simp [putF, look, h s rfl]

def FrEq (F F' : Fr) : Prop := ∀ t, look F t = look F' t

theorem FrEq.put (h : FrEq F F') (dst : Option Tmp) (d : D) : FrEq (putF dst d F) (putF dst d F') := by
  intro t
  cases dst with
  | none => exact h t
  | some s => simp only [putF, look]; split <;> first | rfl | exact h t

theorem put_comm {x y : Option Tmp} {d e : D} (h : ∀ s, x = some s → y ≠ some s) : FrEq (putF x d (putF y e F)) (putF y e (putF x d F)) := by
  intro t
  cases x with
  | none => rfl
  | some s =>
    cases y with
    | none => rfl
    | some r =>
      have : r ≠ s := fun e' => h s rfl (by rw [e'])
      simp only [putF, look]
      by_cases h1 : s = t
      · subst h1; simp [this]
      · simp [h1]

def ROEq : RO → RO → Prop
  | .go F H, .go F' H' => FrEq F F' ∧ H = H'
  | .pan x H, .pan x' H' => x = x' ∧ H = H'
  | _, _ => False

theorem ROEq.refl (r : RO) : ROEq r r := by cases r <;> simp [ROEq, FrEq]
theorem ROEq.trans {r s t : RO} (h : ROEq r s) (k : ROEq s t) : ROEq r t := by
  cases r <;> cases s <;> cases t <;> simp [ROEq, FrEq] at * <;> simp_all

/-- By the places in the region. -/
noncomputable def evalL (P : Program) (hn : Hints) (mu : Bool) (m : Mk) (cal : Cal) (ops : Array Oper) (n0 kk : Nat) (φ : Nat → Nat) : List Nat → Fr → Hp → Option RO
  | [], F, H => some (.go F H)
  | i :: r, F, H =>
    match ops[i]? with
    | none => none
    | some o =>
      match runVF P hn mu m cal ops n0 kk (φ i) F H o with
      | some (.inl (d, H1)) => evalL P hn mu m cal ops n0 kk φ r (putF o.dst d F) H1
      | some (.inr (x, H1)) => some (.pan x H1)
      | none => none

theorem runDraw_evalL (φ : Nat → Nat) : ∀ (l : List Oper) (fl : List Nat) (k : Nat) (F : Fr) (H : Hp), (∀ j, l[j]? = ops[k + j]?) → (∀ j, fl.getD j 0 = φ (k + j)) →
    runDraw P hn mu m cal ops n0 kk l fl F H = evalL P hn mu m cal ops n0 kk φ (List.range' k l.length) F H := by
  intro l
  induction l with
  | nil => intro fl k F H _ _; rfl
  | cons o l ih =>
    intro fl k F H h hf
    have h0 : ops[k]? = some o := by simpa using (h 0).symm
    have hf0 : fl.headD 0 = φ k := by have := hf 0; cases fl <;> simpa using this
    have ih' := fun F H => ih fl.tail (k + 1) F H (fun j => by have := h (j + 1); simpa [Nat.add_assoc, Nat.add_comm 1 j] using this)
      (fun j => by have := hf (j + 1); cases fl <;> simpa [Nat.add_assoc, Nat.add_comm 1 j] using this)
    simp only [runDraw, List.length_cons, List.range'_succ, evalL, h0, hf0, ih']

theorem evalL_congr {φ : Nat → Nat} : ∀ (l : List Nat) (F F' : Fr) (H : Hp) (ro : RO), FrEq F F' → evalL P hn mu m cal ops n0 kk φ l F H = some ro →
    ∃ ro', evalL P hn mu m cal ops n0 kk φ l F' H = some ro' ∧ ROEq ro ro' := by
  intro l
  induction l with
  | nil =>
    intro F F' H ro h hr
    simp only [evalL, Option.some.injEq] at hr
    subst hr
    exact ⟨_, rfl, h, rfl⟩
  | cons i l ih =>
    intro F F' H ro h hr
    simp only [evalL] at hr ⊢
    cases ho : ops[i]? with
    | none => rw [ho] at hr; cases hr
    | some o =>
      simp only [ho] at hr ⊢
      rw [← runVF_congr (F := F) (F' := F') fun t _ => h t]
      split at hr
      · exact ih _ _ _ _ (h.put _ _) hr
      · injection hr with hr
        subst hr
        exact ⟨_, rfl, rfl, rfl⟩
      · cases hr

/-- An operation's answer, and how it bears on memory. -/
def RV (f : Nat) (r : Hp → Option ((D × Hp) ⊕ (PD × Hp))) (H : Hp) (d : D) (H1 : Hp) : Prop := r H = some (.inl (d, H1)) ∧ FlOK0 f r d H H1

theorem swap0 {ri rj : Hp → Option ((D × Hp) ⊕ (PD × Hp))} {fi fj : Nat} (hi : fi < 1000) (hj : fj < 1000) (hp : okPair fi fj = true) {di dj : D} {H Hi Hj : Hp} (h1 : RV fi ri H di Hi) (h2 : RV fj rj Hi dj Hj) :
    ∃ Hj', RV fj rj H dj Hj' ∧ RV fi ri Hj' di Hj := by
  have vr : ∀ {f r H d H'}, r H = some (.inl (d, H')) → FlOK0 f r d H H' → RV f r H d H' := fun h hc => ⟨h, hc⟩
  have r1 := h1.1
  have k1 := h1.2
  have r2 := h2.1
  have k2 := h2.2
  have quiet : ∀ {f : Nat} {r : Hp → Option ((D × Hp) ⊕ (PD × Hp))} {d : D} {X Y : Hp}, f ≠ 0 → f < 1000 → still f = true → FlOK0 f r d Y X → X = Y := by
    intro f r d X Y h0 hk h2 h
    simp only [still, Bool.or_eq_true, Bool.and_eq_true, decide_eq_true_eq, beq_iff_eq] at h2
    rcases h2 with (((h2 | rfl) | h2) | h2) | h2
    · match f, h0, h2 with
      | 1, _, _ => exact h
      | 2, _, _ => exact h.1
    · exact h.1
    · obtain ⟨n, rfl⟩ : ∃ n, f = n + 12 := ⟨f - 12, by omega⟩
      simp only [FlOK0] at h
      rw [if_neg (by omega)] at h
      exact h.1
    · omega
    · omega
  simp only [okPair, Bool.and_eq_true, bne_iff_ne, ne_eq, Bool.or_eq_true, decide_eq_true_eq, beq_iff_eq] at hp
  obtain ⟨⟨n1, n2⟩, hp⟩ := hp
  have setset : ∀ {B : List Blk} {i : Nat} (b : Blk), ∃ c, (B.set i b).set i c = B := by
    intro B i b
    by_cases hi : i < B.length
    · exact ⟨B[i], by rw [List.set_set, List.set_getElem_self]⟩
    · refine ⟨b, ?_⟩
      have e : B.set i b = B := List.set_eq_of_length_le (by omega)
      rw [e, e]
  rcases hp with ((((((((((((⟨e1, e2⟩ | ⟨e1, e2⟩) | ⟨e1, e2⟩) | ⟨e1, e2⟩) | ⟨l1, l2⟩) | e1) | e2) | ⟨e1, e2⟩) | ⟨g1, ⟨g2, g3⟩, g4⟩) | ⟨g1, ⟨g2, g3⟩, g4⟩) | ⟨e1, e2⟩) | ⟨e1, e2⟩) | ⟨e1, e2⟩) | ⟨e1, e2⟩
  · subst e1; subst e2
    obtain ⟨q1, s1⟩ := k1
    subst q1
    refine ⟨Hj, h2, vr ?_ ⟨rfl, ?_⟩⟩
    · have := s1 Hj.A
      have e : (⟨Hi.B, Hj.A⟩ : Hp) = Hj := by
        have k2' : Hj.B = Hi.B := k2
        cases Hj; simp only at k2' ⊢; rw [k2']
      rw [e] at this
      exact this
    · intro A
      have k2' : Hj.B = Hi.B := k2
      rw [k2']; exact s1 A
  · subst e1; subst e2
    obtain ⟨q2, s2⟩ := k2
    subst q2
    have k1' : Hj.B = H.B := k1
    refine ⟨H, vr ?_ ⟨rfl, ?_⟩, h1⟩
    · have := s2 H.A
      rw [k1'] at this
      exact this
    · intro A
      have := s2 A
      rw [k1'] at this
      exact this
  · subst e1; subst e2
    obtain ⟨b1, z1⟩ := k1
    obtain ⟨a2, z2⟩ := k2
    have eH : (⟨Hi.B, H.A⟩ : Hp) = H := by rw [b1]
    have eJ : (⟨Hj.B, Hi.A⟩ : Hp) = Hj := by rw [← a2]
    refine ⟨⟨Hj.B, H.A⟩, vr (by have := z2 H.A; rwa [eH] at this) ⟨rfl, fun A => by have := z2 A; rwa [b1] at this⟩, vr ?_ ⟨rfl, fun B => ?_⟩⟩
    · have := z1 Hj.B; rwa [eJ] at this
    · have := z1 B; rwa [← a2] at this
  · subst e1; subst e2
    obtain ⟨a1, z1⟩ := k1
    obtain ⟨b2, z2⟩ := k2
    have eH : (⟨H.B, Hi.A⟩ : Hp) = H := by rw [a1]
    have eJ : (⟨Hi.B, Hj.A⟩ : Hp) = Hj := by rw [← b2]
    refine ⟨⟨H.B, Hj.A⟩, vr (by have := z2 H.B; rwa [eH] at this) ⟨rfl, fun B => by have := z2 B; rwa [a1] at this⟩, vr ?_ ⟨rfl, fun A => ?_⟩⟩
    · have := z1 Hj.A; rwa [eJ] at this
    · have := z1 A; rwa [← b2] at this
  · have q1 := quiet n1 hi l1 k1
    subst q1
    have q2 := quiet n2 hj l2 k2
    subst q2
    exact ⟨_, h2, h1⟩
  · subst e1
    obtain ⟨q1, z⟩ := k1
    subst q1
    exact ⟨Hj, h2, vr (z Hj) ⟨rfl, z⟩⟩
  · subst e2
    obtain ⟨q2, z⟩ := k2
    subst q2
    exact ⟨H, vr (z H) ⟨rfl, z⟩, h1⟩
  · subst e2
    obtain ⟨X, q2, z2⟩ := k2
    rcases e1 with rfl | rfl
    · obtain ⟨q1, z1⟩ := k1
      subst q1
      refine ⟨Hj, h2, vr ?_ ⟨rfl, fun Y => ?_⟩⟩
      · have := z1 X; rw [← q2] at this; exact this
      · have := z1 (X ++ Y)
        rw [q2]
        simp only [List.append_assoc] at this ⊢
        exact this
    · obtain ⟨b1, z1⟩ := k1
      rw [b1] at q2 z2
      have eH : (⟨H.B, H.A⟩ : Hp) = H := rfl
      refine ⟨⟨H.B ++ X, H.A⟩, vr (z2 H.A) ⟨X, rfl, z2⟩, vr ?_ ⟨?_, fun Y => ?_⟩⟩
      · have := z1 X; rw [← q2] at this; exact this
      · rw [q2]
      · have := z1 (X ++ Y)
        rw [q2]
        simp only [List.append_assoc] at this ⊢
        exact this
  · obtain ⟨n, rfl⟩ : ∃ n, fi = n + 12 := ⟨fi - 12, by omega⟩
    subst g3
    have e7 : n + 12 + 1 = (n + 1) + 12 := by omega
    rw [e7] at k2 h2 ⊢
    simp only [FlOK0] at k1 k2
    rw [if_pos (by omega)] at k1
    rw [if_neg (by omega)] at k2
    obtain ⟨a1, b, b1⟩ := k1
    obtain ⟨q2, z⟩ := k2
    subst q2
    have en : (n + 1) / 2 = n / 2 := by omega
    rw [en, b1, List.length_set] at z
    obtain ⟨c, hc⟩ := setset (B := H.B) (i := H.B.length - 1 - n / 2) b
    refine ⟨H, vr ?_ ?_, h1⟩
    · have := z c
      rw [a1, hc] at this
      exact this
    · simp only [FlOK0]
      rw [if_neg (by omega), en]
      refine ⟨trivial, fun b' => ?_⟩
      have := z b'
      rw [a1, List.set_set] at this
      exact this
  · obtain ⟨n, rfl⟩ : ∃ n, fj = n + 12 := ⟨fj - 12, by omega⟩
    subst g3
    have e7 : n + 12 + 1 = (n + 1) + 12 := by omega
    rw [e7] at k1 h1 ⊢
    simp only [FlOK0] at k1 k2
    rw [if_neg (by omega)] at k1
    rw [if_pos (by omega)] at k2
    obtain ⟨q1, z⟩ := k1
    subst q1
    obtain ⟨a2, b, b2⟩ := k2
    have en : (n + 1) / 2 = n / 2 := by omega
    rw [en] at z
    have eJ : (⟨Hi.B.set (Hi.B.length - 1 - n / 2) b, Hi.A⟩ : Hp) = Hj := by rw [← b2, ← a2]
    refine ⟨Hj, h2, vr ?_ ?_⟩
    · have := z b
      rw [eJ] at this
      exact this
    · simp only [FlOK0]
      rw [if_neg (by omega), en]
      refine ⟨trivial, fun b' => ?_⟩
      have := z b'
      rw [b2, List.length_set, List.set_set, a2]
      exact this
  · omega
  · omega
  · omega
  · omega


theorem take_set {B : List Blk} {s : Nat} {c : Blk} (h : n0 ≤ s) : (B.set s c).take n0 = B.take n0 := by
  rw [List.take_set, List.set_eq_of_length_le]
  rw [List.length_take]; omega

theorem FlI.move {r : Hp → Option ((D × Hp) ⊕ (PD × Hp))} {fl : Nat} {d : D} {H H1 : Hp} (hl : n0 ≤ H.B.length) (h : FlI n0 fl r d H H1) :
    ∃ B1 X, B1.length = n0 ∧ H1.B = B1 ++ H.B.drop n0 ++ X ∧ ∀ T, T.length = H.B.length - n0 →
      r ⟨H.B.take n0 ++ T, H.A⟩ = some (.inl (d, ⟨B1 ++ T ++ X, H1.A⟩)) ∧ FlI n0 fl r d ⟨H.B.take n0 ++ T, H.A⟩ ⟨B1 ++ T ++ X, H1.A⟩ := by
  have hlen : (H.B.take n0).length = n0 := by rw [List.length_take]; omega
  have e1 : ∀ T : List Blk, (H.B.take n0 ++ T).take n0 = H.B.take n0 := fun T => by rw [List.take_append_of_le_length (by omega), List.take_of_length_le (by omega)]
  have e2 : ∀ T : List Blk, (H.B.take n0 ++ T).drop n0 = T := fun T => by rw [List.drop_append_of_le_length (by omega), List.drop_eq_nil_of_le (by omega), List.nil_append]
  have e3 : ∀ T : List Blk, (H.B.take n0 ++ T).length - n0 = T.length := fun T => by rw [List.length_append, hlen]; omega
  unfold FlI at h
  split at h
  · rename_i e
    subst e
    obtain ⟨rfl, h⟩ := h
    refine ⟨H1.B.take n0, [], hlen, by simp, fun T _ => ⟨by simpa using h T, ?_⟩⟩
    simp only [FlI, if_true]
    refine ⟨by simp, fun T' => ?_⟩
    rw [e1]
    exact h T'
  split at h
  · rename_i e
    subst e
    obtain ⟨rfl, h⟩ := h
    refine ⟨H1.B.take n0, [], hlen, by simp, fun T _ => ⟨by simpa using h T H1.A, ?_⟩⟩
    simp only [FlI, Nat.reduceEqDiff, if_false, if_true]
    refine ⟨by simp, fun T' A => ?_⟩
    rw [e1]
    exact h T' A
  split at h
  · rename_i e
    subst e
    obtain ⟨X, hX, h⟩ := h
    refine ⟨H.B.take n0, X, hlen, by rw [hX, List.take_append_drop], fun T hT => ⟨h T hT, ?_⟩⟩
    simp only [FlI, Nat.reduceEqDiff, if_false, if_true]
    refine ⟨X, rfl, fun T' hT' => ?_⟩
    rw [e1]
    exact h T' (by rw [hT', e3, hT])
  split at h
  · rename_i e
    subst e
    obtain ⟨B1, X, hB1, hX, h⟩ := h
    refine ⟨B1, X, hB1, hX, fun T hT => ⟨h T hT, ?_⟩⟩
    simp only [FlI, Nat.reduceEqDiff, if_false, if_true]
    refine ⟨B1, X, hB1, by rw [e2], fun T' hT' => ?_⟩
    rw [e1]
    exact h T' (by rw [hT', e3, hT])
  · exact h.elim

/-- An operation at a kept place goes ahead of one for which the places don't matter, and behind it. -/
theorem swapSI {ri rj : Hp → Option ((D × Hp) ⊕ (PD × Hp))} {fj s : Nat} {di dj : D} {H Hi Hj : Hp} (hs : n0 ≤ s) (hl : s < H.B.length) (k1 : FlS s ri di H Hi) (k2 : FlI n0 fj rj dj Hi Hj) :
    ∃ Hj', rj H = some (.inl (dj, Hj')) ∧ FlI n0 fj rj dj H Hj' ∧ ri Hj' = some (.inl (di, Hj)) ∧ FlS s ri di Hj' Hj ∧ H.B.length ≤ Hj'.B.length := by
  obtain ⟨c, rfl, h⟩ := k1
  obtain ⟨B1, X, hB1, hX, h2⟩ := k2.move (by simp only [List.length_set]; omega)
  simp only [List.length_set, take_set hs] at h2 hX
  have hT : (H.B.drop n0).length = H.B.length - n0 := by rw [List.length_drop]
  obtain ⟨q1, q2⟩ := h2 (H.B.drop n0) hT
  have eH : (⟨H.B.take n0 ++ H.B.drop n0, H.A⟩ : Hp) = H := by rw [List.take_append_drop]
  rw [eH] at q1 q2
  have eget : (B1 ++ H.B.drop n0 ++ X)[s]? = H.B[s]? := by
    rw [List.append_assoc, List.getElem?_append_right (by omega), List.getElem?_append_left (by rw [hT]; omega), List.getElem?_drop, hB1]
    congr 1; omega
  have eset : (B1 ++ H.B.drop n0 ++ X).set s c = Hj.B := by
    rw [hX, List.append_assoc, List.append_assoc, List.set_append_right _ _ (by omega), List.set_append_left _ _ (by rw [hT]; omega), List.drop_set, if_neg (by omega), hB1]
  refine ⟨_, q1, q2, ?_, ⟨c, ?_, fun B' A' hB' => h B' A' (by rw [hB']; exact eget)⟩, ?_⟩
  · rw [h _ _ eget, eset]
  · rw [eset]
  · simp only [List.length_append, hB1, hT]; omega

theorem swapIS {ri rj : Hp → Option ((D × Hp) ⊕ (PD × Hp))} {fi s : Nat} {di dj : D} {H Hi Hj : Hp} (hs : n0 ≤ s) (hl : s < H.B.length) (k1 : FlI n0 fi ri di H Hi) (k2 : FlS s rj dj Hi Hj) :
    ∃ Hj', rj H = some (.inl (dj, Hj')) ∧ FlS s rj dj H Hj' ∧ ri Hj' = some (.inl (di, Hj)) ∧ FlI n0 fi ri di Hj' Hj ∧ H.B.length ≤ Hj'.B.length := by
  obtain ⟨c, rfl, h⟩ := k2
  obtain ⟨B1, X, hB1, hX, h2⟩ := k1.move (by omega)
  have hT : (H.B.drop n0).length = H.B.length - n0 := by rw [List.length_drop]
  have eget : H.B[s]? = Hi.B[s]? := by
    rw [hX, List.append_assoc, List.getElem?_append_right (by omega), List.getElem?_append_left (by rw [hT]; omega), List.getElem?_drop, hB1]
    congr 1; omega
  have eset : B1 ++ (H.B.set s c).drop n0 ++ X = Hi.B.set s c := by
    rw [hX, List.append_assoc, List.append_assoc, List.set_append_right _ _ (by omega), List.set_append_left _ _ (by rw [hT]; omega), List.drop_set, if_neg (by omega), hB1]
  obtain ⟨q1, q2⟩ := h2 ((H.B.set s c).drop n0) (by rw [List.length_drop, List.length_set])
  have eH : (⟨H.B.take n0 ++ (H.B.set s c).drop n0, H.A⟩ : Hp) = ⟨H.B.set s c, H.A⟩ := by rw [← take_set (c := c) hs, List.take_append_drop]
  rw [eH, eset] at q1 q2
  exact ⟨⟨H.B.set s c, H.A⟩, h H.B H.A eget, ⟨c, rfl, fun B' A' hB' => h B' A' (hB'.trans eget)⟩, q1, q2, by simp⟩

theorem swapSS {ri rj : Hp → Option ((D × Hp) ⊕ (PD × Hp))} {s t : Nat} {di dj : D} {H Hi Hj : Hp} (hst : s ≠ t) (k1 : FlS s ri di H Hi) (k2 : FlS t rj dj Hi Hj) :
    ∃ Hj', rj H = some (.inl (dj, Hj')) ∧ FlS t rj dj H Hj' ∧ ri Hj' = some (.inl (di, Hj)) ∧ FlS s ri di Hj' Hj ∧ H.B.length ≤ Hj'.B.length := by
  obtain ⟨c, rfl, h⟩ := k1
  obtain ⟨c', rfl, h'⟩ := k2
  have e1 : H.B[t]? = (H.B.set s c)[t]? := (List.getElem?_set_ne hst).symm
  have e2 : (H.B.set t c')[s]? = H.B[s]? := List.getElem?_set_ne (Ne.symm hst)
  have ec : (H.B.set t c').set s c = (H.B.set s c).set t c' := List.set_comm _ _ (Ne.symm hst)
  refine ⟨⟨H.B.set t c', H.A⟩, h' H.B H.A e1, ⟨c', rfl, fun B' A' hB' => h' B' A' (hB'.trans e1)⟩, ?_, ⟨c, by rw [ec], fun B' A' hB' => h B' A' (hB'.trans e2)⟩, by simp⟩
  rw [h _ _ e2, ec]

theorem FlOK.still {f : Nat} {r : Hp → Option ((D × Hp) ⊕ (PD × Hp))} {d : D} {X Y : Hp} (h0 : f ≠ 0) (h2 : Go.Vi.still f = true) (h : FlOK n0 kk f r d Y X) : X = Y := by
  simp only [Vi.still, Bool.or_eq_true, Bool.and_eq_true, decide_eq_true_eq, beq_iff_eq] at h2
  rcases h2 with (((h2 | rfl) | h2) | rfl) | rfl
  · match f, h0, h2 with
    | 1, _, _ => exact h
    | 2, _, _ => exact h.1
  · exact h.1
  · unfold FlOK at h
    rw [if_pos h2.2] at h
    obtain ⟨n, rfl⟩ : ∃ n, f = n + 12 := ⟨f - 12, by omega⟩
    simp only [FlOK0] at h
    rw [if_neg (by omega)] at h
    exact h.1
  · exact h.2.1
  · exact h.2.1

theorem swapR {ri rj : Hp → Option ((D × Hp) ⊕ (PD × Hp))} {fi fj : Nat} (hp : okPair fi fj = true) {di dj : D} {H Hi Hj : Hp} (h1 : ri H = some (.inl (di, Hi))) (k1 : FlOK n0 kk fi ri di H Hi)
    (h2 : rj Hi = some (.inl (dj, Hj))) (k2 : FlOK n0 kk fj rj dj Hi Hj) :
    ∃ Hj', rj H = some (.inl (dj, Hj')) ∧ FlOK n0 kk fj rj dj H Hj' ∧ ri Hj' = some (.inl (di, Hj)) ∧ FlOK n0 kk fi ri di Hj' Hj := by
  by_cases hb : fi < 1000 ∧ fj < 1000
  · obtain ⟨hi, hj⟩ := hb
    simp only [FlOK, if_pos hi, if_pos hj] at k1 k2 ⊢
    obtain ⟨Hj', ⟨a, b⟩, c, d⟩ := swap0 hi hj hp ⟨h1, k1⟩ ⟨h2, k2⟩
    exact ⟨Hj', a, b, c, d⟩
  have hp0 := hp
  simp only [okPair, Bool.and_eq_true, bne_iff_ne, ne_eq, Bool.or_eq_true, decide_eq_true_eq, beq_iff_eq] at hp
  obtain ⟨⟨n1, n2⟩, hp⟩ := hp
  have S : ∀ {f : Nat} {r : Hp → Option ((D × Hp) ⊕ (PD × Hp))} {d : D} {X Y : Hp}, 2000 ≤ f → FlOK n0 kk f r d X Y → n0 + kk ≤ X.B.length ∧ f - 2000 < kk ∧ FlS (n0 + (f - 2000)) r d X Y := by
    intro f r d X Y hf h
    unfold FlOK at h
    rw [if_neg (by omega), if_neg (by omega)] at h
    exact h
  have mkS : ∀ {f : Nat} {r : Hp → Option ((D × Hp) ⊕ (PD × Hp))} {d : D} {X Y : Hp}, 2000 ≤ f → n0 + kk ≤ X.B.length → f - 2000 < kk → FlS (n0 + (f - 2000)) r d X Y → FlOK n0 kk f r d X Y := by
    intro f r d X Y hf a b c
    unfold FlOK
    rw [if_neg (by omega), if_neg (by omega)]
    exact ⟨a, b, c⟩
  have I : ∀ {f : Nat} {r : Hp → Option ((D × Hp) ⊕ (PD × Hp))} {d : D} {X Y : Hp}, 1000 ≤ f → f < 2000 → FlOK n0 kk f r d X Y → n0 + kk ≤ X.B.length ∧ FlI n0 f r d X Y := by
    intro f r d X Y hf hf2 h
    unfold FlOK at h
    rw [if_neg (by omega), if_pos hf2] at h
    exact h
  have mkI : ∀ {f : Nat} {r : Hp → Option ((D × Hp) ⊕ (PD × Hp))} {d : D} {X Y : Hp}, 1000 ≤ f → f < 2000 → n0 + kk ≤ X.B.length → FlI n0 f r d X Y → FlOK n0 kk f r d X Y := by
    intro f r d X Y hf hf2 a b
    unfold FlOK
    rw [if_neg (by omega), if_pos hf2]
    exact ⟨a, b⟩
  rcases hp with ((((((((((((⟨e1, e2⟩ | ⟨e1, e2⟩) | ⟨e1, e2⟩) | ⟨e1, e2⟩) | ⟨l1, l2⟩) | e1) | e2) | ⟨e1, e2⟩) | ⟨g1, ⟨g2, g3⟩, g4⟩) | ⟨g1, ⟨g2, g3⟩, g4⟩) | ⟨e1, e2⟩) | ⟨e1, e2⟩) | ⟨⟨e1, e2⟩, e3⟩) | ⟨⟨e1, e2⟩, e3⟩
  · omega
  · omega
  · omega
  · omega
  · have q1 := k1.still n1 l1
    subst q1
    have q2 := k2.still n2 l2
    subst q2
    exact ⟨_, h2, k2, h1, k1⟩
  · subst e1
    obtain ⟨q1, z⟩ := k1
    subst q1
    exact ⟨Hj, h2, k2, z Hj, ⟨rfl, z⟩⟩
  · subst e2
    obtain ⟨q2, z⟩ := k2
    subst q2
    exact ⟨H, z H, ⟨rfl, z⟩, h1, k1⟩
  · omega
  · omega
  · omega
  · subst e1; subst e2
    obtain ⟨hl, q1, z1⟩ := I (by omega) (by omega) k1
    subst q1
    refine ⟨Hj, h2, k2, ?_⟩
    have k2' := (I (by omega) (by omega) k2).2
    simp only [FlI, Nat.reduceEqDiff, if_false, if_true] at k2'
    obtain ⟨X, hX, _⟩ := k2'
    have et : Hj.B.take n0 = Hi.B.take n0 := by rw [hX, List.take_append_of_le_length (by omega)]
    have eH : (⟨Hi.B.take n0 ++ Hj.B.drop n0, Hj.A⟩ : Hp) = Hj := by rw [← et, List.take_append_drop]
    refine ⟨?_, mkI (by omega) (by omega) (by rw [hX, List.length_append]; omega) ?_⟩
    · have := z1 (Hj.B.drop n0) Hj.A
      rwa [eH] at this
    · simp only [FlI, Nat.reduceEqDiff, if_false, if_true]
      refine ⟨trivial, fun T A => ?_⟩
      rw [et]
      exact z1 T A
  · subst e1; subst e2
    obtain ⟨hl, z2⟩ := I (by omega) (by omega) k2
    simp only [FlI, Nat.reduceEqDiff, if_false, if_true] at z2
    obtain ⟨q2, z2⟩ := z2
    subst q2
    obtain ⟨hl1, k1'⟩ := I (by omega) (by omega) k1
    simp only [FlI, Nat.reduceEqDiff, if_false, if_true] at k1'
    obtain ⟨X, hX, _⟩ := k1'
    have et : Hj.B.take n0 = H.B.take n0 := by rw [hX, List.take_append_of_le_length (by omega)]
    have eH : (⟨Hj.B.take n0 ++ H.B.drop n0, H.A⟩ : Hp) = H := by rw [et, List.take_append_drop]
    refine ⟨H, ?_, mkI (by omega) (by omega) hl1 ?_, h1, k1⟩
    · have := z2 (H.B.drop n0) H.A
      rwa [eH] at this
    · simp only [FlI, Nat.reduceEqDiff, if_false, if_true]
      refine ⟨trivial, fun T A => ?_⟩
      have := z2 T A
      rwa [et] at this
  · obtain ⟨a, b, c⟩ := S e1 k1
    by_cases hj2 : 2000 ≤ fj
    · obtain ⟨a', b', c'⟩ := S hj2 k2
      obtain ⟨Hj', q1, q2, q3, q4, q5⟩ := swapSS (by omega) c c'
      exact ⟨Hj', q1, mkS hj2 a b' q2, q3, mkS e1 (by omega) b q4⟩
    · obtain ⟨a', c'⟩ := I e2 (by omega) k2
      obtain ⟨Hj', q1, q2, q3, q4, q5⟩ := swapSI (by omega) (by omega) c c'
      exact ⟨Hj', q1, mkI e2 (by omega) a q2, q3, mkS e1 (by omega) b q4⟩
  · obtain ⟨a, b, c⟩ := S e1 k2
    by_cases hj2 : 2000 ≤ fi
    · obtain ⟨a', b', c'⟩ := S hj2 k1
      obtain ⟨Hj', q1, q2, q3, q4, q5⟩ := swapSS (by omega) c' c
      exact ⟨Hj', q1, mkS e1 a' b q2, q3, mkS hj2 (by omega) b' q4⟩
    · obtain ⟨a', c'⟩ := I e2 (by omega) k1
      obtain ⟨Hj', q1, q2, q3, q4, q5⟩ := swapIS (by omega) (by omega) c' c
      exact ⟨Hj', q1, mkS e1 a' b q2, q3, mkI e2 (by omega) (by omega) q4⟩

/-- Two that are not in order change places. -/
theorem swap {fi fj : Nat} {oi oj : Oper} (hp : okPair fi fj = true) (ha : oi.apart ops oj = true) {di dj : D} {Hi Hj : Hp}
    (h1 : runVF P hn mu m cal ops n0 kk fi F H oi = some (.inl (di, Hi))) (h2 : runVF P hn mu m cal ops n0 kk fj (putF oi.dst di F) Hi oj = some (.inl (dj, Hj))) :
    ∃ Hj', runVF P hn mu m cal ops n0 kk fj F H oj = some (.inl (dj, Hj')) ∧ runVF P hn mu m cal ops n0 kk fi (putF oj.dst dj F) Hj' oi = some (.inl (di, Hj)) := by
  obtain ⟨a1, a2, a3⟩ := Oper.apart_spec ha
  have c1 : ∀ t ∈ oj.looksAt ops, look (putF oi.dst di F) t = look F t := fun t ht => look_put_ne fun s hs he => a1 s hs (he ▸ ht)
  have c2 : ∀ t ∈ oi.looksAt ops, look (putF oj.dst dj F) t = look F t := fun t ht => look_put_ne fun s hs he => a3 s hs (he ▸ ht)
  rw [runVF_congr c1] at h2
  obtain ⟨r1, k1⟩ := gate_inl.1 h1
  obtain ⟨r2, k2⟩ := gate_inl.1 h2
  obtain ⟨Hj', q1, q2, q3, q4⟩ := swapR hp r1 k1 r2 k2
  refine ⟨Hj', gate_inl.2 ⟨q1, q2⟩, ?_⟩
  rw [runVF_congr c2]
  exact gate_inl.2 ⟨q3, q4⟩

theorem runVF_pan {f : Nat} {o : Oper} {x : PD × Hp} (h : runVF P hn mu m cal ops n0 kk f F H o = some (.inr x)) : f = 0 := (gate_inr.1 h).2

/-- The chosen one goes ahead. -/
theorem front {φ : Nat → Nat} {j : Nat} {oj : Oper} (hj : ops[j]? = some oj) : ∀ (pre post : List Nat) (F : Fr) (H : Hp) (ro : RO),
    (∀ i ∈ pre, ∀ oi, ops[i]? = some oi → okPair (φ i) (φ j) = true ∧ oi.apart ops oj = true) → evalL P hn mu m cal ops n0 kk φ (pre ++ j :: post) F H = some ro →
    (∃ d H1 ro', runVF P hn mu m cal ops n0 kk (φ j) F H oj = some (.inl (d, H1)) ∧ evalL P hn mu m cal ops n0 kk φ (pre ++ post) (putF oj.dst d F) H1 = some ro' ∧ ROEq ro ro') ∨
    (∃ x H1, runVF P hn mu m cal ops n0 kk (φ j) F H oj = some (.inr (x, H1)) ∧ ro = .pan x H1) := by
  intro pre
  induction pre with
  | nil =>
    intro post F H ro _ h
    simp only [List.nil_append, evalL, hj] at h ⊢
    split at h
    · rename_i d H1 hv; exact .inl ⟨d, H1, ro, hv, h, .refl ro⟩
    · rename_i x H1 hv
      injection h with h
      exact .inr ⟨x, H1, hv, h.symm⟩
    · cases h
  | cons i pre ih =>
    intro post F H ro hc h
    simp only [List.cons_append, evalL] at h ⊢
    cases ho : ops[i]? with
    | none => rw [ho] at h; cases h
    | some oi =>
      simp only [ho] at h ⊢
      obtain ⟨hp, ha⟩ := hc i (by simp) oi ho
      split at h
      · rename_i di Hi hv
        rcases ih post _ _ _ (fun k hk => hc k (by simp [hk])) h with ⟨dj, Hj, ro', h1, h2, h3⟩ | ⟨x, H1, h1, _⟩
        · obtain ⟨Hj', s1, s2⟩ := swap hp ha hv h1
          obtain ⟨_, a2, _⟩ := Oper.apart_spec ha
          obtain ⟨ro'', h4, h5⟩ := evalL_congr _ _ _ _ _ (put_comm (F := F) (d := dj) (e := di) (fun s hs he => a2 s he hs)) h2
          refine .inl ⟨dj, Hj', ro'', s1, ?_, h3.trans h5⟩
          rw [s2]
          exact h4
        · have := runVF_pan h1
          rw [this] at hp
          simp [okPair] at hp
      · rename_i x H1 hv
        have := runVF_pan hv
        rw [this] at hp
        simp [okPair] at hp
      · cases h

/-! ### What must lie ahead -/
def Deps (ops : Array Oper) (listed : Array Bool) (k : Nat) : Prop :=
  ∀ o, ops[k]? = some o → ∀ e ∈ o.after, Region.binds .any e = true → listed.getD e.on false = true
def Dn (ops : Array Oper) (listed : Array Bool) : Prop := ∀ k, listed.getD k false = true → Deps ops listed k
def Bef (ops : Array Oper) (k i : Nat) : Prop := ∀ listed, Dn ops listed → Deps ops listed k → listed.getD i false = true

theorem fold_bit {acc : List Nat} {i : Nat} : ∀ (l : List Edge) (m : Nat),
    (l.foldl (fun m e => if Region.binds .any e then (m ||| (1 <<< e.on)) ||| acc.getD e.on 0 else m) m).testBit i = true →
    m.testBit i = true ∨ ∃ e ∈ l, Region.binds .any e = true ∧ (i = e.on ∨ (acc.getD e.on 0).testBit i = true) := by
  intro l
  induction l with
  | nil => intro m h; exact .inl h
  | cons e l ih =>
    intro m h
    rcases ih _ h with h1 | ⟨e', he', hb⟩
    · dsimp only at h1
      split at h1
      · rename_i hb
        simp only [Nat.testBit_or, Bool.or_eq_true] at h1
        rcases h1 with (h1 | h1) | h1
        · exact .inl h1
        · refine .inr ⟨e, by simp, hb, .inl ?_⟩
          rw [Nat.one_shiftLeft, Nat.testBit_two_pow] at h1
          exact (of_decide_eq_true h1).symm
        · exact .inr ⟨e, by simp, hb, .inr h1⟩
      · exact .inl h1
    · exact .inr ⟨e', by simp [he'], hb⟩

theorem befs_spec : ∀ (l : List Oper) (acc : List Nat), (∀ j, l[j]? = ops[acc.length + j]?) → (∀ k m, acc[k]? = some m → ∀ i, m.testBit i = true → Bef ops k i) →
    ∀ k m, (befs l acc)[k]? = some m → ∀ i, m.testBit i = true → Bef ops k i := by
  intro l
  induction l with
  | nil => intro acc _ h; exact h
  | cons o l ih =>
    intro acc hl h
    simp only [befs]
    refine ih _ (fun j => by have := hl (j + 1); simpa [Nat.add_assoc, Nat.add_comm 1 j] using this) fun k m hk i hi => ?_
    rw [List.getElem?_append] at hk
    split at hk
    · exact h k m hk i hi
    · have hk' : k = acc.length := by
        rw [List.getElem?_singleton] at hk
        split at hk
        · omega
        · cases hk
      subst hk'
      simp only [Nat.sub_self, List.getElem?_cons_zero, Option.some.injEq] at hk
      subst hk
      have h0 : ops[acc.length]? = some o := by simpa using (hl 0).symm
      intro listed hdn hdeps
      rcases fold_bit _ _ hi with h1 | ⟨e, he, hb, h2⟩
      · simp at h1
      · have hon := hdeps o h0 e (by simpa using he) hb
        rcases h2 with h2 | h2
        · rw [h2]; exact hon
        · cases ha : acc[e.on]? with
          | none => rw [List.getD_eq_getElem?_getD, ha] at h2; simp at h2
          | some m' =>
            rw [List.getD_eq_getElem?_getD, ha] at h2
            exact h e.on m' ha i h2 listed hdn (hdn _ hon)

theorem okDraw_spec {fl : List Nat} (h : okDraw ops fl = true) {j : Nat} {oj : Oper} (hj : ops[j]? = some oj) :
    (∀ e ∈ oj.after, Region.binds .any e = true → e.on < j) ∧ ∀ i < j, Bef ops j i ∨ ∀ oi, ops[i]? = some oi → okPair (fl.getD i 0) (fl.getD j 0) = true ∧ oi.apart ops oj = true := by
  simp only [okDraw, List.all_eq_true, List.mem_range] at h
  have h1 := h j (Array.getElem?_eq_some_iff.1 hj).1
  rw [hj] at h1
  cases hm : (befs ops.toList [])[j]? with
  | none => rw [hm] at h1; cases h1
  | some m =>
    rw [hm] at h1
    simp only [Bool.and_eq_true, Array.all_eq_true_iff_forall_mem, Bool.or_eq_true, Bool.not_eq_true', decide_eq_true_eq, List.all_eq_true, List.mem_range] at h1
    refine ⟨fun e he hb => (h1.1 e he).resolve_left (by simp [hb]), fun i hi => ?_⟩
    rcases h1.2 i hi with h2 | h2
    · exact .inl (befs_spec ops.toList [] (by simp) (by simp) j m hm i h2)
    · refine .inr fun oi ho => ?_
      rw [ho] at h2
      simpa using h2
end

section
variable {P : Program} {w : World} {g : Gh} {H : Hp} {N : Fm}

theorem After.eq {Q : Exit → Act → World → Prop} {ro ro' : RO} (he : ROEq ro ro') (h : After w g H N Q ro) : After w g H N Q ro' := by
  cases ro <;> cases ro' <;> simp only [ROEq] at he
  · obtain ⟨h1, rfl⟩ := he
    exact fun a' w' g' hs he' => h a' w' g' ⟨fun t => by rw [h1 t]; exact hs.fr t, hs.inv, hs.sz, hs.df⟩ he'
  · obtain ⟨rfl, rfl⟩ := he
    exact h

def roOf (dst : Option Tmp) (F : Fr) : (D × Hp) ⊕ (PD × Hp) → RO
  | .inl (d, H1) => .go (putF dst d F) H1
  | .inr (x, H1) => .pan x H1

theorem runV_runOp {hn : Hints} {mu : Bool} {m : Mk} {cal : Cal} {ops : Array Oper} {F : Fr} {o : Oper} {r : (D × Hp) ⊕ (PD × Hp)}
    (h : runV P hn mu m cal ops F H o = some r) : runOp P hn mu m cal ops F H o = some (roOf o.dst F r) := by
  rw [runOp_eq]
  rcases r with ⟨d, H1⟩ | x <;> simp only [h, Option.map_some, roOf]

theorem constC_no (v : Value) : D.noRef 0 0 (constC v) = true := by
  unfold constC
  split <;> rfl

theorem const_no (z : Value) : ∀ d ∈ cellsD (constD z), D.noRef 0 0 d = true := by
  intro d hd
  have one : ∀ v : Value, d ∈ cellsD (constC v) → D.noRef 0 0 d = true := by
    intro v h
    unfold constC at h
    split at h <;> (simp only [cellsD, List.mem_singleton] at h; subst h; rfl)
  unfold constD at hd
  split at hd
  · simp only [cellsD, List.mem_map] at hd
    obtain ⟨v, _, rfl⟩ := hd
    exact constC_no v
  · exact one _ hd

/-- What was laid behind all the others lies at a place that was kept. -/
theorem reslot {w' : World} {g1 : Gh} {F : Fr} {a a' : Act} {dst : Option Tmp} {s : Nat} {l : List D} (hs : Sim w g F H a N)
    (h1 : Sim w' g1 (putF dst (.ptr H.B.length 0) F) ⟨H.B ++ [.cells l], H.A⟩ a' N) (he : Ext w g H.A w' g1 H.A) (hh : H.B[s]? = some .hole) (hl : ∀ d ∈ l, D.noRef 0 0 d = true) :
    ∃ g2, Sim w' g2 (putF dst (.ptr s 0) F) ⟨H.B.set s (.cells l), H.A⟩ a' N ∧ Ext w g H.A w' g2 H.A := by
  have lB := hs.inv.lenB
  have lA := hs.inv.lenA
  have lB1 : g1.B.length = H.B.length + 1 := by simpa using h1.inv.lenB
  have lA1 : g1.A.length = H.A.length := h1.inv.lenA
  have hsl : s < H.B.length := (List.getElem?_eq_some_iff.1 hh).1
  have app : ∀ i, i < H.B.length → (H.B ++ [Blk.cells l])[i]? = H.B[i]? := fun i hi => List.getElem?_append_left hi
  have hole1 : ∀ i, i < H.B.length → (H.B[i]? = some .hole ↔ g1.B[i]? = some none) := fun i hi => by
    have := h1.inv.hole i
    simp only [app i hi] at this
    exact this
  have hs1 : g1.B[s]? = some none := (hole1 s hsl).1 hh
  have hL : (H.B ++ [Blk.cells l])[H.B.length]? = some (.cells l) := by simp
  obtain ⟨b0, hb0⟩ : ∃ b, g1.B[H.B.length]? = some (some b) := by
    have h2 := h1.inv.hole H.B.length
    rw [hL] at h2
    cases hq : g1.B[H.B.length]? with
    | none => rw [List.getElem?_eq_none_iff] at hq; omega
    | some q =>
      cases q with
      | none => rw [hq] at h2; exact absurd (h2.2 rfl) (by simp)
      | some b => exact ⟨b, rfl⟩
  let g2 : Gh := ⟨(g1.B.take H.B.length).set s (some b0), g1.A, g1.I⟩
  have l2 : (g1.B.take H.B.length).length = H.B.length := by rw [List.length_take]; omega
  have old : ∀ i b : Nat, i < H.B.length → g1.B[i]? = some (some b) → g2.B[i]? = some (some b) := by
    intro i b hi h
    have hne : s ≠ i := fun e => by rw [← e, hs1] at h; cases h
    show ((g1.B.take H.B.length).set s (some b0))[i]? = _
    rw [List.getElem?_set_ne hne, List.getElem?_take, if_pos hi]
    exact h
  have g2s : g2.B[s]? = some (some b0) := by
    show ((g1.B.take H.B.length).set s (some b0))[s]? = _
    rw [List.getElem?_set_self (by omega)]
  have inv2 : ∀ i q, g2.B[i]? = some q → (i = s ∧ q = some b0) ∨ (i ≠ s ∧ i < H.B.length ∧ g1.B[i]? = some q) := by
    intro i q h
    by_cases e : i = s
    · subst e; rw [g2s] at h; injection h with h; exact .inl ⟨rfl, h.symm⟩
    · refine .inr ⟨e, ?_⟩
      change ((g1.B.take H.B.length).set s (some b0))[i]? = _ at h
      rw [List.getElem?_set_ne (Ne.symm e), List.getElem?_take] at h
      split at h
      · rename_i hlt; exact ⟨hlt, h⟩
      · cases h
  have sub : ∀ b, some b ∈ g2.B → some b ∈ g1.B := by
    intro b h
    obtain ⟨i, hi⟩ := List.mem_iff_getElem?.1 h
    rcases inv2 i _ hi with ⟨_, e⟩ | ⟨_, _, h3⟩
    · injection e with e; subst e; exact List.mem_of_getElem? hb0
    · exact List.mem_of_getElem? h3
  have subo : ∀ b, b ∈ g2.owned → b ∈ g1.owned := by
    intro b h
    rw [owned_iff] at h ⊢
    rcases h with ⟨i, h⟩ | h
    · obtain ⟨j, hj⟩ := List.mem_iff_getElem?.1 (sub b (List.mem_of_getElem? h))
      exact .inl ⟨j, hj⟩
    · exact .inr h
  have ren : ∀ d v, D.noRef H.B.length H.A.length d = true → RepD w' g1 H.A d v → RepD w' g2 H.A d v := by
    intro d v hn hr
    have hc := RepD.cut (nB := H.B.length) (nA := H.A.length) (Nat.le_refl _) d v hr hn
    rw [List.take_length] at hc
    refine hc.ext0 (g := g1.cut H.B.length H.A.length) (g' := g2) (fun i b h => ?_) ⟨fun _ _ h => h, fun _ _ _ => rfl⟩ (Nat.le_refl _) fun i ar' hi h => ⟨ar', h, Nat.le_refl _, rfl, fun _ => ⟨?_, rfl⟩⟩
    · simp only [Gh.cut, List.getElem?_take] at h
      split at h
      · rename_i hlt; exact old i b hlt h
      · cases h
    · show g1.A[i]? = (g1.A.take H.A.length)[i]?
      rw [List.getElem?_take, if_pos hi]
  have flat : ∀ d v, D.noRef 0 0 d = true → RepD w' g1 H.A d v → RepD w' g2 H.A d v := by
    intro d v hn hr
    have hc := RepD.cut (nB := 0) (nA := 0) (Nat.zero_le _) d v hr hn
    exact hc.ext0 (g := g1.cut 0 0) (g' := g2) (fun i b h => by simp [Gh.cut] at h) ⟨fun _ _ h => h, fun _ _ _ => rfl⟩ (by simp) fun i ar' hi h => by simp at hi
  have he2 : Ext w g H.A w' g2 H.A :=
    { ptr := fun i b h => old i b (by rw [← lB]; exact (List.getElem?_eq_some_iff.1 h).1) (he.ptr i b h), same := he.same, lenA := he.lenA, row := he.row, heap := he.heap, size := he.size
      owned := fun b hb ho h => he.owned b hb ho (subo b h), os := he.os, tape := he.tape, output := he.output, news := he.news }
  have inv : Inv w' g2 ⟨H.B.set s (.cells l), H.A⟩ :=
    { lenB := by simp only [List.length_set]; show ((g1.B.take H.B.length).set s (some b0)).length = _; rw [List.length_set, l2]
      lenA := lA1
      blk := fun i bk b h2 h3 => by
        simp only at h2
        rcases inv2 i _ h3 with ⟨rfl, e⟩ | ⟨hne, hlt, h4⟩
        · injection e with e
          subst e
          rw [List.getElem?_set_self hsl] at h2
          injection h2 with h2
          subst h2
          obtain ⟨cs, t, k1, k2, k3⟩ := h1.inv.blk H.B.length _ b hL hb0
          exact ⟨cs, t, k1, k2, fun j d v hd hv => flat d v (hl d (List.mem_of_getElem? hd)) (k3 j d v hd hv)⟩
        · rw [List.getElem?_set_ne (Ne.symm hne)] at h2
          have h5 := h1.inv.blk i bk b (by simp only [app i hlt]; exact h2) h4
          obtain ⟨b', hb'⟩ : ∃ b', g.B[i]? = some (some b') := by
            cases hq : g.B[i]? with
            | none => rw [List.getElem?_eq_none_iff] at hq; omega
            | some q =>
              cases q with
              | none =>
                have := (hs.inv.hole i).2 hq
                rw [(hole1 i hlt).1 this] at h4
                cases h4
              | some b' => exact ⟨b', rfl⟩
          have h6 := hs.inv.blk i bk b' h2 hb'
          cases bk with
          | hole => trivial
          | cells l' =>
            obtain ⟨cs, t, k1, k2, k3⟩ := h5
            obtain ⟨cs0, t0, m1, m2, m3⟩ := h6
            refine ⟨cs, t, k1, k2, fun j d v hd hv => ren d v ?_ (k3 j d v hd hv)⟩
            have hj : j < cs0.size := by rw [m2]; exact (List.getElem?_eq_some_iff.1 hd).1
            have := RepD.no d cs0[j] (m3 j d _ hd (by simp [hj]))
            rwa [lB] at this
          | sit s' pos => exact h5
          | mset l' => exact h5
          | lp st pend f F0 ps assign body =>
            obtain ⟨r, k1, k2, k3, k4, k5, k6, k7, k8⟩ := h5
            obtain ⟨r0, m1, m2, m3, m4, m5, m6, m7, m8⟩ := h6
            refine ⟨r, k1, k2, k3, k4, k5, k6, k7, fun t => ren _ _ ?_ (k8 t)⟩
            have := RepD.no _ _ (m8 t)
            rwa [lB] at this
      arr := h1.inv.arr
      nB := fun i j b h2 h3 => by
        rcases inv2 i _ h2 with ⟨rfl, e⟩ | ⟨_, hlt, h4⟩ <;> rcases inv2 j _ h3 with ⟨rfl, e'⟩ | ⟨_, hlt', h5⟩
        · rfl
        · injection e with e; subst e
          have := h1.inv.nB _ _ _ hb0 h5
          omega
        · injection e' with e'; subst e'
          have := h1.inv.nB _ _ _ hb0 h4
          omega
        · exact h1.inv.nB _ _ _ h4 h5
      nBA := fun i j b cap h2 => by
        rcases inv2 i _ h2 with ⟨rfl, e⟩ | ⟨_, hlt, h4⟩
        · injection e with e; subst e
          exact h1.inv.nBA _ j _ cap hb0
        · exact h1.inv.nBA _ j _ cap h4
      nA := h1.inv.nA
      lt := fun b h => h1.inv.lt b (subo b h)
      iB := fun b o h h2 => h1.inv.iB b o h (sub b h2)
      iA := h1.inv.iA
      iLt := h1.inv.iLt
      tab := hs.inv.tab.ext he2
      hole := fun i => by
        by_cases e : i = s
        · subst e
          rw [g2s]
          simp only [List.getElem?_set_self hsl, Option.some.injEq, reduceCtorEq]
        · rcases Nat.lt_or_ge i H.B.length with hlt | hge
          · simp only [List.getElem?_set_ne (Ne.symm e)]
            rw [hole1 i hlt]
            show _ ↔ ((g1.B.take H.B.length).set s (some b0))[i]? = _
            rw [List.getElem?_set_ne (Ne.symm e), List.getElem?_take, if_pos hlt]
          · have e1 : (H.B.set s (.cells l))[i]? = none := List.getElem?_eq_none (by rw [List.length_set]; exact hge)
            have e2 : g2.B[i]? = none := List.getElem?_eq_none (by show ((g1.B.take H.B.length).set s (some b0)).length ≤ i; rw [List.length_set, l2]; exact hge)
            simp [e1, e2] }
  refine ⟨g2, ⟨fun t => ?_, inv, h1.sz, ⟨h1.df.le, fun d hd => ?_, h1.df.apart, h1.df.non⟩⟩, he2⟩
  · have ht := h1.fr t
    have hno : D.noRef H.B.length H.A.length (look F t) = true := by
      have := RepD.no _ _ (hs.fr t)
      rwa [lB] at this
    cases dst with
    | none => exact ren _ _ hno ht
    | some t0 =>
      simp only [putF, look] at ht ⊢
      by_cases e : t0 = t
      · rw [if_pos e] at ht ⊢
        generalize a'.tmps.getD t undef = v at ht
        cases ht with
        | ptr _ _ b hb =>
          rw [hb0] at hb
          injection hb with hb
          injection hb with hb
          subst hb
          exact .ptr s 0 b0 g2s
      · rw [if_neg e] at ht ⊢
        exact ren _ _ hno ht
  · obtain ⟨b, k1, k2, k3, k4⟩ := h1.df.mark d hd
    exact ⟨b, k1, k2, fun h => k3 (subo b h), k4⟩

/-- One operation, with all variables from n0 on hidden. -/
theorem mask_sound {hn : Hints} {mu : Bool} {m : Mk} {cal : Cal} {rd : Option Nat} (hc : CalOK P cal) {F : Fr} {a : Act} (hs : Sim w g F H a N) {ops : Array Oper} {o : Oper} (hd : ∀ t, o.dst = some t → t < N.n) {n0 : Nat}
    {r : (D × Hp) ⊕ (PD × Hp)} (hx : maskX n0 H (lowF n0 ops F o && closedB n0 H.B) (fun H => runV P hn mu m cal ops F H o) = some r) (K : Act → World → Prop) (Q : Exit → Act → World → Prop)
    (hK : After w g H N (fun e a w => match e with | .normal => K a w | e => Q e a w) (roOf o.dst F r)) :
    if Region.wanted o (yielded ops a.tmps) then o.wpIn (FR rd) 0 P a w K Q else (∀ f, o.about P w a.eval = some f → (FR rd).fn f) ∧ K (a.put o.dst undef) w := by
  obtain ⟨hl, d, B1, A1, hr, hLB, hho, rfl⟩ := maskX_inv hx
  rw [Bool.and_eq_true] at hl
  obtain ⟨hl1, hl2⟩ := hl
  unfold closedB at hl2
  rw [Bool.and_eq_true, decide_eq_true_eq, List.all_eq_true] at hl2
  unfold lowF at hl1
  rw [List.all_eq_true] at hl1
  let F' : Fr := (o.looksAt ops).map fun t => (t, look F t)
  have hF' : ∀ (l : List Tmp) t, look (l.map fun t => (t, look F t)) t = if t ∈ l then look F t else .dead := by
    intro l t
    induction l with
    | nil => rfl
    | cons u l ih =>
      simp only [List.map_cons, look]
      by_cases e : u = t
      · subst e; simp
      · rw [if_neg e, ih]
        simp [Ne.symm e]
  have hcl : ∀ i bk, i < n0 → H.B[i]? = some bk → bk.top ≤ n0 := by
    intro i bk hi hb
    have := hl2.2 bk (List.mem_iff_getElem?.2 ⟨i, by rw [List.getElem?_take, if_pos hi]; exact hb⟩)
    exact of_decide_eq_true this
  have hgm : ∀ i b : Nat, i < n0 → g.B[i]? = some (some b) → (g.mask n0).B[i]? = some (some b) := fun i b hi h => mask_lt hi h none
  have hs' : Sim w (g.mask n0) F' (maskD n0 H) a N := by
    refine ⟨fun t => ?_, inv_mask hs.inv hcl, hs.sz, ⟨hs.df.le, fun d hd => ?_, hs.df.apart, hs.df.non⟩⟩
    · show RepD w (g.mask n0) H.A (look ((o.looksAt ops).map fun t => (t, look F t)) t) _
      rw [hF']
      split
      · rename_i ht
        exact RepD.mask (n := n0) (g := g) (g' := g.mask n0) rfl rfl hgm _ _ (of_decide_eq_true (hl1 t ht)) (hs.fr t)
      · exact .dead _
    · obtain ⟨b, h1, h2, h3, h4⟩ := hs.df.mark d hd
      refine ⟨b, h1, h2, fun hm => h3 ?_, h4⟩
      rw [owned_iff] at hm ⊢
      rcases hm with ⟨i, hm⟩ | hm
      · rcases mask_get hm with ⟨_, h5⟩ | ⟨_, h5⟩
        · exact .inl ⟨i, h5⟩
        · cases h5
      · exact .inr hm
  have hr' : runV P hn mu m cal ops F' (maskD n0 H) o = some (.inl (d, ⟨B1, A1⟩)) := by
    rw [← hr]
    refine runV_congr fun t ht => ?_
    show look ((o.looksAt ops).map fun t => (t, look F t)) t = _
    rw [hF', if_pos ht]
  refine op_soundP hc hs' hd (runV_runOp hr') K Q fun v w' g1 hs1 he1 => ?_
  obtain ⟨g', hi', he', hren⟩ := unmask hs.inv hs1.inv he1 hl2.1 hLB fun i h1 h2 => allHole_get hho hLB h1 h2
  refine hK (a.put o.dst v) w' g' ?_ he'
  cases hdst : o.dst with
  | none =>
    have e : a.put none v = a := rfl
    rw [e]
    exact ⟨fun t => (hs.fr t).ext he', hi', hs.sz, hs.df.ext he'⟩
  | some t0 =>
    refine sim_put (dst := some t0) hs he' hi' (fun t e => hd t (by rw [hdst]; exact e)) (hren d v ?_)
    have h5 := hs1.fr t0
    rw [hdst] at h5
    simp only [putF, look, if_true, Act.put] at h5
    have hlt : t0 < a.tmps.size := by rw [hs.sz]; exact hd t0 hdst
    simpa [hlt] using h5

/-- One operation of a drawn region, at its place. -/
theorem opX_sound {hn : Hints} {mu : Bool} {m : Mk} {cal : Cal} {rd : Option Nat} (hc : CalOK P cal) {F : Fr} {a : Act} (hs : Sim w g F H a N) {ops : Array Oper} {o : Oper} (hd : ∀ t, o.dst = some t → t < N.n) {n0 k fl : Nat}
    {r : (D × Hp) ⊕ (PD × Hp)} (h : runVF P hn mu m cal ops n0 k fl F H o = some r) (K : Act → World → Prop) (Q : Exit → Act → World → Prop)
    (hK : After w g H N (fun e a w => match e with | .normal => K a w | e => Q e a w) (roOf o.dst F r)) :
    if Region.wanted o (yielded ops a.tmps) then o.wpIn (FR rd) 0 P a w K Q else (∀ f, o.about P w a.eval = some f → (FR rd).fn f) ∧ K (a.put o.dst undef) w := by
  have hx : runX P hn mu m cal ops n0 fl F H o = some r := by
    rcases r with ⟨d, H1⟩ | x
    · exact (gate_inl.1 h).1
    · exact (gate_inr.1 h).1
  have plain : runV P hn mu m cal ops F H o = some r → (if Region.wanted o (yielded ops a.tmps) then o.wpIn (FR rd) 0 P a w K Q else (∀ f, o.about P w a.eval = some f → (FR rd).fn f) ∧ K (a.put o.dst undef) w) :=
    fun hv => op_sound hc hs hd (runV_runOp hv) K Q hK
  unfold runX at hx
  split at hx
  case isFalse =>
    split at hx
    case isFalse => exact plain hx
    exact mask_sound hc hs hd hx K Q hK
  split at hx
  case h_2 => exact plain hx
  rename_i t ht
  split at hx
  case h_3 => cases hx
  case h_2 =>
    rename_i hw
    refine plain ?_
    unfold runV
    rw [hw]
    exact hx
  rename_i hw
  unfold slotD at hx
  split at hx
  case h_2 => cases hx
  rename_i z hz hh
  split at hx
  case isFalse => cases hx
  rename_i hall
  injection hx with hx
  subst hx
  have hop : runOp P hn mu m cal ops F H o = some (.go (putF o.dst (.ptr H.B.length 0) F) ⟨H.B ++ [.cells (cellsD (constD z))], H.A⟩) := by
    have hex : exec P hn mu m F H o = some (.val (.ptr H.B.length 0) ⟨H.B ++ [.cells (cellsD (constD z))], H.A⟩) := by
      obtain ⟨dst, op, type, pos, after, guard⟩ := o
      simp only at ht
      subst ht
      simp only [exec, hz, if_pos hall]
    unfold runOp
    rw [hw]
    simp only [hex, fin]
  refine op_sound hc hs hd hop K Q fun a' w' g' hs' he' => ?_
  obtain ⟨g2, h2, he2⟩ := reslot hs hs' he' hh (const_no z)
  exact hK a' w' g2 h2 he2

theorem any_sound {hn : Hints} {mu : Bool} {m : Mk} {cal : Cal} {rd : Option Nat} {n0 kk : Nat} (hc : CalOK P cal) {ops : Array Oper} {Q : Exit → Act → World → Prop} {fl : List Nat} (hok : okDraw ops fl = true)
    (hd : ∀ o ∈ ops, ∀ t, o.dst = some t → t < N.n) : ∀ (n : Nat) (rest : List Nat) (listed : Array Bool) (w : World) (g : Gh) (F : Fr) (H : Hp) (a : Act) (ro : RO),
    rest.length = n → rest.Pairwise (· < ·) → (∀ i, i ∈ rest ↔ listed.getD i true = false) → listed.size = ops.size → Dn ops listed →
    Sim w g F H a N → evalL P hn mu m cal ops n0 kk (fun i => fl.getD i 0) rest F H = some ro → After w g H N Q ro → wpAnyIn (FR rd) 0 P .any ops Q n listed a w := by
  intro n
  induction n with
  | zero =>
    intro rest listed w g F H a ro hl _ hm _ _ hs h hQ
    have : rest = [] := List.eq_nil_of_length_eq_zero hl
    subst this
    simp only [evalL, Option.some.injEq] at h
    subst h
    refine ⟨?_, hQ a w g hs (Ext.refl _ _ _)⟩
    cases hr : Region.ready .any ops listed with
    | nil => rfl
    | cons j r =>
      have hj : j ∈ Region.ready .any ops listed := by rw [hr]; simp
      have := (hm j).2 (mem_ready.1 hj).1
      simp at this
  | succ n ih =>
    intro rest listed w g F H a ro hl hp hm hsz hdn hs h hQ
    refine ⟨fun hr => ?_, fun j hj => ?_⟩
    · exfalso
      cases rest with
      | nil => simp at hl
      | cons i r =>
        have hi := (hm i).1 (by simp)
        have hlt : i < ops.size := by
          rw [← hsz]
          rcases Nat.lt_or_ge i listed.size with h' | h'
          · exact h'
          · simp [Array.getElem?_eq_none h'] at hi
        have hin : i ∈ Region.ready .any ops listed := by
          refine mem_ready.2 ⟨hi, ops[i], Array.getElem?_eq_getElem hlt, fun e he hb => ?_⟩
          have hon := (okDraw_spec hok (Array.getElem?_eq_getElem hlt)).1 e he hb
          cases hx : listed.getD e.on true with
          | true =>
            have : e.on < listed.size := by omega
            simp [this] at hx ⊢
            exact hx
          | false =>
            have hmem := (hm e.on).2 hx
            rcases List.mem_cons.1 hmem with h2 | h2
            · omega
            · have := List.rel_of_pairwise_cons hp h2
              omega
        rw [hr] at hin
        cases hin
    · obtain ⟨hjl, oj, hoj, hdeps⟩ := mem_ready.1 hj
      obtain ⟨pre, post, hrest⟩ := List.append_of_mem ((hm j).2 hjl)
      subst hrest
      have hpp := List.pairwise_append.1 hp
      have hpost : ∀ i ∈ post, j < i := fun i hi => List.rel_of_pairwise_cons hpp.2.1 hi
      have hpre : ∀ i ∈ pre, i < j := fun i hi => hpp.2.2 i hi j (by simp)
      have hdj : Deps ops listed j := fun o ho e he hb => by
        rw [hoj] at ho; injection ho with ho; subst ho; exact hdeps e he hb
      have hcomp : ∀ i ∈ pre, ∀ oi, ops[i]? = some oi → okPair (fl.getD i 0) (fl.getD j 0) = true ∧ oi.apart ops oj = true := by
        intro i hi
        refine ((okDraw_spec hok hoj).2 i (hpre i hi)).resolve_left fun hb => ?_
        have h1 := hb listed hdn hdj
        have h2 := (hm i).1 (by simp [hi])
        have : i < listed.size := by
          rcases Nat.lt_or_ge i listed.size with h' | h'
          · exact h'
          · simp [Array.getElem?_eq_none h'] at h1
        simp [this] at h1 h2
        rw [h1] at h2
        cases h2
      have hjs : j < listed.size := by
        rw [hsz]; exact (Array.getElem?_eq_some_iff.1 hoj).1
      unfold wpOpIn
      simp only [hoj]
      rcases front hoj pre post F H ro hcomp h with ⟨d, H1, ro', h1, h2, h3⟩ | ⟨x, H1, h1, rfl⟩
      · refine opX_sound hc hs (hd oj (Array.mem_of_getElem? hoj)) h1 _ Q fun a' w' g' hs' he' => ?_
        refine ih (pre ++ post) (listed.setIfInBounds j true) w' g' _ H1 a' ro' (by simp at hl ⊢; omega) ?_ (fun i => ?_) (by simpa using hsz) ?_ hs' h2 ((hQ.eq h3).ext he')
        · exact hp.sublist (by simp)
        · by_cases hij : i = j
          · subst hij
            constructor
            · intro hi
              rcases List.mem_append.1 hi with h' | h'
              · exact absurd (hpre i h') (Nat.lt_irrefl i)
              · exact absurd (hpost i h') (Nat.lt_irrefl i)
            · intro hi
              simp [hjs] at hi
          · rw [getD_set_ne true (Ne.symm hij), ← hm i]
            simp [hij]
        · intro k hk o ho e he hb
          by_cases hkj : k = j
          · subst hkj
            exact getD_set_true (hdj o ho e he hb)
          · rw [getD_set_ne false (Ne.symm hkj)] at hk
            exact getD_set_true (hdn k hk o ho e he hb)
      · exact opX_sound hc hs (hd oj (Array.mem_of_getElem? hoj)) h1 _ Q fun a' w' g' v hi he hr hdf => hQ a' w' g' v hi he hr hdf

theorem ext_drawn (w : World) (g : Gh) (A : List Arr) (n : Nat) (hn : w.drawn ≤ n) : Ext w g A { w with drawn := n } g A :=
  ⟨fun _ _ h => h, ⟨fun _ _ h => h, fun _ _ _ => rfl⟩, Nat.le_refl _, fun i ar' _ h => ⟨ar', h, Nat.le_refl _, rfl, fun _ => ⟨rfl, rfl⟩⟩, fun _ _ _ => rfl,
    Nat.le_refl _, fun _ _ h => h, rfl, rfl, ⟨rfl, hn⟩, fun _ _ h _ _ => h⟩

theorem RepP.drawn {w : World} {I : Nat → Nat → Prop} {x : PD} {v : Value} (n : Nat) (h : RepP w I x v) : RepP { w with drawn := n } I x v :=
  RepP.same (w := w) (w' := { w with drawn := n }) (I := I) (I' := I) ⟨fun _ _ h => h, fun _ _ _ => rfl⟩ h

theorem inv_drawn {w : World} {g : Gh} {H : Hp} (n : Nat) (hn : w.drawn ≤ n) (h : Inv w g H) : Inv { w with drawn := n } g H where
  lenB := h.lenB
  lenA := h.lenA
  blk i bk b h1 h2 := by
    have := h.blk i bk b h1 h2
    cases bk with
    | hole => trivial
    | cells l =>
      obtain ⟨cs, t, e1, e2, e3⟩ := this
      exact ⟨cs, t, e1, e2, fun j d v k1 k2 => (e3 j d v k1 k2).ext (ext_drawn w g H.A n hn)⟩
    | sit s pos => exact this
    | mset l =>
      obtain ⟨es, clock, h1, h2, h3⟩ := this
      exact ⟨es, clock, h1, h2, fun j k x e hk hx => let ⟨r1, r2⟩ := h3 j k x e hk hx; ⟨r1.drawn n, r2.drawn n⟩⟩
    | lp st pend f F ps assign body =>
      obtain ⟨r, h1, h2, h3, h4, h5, h6, h7, h8⟩ := this
      exact ⟨r, h1, h2, h3, h4, h5, h6, h7, fun t => (h8 t).ext (ext_drawn w g H.A n hn)⟩
  arr i ar q h1 h2 := by
    obtain ⟨h0, h3⟩ := h.arr i ar q h1 h2
    refine ⟨h0, ?_⟩
    cases q with
    | none => exact h3
    | some bc =>
      obtain ⟨b, cap⟩ := bc
      obtain ⟨e1, e2, cs, e3, e4, e5, e6, e7, e8⟩ := h3
      exact ⟨e1, e2, cs, e3, e4, e5, e6, fun j c e x k1 k2 => let ⟨v, hv, hr⟩ := e7 j c e x k1 k2; ⟨v, hv, hr.drawn n⟩, e8⟩
  nB := h.nB
  nBA := h.nBA
  nA := h.nA
  lt := h.lt
  iB := h.iB
  iA := h.iA
  iLt := h.iLt
  tab := h.tab.ext (ext_drawn w g H.A n hn)
  hole := h.hole

/-- Places are kept: nothing is known of them. -/
theorem Sim.kept {F : Fr} {a : Act} (hs : Sim w g F H a N) (k : Nat) : ∃ g1, Sim w g1 F (H.kept k) a N ∧ Ext w g H.A w g1 (H.kept k).A := by
  let g1 : Gh := ⟨g.B ++ List.replicate k none, g.A, g.I⟩
  have lB := hs.inv.lenB
  have old : ∀ (i b : Nat), g1.B[i]? = some (some b) → g.B[i]? = some (some b) := by
    intro i b h
    change (g.B ++ List.replicate k none)[i]? = _ at h
    rcases Nat.lt_or_ge i g.B.length with hlt | hge
    · rwa [List.getElem?_append_left hlt] at h
    · rw [List.getElem?_append_right hge, List.getElem?_replicate] at h
      split at h <;> cases h
  have sub : ∀ b, some b ∈ g1.B → some b ∈ g.B := fun b h => by
    obtain ⟨i, hi⟩ := List.mem_iff_getElem?.1 h
    exact List.mem_of_getElem? (old i b hi)
  have subo : ∀ b, b ∈ g1.owned → b ∈ g.owned := by
    intro b h
    rw [owned_iff] at h ⊢
    rcases h with ⟨i, h⟩ | h
    · exact .inl ⟨i, old i b h⟩
    · exact .inr h
  have he : Ext w g H.A w g1 H.A :=
    { ptr := fun i b h => by
        show (g.B ++ List.replicate k none)[i]? = _
        rw [List.getElem?_append_left (List.getElem?_eq_some_iff.1 h).1]; exact h
      same := ⟨fun _ _ h => h, fun _ _ _ => rfl⟩, lenA := Nat.le_refl _, row := fun i ar' _ h => ⟨ar', h, Nat.le_refl _, rfl, fun _ => ⟨rfl, rfl⟩⟩, heap := fun _ _ _ => rfl, size := Nat.le_refl _
      owned := fun b _ ho h => ho (subo b h), os := rfl, tape := rfl, output := .same rfl rfl, news := fun _ _ h _ _ => h }
  refine ⟨g1, ⟨fun t => (hs.fr t).ext he, ?_, hs.sz, hs.df.ext he⟩, he⟩
  exact
    { lenB := by show (g.B ++ List.replicate k none).length = (H.B ++ List.replicate k Blk.hole).length; simp [lB]
      lenA := hs.inv.lenA
      blk := fun i bk b h1 h2 => by
        have h3 := old i b h2
        have hlt : i < H.B.length := by rw [← lB]; exact (List.getElem?_eq_some_iff.1 h3).1
        change (H.B ++ List.replicate k Blk.hole)[i]? = _ at h1
        rw [List.getElem?_append_left hlt] at h1
        exact (hs.inv.blk i bk b h1 h3).ext he rfl
      arr := hs.inv.arr
      nB := fun i j b h1 h2 => hs.inv.nB i j b (old i b h1) (old j b h2)
      nBA := fun i j b cap h1 => hs.inv.nBA i j b cap (old i b h1)
      nA := hs.inv.nA
      lt := fun b h => hs.inv.lt b (subo b h)
      iB := fun b o h h2 => hs.inv.iB b o h (sub b h2)
      iA := hs.inv.iA
      iLt := hs.inv.iLt
      tab := hs.inv.tab.ext he
      hole := fun i => by
        show (H.B ++ List.replicate k Blk.hole)[i]? = _ ↔ (g.B ++ List.replicate k none)[i]? = _
        rcases Nat.lt_or_ge i H.B.length with hlt | hge
        · rw [List.getElem?_append_left hlt, List.getElem?_append_left (by omega)]
          exact hs.inv.hole i
        · rw [List.getElem?_append_right hge, List.getElem?_append_right (by omega), List.getElem?_replicate, List.getElem?_replicate, lB]
          split <;> simp }

theorem draw_sound {hn : Hints} {mu : Bool} {m : Mk} {cal : Cal} {rd : Option Nat} (hc : CalOK P cal) (hmix : P.follows .mixedOrders = true) {id : Nat} {ops : Array Oper} {Q : Exit → Act → World → Prop}
    {fl : List Nat} (hok : okDraw ops fl = true) (hd : ∀ o ∈ ops, ∀ t, o.dst = some t → t < N.n) {F : Fr} {a : Act} {ro : RO}
    (hs : Sim w g F H a N) (h : drawR P hn mu m cal ops fl F H = some ro) (hQ : After w g H N Q ro) : (Code.region id ops true).wpIn (FR rd) 0 P Q a w := by
  refine wpIn_region_any hmix ?_
  have he := ext_drawn w g H.A (w.drawn + 1) (Nat.le_succ _)
  have hs' : Sim { w with drawn := w.drawn + 1 } g F H a N := sim_ext hs he (inv_drawn _ (Nat.le_succ _) hs.inv)
  unfold drawR at h
  rw [runDraw_evalL (fun i => fl.getD i 0) ops.toList fl 0 F _ (by simp) (by simp)] at h
  obtain ⟨g1, hs1, he1⟩ := hs'.kept (slotsOf fl)
  refine any_sound hc hok hd ops.size (List.range' 0 ops.toList.length) _ _ g1 F (H.kept (slotsOf fl)) a ro (by simp) (List.pairwise_lt_range' ..) (fun i => ?_) (by simp) ?_ hs1 h ((hQ.ext he).ext he1)
  · rw [List.mem_range'_1]
    constructor
    · intro hi
      have : i < ops.size := by simpa using hi.2
      simp [this]
    · intro hi
      rcases Nat.lt_or_ge i ops.size with h' | h'
      · simpa using h'
      · simp [Array.getElem?_eq_none, h'] at hi
  · intro k hk
    exfalso
    rcases Nat.lt_or_ge k ops.size with h' | h'
    · simp [h'] at hk
    · simp [Array.getElem?_eq_none, h'] at hk
end
end Go.Vi
end

section
/- Vi, part 18: who leads where. No conditions. -/
namespace Go.Vi
open Go Go.Lib

theorem noRefs_mem {nB nA : Nat} : ∀ {l : List D}, D.noRefs nB nA l = true → ∀ d ∈ l, D.noRef nB nA d = true
  | [], _, d, h => by cases h
  | e :: r, h, d, hd => by
    simp only [D.noRefs, Bool.and_eq_true] at h
    rcases List.mem_cons.1 hd with rfl | hd
    · exact h.1
    · exact noRefs_mem h.2 d hd
theorem noRefs_of {nB nA : Nat} : ∀ {l : List D}, (∀ d ∈ l, D.noRef nB nA d = true) → D.noRefs nB nA l = true
  | [], _ => rfl
  | e :: r, h => by
    simp only [D.noRefs, Bool.and_eq_true]
    exact ⟨h e (by simp), noRefs_of fun d hd => h d (by simp [hd])⟩

theorem argsD_len {own : Bool} : ∀ {l xs : List D} {A A1 : List Arr}, argsD own A l = some (xs, A1) → A1.length = A.length := by
  have one : ∀ {d x : D} {A A1 : List Arr}, argD own A d = some (x, A1) → A1.length = A.length := by
    intro d x A A1 h
    unfold argD at h
    split at h
    · split at h
      · split at h
        · simp only [Option.some.injEq, Prod.mk.injEq] at h; rw [← h.2]
        · simp only [Option.some.injEq, Prod.mk.injEq] at h
          rw [← h.2]
          split <;> simp
      · cases h
    · simp only [Option.some.injEq, Prod.mk.injEq] at h; rw [← h.2]
  intro l
  induction l with
  | nil =>
    intro xs A A1 h
    simp only [argsD, Option.some.injEq, Prod.mk.injEq] at h
    rw [← h.2]
  | cons d r ih =>
    intro xs A A1 h
    simp only [argsD] at h
    split at h
    · rename_i x A2 hx
      split at h
      · rename_i ys A3 hy
        simp only [Option.some.injEq, Prod.mk.injEq] at h
        rw [← h.2, ih hy, one hx]
      · cases h
    · cases h
end Go.Vi
end

section
/- Vi, part 19: code: what it does, and that it is so. No conditions. -/
namespace Go.Vi
open Go Go.Lib

/-- What is kept behind a region; at a loop's head; how a drawn region's operations lie; which calls are looked at alone. -/
structure CH where
  keep : FuncId → Nat → List Tmp
  head : FuncId → Nat → List Tmp
  fl : FuncId → Nat → List Nat
  pure : FuncId → Bool
  /-- functions that only look at rows handed to them, and answer with what leads nowhere -/
  lend : FuncId → Bool
  /-- functions whose new rows are handed over as they are -/
  opn : FuncId → Bool
  /-- functions of whose results it is told whether they are nil -/
  keepN : FuncId → Bool

inductive Ex where
  | normal
  | exit (id : Nat)
  | ret
  | pan (x : PD)

abbrev CO := Ex × Fr × Hp

def firstR : Code → Nat
  | .region id _ _ => id
  | .seq a _ => firstR a
  | .cond _ a _ => firstR a
  | .block _ c => firstR c
  | .loop c => firstR c
  | .scope c => firstR c
  | _ => 0

def frNo (nB nA : Nat) (F : Fr) : Bool := F.all fun p => D.noRef nB nA p.2

def blkNo (nB nA : Nat) : Blk → Bool
  | .hole => true
  | .cells l => D.noRefs nB nA l
  | .sit _ _ => true
  | .mset _ => true
  | .lp _ _ _ F _ _ _ => frNo nB nA F

def Hp.cut (H : Hp) (nB nA : Nat) : Hp := ⟨H.B.take nB, H.A.take nA⟩

/-- At a loop's head only what was there at its start is left, if nothing leads to the rest. -/
def cutD (m : Mk) (keep : List Tmp) (nB nA : Nat) (F : Fr) (H : Hp) : Option (Fr × Hp) :=
  if frNo nB nA (norm keep F) = true ∧ (H.B.take nB).all (blkNo nB nA) = true then some (norm keep F, H.cut nB nA) else some (norm keep F, H)

def loopN (body : Fr → Hp → Option CO) (cut : Fr → Hp → Option (Fr × Hp)) : Nat → Fr → Hp → Option CO
  | 0, _, _ => none
  | n + 1, F, H =>
    match cut F H with
    | none => none
    | some (F0, H0) =>
      match body F0 H0 with
      | some (.normal, F1, H1) => loopN body cut n F1 H1
      | r => r

open Classical in
noncomputable def loopW (body : Fr → Hp → Option CO) (cut : Fr → Hp → Option (Fr × Hp)) (F : Fr) (H : Hp) : Option CO :=
  if h : ∃ r, ∃ n, loopN body cut n F H = some r then some h.choose else none

theorem loopN_succ {body : Fr → Hp → Option CO} {cut : Fr → Hp → Option (Fr × Hp)} : ∀ {n : Nat} {F : Fr} {H : Hp} {r : CO}, loopN body cut n F H = some r → loopN body cut (n + 1) F H = some r := by
  intro n
  induction n with
  | zero => intro F H r h; cases h
  | succ n ih =>
    intro F H r h
    rw [loopN] at h ⊢
    split at h
    · cases h
    · rename_i F0 H0 hc
      split at h
      · rename_i F1 H1 hb
        exact ih h
      · exact h

theorem loopN_le {body : Fr → Hp → Option CO} {cut : Fr → Hp → Option (Fr × Hp)} {n k : Nat} (hk : n ≤ k) {F : Fr} {H : Hp} {r : CO} (h : loopN body cut n F H = some r) : loopN body cut k F H = some r := by
  induction hk with
  | refl => exact h
  | step _ ih => exact loopN_succ ih

theorem loopW_iff {body : Fr → Hp → Option CO} {cut : Fr → Hp → Option (Fr × Hp)} {F : Fr} {H : Hp} {r : CO} : loopW body cut F H = some r ↔ ∃ n, loopN body cut n F H = some r := by
  unfold loopW
  constructor
  · intro h
    split at h
    · rename_i hx
      injection h with h
      rw [← h]
      exact hx.choose_spec
    · cases h
  · rintro ⟨n, hn⟩
    have hx : ∃ r, ∃ n, loopN body cut n F H = some r := ⟨r, n, hn⟩
    rw [dif_pos hx]
    obtain ⟨k, hk⟩ := hx.choose_spec
    have h1 := loopN_le (Nat.le_max_left n k) hn
    have h2 := loopN_le (Nat.le_max_right n k) hk
    rw [h1] at h2
    exact h2.symm

theorem loopW_eq (body : Fr → Hp → Option CO) (cut : Fr → Hp → Option (Fr × Hp)) (F : Fr) (H : Hp) : loopW body cut F H =
    match cut F H with
    | none => none
    | some (F0, H0) =>
      match body F0 H0 with
      | some (.normal, F1, H1) => loopW body cut F1 H1
      | r => r := by
  apply Option.ext
  intro r
  rw [loopW_iff]
  constructor
  · rintro ⟨n, hn⟩
    cases n with
    | zero => cases hn
    | succ n =>
      rw [loopN] at hn
      split at hn
      · cases hn
      · split at hn
        · exact loopW_iff.2 ⟨n, hn⟩
        · exact hn
  · intro h
    split at h
    · cases h
    · rename_i F0 H0 hc
      split at h
      · rename_i F1 H1 hb
        obtain ⟨n, hn⟩ := loopW_iff.1 h
        exact ⟨n + 1, by rw [loopN, hc]; simp only [hb]; exact hn⟩
      · rename_i r' hb
        refine ⟨1, ?_⟩
        rw [loopN, hc]
        obtain ⟨e, F1, H1⟩ := r
        simp only [h]
        cases e with
        | normal => exact absurd h (hb F1 H1)
        | _ => rfl

/-- Within a round of the loop whose number is one less; 0: not within a round. -/
def okRi (m : Mk) (H : Hp) : Bool :=
  match m.mB with
  | 0 => true
  | i + 1 =>
    match H.B[i]? with
    | some (.lp _ _ _ _ _ _ _) => true
    | _ => false

/-- How the activation goes on behind a loop over a function. -/
def jumpD (F : Fr) (H : Hp) : Option Code → Option CO
  | none => some (.normal, F, H)
  | some .ret => some (.ret, F, H)
  | some (.exit id) => some (.exit id, F, H)
  | some _ => none

/-- The loop's record behind it. -/
def endLp (F : Fr) (i : Nat) (H : Hp) : Option CO :=
  match H.B[i]? with
  | some (.lp .busy _ _ _ _ _ _) => none
  | some (.lp _ pend f F0 ps assign body) => jumpD F { H with B := H.B.set i (.lp .exhausted pend f F0 ps assign body) } pend
  | _ => none

def rangeD (m : Mk) (cal : Cal) (f : FuncId) (g : Operand) (ps : Array Tmp) (assign body : Code) (F : Fr) (H : Hp) : Option CO :=
  match capsOf (opd F g) with
  | some (gf, caps) =>
    if gf < 1000000000 ∧ okRi m H = true then
      match argsD false H.A (.yld H.B.length :: caps) with
      | some (xs, A1) =>
        match cal gf xs ⟨H.B ++ [.lp .ready none f F ps assign body], A1⟩ with
        | some (.ret _, H1) => endLp F H.B.length H1
        | some (.pan x, H1) => some (.pan x, [], H1)
        | none => none
      | none => none
    else none
  | none => none

noncomputable def evalC (P : Program) (hi : Hints) (ch : CH) (mu : Bool) (m : Mk) (cal : Cal) (f : FuncId) : Code → Fr → Hp → Option CO
  | .skip, F, H => some (.normal, F, H)
  | .label _, F, H => some (.normal, F, H)
  | .region id ops draw, F, H =>
    match (if draw = true then drawR P hi mu m cal ops (ch.fl f id) F H else runOps P hi mu m cal ops ops.toList F H) with
    | some (.go F1 H1) => some (.normal, norm (ch.keep f id) F1, H1)
    | some (.pan x H1) => some (.pan x, [], H1)
    | none => none
  | .seq a b, F, H =>
    match evalC P hi ch mu m cal f a F H with
    | some (.normal, F1, H1) => evalC P hi ch mu m cal f b F1 H1
    | r => r
  | .cond c a b, F, H =>
    match opd F c with
    | .p (.bool t) => if t = true then evalC P hi ch mu m cal f a F H else evalC P hi ch mu m cal f b F H
    | _ => none
  | .block id c, F, H =>
    match evalC P hi ch mu m cal f c F H with
    | some (.exit i, F1, H1) => if i = id then some (.normal, F1, H1) else some (.exit i, F1, H1)
    | r => r
  | .loop c, F, H => loopW (evalC P hi ch mu m cal f c) (cutD m (ch.head f (firstR c)) H.B.length H.A.length) F H
  | .scope c, F, H => evalC P hi ch mu m cal f c F H
  | .exit id, F, H => some (.exit id, F, H)
  | .ret, F, H => some (.ret, F, H)
  | .rangeFunc g ps assign body, F, H => rangeD m cal f g ps assign body F H
  | _, _, _ => none

/-- What of code can be looked at beforehand. -/
def okC (ch : CH) (f : FuncId) (N : Nat) : Code → Bool
  | .region id ops draw => ops.all (fun o => match o.dst with | some t => decide (t < N) | none => true) && (!draw || okDraw ops (ch.fl f id))
  | .seq a b => okC ch f N a && okC ch f N b
  | .cond _ a b => okC ch f N a && okC ch f N b
  | .block _ c => okC ch f N c
  | .loop c => okC ch f N c
  | .scope c => okC ch f N c
  | .rangeFunc _ ps a b => ps.all (fun t => decide (t < N)) && okC ch f N a && okC ch f N b
  | _ => true

/-- The drawn regions alone. -/
def okD (ch : CH) (f : FuncId) : Code → Bool
  | .region id ops draw => !draw || okDraw ops (ch.fl f id)
  | .seq a b => okD ch f a && okD ch f b
  | .cond _ a b => okD ch f a && okD ch f b
  | .block _ c => okD ch f c
  | .loop c => okD ch f c
  | .scope c => okD ch f c
  | .rangeFunc _ _ a b => okD ch f a && okD ch f b
  | _ => true

/-- No loop over a function. -/
def noRF : Code → Bool
  | .seq a b => noRF a && noRF b
  | .cond _ a b => noRF a && noRF b
  | .block _ c => noRF c
  | .loop c => noRF c
  | .scope c => noRF c
  | .rangeFunc _ _ _ _ => false
  | _ => true

theorem okN_of {ch : CH} {f : FuncId} {N : Nat} : ∀ c : Code, okC ch f N c = true → okN N c = true := by
  intro c
  induction c with
  | region id ops draw => intro h; simp only [okC, Bool.and_eq_true] at h; exact h.1
  | _ => simp_all [okC, okN]
theorem okC_of {ch : CH} {f : FuncId} {N : Nat} : ∀ c : Code, okN N c = true → okD ch f c = true → okC ch f N c = true := by
  intro c
  induction c with
  | region id ops draw => intro h k; simp only [okC, Bool.and_eq_true]; exact ⟨h, k⟩
  | _ => simp_all [okC, okN, okD]

/-! ### What leads nowhere -/
mutual
theorem noRef_mono {nB nA nB' nA' : Nat} (hB : nB ≤ nB') (hA : nA ≤ nA') : ∀ (d : D), D.noRef nB nA d = true → D.noRef nB' nA' d = true
  | .ptr i _, h => by simp only [D.noRef, decide_eq_true_eq] at *; omega
  | .own i _, h => by simp only [D.noRef, decide_eq_true_eq] at *; omega
  | .oelt i _ _ _, h => by simp only [D.noRef, decide_eq_true_eq] at *; omega
  | .agg l, h => by simp only [D.noRef] at *; exact noRefs_mono hB hA l h
  | .fn _ l, h => by simp only [D.noRef] at *; exact noRefs_mono hB hA l h
  | .bnd _ l, h => by simp only [D.noRef] at *; exact noRefs_mono hB hA l h
  | .ifc _ x, h => by simp only [D.noRef] at *; exact noRef_mono hB hA x h
  | .tup l, h => by simp only [D.noRef] at *; exact noRefs_mono hB hA l h
  | .p _, _ => rfl
  | .lit _ _, _ => rfl
  | .elt _, _ => rfl
  | .yld i, h => by simp only [D.noRef, decide_eq_true_eq] at *; omega
  | .mp i, h => by simp only [D.noRef, decide_eq_true_eq] at *; omega
  | .bsl i _ _ _, h => by simp only [D.noRef, decide_eq_true_eq] at *; omega
  | .dead, _ => rfl
  | .emp, _ => rfl
  | .clip _, _ => rfl
theorem noRefs_mono {nB nA nB' nA' : Nat} (hB : nB ≤ nB') (hA : nA ≤ nA') : ∀ (l : List D), D.noRefs nB nA l = true → D.noRefs nB' nA' l = true
  | [], _ => rfl
  | d :: r, h => by
    simp only [D.noRefs, Bool.and_eq_true] at *
    exact ⟨noRef_mono hB hA d h.1, noRefs_mono hB hA r h.2⟩
end

theorem look_no {nB nA : Nat} : ∀ {F : Fr}, frNo nB nA F = true → ∀ t, D.noRef nB nA (look F t) = true
  | [], _, _ => rfl
  | (u, d) :: r, h, t => by
    simp only [frNo, List.all_cons, Bool.and_eq_true] at h
    simp only [look]
    split
    · exact h.1
    · exact look_no (F := r) h.2 t

section
variable {P : Program} {w : World} {g : Gh} {F : Fr} {H : Hp} {a : Act} {N : Fm}

theorem inv_cut (hi : Inv w g H) {nB nA : Nat} (hA : nA ≤ H.A.length) (hb : ∀ i, i < nB → ∀ bk, H.B[i]? = some bk → blkNo nB nA bk = true) : Inv w (g.cut nB nA) (H.cut nB nA) where
  lenB := by simp [Gh.cut, Hp.cut, hi.lenB]
  lenA := by simp [Gh.cut, Hp.cut, hi.lenA]
  blk i bk b h1 h2 := by
    simp only [Hp.cut, Gh.cut, List.getElem?_take] at h1 h2
    split at h1
    · rename_i hlt
      rw [if_pos hlt] at h2
      have := hi.blk i bk b h1 h2
      cases bk with
      | hole => trivial
      | cells l =>
        obtain ⟨cs, t, e1, e2, e3⟩ := this
        exact ⟨cs, t, e1, e2, RepD.cuts hA l (hb i hlt _ h1) e3⟩
      | sit s pos => exact this
      | mset l => exact this
      | lp st pend f F ps assign body =>
        obtain ⟨r, k1, k2, k3, k4, k5, k6, k7, k8⟩ := this
        exact ⟨r, k1, k2, k3, k4, k5, k6, k7, fun t => RepD.cut hA _ _ (k8 t) (look_no (hb i hlt _ h1) t)⟩
    · cases h1
  arr i ar q h1 h2 := by
    simp only [Hp.cut, Gh.cut, List.getElem?_take] at h1 h2
    split at h1
    · rename_i hlt
      rw [if_pos hlt] at h2
      exact hi.arr i ar q h1 h2
    · cases h1
  nB i j b h1 h2 := by
    simp only [Gh.cut, List.getElem?_take] at h1 h2
    split at h1
    · split at h2
      · exact hi.nB i j b h1 h2
      · cases h2
    · cases h1
  nBA i j b cap h1 h2 := by
    simp only [Gh.cut, List.getElem?_take] at h1 h2
    split at h1
    · split at h2
      · exact hi.nBA i j b cap h1 h2
      · cases h2
    · cases h1
  nA i j b c c' h1 h2 := by
    simp only [Gh.cut, List.getElem?_take] at h1 h2
    split at h1
    · split at h2
      · exact hi.nA i j b c c' h1 h2
      · cases h2
    · cases h1
  lt b hb' := by
    apply hi.lt
    simp only [Gh.owned, Gh.cut, List.mem_append, List.mem_filterMap] at hb' ⊢
    rcases hb' with ⟨q, hq, h⟩ | ⟨q, hq, h⟩
    · exact .inl ⟨q, List.mem_of_mem_take hq, h⟩
    · exact .inr ⟨q, List.mem_of_mem_take hq, h⟩
  iB b o h hm := hi.iB b o h (List.mem_of_mem_take hm)
  iA b o h i cap ar h1 h2 := by
    simp only [Hp.cut, Gh.cut, List.getElem?_take] at h1 h2
    split at h1
    · rename_i hlt
      rw [if_pos hlt] at h2
      exact hi.iA b o h i cap ar h1 h2
    · cases h1
  iLt := hi.iLt
  tab := hi.tab.of (fun _ _ _ => rfl) (fun b _ h hb' => h (by
    simp only [Gh.owned, Gh.cut, List.mem_append, List.mem_filterMap] at hb' ⊢
    rcases hb' with ⟨q, hq, h⟩ | ⟨q, hq, h⟩
    · exact .inl ⟨q, List.mem_of_mem_take hq, h⟩
    · exact .inr ⟨q, List.mem_of_mem_take hq, h⟩)) ⟨fun _ _ h => h, fun _ _ _ => rfl⟩
  hole i := by
    simp only [Hp.cut, Gh.cut, List.getElem?_take]
    split
    · exact hi.hole i
    · simp

theorem ext_cut {w1 : World} {g1 : Gh} {A A1 : List Arr} (h : Ext w g A w1 g1 A1) {nB nA : Nat} (hB : g.B.length ≤ nB) (hA : A.length ≤ nA) : Ext w g A w1 (g1.cut nB nA) (A1.take nA) where
  ptr i b hb := by
    have : i < nB := Nat.lt_of_lt_of_le (List.getElem?_eq_some_iff.1 hb).1 hB
    simp only [Gh.cut, List.getElem?_take, this, if_true]
    exact h.ptr i b hb
  same := h.same
  lenA := by have := h.lenA; simp; omega
  row i ar' hi h2 := by
    have hlt : i < nA := Nat.lt_of_lt_of_le hi hA
    rw [List.getElem?_take, if_pos hlt] at h2
    obtain ⟨ar, h0, v0, s0, e0⟩ := h.row i ar' hi h2
    refine ⟨ar, h0, v0, s0, fun hv => ?_⟩
    simp only [Gh.cut, List.getElem?_take, hlt, if_true]
    exact e0 hv
  heap := h.heap
  size := h.size
  owned b hb ho hm := by
    apply h.owned b hb ho
    simp only [Gh.owned, Gh.cut, List.mem_append, List.mem_filterMap] at hm ⊢
    rcases hm with ⟨q, hq, h⟩ | ⟨q, hq, h⟩
    · exact .inl ⟨q, List.mem_of_mem_take hq, h⟩
    · exact .inr ⟨q, List.mem_of_mem_take hq, h⟩
  os := h.os
  tape := h.tape
  output := h.output
  news := h.news

theorem look_norm : ∀ (keep : List Tmp) (F : Fr) (t : Tmp), look (norm keep F) t = look F t ∨ look (norm keep F) t = .dead
  | [], F, t => .inr rfl
  | k :: r, F, t => by
    simp only [norm, List.map_cons, look]
    split
    · rename_i h; subst h; exact .inl rfl
    · exact look_norm r F t

theorem sim_norm (hs : Sim w g F H a N) (keep : List Tmp) : Sim w g (norm keep F) H a N :=
  ⟨fun t => by
    rcases look_norm keep F t with h | h
    · rw [h]; exact hs.fr t
    · rw [h]; exact .dead _, hs.inv, hs.sz, hs.df⟩

theorem owned_cut {nB nA b : Nat} (hb : b ∈ (g.cut nB nA).owned) : b ∈ g.owned := by
  simp only [Gh.owned, Gh.cut, List.mem_append, List.mem_filterMap] at hb ⊢
  rcases hb with ⟨q, hq, h⟩ | ⟨q, hq, h⟩
  · exact .inl ⟨q, List.mem_of_mem_take hq, h⟩
  · exact .inr ⟨q, List.mem_of_mem_take hq, h⟩

theorem Dfs.cut {ds : List Deferred} (h : Dfs N w g ds) (nB nA : Nat) : Dfs N w (g.cut nB nA) ds :=
  ⟨h.le, fun d hd => let ⟨b, h1, h2, h3, h4⟩ := h.mark d hd; ⟨b, h1, h2, fun hm => h3 (owned_cut hm), h4⟩, h.apart, h.non⟩

theorem all_blk {nB nA : Nat} (h : (H.B.take nB).all (blkNo nB nA) = true) : ∀ i, i < nB → ∀ bk, H.B[i]? = some bk → blkNo nB nA bk = true := fun i hi bk hb =>
  List.all_eq_true.1 h bk (List.mem_of_getElem? (i := i) (by rw [List.getElem?_take, if_pos hi]; exact hb))

theorem sim_cut (hs : Sim w g F H a N) {nB nA : Nat} (hA : nA ≤ H.A.length) (hf : frNo nB nA F = true)
    (hb : ∀ i, i < nB → ∀ bk, H.B[i]? = some bk → blkNo nB nA bk = true) : Sim w (g.cut nB nA) F (H.cut nB nA) a N :=
  ⟨fun t => RepD.cut hA _ _ (hs.fr t) (look_no hf t), inv_cut hs.inv hA hb, hs.sz, hs.df.cut nB nA⟩
end

/-! ### A scope, within a round too -/
section
variable {Fe : Fence} {nn : Nat} {P : Program} {b : Frame} {a : Act} {k : List Item} {cs : List Frame} {w : World} {Q : Exit → Act → World → Prop}
def noGotoQ (Q : Exit → Act → World → Prop) : Exit → Act → World → Prop
  | .goto _, _, _ => False
  | e, a, w => Q e a w
theorem stepR_scope {c : Code} : step P (lone (b.atR a (.code (.scope c) :: k)) cs w) = .next (lone (b.atR a (.code c :: .inScope c :: k)) cs w) :=
  step_lone_go (by simp [stepG, stepG.exec, Frame.atR])
theorem stepR_inScope {c : Code} : step P (lone (b.atR a (.inScope c :: k)) cs w) = .next (lone (b.atR a k) cs w) :=
  step_lone_go (by simp [stepG, stepG.exec, Frame.atR])
theorem wpIn_scope_straight {c : Code} (h : c.wpIn Fe nn P (noGotoQ Q) a w) : (Code.scope c).wpIn Fe nn P Q a w := by
  intro b k cs hro hb hr
  have h0 : (lone (b.atR a (.code (.scope c) :: k)) cs w).fenced P Fe := fenced_calm hb hr rfl
  obtain ⟨e, a₁, w₁, hq, harr⟩ := h b (.inScope c :: k) cs hro hb hr
  cases e with
  | normal => exact ⟨.normal, a₁, w₁, hq, .head h0 stepR_scope (StepsIn.trans harr (.one (fenced_calm hb hr rfl) stepR_inScope))⟩
  | exit id => exact ⟨.exit id, a₁, w₁, hq, fun k' hk => .head h0 stepR_scope (harr.1 k' (by simp [exitTo, hk])),
      fun hr' hk => let ⟨k₁, h1, h2⟩ := harr.2 hr' (by simp [exitTo, hk]); ⟨k₁, h1, .head h0 stepR_scope h2⟩⟩
  | goto l => exact hq.elim
  | ret => exact ⟨_, a₁, w₁, hq, .of_steps (.one h0 stepR_scope) harr⟩
  | panic ch => exact ⟨_, a₁, w₁, hq, .of_steps (.one h0 stepR_scope) harr⟩
  | outgrown => exact ⟨_, a₁, w₁, hq, .of_steps (.one h0 stepR_scope) harr⟩
end

/-! ### It is so -/
section
variable {P : Program} {hn : Hints} {ch : CH} {mu : Bool} {m : Mk} {cal : Cal} {f : FuncId} {N : Fm}

def AfterC (w : World) (g : Gh) (H : Hp) (N : Fm) (Q : Exit → Act → World → Prop) : CO → Prop
  | (.normal, F', H') => ∀ a' w' g', Sim w' g' F' H' a' N → Ext w g H.A w' g' H'.A → Q .normal a' w'
  | (.exit id, F', H') => ∀ a' w' g', Sim w' g' F' H' a' N → Ext w g H.A w' g' H'.A → Q (.exit id) a' w'
  | (.ret, F', H') => ∀ a' w' g', Sim w' g' F' H' a' N → Ext w g H.A w' g' H'.A → Q .ret a' w'
  | (.pan x, _, H') => ∀ (a' : Act) (w' : World) (g' : Gh) (v : Value), Inv w' g' H' → Ext w g H.A w' g' H'.A → RepP w' g'.I x v → Dfs N w' g' a'.defers →
      Q (.panic [{ v := v, recovered := false }]) a' w'

theorem AfterC.ext {w w1 : World} {g g1 : Gh} {H H1 : Hp} {Q : Exit → Act → World → Prop} {r : CO} (he : Ext w g H.A w1 g1 H1.A) (h : AfterC w g H N Q r) : AfterC w1 g1 H1 N Q r := by
  obtain ⟨e, F', H'⟩ := r
  cases e with
  | pan x => exact fun a' w' g' v hi he' => h a' w' g' v hi (he.trans he')
  | _ => exact fun a' w' g' hs he' => h a' w' g' hs (he.trans he')

theorem exists_min {p : Nat → Prop} (h : ∃ n, p n) : ∃ n, p n ∧ ∀ k, p k → n ≤ k := by
  obtain ⟨n, hn⟩ := h
  induction n using Nat.strongRecOn with
  | _ n ih =>
    by_cases hx : ∃ k, k < n ∧ p k
    · obtain ⟨k, hk, hp⟩ := hx
      exact ih k hk hp
    · exact ⟨n, hn, fun k hk => Nat.le_of_not_lt fun hlt => hx ⟨k, hlt, hk⟩⟩

theorem wpIn_loop_J {Fe : Fence} {nn : Nat} {c : Code} {Q : Exit → Act → World → Prop} {a : Act} {w : World} (J : Nat → Act → World → Prop) {n : Nat} (h0 : J n a w)
    (round : ∀ n a w, J n a w → c.wpIn Fe nn P (Exit.then (fun a' w' => ∃ k, k < n ∧ J k a' w') Q) a w) : (Code.loop c).wpIn Fe nn P Q a w := by
  classical
  refine wpIn_loop (fun a w => ∃ n, J n a w) (fun a w => if h : ∃ n, J n a w then (exists_min h).choose else 0) ⟨n, h0⟩ fun a w hI => ?_
  have hfind := (exists_min hI).choose_spec.1
  refine wpIn_mono (round _ a w hfind) fun e a' w' hq => ?_
  cases e with
  | normal =>
    obtain ⟨k, hk, hJ⟩ := hq
    have hI' : ∃ n, J n a' w' := ⟨k, hJ⟩
    refine ⟨hI', ?_⟩
    simp only [dif_pos hI, dif_pos hI']
    exact Nat.lt_of_le_of_lt ((exists_min hI').choose_spec.2 k hJ) hk
  | _ => exact hq

/-- The block of the loop in whose round the code runs. -/
def RdOK (m : Mk) (g : Gh) (rd : Option Nat) : Prop :=
  match m.mB, rd with
  | 0, none => True
  | i + 1, some b => g.B[i]? = some (some b)
  | _, _ => False

theorem RdOK.ext {w w' : World} {g g' : Gh} {A A' : List Arr} {rd : Option Nat} (he : Ext w g A w' g' A') (h : RdOK m g rd) : RdOK m g' rd := by
  unfold RdOK at *
  split
  · trivial
  · rename_i i b hm; rw [hm] at h; exact he.ptr _ _ h
  · rename_i h1 h2
    revert h
    split
    · rename_i e; exact fun _ => h1 (by simpa using e) rfl
    · rename_i i b e; exact fun _ => h2 i b (by simpa using e) rfl
    · exact id

theorem RdOK.cut {g g' : Gh} {rd : Option Nat} {nB nA : Nat} (h : RdOK m g rd) (hg : ∀ (i b : Nat), g.B[i]? = some (some b) → g'.B[i]? = some (some b)) (hn : g.B.length ≤ nB) : RdOK m (g'.cut nB nA) rd := by
  unfold RdOK at *
  split
  · trivial
  · rename_i i b hm
    rw [hm] at h
    have h : g.B[i]? = some (some b) := h
    have : i < nB := Nat.lt_of_lt_of_le (List.getElem?_eq_some_iff.1 h).1 hn
    simp only [Gh.cut, List.getElem?_take, this, if_true]
    exact hg i b h
  · rename_i h1 h2
    revert h
    split
    · rename_i e; exact fun _ => h1 (by simpa using e) rfl
    · rename_i i b e; exact fun _ => h2 i b (by simpa using e) rfl
    · exact id

/-- The record of a loop over a function, laid. -/
theorem enter_sound {w : World} {g : Gh} {F : Fr} {H : Hp} {a : Act} {rd : Option Nat} (hs : Sim w g F H a N) (hm : N.m = true) (hrd : RdOK m g rd) (hri : okRi m H = true) (ps : Array Tmp) (assign body : Code)
    (hk : (ps.all (fun t => decide (t < N.n)) = true ∧ okN N.n assign = true) ∧ okN N.n body = true) (fn : FuncId) :
    ∃ (mark : List Deferred) (w1 : World) (g1 : Gh) (b : Nat), (Instr.enterLoop fn a.tmps ps assign body rd).run P w = .ok (b, mark) w1 ∧ g1.B[H.B.length]? = some (some b) ∧
      Sim w1 g1 F ⟨H.B ++ [.lp .ready none f F ps assign body], H.A⟩ { a with defers := mark ++ a.defers } N ∧ Ext w g H.A w1 g1 H.A := by
  have lay : ∀ (w : World) (g : Gh) (D : Nat), Sim w g F H a N → ∃ (g1 : Gh) (w1 : World), w1 = w.alloc (.loop { state := .ready, pending := none, fn, tmps := a.tmps, params := ps, assign, body, defers := D }) ∧
      g1 = ⟨g.B ++ [some w.heap.size], g.A, g.I⟩ ∧ Inv w1 g1 ⟨H.B ++ [.lp .ready none f F ps assign body], H.A⟩ ∧ Ext w g H.A w1 g1 H.A := by
    intro w g D hs
    obtain ⟨h1, h2⟩ := hs.inv.allocB (.lp .ready none f F ps assign body) (.loop { state := .ready, pending := none, fn, tmps := a.tmps, params := ps, assign, body, defers := D })
      fun w' g' he hb => ⟨_, hb, rfl, rfl, rfl, rfl, rfl, ⟨by rw [hs.sz]; exact hk.1.2, by rw [hs.sz]; exact hk.2, by rw [hs.sz]; exact hk.1.1⟩, fun t => (hs.fr t).ext he⟩
    exact ⟨_, _, rfl, rfl, h1, h2⟩
  unfold RdOK at hrd
  split at hrd
  · -- outermost
    obtain ⟨i1, e1⟩ := hs.inv.grow (grows_alloc w (.deferred (some []))) g.I (fun _ _ h => h) (fun _ _ h => .inl h)
    have hs1 : Sim (w.alloc (.deferred (some []))) ⟨g.B, g.A, g.I⟩ F H a N := sim_ext hs e1 i1
    obtain ⟨g2, w2, hw2, hg2, i2, e2⟩ := lay _ _ w.heap.size hs1
    refine ⟨[{ target := .collected w.heap.size, args := #[] }], w2, g2, w.heap.size + 1, ?_, ?_, ?_, e1.trans e2⟩
    · rw [hw2]; exact run_enterLoop_outer _ _ _ _ _
    · rw [hg2, ← hs.inv.lenB]; simp [World.size_alloc]
    · have hd2 := hs1.df.ext e2
      have hfr : ∀ t, RepD w2 g2 H.A (look F t) (a.tmps.getD t undef) := fun t => (hs1.fr t).ext e2
      have hno : w.heap.size ∉ g2.owned := by
        rw [hg2]
        intro hm
        rcases owned_snoc (I' := g.I).1 hm with h | h
        · have := hs.inv.lt _ h; omega
        · simp [World.size_alloc] at h
      have hblk : w2.heap[w.heap.size]? = some (.deferred (some [])) := by
        rw [hw2, alloc_heap, alloc_heap]
        rw [Array.getElem?_push_lt (by simp)]
        simp
      refine ⟨hfr, i2, hs.sz, ⟨hd2.le, fun d hd => ?_, ?_, fun h => by rw [hm] at h; cases h⟩⟩
      · rcases List.mem_cons.1 hd with rfl | hd
        · exact ⟨_, rfl, hs.df.le, hno, hblk⟩
        · exact hd2.mark d hd
      · refine List.Pairwise.cons (fun d hd he => ?_) hd2.apart
        obtain ⟨b, hb1, hb2, hb3, hb4⟩ := hs.df.mark d hd
        rw [hb1] at he
        simp only [Deferred.mk.injEq, Target.collected.injEq, and_true] at he
        have := (Array.getElem?_eq_some_iff.1 hb4).1
        omega
  · -- within a round
    rename_i i b hm
    have hlp : ∃ r₀, w.heap[b]? = some (.loop r₀) := by
      unfold okRi at hri
      rw [hm] at hri
      simp only at hri
      split at hri
      · rename_i hbk
        obtain ⟨r, hr, _⟩ := hs.inv.blk i _ b hbk hrd
        exact ⟨r, hr⟩
      · cases hri
    obtain ⟨r₀, hr₀⟩ := hlp
    obtain ⟨g2, w2, hw2, hg2, i2, e2⟩ := lay _ _ r₀.defers hs
    refine ⟨[], w2, g2, w.heap.size, ?_, ?_, ⟨fun t => (hs.fr t).ext e2, i2, hs.sz, hs.df.ext e2⟩, e2⟩
    · rw [hw2]; exact run_enterLoop_inner hr₀ _ _ _ _ _
    · rw [hg2, ← hs.inv.lenB]; simp
  · exact hrd.elim

theorem putObj_facts (w : World) (b : Nat) (o : Obj) : (w.putObj b o).os = w.os ∧ (w.putObj b o).tape = w.tape ∧ Outs w (w.putObj b o) := ⟨rfl, rfl, .same rfl rfl⟩

/-- The record turned. -/
theorem lp_turn {w : World} {g : Gh} {H : Hp} (hi : Inv w g H) {i b : Nat} (hb : g.B[i]? = some (some b)) {st st' : LoopState} {pend pend' : Option Code} {f' : FuncId} {F : Fr} {ps : Array Tmp} {assign body : Code}
    (h : H.B[i]? = some (.lp st pend f' F ps assign body)) : ∃ r : Loop, w.heap[b]? = some (.loop r) ∧ r.state = st ∧ r.pending = pend ∧ r.params = ps ∧ r.assign = assign ∧ r.body = body ∧
      (okN r.tmps.size assign = true ∧ okN r.tmps.size body = true ∧ ps.all (fun t => decide (t < r.tmps.size)) = true) ∧ (∀ t, RepD w g H.A (look F t) (r.tmps.getD t undef)) ∧
      Inv (w.putObj b (.loop { r with state := st', pending := pend' })) g { H with B := H.B.set i (.lp st' pend' f' F ps assign body) } ∧
      Ext w g H.A (w.putObj b (.loop { r with state := st', pending := pend' })) g H.A := by
  obtain ⟨r, h1, h2, h3, h4, h5, h6, h7, h8⟩ := hi.blk i _ b h hb
  have hlt : b < w.heap.size := (Array.getElem?_eq_some_iff.1 h1).1
  have key := hi.setB (w' := w.putObj b (.loop { r with state := st', pending := pend' })) (bk' := .lp st' pend' f' F ps assign body) hb (fun k hk => World.putObj_heap_other hk) World.putObj_size rfl rfl (.same rfl rfl)
    fun he => ⟨_, World.putObj_heap_same hlt, rfl, rfl, h4, h5, h6, h7, fun t => (h8 t).ext he⟩
  exact ⟨r, h1, h2, h3, h4, h5, h6, h7, h8, key.1, key.2⟩

theorem code_sound (hc : CalOK P cal) (hmix : P.follows .mixedOrders = true) {rd : Option Nat} : ∀ (c : Code) (w : World) (g : Gh) (F : Fr) (H : Hp) (a : Act) (r : CO) (Q : Exit → Act → World → Prop),
    okC ch f N.n c = true → (N.m = false → noRF c = true) → Sim w g F H a N → RdOK m g rd → evalC P hn ch mu m cal f c F H = some r → AfterC w g H N Q r → c.wpIn (FR rd) 0 P Q a w := by
  intro c
  induction c with
  | skip => intro w g F H a r Q hk hm hs hrd h hQ; simp only [evalC, Option.some.injEq] at h; subst h; exact wpIn_skip (hQ a w g hs (Ext.refl _ _ _))
  | label _ => intro w g F H a r Q hk hm hs hrd h hQ; simp only [evalC, Option.some.injEq] at h; subst h; exact wpIn_label (hQ a w g hs (Ext.refl _ _ _))
  | exit _ => intro w g F H a r Q hk hm hs hrd h hQ; simp only [evalC, Option.some.injEq] at h; subst h; exact wpIn_exit (hQ a w g hs (Ext.refl _ _ _))
  | ret => intro w g F H a r Q hk hm hs hrd h hQ; simp only [evalC, Option.some.injEq] at h; subst h; exact wpIn_ret (hQ a w g hs (Ext.refl _ _ _))
  | region id ops draw =>
    intro w g F H a r Q hk hm hs hrd h hQ
    simp only [okC, Bool.and_eq_true, Array.all_eq_true_iff_forall_mem] at hk
    have hd : ∀ o ∈ ops, ∀ t, o.dst = some t → t < N.n := fun o hm t ht => by
      have := hk.1 o hm
      rw [ht] at this
      exact of_decide_eq_true this
    simp only [evalC] at h
    have key : ∀ ro, (if draw = true then drawR P hn mu m cal ops (ch.fl f id) F H else runOps P hn mu m cal ops ops.toList F H) = some ro → After w g H N Q ro →
        (Code.region id ops draw).wpIn (FR rd) 0 P Q a w := by
      intro ro h9 hQ9
      clear h hQ
      cases draw with
      | true =>
        simp only [if_true] at h9
        exact draw_sound hc hmix (by simpa using hk.2) hd hs h9 hQ9
      | false =>
        simp only [Bool.false_eq_true, if_false] at h9
        exact wpIn_region_list (ops_sound hc ops.toList w g F H a ro hs (fun o hm => hd o (by simpa using hm)) h9 hQ9)
    split at h
    · rename_i F1 H1 h1
      injection h with h
      subst h
      exact key _ h1 fun a' w' g' hs' he' => hQ a' w' g' (sim_norm hs' _) he'
    · rename_i x H1 h1
      injection h with h
      subst h
      exact key _ h1 fun a' w' g' v hi he hr hdf => hQ a' w' g' v hi he hr hdf
    · cases h
  | seq x y ihx ihy =>
    intro w g F H a r Q hk hm hs hrd h hQ
    simp only [okC, Bool.and_eq_true] at hk
    simp only [evalC] at h
    apply wpIn_seq
    split at h
    · rename_i F1 H1 h1
      refine ihx w g F H a _ _ hk.1 (fun e => (by have := hm e; simp only [noRF, Bool.and_eq_true] at this; exact this.1)) hs hrd h1 fun a' w' g' hs' he' => ?_
      exact ihy w' g' F1 H1 a' r Q hk.2 (fun e => (by have := hm e; simp only [noRF, Bool.and_eq_true] at this; exact this.2)) hs' (hrd.ext he') h (hQ.ext he')
    · rename_i hne
      obtain ⟨e, F1, H1⟩ := r
      refine ihx w g F H a _ _ hk.1 (fun e => (by have := hm e; simp only [noRF, Bool.and_eq_true] at this; exact this.1)) hs hrd h ?_
      cases e with
      | normal => exact absurd h (hne F1 H1)
      | pan x => exact hQ
      | _ => exact hQ
  | cond c x y ihx ihy =>
    intro w g F H a r Q hk hm hs hrd h hQ
    simp only [okC, Bool.and_eq_true] at hk
    simp only [evalC] at h
    split at h
    · rename_i t ht
      have hr := opd_sound hs c
      rw [ht] at hr
      have hv := inv_bool hr
      refine wpIn_cond_split hv (fun e => ?_) fun e => ?_
      · rw [if_pos e] at h; exact ihx w g F H a r Q hk.1 (fun e => (by have := hm e; simp only [noRF, Bool.and_eq_true] at this; exact this.1)) hs hrd h hQ
      · rw [if_neg (by simp [e])] at h; exact ihy w g F H a r Q hk.2 (fun e => (by have := hm e; simp only [noRF, Bool.and_eq_true] at this; exact this.2)) hs hrd h hQ
    · cases h
  | block id c ih =>
    intro w g F H a r Q hk hm hs hrd h hQ
    simp only [evalC] at h
    simp only [okC] at hk
    apply wpIn_block
    split at h
    · rename_i i F1 H1 h1
      refine ih w g F H a _ _ hk (fun e => hm e) hs hrd h1 ?_
      split at h
      · rename_i hid
        injection h with h
        subst h
        intro a' w' g' hs' he'
        simp only [Exit.inBlock, hid, if_true]
        exact hQ a' w' g' hs' he'
      · rename_i hid
        injection h with h
        subst h
        intro a' w' g' hs' he'
        simp only [Exit.inBlock, hid, if_false]
        exact hQ a' w' g' hs' he'
    · rename_i hne
      obtain ⟨e, F1, H1⟩ := r
      refine ih w g F H a _ _ hk (fun e => hm e) hs hrd h ?_
      cases e with
      | exit i => exact absurd h (hne i F1 H1)
      | _ => exact hQ
  | scope c ih =>
    intro w g F H a r Q hk hm hs hrd h hQ
    simp only [evalC] at h
    simp only [okC] at hk
    refine wpIn_scope_straight (ih w g F H a r _ hk (fun e => hm e) hs hrd h ?_)
    obtain ⟨e, F1, H1⟩ := r
    cases e <;> exact hQ
  | rangeFunc go ps assign body _ _ =>
    intro w g F H a r Q hk hm hs hrd h hQ
    simp only [okC, Bool.and_eq_true] at hk
    simp only [evalC, rangeD] at h
    split at h
    case h_2 => cases h
    rename_i gf caps hcaps
    split at h
    case isFalse => cases h
    rename_i hgf
    split at h
    case h_2 => cases h
    rename_i xs A1 hxs
    refine wpIn_rangeFunc fun fn _ => ?_
    obtain ⟨mark, w1, g1, b, hrun, hb, hs1, he1⟩ := enter_sound (P := P) (f := f) hs (by cases e : N.m with | true => rfl | false => exact absurd (hm e) (by simp [noRF])) hrd hgf.2 ps assign body ⟨⟨hk.1.1, okN_of _ hk.1.2⟩, okN_of _ hk.2⟩ fn
    obtain ⟨cs, hv, hpc⟩ := caps_sound (opd_sound hs1 go) hcaps
    have hv : a.eval go = .func (.func gf) #[] cs := hv
    have hpw : PW w1 g1 H.A (.yld H.B.length :: caps) (.func (.yield b) #[] #[] :: cs.toList) := PW.cons (.yld _ _ hb) hpc
    obtain ⟨g2, hi2, he2, hp2⟩ := args_sound _ xs _ g1 ⟨H.B ++ [.lp .ready none f F ps assign body], H.A⟩ A1 hs1.inv hpw hxs
    have fin1 : ∀ out H1, cal gf xs ⟨H.B ++ [.lp .ready none f F ps assign body], A1⟩ = some (out, H1) → plainFn P gf = true ∧
        Calls P gf (.func (.yield b) #[] #[] :: cs.toList).toArray w1 (CallPost w1 g2 ⟨H.B ++ [.lp .ready none f F ps assign body], A1⟩ out H1) := fun out H1 hcal =>
      ⟨((hc gf xs _ out H1 hcal).1 hgf.1).1, ((hc gf xs _ out H1 hcal).1 hgf.1).2 w1 g2 _ hi2 hp2⟩
    have eargs : (Value.func (.yield b) #[] #[] :: cs.toList).toArray = #[.func (.yield b) #[] #[]] ++ cs := by apply Array.ext'; simp
    have go_on : ∀ (out : Out) (H1 : Hp), cal gf xs ⟨H.B ++ [.lp .ready none f F ps assign body], A1⟩ = some (out, H1) →
        (∀ e w', CallPost w1 g2 ⟨H.B ++ [.lp .ready none f F ps assign body], A1⟩ out H1 e w' → rangePost (FR rd) 0 P b Q { a with defers := mark ++ a.defers } e w') →
        ∃ (l : Nat) (mark : List Deferred) (w₁ : World) (d : Deferred) (w₁' : World) (f : FuncId) (args : Array Value) (w₂ : World),
          (Instr.enterLoop fn a.tmps ps assign body (FR rd).round).run P w = .ok (l, mark) w₁ ∧
          (resolve a.eval (rangeCall go l) 0).run P w₁ = .ok d w₁' ∧
          (∀ f', Target.leads P w₁' d.target d.args = some f' → (FR rd).fn f') ∧
          (invoke d.target d.args).run P w₁' = .ok (.enter f args) w₂ ∧
          ((FR rd).depth.isSome = true → 1 ≤ 0) ∧
          CallsIn (FR rd) (0 - 1) P f args w₂ (rangePost (FR rd) 0 P l Q { a with defers := mark ++ a.defers }) := by
      intro out H1 hcal hpost
      obtain ⟨hp, hcalls⟩ := fin1 out H1 hcal
      rw [eargs] at hcalls
      refine ⟨b, mark, w1, { target := .fn (.func gf) cs, args := #[.func (.yield b) #[] #[]] }, w1, gf, #[.func (.yield b) #[] #[]] ++ cs, w1, hrun, ?_, fun _ _ => trivial, ?_, fun hx => (by simp [Fence.wide] at hx), ?_⟩
      · simp only [resolve, hv]
        simp [go_sem]
      · simp only [invoke]
        exact run_callFunc hp _
      · exact (callsIn_wide (n := 0 - 1)).2 (hcalls.mono hpost)
    have hpair : ∀ {w3 g3 A3}, Ext w1 g2 A1 w3 g3 A3 → Ext w g H.A w3 g3 A3 := fun he3 => (he1.trans he2).trans he3
    split at h
    · -- it has come to its end
      rename_i d H1 hcal
      refine go_on _ _ hcal fun e w3 hpost => ?_
      obtain ⟨g3, hi3, he3, v, rfl, _⟩ := hpost
      have hs3 : Sim w3 g3 F H1 { a with defers := mark ++ a.defers } N := sim_ext (sim_ext (H' := ⟨H.B ++ [.lp .ready none f F ps assign body], A1⟩) hs1 he2 hi2) he3 hi3
      have hb3 : g3.B[H.B.length]? = some (some b) := he3.ptr _ _ (he2.ptr _ _ hb)
      unfold endLp at h
      have fin2 : ∀ {st : LoopState} {pend : Option Code} {f' : FuncId} {F0 : Fr} {ps' : Array Tmp} {as' bo' : Code}, H1.B[H.B.length]? = some (.lp st pend f' F0 ps' as' bo') → st ≠ .busy →
          jumpD F { H1 with B := H1.B.set H.B.length (.lp .exhausted pend f' F0 ps' as' bo') } pend = some r → rangePost (FR rd) 0 P b Q { a with defers := mark ++ a.defers } (.returned v) w3 := by
        intro st pend f' F0 ps' as' bo' hbk hst h
        obtain ⟨rr, h1, h2, h3, h4, h5, h6, _, _, hi4, he4⟩ := lp_turn (st' := .exhausted) (pend' := pend) hi3 hb3 hbk
        have hs4 := sim_ext (H' := { H1 with B := H1.B.set H.B.length (.lp .exhausted pend f' F0 ps' as' bo') }) hs3 he4 hi4
        have hend := run_endLoop (P := P) h1 (by rw [h2]; exact hst)
        rw [h3] at hend
        refine ⟨pend, _, hend, ?_⟩
        have hQ4 := hQ.ext (hpair (he3.trans he4))
        unfold jumpD at h
        split at h
        · injection h with h; subst h
          exact hQ _ _ _ hs4 (hpair (he3.trans he4))
        · injection h with h; subst h
          exact wpIn_ret (hQ _ _ _ hs4 (hpair (he3.trans he4)))
        · injection h with h; subst h
          exact wpIn_exit (hQ _ _ _ hs4 (hpair (he3.trans he4)))
        · cases h
      split at h
      · cases h
      · rename_i st pend f' F0 ps' as' bo' hne hbk
        exact fin2 hbk (fun e => hne e) h
      · cases h
    · -- it gives up
      rename_i x H1 hcal
      injection h with h
      subst h
      refine go_on _ _ hcal fun e w3 hpost => ?_
      obtain ⟨g3, hi3, he3, v, rfl, hrep⟩ := hpost
      exact hQ _ w3 g3 v hi3 (hpair he3) hrep ((hs1.df.ext he2).ext he3)
    · cases h
  | loop c ih =>
    intro w g F H a r Q hk hm hs hrd h hQ
    simp only [evalC] at h
    simp only [okC] at hk
    obtain ⟨n, hn'⟩ := loopW_iff.1 h
    refine wpIn_loop_J (fun n a' w' => ∃ g' F' H', Sim w' g' F' H' a' N ∧ Ext w g H.A w' g' H'.A ∧ RdOK m g' rd ∧
      loopN (evalC P hn ch mu m cal f c) (cutD m (ch.head f (firstR c)) H.B.length H.A.length) n F' H' = some r) (n := n) ⟨g, F, H, hs, Ext.refl _ _ _, hrd, hn'⟩ ?_
    rintro n a' w' ⟨g', F', H', hs', he', hrd', hl⟩
    cases n with
    | zero => cases hl
    | succ n =>
      rw [loopN] at hl
      split at hl
      · cases hl
      · rename_i F0 H1 hcut
        have key : ∃ g0, Sim w' g0 F0 H1 a' N ∧ Ext w g H.A w' g0 H1.A ∧ RdOK m g0 rd := by
          unfold cutD at hcut
          split at hcut
          · rename_i hck
            simp only [Option.some.injEq, Prod.mk.injEq] at hcut
            obtain ⟨rfl, rfl⟩ := hcut
            exact ⟨g'.cut H.B.length H.A.length, sim_cut (sim_norm hs' (ch.head f (firstR c))) (nB := H.B.length) (nA := H.A.length) he'.lenA hck.1 (all_blk hck.2),
              ext_cut he' (by rw [hs.inv.lenB]; exact Nat.le_refl _) (Nat.le_refl _), hrd.cut he'.ptr (by rw [hs.inv.lenB]; exact Nat.le_refl _)⟩
          · simp only [Option.some.injEq, Prod.mk.injEq] at hcut
            obtain ⟨rfl, rfl⟩ := hcut
            exact ⟨g', sim_norm hs' _, he', hrd'⟩
        obtain ⟨g0, hs0, he0, hrd0⟩ := key
        split at hl
        · rename_i F2 H2 h2
          refine ih w' _ _ _ a' _ _ hk (fun e => hm e) hs0 hrd0 h2 fun a2 w2 g2 hs2 he2 => ?_
          exact ⟨n, Nat.lt_succ_self n, g2, F2, H2, hs2, he0.trans he2, hrd0.ext he2, hl⟩
        · rename_i hne
          refine ih w' _ _ _ a' r _ hk (fun e => hm e) hs0 hrd0 hl ?_
          have hQ' := hQ.ext he0
          obtain ⟨e, F2, H2⟩ := r
          cases e with
          | normal => exact absurd hl (hne F2 H2)
          | _ => exact hQ'
  | _ => intro w g F H a r Q hk hm hs hrd h hQ; cases h
end
end Go.Vi
end

section
/- Vi, part 20: who knows of more calls finds no less; the least that knows of all. No conditions. -/
namespace Go.Vi
open Go Go.Lib

def CalLe (c d : Cal) : Prop := ∀ f a H r, c f a H = some r → d f a H = some r

theorem CalLe.refl (c : Cal) : CalLe c c := fun _ _ _ _ h => h
theorem CalLe.trans {c d e : Cal} (h : CalLe c d) (k : CalLe d e) : CalLe c e := fun f a H r x => k f a H r (h f a H r x)

section
variable {P : Program} {hn : Hints} {ch : CH} {mu : Bool} {m : Mk} {c d : Cal} {f : FuncId} {ops : Array Oper}

theorem runV_mono (hcd : CalLe c d) {F : Fr} {H : Hp} {o : Oper} {r : (D × Hp) ⊕ (PD × Hp)} (h : runV P hn mu m c ops F H o = some r) : runV P hn mu m d ops F H o = some r := by
  unfold runV at h ⊢
  split at h
  · split at h
    · exact h
    · rename_i hne
      cases hx : exec P hn mu m F H o with
      | none => rw [hx] at h; cases h
      | some nx =>
        rw [hx] at h
        cases nx with
        | val x H1 => exact h
        | skip H1 => exact h
        | pan x => exact absurd hx (hne x)
        | call g args H1 =>
          simp only [finV] at h ⊢
          split at h
          · rename_i hlt
            rw [if_pos hlt]
            cases hg : c g args H1 with
            | none => rw [hg] at h; cases h
            | some y => rw [hg] at h; rw [hcd _ _ _ _ hg]; exact h
          · cases h
        | yield i args H1 =>
          simp only [finV] at h ⊢
          cases hg : c (1000000000 + i) args H1 with
          | none => rw [hg] at h; cases h
          | some y => rw [hg] at h; rw [hcd _ _ _ _ hg]; exact h
  · exact h
  · cases h

theorem FlOK0.mono {fl : Nat} {r r' : Hp → Option ((D × Hp) ⊕ (PD × Hp))} (hr : ∀ H y, r H = some y → r' H = some y) {d : D} {H H1 : Hp} (h2 : FlOK0 fl r d H H1) : FlOK0 fl r' d H H1 := by
  match fl, h2 with
  | 0, _ => trivial
  | 1, h2 => exact h2
  | 2, h2 => exact ⟨h2.1, fun A => hr _ _ (h2.2 A)⟩
  | 3, h2 => exact h2
  | 4, h2 => exact ⟨h2.1, fun B => hr _ _ (h2.2 B)⟩
  | 5, h2 => exact ⟨h2.1, fun A => hr _ _ (h2.2 A)⟩
  | 6, h2 => exact ⟨h2.1, fun H' => hr _ _ (h2.2 H')⟩
  | 7, _ => trivial
  | 8, h2 => obtain ⟨X, e, h2⟩ := h2; exact ⟨X, e, fun A => hr _ _ (h2 A)⟩
  | 9, h2 => exact ⟨h2.1, fun X => hr _ _ (h2.2 X)⟩
  | 10, h2 => exact ⟨h2.1, fun X => hr _ _ (h2.2 X)⟩
  | 11, h2 => exact h2.elim
  | n + 12, h2 =>
    simp only [FlOK0] at h2 ⊢
    split
    · rename_i hn; rw [if_pos hn] at h2; exact h2
    · rename_i hn; rw [if_neg hn] at h2; exact ⟨h2.1, fun b => hr _ _ (h2.2 b)⟩

theorem FlOK.mono {n0 k fl : Nat} {r r' : Hp → Option ((D × Hp) ⊕ (PD × Hp))} (hr : ∀ H y, r H = some y → r' H = some y) {d : D} {H H1 : Hp} (h2 : FlOK n0 k fl r d H H1) : FlOK n0 k fl r' d H H1 := by
  unfold FlOK at h2 ⊢
  split
  · rename_i e; rw [if_pos e] at h2; exact h2.mono hr
  rename_i e
  rw [if_neg e] at h2
  refine ⟨h2.1, ?_⟩
  have h3 := h2.2
  split
  · rename_i e2
    rw [if_pos e2] at h3
    unfold FlI at h3 ⊢
    split
    · rename_i e3; rw [if_pos e3] at h3; exact ⟨h3.1, fun T => hr _ _ (h3.2 T)⟩
    rename_i e3
    rw [if_neg e3] at h3
    split
    · rename_i e4; rw [if_pos e4] at h3; exact ⟨h3.1, fun T A => hr _ _ (h3.2 T A)⟩
    rename_i e4
    rw [if_neg e4] at h3
    split
    · rename_i e5; rw [if_pos e5] at h3; obtain ⟨X, a, b⟩ := h3; exact ⟨X, a, fun T hT => hr _ _ (b T hT)⟩
    rename_i e5
    rw [if_neg e5] at h3
    split
    · rename_i e6; rw [if_pos e6] at h3; obtain ⟨B1, X, a0, a, b⟩ := h3; exact ⟨B1, X, a0, a, fun T hT => hr _ _ (b T hT)⟩
    · rename_i e6; rw [if_neg e6] at h3; exact h3
  · rename_i e2
    rw [if_neg e2] at h3
    obtain ⟨a, c, b, h4⟩ := h3
    exact ⟨a, c, b, fun B' A' h => hr _ _ (h4 B' A' h)⟩

theorem gate_mono {n0 k fl : Nat} {H : Hp} {r r' : Hp → Option ((D × Hp) ⊕ (PD × Hp))} (hr : ∀ H y, r H = some y → r' H = some y) {x : (D × Hp) ⊕ (PD × Hp)}
    (h : gate n0 k fl H r = some x) : gate n0 k fl H r' = some x := by
  rcases x with ⟨y, H1⟩ | x
  · obtain ⟨h1, h2⟩ := gate_inl.1 h
    exact gate_inl.2 ⟨hr _ _ h1, h2.mono hr⟩
  · obtain ⟨h1, h2⟩ := gate_inr.1 h
    exact gate_inr.2 ⟨hr _ _ h1, h2⟩

theorem runX_mono (hcd : CalLe c d) {n0 fl : Nat} {F : Fr} {H : Hp} {o : Oper} {y : (D × Hp) ⊕ (PD × Hp)} (h : runX P hn mu m c ops n0 fl F H o = some y) : runX P hn mu m d ops n0 fl F H o = some y := by
  unfold runX at h ⊢
  by_cases e : 2000 ≤ fl
  · rw [if_pos e] at h ⊢
    generalize hop : o.op = op at h ⊢
    cases op with
    | alloc t => exact h
    | _ => exact runV_mono hcd h
  · rw [if_neg e] at h ⊢
    by_cases e2 : fl = 1000 ∨ fl = 1003
    · rw [if_pos e2] at h ⊢
      obtain ⟨hl, d', B1, A1, hr, h1, h2, rfl⟩ := maskX_inv h
      have hr' := runV_mono hcd hr
      unfold maskX
      rw [if_pos hl]
      simp only [hr']
      rw [if_pos ⟨h1, h2⟩]
    · rw [if_neg e2] at h ⊢
      exact runV_mono hcd h

theorem runOps_mono (hcd : CalLe c d) : ∀ (l : List Oper) (F : Fr) (H : Hp) (ro : RO), runOps P hn mu m c ops l F H = some ro → runOps P hn mu m d ops l F H = some ro := by
  intro l
  induction l with
  | nil => intro F H ro h; exact h
  | cons o r ih =>
    intro F H ro h
    simp only [runOps, runOp_eq] at h ⊢
    cases hv : runV P hn mu m c ops F H o with
    | none => rw [hv] at h; simp at h
    | some x =>
      rw [hv] at h
      rw [runV_mono hcd hv]
      rcases x with ⟨y, H1⟩ | ⟨x, H1⟩
      · simp only [Option.map_some] at h ⊢; exact ih _ _ _ h
      · exact h

theorem runDraw_mono (hcd : CalLe c d) {n0 kk : Nat} : ∀ (l : List Oper) (fl : List Nat) (F : Fr) (H : Hp) (ro : RO), runDraw P hn mu m c ops n0 kk l fl F H = some ro → runDraw P hn mu m d ops n0 kk l fl F H = some ro := by
  intro l
  induction l with
  | nil => intro fl F H ro h; exact h
  | cons o r ih =>
    intro fl F H ro h
    simp only [runDraw] at h ⊢
    cases hv : runVF P hn mu m c ops n0 kk (fl.headD 0) F H o with
    | none => rw [hv] at h; cases h
    | some x =>
      rw [hv] at h
      have : runVF P hn mu m d ops n0 kk (fl.headD 0) F H o = some x := gate_mono (fun H y => runX_mono hcd) hv
      rw [this]
      rcases x with ⟨y, H1⟩ | ⟨x, H1⟩
      · exact ih _ _ _ _ h
      · exact h

theorem drawR_mono (hcd : CalLe c d) {fl : List Nat} {F : Fr} {H : Hp} {ro : RO} (h : drawR P hn mu m c ops fl F H = some ro) : drawR P hn mu m d ops fl F H = some ro := runDraw_mono hcd _ _ _ _ _ h

theorem rangeD_mono (hcd : CalLe c d) {g : Operand} {ps : Array Tmp} {assign body : Code} {F : Fr} {H : Hp} {r : CO} (h : rangeD m c f g ps assign body F H = some r) :
    rangeD m d f g ps assign body F H = some r := by
  unfold rangeD at h ⊢
  split at h
  · rename_i gf caps hc
    split at h
    · rename_i hg
      rw [if_pos hg]
      split at h
      · rename_i xs A1 hx
        try simp only [hx]
        cases hv : c gf xs ⟨H.B ++ [.lp .ready none f F ps assign body], A1⟩ with
        | none => rw [hv] at h; cases h
        | some y => rw [hv] at h; rw [hcd _ _ _ _ hv]; exact h
      · cases h
    · cases h
  · cases h

theorem evalC_mono (hcd : CalLe c d) : ∀ (k : Code) (F : Fr) (H : Hp) (r : CO), evalC P hn ch mu m c f k F H = some r → evalC P hn ch mu m d f k F H = some r := by
  intro k
  induction k with
  | region id ops draw =>
    intro F H r h
    simp only [evalC] at h ⊢
    have key : ∀ ro, (if draw = true then drawR P hn mu m c ops (ch.fl f id) F H else runOps P hn mu m c ops ops.toList F H) = some ro →
        (if draw = true then drawR P hn mu m d ops (ch.fl f id) F H else runOps P hn mu m d ops ops.toList F H) = some ro := by
      intro ro h9
      split at h9
      · rename_i e; rw [if_pos e]; exact drawR_mono hcd h9
      · rename_i e; rw [if_neg e]; exact runOps_mono hcd _ _ _ _ h9
    split at h
    · rename_i h1; rw [key _ h1]; exact h
    · rename_i h1; rw [key _ h1]; exact h
    · cases h
  | seq a b iha ihb =>
    intro F H r h
    simp only [evalC] at h ⊢
    split at h
    · rename_i F1 H1 h1; rw [iha _ _ _ h1]; exact ihb _ _ _ h
    · rename_i hne
      rw [iha _ _ _ h]
      obtain ⟨e, F1, H1⟩ := r
      cases e with
      | normal => exact absurd h (hne F1 H1)
      | _ => rfl
  | cond x a b iha ihb =>
    intro F H r h
    simp only [evalC] at h ⊢
    split at h
    · split at h
      · rename_i e; rw [if_pos e]; exact iha _ _ _ h
      · rename_i e; rw [if_neg e]; exact ihb _ _ _ h
    · cases h
  | block id k ih =>
    intro F H r h
    simp only [evalC] at h ⊢
    split at h
    · rename_i h1; rw [ih _ _ _ h1]; exact h
    · rename_i hne
      rw [ih _ _ _ h]
      obtain ⟨e, F1, H1⟩ := r
      cases e with
      | exit i => exact absurd h (hne i F1 H1)
      | _ => rfl
  | scope k ih => intro F H r h; simp only [evalC] at h ⊢; exact ih _ _ _ h
  | loop k ih =>
    intro F H r h
    simp only [evalC] at h ⊢
    obtain ⟨n, hloop⟩ := loopW_iff.1 h
    refine loopW_iff.2 ⟨n, ?_⟩
    have key : ∀ cut n F H r, loopN (evalC P hn ch mu m c f k) cut n F H = some r → loopN (evalC P hn ch mu m d f k) cut n F H = some r := by
      intro cut n
      induction n with
      | zero => intro F H r h; cases h
      | succ n ihn =>
        intro F H r h
        rw [loopN] at h ⊢
        split at h
        · cases h
        · rename_i F0 H0 hcut
          split at h
          · rename_i F1 H1 h1
            simp only [ih _ _ _ h1]
            exact ihn _ _ _ h
          · rename_i hne
            simp only [ih _ _ _ h]
            obtain ⟨e, F1, H1⟩ := r
            cases e with
            | normal => exact absurd h (hne F1 H1)
            | _ => rfl
    exact key _ n F H r hloop
  | rangeFunc g ps assign body _ _ => intro F H r h; exact rangeD_mono hcd h
  | _ => intro F H r h; exact h
end

/-! ### The least -/
open Classical in
noncomputable def lub (S : Cal → Prop) : Cal := fun f a H => if h : ∃ r, ∃ c, S c ∧ c f a H = some r then some h.choose else none

def Chain (S : Cal → Prop) : Prop := ∀ x y, S x → S y → CalLe x y ∨ CalLe y x

theorem le_lub {S : Cal → Prop} (hS : Chain S) {c : Cal} (hc : S c) : CalLe c (lub S) := by
  intro f a H r h
  unfold lub
  have hx : ∃ r, ∃ c, S c ∧ c f a H = some r := ⟨r, c, hc, h⟩
  rw [dif_pos hx]
  obtain ⟨e, he, h2⟩ := hx.choose_spec
  rcases hS c e hc he with k | k
  · have := k f a H r h; rw [this] at h2; exact h2.symm
  · have := k f a H _ h2; rw [this] at h; exact h

theorem lub_some {S : Cal → Prop} {f : FuncId} {a : List D} {H : Hp} {r : Out × Hp} (h : lub S f a H = some r) : ∃ c, S c ∧ c f a H = some r := by
  unfold lub at h
  split at h
  · rename_i hx
    obtain ⟨e, he, h2⟩ := hx.choose_spec
    injection h with h
    exact ⟨e, he, h ▸ h2⟩
  · cases h

theorem lub_le {S : Cal → Prop} {d : Cal} (h : ∀ c, S c → CalLe c d) : CalLe (lub S) d := fun f a H r hr =>
  let ⟨c, hc, h1⟩ := lub_some hr
  h c hc f a H r h1

/-- What is reached from below. -/
inductive Reached (Φ : Cal → Cal) : Cal → Prop
  | step (c : Cal) (h : Reached Φ c) : Reached Φ (Φ c)
  | sup (S : Cal → Prop) (hS : Chain S) (h : ∀ c, S c → Reached Φ c) : Reached Φ (lub S)

theorem reached_chain {Φ : Cal → Cal} (hm : ∀ c d, CalLe c d → CalLe (Φ c) (Φ d)) : Chain (Reached Φ) := by
  intro x y hx
  induction hx generalizing y with
  | step x hx ih =>
    intro hy
    induction hy with
    | step y hy _ =>
      rcases ih y hy with h | h
      · exact .inl (hm _ _ h)
      · exact .inr (hm _ _ h)
    | sup S hS hi ih2 =>
      by_cases h : ∃ z, S z ∧ CalLe (Φ x) z
      · obtain ⟨z, hz, hl⟩ := h
        exact .inl (hl.trans (le_lub hS hz))
      · refine .inr (lub_le fun z hz => ?_)
        exact (ih2 z hz).resolve_left fun hl => h ⟨z, hz, hl⟩
  | sup S hS hi ih =>
    intro hy
    by_cases h : ∃ z, S z ∧ CalLe y z
    · obtain ⟨z, hz, hl⟩ := h
      exact .inr (hl.trans (le_lub hS hz))
    · refine .inl (lub_le fun z hz => ?_)
      exact (ih z hz y hy).resolve_right fun hl => h ⟨z, hz, hl⟩

noncomputable def least (Φ : Cal → Cal) : Cal := lub (Reached Φ)

theorem least_le {Φ : Cal → Cal} (hm : ∀ c d, CalLe c d → CalLe (Φ c) (Φ d)) : CalLe (Φ (least Φ)) (least Φ) :=
  le_lub (reached_chain hm) (.step _ (.sup _ (reached_chain hm) fun _ h => h))

/-- What holds of each entry, and goes on through Φ, holds of the least. -/
theorem least_ind {Φ : Cal → Cal} (M : FuncId → List D → Hp → Out × Hp → Prop)
    (h : ∀ c : Cal, (∀ f a H r, c f a H = some r → M f a H r) → ∀ f a H r, Φ c f a H = some r → M f a H r) : ∀ f a H r, least Φ f a H = some r → M f a H r := by
  have key : ∀ c, Reached Φ c → ∀ f a H r, c f a H = some r → M f a H r := by
    intro c hc
    induction hc with
    | step c _ ih => exact h c ih
    | sup S _ _ ih =>
      intro f a H r hr
      obtain ⟨c, hc, h1⟩ := lub_some hr
      exact ih c hc f a H r h1
  intro f a H r hr
  obtain ⟨c, hc, h1⟩ := lub_some hr
  exact key c hc f a H r h1
end Go.Vi
end
