/- It is proved here that the evaluator of the program's functions agrees with the model's run; no condition. This part: the operations, the first half. -/
import Derived.Test.YtjkpdlloccnilaaGreatDoorMA
import Derived.ChangeKeysEq
import Derived.Lib.AppendStr
set_option linter.unusedVariables false
set_option linter.unusedSimpArgs false

section
/- Vi, part 4: what an operand stands for; values as pure data; cells. No conditions. -/
namespace Go.Vi
open Go

/-- Of an activation: how many slots it has; how many blocks there were at its start; may something be put off? -/
structure Fm where
  n : Nat
  s : Nat
  m : Bool

/-- What is put off is the end of loops over functions; each has a block of its own, laid since the start. -/
structure Dfs (N : Fm) (w : World) (g : Gh) (ds : List Deferred) : Prop where
  le : N.s ≤ w.heap.size
  mark : ∀ d ∈ ds, ∃ b, d = { target := .collected b, args := #[] } ∧ N.s ≤ b ∧ b ∉ g.owned ∧ w.heap[b]? = some (.deferred (some []))
  apart : ds.Pairwise (· ≠ ·)
  non : N.m = false → ds = []

theorem Dfs.nil {N : Fm} {w : World} {g : Gh} (hs : N.s ≤ w.heap.size) : Dfs N w g [] := ⟨hs, fun d h => (by cases h), List.Pairwise.nil, fun _ => rfl⟩

theorem Dfs.ext {N : Fm} {w w' : World} {g g' : Gh} {A A' : List Arr} {ds : List Deferred} (h : Dfs N w g ds) (he : Ext w g A w' g' A') : Dfs N w' g' ds :=
  ⟨Nat.le_trans h.le he.size, fun d hd => by
    obtain ⟨b, h1, h2, h3, h4⟩ := h.mark d hd
    have hlt := (Array.getElem?_eq_some_iff.1 h4).1
    exact ⟨b, h1, h2, he.owned b hlt h3, (he.heap b hlt h3).trans h4⟩, h.apart, h.non⟩

structure Sim (w : World) (g : Gh) (F : Fr) (H : Hp) (a : Act) (N : Fm) : Prop where
  fr : ∀ t, RepD w g H.A (look F t) (a.tmps.getD t undef)
  inv : Inv w g H
  sz : a.tmps.size = N.n
  df : Dfs N w g a.defers

theorem constC_sound (w : World) (g : Gh) (A : List Arr) (v : Value) : RepD w g A (constC v) v := by
  unfold constC
  split
  · exact .p _ _ (.int _ _)
  · exact .p _ _ (.bool _)
  · exact .p _ _ (.str _)
  · exact .p _ _ .nilI
  · exact .p _ _ .nilF
  · exact .p _ _ .nilP
  · exact .p _ _ .nilM
  · exact .litN
  · exact .dead _

theorem constD_sound (w : World) (g : Gh) (A : List Arr) (v : Value) : RepD w g A (constD v) v := by
  unfold constD
  split
  · rename_i cs
    refine .agg _ _ (by simp) fun i x v hx hv => ?_
    rw [List.getElem?_map] at hx
    have : cs.toList[i]? = some v := by simpa using hv
    rw [this] at hx
    injection hx with hx
    subst hx
    exact constC_sound w g A v
  · exact constC_sound w g A v

theorem opd_sound {w : World} {g : Gh} {F : Fr} {H : Hp} {a : Act} {N : Fm} (hs : Sim w g F H a N) (x : Operand) : RepD w g H.A (opd F x) (a.eval x) := by
  cases x with
  | tmp t => exact hs.fr t
  | const v => exact constD_sound w g H.A v
  | global n =>
    simp only [opd]
    cases h : gtabOf n with
    | none => exact .dead _
    | some l => exact .elt l n 0 (hs.inv.tab.2 n l h)
  | func f => exact .p _ _ (.fn f)

/-- A list of pure data in memory, cell by cell. -/
def RowAt (w : World) (I : Nat → Nat → Prop) (l : List PD) (b o sz : Nat) : Prop :=
  ∀ (j c : Nat) (e x : PD), l[j]? = some e → e.cells[c]? = some x → I b (o + (j * sz + c)) ∧ ∃ v, w.cell? ⟨b, o + (j * sz + c), none⟩ = some v ∧ RepP w I x v

theorem RepP.sl_of {w : World} {I : Nat → Nat → Prop} {l : List PD} {b o sz cap : Nat} (hl : l.length ≤ cap) (hsz : ∀ e ∈ l, e.cells.length = sz)
    (h : RowAt w I l b o sz) : RepP w I (.sl l) (.slice (some ⟨b, o, none⟩) l.length cap) := by
  refine .sl l b o cap sz (fun j c => (w.cell? ⟨b, o + (j * sz + c), none⟩).getD undef) hl hsz (fun j c e x h1 h2 => (h j c e x h1 h2).1) (fun j c e x h1 h2 => ?_) (fun j c e x h1 h2 => ?_)
  · obtain ⟨_, v, hv, _⟩ := h j c e x h1 h2
    rw [hv]; rfl
  · obtain ⟨_, v, hv, hr⟩ := h j c e x h1 h2
    simp only [hv, Option.getD_some]
    exact hr

theorem RepP.sl_inv {w : World} {I : Nat → Nat → Prop} {l : List PD} {v : Value} (h : RepP w I (.sl l) v) :
    ∃ a cap, v = .slice a l.length cap ∧ (l ≠ [] → ∃ b o sz, a = some ⟨b, o, none⟩ ∧ l.length ≤ cap ∧ (∀ e ∈ l, e.cells.length = sz) ∧ RowAt w I l b o sz) := by
  cases h with
  | nil a cap => exact ⟨a, cap, rfl, fun h => absurd rfl h⟩
  | sl _ b o cap sz f hl hsz hI hc hr =>
    exact ⟨_, cap, rfl, fun _ => ⟨b, o, sz, rfl, hl, hsz, fun j c e x h1 h2 => ⟨hI j c e x h1 h2, f j c, hc j c e x h1 h2, hr j c e x h1 h2⟩⟩⟩

theorem cell_of_block {w : World} {b o : Nat} {cs : Array Value} {t : TypeId} {fr : Nat × Nat} (h : w.heap[b]? = some (.cells cs t fr)) :
    w.cell? ⟨b, o, none⟩ = cs[o]? := by simp [World.cell?, h]

/-- The row of the call's own, read. -/
theorem ArrRep.row {w : World} {g : Gh} {ar : Arr} {b cap : Nat} (h : ArrRep w g ar (some (b, cap))) (hf : ar.fz = true) : RowAt w g.I ar.els b 0 ar.sz := by
  obtain ⟨_, _, cs, hb, _, _, _, hc, hi⟩ := h
  intro j c e x h1 h2
  obtain ⟨v, hv, hr⟩ := hc j c e x h1 h2
  rw [Nat.zero_add]
  exact ⟨hi hf j c e x h1 h2, v, by rw [cell_of_block hb]; exact hv, hr⟩

theorem own_live {w : World} {g : Gh} {H : Hp} (hi : Inv w g H) {i ver : Nat} {v : Value} {ar : Arr} (h : RepD w g H.A (.own i ver) v) (hl : Hp.live H.A i ver = some ar) :
    H.A[i]? = some ar ∧ ar.ver = ver ∧ ∃ q, g.A[i]? = some q ∧ v = ownV q ar.els.length ∧ 0 < ar.sz ∧ ArrRep w g ar q := by
  unfold Hp.live at hl
  split at hl
  · rename_i ar' har
    split at hl
    · rename_i hv
      injection hl with hl
      subst hl
      cases h with
      | own _ _ _ _ _ h =>
        obtain ⟨q, hq, hvq⟩ := (h _ har).2 hv
        have := hi.arr i _ q har hq
        exact ⟨har, hv, q, hq, hvq, this.1, this.2⟩
    · cases hl
  · cases hl

theorem ArrRep.repP {w : World} {g : Gh} {ar : Arr} {q : Option (Nat × Nat)} (h : ArrRep w g ar q) (hf : ar.fz = true) : RepP w g.I (.sl ar.els) (ownV q ar.els.length) := by
  cases q with
  | none =>
    obtain ⟨he, _⟩ := h
    rw [he]
    exact .nil _ _
  | some q =>
    obtain ⟨b, cap⟩ := q
    have hr := h.row hf
    obtain ⟨_, _, _, _, _, hl, hsz, _, _⟩ := h
    exact RepP.sl_of hl hsz hr

mutual
theorem pd_sound {w : World} {g : Gh} {H : Hp} (hi : Inv w g H) : ∀ (d : D) (v : Value) (x : PD), RepD w g H.A d v → D.pd? H.A d = some x → RepP w g.I x v
  | .p y, v, x, .p _ _ h, e => by
    simp only [D.pd?, Option.some.injEq] at e
    subst e
    exact h
  | .lit _ l, v, x, h, e => by
    simp only [D.pd?, Option.some.injEq] at e
    subst e
    cases h with
    | litN => exact .nil _ _
    | lit _ b o h => exact h
  | .own i ver, v, x, h, e => by
    simp only [D.pd?] at e
    split at e
    · rename_i ar har
      split at e
      · rename_i hv
        injection e with e
        subst e
        obtain ⟨_, _, q, _, hq, _, hr⟩ := own_live hi (ar := ar) h (by simp [Hp.live, har, hv.1])
        rw [hq]
        exact hr.repP hv.2
      · cases e
    · cases e
  | .agg l, _, x, .agg _ cs hs h, e => by
    simp only [D.pd?, Option.map_eq_some_iff] at e
    obtain ⟨xs, he, rfl⟩ := e
    have := pds_sound hi l xs cs hs h he
    exact .agg xs cs (by rw [this.1]; exact hs) this.2
  | .ifc t y, _, x, .ifc _ _ v h, e => by
    simp only [D.pd?, Option.map_eq_some_iff] at e
    obtain ⟨z, he, rfl⟩ := e
    exact .ifc t z v (pd_sound hi y v z h he)
  | .ptr _ _, _, _, _, e => by simp [D.pd?] at e
  | .elt _, _, _, _, e => by simp [D.pd?] at e
  | .oelt _ _ _ _, _, _, _, e => by simp [D.pd?] at e
  | .yld _, _, _, _, e => by simp [D.pd?] at e
  | .mp _, _, _, _, e => by simp [D.pd?] at e
  | .clip l, _, x, .clip _ a h, e => by simp only [D.pd?, Option.some.injEq] at e; subst e; exact h
  | .emp, _, x, .emp a c, e => by simp only [D.pd?, Option.some.injEq] at e; subst e; exact .nil _ _
  | .fn _ _, _, _, _, e => by simp [D.pd?] at e
  | .bnd _ _, _, _, _, e => by simp [D.pd?] at e
  | .tup _, _, _, _, e => by simp [D.pd?] at e
  | .dead, _, _, _, e => by simp [D.pd?] at e
theorem pds_sound {w : World} {g : Gh} {H : Hp} (hi : Inv w g H) : ∀ (l : List D) (xs : List PD) (cs : Array Value), cs.size = l.length →
    (∀ (i : Nat) (x : D) (v : Value), l[i]? = some x → cs[i]? = some v → RepD w g H.A x v) → D.pds? H.A l = some xs →
    xs.length = l.length ∧ ∀ (i : Nat) (x : PD) (v : Value), xs[i]? = some x → cs[i]? = some v → RepP w g.I x v
  | [], xs, cs, _, _, e => by
    simp only [D.pds?, Option.some.injEq] at e
    subst e
    exact ⟨rfl, fun i x v h => by simp at h⟩
  | d :: r, xs, cs, hs, h, e => by
    simp only [D.pds?] at e
    split at e
    · rename_i y ys hy hys
      injection e with e
      subst e
      have hr := pds_sound hi r ys (cs.extract 1 cs.size) (by simp [hs]) (fun j z u hz hu => h (j + 1) z u (by simpa using hz) (by
        rw [Array.getElem?_extract] at hu
        split at hu
        · rw [Nat.add_comm]; exact hu
        · simp at hu)) hys
      refine ⟨by simp [hr.1], fun i x v hx hv => ?_⟩
      cases i with
      | zero =>
        have ex : y = x := by simpa using hx
        subst ex
        exact pd_sound hi d v y (h 0 d v (by simp) hv) hy
      | succ i =>
        refine hr.2 i x v (by simpa using hx) ?_
        rw [Array.getElem?_extract]
        have : i + 1 < cs.size := (Array.getElem?_eq_some_iff.1 hv).1
        rw [if_pos (by omega), Nat.add_comm]
        exact hv
    · cases e
end

theorem nf_sound {w : World} {g : Gh} {H : Hp} (hi : Inv w g H) {d : D} {v : Value} (h : RepD w g H.A d v) : RepD w g H.A (d.nf H.A) v := by
  unfold D.nf
  split
  · rename_i x hx
    exact .p _ _ (pd_sound hi d v x h hx)
  · exact h

/-- A value that may lie in a cell is one cell. -/
theorem cellD_one {w : World} {g : Gh} {A : List Arr} {d : D} {v : Value} (h : RepD w g A d v) (hc : cellD d = true) : v.cells = #[v] ∧ (∀ cs, v ≠ .agg cs) ∧ (∀ cs, v ≠ .tuple cs) := by
  cases h with
  | p x v h => cases h <;> simp_all [cellD, Value.cells]
  | litN => simp [Value.cells]
  | lit => simp [Value.cells]
  | ptr => simp [Value.cells]
  | elt => simp [Value.cells]
  | own _ _ _ _ hv => obtain ⟨_, _, _, rfl⟩ := hv; simp [Value.cells]
  | oelt _ _ _ _ _ _ hv => obtain ⟨_, rfl⟩ := hv; simp [Value.cells]
  | agg => simp [cellD] at hc
  | fn => simp [Value.cells]
  | bnd => simp [Value.cells]
  | ifc => simp [Value.cells]
  | tup => simp [cellD] at hc
  | yld => simp [Value.cells]
  | mp => simp [Value.cells]
  | bsl => simp [Value.cells]
  | emp => simp [Value.cells]
  | clip => simp [Value.cells]
  | dead => simp [cellD] at hc

theorem cellsD_sound {w : World} {g : Gh} {A : List Arr} {d : D} {v : Value} (h : RepD w g A d v) (hc : (cellsD d).all cellD = true) :
    v.cells.size = (cellsD d).length ∧ ∀ (j : Nat) (x : D) (u : Value), (cellsD d)[j]? = some x → v.cells[j]? = some u → RepD w g A x u := by
  have single : cellsD d = [d] → v.cells.size = (cellsD d).length ∧ ∀ (j : Nat) (x : D) (u : Value), (cellsD d)[j]? = some x → v.cells[j]? = some u → RepD w g A x u := by
    intro e
    rw [e] at hc ⊢
    have hd : cellD d = true := by simpa using hc
    obtain ⟨h1, _, _⟩ := cellD_one h hd
    rw [h1]
    refine ⟨rfl, fun j x u hx hu => ?_⟩
    cases j with
    | zero =>
      have e1 : d = x := by simpa using hx
      have e2 : v = u := by simpa using hu
      rw [← e1, ← e2]
      exact h
    | succ j => simp at hx
  cases h with
  | agg l cs hs h => exact ⟨hs, h⟩
  | p x v h =>
    cases h with
    | agg l cs hs h =>
      refine ⟨by simp [cellsD, Value.cells, hs], fun j x u hx hu => ?_⟩
      simp only [cellsD, List.getElem?_map, Option.map_eq_some_iff] at hx
      obtain ⟨y, hy, rfl⟩ := hx
      exact .p _ _ (h j y u hy hu)
    | _ => exact single rfl
  | _ => exact single rfl
end Go.Vi
end

section
/- Vi, part 5: the operations that leave memory as it is, each as the machine does it. No conditions. -/
namespace Go.Vi
open Go

/-- What the machine does, told by what the evaluator says. -/
def Good (P : Program) (w : World) (g : Gh) (A : List Arr) (s : Sem Next) : Nx → Prop
  | .val d H' => ∃ v w' g', s.run P w = .ok (.value v) w' ∧ RepD w' g' H'.A d v ∧ Inv w' g' H' ∧ Ext w g A w' g' H'.A
  | .skip H' => ∃ w' g', s.run P w = .ok .skip w' ∧ Inv w' g' H' ∧ Ext w g A w' g' H'.A
  | .pan x => ∃ v, s.run P w = .halt (.panic v) w ∧ RepP w g.I x v
  | .call f args H' => ∃ (vs : List Value) (g' : Gh), s.run P w = (callFunc f vs.toArray).run P w ∧ Inv w g' H' ∧ Ext w g A w g' H'.A ∧ vs.length = args.length ∧
      ∀ (i : Nat) (d : D) (v : Value), args[i]? = some d → vs[i]? = some v → RepD w g' H'.A d v
  | .yield i args H' => ∃ (vs : List Value) (g' : Gh) (b : Nat), s.run P w = (Instr.yield b vs.toArray).run P w ∧ g'.B[i]? = some (some b) ∧ Inv w g' H' ∧ Ext w g A w g' H'.A ∧ vs.length = args.length ∧
      ∀ (i : Nat) (d : D) (v : Value), args[i]? = some d → vs[i]? = some v → RepD w g' H'.A d v

theorem good_val {P : Program} {w : World} {g : Gh} {H : Hp} {s : Sem Next} {d : D} {v : Value} (hi : Inv w g H) (hr : s.run P w = .ok (.value v) w) (hd : RepD w g H.A d v) :
    Good P w g H.A s (.val d H) := ⟨v, w, g, hr, hd, hi, Ext.refl _ _ _⟩

theorem run_v {P : Program} {w w' : World} {s : Sem Value} {v : Value} (h : s.run P w = .ok v w') :
    (do pure (Next.value (← s)) : Sem Next).run P w = .ok (.value v) w' := by simp [h]
theorem run_u {P : Program} {w w' : World} {s : Sem Unit} (h : s.run P w = .ok () w') :
    (do s; pure Next.skip : Sem Next).run P w = .ok .skip w' := by simp [h]

theorem toList_mk (s : ByteArray) : s.toList = s.data.toList := by
  have key : ∀ (n i : Nat) (r : List UInt8), s.size - i = n → i ≤ s.size → ByteArray.toList.loop s i r = r.reverse ++ s.data.toList.drop i := by
    intro n
    induction n with
    | zero =>
      intro i r hn hi
      rw [ByteArray.toList.loop.eq_def, if_neg (by omega), List.drop_of_length_le (by rw [Array.length_toList]; exact (by have : s.data.size = s.size := rfl; omega))]
      simp
    | succ n ih =>
      intro i r hn hi
      have hlt : i < s.size := by omega
      rw [ByteArray.toList.loop.eq_def, if_pos hlt, ih (i + 1) _ (by omega) (by omega)]
      have hl : i < s.data.toList.length := by rw [Array.length_toList]; exact hlt
      rw [List.drop_eq_getElem_cons hl]
      simp [ByteArray.get!, getElem!_pos, hlt]
  have := key s.size 0 [] (by omega) (by omega)
  simpa [ByteArray.toList] using this

theorem beq_str (a b : ByteArray) : (a.toList == b.toList) = decide (a = b) := by
  rw [toList_mk, toList_mk]
  by_cases h : a = b
  · subst h; simp
  · have : ¬ a.data.toList = b.data.toList := fun e => h (by cases a; cases b; simp at e; subst e; rfl)
    rw [decide_eq_false h]
    exact beq_eq_false_iff_ne.2 this

theorem intP_run {P : Program} {w : World} (op : BinOp) (k : IntKind) (a b : Int) (r : PD) (t : TypeId) (hsh : isShift op = false) (h : intP op k a b = some r) :
    ∃ v, (binOp op t (.int k a) (.int k b)).run P w = .ok v w ∧ ∀ I, RepP w I r v := by
  cases op <;> simp [isShift] at hsh <;> simp only [intP, reduceCtorEq, Option.some.injEq, Option.ite_none_left_eq_some] at h
  case quo => obtain ⟨h0, rfl⟩ := h; exact ⟨_, by simp [binOp, Op.intDiv, h0], fun _ => .int _ _⟩
  case rem => obtain ⟨h0, rfl⟩ := h; exact ⟨_, by simp [binOp, Op.intDiv, h0], fun _ => .int _ _⟩
  all_goals subst h
  case eql => exact ⟨_, by simp [binOp, Op.intCmp]; rw [Bool.eq_iff_iff]; simp, fun _ => .bool _⟩
  case neq => exact ⟨_, by simp [binOp, Op.intCmp, bne]; rfl, fun _ => .bool _⟩
  case lss => exact ⟨_, by simp [binOp, Op.intCmp], fun _ => .bool _⟩
  case leq => exact ⟨_, by simp [binOp, Op.intCmp], fun _ => .bool _⟩
  case gtr => exact ⟨_, by simp [binOp, Op.intCmp], fun _ => .bool _⟩
  case geq => exact ⟨_, by simp [binOp, Op.intCmp], fun _ => .bool _⟩
  all_goals exact ⟨_, by simp [binOp, Op.intArith, Op.intBits, Go.bits], fun _ => .int _ _⟩

theorem shiftP_run {P : Program} {w : World} (op : BinOp) (k k' : IntKind) (a b : Int) (r : PD) (t : TypeId) (h : shiftP op k a b = some r) :
    ∃ v, (binOp op t (.int k a) (.int k' b)).run P w = .ok v w ∧ ∀ I, RepP w I r v := by
  unfold shiftP at h
  split at h
  · cases h
  · rename_i h0
    cases op <;> simp only [reduceCtorEq, Option.some.injEq] at h
    all_goals subst h
    all_goals exact ⟨_, by simp [binOp, Op.shift, h0], fun _ => .int _ _⟩

theorem strP_run {P : Program} {w : World} (op : BinOp) (a b : ByteArray) (r : PD) (t : TypeId) (h : strP op a b = some r) :
    ∃ v, (binOp op t (.string a) (.string b)).run P w = .ok v w ∧ ∀ I, RepP w I r v := by
  cases op <;> simp only [strP, reduceCtorEq, Option.some.injEq, Option.ite_none_right_eq_some] at h
  case add =>
    obtain ⟨h0, rfl⟩ := h
    refine ⟨.string (a ++ b), ?_, fun _ => .str _⟩
    have h2 : IntKind.i64.max = 9223372036854775807 := by decide
    have : ¬ ((a.size : Int) + (b.size : Int)) > IntKind.i64.max := by rw [h2]; omega
    simp only [gt_iff_lt] at this
    simp [binOp, Op.stringOp, this]
    omega
  all_goals subst h
  case lss => exact ⟨_, by simp [binOp, Op.stringOp, toList_mk], fun _ => .bool _⟩
  all_goals exact ⟨_, by simp [binOp, Op.stringOp, beq_str], fun _ => .bool _⟩

theorem run_equal {P : Program} {w : World} {t : TypeId} {td : TypeDesc} (ht : P.underlying t = some td) (x y : Value) (r : Bool)
    (h : ∀ d, (Op.equalIn (d + 1) t x y).run P w = .ok r w) : (Op.equal t x y).run P w = .ok r w := h 9999

theorem nil_run {P : Program} {w : World} {g : Gh} {H : Hp} (hi : Inv w g H) {t : TypeId} {td : TypeDesc} (ht : P.underlying t = some td) (y : Operand) (hy : isNil td y = true)
    (d : D) (v : Value) (r : Bool) (hd : RepD w g H.A d v) (h : nilD H.A td d = some r) (a : Act) :
    (Op.equal t v (a.eval y)).run P w = .ok r w ∧ (Op.equal t (a.eval y) v).run P w = .ok r w := by
  have two : ∀ z : Value, a.eval y = z → (∀ d, (Op.equalIn (d + 1) t v z).run P w = .ok r w ∧ (Op.equalIn (d + 1) t z v).run P w = .ok r w) →
      (Op.equal t v (a.eval y)).run P w = .ok r w ∧ (Op.equal t (a.eval y) v).run P w = .ok r w := by
    intro z hz hh
    rw [hz]
    exact ⟨(hh 9999).1, (hh 9999).2⟩
  cases td <;> simp only [isNil, Bool.false_eq_true] at hy
  case interface ms =>
    have hyy : y = .const .nilIface := by split at hy <;> simp_all
    subst hyy
    simp only [nilD] at h
    refine two .nilIface rfl fun k => ?_
    cases hd with
    | p x v h' => cases h' <;> simp at h <;> subst h <;> simp [Op.equalIn, run_underlying ht]
    | ifc t x v h' => simp at h; subst h; simp [Op.equalIn, run_underlying ht]
    | _ => simp at h
  case func =>
    have hyy : y = .const .nilFunc := by split at hy <;> simp_all
    subst hyy
    simp only [nilD] at h
    refine two .nilFunc rfl fun k => ?_
    cases hd with
    | p x v h' => cases h' <;> simp at h <;> subst h <;> simp [Op.equalIn, run_underlying ht]
    | fn f l cs h' => simp at h; subst h; simp [Op.equalIn, run_underlying ht]
    | _ => simp at h
  case pointer =>
    have hyy : y = .const (.pointer none) := by split at hy <;> simp_all
    subst hyy
    simp only [nilD] at h
    refine two (.pointer none) rfl fun k => ?_
    cases hd with
    | p x v h' => cases h' <;> simp at h <;> subst h <;> simp [Op.equalIn, run_underlying ht]
    | ptr i off b h' => simp at h; subst h; simp [Op.equalIn, run_underlying ht]
    | _ => simp at h
  case slice =>
    have hyy : y = .const (.slice none 0 0) := by split at hy <;> simp_all
    subst hyy
    refine two (.slice none 0 0) rfl fun k => ?_
    have key : ∃ (o : Option Addr) (n c : Nat), v = .slice o n c ∧ o.isNone = r := by
      cases hd with
      | p x v h' =>
        cases x with
        | sl l =>
          cases l with
          | nil => simp [nilD] at h
          | cons e l =>
            obtain ⟨o, c, rfl, hne⟩ := h'.sl_inv
            obtain ⟨b, o', sz, rfl, _⟩ := hne (by simp)
            exact ⟨_, _, _, rfl, by simpa [nilD] using h⟩
        | _ => simp [nilD] at h
      | litN => simp [nilD] at h; exact ⟨_, _, _, rfl, by simpa using h⟩
      | lit => simp [nilD] at h; exact ⟨_, _, _, rfl, by simpa using h⟩
      | emp => simp [nilD] at h; exact ⟨_, _, _, rfl, by simpa using h⟩
      | own i ver v hi' hv h' =>
        simp only [nilD] at h
        split at h
        · rename_i ar har
          split at h
          · rename_i hver
            obtain ⟨q, hq, rfl⟩ := (h' ar har).2 hver
            have := (hi.arr i ar q har hq).2
            injection h with h
            cases q with
            | none => exact ⟨_, _, _, rfl, by rw [← h, this.2]; rfl⟩
            | some q => exact ⟨_, _, _, rfl, by rw [← h, this.1]; rfl⟩
          · cases h
        · cases h
      | _ => simp [nilD] at h
    obtain ⟨o, n, c, rfl, rfl⟩ := key
    cases o <;> simp [Op.equalIn, run_underlying ht]
end Go.Vi
end

section
/- Vi, part 6: loads, addresses, parts, cuts, assertions, each as the machine does it. No conditions. -/
namespace Go.Vi
open Go

theorem szOf_info {P : Program} {t : TypeId} {n : Nat} (h : szOf P t = some n) : ∃ i, P.info? t = some i ∧ i.size = n := by
  simpa [szOf] using h
theorem run_szOf {P : Program} {w : World} {t : TypeId} {n : Nat} (h : szOf P t = some n) : (sizeOf t).run P w = .ok n w := by
  obtain ⟨i, hi, rfl⟩ := szOf_info h
  simp [sizeOf, typeInfo, hi]
theorem run_aggOf {P : Program} {w : World} {t : TypeId} {b : Bool} (h : aggOf P t = some b) : (isAgg t).run P w = .ok b w := by
  simp only [aggOf, Option.map_eq_some_iff] at h
  obtain ⟨d, hd, rfl⟩ := h
  cases d <;> simp [isAgg, run_underlying hd]
theorem run_zeroOf {P : Program} {w : World} {t : TypeId} {z : Value} (h : zeroOf P t = some z) : (zeroValue t).run P w = .ok z w := by
  simp only [zeroOf, Option.bind_eq_some_iff] at h
  obtain ⟨i, hi, hz⟩ := h
  simp [zeroValue, typeInfo, hi, hz]

theorem run_loadOne {P : Program} {w : World} {t : TypeId} {b o : Nat} {u : Value} (ha : aggOf P t = some false) (h : w.cell? ⟨b, o, none⟩ = some u) :
    (Instr.loadAt t (.pointer (some ⟨b, o, none⟩))).run P w = .ok u w := by
  simp [Instr.loadAt, Instr.sureAddr, loadVar, run_aggOf ha, h]
theorem run_loadAgg {P : Program} {w : World} {t : TypeId} {b o : Nat} (cs : List Value) (ha : aggOf P t = some true) (hn : szOf P t = some cs.length)
    (h : ∀ (j : Nat) (u : Value), cs[j]? = some u → w.cell? ⟨b, o + j, none⟩ = some u) :
    (Instr.loadAt t (.pointer (some ⟨b, o, none⟩))).run P w = .ok (.agg cs.toArray) w := by
  have := run_loadCells_list (P := P) (w := w) ⟨b, o, none⟩ cs (fun j v hj => by rw [Addr.add_lit]; exact h j v hj)
  simp [Instr.loadAt, Instr.sureAddr, loadVar, run_aggOf ha, run_szOf hn, this]

theorem sub_some {α : Type} {l : List α} {off n : Nat} {r : List α} (h : sub l off n = some r) : r.length = n ∧ ∀ j, j < n → r[j]? = l[off + j]? := by
  unfold sub at h
  split at h
  · injection h with h
    subst h
    refine ⟨by simp; omega, fun j hj => ?_⟩
    rw [List.getElem?_take, if_pos hj, List.getElem?_drop]
  · cases h

/-- Cells that are there, as a list. -/
theorem cells_list {R : Nat → Value → Prop} (n : Nat) (h : ∀ j, j < n → ∃ v, R j v) : ∃ cs : List Value, cs.length = n ∧ ∀ (j : Nat) (u : Value), cs[j]? = some u → R j u := by
  induction n with
  | zero => exact ⟨[], rfl, fun j u h => by simp at h⟩
  | succ n ih =>
    obtain ⟨cs, hl, hc⟩ := ih fun j hj => h j (by omega)
    obtain ⟨v, hv⟩ := h n (by omega)
    refine ⟨cs ++ [v], by simp [hl], fun j u hu => ?_⟩
    rcases Nat.lt_or_ge j cs.length with hj | hj
    · rw [List.getElem?_append_left hj] at hu
      exact hc j u hu
    · rw [List.getElem?_append_right hj] at hu
      have hj' : j = n := by
        rcases Nat.lt_or_ge j (n + 1) with h1 | h1
        · omega
        · rw [List.getElem?_eq_none (by simp; omega)] at hu
          cases hu
      subst hj'
      rw [hl, Nat.sub_self] at hu
      injection hu with hu
      exact hu ▸ hv

theorem load_sound {P : Program} {w : World} {g : Gh} {H : Hp} (hi : Inv w g H) {t : TypeId} {ag : Bool} {n : Nat} (ha : aggOf P t = some ag) (hn : szOf P t = some n)
    {d r : D} {v : Value} (hd : RepD w g H.A d v) (h : loadD H d ag n = some r) : ∃ u, (Instr.loadAt t v).run P w = .ok u w ∧ RepD w g H.A r u := by
  cases hd with
  | ptr i off b hb =>
    simp only [loadD] at h
    split at h
    · rename_i l hl
      obtain ⟨cs, ty, hcs, hsz, hrep⟩ := hi.blk i _ b hl hb
      cases ag with
      | false =>
        simp only [Bool.false_eq_true, if_false] at h
        have hlt : off < cs.size := by rw [hsz]; exact (List.getElem?_eq_some_iff.1 h).1
        have hc : cs[off]? = some cs[off] := by simp [hlt]
        exact ⟨_, run_loadOne ha (by rw [cell_of_block hcs]; exact hc), hrep off r _ h hc⟩
      | true =>
        simp only [if_true, Option.map_eq_some_iff] at h
        obtain ⟨q, hq, rfl⟩ := h
        obtain ⟨hql, hqs⟩ := sub_some hq
        obtain ⟨us, hul, hus⟩ := cells_list (R := fun j u => cs[off + j]? = some u) n fun j hj => by
          have : q[j]? = some q[j] := by simp [hql, hj]
          rw [hqs j hj] at this
          have hlt : off + j < cs.size := by rw [hsz]; exact (List.getElem?_eq_some_iff.1 this).1
          exact ⟨cs[off + j], by simp [hlt]⟩
        refine ⟨_, run_loadAgg us ha (by rw [hul]; exact hn) fun j u hu => by rw [cell_of_block hcs]; exact hus j u hu, .agg _ _ (by simp [hul, hql]) fun j x u hx hu => ?_⟩
        have hj : j < n := by rw [← hql]; exact (List.getElem?_eq_some_iff.1 hx).1
        rw [hqs j hj] at hx
        exact hrep _ x u hx (hus j u (by simpa using hu))
    · cases h
  | elt l b o he =>
    simp only [loadD] at h
    cases ag with
    | false =>
      simp only [Bool.false_eq_true, if_false, Option.map_eq_some_iff] at h
      obtain ⟨x, hx, rfl⟩ := h
      obtain ⟨_, u, hu, hr⟩ := he 0 x hx
      exact ⟨u, run_loadOne ha hu, .p _ _ hr⟩
    | true =>
      simp only [if_true, Option.map_eq_some_iff] at h
      obtain ⟨q, hq, rfl⟩ := h
      obtain ⟨hql, hqs⟩ := sub_some hq
      obtain ⟨us, hul, hus⟩ := cells_list (R := fun j u => w.cell? ⟨b, o + j, none⟩ = some u ∧ ∀ x, l[j]? = some x → RepP w g.I x u) n fun j hj => by
        have : q[j]? = some q[j] := by simp [hql, hj]
        rw [hqs j hj, Nat.zero_add] at this
        obtain ⟨_, u, hu, hr⟩ := he j _ this
        exact ⟨u, hu, fun x hx => by rw [this] at hx; injection hx with hx; exact hx ▸ hr⟩
      refine ⟨_, run_loadAgg us ha (by rw [hul]; exact hn) fun j u hu => (hus j u hu).1, .p _ _ (.agg _ _ (by simp [hul, hql]) fun j x u hx hu => ?_)⟩
      have hj : j < n := by rw [← hql]; exact (List.getElem?_eq_some_iff.1 hx).1
      rw [hqs j hj, Nat.zero_add] at hx
      exact (hus j u (by simpa using hu)).2 x hx
  | oelt i ver k off v hi' hv h' =>
    simp only [loadD] at h
    split at h
    · rename_i ar hlive
      have hlive' := hlive
      unfold Hp.live at hlive
      split at hlive
      · rename_i ar' har
        split at hlive
        · rename_i hver
          injection hlive with hlive
          subst hlive
          obtain ⟨b, cap, hq, rfl⟩ := (h' _ har).2 hver
          obtain ⟨_, hA⟩ := hi.arr i _ _ har hq
          obtain ⟨_, _, cs, hcs, hsz, hle, hel, hc, _⟩ := hA
          split at h
          · rename_i e he
            have hcell : ∀ (c : Nat) (x : PD), e.cells[c]? = some x → ∃ u, w.cell? ⟨b, k * ar'.sz + c, none⟩ = some u ∧ RepP w g.I x u := fun c x hx => by
              obtain ⟨u, hu, hr⟩ := hc k c e x he hx
              exact ⟨u, by rw [cell_of_block hcs]; exact hu, hr⟩
            cases ag with
            | false =>
              simp only [Bool.false_eq_true, if_false, Option.map_eq_some_iff] at h
              obtain ⟨x, hx, rfl⟩ := h
              obtain ⟨u, hu, hr⟩ := hcell off x hx
              exact ⟨u, run_loadOne ha hu, .p _ _ hr⟩
            | true =>
              simp only [if_true, Option.map_eq_some_iff] at h
              obtain ⟨q, hq', rfl⟩ := h
              obtain ⟨hql, hqs⟩ := sub_some hq'
              obtain ⟨us, hul, hus⟩ := cells_list (R := fun j u => w.cell? ⟨b, k * ar'.sz + off + j, none⟩ = some u ∧ ∀ x, e.cells[off + j]? = some x → RepP w g.I x u) n fun j hj => by
                have : q[j]? = some q[j] := by simp [hql, hj]
                rw [hqs j hj] at this
                obtain ⟨u, hu, hr⟩ := hcell _ _ this
                exact ⟨u, by rw [Nat.add_assoc]; exact hu, fun x hx => by rw [this] at hx; injection hx with hx; exact hx ▸ hr⟩
              refine ⟨_, run_loadAgg us ha (by rw [hul]; exact hn) fun j u hu => (hus j u hu).1, .p _ _ (.agg _ _ (by simp [hul, hql]) fun j x u hx hu => ?_)⟩
              have hj : j < n := by rw [← hql]; exact (List.getElem?_eq_some_iff.1 hx).1
              rw [hqs j hj] at hx
              exact (hus j u (by simpa using hu)).2 x hx
          · cases h
        · cases hlive
      · cases hlive
    · cases h
  | _ => simp [loadD] at h

theorem RepE.drop {w : World} {I : Nat → Nat → Prop} {l : List PD} {b o : Nat} (h : RepE w I l b o) (n : Nat) : RepE w I (l.drop n) b (o + n) := fun c x hx => by
  rw [List.getElem?_drop] at hx
  have := h _ x hx
  rwa [← Nat.add_assoc] at this

theorem live_some {A : List Arr} {i ver : Nat} {ar : Arr} (h : Hp.live A i ver = some ar) : A[i]? = some ar ∧ ar.ver = ver := by
  unfold Hp.live at h
  split at h
  · rename_i ar' har
    split at h
    · rename_i hv
      injection h with h
      subst h
      exact ⟨har, hv⟩
    · cases h
  · cases h

theorem fieldAddr_sound {w : World} {g : Gh} {A : List Arr} {d r : D} {v : Value} {off : Nat} (hd : RepD w g A d v) (h : fieldAddrD A d off = some r) :
    ∃ b o, v = .pointer (some ⟨b, o, none⟩) ∧ RepD w g A r (.pointer (some ⟨b, o + off, none⟩)) := by
  cases hd with
  | ptr i o b hb => simp only [fieldAddrD, Option.some.injEq] at h; subst h; exact ⟨b, o, rfl, .ptr _ _ _ hb⟩
  | elt l b o he => simp only [fieldAddrD, Option.some.injEq] at h; subst h; exact ⟨b, o, rfl, .elt _ _ _ (he.drop off)⟩
  | oelt i ver k c v hi hv h' =>
    simp only [fieldAddrD] at h
    split at h
    · rename_i ar hl
      injection h with h
      subst h
      obtain ⟨har, hver⟩ := live_some hl
      obtain ⟨b, cap, hq, rfl⟩ := (h' _ har).2 hver
      refine ⟨b, _, rfl, .oelt _ _ _ _ _ hi ⟨_, rfl⟩ fun ar' har' => ?_⟩
      rw [har] at har'
      injection har' with har'
      subst har'
      exact ⟨by omega, fun _ => ⟨b, cap, hq, by rw [Nat.add_assoc]⟩⟩
    · cases h
  | _ => simp [fieldAddrD] at h

theorem run_fieldAt {P : Program} {w : World} {t : TypeId} {j off n : Nat} {ag : Bool} {b o : Nat} (hf : fieldOf P t j = some (off, n, ag)) (hn : n ≠ 0) :
    (Instr.fieldAt t (.pointer (some ⟨b, o, none⟩)) j).run P w = .ok (.pointer (some ⟨b, o + off, none⟩)) w := by
  unfold fieldOf at hf
  split at hf
  · rename_i fs hfs
    split at hf
    · rename_i f hfj
      split at hf
      · rename_i n' b' hsz hag
        injection hf with hf
        simp only [Prod.mk.injEq] at hf
        obtain ⟨rfl, rfl, rfl⟩ := hf
        simp [Instr.fieldAt, run_underlying hfs, hfj, Instr.sureAddr, fieldPlace, run_szOf hsz, hn, Addr.add_lit]
      · cases hf
    · cases hf
  · cases hf

theorem run_part {P : Program} {w : World} {t : TypeId} {cs : Array Value} {off n : Nat} (hn : szOf P t = some n) :
    (aggOf P t = some true → (part t cs off).run P w = .ok (.agg (cs.extract off (off + n))) w) ∧
    (aggOf P t = some false → ∀ v, cs[off]? = some v → (part t cs off).run P w = .ok v w) :=
  ⟨fun ha => by simp [part, run_aggOf ha, run_szOf hn], fun ha v hv => by simp [part, run_aggOf ha, hv]⟩

theorem part_sound {P : Program} {w : World} {g : Gh} {A : List Arr} {d r : D} {v : Value} {t : TypeId} {off n : Nat} {ag : Bool} (hn : szOf P t = some n) (ha : aggOf P t = some ag)
    (hd : RepD w g A d v) (h : partD d off n ag = some r) : ∃ cs, v = .agg cs ∧ ∃ u, (part t cs off).run P w = .ok u w ∧ RepD w g A r u := by
  have go : ∀ (l : List D) (cs : Array Value), cs.size = l.length → (∀ (i : Nat) (x : D) (v : Value), l[i]? = some x → cs[i]? = some v → RepD w g A x v) →
      (if ag then (sub l off n).map .agg else l[off]?) = some r → ∃ u, (part t cs off).run P w = .ok u w ∧ RepD w g A r u := by
    intro l cs hs hr h
    cases ag with
    | false =>
      simp only [Bool.false_eq_true, if_false] at h
      have hlt : off < cs.size := by rw [hs]; exact (List.getElem?_eq_some_iff.1 h).1
      have hc : cs[off]? = some cs[off] := by simp [hlt]
      exact ⟨_, (run_part hn).2 ha _ hc, hr _ _ _ h hc⟩
    | true =>
      simp only [if_true, Option.map_eq_some_iff] at h
      obtain ⟨q, hq, rfl⟩ := h
      have hle : off + n ≤ l.length := by unfold sub at hq; split at hq; assumption; cases hq
      obtain ⟨hql, hqs⟩ := sub_some hq
      refine ⟨_, (run_part hn).1 ha, .agg _ _ (by simp [hql]; omega) fun i x u hx hu => ?_⟩
      have hj : i < n := by rw [← hql]; exact (List.getElem?_eq_some_iff.1 hx).1
      rw [hqs i hj] at hx
      rw [Array.getElem?_extract] at hu
      split at hu
      · exact hr _ _ _ hx hu
      · cases hu
  cases hd with
  | agg l cs hs hr =>
    simp only [partD] at h
    exact ⟨cs, rfl, go l cs hs hr h⟩
  | p x v hx =>
    cases hx with
    | agg l cs hs hr =>
      refine ⟨cs, rfl, ?_⟩
      simp only [partD] at h
      cases ag with
      | false =>
        simp only [Bool.false_eq_true, if_false, Option.map_eq_some_iff] at h
        obtain ⟨y, hy, rfl⟩ := h
        have hlt : off < cs.size := by rw [hs]; exact (List.getElem?_eq_some_iff.1 hy).1
        have hc : cs[off]? = some cs[off] := by simp [hlt]
        exact ⟨_, (run_part hn).2 ha _ hc, .p _ _ (hr _ _ _ hy hc)⟩
      | true =>
        simp only [if_true, Option.map_eq_some_iff] at h
        obtain ⟨q, hq, rfl⟩ := h
        have hle : off + n ≤ l.length := by unfold sub at hq; split at hq; assumption; cases hq
        obtain ⟨hql, hqs⟩ := sub_some hq
        refine ⟨_, (run_part hn).1 ha, .p _ _ (.agg _ _ (by simp [hql]; omega) fun i x u hx hu => ?_)⟩
        have hj : i < n := by rw [← hql]; exact (List.getElem?_eq_some_iff.1 hx).1
        rw [hqs i hj] at hx
        rw [Array.getElem?_extract] at hu
        split at hu
        · exact hr _ _ _ hx hu
        · cases hu
    | _ => simp [partD] at h
  | _ => simp [partD] at h

theorem run_field {P : Program} {w : World} {t : TypeId} {j off n : Nat} {ag : Bool} (hf : fieldOf P t j = some (off, n, ag)) :
    ∃ ft, szOf P ft = some n ∧ aggOf P ft = some ag ∧ ∀ cs u, (part ft cs off).run P w = .ok u w → (Instr.field t (.agg cs) j).run P w = .ok u w := by
  unfold fieldOf at hf
  split at hf
  · rename_i fs hfs
    split at hf
    · rename_i f hfj
      split at hf
      · rename_i n' b' hsz hag
        injection hf with hf
        simp only [Prod.mk.injEq] at hf
        obtain ⟨rfl, rfl, rfl⟩ := hf
        exact ⟨f.type, hsz, hag, fun cs u h => by simp [Instr.field, run_underlying hfs, hfj, asAgg, h]⟩
      · cases hf
    · cases hf
  · cases hf

theorem num_sound {w : World} {g : Gh} {A : List Arr} {d : D} {v : Value} {n : Int} (hd : RepD w g A d v) (h : numD d = some n) : ∃ k, v = .int k n := by
  cases hd with
  | p x v hx => cases hx <;> simp [numD] at h; subst h; exact ⟨_, rfl⟩
  | _ => simp [numD] at h

theorem RowAt.elt {w : World} {I : Nat → Nat → Prop} {l : List PD} {b o sz j : Nat} {e : PD} (h : RowAt w I l b o sz) (he : l[j]? = some e) : RepE w I e.cells b (o + j * sz) :=
  fun c x hx => by
    have := h j c e x he hx
    rwa [← Nat.add_assoc] at this

theorem indexAddr_sound {P : Program} {w : World} {g : Gh} {H : Hp} (hi : Inv w g H) {t : TypeId} {d r : D} {v : Value} {k : IntKind} {n : Int} (hd : RepD w g H.A d v)
    (h : indexAddrD P H t d n = some r) : ∃ u, (Instr.indexAt t v (.int k n)).run P w = .ok u w ∧ RepD w g H.A r u := by
  unfold indexAddrD at h
  split at h
  · rename_i len e hu
    split at h
    · rename_i sz hsz
      split at h
      · rename_i hc
        obtain ⟨b, o, rfl, hr⟩ := fieldAddr_sound hd h
        refine ⟨_, ?_, hr⟩
        simp [Instr.indexAt, asIntOf, run_underlying hu, Instr.sureAddr, hc.1, hc.2.1, run_szOf hsz, Addr.add_lit]
      · cases h
    · cases h
  · rename_i e hu
    split at h
    · rename_i sz hsz
      split at h
      · rename_i i ver
        split at h
        · rename_i ar hl
          split at h
          · rename_i hc
            obtain ⟨har, hver, q, hq, rfl, _, hA⟩ := own_live hi hd hl
            have hlt : n.toNat < ar.els.length := by omega
            cases q with
            | none => have := hA.1; simp [this] at hlt
            | some q =>
              obtain ⟨b, cap⟩ := q
              have hrun : (Instr.indexAt t (ownV (some (b, cap)) ar.els.length) (.int k n)).run P w = .ok (.pointer (some ⟨b, 0 + n.toNat * sz, none⟩)) w := by
                simp [Instr.indexAt, asIntOf, run_underlying hu, ownV, hc.1, hc.2.1, run_szOf hsz, Addr.add_lit]
              split at h
              · rename_i hf
                simp only [Option.map_eq_some_iff] at h
                obtain ⟨x, hx, rfl⟩ := h
                refine ⟨_, hrun, .elt _ _ _ ?_⟩
                have := (hA.row hf).elt hx
                rwa [hc.2.2] at this
              · injection h with h
                subst h
                refine ⟨_, hrun, .oelt _ _ _ _ _ (List.getElem?_eq_some_iff.1 har).1 ⟨_, rfl⟩ fun ar' har' => ?_⟩
                rw [har] at har'
                injection har' with har'
                subst har'
                exact ⟨by omega, fun _ => ⟨b, cap, hq, by rw [hc.2.2]; simp⟩⟩
          · cases h
        · cases h
      · rename_i i off len cap
        split at h
        · rename_i hc
          injection h with h
          subst h
          cases hd with
          | bsl _ _ _ _ b hg =>
            refine ⟨_, ?_, .ptr i _ b hg⟩
            simp [Instr.indexAt, asIntOf, run_underlying hu, hc.1, hc.2, run_szOf hsz, Addr.add_lit]
        · cases h
      · split at h
        · rename_i l hl
          split at h
          · rename_i h0
            split at h
            · rename_i x hx
              split at h
              · rename_i hsz'
                injection h with h
                subst h
                obtain ⟨a, cap, rfl, hne⟩ := (pd_sound hi _ _ _ hd hl).sl_inv
                have hlt : n.toNat < l.length := (List.getElem?_eq_some_iff.1 hx).1
                obtain ⟨b, o, sz', rfl, hle, hall, hrow⟩ := hne (by intro e; simp [e] at hlt)
                have e1 : sz' = sz := by rw [← hall x (List.mem_of_getElem? hx)]; exact hsz'
                subst e1
                refine ⟨_, ?_, .elt _ b (o + n.toNat * sz') (hrow.elt hx)⟩
                have : n < l.length := by omega
                simp [Instr.indexAt, asIntOf, run_underlying hu, h0, this, run_szOf hsz, Addr.add_lit]
              · cases h
            · cases h
          · cases h
        · cases h
    · cases h
  · cases h

theorem index_sound {P : Program} {w : World} {g : Gh} {A : List Arr} {t : TypeId} {d r : D} {v : Value} {k : IntKind} {n : Int} (hd : RepD w g A d v)
    (h : indexD P t d n = some r) : ∃ u, (Instr.index t v (.int k n)).run P w = .ok u w ∧ RepD w g A r u := by
  unfold indexD at h
  split at h
  · rename_i s hu
    split at h
    · rename_i h0
      simp only [Option.map_eq_some_iff] at h
      obtain ⟨b, hb, rfl⟩ := h
      cases hd with
      | p _ _ hx =>
        cases hx
        exact ⟨_, by simp [Instr.index, asIntOf, run_underlying hu, h0, hb], .p _ _ (.int _ _)⟩
    · cases h
  · rename_i len e hu
    split at h
    · rename_i sz ag hsz hag
      split at h
      · rename_i hc
        obtain ⟨cs, rfl, u, hu', hr⟩ := part_sound (P := P) hsz hag hd h
        exact ⟨u, by simp [Instr.index, asIntOf, run_underlying hu, hc, run_szOf hsz, hu'], hr⟩
      · cases h
    · cases h
  · cases h

theorem extract_sound {P : Program} {w : World} {g : Gh} {A : List Arr} {l : List D} {r : D} {v : Value} {i : Nat} (hd : RepD w g A (.tup l) v) (h : l[i]? = some r) :
    ∃ u, (Instr.extract v i).run P w = .ok u w ∧ RepD w g A r u := by
  cases hd with
  | tup _ cs hs hr =>
    have hlt : i < cs.size := by rw [hs]; exact (List.getElem?_eq_some_iff.1 h).1
    have hc : cs[i]? = some cs[i] := by simp [hlt]
    exact ⟨_, by simp [Instr.extract, hc], hr _ _ _ h hc⟩

theorem tup2 {w : World} {g : Gh} {A : List Arr} {d e : D} {v u : Value} (h1 : RepD w g A d v) (h2 : RepD w g A e u) : RepD w g A (.tup [d, e]) (.tuple #[v, u]) :=
  .tup _ _ rfl fun i x y hx hy => by
    cases i with
    | zero => simp at hx hy; subst hx; subst hy; exact h1
    | succ i =>
      cases i with
      | zero => simp at hx hy; subst hx; subst hy; exact h2
      | succ i => simp at hx

theorem assert_sound {P : Program} {w : World} {g : Gh} {A : List Arr} {xt at_ : TypeId} {ok : Bool} {d r : D} {v : Value} (hd : RepD w g A d v) (h : assertD P d at_ ok = some r) :
    ∃ u, (Instr.typeAssert v xt at_ ok).run P w = .ok u w ∧ RepD w g A r u := by
  unfold assertD at h
  split at h
  · cases h
  · cases h
  · rename_i td hne hnone
    obtain ⟨td, htd⟩ : ∃ td, P.underlying at_ = some td := by
      cases hx : P.underlying at_ with
      | none => exact absurd hx hnone
      | some td => exact ⟨td, rfl⟩
    have hni : ∀ ms, td ≠ .interface ms := fun ms e => hne ms (by rw [htd, e])
    have no : ∀ z r, zeroOf P at_ = some z → r = D.tup [constD z, .p (.bool false)] → RepD w g A r (.tuple #[z, .bool false]) := fun z r _ e => by
      subst e; exact tup2 (constD_sound w g A z) (.p _ _ (.bool _))
    simp only at h
    split at h
    · cases hd with
      | p _ _ hx =>
        cases hx
        cases ok with
        | false => simp at h
        | true =>
          simp only [if_true, Option.map_eq_some_iff] at h
          obtain ⟨z, hz, rfl⟩ := h
          refine ⟨_, ?_, no z _ hz rfl⟩
          cases td <;> first | exact absurd rfl (hni _) | simp [Instr.typeAssert, run_underlying htd, run_zeroOf hz]
    · rename_i t x
      cases hd with
      | p _ _ hx =>
        cases hx with
        | ifc _ _ u hx =>
          split at h
          · rename_i ht
            injection h with h
            subst h
            cases ok with
            | false => exact ⟨u, by cases td <;> first | exact absurd rfl (hni _) | simp [Instr.typeAssert, run_underlying htd, ht], .p _ _ hx⟩
            | true => exact ⟨_, by cases td <;> first | exact absurd rfl (hni _) | simp [Instr.typeAssert, run_underlying htd, ht], tup2 (.p _ _ hx) (.p _ _ (.bool _))⟩
          · rename_i ht
            cases ok with
            | false => simp at h
            | true =>
              simp only [if_true, Option.map_eq_some_iff] at h
              obtain ⟨z, hz, rfl⟩ := h
              refine ⟨_, ?_, no z _ hz rfl⟩
              cases td <;> first | exact absurd rfl (hni _) | simp [Instr.typeAssert, run_underlying htd, run_zeroOf hz, ht]
    · rename_i t x
      cases hd with
      | ifc _ _ u hx =>
          split at h
          · rename_i ht
            injection h with h
            subst h
            cases ok with
            | false => exact ⟨u, by cases td <;> first | exact absurd rfl (hni _) | simp [Instr.typeAssert, run_underlying htd, ht], hx⟩
            | true => exact ⟨_, by cases td <;> first | exact absurd rfl (hni _) | simp [Instr.typeAssert, run_underlying htd, ht], tup2 hx (.p _ _ (.bool _))⟩
          · rename_i ht
            cases ok with
            | false => simp at h
            | true =>
              simp only [if_true, Option.map_eq_some_iff] at h
              obtain ⟨z, hz, rfl⟩ := h
              refine ⟨_, ?_, no z _ hz rfl⟩
              cases td <;> first | exact absurd rfl (hni _) | simp [Instr.typeAssert, run_underlying htd, run_zeroOf hz, ht]
    · cases h
end Go.Vi
end

section
/- Vi, part 7: new variables, stores, rows that grow: what becomes of the state. No conditions. -/
namespace Go.Vi
open Go

theorem BlkRep.ext {w w' : World} {g g' : Gh} {A A' : List Arr} {bk : Blk} {b : Nat} (he : Ext w g A w' g' A') (hb : w'.heap[b]? = w.heap[b]?) (h : BlkRep w g A bk b) :
    BlkRep w' g' A' bk b := by
  cases bk with
  | hole => trivial
  | cells l =>
    obtain ⟨cs, t, h1, h2, h3⟩ := h
    exact ⟨cs, t, hb.trans h1, h2, fun j d v hd hv => (h3 j d v hd hv).ext he⟩
  | sit s pos => exact hb.trans h
  | mset l =>
    obtain ⟨es, clock, h1, h2, h3⟩ := h
    exact ⟨es, clock, hb.trans h1, h2, fun j k x e hk hx => let ⟨r1, r2⟩ := h3 j k x e hk hx; ⟨r1.same he.same, r2.same he.same⟩⟩
  | lp st pend f F ps assign body =>
    obtain ⟨r, h1, h2, h3, h4, h5, h6, h7, h8⟩ := h
    exact ⟨r, hb.trans h1, h2, h3, h4, h5, h6, h7, fun t => (h8 t).ext he⟩

theorem ArrRep.ext {w w' : World} {g g' : Gh} {ar : Arr} {q : Option (Nat × Nat)} (hs : Same w g.I w' g'.I) (hb : ∀ b cap, q = some (b, cap) → w'.heap[b]? = w.heap[b]?)
    (h : ArrRep w g ar q) : ArrRep w' g' ar q := by
  cases q with
  | none => exact h
  | some q =>
    obtain ⟨b, cap⟩ := q
    obtain ⟨h0, h1, cs, h2, h3, h4, h5, h6, h7⟩ := h
    exact ⟨h0, h1, cs, (hb b cap rfl).trans h2, h3, h4, h5, fun j c e x he hx => let ⟨v, hv, hr⟩ := h6 j c e x he hx; ⟨v, hv, hr.same hs⟩,
      fun hf j c e x he hx => hs.inn _ _ (h7 hf j c e x he hx)⟩

theorem mem_ownedA {g : Gh} {i b cap : Nat} (h : g.A[i]? = some (some (b, cap))) : b ∈ g.owned :=
  List.mem_append_right _ (List.mem_filterMap.2 ⟨some (b, cap), List.mem_of_getElem? h, rfl⟩)
theorem mem_ownedB {g : Gh} {i b : Nat} (h : g.B[i]? = some (some b)) : b ∈ g.owned := List.mem_append_left _ (List.mem_filterMap.2 ⟨some b, List.mem_of_getElem? h, rfl⟩)
theorem mem_owned_of {g : Gh} {b : Nat} (h : some b ∈ g.B) : b ∈ g.owned := List.mem_append_left _ (List.mem_filterMap.2 ⟨some b, h, rfl⟩)
theorem owned_snoc {B : List (Option Nat)} {A : List (Option (Nat × Nat))} {I I' : Nat → Nat → Prop} {n b : Nat} : b ∈ Gh.owned ⟨B ++ [some n], A, I⟩ ↔ b ∈ Gh.owned ⟨B, A, I'⟩ ∨ b = n := by
  simp only [Gh.owned, List.filterMap_append, List.mem_append, List.filterMap_cons, id, List.filterMap_nil, List.mem_singleton]
  constructor
  · rintro ((h | h) | h)
    · exact .inl (.inl h)
    · exact .inr h
    · exact .inl (.inr h)
  · rintro ((h | h) | h)
    · exact .inl (.inl h)
    · exact .inr h
    · exact .inl (.inr h)

/-- A world with more blocks at its end, the old ones as they were. -/
structure Grows (w w' : World) : Prop where
  heap : ∀ b, b < w.heap.size → w'.heap[b]? = w.heap[b]?
  size : w.heap.size ≤ w'.heap.size
  os : w'.os = w.os
  tape : w'.tape = w.tape
  output : Outs w w'

theorem alloc_heap (w : World) (o : Obj) : (w.alloc o).heap = w.heap.push o := rfl
theorem grows_alloc (w : World) (o : Obj) : Grows w (w.alloc o) :=
  ⟨fun b hb => by rw [alloc_heap, Array.getElem?_push_lt hb, Array.getElem?_eq_getElem hb], by rw [alloc_heap, Array.size_push]; omega, rfl, rfl, .same rfl rfl⟩
theorem grows_refl (w : World) : Grows w w := ⟨fun _ _ => rfl, Nat.le_refl _, rfl, rfl, .same rfl rfl⟩

theorem Inv.grow {w w' : World} {g : Gh} {H : Hp} (hi : Inv w g H) (hg : Grows w w') (I' : Nat → Nat → Prop) (hI : ∀ b o, g.I b o → I' b o)
    (hn : ∀ b o, I' b o → g.I b o ∨ (w.heap.size ≤ b ∧ b < w'.heap.size)) :
    Inv w' ⟨g.B, g.A, I'⟩ H ∧ Ext w g H.A w' ⟨g.B, g.A, I'⟩ H.A := by
  have hs : Same w g.I w' I' := ⟨hI, fun b o h => by
    have := hg.heap b (hi.iLt b o h)
    simp only [World.cell?, this]⟩
  have he : Ext w g H.A w' ⟨g.B, g.A, I'⟩ H.A :=
    { ptr := fun _ _ h => h, same := hs, lenA := Nat.le_refl _, row := fun i ar' _ h => ⟨ar', h, Nat.le_refl _, rfl, fun _ => ⟨rfl, rfl⟩⟩, heap := fun b hb _ => hg.heap b hb, size := hg.size,
      owned := fun _ _ h => h, os := hg.os, tape := hg.tape, output := hg.output, news := fun b o h hb _ => (hn b o h).elim id fun h2 => absurd h2.1 (by omega) }
  refine ⟨⟨hi.lenB, hi.lenA, fun i bk b h1 h2 => (hi.blk i bk b h1 h2).ext he (hg.heap b (hi.lt b (mem_ownedB h2))), fun i ar q h1 h2 => ?_, hi.nB, hi.nBA, hi.nA,
    fun b hb => Nat.lt_of_lt_of_le (hi.lt b hb) hg.size, fun b o h hb => ?_, fun b o h i cap ar h1 h2 => ?_, fun b o h => ?_, hi.tab.ext he, hi.hole⟩, he⟩
  · obtain ⟨h3, h4⟩ := hi.arr i ar q h1 h2
    exact ⟨h3, h4.ext hs fun b cap hq => hg.heap b (hi.lt b (mem_ownedA (hq ▸ h2)))⟩
  · rcases hn b o h with h | h
    · exact hi.iB b o h hb
    · have := hi.lt b (mem_owned_of hb); omega
  · rcases hn b o h with h | h
    · exact hi.iA b o h i cap ar h1 h2
    · have := hi.lt b (mem_ownedA h1); omega
  · rcases hn b o h with h | h
    · exact Nat.lt_of_lt_of_le (hi.iLt b o h) hg.size
    · exact h.2

theorem newB {l : List (Option Nat)} {n i b : Nat} (h : (l ++ [some n])[i]? = some (some b)) : l[i]? = some (some b) ∨ (i = l.length ∧ b = n) := by
  rcases Nat.lt_or_ge i l.length with h1 | h1
  · rw [List.getElem?_append_left h1] at h; exact .inl h
  · rw [List.getElem?_append_right h1] at h
    have h2 := (List.getElem?_eq_some_iff.1 h).1
    simp at h2
    have h3 : i = l.length := by omega
    subst h3
    simp at h
    exact .inr ⟨rfl, h.symm⟩

/-- A new variable. -/
theorem Inv.allocB {w : World} {g : Gh} {H : Hp} (hi : Inv w g H) (bk : Blk) (o : Obj)
    (hbk : ∀ (w' : World) (g' : Gh), Ext w g H.A w' g' H.A → w'.heap[w.heap.size]? = some o → BlkRep w' g' H.A bk w.heap.size) (hne : bk ≠ .hole := by intro h; cases h) :
    Inv (w.alloc o) ⟨g.B ++ [some w.heap.size], g.A, g.I⟩ { H with B := H.B ++ [bk] } ∧ Ext w g H.A (w.alloc o) ⟨g.B ++ [some w.heap.size], g.A, g.I⟩ H.A := by
  have hg := grows_alloc w o
  obtain ⟨h1, he1⟩ := hi.grow hg g.I (fun _ _ h => h) (fun _ _ h => .inl h)
  have hnew : (w.alloc o).heap[w.heap.size]? = some o := by rw [alloc_heap]; simp
  have he : Ext w g H.A (w.alloc o) ⟨g.B ++ [some w.heap.size], g.A, g.I⟩ H.A :=
    { ptr := fun i b h => by simp only; rw [List.getElem?_append_left (List.getElem?_eq_some_iff.1 h).1]; exact h
      same := he1.same, lenA := Nat.le_refl _, row := he1.row, heap := he1.heap, size := he1.size
      owned := fun b hb h h2 => (owned_snoc.1 h2).elim h (by omega)
      os := rfl, tape := rfl, output := .same rfl rfl, news := fun _ _ h _ _ => h }
  refine ⟨⟨by simp [hi.lenB], hi.lenA, fun i bk' b hb1 hb2 => ?_, fun i ar q ha1 ha2 => ?_, fun i j b h1 h2 => ?_, fun i j b cap h1 => ?_, hi.nA, fun b hb => ?_, fun b o' h hb => ?_, hi.iA, fun b o' h => ?_, hi.tab.ext he, fun i => ?_⟩, he⟩
  · have hlen := hi.lenB
    rcases Nat.lt_or_ge i H.B.length with hlt | hge
    · simp only at hb1 hb2
      rw [List.getElem?_append_left hlt] at hb1
      rw [List.getElem?_append_left (by omega)] at hb2
      exact (hi.blk i bk' b hb1 hb2).ext he (hg.heap b (hi.lt b (mem_ownedB hb2)))
    · simp only at hb1 hb2
      rw [List.getElem?_append_right hge] at hb1
      rw [List.getElem?_append_right (by omega)] at hb2
      have e1 : i - H.B.length = 0 := by
        have := (List.getElem?_eq_some_iff.1 hb1).1
        simp at this; omega
      rw [e1] at hb1
      rw [hlen, e1] at hb2
      simp at hb1 hb2
      subst hb1; subst hb2
      exact hbk _ _ he hnew
  · obtain ⟨h3, h4⟩ := hi.arr i ar q ha1 ha2
    exact ⟨h3, h4.ext he.same fun b cap hq => hg.heap b (hi.lt b (mem_ownedA (hq ▸ ha2)))⟩
  · rcases newB h1 with h1 | ⟨h1, e1⟩ <;> rcases newB h2 with h2 | ⟨h2, e2⟩
    · exact hi.nB i j b h1 h2
    · have := hi.lt b (mem_ownedB h1); omega
    · have := hi.lt b (mem_ownedB h2); omega
    · omega
  · rcases newB h1 with h1 | ⟨h1, e1⟩
    · exact hi.nBA i j b cap h1
    · intro h; have := hi.lt b (mem_ownedA h); omega
  · have : b ∈ g.owned ∨ b = w.heap.size := owned_snoc.1 hb
    rw [alloc_heap, Array.size_push]
    rcases this with h | h
    · have := hi.lt b h; omega
    · omega
  · have : some b ∈ g.B ∨ b = w.heap.size := by simpa using hb
    rcases this with h' | h'
    · exact hi.iB b o' h h'
    · have := hi.iLt b o' h; omega
  · have := hi.iLt b o' h
    rw [alloc_heap, Array.size_push]; omega
  · have hlen := hi.lenB
    simp only
    rcases Nat.lt_or_ge i H.B.length with hlt | hge
    · rw [List.getElem?_append_left hlt, List.getElem?_append_left (by omega)]
      exact hi.hole i
    · rw [List.getElem?_append_right hge, List.getElem?_append_right (by omega), List.getElem?_singleton, List.getElem?_singleton]
      constructor
      · intro h
        split at h
        · injection h with h; exact absurd h hne
        · cases h
      · intro h
        split at h <;> cases h

/-- A variable is written. -/
theorem Inv.setB {w w' : World} {g : Gh} {H : Hp} (hi : Inv w g H) {i b : Nat} {bk' : Blk} (hb : g.B[i]? = some (some b))
    (hh : ∀ k, k ≠ b → w'.heap[k]? = w.heap[k]?) (hsz : w'.heap.size = w.heap.size) (hos : w'.os = w.os) (htp : w'.tape = w.tape) (hout : Outs w w')
    (hbk : Ext w g H.A w' g H.A → BlkRep w' g H.A bk' b) (hne : bk' ≠ .hole := by intro h; cases h) :
    Inv w' g { H with B := H.B.set i bk' } ∧ Ext w g H.A w' g H.A := by
  have hs : Same w g.I w' g.I := ⟨fun _ _ h => h, fun k o h => by
    have hne : k ≠ b := fun e => hi.iB k o h (e ▸ List.mem_of_getElem? hb)
    simp only [World.cell?, hh k hne]⟩
  have he : Ext w g H.A w' g H.A :=
    { ptr := fun _ _ h => h, same := hs, lenA := Nat.le_refl _, row := fun i ar' _ h => ⟨ar', h, Nat.le_refl _, rfl, fun _ => ⟨rfl, rfl⟩⟩
      heap := fun k _ h => hh k fun e => h (e ▸ mem_ownedB hb), size := by omega, owned := fun _ _ h => h, os := hos, tape := htp, output := hout, news := fun _ _ h _ _ => h }
  refine ⟨⟨by simp [hi.lenB], hi.lenA, fun j bk c h1 h2 => ?_, fun j ar q h1 h2 => ?_, hi.nB, hi.nBA, hi.nA, fun k hk => by rw [hsz]; exact hi.lt k hk, hi.iB, hi.iA, fun k o h => by rw [hsz]; exact hi.iLt k o h, hi.tab.ext he, fun j => ?_⟩, he⟩
  · by_cases hij : i = j
    · subst hij
      rw [hb] at h2
      injection h2 with h2
      injection h2 with h2
      subst h2
      have hlt : i < H.B.length := by rw [← hi.lenB]; exact (List.getElem?_eq_some_iff.1 hb).1
      simp only [List.getElem?_set_self hlt, Option.some.injEq] at h1
      subst h1
      exact hbk he
    · simp only [List.getElem?_set_ne hij] at h1
      have hne : c ≠ b := fun e => hij (hi.nB i j b hb (e ▸ h2))
      exact (hi.blk j bk c h1 h2).ext he (hh c hne)
  · obtain ⟨h3, h4⟩ := hi.arr j ar q h1 h2
    exact ⟨h3, h4.ext hs fun c cap hq => hh c fun e => hi.nBA i j b cap hb (by rw [h2, hq, e])⟩
  · by_cases hij : i = j
    · subst hij
      have hlt : i < H.B.length := by rw [← hi.lenB]; exact (List.getElem?_eq_some_iff.1 hb).1
      simp only [List.getElem?_set_self hlt, Option.some.injEq, hb, reduceCtorEq, iff_false]
      exact hne
    · simp only [List.getElem?_set_ne hij]
      exact hi.hole j

theorem owned_iff {g : Gh} {b : Nat} : b ∈ g.owned ↔ (∃ i : Nat, g.B[i]? = some (some b)) ∨ ∃ i cap : Nat, g.A[i]? = some (some (b, cap)) := by
  simp only [Gh.owned, List.mem_append, List.mem_filterMap, Option.map_eq_some_iff]
  constructor
  · rintro (⟨q, hq, rfl⟩ | ⟨q, hq, p, rfl, rfl⟩)
    · exact .inl (List.mem_iff_getElem?.1 hq)
    · obtain ⟨i, hi⟩ := List.mem_iff_getElem?.1 hq
      exact .inr ⟨i, p.2, hi⟩
  · rintro (⟨i, h⟩ | ⟨i, cap, h⟩)
    · exact .inl ⟨_, List.mem_of_getElem? h, rfl⟩
    · exact .inr ⟨_, List.mem_of_getElem? h, (b, cap), rfl, rfl⟩

/-- A row of the call's own is written, grows, moves, or is not written any more. -/
theorem Inv.setA {w w' : World} {g : Gh} {H : Hp} (hi : Inv w g H) {i : Nat} {ar ar' : Arr} {q q' : Option (Nat × Nat)} (har : H.A[i]? = some ar) (hq : g.A[i]? = some q)
    (I' : Nat → Nat → Prop) (hI : ∀ b o, g.I b o → I' b o)
    (hIn : ∀ b o, I' b o → g.I b o ∨ (∃ cap, q' = some (b, cap)) ∧ ar'.fz = true ∧ o < ar'.els.length * ar'.sz)
    (hh : ∀ k, k < w.heap.size → (∀ cap, q ≠ some (k, cap)) → w'.heap[k]? = w.heap[k]?) (hsz : w.heap.size ≤ w'.heap.size)
    (hos : w'.os = w.os) (htp : w'.tape = w.tape) (hout : Outs w w')
    (hcell : ∀ b o cap, q = some (b, cap) → g.I b o → w'.cell? ⟨b, o, none⟩ = w.cell? ⟨b, o, none⟩)
    (hq' : ∀ b cap, q' = some (b, cap) → (∃ cap', q = some (b, cap')) ∨ (w.heap.size ≤ b ∧ b < w'.heap.size))
    (hver : ar.ver ≤ ar'.ver) (hsame : ar'.ver = ar.ver → q' = q ∧ ar'.els.length = ar.els.length) (hs1 : ar'.sz = ar.sz)
    (hfz : ar.fz = true → ar'.fz = true ∧ ar.els.length ≤ ar'.els.length)
    (harr : Same w g.I w' I' → ArrRep w' ⟨g.B, g.A.set i q', I'⟩ ar' q') :
    Inv w' ⟨g.B, g.A.set i q', I'⟩ { H with A := H.A.set i ar' } ∧ Ext w g H.A w' ⟨g.B, g.A.set i q', I'⟩ (H.A.set i ar') := by
  have hiA : i < g.A.length := (List.getElem?_eq_some_iff.1 hq).1
  have hiH : i < H.A.length := (List.getElem?_eq_some_iff.1 har).1
  have hset : ∀ j, j ≠ i → (g.A.set i q')[j]? = g.A[j]? := fun j hj => List.getElem?_set_ne (Ne.symm hj)
  have hself : (g.A.set i q')[i]? = some q' := List.getElem?_set_self hiA
  have hs : Same w g.I w' I' := ⟨hI, fun b o h => by
    by_cases hb : ∃ cap, q = some (b, cap)
    · obtain ⟨cap, hb⟩ := hb
      exact hcell b o cap hb h
    · have := hh b (hi.iLt b o h) (fun cap e => hb ⟨cap, e⟩)
      simp only [World.cell?, this]⟩
  have he : Ext w g H.A w' ⟨g.B, g.A.set i q', I'⟩ (H.A.set i ar') :=
    { ptr := fun _ _ h => h, same := hs, lenA := by simp
      row := fun j ar2 hj h2 => by
        by_cases hji : j = i
        · subst hji
          rw [List.getElem?_set_self hiH] at h2
          injection h2 with h2
          subst h2
          exact ⟨ar, har, hver, hs1.symm, fun e => ⟨by simp only; rw [hself, hq, (hsame e).1], (hsame e).2⟩⟩
        · rw [List.getElem?_set_ne (Ne.symm hji)] at h2
          exact ⟨ar2, h2, Nat.le_refl _, rfl, fun _ => ⟨hset j hji, rfl⟩⟩
      heap := fun k hk ho => hh k hk fun cap e => ho (mem_ownedA (e ▸ hq)), size := hsz
      owned := fun b hb ho h => by
        rw [owned_iff] at h ho
        rcases h with ⟨j, h⟩ | ⟨j, cap, h⟩
        · exact ho (.inl ⟨j, h⟩)
        · by_cases hji : j = i
          · subst hji
            simp only [hself, Option.some.injEq] at h
            rcases hq' b cap h with ⟨cap', h⟩ | ⟨h, _⟩
            · exact ho (.inr ⟨j, cap', by rw [hq, h]⟩)
            · omega
          · simp only [hset j hji] at h
            exact ho (.inr ⟨j, cap, h⟩)
      os := hos, tape := htp, output := hout
      news := fun b o h hb ho => by
        rcases hIn b o h with h | ⟨⟨cap, hc⟩, _⟩
        · exact h
        · rcases hq' b cap hc with ⟨cap', h1⟩ | ⟨h1, _⟩
          · exact absurd (mem_ownedA (cap := cap') (by rw [hq, h1])) ho
          · omega }
  have other : ∀ j b cap, j ≠ i → g.A[j]? = some (some (b, cap)) → (∀ cap', q ≠ some (b, cap')) := fun j b cap hj h cap' e => hj (hi.nA j i b cap cap' h (by rw [hq, e]))
  have oldB : ∀ j b, g.B[j]? = some (some b) → ∀ cap, q ≠ some (b, cap) := fun j b h cap e => hi.nBA j i b cap h (by rw [hq, e])
  refine ⟨⟨hi.lenB, by simp [hi.lenA], fun j bk b h1 h2 => ?_, fun j ar2 q2 h1 h2 => ?_, hi.nB, fun j k b cap h1 h2 => ?_, fun j k b c c' h1 h2 => ?_, fun b hb => ?_, fun b o h hb => ?_,
    fun b o h j cap ar2 h1 h2 => ?_, fun b o h => ?_, hi.tab.ext he, hi.hole⟩, he⟩
  · exact (hi.blk j bk b h1 h2).ext he (hh b (hi.lt b (mem_ownedB h2)) (oldB j b h2))
  · by_cases hji : j = i
    · subst hji
      simp only [List.getElem?_set_self hiH, Option.some.injEq] at h1
      simp only [hself, Option.some.injEq] at h2
      subst h1; subst h2
      exact ⟨by rw [hs1]; exact (hi.arr j ar q har hq).1, harr hs⟩
    · simp only [List.getElem?_set_ne (Ne.symm hji)] at h1
      simp only [hset j hji] at h2
      obtain ⟨h3, h4⟩ := hi.arr j ar2 q2 h1 h2
      exact ⟨h3, h4.ext hs fun b cap e => hh b (hi.lt b (mem_ownedA (e ▸ h2))) (other j b cap hji (e ▸ h2))⟩
  · by_cases hki : k = i
    · subst hki
      simp only [hself, Option.some.injEq] at h2
      rcases hq' b cap h2 with ⟨cap', h⟩ | ⟨h, _⟩
      · exact oldB j b h1 cap' h
      · have := hi.lt b (mem_ownedB h1); omega
    · simp only [hset k hki] at h2
      exact hi.nBA j k b cap h1 h2
  · have fresh : ∀ j b c, (g.A.set i q')[j]? = some (some (b, c)) → j ≠ i → ∀ c', q' ≠ some (b, c') := by
      intro j b c h1 hj c' e
      rw [hset j hj] at h1
      rcases hq' b c' e with ⟨cap', h⟩ | ⟨h, _⟩
      · exact hj (hi.nA j i b c cap' h1 (by rw [hq, h]))
      · have := hi.lt b (mem_ownedA h1); omega
    by_cases hji : j = i <;> by_cases hki : k = i
    · omega
    · subst hji
      simp only [hself, Option.some.injEq] at h1
      exact absurd h1 (fresh k b c' h2 hki c)
    · subst hki
      simp only [hself, Option.some.injEq] at h2
      exact absurd h2 (fresh j b c h1 hji c')
    · simp only [hset j hji] at h1
      simp only [hset k hki] at h2
      exact hi.nA j k b c c' h1 h2
  · rw [owned_iff] at hb
    rcases hb with ⟨j, h⟩ | ⟨j, cap, h⟩
    · exact Nat.lt_of_lt_of_le (hi.lt b (mem_ownedB h)) hsz
    · by_cases hji : j = i
      · subst hji
        simp only [hself, Option.some.injEq] at h
        rcases hq' b cap h with ⟨cap', h⟩ | ⟨_, h⟩
        · exact Nat.lt_of_lt_of_le (hi.lt b (mem_ownedA (by rw [hq, h]))) hsz
        · exact h
      · simp only [hset j hji] at h
        exact Nat.lt_of_lt_of_le (hi.lt b (mem_ownedA h)) hsz
  · rcases hIn b o h with h | ⟨⟨cap, h⟩, _⟩
    · exact hi.iB b o h hb
    · obtain ⟨j, hj⟩ := List.mem_iff_getElem?.1 hb
      rcases hq' b cap h with ⟨cap', h⟩ | ⟨h, _⟩
      · exact oldB j b hj cap' h
      · have := hi.lt b (mem_ownedB hj); omega
  · by_cases hji : j = i
    · subst hji
      simp only [List.getElem?_set_self hiH, Option.some.injEq] at h2
      simp only [hself, Option.some.injEq] at h1
      subst h2
      rcases hIn b o h with h | ⟨_, h⟩
      · rcases hq' b cap h1 with ⟨cap', h'⟩ | ⟨h', _⟩
        · obtain ⟨hf, ho⟩ := hi.iA b o h j cap' ar (by rw [hq, h']) har
          refine ⟨(hfz hf).1, Nat.lt_of_lt_of_le ho ?_⟩
          rw [hs1]
          exact Nat.mul_le_mul_right _ (hfz hf).2
        · have := hi.iLt b o h; omega
      · exact h
    · simp only [List.getElem?_set_ne (Ne.symm hji)] at h2
      simp only [hset j hji] at h1
      rcases hIn b o h with h | ⟨⟨cap', h⟩, _⟩
      · exact hi.iA b o h j cap ar2 h1 h2
      · rcases hq' b cap' h with ⟨cap'', h'⟩ | ⟨h', _⟩
        · exact absurd h' (other j b cap hji h1 cap'')
        · have := hi.lt b (mem_ownedA h1); omega
  · rcases hIn b o h with h | ⟨⟨cap, h⟩, _⟩
    · exact Nat.lt_of_lt_of_le (hi.iLt b o h) hsz
    · rcases hq' b cap h with ⟨cap', h⟩ | ⟨_, h⟩
      · exact Nat.lt_of_lt_of_le (hi.lt b (mem_ownedA (by rw [hq, h]))) hsz
      · exact h

/-- A new row, over a block that is new, or nil yet. -/
theorem Inv.newA {w w' : World} {g : Gh} {H : Hp} (hi : Inv w g H) (hg : Grows w w') {ar : Arr} {q : Option (Nat × Nat)} (I' : Nat → Nat → Prop) (hI : ∀ b o, g.I b o → I' b o)
    (hIn : ∀ b o, I' b o → g.I b o ∨ (∃ cap, q = some (b, cap)) ∧ ar.fz = true ∧ o < ar.els.length * ar.sz)
    (hq : ∀ b cap, q = some (b, cap) → w.heap.size ≤ b ∧ b < w'.heap.size) (h0 : 0 < ar.sz)
    (harr : Same w g.I w' I' → ArrRep w' ⟨g.B, g.A ++ [q], I'⟩ ar q) :
    Inv w' ⟨g.B, g.A ++ [q], I'⟩ { H with A := H.A ++ [ar] } ∧ Ext w g H.A w' ⟨g.B, g.A ++ [q], I'⟩ (H.A ++ [ar]) := by
  have hs : Same w g.I w' I' := ⟨hI, fun b o h => by
    have := hg.heap b (hi.iLt b o h)
    simp only [World.cell?, this]⟩
  have lenA := hi.lenA
  have old : ∀ (j : Nat) (q2 : Option (Nat × Nat)), (g.A ++ [q])[j]? = some q2 → g.A[j]? = some q2 ∨ (j = g.A.length ∧ q2 = q) := by
    intro j q2 h
    rcases Nat.lt_or_ge j g.A.length with h1 | h1
    · rw [List.getElem?_append_left h1] at h; exact .inl h
    · rw [List.getElem?_append_right h1] at h
      have h2 := (List.getElem?_eq_some_iff.1 h).1
      simp at h2
      have h3 : j = g.A.length := by omega
      subst h3
      simp at h
      exact .inr ⟨rfl, h.symm⟩
  have oldH : ∀ (j : Nat) (a : Arr), (H.A ++ [ar])[j]? = some a → H.A[j]? = some a ∨ (j = H.A.length ∧ a = ar) := by
    intro j q2 h
    rcases Nat.lt_or_ge j H.A.length with h1 | h1
    · rw [List.getElem?_append_left h1] at h; exact .inl h
    · rw [List.getElem?_append_right h1] at h
      have h2 := (List.getElem?_eq_some_iff.1 h).1
      simp at h2
      have h3 : j = H.A.length := by omega
      subst h3
      simp at h
      exact .inr ⟨rfl, h.symm⟩
  have he : Ext w g H.A w' ⟨g.B, g.A ++ [q], I'⟩ (H.A ++ [ar]) :=
    { ptr := fun _ _ h => h, same := hs, lenA := by simp
      row := fun j ar2 hj h2 => by
        rw [List.getElem?_append_left hj] at h2
        exact ⟨ar2, h2, Nat.le_refl _, rfl, fun _ => ⟨by simp only; rw [List.getElem?_append_left (by omega)], rfl⟩⟩
      heap := fun b hb _ => hg.heap b hb, size := hg.size
      owned := fun b hb ho h => by
        rw [owned_iff] at h ho
        rcases h with ⟨j, h⟩ | ⟨j, cap, h⟩
        · exact ho (.inl ⟨j, h⟩)
        · rcases old j _ h with h | ⟨_, h⟩
          · exact ho (.inr ⟨j, cap, h⟩)
          · have := (hq b cap h.symm).1; omega
      os := hg.os, tape := hg.tape, output := hg.output
      news := fun b o h hb ho => by
        rcases hIn b o h with h | ⟨⟨cap, hc⟩, _⟩
        · exact h
        · have := (hq b cap hc).1; omega }
  refine ⟨⟨hi.lenB, by simp [hi.lenA], fun j bk b h1 h2 => ?_, fun j ar2 q2 h1 h2 => ?_, hi.nB, fun j k b cap h1 h2 => ?_, fun j k b c c' h1 h2 => ?_, fun b hb => ?_, fun b o h hb => ?_,
    fun b o h j cap ar2 h1 h2 => ?_, fun b o h => ?_, hi.tab.ext he, hi.hole⟩, he⟩
  · exact (hi.blk j bk b h1 h2).ext he (hg.heap b (hi.lt b (mem_ownedB h2)))
  · rcases old j _ h2 with h2' | ⟨e, h2'⟩
    · rcases oldH j _ h1 with h1' | ⟨e, h1'⟩
      · obtain ⟨h3, h4⟩ := hi.arr j ar2 q2 h1' h2'
        exact ⟨h3, h4.ext hs fun b cap e => hg.heap b (hi.lt b (mem_ownedA (e ▸ h2')))⟩
      · have := (List.getElem?_eq_some_iff.1 h2').1; omega
    · rcases oldH j _ h1 with h1' | ⟨e', h1'⟩
      · have := (List.getElem?_eq_some_iff.1 h1').1; omega
      · subst h1'; subst h2'
        exact ⟨h0, harr hs⟩
  · rcases old k _ h2 with h2 | ⟨_, h2⟩
    · exact hi.nBA j k b cap h1 h2
    · have := (hq b cap h2.symm).1; have := hi.lt b (mem_ownedB h1); omega
  · rcases old j _ h1 with h1 | ⟨e1, h1⟩ <;> rcases old k _ h2 with h2 | ⟨e2, h2⟩
    · exact hi.nA j k b c c' h1 h2
    · have := (hq b c' h2.symm).1; have := hi.lt b (mem_ownedA h1); omega
    · have := (hq b c h1.symm).1; have := hi.lt b (mem_ownedA h2); omega
    · omega
  · rw [owned_iff] at hb
    rcases hb with ⟨j, h⟩ | ⟨j, cap, h⟩
    · exact Nat.lt_of_lt_of_le (hi.lt b (mem_ownedB h)) hg.size
    · rcases old j _ h with h | ⟨_, h⟩
      · exact Nat.lt_of_lt_of_le (hi.lt b (mem_ownedA h)) hg.size
      · exact (hq b cap h.symm).2
  · rcases hIn b o h with h | ⟨⟨cap, h⟩, _⟩
    · exact hi.iB b o h hb
    · have := (hq b cap h).1; have := hi.lt b (mem_owned_of hb); omega
  · rcases old j _ h1 with h1 | ⟨e1, h1⟩
    · rcases oldH j _ h2 with h2 | ⟨e2, _⟩
      · rcases hIn b o h with h | ⟨⟨cap', h⟩, _⟩
        · exact hi.iA b o h j cap ar2 h1 h2
        · have := (hq b cap' h).1; have := hi.lt b (mem_ownedA h1); omega
      · have := (List.getElem?_eq_some_iff.1 h1).1; omega
    · rcases oldH j _ h2 with h2 | ⟨e2, h2⟩
      · have := (List.getElem?_eq_some_iff.1 h2).1; omega
      · subst h2
        rcases hIn b o h with h | ⟨_, h⟩
        · have := (hq b cap h1.symm).1; have := hi.iLt b o h; omega
        · exact h
  · rcases hIn b o h with h | ⟨⟨cap, h⟩, _⟩
    · exact Nat.lt_of_lt_of_le (hi.iLt b o h) hg.size
    · exact (hq b cap h).2
end Go.Vi
end

section
/- Vi, part 8: allocation, stores and iterators, as the machine does them. No conditions. -/
namespace Go.Vi
open Go

theorem oneCell_of {w : World} {g : Gh} {A : List Arr} {d : D} {v : Value} (h : RepD w g A d v) (hc : cellD d = true) : v.oneCell' = true := by
  obtain ⟨_, h1, h2⟩ := cellD_one h hc
  cases v <;> first | rfl | exact absurd rfl (h1 _) | exact absurd rfl (h2 _)

theorem box_run {P : Program} {w : World} (t : TypeId) (v : Value) : (Instr.box t v).run P w = .ok (.pointer (some ⟨w.heap.size, 0, none⟩)) (w.alloc (.cells v.cells t)) := by
  simp [Instr.box, newVar, Go.newRow, World.alloc_eq]

theorem box_sound {P : Program} {w : World} {g : Gh} {H : Hp} (hi : Inv w g H) {d : D} {v : Value} (t : TypeId) (hd : RepD w g H.A d v) (hc : (cellsD d).all cellD = true) (s : Sem Next)
    (hs : s.run P w = .ok (.value (.pointer (some ⟨w.heap.size, 0, none⟩))) (w.alloc (.cells v.cells t))) :
    Good P w g H.A s (.val (.ptr H.B.length 0) { H with B := H.B ++ [.cells (cellsD d)] }) := by
  obtain ⟨h1, h2⟩ := cellsD_sound hd hc
  obtain ⟨hi', he⟩ := hi.allocB (.cells (cellsD d)) (.cells v.cells t) fun w' g' he hb => ⟨v.cells, t, hb, h1, fun j x u hx hu => (h2 j x u hx hu).ext he⟩
  exact ⟨_, _, _, hs, .ptr _ _ _ (by simp [← hi.lenB]), hi', he⟩

theorem splice_get {α : Type} (l cs : List α) (off : Nat) (h : off + cs.length ≤ l.length) (j : Nat) :
    (splice l off cs)[j]? = if j < off then l[j]? else if j < off + cs.length then cs[j - off]? else l[j]? := by
  unfold splice
  split
  · rename_i hj
    rw [List.getElem?_append_left (by simp; omega), List.getElem?_take, if_pos hj]
  · rename_i hj
    have hl : (l.take off).length = off := by simp; omega
    rw [List.getElem?_append_right (by omega), hl]
    split
    · rw [List.getElem?_append_left (by omega)]
    · rw [List.getElem?_append_right (by omega), List.getElem?_drop]
      congr 1
      omega

theorem splice_length {α : Type} (l cs : List α) (off : Nat) (h : off + cs.length ≤ l.length) : (splice l off cs).length = l.length := by
  simp [splice]; omega

theorem run_storeAt {P : Program} {w : World} {t ty : TypeId} {b off : Nat} {cur : Array Value} {v : Value} (hb : w.heap[b]? = some (.cells cur ty (0, 0)))
    (hn : szOf P t = some v.cells.size) (hl : off + v.cells.size ≤ cur.size) (h1 : ∀ u ∈ v.cells.toList, u.oneCell' = true) :
    (Instr.storeAt t (.pointer (some ⟨b, off, none⟩)) v).run P w = .ok () (w.setRow b (splice cur.toList off v.cells.toList).toArray) := by
  have := run_storeCells_at P b off ty v.cells.toList 0 cur w hb (by simpa using hl) h1
  simp only [Nat.add_zero] at this
  simp [Instr.storeAt, Instr.sureAddr, storeVar, run_szOf hn, this, splice]

theorem setRow_same (w : World) (b : Nat) (cs : Array Value) : (w.setRow b cs).heap.size = w.heap.size ∧ (w.setRow b cs).os = w.os ∧ (w.setRow b cs).tape = w.tape ∧ Outs w (w.setRow b cs) := by
  simp [World.setRow, Outs]

theorem cellD_of_one {A : List Arr} {d : D} {x : PD} (h : D.pd? A d = some x) (h1 : x.one = true) : cellD d = true := by
  cases d with
  | p y => simp only [D.pd?, Option.some.injEq] at h; subst h; cases y <;> simp_all [cellD, PD.one]
  | agg l =>
    simp only [D.pd?, Option.map_eq_some_iff] at h
    obtain ⟨_, _, rfl⟩ := h
    simp [PD.one] at h1
  | _ => first | rfl | simp [D.pd?] at h

theorem pds_get {A : List Arr} : ∀ (l : List D) (xs : List PD), D.pds? A l = some xs → ∀ (j : Nat) (d : D), l[j]? = some d → ∃ x, xs[j]? = some x ∧ D.pd? A d = some x
  | [], _, _, j, d, h => by simp at h
  | c :: r, xs, e, j, d, h => by
    simp only [D.pds?] at e
    split at e
    · rename_i y ys hy hys
      injection e with e
      subst e
      cases j with
      | zero => simp at h; subst h; exact ⟨y, by simp, hy⟩
      | succ j => simpa using pds_get r ys hys j d (by simpa using h)
    · cases e

theorem setEl_cells {e : PD} {off : Nat} {xs : List PD} {sz : Nat} (he : e.cells.length = sz) (h0 : 0 < xs.length) (hl : off + xs.length ≤ sz) (h1 : xs.all PD.one = true) :
    (setEl e off xs).cells = splice e.cells off xs := by
  cases e with
  | agg l => rfl
  | _ =>
    simp only [PD.cells, List.length_singleton] at he
    subst he
    obtain ⟨x, rfl⟩ : ∃ x, xs = [x] := by
      match xs, h0, hl with
      | [x], _, _ => exact ⟨x, rfl⟩
      | _ :: _ :: _, _, hl => simp at hl; omega
    have : off = 0 := by simp at hl; omega
    subst this
    have hx : x.one = true := by simpa using h1
    cases x <;> simp_all [setEl, PD.cells, splice, PD.one]

theorem store_sound {P : Program} {w : World} {g : Gh} {H H' : Hp} (hi : Inv w g H) {m : Mk} {t : TypeId} {n : Nat} (hn : szOf P t = some n) {a d : D} {u v : Value}
    (ha : RepD w g H.A a u) (hd : RepD w g H.A d v) (h : storeD m H a (cellsD d) n = some H') :
    ∃ w' g', (Instr.storeAt t u v).run P w = .ok () w' ∧ Inv w' g' H' ∧ Ext w g H.A w' g' H'.A := by
  cases ha with
  | ptr i off b hb =>
    simp only [storeD] at h
    split at h
    · rename_i l hl
      split at h
      · rename_i hc
        injection h with h
        subst h
        obtain ⟨hc1, hc2, hc3⟩ := hc
        obtain ⟨cs, ty, hcs, hsz, hrep⟩ := hi.blk i _ b hl hb
        obtain ⟨h1, h2⟩ := cellsD_sound hd hc3
        have hone : ∀ x ∈ v.cells.toList, x.oneCell' = true := fun x hx => by
          obtain ⟨j, hj⟩ := List.mem_iff_getElem?.1 hx
          have hlt : j < (cellsD d).length := by rw [← h1, ← Array.length_toList]; exact (List.getElem?_eq_some_iff.1 hj).1
          have hj' : (cellsD d)[j]? = some (cellsD d)[j] := by simp [hlt]
          exact oneCell_of (h2 j _ x hj' (by simpa using hj)) (List.all_eq_true.1 hc3 _ (List.mem_of_getElem? hj'))
        have hrun := run_storeAt (P := P) (t := t) (v := v) (off := off) hcs (by rw [h1, hc1]; exact hn) (by rw [h1]; omega) hone
        obtain ⟨e1, e2, e3, e4⟩ := setRow_same w b (splice cs.toList off v.cells.toList).toArray
        have := hi.setB (bk' := .cells (splice l off (cellsD d))) hb (fun k hk => setRow_other w b k _ hk) e1 e2 e3 e4 fun he =>
          ⟨_, ty, setRow_heap w b cs _ ty _ hcs, by simp [splice_length _ _ _ (show off + (cellsD d).length ≤ l.length by omega), splice_length _ _ _ (show off + v.cells.toList.length ≤ cs.toList.length by simp; omega), hsz], fun j x y hx hy => by
            rw [splice_get _ _ _ (by omega)] at hx
            rw [List.getElem?_toArray, splice_get _ _ _ (by simp; omega)] at hy
            simp only [Array.length_toList, h1] at hy
            split at hx
            · rename_i hj
              rw [if_pos hj] at hy
              exact (hrep j x y hx (by simpa using hy)).ext he
            · rename_i hj
              rw [if_neg hj] at hy
              split at hx
              · rename_i hj2
                rw [if_pos hj2] at hy
                exact (h2 _ x y hx (by simpa using hy)).ext he
              · rename_i hj2
                rw [if_neg hj2] at hy
                exact (hrep j x y hx (by simpa using hy)).ext he⟩
        exact ⟨_, g, hrun, this.1, this.2⟩
      · cases h
    · cases h
  | oelt i ver k off v' hi' hv h' =>
    simp only [storeD] at h
    split at h
    · rename_i ar xs hl hxs
      split at h
      · rename_i e he
        split at h
        · rename_i hc
          injection h with h
          subst h
          obtain ⟨hc1, hc2, hc3, hc4, hc5⟩ := hc
          obtain ⟨har, hver⟩ := live_some hl
          obtain ⟨b, cap, hq, rfl⟩ := (h' _ har).2 hver
          obtain ⟨hsz0, hnil, hcap, cs, hcs, hsz, hle, hel, hcell, hfz⟩ := hi.arr i _ _ har hq
          have hall : (cellsD d).all cellD = true := by
            rw [List.all_eq_true]
            intro x hx
            obtain ⟨j, hj⟩ := List.mem_iff_getElem?.1 hx
            obtain ⟨y, hy, hxy⟩ := pds_get _ _ hxs j x hj
            exact cellD_of_one hxy (List.all_eq_true.1 hc5 y (List.mem_of_getElem? hy))
          obtain ⟨h1, h2⟩ := cellsD_sound hd hall
          obtain ⟨h3, h4⟩ := pds_sound hi _ _ _ h1 h2 hxs
          have hone : ∀ x ∈ v.cells.toList, x.oneCell' = true := fun x hx => by
            obtain ⟨j, hj⟩ := List.mem_iff_getElem?.1 hx
            have hlt : j < (cellsD d).length := by rw [← h1, ← Array.length_toList]; exact (List.getElem?_eq_some_iff.1 hj).1
            have hj' : (cellsD d)[j]? = some (cellsD d)[j] := by simp [hlt]
            exact oneCell_of (h2 j _ x hj' (by simpa using hj)) (List.all_eq_true.1 hall _ (List.mem_of_getElem? hj'))
          have hk : k < ar.els.length := (List.getElem?_eq_some_iff.1 he).1
          have hes : e.cells.length = ar.sz := hel e (List.mem_of_getElem? he)
          have hkc : k * ar.sz + ar.sz ≤ cap * ar.sz := by rw [← Nat.succ_mul]; exact Nat.mul_le_mul_right _ (by omega)
          have hfit : k * ar.sz + off + v.cells.size ≤ cs.size := by rw [h1, hsz]; omega
          have hrun := run_storeAt (P := P) (t := t) (v := v) (off := k * ar.sz + off) hcs (by rw [h1, hc1]; exact hn) hfit hone
          obtain ⟨e1, e2, e3, e4⟩ := setRow_same w b (splice cs.toList (k * ar.sz + off) v.cells.toList).toArray
          have hcl := setEl_cells (xs := xs) (off := off) hes (by omega) (by omega) hc5
          have key := hi.setA (ar' := { ar with els := ar.els.set k (setEl e off xs) }) (q' := some (b, cap)) (w' := w.setRow b (splice cs.toList (k * ar.sz + off) v.cells.toList).toArray)
            har hq g.I (fun _ _ h => h) (fun _ _ h => .inl h) (fun j hj hne => setRow_other w b j _ fun e => hne cap (by rw [e])) (by omega) e2 e3 e4
            (fun b' o cap' hq' hI => by
              injection hq' with hq'
              simp only [Prod.mk.injEq] at hq'
              obtain ⟨rfl, rfl⟩ := hq'
              have := (hi.iA b o hI i cap ar hq har).1
              rw [hc4] at this
              cases this)
            (fun b' cap' e => .inl ⟨cap', e⟩) (Nat.le_refl _) (fun _ => ⟨rfl, by simp⟩) rfl (fun h => by rw [hc4] at h; cases h)
            (fun hs => ⟨hnil, hcap, _, setRow_heap w b cs _ ar.ty _ hcs, by
                simp only [List.size_toArray]
                rw [splice_length _ _ _ (by simp; omega)]
                simpa using hsz, by simpa using hle, fun e' he' => by
                  rcases List.mem_or_eq_of_mem_set he' with h5 | h5
                  · exact hel e' h5
                  · rw [h5, hcl, splice_length _ _ _ (by omega)]; exact hes, fun j c e' x he' hx => ?_, fun h => by rw [hc4] at h; cases h⟩)
          · exact ⟨_, _, hrun, by simpa using key⟩
          · have hjlt : j < ar.els.length := by have := (List.getElem?_eq_some_iff.1 he').1; simpa using this
            simp only [List.getElem?_toArray]
            by_cases hjk : j = k
            · subst hjk
              rw [List.getElem?_set_self hjlt] at he'
              injection he' with he'
              subst he'
              rw [hcl, splice_get _ _ _ (by omega)] at hx
              rw [splice_get _ _ _ (by simp; omega)]
              simp only [Array.length_toList, h1]
              have hclt : c < ar.sz := by
                have : c < (splice e.cells off xs).length := by
                  rcases Nat.lt_or_ge c (splice e.cells off xs).length with h | h
                  · exact h
                  · exfalso
                    rw [splice_length _ _ _ (by omega)] at h
                    rw [if_neg (by omega), if_neg (by omega), List.getElem?_eq_none h] at hx
                    cases hx
                rwa [splice_length _ _ _ (by omega), hes] at this
              split at hx
              · rename_i hlt
                rw [if_pos (by omega)]
                obtain ⟨u, hu, hr⟩ := hcell j c e x he hx
                exact ⟨u, by simpa using hu, hr.same hs⟩
              · rename_i hge
                rw [if_neg (by omega)]
                split at hx
                · rename_i hlt
                  rw [if_pos (by omega)]
                  have hlt2 : c - off < v.cells.size := by omega
                  refine ⟨v.cells[c - off], ?_, (h4 (c - off) x _ hx (by simp [hlt2])).same hs⟩
                  rw [show j * ar.sz + c - (j * ar.sz + off) = c - off from by omega]
                  simp [hlt2]
                · rename_i hge2
                  rw [if_neg (by omega)]
                  obtain ⟨u, hu, hr⟩ := hcell j c e x he hx
                  exact ⟨u, by simpa using hu, hr.same hs⟩
            · rw [List.getElem?_set_ne (Ne.symm hjk)] at he'
              have hes' : e'.cells.length = ar.sz := hel e' (List.mem_of_getElem? he')
              have hclt : c < ar.sz := by rw [← hes']; exact (List.getElem?_eq_some_iff.1 hx).1
              obtain ⟨u, hu, hr⟩ := hcell j c e' x he' hx
              refine ⟨u, ?_, hr.same hs⟩
              rw [splice_get _ _ _ (by simp; omega)]
              simp only [Array.length_toList, h1]
              rcases Nat.lt_or_ge j k with hlt | hge
              · have : j * ar.sz + ar.sz ≤ k * ar.sz := by rw [← Nat.succ_mul]; exact Nat.mul_le_mul_right _ hlt
                rw [if_pos (by omega)]
                simpa using hu
              · have : k * ar.sz + ar.sz ≤ j * ar.sz := by rw [← Nat.succ_mul]; exact Nat.mul_le_mul_right _ (by omega)
                rw [if_neg (by omega), if_neg (by omega)]
                simpa using hu
        · cases h
      · cases h
    · cases h
  | _ => simp [storeD] at h
end Go.Vi
end

section
/- Vi, part 9: append. No conditions. -/
namespace Go.Vi
open Go Go.Lib

theorem one_rep {w : World} {I : Nat → Nat → Prop} {x : PD} {u : Value} (h : RepP w I x u) (h1 : x.one = true) : u.oneCell' = true := by
  cases h <;> first | rfl | simp [PD.one] at h1

theorem fits_spec {sz : Nat} {l : List PD} (h : fits sz l = true) : ∀ e ∈ l, e.cells.length = sz ∧ ∀ x ∈ e.cells, x.one = true := fun e he => by
  have := List.all_eq_true.1 h e he
  simp only [Bool.and_eq_true, beq_iff_eq, List.all_eq_true] at this
  exact this

/-- What is appended, cell by cell. -/
structure Src (P : Program) (w : World) (I : Nat → Nat → Prop) (sz : Nat) (ys : List PD) (v : Value) (news : List Value) : Prop where
  len : news.length = ys.length * sz
  one : ∀ u ∈ news, u.oneCell' = true
  rep : ∀ (j c : Nat) (e x : PD), ys[j]? = some e → e.cells[c]? = some x → ∃ u, news[j * sz + c]? = some u ∧ RepP w I x u
  lenOf : ∀ w' : World, (Builtin.lenOf v).run P w' = .ok ys.length w'
  first : ∀ w' : World, w'.heap = w.heap → (Builtin.firstCells sz ys.length v).run P w' = .ok news.toArray w'

/-- Cells that lie in a row, as one list. -/
theorem row_cells {R : Nat → Nat → Value → Prop} {l : List PD} {sz : Nat} (h0 : 0 < sz) (hsz : ∀ e ∈ l, e.cells.length = sz)
    (h : ∀ (j c : Nat) (e x : PD), l[j]? = some e → e.cells[c]? = some x → ∃ v, R j c v) :
    ∃ cs : List Value, cs.length = l.length * sz ∧ ∀ (k : Nat) (u : Value), cs[k]? = some u → R (k / sz) (k % sz) u := by
  refine cells_list (R := fun k u => R (k / sz) (k % sz) u) (l.length * sz) fun k hk => ?_
  have hj : k / sz < l.length := Nat.div_lt_of_lt_mul (by rw [Nat.mul_comm]; exact hk)
  have he : l[k / sz]? = some l[k / sz] := by simp [hj]
  have hc : k % sz < l[k / sz].cells.length := by rw [hsz _ (List.mem_of_getElem? he)]; exact Nat.mod_lt _ h0
  exact h (k / sz) (k % sz) _ l[k / sz].cells[k % sz] he (by simp [hc])

theorem div_mod_at {sz j c : Nat} (hc : c < sz) : (j * sz + c) / sz = j ∧ (j * sz + c) % sz = c := by
  constructor
  · rw [Nat.mul_comm, Nat.mul_add_div (by omega), Nat.div_eq_of_lt hc, Nat.add_zero]
  · rw [Nat.mul_comm, Nat.mul_add_mod, Nat.mod_eq_of_lt hc]

theorem at_lt {l : List PD} {sz j c : Nat} {e x : PD} (hsz : ∀ e ∈ l, e.cells.length = sz) (he : l[j]? = some e) (hx : e.cells[c]? = some x) : c < sz ∧ j * sz + c < l.length * sz := by
  have h1 : c < sz := by rw [← hsz e (List.mem_of_getElem? he)]; exact (List.getElem?_eq_some_iff.1 hx).1
  have h2 : j < l.length := (List.getElem?_eq_some_iff.1 he).1
  have h3 : j * sz + sz ≤ l.length * sz := by rw [← Nat.succ_mul]; exact Nat.mul_le_mul_right _ h2
  exact ⟨h1, by omega⟩

theorem src_row {P : Program} {w : World} {I : Nat → Nat → Prop} {sz : Nat} {ys : List PD} {b o cap : Nat} (h0 : 0 < sz) (hf : fits sz ys = true)
    (h : ∀ (j c : Nat) (e x : PD), ys[j]? = some e → e.cells[c]? = some x → ∃ v, w.cell? ⟨b, o + (j * sz + c), none⟩ = some v ∧ RepP w I x v) :
    ∃ news, Src P w I sz ys (.slice (some ⟨b, o, none⟩) ys.length cap) news := by
  have hsz : ∀ e ∈ ys, e.cells.length = sz := fun e he => (fits_spec hf e he).1
  obtain ⟨cs, hl, hcs⟩ := row_cells (R := fun j c v => w.cell? ⟨b, o + (j * sz + c), none⟩ = some v ∧ ∀ e x, ys[j]? = some e → e.cells[c]? = some x → RepP w I x v) h0 hsz
    (fun j c e x he hx => by
      obtain ⟨v, hv, hr⟩ := h j c e x he hx
      exact ⟨v, hv, fun e' x' he' hx' => by
        rw [he] at he'; injection he' with he'; subst he'
        rw [hx] at hx'; injection hx' with hx'; subst hx'
        exact hr⟩)
  have back : ∀ k, k / sz * sz + k % sz = k := fun k => by rw [Nat.mul_comm]; exact Nat.div_add_mod k sz
  refine ⟨cs, hl, fun u hu => ?_, fun j c e x he hx => ?_, fun w' => by simp [Builtin.lenOf], fun w' hw => ?_⟩
  · obtain ⟨k, hk⟩ := List.mem_iff_getElem?.1 hu
    have hklt : k < ys.length * sz := by rw [← hl]; exact (List.getElem?_eq_some_iff.1 hk).1
    have hj : k / sz < ys.length := Nat.div_lt_of_lt_mul (by rw [Nat.mul_comm]; exact hklt)
    have he : ys[k / sz]? = some ys[k / sz] := by simp [hj]
    have hc : k % sz < ys[k / sz].cells.length := by rw [hsz _ (List.mem_of_getElem? he)]; exact Nat.mod_lt _ h0
    have hx : ys[k / sz].cells[k % sz]? = some ys[k / sz].cells[k % sz] := by simp [hc]
    exact one_rep ((hcs k u hk).2 _ _ he hx) ((fits_spec hf _ (List.mem_of_getElem? he)).2 _ (List.mem_of_getElem? hx))
  · obtain ⟨h1, h2⟩ := at_lt hsz he hx
    have hk : cs[j * sz + c]? = some cs[j * sz + c] := by simp [hl, h2]
    obtain ⟨e1, e2⟩ := div_mod_at (j := j) h1
    have := hcs _ _ hk
    rw [e1, e2] at this
    exact ⟨_, hk, this.2 e x he hx⟩
  · refine run_firstCells_some (P := P) w' sz ys.length ⟨b, o, none⟩ ys.length cap cs hl fun j v hj => ?_
    have := (hcs j v hj).1
    rw [back j] at this
    rw [Addr.add_lit]
    simpa [World.cell?, hw] using this

theorem src_nil {P : Program} {w : World} {I : Nat → Nat → Prop} {sz : Nat} (a : Option Addr) (cap : Nat) : Src P w I sz [] (.slice a 0 cap) [] := by
  refine ⟨by simp, by simp, fun j c e x h => by simp at h, fun w' => by simp [Builtin.lenOf], fun w' _ => ?_⟩
  cases a <;> simp [Builtin.firstCells, loadCells, loadCellsFrom]

theorem src_sound {P : Program} {w : World} {g : Gh} {H : Hp} (hi : Inv w g H) {sz : Nat} (h0 : 0 < sz) {d : D} {v : Value} {ys : List PD} (hd : RepD w g H.A d v)
    (h : srcD H d = some ys) (hf : fits sz ys = true) : ∃ news, Src P w g.I sz ys v news := by
  have ofP : ∀ v, RepP w g.I (.sl ys) v → ∃ news, Src P w g.I sz ys v news := by
    intro v hv
    obtain ⟨a, cap, rfl, hne⟩ := hv.sl_inv
    cases ys with
    | nil => exact ⟨[], src_nil a cap⟩
    | cons y ys =>
      obtain ⟨b, o, sz', rfl, _, hall, hrow⟩ := hne (by simp)
      have e1 : sz' = sz := by rw [← hall y (by simp)]; exact (fits_spec hf y (by simp)).1
      subst e1
      exact src_row h0 hf fun j c e x he hx => (hrow j c e x he hx).2
  cases hd with
  | p x v hx =>
    cases x with
    | str s =>
      cases hx
      simp only [srcD, Option.some.injEq] at h
      subst h
      have hs : s.data.toList.length = s.size := by rw [Array.length_toList]; rfl
      by_cases hz : s.size = 0
      · refine ⟨[], by simp [hz, hs], by simp, fun j c e x h => ?_, fun w' => by simp [Builtin.lenOf, hs], fun w' _ => ?_⟩
        · have := (List.getElem?_eq_some_iff.1 h).1
          simp [hs, hz] at this
        · have : s.data = #[] := by
            apply Array.eq_empty_of_size_eq_zero
            exact hz
          simp [Builtin.firstCells, this]
      · have h1 : sz = 1 := by
          have hl : 0 < (s.data.toList.map fun b => PD.int .u8 b.toNat).length := by simp [hs]; omega
          have := (fits_spec hf _ (List.getElem_mem hl)).1
          simp [PD.cells] at this
          omega
        subst h1
        refine ⟨strCells s, by simp [strCells_length, hs], strCells_oneCell s, fun j c e x he hx => ?_, fun w' => by simp [Builtin.lenOf, hs], fun w' _ => ?_⟩
        · simp only [List.getElem?_map, Option.map_eq_some_iff] at he
          obtain ⟨b, hb, rfl⟩ := he
          simp only [PD.cells] at hx
          cases c with
          | zero =>
            simp at hx
            subst hx
            exact ⟨_, by simp [strCells, hb], .int _ _⟩
          | succ c => simp at hx
        · have := run_firstCells_string (P := P) w' 1 s
          simpa [hs] using this
    | sl l => simp only [srcD, Option.some.injEq] at h; subst h; exact ofP v hx
    | _ => simp [srcD] at h
  | litN => simp only [srcD, Option.some.injEq] at h; subst h; exact ⟨[], src_nil _ _⟩
  | lit l b o hx => simp only [srcD, Option.some.injEq] at h; subst h; exact ofP _ hx
  | clip l a hx => simp only [srcD, Option.some.injEq] at h; subst h; exact ofP _ hx
  | emp a c => simp only [srcD, Option.some.injEq] at h; subst h; exact ⟨[], src_nil _ _⟩
  | own i ver v hi' hv h' =>
    simp only [srcD, Option.map_eq_some_iff] at h
    obtain ⟨ar, hl, rfl⟩ := h
    obtain ⟨har, hver, q, hq, rfl, hsz0, hA⟩ := own_live hi (.own i ver v hi' hv h') hl
    cases q with
    | none => rw [hA.1]; exact ⟨[], src_nil _ _⟩
    | some q =>
      obtain ⟨b, cap⟩ := q
      obtain ⟨_, _, cs, hcs, hsz, hle, hel, hcell, _⟩ := hA
      cases hels : ar.els with
      | nil => exact ⟨[], src_nil _ _⟩
      | cons y ys =>
        have e1 : ar.sz = sz := by
          rw [← hel y (by simp [hels])]
          exact (fits_spec hf y (by simp [hels])).1
        rw [← hels]
        exact src_row h0 hf fun j c e x he hx => by
          obtain ⟨u, hu, hr⟩ := hcell j c e x he hx
          rw [e1] at hu
          exact ⟨u, by rw [cell_of_block hcs, Nat.zero_add]; exact hu, hr⟩
  | _ => simp [srcD] at h

section
variable {P : Program} {w : World} {I : Nat → Nat → Prop} {t u ty e : TypeId} {i : TypeInfo} {du : TypeDesc} (ht : P.underlying t = some (.slice e)) (hi : P.info? e = some i)
  (hu : P.underlying u = some du) (hdu : ∀ k, du ≠ .int k)
include ht hi hu hdu

theorem append_room {b n cap : Nat} {cur : Array Value} {ys : List PD} {x : Value} {news : List Value} (hs : Src P w I i.size ys x news)
    (hb : w.heap[b]? = some (.cells cur e (0, 0))) (hroom : n + ys.length ≤ cap) (hfit : n * i.size + news.length ≤ cur.size) :
    (Builtin.append_ #[t, u] ty #[.slice (some ⟨b, 0, none⟩) n cap, x]).run P w =
      .ok (.slice (some ⟨b, 0, none⟩) (n + ys.length) cap) (w.setRow b (splice cur.toList (n * i.size) news).toArray) := by
  have hst := run_storeCells_at P b (n * i.size) e news 0 cur w hb (by simpa using hfit) hs.one
  simp only [Nat.add_zero] at hst
  have hd : (match du with | .int _ => true | _ => false) = false := by cases du <;> first | rfl | exact absurd rfl (hdu _)
  simp [Builtin.append_, run_underlying ht, run_underlying hu, sizeOf, typeInfo, hi, hd, hs.lenOf, hroom, hs.first w rfl, Addr.add_lit, hst, splice]

theorem append_none {ys : List PD} {x : Value} {news : List Value} (hs : Src P w I i.size ys x news) (h0 : ys = []) :
    (Builtin.append_ #[t, u] ty #[.slice none 0 0, x]).run P w = .ok (.slice none 0 0) w := by
  subst h0
  have hd : (match du with | .int _ => true | _ => false) = false := by cases du <;> first | rfl | exact absurd rfl (hdu _)
  have h1 := hs.lenOf w
  have h2 := hs.first w rfl
  simp only [List.length_nil] at h1 h2
  simp [Builtin.append_, run_underlying ht, run_underlying hu, sizeOf, typeInfo, hi, hd, h1, h2]

theorem append_grow {z : Value} (hz : i.zero = some z) {base : Option Addr} {n cap : Nat} {olds : List Value}
    (hold : ∀ w' : World, w'.heap = w.heap → (Builtin.firstCells i.size n (.slice base n cap)).run P w' = .ok olds.toArray w')
    {ys : List PD} {x : Value} {news : List Value} (hs : Src P w I i.size ys x news)
    (hg : cap < n + ys.length) (hb : (n + ys.length) * i.bytes ≤ 140737488355328) (h0 : 0 < i.bytes) :
    (Builtin.append_ #[t, u] ty #[.slice base n cap, x]).run P w =
      .ok (.slice (some ⟨w.heap.size, 0, none⟩) (n + ys.length) (grownCap w (n + ys.length) cap e))
        (w.drew.alloc (.cells (olds.toArray ++ news.toArray ++ Builtin.zeroCells z.cells (grownCap w (n + ys.length) cap e - (n + ys.length))) e)) := by
  have hd : (match du with | .int _ => true | _ => false) = false := by cases du <;> first | rfl | exact absurd rfl (hdu _)
  have hle : n + ys.length ≤ (n + ys.length) * i.bytes := Nat.le_mul_of_pos_right _ h0
  have hn : ¬ (n + ys.length ≤ cap) := by omega
  have h63' : ¬ (9223372036854775807 < ((n : Int) + (ys.length : Int))) := by omega
  have hfit := growslice_fits hg hb
  have h48' : ¬ (281474976710656 < Builtin.nextslicecap (n + ys.length) cap * i.bytes) := by omega
  have hf := hs.first w.drew rfl
  have hfo := hold w.drew rfl
  simp [Builtin.append_, run_underlying ht, run_underlying hu, sizeOf, typeInfo, zeroValue, hi, hz, hd, hs.lenOf, hn, h63', h48', Question.forced, hf, hfo, Go.newRow, grownCap]
  congr 2
  apply Array.ext'
  simp [List.append_assoc]
end
end Go.Vi
end
