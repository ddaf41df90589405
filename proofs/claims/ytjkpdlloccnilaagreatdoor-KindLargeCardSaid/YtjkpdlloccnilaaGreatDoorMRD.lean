/- It is proved here how arguments of the laws are read as data of the evaluator; conditions stand with each. -/
import Derived.Test.YtjkpdlloccnilaaGreatDoorMF
import Derived.WalkKit
import Derived.ProofKit
import Derived.OpenShut
import Derived.ShutString
import Derived.ChangeOld
import Derived.Below
import Derived.SizedLaws
import Derived.Test.YtjkpdlloccnilaaGreatDoorMKA
set_option linter.unusedVariables false
set_option linter.unusedSimpArgs false

section
/- Vi: what is read as data is what the evaluator calls data, for all types of numbers, texts, truths, structs, arrays and slices; a law's call out of the evaluator's answer. No conditions. -/
namespace Go.Vi
open Go Go.Lib Go.Proofs Go.RowKit Go.ChangeShapes Go.WideShapes Go.ChangeAt
set_option maxRecDepth 100000

/-- All that lay there when the call began. -/
def I0 (W : World) : Nat → Nat → Prop := fun b _ => b < W.heap.size
def G0 (W : World) : Gh := ⟨[], [], I0 W⟩

theorem inv0 (W : World) (ht : Tab W (G0 W)) : Inv W (G0 W) H00 where
  lenB := rfl
  lenA := rfl
  blk i bk b h := by simp [H00] at h
  arr i ar q h := by simp [H00] at h
  nB i j b h := by simp [G0] at h
  nBA i j b cap h := by simp [G0] at h
  nA i j b c c' h := by simp [G0] at h
  lt b h := by simp [G0, Gh.owned] at h
  iB b o _ h := by simp [G0] at h
  iA b o _ i cap ar h := by simp [G0] at h
  iLt b o h := h
  tab := ht
  hole i := by simp [H00, G0]

theorem law_calls {f : FuncId} (hf : f < 1000000000) {args : List D} {vs : List Value} {W0 : World} (ht : Tab W0 (G0 W0)) (h : ∀ H, W f args H = some (.ret (.p (.bool true)), H)) (hl : vs.length = args.length)
    (hp : ∀ (j : Nat) (d : D) (v : Value), args[j]? = some d → vs[j]? = some v → RepD W0 (G0 W0) [] d v) :
    Calls Tryz.prog f vs.toArray W0 fun e W' => e = .returned (.bool true) ∧ Below W0.heap.size W0 W' := by
  refine (((W_ok f args H00 _ _ (h H00)).1 hf).2 W0 (G0 W0) vs (inv0 W0 ht) ⟨hl, hp⟩).mono fun e W' hpost => ?_
  obtain ⟨g', hi', he', v, rfl, hr⟩ := hpost
  have hv := inv_bool hr
  subst hv
  exact ⟨rfl, he'.os, he'.tape, he'.output.1, he'.size, fun k hk => he'.heap k hk (by simp [G0, Gh.owned])⟩

/-! ### Reading -/
section
variable {H : Type} {en : TypeId × Value → H} {W : World}

/-- Cells that stand for data. -/
def CellsRep (W : World) (ps : List PD) (cs : List Value) : Prop := cs.length = ps.length ∧ ∀ (i : Nat) (p : PD) (c : Value), ps[i]? = some p → cs[i]? = some c → RepP W (I0 W) p c

def RdN (en : TypeId × Value → H) (W : World) (n : Nat) (t : TypeId) {α : Type} (ea : α → PD) : Prop :=
  ∀ cs x, DataW.trod en Tryz.prog W 0 (fun _ => true) true n t cs = some x → ∃ a : α, CellsRep W (ea a).cells cs

theorem exists_list {α : Type} {R : Nat → α → Prop} (n : Nat) (h : ∀ i, i < n → ∃ a, R i a) : ∃ l : List α, l.length = n ∧ ∀ (i : Nat) (a : α), l[i]? = some a → R i a := by
  induction n with
  | zero => exact ⟨[], rfl, fun i a h => by simp at h⟩
  | succ n ih =>
    obtain ⟨l, hl, hr⟩ := ih fun i hi => h i (by omega)
    obtain ⟨a, ha⟩ := h n (by omega)
    refine ⟨l ++ [a], by simp [hl], fun i b hb => ?_⟩
    rw [List.getElem?_append] at hb
    split at hb
    · exact hr i b hb
    · rename_i hge
      have h1 := (List.getElem?_eq_some_iff.1 hb).1
      simp at h1
      have e : i = n := by omega
      subst e
      simp [hl] at hb
      subst hb
      exact ha

theorem cell_lt {a : Addr} {v : Value} (h : W.cell? a = some v) : a.block < W.heap.size ∧ a.spot = none := by
  unfold World.cell? at h
  split at h
  · rename_i c t fr hc
    refine ⟨(Array.getElem?_eq_some_iff.1 hc).1, ?_⟩
    split at h
    · cases h
    · rename_i hs
      cases hx : a.spot with
      | none => rfl
      | some _ => rw [hx] at hs; simp at hs
  · cases h

theorem slice_read {α : Type} {ea : α → PD} {t e : TypeId} {sz n : Nat} (hu : Tryz.prog.underlying t = some (.slice e)) (hc : Tryz.prog.cellsOf e = sz) (h0 : 0 < sz) (hel : ∀ a, (ea a).cells.length = sz)
    (ih : RdN en W n e ea) (cs : List Value) (x : DataW H × List MemPlace) (h : DataW.trod en Tryz.prog W 0 (fun _ => true) true (n + 1) t cs = some x) :
    ∃ (l : List α) (sv : Value), cs = [sv] ∧ RepP W (I0 W) (.sl (l.map ea)) sv ∧ (l = [] ∨ ∃ es rs, x.1 = .slice es rs ∧ l.length = es.length) := by
  rcases DataW.trod_slice hu h with ⟨rfl, rfl⟩ | ⟨a, len, cap, elems, rest, m, hm, rfl, rfl, _, hlc, _, hlen, hels, _, _⟩
  · exact ⟨[], _, rfl, .nil _ _, .inl rfl⟩
  · have hm : m = n := by omega
    subst hm
    have each : ∀ i, i < len → ∃ y : α, ∃ ci : List Value, W.cells? 0 (a.add (i * sz)) sz = some ci ∧ CellsRep W (ea y).cells ci := by
      intro i hi
      have h1 := hels i hi
      rw [hc] at h1
      have h2 : elems[i]? = some elems[i] := by simp [hlen, hi]
      rw [h2] at h1
      obtain ⟨ci, hci, hx⟩ := Option.bind_eq_some_iff.1 h1
      obtain ⟨y, hy⟩ := ih ci _ hx
      exact ⟨y, ci, hci, hy⟩
    obtain ⟨l, hl, hr⟩ := exists_list (R := fun i y => ∃ ci : List Value, W.cells? 0 (a.add (i * sz)) sz = some ci ∧ CellsRep W (ea y).cells ci) len each
    refine ⟨l, _, rfl, ?_, .inr ⟨_, _, rfl, by simp [hl, hlen]⟩⟩
    by_cases hz : len = 0
    · have : l = [] := List.eq_nil_of_length_eq_zero (by omega)
      subst this
      subst hz
      exact .nil _ _
    · -- the address is a plain one
      obtain ⟨b, o, spot⟩ := a
      have cell : ∀ (j c : Nat) (y : α) (p : PD), l[j]? = some y → (ea y).cells[c]? = some p → b < W.heap.size ∧ (j = 0 → c = 0 → spot = none) ∧ ∃ v, W.cell? ⟨b, o + (j * sz + c), none⟩ = some v ∧ RepP W (I0 W) p v := by
        intro j c y p hy hp
        obtain ⟨ci, hci, hrep⟩ := hr j y hy
        obtain ⟨_, h2, h3⟩ := World.cells?_some hci
        have hcl : c < (ea y).cells.length := (List.getElem?_eq_some_iff.1 hp).1
        rw [hel y] at hcl
        have hcc : ci[c]? = some ci[c] := by simp [h2, hcl]
        have h4 := h3 c hcl
        rw [hcc] at h4
        have hlt := cell_lt h4
        have hblk : ((⟨b, o, spot⟩ : Addr).add (j * sz)).add c = if j * sz + c = 0 then ⟨b, o, spot⟩ else ⟨b, o + (j * sz + c), none⟩ := by
          unfold Addr.add
          by_cases hj : j * sz = 0
          · by_cases hc0 : c = 0
            · simp [hj, hc0]
            · simp [hj, hc0]
          · by_cases hc0 : c = 0
            · simp [hj, hc0]
            · simp [hj, hc0, Nat.add_assoc]
        rw [hblk] at h4 hlt
        by_cases hz0 : j * sz + c = 0
        · rw [if_pos hz0] at h4 hlt
          have hs : spot = none := hlt.2
          subst hs
          refine ⟨hlt.1, fun _ _ => rfl, _, ?_, hrep.2 c p _ hp hcc⟩
          rw [hz0]; exact h4
        · rw [if_neg hz0] at h4 hlt
          refine ⟨hlt.1, fun hj hc0 => absurd (by subst hj; subst hc0; simp) hz0, _, h4, hrep.2 c p _ hp hcc⟩
      obtain ⟨y0, hy0⟩ : ∃ y, l[0]? = some y := ⟨l[0]'(by omega), by simp [show 0 < l.length by omega]⟩
      obtain ⟨p0, hp0⟩ : ∃ p, (ea y0).cells[0]? = some p := ⟨(ea y0).cells[0]'(by rw [hel]; omega), by simp [show 0 < (ea y0).cells.length by rw [hel]; omega]⟩
      have hs : spot = none := (cell 0 0 y0 p0 hy0 hp0).2.1 rfl rfl
      subst hs
      have : RepP W (I0 W) (.sl (l.map ea)) (.slice (some ⟨b, o, none⟩) (l.map ea).length cap) := by
        refine RepP.sl_of (sz := sz) (by simp [hl]; omega) (fun e he => ?_) fun j c e p he hp => ?_
        · obtain ⟨y, _, rfl⟩ := List.mem_map.1 he
          exact hel y
        · rw [List.getElem?_map, Option.map_eq_some_iff] at he
          obtain ⟨y, hy, rfl⟩ := he
          obtain ⟨h1, _, h3⟩ := cell j c y p hy hp
          exact ⟨h1, h3⟩
      simpa [hl] using this

/-! ### What has a type -/
inductive HT (P : Program) : TypeId → List PD → Prop where
  | int {t : TypeId} {k : IntKind} {n : Int} (h : P.underlying t = some (.int k)) (hw : (Lit.int k n).wf = true) : HT P t [.int k n]
  | str {t : TypeId} {s : ByteArray} (h : P.underlying t = some .string) (hs : s.size ≤ maxLen) : HT P t [.str s]
  | bool {t : TypeId} {b : Bool} (h : P.underlying t = some .bool) : HT P t [.bool b]
  | sl {t e : TypeId} {l : List PD} (h : P.underlying t = some (.slice e)) (hl : ∀ x ∈ l, HT P e x.cells) (ha : ∀ x ∈ l, aggOf P e = some (!x.one)) : HT P t [.sl l]
  | struct {t : TypeId} {fs : Array Field} {ps : List PD} (h : P.underlying t = some (.struct fs)) (hlen : ps.length = P.cellsOf t)
      (hf : ∀ (i : Nat) (f : Field), fs[i]? = some f → HT P f.type ((ps.drop f.offset).take (P.cellsOf f.type))) : HT P t ps
  | array {t e : TypeId} {n : Nat} {ps : List PD} (h : P.underlying t = some (.array n e)) (hlen : ps.length = P.cellsOf t)
      (hf : ∀ i, i < n → HT P e ((ps.drop (i * P.cellsOf e)).take (P.cellsOf e))) : HT P t ps

/-- Fields lie one behind the other. -/
def rowsF (P : Program) : List Field → Nat → Option Nat
  | [], o => some o
  | f :: r, o => if f.offset = o then rowsF P r (o + P.cellsOf f.type) else none
def closedT (P : Program) (L : List TypeId) : Bool := L.all fun t =>
  match P.underlying t with
  | some (.int _) | some .string | some .bool => P.cellsOf t == 1
  | some (.slice e) => P.cellsOf t == 1 && L.contains e && decide (0 < P.cellsOf e) && (aggOf P e).isSome
  | some (.struct fs) => fs.toList.all (fun f => L.contains f.type) && rowsF P fs.toList 0 == some (P.cellsOf t)
  | some (.array n e) => L.contains e && P.cellsOf t == n * P.cellsOf e
  | _ => false

theorem cells_sub {ps : List PD} {cs : List Value} (h : CellsRep W ps cs) (o n : Nat) : CellsRep W ((ps.drop o).take n) ((cs.drop o).take n) := by
  refine ⟨by simp [h.1], fun i p c hp hc => ?_⟩
  rw [List.getElem?_take] at hp hc
  split at hp
  · rename_i hlt
    rw [if_pos hlt] at hc
    rw [List.getElem?_drop] at hp hc
    exact h.2 _ p c hp hc
  · cases hp
theorem cells_app {ps qs : List PD} {cs ds : List Value} (h : CellsRep W ps cs) (k : CellsRep W qs ds) : CellsRep W (ps ++ qs) (cs ++ ds) := by
  refine ⟨by simp [h.1, k.1], fun i p c hp hc => ?_⟩
  rw [List.getElem?_append] at hp hc
  split at hp
  · rename_i hlt
    rw [if_pos (by rw [h.1]; exact hlt)] at hc
    exact h.2 i p c hp hc
  · rename_i hge
    rw [if_neg (by rw [h.1]; exact hge), h.1] at hc
    exact k.2 _ p c hp hc

/-- Parts that lie one behind the other make a whole. -/
theorem parts_whole {Q : TypeId → List PD → Prop} (P : Program) : ∀ (fs : List Field) (o e : Nat) (cs : List Value), rowsF P fs o = some e → o ≤ cs.length → cs.length = e →
    (∀ (i : Nat) (f : Field), fs[i]? = some f → ∃ ps, Q f.type ps ∧ ps.length = P.cellsOf f.type ∧ CellsRep W ps ((cs.drop f.offset).take (P.cellsOf f.type))) →
    ∃ ps, ps.length = e - o ∧ CellsRep W ps (cs.drop o) ∧ ∀ (i : Nat) (f : Field), fs[i]? = some f → o ≤ f.offset ∧ Q f.type ((ps.drop (f.offset - o)).take (P.cellsOf f.type))
  | [], o, e, cs, hr, ho, hl, _ => by
    simp only [rowsF, Option.some.injEq] at hr
    subst hr
    exact ⟨[], by simp, ⟨by simp [hl], fun i p c hp => by simp at hp⟩, fun i f hf => by simp at hf⟩
  | f :: r, o, e, cs, hr, ho, hl, h => by
    simp only [rowsF] at hr
    split at hr
    · rename_i hfo
      obtain ⟨ps0, q0, l0, c0⟩ := h 0 f rfl
      have hle : o + P.cellsOf f.type ≤ cs.length := by
        have := c0.1
        rw [List.length_take, List.length_drop, l0, hfo] at this
        omega
      obtain ⟨ps1, l1, c1, h1⟩ := parts_whole P r (o + P.cellsOf f.type) e cs hr hle hl fun i g hg => h (i + 1) g (by simpa using hg)
      have hfits : ∀ (fs : List Field) (o e : Nat), rowsF P fs o = some e → o ≤ e := by
        intro fs
        induction fs with
        | nil => intro o e h; simp only [rowsF, Option.some.injEq] at h; omega
        | cons g fs ih =>
          intro o e h
          simp only [rowsF] at h
          split at h
          · have := ih _ _ h; omega
          · cases h
      have hoe := hfits _ _ _ hr
      refine ⟨ps0 ++ ps1, by simp [l0, l1]; omega, ?_, fun i g hg => ?_⟩
      · have := cells_app c0 c1
        rw [hfo] at this
        have e2 : (cs.drop o).take (P.cellsOf f.type) ++ cs.drop (o + P.cellsOf f.type) = cs.drop o := by
          rw [← List.drop_drop]
          exact List.take_append_drop _ _
        rw [e2] at this
        exact this
      · cases i with
        | zero =>
          simp only [List.getElem?_cons_zero, Option.some.injEq] at hg
          subst hg
          refine ⟨by omega, ?_⟩
          rw [hfo, Nat.sub_self, List.drop_zero, List.take_append_of_le_length (by omega), List.take_of_length_le (by omega)]
          exact q0
        | succ i =>
          obtain ⟨h2, h3⟩ := h1 i g (by simpa using hg)
          refine ⟨by omega, ?_⟩
          have e3 : g.offset - o = ps0.length + (g.offset - (o + P.cellsOf f.type)) := by omega
          rw [e3, List.drop_length_add_append]
          exact h3
    · cases hr

theorem parts_array {Q : List PD → Prop} (sz : Nat) : ∀ (n : Nat) (cs : List Value), cs.length = n * sz → (∀ i, i < n → ∃ ps, Q ps ∧ ps.length = sz ∧ CellsRep W ps ((cs.drop (i * sz)).take sz)) →
    ∃ ps, ps.length = n * sz ∧ CellsRep W ps cs ∧ ∀ i, i < n → Q ((ps.drop (i * sz)).take sz)
  | 0, cs, hl, _ => by
    have : cs = [] := List.eq_nil_of_length_eq_zero (by simpa using hl)
    subst this
    exact ⟨[], by simp, ⟨rfl, fun i p c hp => by simp at hp⟩, fun i hi => absurd hi (Nat.not_lt_zero i)⟩
  | n + 1, cs, hl, h => by
    have hm : (n + 1) * sz = n * sz + sz := by rw [Nat.add_mul, Nat.one_mul]
    obtain ⟨ps0, q0, l0, c0⟩ := h 0 (by omega)
    rw [Nat.zero_mul, List.drop_zero] at c0
    obtain ⟨ps1, l1, c1, h1⟩ := parts_array (Q := Q) sz n (cs.drop sz) (by rw [List.length_drop, hl, hm]; omega) fun i hi => by
      obtain ⟨ps, q, l, c⟩ := h (i + 1) (by omega)
      refine ⟨ps, q, l, ?_⟩
      rw [List.drop_drop]
      have e : sz + i * sz = (i + 1) * sz := by rw [Nat.add_mul, Nat.one_mul, Nat.add_comm]
      rw [e]
      exact c
    refine ⟨ps0 ++ ps1, by simp [l0, l1, hm]; omega, ?_, fun i hi => ?_⟩
    · have := cells_app c0 c1
      rwa [List.take_append_drop] at this
    · cases i with
      | zero => rw [Nat.zero_mul, List.drop_zero, List.take_append_of_le_length (by omega), List.take_of_length_le (by omega)]; exact q0
      | succ i =>
        have e3 : (i + 1) * sz = ps0.length + i * sz := by rw [l0, Nat.add_mul, Nat.one_mul, Nat.add_comm]
        rw [e3, List.drop_length_add_append]
        exact h1 i (by omega)

theorem HT.len {P : Program} {L : List TypeId} (hL : closedT P L = true) {t : TypeId} {ps : List PD} (ht : t ∈ L) (h : HT P t ps) : ps.length = P.cellsOf t := by
  have hc := List.all_eq_true.1 hL t ht
  cases h with
  | int h => rw [h] at hc; exact (by simpa using hc : P.cellsOf t = 1).symm
  | str h => rw [h] at hc; exact (by simpa using hc : P.cellsOf t = 1).symm
  | bool h => rw [h] at hc; exact (by simpa using hc : P.cellsOf t = 1).symm
  | sl h => rw [h] at hc; simp only [Bool.and_eq_true, beq_iff_eq] at hc; exact hc.1.1.1.symm
  | struct h hlen => exact hlen
  | array h hlen => exact hlen
/-- As a datum. -/
def asPD (ag : Bool) (ps : List PD) : PD := if ag = true then .agg ps else ps.headD .nilI
theorem HT.pd {P : Program} {e : TypeId} {ps : List PD} {ag : Bool} (ha : aggOf P e = some ag) (h : HT P e ps) : (asPD ag ps).cells = ps ∧ ag = !(asPD ag ps).one := by
  unfold aggOf at ha
  cases h with
  | int h => rw [h] at ha; injection ha with ha; subst ha; exact ⟨rfl, rfl⟩
  | str h => rw [h] at ha; injection ha with ha; subst ha; exact ⟨rfl, rfl⟩
  | bool h => rw [h] at ha; injection ha with ha; subst ha; exact ⟨rfl, rfl⟩
  | sl h => rw [h] at ha; injection ha with ha; subst ha; exact ⟨rfl, rfl⟩
  | struct h => rw [h] at ha; injection ha with ha; subst ha; exact ⟨rfl, rfl⟩
  | array h => rw [h] at ha; injection ha with ha; subst ha; exact ⟨rfl, rfl⟩

theorem ht_read {L : List TypeId} (hL : closedT Tryz.prog L = true) : ∀ (n : Nat) (t : TypeId) (cs : List Value) (x : DataW H × List MemPlace), t ∈ L → DataW.trod en Tryz.prog W 0 (fun _ => true) true n t cs = some x →
    ∃ ps, HT Tryz.prog t ps ∧ CellsRep W ps cs ∧ (∀ e l, Tryz.prog.underlying t = some (.slice e) → ps = [.sl l] → l = [] ∨ ∃ es rs, x.1 = .slice es rs ∧ l.length = es.length) := by
  intro n
  induction n using Nat.strongRecOn with
  | _ n ih =>
    intro t cs x ht h
    have hc := List.all_eq_true.1 hL t ht
    cases hu : Tryz.prog.underlying t with
    | none => rw [hu] at hc; simp at hc
    | some td =>
      rw [hu] at hc
      cases td with
      | int k =>
        obtain ⟨i, rfl, _, hw⟩ := DataW.trod_int hu h
        exact ⟨[.int k i], .int hu hw, ⟨rfl, fun j p c hp hc => by
          cases j with
          | zero => simp at hp hc; subst hp; subst hc; exact .int _ _
          | succ j => simp at hp⟩, fun e l he => by cases he⟩
      | string =>
        obtain ⟨s, rfl, _, hs⟩ := DataW.trod_string hu h
        exact ⟨[.str s], .str hu hs, ⟨rfl, fun j p c hp hc => by
          cases j with
          | zero => simp at hp hc; subst hp; subst hc; exact .str _
          | succ j => simp at hp⟩, fun e l he => by cases he⟩
      | bool =>
        obtain ⟨b, rfl, _⟩ := DataW.trod_bool hu h
        exact ⟨[.bool b], .bool hu, ⟨rfl, fun j p c hp hc => by
          cases j with
          | zero => simp at hp hc; subst hp; subst hc; exact .bool _
          | succ j => simp at hp⟩, fun e l he => by cases he⟩
      | slice e =>
        simp only [Bool.and_eq_true, beq_iff_eq, decide_eq_true_eq, List.contains_iff_mem] at hc
        obtain ⟨⟨⟨_, he⟩, h0⟩, hag⟩ := hc
        obtain ⟨ag, hag⟩ := Option.isSome_iff_exists.1 hag
        obtain ⟨m, rfl⟩ : ∃ m, n = m + 1 := by
          cases n with
          | zero => simp [DataW.trod] at h
          | succ m => exact ⟨m, rfl⟩
        have hrd : RdN en W m e (fun a : { x : PD // HT Tryz.prog e x.cells ∧ aggOf Tryz.prog e = some (!x.one) } => a.1) := fun cs x hx => by
          obtain ⟨ps, h1, h2, _⟩ := ih m (by omega) e cs x he hx
          obtain ⟨h3, h4⟩ := h1.pd hag
          exact ⟨⟨asPD ag ps, by rw [h3]; exact h1, by rw [hag, ← h4]⟩, by simp only; rw [h3]; exact h2⟩
        obtain ⟨l, sv, hsv, hrep, hlen⟩ := slice_read hu rfl h0 (fun a => a.2.1.len hL he) hrd cs x h
        subst hsv
        refine ⟨[.sl (l.map fun a => a.1)], .sl hu (fun y hy => ?_) (fun y hy => ?_), ⟨rfl, fun j p c hp hc => ?_⟩, fun e' l' he' hl' => ?_⟩
        · obtain ⟨a, _, rfl⟩ := List.mem_map.1 hy
          exact a.2.1
        · obtain ⟨a, _, rfl⟩ := List.mem_map.1 hy
          exact a.2.2
        · cases j with
          | zero => simp at hp hc; subst hp; subst hc; exact hrep
          | succ j => simp at hp
        · simp only [List.cons.injEq, PD.sl.injEq, and_true] at hl'
          subst hl'
          rcases hlen with rfl | ⟨es, rs, h1, h2⟩
          · exact .inl rfl
          · exact .inr ⟨es, rs, h1, by rw [List.length_map]; exact h2⟩
      | struct fs =>
        simp only [Bool.and_eq_true, List.all_eq_true, beq_iff_eq, List.contains_iff_mem] at hc
        obtain ⟨xs, m, rfl, _, hlen, hxs, hf⟩ := DataW.trod_struct hu h
        obtain ⟨ps, h1, h2, h3⟩ := parts_whole (W := W) (Q := HT Tryz.prog) Tryz.prog fs.toList 0 _ cs hc.2 (Nat.zero_le _) hlen fun i f hi => by
          have hi' : fs[i]? = some f := by rw [← Array.getElem?_toList]; exact hi
          have hlt : i < fs.size := (Array.getElem?_eq_some_iff.1 hi').1
          have h4 := hf i f hi'
          rw [List.getElem?_eq_getElem (by rw [hxs]; exact hlt)] at h4
          have hft := hc.1 f (List.mem_of_getElem? hi)
          obtain ⟨ps, h5, h6, _⟩ := ih m (by omega) f.type _ _ hft h4
          exact ⟨ps, h5, h5.len hL hft, h6⟩
        rw [List.drop_zero] at h2
        refine ⟨ps, .struct hu (by omega) fun i f hi => ?_, h2, fun e l he => by cases he⟩
        obtain ⟨_, h4⟩ := h3 i f (by rw [Array.getElem?_toList]; exact hi)
        simpa using h4
      | array k e =>
        simp only [Bool.and_eq_true, beq_iff_eq, List.contains_iff_mem] at hc
        obtain ⟨xs, m, rfl, _, hlen, hxs, hf⟩ := DataW.trod_array hu h
        obtain ⟨ps, h1, h2, h3⟩ := parts_array (W := W) (Q := HT Tryz.prog e) (Tryz.prog.cellsOf e) k cs (by rw [hlen, hc.2]) fun i hi => by
          have h4 := hf i hi
          rw [List.getElem?_eq_getElem (by rw [hxs]; exact hi)] at h4
          obtain ⟨ps, h5, h6, _⟩ := ih m (by omega) e _ _ hc.1 h4
          exact ⟨ps, h5, h5.len hL hc.1, h6⟩
        exact ⟨ps, .array hu (by rw [h1, hc.2]) h3, h2, fun e l he => by cases he⟩
      | _ => simp at hc

/-- A struct, or an array, as an argument. -/
theorem arg_agg {L : List TypeId} (hL : closedT Tryz.prog L = true) {t : TypeId} (ht : t ∈ L) {base : Nat} {v : Value} {d : DataW H} {ps : List MemPlace} (hv : ∃ cs : Array Value, v = .agg cs)
    (h : DataW.Trod en Tryz.prog W 0 (fun _ => true) true t v d ps) : ∃ l, HT Tryz.prog t l ∧ RepD W (G0 W) [] (.p (.agg l)) v := by
  obtain ⟨fuel, hf⟩ := h
  obtain ⟨cs, rfl⟩ := hv
  obtain ⟨l, h1, h2, _⟩ := ht_read hL fuel t _ _ ht hf
  exact ⟨l, h1, .p _ _ (.agg _ _ (by simpa [Value.cells] using h2.1) fun i x u hx hu => h2.2 i x u hx (by simpa [Value.cells] using hu))⟩
/-- A slice as an argument; how long it can be. -/
theorem arg_slice {L : List TypeId} (hL : closedT Tryz.prog L = true) {t e : TypeId} (ht : t ∈ L) (hu : Tryz.prog.underlying t = some (.slice e)) {base : Nat} {v : Value} {d : DataW H} {ps : List MemPlace}
    (hval : Value.okWide Tryz.prog W .any base t v) (h : DataW.Trod en Tryz.prog W 0 (fun _ => true) true t v d ps) {ts : List TypeId} {ds : List (DataW H)} {j : Nat} (htj : ts[j]? = some t) (hd : ds[j]? = some d)
    (hz : (DataW.weightsEach Tryz.prog ts ds).all (· ≤ reachBytes) = true) :
    ∃ l, HT Tryz.prog t [.sl l] ∧ l.length * Tryz.prog.bytesOf e ≤ 140737488351232 ∧ RepD W (G0 W) [] (.p (.sl l)) v := by
  obtain ⟨fuel, hf⟩ := h
  obtain ⟨a, len, cap, rfl⟩ := okWide_slice hu hval
  obtain ⟨l, h1, h2, h3⟩ := ht_read hL fuel t _ _ ht hf
  have hl : ∃ q, l = [.sl q] := by
    cases h1 with
    | sl _ _ _ => exact ⟨_, rfl⟩
    | int h => rw [hu] at h; cases h
    | str h => rw [hu] at h; cases h
    | bool h => rw [hu] at h; cases h
    | struct h => rw [hu] at h; cases h
    | array h => rw [hu] at h; cases h
  obtain ⟨q, rfl⟩ := hl
  refine ⟨q, h1, ?_, .p _ _ (h2.2 0 _ _ rfl (by simp [Value.cells]))⟩
  rcases h3 e q hu rfl with rfl | ⟨es, rs, hx, hlen⟩
  · simp
  · have hx : d = .slice es rs := hx
    subst hx
    have := List.all_eq_true.1 hz _ (DataW.weights_mem_each htj hd ((es.length + rs.length) * Tryz.prog.bytesOf e) (by simp [DataW.weights, hu]))
    have h9 := of_decide_eq_true this
    have h10 : reachBytes = 140737488351232 := rfl
    rw [hlen]
    calc es.length * Tryz.prog.bytesOf e ≤ (es.length + rs.length) * Tryz.prog.bytesOf e := Nat.mul_le_mul_right _ (Nat.le_add_right _ _)
      _ ≤ 140737488351232 := by rw [← h10]; exact h9
end
end Go.Vi
end

section
/- Vi: what has a type, taken apart. No conditions but those that stand with each. -/
namespace Go.Vi
open Go Go.Lib Go.Proofs
set_option maxRecDepth 100000
section
variable {P : Program} {t e : TypeId} {ps : List PD}
theorem HT.inv_int {k : IntKind} (h : HT P t ps) (hu : P.underlying t = some (.int k)) : ∃ n, ps = [.int k n] ∧ (Lit.int k n).wf = true := by
  cases h with
  | int h hw => rw [hu] at h; injection h with h; injection h with h; subst h; exact ⟨_, rfl, hw⟩
  | str h => rw [hu] at h; cases h
  | bool h => rw [hu] at h; cases h
  | sl h => rw [hu] at h; cases h
  | struct h => rw [hu] at h; cases h
  | array h => rw [hu] at h; cases h
theorem HT.inv_str (h : HT P t ps) (hu : P.underlying t = some .string) : ∃ s, ps = [.str s] ∧ s.size ≤ maxLen := by
  cases h with
  | str _ hs => exact ⟨_, rfl, hs⟩
  | int h => rw [hu] at h; cases h
  | bool h => rw [hu] at h; cases h
  | sl h => rw [hu] at h; cases h
  | struct h => rw [hu] at h; cases h
  | array h => rw [hu] at h; cases h
theorem HT.inv_bool (h : HT P t ps) (hu : P.underlying t = some .bool) : ∃ b, ps = [.bool b] := by
  cases h with
  | bool _ => exact ⟨_, rfl⟩
  | int h => rw [hu] at h; cases h
  | str h => rw [hu] at h; cases h
  | sl h => rw [hu] at h; cases h
  | struct h => rw [hu] at h; cases h
  | array h => rw [hu] at h; cases h
theorem HT.inv_sl (h : HT P t ps) (hu : P.underlying t = some (.slice e)) : ∃ l, ps = [.sl l] ∧ (∀ x ∈ l, HT P e x.cells) ∧ (∀ x ∈ l, aggOf P e = some (!x.one)) := by
  cases h with
  | sl h hl ha => rw [hu] at h; injection h with h; injection h with h; subst h; exact ⟨_, rfl, hl, ha⟩
  | int h => rw [hu] at h; cases h
  | str h => rw [hu] at h; cases h
  | bool h => rw [hu] at h; cases h
  | struct h => rw [hu] at h; cases h
  | array h => rw [hu] at h; cases h
theorem HT.inv_struct {fs : Array Field} (h : HT P t ps) (hu : P.underlying t = some (.struct fs)) :
    ps.length = P.cellsOf t ∧ ∀ (i : Nat) (f : Field), fs[i]? = some f → HT P f.type ((ps.drop f.offset).take (P.cellsOf f.type)) := by
  cases h with
  | struct h hlen hf => rw [hu] at h; injection h with h; injection h with h; subst h; exact ⟨hlen, hf⟩
  | int h => rw [hu] at h; cases h
  | str h => rw [hu] at h; cases h
  | bool h => rw [hu] at h; cases h
  | sl h => rw [hu] at h; cases h
  | array h => rw [hu] at h; cases h
theorem HT.inv_array {n : Nat} (h : HT P t ps) (hu : P.underlying t = some (.array n e)) :
    ps.length = P.cellsOf t ∧ ∀ i, i < n → HT P e ((ps.drop (i * P.cellsOf e)).take (P.cellsOf e)) := by
  cases h with
  | array h hlen hf => rw [hu] at h; injection h with h; injection h with h1 h2; subst h1 h2; exact ⟨hlen, hf⟩
  | int h => rw [hu] at h; cases h
  | str h => rw [hu] at h; cases h
  | bool h => rw [hu] at h; cases h
  | sl h => rw [hu] at h; cases h
  | struct h => rw [hu] at h; cases h
end
theorem exists_map {α β : Type} {g : α → β} : ∀ (l : List β), (∀ x ∈ l, ∃ a, x = g a) → ∃ q : List α, l = q.map g
  | [], _ => ⟨[], rfl⟩
  | x :: l, h => by
    obtain ⟨a, ha⟩ := h x (by simp)
    obtain ⟨q, hq⟩ := exists_map l fun y hy => h y (by simp [hy])
    exact ⟨a :: q, by rw [ha, hq]; rfl⟩
theorem agg_of {x : PD} (h : x.one = false) : ∃ l, x = .agg l ∧ x.cells = l := by
  cases x with
  | agg l => exact ⟨l, rfl, rfl⟩
  | _ => cases h
theorem one_of {x : PD} (h : x.one = true) : x.cells = [x] := by
  cases x with
  | agg l => cases h
  | _ => rfl
/-- A struct's fields: where each begins, its type. -/
def fieldsT (P : Program) (t : TypeId) : Option (List (Nat × TypeId)) :=
  match P.underlying t with
  | some (.struct fs) => some (fs.toList.map fun f => (f.offset, f.type))
  | _ => none
theorem fields_struct {P : Program} {t : TypeId} {l : List (Nat × TypeId)} (hl : fieldsT P t = some l) : ∃ fs, P.underlying t = some (.struct fs) := by
  unfold fieldsT at hl
  split at hl
  · rename_i fs hu; exact ⟨fs, hu⟩
  · cases hl
theorem HT.fields {P : Program} {t : TypeId} {ps : List PD} {l : List (Nat × TypeId)} {n : Nat} (h : HT P t ps) (hl : fieldsT P t = some l) (hn : P.cellsOf t = n) :
    ps.length = n ∧ ∀ x ∈ l, HT P x.2 ((ps.drop x.1).take (P.cellsOf x.2)) := by
  unfold fieldsT at hl
  split at hl
  · rename_i fs hu
    injection hl with hl
    obtain ⟨h1, h2⟩ := h.inv_struct hu
    refine ⟨h1.trans hn, fun x hx => ?_⟩
    rw [← hl] at hx
    obtain ⟨f, hf, rfl⟩ := List.mem_map.1 hx
    obtain ⟨i, hi⟩ := List.getElem?_of_mem hf
    exact h2 i f (by rw [← Array.getElem?_toList]; exact hi)
  · cases hl
/-- A slice's elements, if they are structs or arrays. -/
theorem ht_aggs {α : Type} {g : α → PD} {t e : TypeId} {l : List PD} (hu : Tryz.prog.underlying t = some (.slice e)) (ha : aggOf Tryz.prog e = some true) (hg : ∀ ps, HT Tryz.prog e ps → ∃ a, PD.agg ps = g a)
    (h : HT Tryz.prog t [.sl l]) : ∃ q : List α, l = q.map g := by
  obtain ⟨l', hl, h1, h2⟩ := h.inv_sl hu
  simp only [List.cons.injEq, PD.sl.injEq, and_true] at hl
  subst hl
  refine exists_map l fun x hx => ?_
  have h3 := h2 x hx
  rw [ha] at h3
  obtain ⟨c, rfl, hc⟩ := agg_of (x := x) (by simpa using h3)
  have h4 := h1 _ hx
  rw [hc] at h4
  exact hg c h4
/-- A slice of whole numbers. -/
theorem ht_ints {t e : TypeId} {l : List PD} (hu : Tryz.prog.underlying t = some (.slice e)) (he : Tryz.prog.underlying e = some (.int .i64)) (h : HT Tryz.prog t [.sl l]) : ∃ q : List Int, l = q.map (PD.int .i64) := by
  obtain ⟨l', hl, h1, h2⟩ := h.inv_sl hu
  simp only [List.cons.injEq, PD.sl.injEq, and_true] at hl
  subst hl
  have ha : aggOf Tryz.prog e = some false := by unfold aggOf; rw [he]; rfl
  exact exists_map l fun x hx => by
    obtain ⟨n, hn, _⟩ := (h1 x hx).inv_int he
    have h3 := h2 x hx
    rw [ha] at h3
    have h4 : x.one = true := by simpa using h3
    rw [one_of h4] at hn
    exact ⟨n, by simpa using hn⟩
end Go.Vi
end

section
/- Vi: kinds and values as arguments. No conditions but those that stand with each. -/
namespace Go.Vi
open Go Go.Lib Go.Proofs Go.RowKit Go.ChangeShapes Go.WideShapes Go.ChangeAt
set_option maxRecDepth 100000
def tysK : List TypeId := [25, 22, 23, 3, 29, 27, 26, 9]
theorem tysK_ok : closedT Tryz.prog tysK = true := by kernel_rfl
theorem uInt : Tryz.prog.underlying 3 = some (.int .i64) := by kernel_rfl
theorem uStr : Tryz.prog.underlying 9 = some .string := by kernel_rfl
theorem uForm : Tryz.prog.underlying 22 = some (.int .i64) := by kernel_rfl
theorem uKinds : Tryz.prog.underlying 23 = some (.slice 25) := by kernel_rfl
theorem uVK : Tryz.prog.underlying 26 = some (.int .i64) := by kernel_rfl
theorem uVals : Tryz.prog.underlying 27 = some (.slice 29) := by kernel_rfl
theorem aKind : aggOf Tryz.prog 25 = some true := by kernel_rfl
theorem aVal : aggOf Tryz.prog 29 = some true := by kernel_rfl
theorem int1 {t : TypeId} {b : PD} (hu : Tryz.prog.underlying t = some (.int .i64)) (h : HT Tryz.prog t [b]) : ∃ n : Int, b = .int .i64 n := by
  obtain ⟨n, hn, _⟩ := h.inv_int hu
  exact ⟨n, by simpa using hn⟩
theorem str1 {t : TypeId} {b : PD} (hu : Tryz.prog.underlying t = some .string) (h : HT Tryz.prog t [b]) : ∃ s : ByteArray, b = .str s := by
  obtain ⟨n, hn, _⟩ := h.inv_str hu
  exact ⟨n, by simpa using hn⟩
theorem size_cells {l : List PD} {c : List PD} (h : PD.agg c ∈ l) : SizeOf.sizeOf c < SizeOf.sizeOf (PD.sl l) := by
  have h1 := List.sizeOf_lt_of_mem h
  have h2 : SizeOf.sizeOf (PD.sl l) = 1 + SizeOf.sizeOf l := by simp
  have h3 : SizeOf.sizeOf (PD.agg c) = 1 + SizeOf.sizeOf c := by simp
  omega
theorem kind_of : ∀ (n : Nat) (ps : List PD), SizeOf.sizeOf ps ≤ n → HT Tryz.prog 25 ps → ∃ k : Kd, PD.agg ps = encK k := by
  intro n
  induction n with
  | zero =>
    intro ps hn h
    cases ps with
    | nil => simp at hn
    | cons => simp at hn
  | succ n ih =>
    intro ps hn h
    obtain ⟨hl, hf⟩ := h.fields (l := [(0, 22), (1, 3), (2, 3), (3, 3), (4, 23)]) (n := 5) (by kernel_rfl) (by kernel_rfl)
    have k0 := hf (0, 22) (by simp)
    have k1 := hf (1, 3) (by simp)
    have k2 := hf (2, 3) (by simp)
    have k3 := hf (3, 3) (by simp)
    have k4 := hf (4, 23) (by simp)
    simp only [show Tryz.prog.cellsOf 3 = 1 from by kernel_rfl, show Tryz.prog.cellsOf 22 = 1 from by kernel_rfl, show Tryz.prog.cellsOf 23 = 1 from by kernel_rfl] at k0 k1 k2 k3 k4
    match ps, hl with
    | [a, b, c, d, e], _ =>
      obtain ⟨x, rfl⟩ := int1 (b := a) uForm (by simpa using k0)
      obtain ⟨y, rfl⟩ := int1 (b := b) uInt (by simpa using k1)
      obtain ⟨z, rfl⟩ := int1 (b := c) uInt (by simpa using k2)
      obtain ⟨w, rfl⟩ := int1 (b := d) uInt (by simpa using k3)
      have k5 : HT Tryz.prog 23 [e] := by simpa using k4
      obtain ⟨l, hl, h1, h2⟩ := k5.inv_sl uKinds
      have he : e = .sl l := by simpa using hl
      subst he
      have hsz : SizeOf.sizeOf (PD.sl l) ≤ n := by
        simp only [List.cons.sizeOf_spec, List.nil.sizeOf_spec] at hn
        omega
      obtain ⟨q, rfl⟩ := exists_map (g := encK) l fun x hx => by
        have h3 := h2 x hx
        rw [aKind] at h3
        obtain ⟨c, rfl, hc⟩ := agg_of (x := x) (by simpa using h3)
        have h4 := h1 _ hx
        rw [hc] at h4
        have := size_cells hx
        exact ih c (by omega) h4
      exact ⟨.mk x y z w q, (encK_eq (.mk x y z w q)).symm⟩
theorem val_of : ∀ (n : Nat) (ps : List PD), SizeOf.sizeOf ps ≤ n → HT Tryz.prog 29 ps → ∃ v : Val, PD.agg ps = enc v := by
  intro n
  induction n with
  | zero =>
    intro ps hn h
    cases ps with
    | nil => simp at hn
    | cons => simp at hn
  | succ n ih =>
    intro ps hn h
    obtain ⟨hl, hf⟩ := h.fields (l := [(0, 26), (1, 3), (2, 9), (3, 27)]) (n := 4) (by kernel_rfl) (by kernel_rfl)
    have k0 := hf (0, 26) (by simp)
    have k1 := hf (1, 3) (by simp)
    have k2 := hf (2, 9) (by simp)
    have k3 := hf (3, 27) (by simp)
    simp only [show Tryz.prog.cellsOf 3 = 1 from by kernel_rfl, show Tryz.prog.cellsOf 26 = 1 from by kernel_rfl, show Tryz.prog.cellsOf 27 = 1 from by kernel_rfl, show Tryz.prog.cellsOf 9 = 1 from by kernel_rfl] at k0 k1 k2 k3
    match ps, hl with
    | [a, b, c, e], _ =>
      obtain ⟨x, rfl⟩ := int1 (b := a) uVK (by simpa using k0)
      obtain ⟨y, rfl⟩ := int1 (b := b) uInt (by simpa using k1)
      obtain ⟨t, rfl⟩ := str1 (b := c) uStr (by simpa using k2)
      have k5 : HT Tryz.prog 27 [e] := by simpa using k3
      obtain ⟨l, hl, h1, h2⟩ := k5.inv_sl uVals
      have he : e = .sl l := by simpa using hl
      subst he
      have hsz : SizeOf.sizeOf (PD.sl l) ≤ n := by
        simp only [List.cons.sizeOf_spec, List.nil.sizeOf_spec] at hn
        omega
      obtain ⟨q, rfl⟩ := exists_map (g := enc) l fun x hx => by
        have h3 := h2 x hx
        rw [aVal] at h3
        obtain ⟨c, rfl, hc⟩ := agg_of (x := x) (by simpa using h3)
        have h4 := h1 _ hx
        rw [hc] at h4
        have := size_cells hx
        exact ih c (by omega) h4
      exact ⟨.mk x y t q, (enc_eq (.mk x y t q)).symm⟩

section
variable {H : Type} {en : TypeId × Value → H} {W : World}
theorem arg_kind {base : Nat} {v : Value} {d : DataW H} {ps : List MemPlace} (hval : Value.okWide Tryz.prog W .any base 25 v) (h : DataW.Trod en Tryz.prog W 0 (fun _ => true) true 25 v d ps) :
    ∃ k : Kd, RepD W (G0 W) [] (.p (encK k)) v := by
  obtain ⟨fs, hu⟩ := fields_struct (P := Tryz.prog) (t := 25) (l := [(0, 22), (1, 3), (2, 3), (3, 3), (4, 23)]) (by kernel_rfl)
  simp only [Value.okWide, hu] at hval
  obtain ⟨cs, rfl, _⟩ := hval
  obtain ⟨l, h1, h2⟩ := arg_agg (base := base) tysK_ok (t := 25) (by simp [tysK]) ⟨cs, rfl⟩ h
  obtain ⟨p, hp⟩ := kind_of _ l (Nat.le_refl _) h1
  exact ⟨p, by rw [← hp]; exact h2⟩
theorem arg_value {base : Nat} {v : Value} {d : DataW H} {ps : List MemPlace} (hval : Value.okWide Tryz.prog W .any base 29 v) (h : DataW.Trod en Tryz.prog W 0 (fun _ => true) true 29 v d ps) :
    ∃ a : Val, RepD W (G0 W) [] (.p (enc a)) v := by
  obtain ⟨fs, hu⟩ := fields_struct (P := Tryz.prog) (t := 29) (l := [(0, 26), (1, 3), (2, 9), (3, 27)]) (by kernel_rfl)
  simp only [Value.okWide, hu] at hval
  obtain ⟨cs, rfl, _⟩ := hval
  obtain ⟨l, h1, h2⟩ := arg_agg (base := base) tysK_ok (t := 29) (by simp [tysK]) ⟨cs, rfl⟩ h
  obtain ⟨p, hp⟩ := val_of _ l (Nat.le_refl _) h1
  exact ⟨p, by rw [← hp]; exact h2⟩
end
end Go.Vi
end
