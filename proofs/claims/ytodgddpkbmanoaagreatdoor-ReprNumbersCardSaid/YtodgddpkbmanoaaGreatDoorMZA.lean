/- It is proved here what functions of the program's layer 11 and of its specification compute; conditions stand with each. Problems by numbers. -/
import Derived.Test.YtodgddpkbmanoaaGreatDoorMQA
import Derived.Test.YtodgddpkbmanoaaGreatDoorMQB
import Derived.Test.YtodgddpkbmanoaaGreatDoorMPA
set_option linter.unusedVariables false
set_option linter.unusedSimpArgs false

section
/- Vi: rows that grow, as what they hold; loops by what stays true. No conditions but those that stand with each. -/
namespace Go.Vi
open Go Go.Lib Go.Proofs
set_option maxRecDepth 100000

/-- A row that nothing writes into any more, or none yet, with what it holds. -/
def GRow (A : List Arr) (e : TypeId) (sz : Nat) (d : D) (L : List PD) : Prop :=
  (d = .lit true [] ∧ L = []) ∨ ∃ k ver, d = .own k ver ∧ A[k]? = some ⟨ver, e, sz, false, true, L⟩
/-- Two rows are not the same one. -/
def Apart (c d : D) : Prop := ∀ k v v', c = .own k v → d ≠ .own k v'
theorem Apart.symm {c d : D} (h : Apart c d) : Apart d c := fun k v v' h1 h2 => h k v' v h2 h1
theorem apart_lit (c : D) (b : Bool) (l : List PD) : Apart c (.lit b l) := fun k v v' _ h => by cases h

theorem GRow.pd {A : List Arr} {e : TypeId} {sz : Nat} {d : D} {L : List PD} (h : GRow A e sz d L) : D.pd? A d = some (.sl L) := by
  rcases h with ⟨rfl, rfl⟩ | ⟨k, ver, rfl, h⟩
  · rfl
  · simp [D.pd?, h]
theorem GRow.src {A : List Arr} {e : TypeId} {sz : Nat} {d : D} {L : List PD} (h : GRow A e sz d L) (B : List Blk) : srcD ⟨B, A⟩ d = some L := by
  rcases h with ⟨rfl, rfl⟩ | ⟨k, ver, rfl, h⟩
  · rfl
  · simp [srcD, Hp.live, h]
theorem GRow.len {A : List Arr} {e : TypeId} {sz : Nat} {d : D} {L : List PD} (h : GRow A e sz d L) (B : List Blk) : lenD ⟨B, A⟩ false d = some (L.length : Int) := by
  rcases h with ⟨rfl, rfl⟩ | ⟨k, ver, rfl, h⟩
  · rfl
  · simp [lenD, Hp.live, h]
theorem GRow.cell {A : List Arr} {e : TypeId} {sz : Nat} {d : D} {L : List PD} (h : GRow A e sz d L) : cellD d = true := by
  rcases h with ⟨rfl, rfl⟩ | ⟨k, ver, rfl, h⟩ <;> rfl
theorem GRow.cells {A : List Arr} {e : TypeId} {sz : Nat} {d : D} {L : List PD} (h : GRow A e sz d L) : cellsD d = [d] := by
  rcases h with ⟨rfl, rfl⟩ | ⟨k, ver, rfl, h⟩ <;> rfl
theorem GRow.mono {A : List Arr} {e : TypeId} {sz : Nat} {d : D} {L : List PD} (h : GRow A e sz d L) (X : List Arr) : GRow (A ++ X) e sz d L := by
  rcases h with h | ⟨k, ver, rfl, h⟩
  · exact .inl h
  · exact .inr ⟨k, ver, rfl, by rw [List.getElem?_append_left (List.getElem?_eq_some_iff.1 h).1]; exact h⟩
theorem GRow.cut {A : List Arr} {e : TypeId} {sz : Nat} {d : D} {L : List PD} {nB nA : Nat} (h : GRow A e sz d L) (hn : D.noRef nB nA d = true) : GRow (A.take nA) e sz d L := by
  rcases h with h | ⟨k, ver, rfl, h⟩
  · exact .inl h
  · simp only [D.noRef, decide_eq_true_eq] at hn
    exact .inr ⟨k, ver, rfl, by rw [List.getElem?_take, if_pos hn]; exact h⟩

/-- One more, or some. -/
theorem GRow.app {A : List Arr} {e t : TypeId} {sz by_ : Nat} {d : D} {L ys : List PD} (h : GRow A e sz d L) (B : List Blk) {y : D} (he : elemOf Tryz.prog t = some e) (hs : szOf Tryz.prog e = some sz) (hb : byOf Tryz.prog e = some by_)
    (h0 : 0 < by_) (h1 : 0 < sz) (hz : zOK Tryz.prog e sz = true) (hy : srcD ⟨B, A⟩ y = some ys) (hne : ys ≠ []) (hf : fits sz ys = true) (hlen : (L.length + ys.length) * by_ ≤ 140737488355328) :
    ∃ d' A', appendD Tryz.prog false ⟨B, A⟩ t d y = some (.val d' ⟨B, A'⟩) ∧ GRow A' e sz d' (L ++ ys) ∧ cellsD d' = [d'] ∧ (∀ e' sz' c M, GRow A e' sz' c M → Apart c d → GRow A' e' sz' c M ∧ Apart c d') := by
  have hem : ys.isEmpty = false := by cases ys with | nil => exact absurd rfl hne | cons => rfl
  rcases h with ⟨rfl, rfl⟩ | ⟨k, ver, rfl, h⟩
  · refine ⟨.own A.length 0, A ++ [⟨0, e, sz, false, true, ys⟩], ?_, .inr ⟨_, _, rfl, by simp⟩, rfl, fun e' sz' c M hc _ => ⟨hc.mono _, fun k v v' h1 h2 => ?_⟩⟩
    · have hf0 : fits sz [] = true := rfl
      have hlen' : ys.length * by_ ≤ 140737488355328 := by simpa using hlen
      simp [appendD, he, hs, hb, hy, hf, h0, h1, hz, hem, hf0, newRow, hlen']
    · subst h1
      rcases hc with ⟨h, _⟩ | ⟨k', ver', h, h'⟩
      · cases h
      · injection h with e1 e2
        injection h2 with e3 e4
        have := (List.getElem?_eq_some_iff.1 h').1
        omega
  · have hk := (List.getElem?_eq_some_iff.1 h).1
    refine ⟨.own k (ver + 1), A.set k ⟨ver + 1, e, sz, false, true, L ++ ys⟩, ?_, .inr ⟨_, _, rfl, by simp [hk]⟩, rfl, fun e' sz' c M hc ha => ⟨?_, fun k' v v' h1 h2 => ?_⟩⟩
    · simp [appendD, he, hs, hb, hy, hf, h0, h1, hz, Hp.live, h, hlen]
    · rcases hc with hc | ⟨k', ver', rfl, h'⟩
      · exact .inl hc
      · refine .inr ⟨k', ver', rfl, ?_⟩
        have : k ≠ k' := fun e => ha k' ver' ver rfl (by rw [e])
        rw [List.getElem?_set_ne this]; exact h'
    · injection h2 with e1 e2
      exact ha k' v ver h1 (by rw [e1])

/-- At a loop's head the heap is as it is, or cut. -/
theorem cutD_or (m : Mk) (keep : List Tmp) (nB nA : Nat) (F : Fr) (H : Hp) : ∃ H', cutD m keep nB nA F H = some (norm keep F, H') ∧ (H' = H ∨ (H' = ⟨H.B.take nB, H.A.take nA⟩ ∧ frNo nB nA (norm keep F) = true ∧ (H.B.take nB).all (blkNo nB nA) = true)) := by
  unfold cutD
  split
  · rename_i h
    exact ⟨_, rfl, .inr ⟨rfl, h.1, h.2⟩⟩
  · exact ⟨_, rfl, .inl rfl⟩

/-- A loop over the numbers below n by what stays true. -/
theorem for_inv {mu : Bool} {m : Mk} {f : FuncId} {c : Code} {nB nA : Nat} {keep : List Tmp} (hd : ch.head f (firstR c) = keep) (n : Nat) (I : Nat → Fr → Hp → Prop) (Q : CO → Prop)
    (hend : ∀ F H, I n F H → ∃ o, E mu m f c F H = some o ∧ o.1 ≠ .normal ∧ Q o)
    (hstep : ∀ i F H, i < n → I i F H → ∃ F1 H1, E mu m f c F H = some (.normal, F1, H1) ∧ ∃ F2 H2, cutD m keep nB nA F1 H1 = some (F2, H2) ∧ I (i + 1) F2 H2)
    {F F0 : Fr} {H H0 : Hp} (hcut : cutD m keep nB nA F H = some (F0, H0)) (hI : I 0 F0 H0) : ∃ o, loopO mu m f c nB nA F H = some o ∧ Q o := by
  have key : ∀ (k i : Nat) (F : Fr) (H : Hp) (F0 : Fr) (H0 : Hp), i + k = n → cutD m keep nB nA F H = some (F0, H0) → I i F0 H0 → ∃ o, loopO mu m f c nB nA F H = some o ∧ Q o := by
    intro k
    induction k with
    | zero =>
      intro i F H F0 H0 hi hcut hI
      have : i = n := by omega
      subst this
      obtain ⟨o, h1, h2, h3⟩ := hend F0 H0 hI
      refine ⟨o, ?_, h3⟩
      rw [loopO_eq, hd, hcut]
      simp only [h1]
      obtain ⟨e, F1, H1⟩ := o
      cases e with
      | normal => exact absurd rfl h2
      | _ => rfl
    | succ k ih =>
      intro i F H F0 H0 hi hcut hI
      obtain ⟨F1, H1, h1, F2, H2, h2, h3⟩ := hstep i F0 H0 (by omega) hI
      obtain ⟨o, h4, h5⟩ := ih (i + 1) F1 H1 F2 H2 (by omega) h2 h3
      refine ⟨o, ?_, h5⟩
      rw [loopO_eq, hd, hcut]
      simp only [h1]
      exact h4
  exact key n 0 F H F0 H0 (by omega) hcut hI

theorem get_concat (X : List Blk) (b : Blk) : (X ++ [b])[X.length]? = some b := by simp
theorem set_concat (X : List Blk) (b c : Blk) : (X ++ [b]).set X.length c = X ++ [c] := by simp
end Go.Vi
end

section
/- Vi: layer 11: problems by numbers: the forms of a set. No conditions but those that stand with each. -/
namespace Go.Vi
open Go Go.Lib Go.Proofs
set_option maxRecDepth 100000
attribute [local simp] E_skip E_ret E_exit E_text E_draw E_seq E_cond E_block E_scope E_loop runOps runOp runDraw runVF runV finV gate FlOK wantD exec fin opd look putF norm constD constC fieldAddrD loadD storeD opCall lenD binD isShift intP strP numD indexAddrD indexD D.pd? D.pds? sub capsOf callD argsD argD D.nf unP mkF H00 cD_agg cD_pagg cD_int cD_bool cD_str cD_sl cD_lit cells_encS cells_encU cells_encW cells_encR box_encU box_encW box_encR encU_agg encR_agg encW_agg cells_int one_int buildSliceD elsD splice
attribute [local simp] fnOut retOut resD retsD retD oneD D.noRefs D.noRef alone Hp.cut newRow Hp.live convD

theorem ce_int (k : IntKind) (n : Int) : cellD (.p (.int k n)) = true := rfl
theorem ce_bool (b : Bool) : cellD (.p (.bool b)) = true := rfl
theorem ce_str (b : ByteArray) : cellD (.p (.str b)) = true := rfl
theorem ce_sl (l : List PD) : cellD (.p (.sl l)) = true := rfl
theorem ce_lit (b : Bool) (l : List PD) : cellD (.lit b l) = true := rfl
theorem ce_own (i v : Nat) : cellD (.own i v) = true := rfl
theorem ce_ptr (i v : Nat) : cellD (.ptr i v) = true := rfl
attribute [local simp] ce_int ce_bool ce_str ce_sl ce_lit ce_own ce_ptr

abbrev b8 (n : Int) : PD := .int .u8 n
abbrev b16 (n : Int) : PD := .int .u16 n
structure Yd where
  sets : Int
  s0 : Int
  s1 : Int
  s2 : Int
  s3 : Int
  f0 : Int
  f1 : Int
  f2 : Int
  f3 : Int
  uses : List (Int × Int × Int × Int)
  a0 : Int
  b0 : Int
  a1 : Int
  b1 : Int
  pairs : Int
def encQ (x : Int × Int × Int × Int) : PD := .agg [b8 x.1, b8 x.2.1, b8 x.2.2.1, b8 x.2.2.2]
def Yd.cs (y : Yd) : List PD := [b8 y.sets, b16 y.s0, b16 y.s1, b16 y.s2, b16 y.s3, b8 y.f0, b8 y.f1, b8 y.f2, b8 y.f3, .sl (y.uses.map encQ), b8 y.a0, b8 y.b0, b8 y.a1, b8 y.b1, b8 y.pairs]
def in8 (n : Int) : Prop := 0 ≤ n ∧ n < 256
def in16 (n : Int) : Prop := 0 ≤ n ∧ n < 65536
structure Yd.ok (y : Yd) : Prop where
  sets : in8 y.sets
  s : in16 y.s0 ∧ in16 y.s1 ∧ in16 y.s2 ∧ in16 y.s3
  f : in8 y.f0 ∧ in8 y.f1 ∧ in8 y.f2 ∧ in8 y.f3
  uses : ∀ x ∈ y.uses, in8 x.1 ∧ in8 x.2.1 ∧ in8 x.2.2.1 ∧ in8 x.2.2.2
  p : in8 y.a0 ∧ in8 y.b0 ∧ in8 y.a1 ∧ in8 y.b1
  pairs : in8 y.pairs

def bYd (y : Yd) : Blk := .cells (y.cs.map .p)
def Yd.n (y : Yd) : Int := 1 + y.sets % 4
def Yd.sz (y : Yd) : Nat → Int | 0 => y.s0 | 1 => y.s1 | 2 => y.s2 | _ => y.s3
def Yd.fm (y : Yd) : Nat → Int | 0 => y.f0 | 1 => y.f1 | 2 => y.f2 | _ => y.f3


/-- The state: the numbers, the problem so far. -/
def MSt (y : Yd) (S : List RSet) (U : List RUse) (Z : List (Int × Int)) (H : Hp) : Prop :=
  ∃ c0 c1 c2 X, H.B = bYd y :: .cells [.lit true [], .lit true [], .lit true []] :: .cells [c0, c1, c2] :: X ∧ GRow H.A 61 2 c0 (S.map encS) ∧ GRow H.A 78 4 c1 (U.map encU) ∧ GRow H.A 70 2 c2 (Z.map encW) ∧ Apart c0 c1 ∧ Apart c0 c2 ∧ Apart c1 c2

theorem MSt.cut {y : Yd} {S : List RSet} {U : List RUse} {Z : List (Int × Int)} {H H' : Hp} (h : MSt y S U Z H) {keep : List Tmp} {nB nA : Nat} {F : Fr} (hB : 3 ≤ nB)
    (hc : H' = H ∨ (H' = ⟨H.B.take nB, H.A.take nA⟩ ∧ frNo nB nA (norm keep F) = true ∧ (H.B.take nB).all (blkNo nB nA) = true)) : MSt y S U Z H' := by
  obtain ⟨c0, c1, c2, X, h1, h2, h3, h4, h5⟩ := h
  rcases hc with rfl | ⟨rfl, _, hc⟩
  · exact ⟨c0, c1, c2, X, h1, h2, h3, h4, h5⟩
  · obtain ⟨k, rfl⟩ : ∃ k, nB = k + 3 := ⟨nB - 3, by omega⟩
    rw [h1] at hc
    simp only [List.take_succ_cons, List.all_cons, blkNo, Bool.and_eq_true, List.all_nil, D.noRefs] at hc
    exact ⟨c0, c1, c2, X.take k, by simp [h1], h2.cut hc.2.2.1.1, h3.cut hc.2.2.1.2.1, h4.cut hc.2.2.1.2.2.1, h5⟩

/-- The forms found so far: of those below f. -/
def InF (l : List Int) (f : Int) : Prop := incF l = true ∧ ∀ x ∈ l, x < f
theorem incF_app : ∀ (l : List Int) (f : Int), incF l = true → (∀ x ∈ l, x < f) → five f = true → incF (l ++ [f]) = true
  | [], f, _, _, h5 => by simpa [incF] using h5
  | [x], f, h, hx, h5 => by simp [incF] at h ⊢; exact ⟨⟨h, hx x (by simp)⟩, h5⟩
  | x :: y :: r, f, h, hx, h5 => by
    simp only [incF, Bool.and_eq_true, List.cons_append] at h ⊢
    exact ⟨h.1, incF_app (y :: r) f h.2 (fun z hz => hx z (by simp [hz])) h5⟩

/-- While the forms of one set are gathered. -/
def FSt (y : Yd) (i : Nat) (S : List RSet) (f : Int) (F : Fr) (H : Hp) : Prop :=
  ∃ c0 c X l, F = [(1, .ptr 0 0), (2, .ptr 1 0), (3, .p (iP y.n)), (4, .ptr 2 0), (5, .p (iP i)), (6, .ptr (X.length + 1 + 1 + 1) 0), (7, .p (iP f)), (20, .p (iP y.n)), (21, .p (iP i))] ∧
    H.B = bYd y :: .cells [.lit true [], .lit true [], .lit true []] :: .cells [c0, .lit true [], .lit true []] :: (X ++ [.cells [.p (iP (y.sz i % 1025)), c]]) ∧
    GRow H.A 61 2 c0 (S.map encS) ∧ GRow H.A 62 1 c (l.map iP) ∧ Apart c0 c ∧ InF l f ∧ (l.length : Int) < f

theorem FSt.cut {y : Yd} {i : Nat} {S : List RSet} {f : Int} {F : Fr} {H H' : Hp} (h : FSt y i S f F H) {nA : Nat} {F' : Fr} {nB : Nat} (hB : nB = H.B.length)
    (hc : H' = H ∨ (H' = ⟨H.B.take nB, H.A.take nA⟩ ∧ frNo nB nA F' = true ∧ (H.B.take nB).all (blkNo nB nA) = true)) : FSt y i S f F H' := by
  obtain ⟨c0, c, X, l, h0, h1, h2, h3, h4⟩ := h
  rcases hc with rfl | ⟨rfl, _, hc⟩
  · exact ⟨c0, c, X, l, h0, h1, h2, h3, h4⟩
  · subst hB
    rw [List.take_length] at hc ⊢
    generalize hn : H.B.length = n at hc
    rw [h1] at hc
    simp only [List.all_cons, List.all_append, blkNo, Bool.and_eq_true, List.all_nil, D.noRefs] at hc
    exact ⟨c0, c, X, l, h0, h1, h2.cut hc.2.2.1.1, h3.cut hc.2.2.2.2.1.2.1, h4⟩

theorem fitI (x : Int) : fits 1 [iP x] = true := rfl
theorem len_set {α : Type} (X : List α) (a b : α) : (X ++ [a]).set X.length b = X ++ [b] := by simp

theorem round13_1 (y : Yd) (i : Nat) (hi : i < 4) (S : List RSet) (f : Int) (h1 : 1 ≤ f) (h5 : f ≤ 5) (F : Fr) (H : Hp) (h : FSt y i S f F H) :
    ∃ F1 H1, E false ⟨0, 0⟩ 13 lp13_1 F H = some (.normal, F1, H1) ∧ norm [1, 2, 3, 4, 5, 6, 7, 20, 21] F1 = F1 ∧ H1.B.length = H.B.length ∧ FSt y i S (f + 1) F1 H1 := by
  obtain ⟨c0, c, X, l, rfl, hB, g0, g1, ha, hl, hlen⟩ := h
  obtain ⟨B, A⟩ := H
  simp only at hB g0 g1
  subst hB
  have hw : IntKind.i64.wrap (f + 1) = f + 1 := wrap64 (by omega) (by omega)
  have hf0 : ¬ f < 0 := by omega
  obtain ⟨d', A', k1, k2, k3, k4⟩ := g1.app (B := bYd y :: .cells [.lit true [], .lit true [], .lit true []] :: .cells [c0, .lit true [], .lit true []] :: (X ++ [.cells [.p (iP (y.sz i % 1025)), c]])) (t := 53) (y := .lit false [iP f]) (ys := [iP f]) (el53) (sz62) (by62) (by decide) (by decide) zk62 rfl (by simp) (fitI f) (by simp; omega)
  have k5 := (k4 _ _ _ _ g0 ha)
  have kc := k2.cell
  have st : FSt y i S (f + 1) [(1, .ptr 0 0), (2, .ptr 1 0), (3, .p (iP y.n)), (4, .ptr 2 0), (5, .p (iP i)), (6, .ptr (X.length + 1 + 1 + 1) 0), (7, .p (iP (f + 1))), (20, .p (iP y.n)), (21, .p (iP i))]
      ⟨bYd y :: .cells [.lit true [], .lit true [], .lit true []] :: .cells [c0, .lit true [], .lit true []] :: (X ++ [.cells [.p (iP (y.sz i % 1025)), c]]), A⟩ :=
    ⟨c0, c, X, l, rfl, rfl, g0, g1, ha, ⟨hl.1, fun x hx => by have := hl.2 x hx; omega⟩, by omega⟩
  have st2 : FSt y i S (f + 1) [(1, .ptr 0 0), (2, .ptr 1 0), (3, .p (iP y.n)), (4, .ptr 2 0), (5, .p (iP i)), (6, .ptr (X.length + 1 + 1 + 1) 0), (7, .p (iP (f + 1))), (20, .p (iP y.n)), (21, .p (iP i))]
      ⟨bYd y :: .cells [.lit true [], .lit true [], .lit true []] :: .cells [c0, .lit true [], .lit true []] :: (X ++ [.cells [.p (iP (y.sz i % 1025)), d']]), A'⟩ :=
    ⟨c0, d', X, l ++ [f], rfl, rfl, k5.1, by simpa using k2, k5.2, ⟨incF_app l f hl.1 hl.2 (by simp [five]; omega), fun x hx => by
      rcases List.mem_append.1 hx with h | h
      · have := hl.2 x h; omega
      · simp at h; omega⟩, by simp; omega⟩
  have hf0' : 0 ≤ f := by omega
  match i, hi with
  | 0, _ =>
    simp only [bYd, Yd.cs, List.map_cons, List.map_nil] at k1
    by_cases hc : Go.bits .and .u8 (y.f0.fdiv (2 ^ (min f.toNat 8))) 1 = 1
    · refine ⟨_, _, ?_, rfl, ?_, st2⟩
      · simp [lp13_1, code13, Tryz.f13, bYd, Yd.cs, h5, hf0, shiftP, IntKind.bits, hc, hw, k1, k3, kc]
      · simp
    · refine ⟨_, _, ?_, rfl, ?_, st⟩
      · simp [lp13_1, code13, Tryz.f13, bYd, Yd.cs, h5, hf0, shiftP, IntKind.bits, hc, hw]
      · simp
  | 1, _ =>
    simp only [bYd, Yd.cs, List.map_cons, List.map_nil] at k1
    by_cases hc : Go.bits .and .u8 (y.f1.fdiv (2 ^ (min f.toNat 8))) 1 = 1
    · refine ⟨_, _, ?_, rfl, ?_, st2⟩
      · simp [lp13_1, code13, Tryz.f13, bYd, Yd.cs, h5, hf0, shiftP, IntKind.bits, hc, hw, k1, k3, kc]
      · simp
    · refine ⟨_, _, ?_, rfl, ?_, st⟩
      · simp [lp13_1, code13, Tryz.f13, bYd, Yd.cs, h5, hf0, shiftP, IntKind.bits, hc, hw]
      · simp
  | 2, _ =>
    simp only [bYd, Yd.cs, List.map_cons, List.map_nil] at k1
    by_cases hc : Go.bits .and .u8 (y.f2.fdiv (2 ^ (min f.toNat 8))) 1 = 1
    · refine ⟨_, _, ?_, rfl, ?_, st2⟩
      · simp [lp13_1, code13, Tryz.f13, bYd, Yd.cs, h5, hf0, shiftP, IntKind.bits, hc, hw, k1, k3, kc]
      · simp
    · refine ⟨_, _, ?_, rfl, ?_, st⟩
      · simp [lp13_1, code13, Tryz.f13, bYd, Yd.cs, h5, hf0, shiftP, IntKind.bits, hc, hw]
      · simp
  | 3, _ =>
    simp only [bYd, Yd.cs, List.map_cons, List.map_nil] at k1
    by_cases hc : Go.bits .and .u8 (y.f3.fdiv (2 ^ (min f.toNat 8))) 1 = 1
    · refine ⟨_, _, ?_, rfl, ?_, st2⟩
      · simp [lp13_1, code13, Tryz.f13, bYd, Yd.cs, h5, hf0, shiftP, IntKind.bits, hc, hw, k1, k3, kc]
      · simp
    · refine ⟨_, _, ?_, rfl, ?_, st⟩
      · simp [lp13_1, code13, Tryz.f13, bYd, Yd.cs, h5, hf0, shiftP, IntKind.bits, hc, hw]
      · simp
end Go.Vi
end

section
/- Vi: layer 11: problems by numbers: the sets. No conditions but those that stand with each. -/
namespace Go.Vi
open Go Go.Lib Go.Proofs
set_option maxRecDepth 100000
attribute [local simp] E_skip E_ret E_exit E_text E_draw E_seq E_cond E_block E_scope E_loop runOps runOp runDraw runVF runV finV gate FlOK wantD exec fin opd look putF norm constD constC fieldAddrD loadD storeD opCall binD isShift intP strP numD indexAddrD indexD D.pd? D.pds? sub capsOf callD argsD argD D.nf unP mkF H00 cD_agg cD_pagg cD_int cD_bool cD_str cD_sl cD_lit cD_ptr cells_encS cells_encU cells_encW cells_encR box_encU box_encW box_encR encU_agg encR_agg encW_agg cells_int one_int buildSliceD elsD splice
attribute [local simp] fnOut retOut resD retsD retD oneD D.noRefs D.noRef alone Hp.cut newRow Hp.live convD
attribute [local simp] ce_int ce_bool ce_str ce_sl ce_lit ce_own ce_ptr

theorem len_p (H : Hp) (l : List PD) : lenD H false (.p (.sl l)) = some (l.length : Int) := rfl
theorem len_l (H : Hp) (b : Bool) (l : List PD) : lenD H false (.lit b l) = some (l.length : Int) := rfl
attribute [local simp] len_p len_l cells_agg one_agg one_sl
@[simp] theorem pl61 : placesOf Tryz.prog 61 = some [(0, 1), (1, 1)] := by kernel_rfl

theorem forms30_W (l : List PD) (H : Hp) : W 30 [.p (.sl l)] H = some (.ret (.p (.sl l)), H) := by
  refine W30_of rfl (by simp) ?_
  simp [code30, Tryz.f30]

abbrev frF (y : Yd) (i : Nat) (X : List Blk) (f : Int) : Fr := [(1, .ptr 0 0), (2, .ptr 1 0), (3, .p (iP y.n)), (4, .ptr 2 0), (5, .p (iP i)), (6, .ptr (X.length + 1 + 1 + 1) 0), (7, .p (iP f)), (20, .p (iP y.n)), (21, .p (iP i))]
theorem loop13_1 (y : Yd) (i : Nat) (hi : i < 4) (S : List RSet) (F : Fr) (H : Hp) (h : FSt y i S 1 F H) (nA : Nat) :
    ∃ F' H', loopO false ⟨0, 0⟩ 13 lp13_1 H.B.length nA F H = some (.exit 2, F' ++ [(32, .p (.bool false))], H') ∧ FSt y i S 6 F' H' := by
  obtain ⟨H0, hc0, hor⟩ := cutD_or ⟨0, 0⟩ [1, 2, 3, 4, 5, 6, 7, 20, 21] H.B.length nA F H
  have hn : norm [1, 2, 3, 4, 5, 6, 7, 20, 21] F = F := by
    obtain ⟨c0, c, X, l, rfl, _⟩ := h
    rfl
  rw [hn] at hc0 hor
  have hl0 : H0.B.length = H.B.length := by
    rcases hor with rfl | ⟨rfl, _⟩
    · rfl
    · simp
  obtain ⟨o, h1, F', H', h2, h3⟩ := for_inv (mu := false) (m := ⟨0, 0⟩) (f := 13) (c := lp13_1) (nB := H.B.length) (nA := nA) hd13_1 5 (fun k F1 H1 => FSt y i S (1 + k) F1 H1 ∧ H1.B.length = H.B.length)
    (fun o => ∃ F' H', o = (.exit 2, F' ++ [(32, .p (.bool false))], H') ∧ FSt y i S 6 F' H')
    (fun F1 H1 ⟨hst, _⟩ => by
      refine ⟨(.exit 2, F1 ++ [(32, .p (.bool false))], H1), ?_, by simp, F1, H1, rfl, hst⟩
      obtain ⟨c0, c, X, l, rfl, _⟩ := hst
      simp [lp13_1, code13, Tryz.f13])
    (fun k F1 H1 hk ⟨hst, hlen⟩ => by
      obtain ⟨F2, H2, e1, e2, e3, e4⟩ := round13_1 y i hi S (1 + k) (by omega) (by omega) F1 H1 hst
      refine ⟨F2, H2, e1, ?_⟩
      obtain ⟨H3, g1, g2⟩ := cutD_or ⟨0, 0⟩ [1, 2, 3, 4, 5, 6, 7, 20, 21] H.B.length nA F2 H2
      rw [e2] at g1 g2
      refine ⟨F2, H3, g1, ?_, ?_⟩
      · have := e4.cut (by rw [e3, hlen]) g2
        have e : (1 + (k : Int) + 1) = 1 + ((k + 1 : Nat) : Int) := by omega
        rw [e] at this
        exact this
      · rcases g2 with rfl | ⟨rfl, _⟩
        · rw [e3, hlen]
        · simp [e3, hlen])
    hc0 ⟨h.cut rfl hor, hl0⟩
  exact ⟨F', H', by rw [h1, h2], h3⟩

theorem Yd.n_bd {y : Yd} (h : y.ok) : 1 ≤ y.n ∧ y.n ≤ 4 := by
  have := h.sets
  unfold in8 at this
  unfold Yd.n
  omega
theorem sz_facts {y : Yd} (h : y.ok) (i : Nat) : IntKind.i64.wrap (y.sz i) = y.sz i ∧ (y.sz i).tmod 1025 = y.sz i % 1025 ∧ 0 ≤ y.sz i % 1025 ∧ y.sz i % 1025 ≤ 1024 := by
  have hb : in16 (y.sz i) := by
    obtain ⟨a, b, c, d⟩ := h.s
    unfold Yd.sz
    split <;> assumption
  unfold in16 at hb
  exact ⟨wrap64 (by omega) (by omega), Int.tmod_eq_emod_of_nonneg (by omega), by omega, by omega⟩

def fr13a (y : Yd) (i : Nat) : Fr := [(1, .ptr 0 0), (2, .ptr 1 0), (3, .p (iP y.n)), (4, .ptr 2 0), (20, .p (iP y.n)), (21, .p (iP i))]
theorem fitS (s : RSet) : fits 2 [encS s] = true := rfl

/-- The sets so far. -/
def SSt (y : Yd) (S : List RSet) (H : Hp) : Prop :=
  ∃ c0 X, H.B = bYd y :: .cells [.lit true [], .lit true [], .lit true []] :: .cells [c0, .lit true [], .lit true []] :: X ∧ GRow H.A 61 2 c0 (S.map encS)
theorem SSt.to {y : Yd} {S : List RSet} {H : Hp} (h : SSt y S H) : MSt y S [] [] H := by
  obtain ⟨c0, X, hB, g⟩ := h
  exact ⟨c0, .lit true [], .lit true [], X, hB, g, .inl ⟨rfl, rfl⟩, .inl ⟨rfl, rfl⟩, apart_lit _ _ _, apart_lit _ _ _, apart_lit _ _ _⟩
theorem SSt.cut {y : Yd} {S : List RSet} {H H' : Hp} (h : SSt y S H) {nB nA : Nat} {F : Fr} (hB : 3 ≤ nB)
    (hc : H' = H ∨ (H' = ⟨H.B.take nB, H.A.take nA⟩ ∧ frNo nB nA F = true ∧ (H.B.take nB).all (blkNo nB nA) = true)) : SSt y S H' := by
  obtain ⟨c0, X, h1, h2⟩ := h
  rcases hc with rfl | ⟨rfl, _, hc⟩
  · exact ⟨c0, X, h1, h2⟩
  · obtain ⟨k, rfl⟩ : ∃ k, nB = k + 3 := ⟨nB - 3, by omega⟩
    rw [h1] at hc
    simp only [List.take_succ_cons, List.all_cons, blkNo, Bool.and_eq_true, List.all_nil, D.noRefs] at hc
    exact ⟨c0, X.take k, by simp [h1], h2.cut hc.2.2.1.1⟩

set_option maxHeartbeats 1000000 in
theorem round13_0 (y : Yd) (hy : y.ok) (i : Nat) (hi : (i : Int) < y.n) (S : List RSet) (hS : S.length ≤ 4) (H : Hp) (h : SSt y S H) :
    ∃ H1 s, E false ⟨0, 0⟩ 13 lp13_0 (fr13a y i) H = some (.normal, fr13a y (i + 1), H1) ∧ okS s = true ∧ SSt y (S ++ [s]) H1 := by
  obtain ⟨c0, X, hB, g0⟩ := h
  obtain ⟨B, A⟩ := H
  simp only at hB g0
  subst hB
  have hn := Yd.n_bd hy
  have hi4 : i < 4 := by omega
  have hw : IntKind.i64.wrap ((i : Int) + 1) = (i : Int) + 1 := wrap64 (by omega) (by omega)
  have hst : FSt y i S 1 (frF y i X 1) ⟨bYd y :: .cells [.lit true [], .lit true [], .lit true []] :: .cells [c0, .lit true [], .lit true []] :: (X ++ [.cells [.p (iP (y.sz i % 1025)), .lit true []]]), A⟩ :=
    ⟨c0, .lit true [], X, [], rfl, rfl, g0, .inl ⟨rfl, rfl⟩, apart_lit _ _ _, ⟨rfl, fun x hx => by cases hx⟩, by simp⟩
  obtain ⟨F', H', hloop, hst'⟩ := loop13_1 y i hi4 S _ _ hst A.length
  obtain ⟨z1, z2, z3, z4⟩ := sz_facts hy i
  obtain ⟨c0', c', X', l, rfl, hB', g0', gl, ha', hinc, hlen⟩ := hst'
  obtain ⟨B', A'⟩ := H'
  simp only at hB' g0' gl
  subst hB'
  have hl5 : l.length ≤ 5 := by omega
  have hpd := gl.pd
  have hln := gl.len
  have hf30 := fun l H => forms30_W l H
  -- the two endings: forms, or the first form
  have key : ∀ (c : D) (q : List Int), D.pd? A' c = some (.sl (q.map iP)) → incF q = true → q ≠ [] → ∃ c1 A1, appendD Tryz.prog false ⟨bYd y :: .cells [.lit true [], .lit true [], .lit true []] :: .cells [c0', .lit true [], .lit true []] :: (X' ++ [.cells [.p (iP (y.sz i % 1025)), c]]), A'⟩ 29 c0' (.lit false [encS (RSet.mk (y.sz i % 1025) q)]) =
      some (.val c1 ⟨bYd y :: .cells [.lit true [], .lit true [], .lit true []] :: .cells [c0', .lit true [], .lit true []] :: (X' ++ [.cells [.p (iP (y.sz i % 1025)), c]]), A1⟩) ∧ cellsD c1 = [c1] ∧ cellD c1 = true ∧ okS (RSet.mk (y.sz i % 1025) q) = true ∧ GRow A1 61 2 c1 ((S ++ [RSet.mk (y.sz i % 1025) q]).map encS) := by
    intro c q _ hq hne
    obtain ⟨d', A1, k1, k2, k3, k4⟩ := g0'.app (B := bYd y :: .cells [.lit true [], .lit true [], .lit true []] :: .cells [c0', .lit true [], .lit true []] :: (X' ++ [.cells [.p (iP (y.sz i % 1025)), c]])) (t := 29) (y := .lit false [encS (RSet.mk (y.sz i % 1025) q)]) (ys := [encS (RSet.mk (y.sz i % 1025) q)]) el29 sz61 by61 (by decide) (by decide) (by kernel_rfl) rfl (by simp) (fitS _) (by simp; omega)
    refine ⟨d', A1, k1, k3, k2.cell, ?_, by simpa using k2⟩
    simp only [okS, inR, formsOK, hq, Bool.and_eq_true, decide_eq_true_eq, Bool.true_and]
    exact ⟨⟨z3, z4⟩, by cases q with | nil => exact absurd rfl hne | cons => rfl⟩
  have hsz : ∀ k, k < 4 → i = k → y.sz i = y.sz k := fun k _ e => by rw [e]
  by_cases hl0 : l = []
  · subst hl0
    obtain ⟨c1, A1, k1, k2, k3, k4, k5⟩ := key (.p (.sl [iP 1])) [1] rfl (by decide) (by simp)
    refine ⟨⟨bYd y :: .cells [.lit true [], .lit true [], .lit true []] :: .cells [c1, .lit true [], .lit true []] :: (X' ++ [.cells [.p (iP (y.sz i % 1025)), .p (.sl [iP 1])]]), A1⟩, ⟨y.sz i % 1025, [1]⟩, ?_, k4, c1, X' ++ [.cells [.p (iP (y.sz i % 1025)), .p (.sl [iP 1])]], rfl, k5⟩
    simp only [bYd, Yd.cs, List.map_cons, List.map_nil, encS] at k1
    obtain rfl | rfl | rfl | rfl : i = 0 ∨ i = 1 ∨ i = 2 ∨ i = 3 := by omega
    · have hi' : (0 : Int) < y.n := hi
      have hc : ((0 : Nat) : Int) = 0 := rfl
      have hw' : IntKind.i64.wrap (1 : Int) = 1 := by decide
      have hw2 : IntKind.i64.wrap (0 : Int) = 0 := by decide
      simp only [Yd.sz, hc] at *
      simp [lp13_1, code13, Tryz.f13, bYd, Yd.cs, frF] at hloop
      simp [lp13_0, code13, Tryz.f13, fr13a, bYd, Yd.cs, hi', z1, z2, buildD, buildD.go, hloop, hln, hw', hw2, hf30, k1, k2, k3]
    · have hi' : (1 : Int) < y.n := hi
      have hc : ((1 : Nat) : Int) = 1 := rfl
      have hw' : IntKind.i64.wrap (2 : Int) = 2 := by decide
      have hw2 : IntKind.i64.wrap (1 : Int) = 1 := by decide
      simp only [Yd.sz, hc] at *
      simp [lp13_1, code13, Tryz.f13, bYd, Yd.cs, frF] at hloop
      simp [lp13_0, code13, Tryz.f13, fr13a, bYd, Yd.cs, hi', z1, z2, buildD, buildD.go, hloop, hln, hw', hw2, hf30, k1, k2, k3]
    · have hi' : (2 : Int) < y.n := hi
      have hc : ((2 : Nat) : Int) = 2 := rfl
      have hw' : IntKind.i64.wrap (3 : Int) = 3 := by decide
      have hw2 : IntKind.i64.wrap (2 : Int) = 2 := by decide
      simp only [Yd.sz, hc] at *
      simp [lp13_1, code13, Tryz.f13, bYd, Yd.cs, frF] at hloop
      simp [lp13_0, code13, Tryz.f13, fr13a, bYd, Yd.cs, hi', z1, z2, buildD, buildD.go, hloop, hln, hw', hw2, hf30, k1, k2, k3]
    · have hi' : (3 : Int) < y.n := hi
      have hc : ((3 : Nat) : Int) = 3 := rfl
      have hw' : IntKind.i64.wrap (4 : Int) = 4 := by decide
      have hw2 : IntKind.i64.wrap (3 : Int) = 3 := by decide
      simp only [Yd.sz, hc] at *
      simp [lp13_1, code13, Tryz.f13, bYd, Yd.cs, frF] at hloop
      simp [lp13_0, code13, Tryz.f13, fr13a, bYd, Yd.cs, hi', z1, z2, buildD, buildD.go, hloop, hln, hw', hw2, hf30, k1, k2, k3]
  · obtain ⟨c1, A1, k1, k2, k3, k4, k5⟩ := key c' l hpd hinc.1 hl0
    have hlc := gl.cell
    have hne : ¬ (l.length : Int) = 0 := by
      intro e
      exact hl0 (List.length_eq_zero_iff.1 (by omega))
    refine ⟨⟨bYd y :: .cells [.lit true [], .lit true [], .lit true []] :: .cells [c1, .lit true [], .lit true []] :: (X' ++ [.cells [.p (iP (y.sz i % 1025)), c']]), A1⟩, ⟨y.sz i % 1025, l⟩, ?_, k4, c1, X' ++ [.cells [.p (iP (y.sz i % 1025)), c']], rfl, k5⟩
    simp only [bYd, Yd.cs, List.map_cons, List.map_nil, encS] at k1
    obtain rfl | rfl | rfl | rfl : i = 0 ∨ i = 1 ∨ i = 2 ∨ i = 3 := by omega
    · have hi' : (0 : Int) < y.n := hi
      have hc : ((0 : Nat) : Int) = 0 := rfl
      have hw' : IntKind.i64.wrap (1 : Int) = 1 := by decide
      have hw2 : IntKind.i64.wrap (0 : Int) = 0 := by decide
      simp only [Yd.sz, hc] at *
      simp [lp13_1, code13, Tryz.f13, bYd, Yd.cs, frF] at hloop
      simp [lp13_0, code13, Tryz.f13, fr13a, bYd, Yd.cs, hi', z1, z2, buildD, buildD.go, hloop, hln, hw', hw2, hpd, hl0, k1, k2, k3]
    · have hi' : (1 : Int) < y.n := hi
      have hc : ((1 : Nat) : Int) = 1 := rfl
      have hw' : IntKind.i64.wrap (2 : Int) = 2 := by decide
      have hw2 : IntKind.i64.wrap (1 : Int) = 1 := by decide
      simp only [Yd.sz, hc] at *
      simp [lp13_1, code13, Tryz.f13, bYd, Yd.cs, frF] at hloop
      simp [lp13_0, code13, Tryz.f13, fr13a, bYd, Yd.cs, hi', z1, z2, buildD, buildD.go, hloop, hln, hw', hw2, hpd, hl0, k1, k2, k3]
    · have hi' : (2 : Int) < y.n := hi
      have hc : ((2 : Nat) : Int) = 2 := rfl
      have hw' : IntKind.i64.wrap (3 : Int) = 3 := by decide
      have hw2 : IntKind.i64.wrap (2 : Int) = 2 := by decide
      simp only [Yd.sz, hc] at *
      simp [lp13_1, code13, Tryz.f13, bYd, Yd.cs, frF] at hloop
      simp [lp13_0, code13, Tryz.f13, fr13a, bYd, Yd.cs, hi', z1, z2, buildD, buildD.go, hloop, hln, hw', hw2, hpd, hl0, k1, k2, k3]
    · have hi' : (3 : Int) < y.n := hi
      have hc : ((3 : Nat) : Int) = 3 := rfl
      have hw' : IntKind.i64.wrap (4 : Int) = 4 := by decide
      have hw2 : IntKind.i64.wrap (3 : Int) = 3 := by decide
      simp only [Yd.sz, hc] at *
      simp [lp13_1, code13, Tryz.f13, bYd, Yd.cs, frF] at hloop
      simp [lp13_0, code13, Tryz.f13, fr13a, bYd, Yd.cs, hi', z1, z2, buildD, buildD.go, hloop, hln, hw', hw2, hpd, hl0, k1, k2, k3]
end Go.Vi
end

section
/- Vi: layer 11: problems by numbers: the uses. No conditions but those that stand with each. -/
namespace Go.Vi
open Go Go.Lib Go.Proofs
set_option maxRecDepth 100000
attribute [local simp] E_skip E_ret E_exit E_text E_draw E_seq E_cond E_block E_scope E_loop runOps runOp runDraw runVF runV finV gate FlOK wantD exec fin opd look putF norm constD constC fieldAddrD loadD storeD opCall binD isShift intP strP numD indexAddrD indexD D.pd? D.pds? sub capsOf callD argsD argD D.nf unP mkF H00 cD_agg cD_pagg cD_int cD_bool cD_str cD_sl cD_lit cD_ptr cells_encS cells_encU cells_encW cells_encR box_encU box_encW box_encR encU_agg encR_agg encW_agg cells_int one_int buildSliceD elsD splice
attribute [local simp] fnOut retOut resD retsD retD oneD D.noRefs D.noRef alone Hp.cut newRow Hp.live convD
attribute [local simp] ce_int ce_bool ce_str ce_sl ce_lit ce_own ce_ptr len_p len_l cells_agg one_agg one_sl

theorem loop13_0 (y : Yd) (hy : y.ok) (H : Hp) (h : SSt y [] H) (nA : Nat) (hB : 3 ≤ H.B.length) :
    ∃ H' S, loopO false ⟨0, 0⟩ 13 lp13_0 H.B.length nA (fr13a y 0) H = some (.exit 0, [(1, .ptr 0 0), (2, .ptr 1 0), (3, .p (iP y.n)), (4, .ptr 2 0), (20, .p (iP y.n)), (21, .p (iP y.n)), (22, .p (.bool false))], H') ∧ SSt y S H' ∧ (S.length : Int) = y.n ∧ S.all okS = true := by
  have hn := Yd.n_bd hy
  obtain ⟨n, hnn⟩ : ∃ n : Nat, y.n = n := ⟨y.n.toNat, by omega⟩
  obtain ⟨H0, hc0, hor⟩ := cutD_or ⟨0, 0⟩ [1, 2, 3, 4, 20, 21] H.B.length nA (fr13a y 0) H
  obtain ⟨o, h1, H', S, h2, h3⟩ := for_inv (mu := false) (m := ⟨0, 0⟩) (f := 13) (c := lp13_0) (nB := H.B.length) (nA := nA) hd13_0 n (fun k F1 H1 => F1 = fr13a y k ∧ ∃ S, SSt y S H1 ∧ S.length = k ∧ S.all okS = true)
    (fun o => ∃ H' S, o = (.exit 0, [(1, .ptr 0 0), (2, .ptr 1 0), (3, .p (iP y.n)), (4, .ptr 2 0), (20, .p (iP y.n)), (21, .p (iP y.n)), (22, .p (.bool false))], H') ∧ SSt y S H' ∧ (S.length : Int) = y.n ∧ S.all okS = true)
    (fun F1 H1 ⟨hf, S, hst, hl, hok⟩ => by
      subst hf
      refine ⟨_, ?_, by simp, H1, S, rfl, hst, by omega, hok⟩
      simp [lp13_0, code13, Tryz.f13, fr13a, hnn])
    (fun k F1 H1 hk ⟨hf, S, hst, hl, hok⟩ => by
      subst hf
      obtain ⟨H2, s, e1, e2, e3⟩ := round13_0 y hy k (by omega) S (by omega) H1 hst
      refine ⟨_, H2, e1, ?_⟩
      obtain ⟨H3, g1, g2⟩ := cutD_or ⟨0, 0⟩ [1, 2, 3, 4, 20, 21] H.B.length nA (fr13a y (k + 1)) H2
      refine ⟨_, H3, g1, rfl, S ++ [s], e3.cut hB g2, by simp [hl], by simp [hok, e2]⟩)
    hc0 ⟨rfl, [], h.cut hB hor, rfl, rfl⟩
  exact ⟨H', S, by rw [h1, h2], h3⟩

theorem cells_encQ (x : Int × Int × Int × Int) : (encQ x).cells = [b8 x.1, b8 x.2.1, b8 x.2.2.1, b8 x.2.2.2] := rfl
theorem get_mid {α : Type} (X : List α) (b : α) (Z : List α) : (X ++ b :: Z)[X.length]? = some b := by simp
theorem set_mid {α : Type} (X : List α) (b c : α) (Z : List α) : (X ++ b :: Z).set X.length c = X ++ c :: Z := by simp
@[simp] theorem pl78 : placesOf Tryz.prog 78 = some [(0, 1), (1, 1), (2, 1), (3, 1)] := by kernel_rfl

def mkU (n : Int) (x : Int × Int × Int × Int) : RUse := ⟨1 + x.1 % 6, x.2.1 % n, if 5 ≤ 1 + x.1 % 6 then x.2.2.1 % n else 0, 1 + x.2.2.2⟩
theorem mkU_ok {n : Int} (h1 : 1 ≤ n) (h4 : n ≤ 4) {x : Int × Int × Int × Int} (hx : in8 x.1 ∧ in8 x.2.1 ∧ in8 x.2.2.1 ∧ in8 x.2.2.2) : useOK n (mkU n x) = true := by
  obtain ⟨k1, k2, k3, k4⟩ := hx
  unfold in8 at *
  have m2 := Int.emod_nonneg x.2.1 (show n ≠ 0 by omega)
  have m3 := Int.emod_nonneg x.2.2.1 (show n ≠ 0 by omega)
  have l2 := Int.emod_lt_of_pos x.2.1 (show 0 < n by omega)
  have l3 := Int.emod_lt_of_pos x.2.2.1 (show 0 < n by omega)
  have hd := dbl_le (d := 1 + x.1 % 6) (by omega)
  have e1 : inR (x.2.1 % n) 0 (n - 1) = true := by simp only [inR, Bool.and_eq_true, decide_eq_true_eq]; omega
  have e2 : inR (1 + x.2.2.2) 1 1000 = true := by simp only [inR, Bool.and_eq_true, decide_eq_true_eq]; omega
  have e3 : inR (1 + x.1 % 6) 1 6 = true := by simp only [inR, Bool.and_eq_true, decide_eq_true_eq]; omega
  have e4 : inR (x.2.2.1 % n) 0 (n - 1) = true := by simp only [inR, Bool.and_eq_true, decide_eq_true_eq]; omega
  show (inR (x.2.1 % n) 0 (n - 1) && inR (1 + x.2.2.2) 1 1000 && inR (1 + x.1 % 6) 1 6 && (if dbl (1 + x.1 % 6) = true then inR (if 5 ≤ 1 + x.1 % 6 then x.2.2.1 % n else 0) 0 (n - 1) else (if 5 ≤ 1 + x.1 % 6 then x.2.2.1 % n else 0) == 0)) = true
  rw [e1, e2, e3, hd]
  by_cases h5 : 5 ≤ 1 + x.1 % 6
  · simp [h5, e4]
  · simp [h5]

def U0 (y : Yd) : List (Int × Int × Int × Int) := y.uses.take 12
def fr13c (y : Yd) (k : Nat) : Fr := [(1, .ptr 0 0), (2, .ptr 1 0), (3, .p (iP y.n)), (4, .ptr 2 0), (69, .p (.sl ((U0 y).map encQ))), (70, .p (iP (U0 y).length)), (71, .p (iP k))]
theorem fitU (s : RUse) : fits 4 [encU s] = true := rfl

set_option maxHeartbeats 4000000 in
theorem round13_2 (y : Yd) (hy : y.ok) (k : Nat) (hk : k < (U0 y).length) (S : List RSet) (U : List RUse) (hU : U.length = k) (H : Hp) (h : MSt y S U [] H) :
    ∃ H1, E false ⟨0, 0⟩ 13 lp13_2 (fr13c y k) H = some (.normal, fr13c y (k + 1), H1) ∧ MSt y S (U ++ [mkU y.n (U0 y)[k]]) [] H1 := by
  obtain ⟨c0, c1, c2, X, hB, g0, g1, g2, a1, a2, a3⟩ := h
  obtain ⟨B, A⟩ := H
  simp only at hB g0 g1 g2
  subst hB
  have hn := Yd.n_bd hy
  have hk12 : k < 12 := by unfold U0 at hk; simp at hk; omega
  have hw : IntKind.i64.wrap ((k : Int) + 1) = (k : Int) + 1 := wrap64 (by omega) (by omega)
  have hx := hy.uses (U0 y)[k] (List.mem_of_mem_take (List.getElem_mem hk))
  generalize hxe : (U0 y)[k] = x at hx ⊢
  obtain ⟨x0, x1, x2, x3⟩ := x
  simp only [in8] at hx
  have w0 : IntKind.i64.wrap x0 = x0 := wrap64 (by omega) (by omega)
  have w1 : IntKind.i64.wrap x1 = x1 := wrap64 (by omega) (by omega)
  have w2 : IntKind.i64.wrap x2 = x2 := wrap64 (by omega) (by omega)
  have w3 : IntKind.i64.wrap x3 = x3 := wrap64 (by omega) (by omega)
  have t0 : x0.tmod 6 = x0 % 6 := Int.tmod_eq_emod_of_nonneg (by omega)
  have t1 : x1.tmod y.n = x1 % y.n := Int.tmod_eq_emod_of_nonneg (by omega)
  have t2 : x2.tmod y.n = x2 % y.n := Int.tmod_eq_emod_of_nonneg (by omega)
  have v0 : IntKind.i64.wrap (1 + x0 % 6) = 1 + x0 % 6 := wrap64 (by omega) (by omega)
  have v3 : IntKind.i64.wrap (1 + x3) = 1 + x3 := wrap64 (by omega) (by omega)
  have n0 : ¬ y.n = 0 := by omega
  let u : RUse := mkU y.n (x0, x1, x2, x3)
  obtain ⟨d', A1, k1, k2, k3, k4⟩ := g1.app (B := bYd y :: .cells [.lit true [], .lit true [], .lit true []] :: .cells [c0, c1, c2] :: (X ++ [.cells [.p (b8 x0), .p (b8 x1), .p (b8 x2), .p (b8 x3)], .cells [.p (iP u.d), .p (iP u.a), .p (iP u.b), .p (iP u.t)]])) (t := 30) (y := .lit false [encU u]) (ys := [encU u]) el30 sz78 by78 (by decide) (by decide) (by kernel_rfl) rfl (by simp) (fitU _) (by simp; omega)
  have kk0 := k4 _ _ _ _ g0 a1
  have kk2 := k4 _ _ _ _ g2 a3.symm
  have kc := k2.cell
  refine ⟨⟨bYd y :: .cells [.lit true [], .lit true [], .lit true []] :: .cells [c0, d', c2] :: (X ++ [.cells [.p (b8 x0), .p (b8 x1), .p (b8 x2), .p (b8 x3)], .cells [.p (iP u.d), .p (iP u.a), .p (iP u.b), .p (iP u.t)]]), A1⟩, ?_,
    c0, d', c2, _, rfl, kk0.1, by simpa [u] using k2, kk2.1, kk0.2, a2, kk2.2.symm⟩
  by_cases h5 : 5 ≤ 1 + x0 % 6
  · simp only [u, mkU, if_pos h5, bYd, Yd.cs, List.map_cons, List.map_nil, encU] at k1
    simp [lp13_2, code13, Tryz.f13, fr13c, bYd, Yd.cs, hk, hxe, cells_encQ, w0, w1, w2, w3, t0, t1, t2, v0, v3, n0, buildD, buildD.go, h5, k1, k3, kc, hw, u, mkU, encU]
  · simp only [u, mkU, if_neg h5, bYd, Yd.cs, List.map_cons, List.map_nil, encU] at k1
    simp [lp13_2, code13, Tryz.f13, fr13c, bYd, Yd.cs, hk, hxe, cells_encQ, w0, w1, w2, w3, t0, t1, t2, v0, v3, n0, buildD, buildD.go, h5, k1, k3, kc, hw, u, mkU, encU]

theorem loop13_2 (y : Yd) (hy : y.ok) (S : List RSet) (H : Hp) (h : MSt y S [] [] H) (nA : Nat) (hB : 3 ≤ H.B.length) :
    ∃ H', loopO false ⟨0, 0⟩ 13 lp13_2 H.B.length nA (fr13c y 0) H = some (.exit 4, fr13c y (U0 y).length ++ [(72, .p (.bool false))], H') ∧ MSt y S ((U0 y).map (mkU y.n)) [] H' := by
  obtain ⟨H0, hc0, hor⟩ := cutD_or ⟨0, 0⟩ [1, 2, 3, 4, 69, 70, 71] H.B.length nA (fr13c y 0) H
  obtain ⟨o, h1, H', h2, h3⟩ := for_inv (mu := false) (m := ⟨0, 0⟩) (f := 13) (c := lp13_2) (nB := H.B.length) (nA := nA) hd13_2 (U0 y).length (fun k F1 H1 => F1 = fr13c y k ∧ MSt y S (((U0 y).take k).map (mkU y.n)) [] H1)
    (fun o => ∃ H', o = (.exit 4, fr13c y (U0 y).length ++ [(72, .p (.bool false))], H') ∧ MSt y S ((U0 y).map (mkU y.n)) [] H')
    (fun F1 H1 ⟨hf, hst⟩ => by
      subst hf
      rw [List.take_length] at hst
      refine ⟨_, ?_, by simp, H1, rfl, hst⟩
      simp [lp13_2, code13, Tryz.f13, fr13c])
    (fun k F1 H1 hk ⟨hf, hst⟩ => by
      subst hf
      obtain ⟨H2, e1, e2⟩ := round13_2 y hy k hk S _ (by simp; omega) H1 hst
      refine ⟨_, H2, e1, ?_⟩
      obtain ⟨H3, g1, g2⟩ := cutD_or ⟨0, 0⟩ [1, 2, 3, 4, 69, 70, 71] H.B.length nA (fr13c y (k + 1)) H2
      refine ⟨_, H3, g1, rfl, ?_⟩
      have := e2.cut hB g2
      rw [show [mkU y.n (U0 y)[k]] = [(U0 y)[k]].map (mkU y.n) from rfl, ← List.map_append, ← List.take_succ_eq_append_getElem hk] at this
      exact this)
    hc0 ⟨rfl, h.cut hB hor⟩
  exact ⟨H', by rw [h1, h2], h3⟩
end Go.Vi
end

section
/- Vi: layer 11: problems by numbers: the pairs, and the whole. No conditions but those that stand with each. -/
namespace Go.Vi
open Go Go.Lib Go.Proofs
set_option maxRecDepth 100000
attribute [local simp] E_skip E_ret E_exit E_text E_draw E_seq E_cond E_block E_scope E_loop runOps runOp runDraw runVF runV finV gate FlOK wantD exec fin opd look putF norm constD constC fieldAddrD loadD storeD opCall binD isShift intP strP numD indexAddrD indexD D.pd? D.pds? sub capsOf callD argsD argD D.nf unP mkF H00 cD_agg cD_pagg cD_int cD_bool cD_str cD_sl cD_lit cD_ptr cells_encS cells_encU cells_encW cells_encR box_encU box_encW box_encR encU_agg encR_agg encW_agg cells_int one_int buildSliceD elsD splice
attribute [local simp] fnOut retOut resD retsD retD oneD D.noRefs D.noRef alone Hp.cut newRow Hp.live convD
attribute [local simp] ce_int ce_bool ce_str ce_sl ce_lit ce_own ce_ptr len_p len_l cells_agg one_agg one_sl

def fr13d (y : Yd) (h k : Nat) : Fr := [(2, .ptr 1 0), (3, .p (iP y.n)), (4, .ptr 2 0), (111, .bsl 0 10 h 2), (112, .p (iP h)), (113, .p (iP k))]
@[simp] theorem pl70 : placesOf Tryz.prog 70 = none := by kernel_rfl
theorem len_b (H : Hp) (i o n c : Nat) : lenD H false (.bsl i o n c) = some (n : Int) := rfl
attribute [local simp] len_b
theorem GRow.frz {A : List Arr} {e : TypeId} {sz : Nat} {d : D} {L : List PD} (h : GRow A e sz d L) : D.frz A d = A := by
  rcases h with ⟨rfl, rfl⟩ | ⟨k, ver, rfl, h⟩
  · simp
  · simp [frz_own, Hp.live, h]
theorem fitW (s : Int × Int) : fits 2 [encW s] = true := rfl
def pr2 (y : Yd) : Nat → Int × Int | 0 => (y.a0 % y.n, y.b0 % y.n) | _ => (y.a1 % y.n, y.b1 % y.n)

set_option maxHeartbeats 4000000 in
theorem round13_3 (y : Yd) (hy : y.ok) (h k : Nat) (hh : h ≤ 2) (hk : k < h) (S : List RSet) (U : List RUse) (Z : List (Int × Int)) (hZ : Z.length ≤ 4) (H : Hp) (hs : MSt y S U Z H) :
    ∃ H1, E false ⟨0, 0⟩ 13 lp13_3 (fr13d y h k) H = some (.normal, fr13d y h (k + 1), H1) ∧ MSt y S U (if (pr2 y k).1 = (pr2 y k).2 then Z else Z ++ [pr2 y k]) H1 := by
  obtain ⟨c0, c1, c2, X, hB, g0, g1, g2, a1, a2, a3⟩ := hs
  obtain ⟨B, A⟩ := H
  simp only at hB g0 g1 g2
  subst hB
  have hn := Yd.n_bd hy
  obtain ⟨b0, b1, b2, b3⟩ := hy.p
  unfold in8 at b0 b1 b2 b3
  have wa0 : IntKind.i64.wrap y.a0 = y.a0 := wrap64 (by omega) (by omega)
  have wb0 : IntKind.i64.wrap y.b0 = y.b0 := wrap64 (by omega) (by omega)
  have wa1 : IntKind.i64.wrap y.a1 = y.a1 := wrap64 (by omega) (by omega)
  have wb1 : IntKind.i64.wrap y.b1 = y.b1 := wrap64 (by omega) (by omega)
  have ta0 : y.a0.tmod y.n = y.a0 % y.n := Int.tmod_eq_emod_of_nonneg (by omega)
  have tb0 : y.b0.tmod y.n = y.b0 % y.n := Int.tmod_eq_emod_of_nonneg (by omega)
  have ta1 : y.a1.tmod y.n = y.a1 % y.n := Int.tmod_eq_emod_of_nonneg (by omega)
  have tb1 : y.b1.tmod y.n = y.b1 % y.n := Int.tmod_eq_emod_of_nonneg (by omega)
  have n0 : ¬ y.n = 0 := by omega
  have v1 : IntKind.i64.wrap 1 = 1 := by decide
  have v2 : IntKind.i64.wrap 2 = 2 := by decide
  have key := fun (B : List Blk) (z : Int × Int) => g2.app (B := B) (t := 31) (y := .lit false [encW z]) (ys := [encW z]) el31 sz70 by70 (by decide) (by decide) (by kernel_rfl) rfl (by simp) (fitW _) (by simp; omega)
  obtain rfl | rfl : k = 0 ∨ k = 1 := by omega
  · have hk' : (0 : Int) < h := by omega
    obtain ⟨d', A1, k1, k2, k3, k4⟩ := key (bYd y :: .cells [.lit true [], .lit true [], .lit true []] :: .cells [c0, c1, c2] :: (X ++ [.cells [.p (b8 y.a0), .p (b8 y.b0)]])) (y.a0 % y.n, y.b0 % y.n)
    have kk0 := k4 _ _ _ _ g0 a2
    have kk1 := k4 _ _ _ _ g1 a3
    have kc := k2.cell
    simp only [pr2]
    by_cases he : y.a0 % y.n = y.b0 % y.n
    · rw [if_pos he]
      refine ⟨⟨bYd y :: .cells [.lit true [], .lit true [], .lit true []] :: .cells [c0, c1, c2] :: (X ++ [.cells [.p (b8 y.a0), .p (b8 y.b0)]]), A⟩, ?_, c0, c1, c2, _, rfl, g0, g1, g2, a1, a2, a3⟩
      simp [lp13_3, code13, Tryz.f13, fr13d, bYd, Yd.cs, hk, hk', wa0, wb0, ta0, tb0, n0, he, v1]
    · rw [if_neg he]
      refine ⟨⟨bYd y :: .cells [.lit true [], .lit true [], .lit true []] :: .cells [c0, c1, d'] :: (X ++ [.cells [.p (b8 y.a0), .p (b8 y.b0)]]), A1⟩, ?_, c0, c1, d', _, rfl, kk0.1, kk1.1, by simpa using k2, a1, kk0.2, kk1.2⟩
      simp only [bYd, Yd.cs, List.map_cons, List.map_nil, encW] at k1
      simp [lp13_3, code13, Tryz.f13, fr13d, bYd, Yd.cs, hk, hk', wa0, wb0, ta0, tb0, n0, he, v1, buildD, buildD.go, k1, k3, kc, encW]
  · have hk' : (1 : Int) < h := by omega
    obtain ⟨d', A1, k1, k2, k3, k4⟩ := key (bYd y :: .cells [.lit true [], .lit true [], .lit true []] :: .cells [c0, c1, c2] :: (X ++ [.cells [.p (b8 y.a1), .p (b8 y.b1)]])) (y.a1 % y.n, y.b1 % y.n)
    have kk0 := k4 _ _ _ _ g0 a2
    have kk1 := k4 _ _ _ _ g1 a3
    have kc := k2.cell
    simp only [pr2]
    by_cases he : y.a1 % y.n = y.b1 % y.n
    · rw [if_pos he]
      refine ⟨⟨bYd y :: .cells [.lit true [], .lit true [], .lit true []] :: .cells [c0, c1, c2] :: (X ++ [.cells [.p (b8 y.a1), .p (b8 y.b1)]]), A⟩, ?_, c0, c1, c2, _, rfl, g0, g1, g2, a1, a2, a3⟩
      simp [lp13_3, code13, Tryz.f13, fr13d, bYd, Yd.cs, hk, hk', wa1, wb1, ta1, tb1, n0, he, v2]
    · rw [if_neg he]
      refine ⟨⟨bYd y :: .cells [.lit true [], .lit true [], .lit true []] :: .cells [c0, c1, d'] :: (X ++ [.cells [.p (b8 y.a1), .p (b8 y.b1)]]), A1⟩, ?_, c0, c1, d', _, rfl, kk0.1, kk1.1, by simpa using k2, a1, kk0.2, kk1.2⟩
      simp only [bYd, Yd.cs, List.map_cons, List.map_nil, encW] at k1
      simp [lp13_3, code13, Tryz.f13, fr13d, bYd, Yd.cs, hk, hk', wa1, wb1, ta1, tb1, n0, he, v2, buildD, buildD.go, k1, k3, kc, encW]

theorem pr2_ok {y : Yd} (hy : y.ok) (k : Nat) (h : ¬ (pr2 y k).1 = (pr2 y k).2) : pairOK y.n (pr2 y k) = true := by
  have hn := Yd.n_bd hy
  have key : ∀ a b : Int, ¬ a % y.n = b % y.n → pairOK y.n (a % y.n, b % y.n) = true := by
    intro a b h
    have m2 := Int.emod_nonneg a (show y.n ≠ 0 by omega)
    have m3 := Int.emod_nonneg b (show y.n ≠ 0 by omega)
    have l2 := Int.emod_lt_of_pos a (show 0 < y.n by omega)
    have l3 := Int.emod_lt_of_pos b (show 0 < y.n by omega)
    simp only [pairOK, inR, Bool.and_eq_true, decide_eq_true_eq, bne_iff_ne]
    exact ⟨⟨⟨m2, by omega⟩, m3, by omega⟩, h⟩
  unfold pr2 at h ⊢
  split at h
  · exact key _ _ h
  · rename_i h1
    exact key _ _ h

theorem loop13_3 (y : Yd) (hy : y.ok) (h : Nat) (hh : h ≤ 2) (S : List RSet) (U : List RUse) (H : Hp) (hs : MSt y S U [] H) (nA : Nat) (hB : 3 ≤ H.B.length) :
    ∃ H' Z, loopO false ⟨0, 0⟩ 13 lp13_3 H.B.length nA (fr13d y h 0) H = some (.exit 6, fr13d y h h ++ [(114, .p (.bool false))], H') ∧ MSt y S U Z H' ∧ Z.length ≤ 2 ∧ Z.all (pairOK y.n) = true := by
  obtain ⟨H0, hc0, hor⟩ := cutD_or ⟨0, 0⟩ [2, 3, 4, 111, 112, 113] H.B.length nA (fr13d y h 0) H
  obtain ⟨o, h1, H', Z, h2, h3⟩ := for_inv (mu := false) (m := ⟨0, 0⟩) (f := 13) (c := lp13_3) (nB := H.B.length) (nA := nA) hd13_3 h (fun k F1 H1 => F1 = fr13d y h k ∧ ∃ Z, MSt y S U Z H1 ∧ Z.length ≤ k ∧ Z.all (pairOK y.n) = true)
    (fun o => ∃ H' Z, o = (.exit 6, fr13d y h h ++ [(114, .p (.bool false))], H') ∧ MSt y S U Z H' ∧ Z.length ≤ 2 ∧ Z.all (pairOK y.n) = true)
    (fun F1 H1 ⟨hf, Z, hst, hl, hok⟩ => by
      subst hf
      refine ⟨_, ?_, by simp, H1, Z, rfl, hst, by omega, hok⟩
      simp [lp13_3, code13, Tryz.f13, fr13d])
    (fun k F1 H1 hk ⟨hf, Z, hst, hl, hok⟩ => by
      subst hf
      obtain ⟨H2, e1, e2⟩ := round13_3 y hy h k hh hk S U Z (by omega) H1 hst
      refine ⟨_, H2, e1, ?_⟩
      obtain ⟨H3, g1, g2⟩ := cutD_or ⟨0, 0⟩ [2, 3, 4, 111, 112, 113] H.B.length nA (fr13d y h (k + 1)) H2
      refine ⟨_, H3, g1, rfl, _, e2.cut hB g2, ?_, ?_⟩
      · split
        · omega
        · simp; omega
      · split
        · exact hok
        · rename_i hne
          rw [List.all_append, hok]
          simpa using pr2_ok hy k hne)
    hc0 ⟨rfl, [], hs.cut hB hor, Nat.le_refl _, rfl⟩
  exact ⟨H', Z, by rw [h1, h2], h3⟩

set_option maxHeartbeats 4000000 in
/-- A problem by numbers is as defined. -/
theorem made13_W (y : Yd) (hy : y.ok) : ∃ p : RProb, p.ok = true ∧ 1 ≤ p.sets.length ∧ p.sets.length ≤ 4 ∧ ∀ H, W 13 [.p (.agg y.cs)] H = some (.ret (.p (encR p)), H) := by
  have hn := Yd.n_bd hy
  have ws : IntKind.i64.wrap y.sets = y.sets := by have := hy.sets; unfold in8 at this; exact wrap64 (by omega) (by omega)
  have ts : y.sets.tmod 4 = y.sets % 4 := by have := hy.sets; unfold in8 at this; exact Int.tmod_eq_emod_of_nonneg (by omega)
  have wn : IntKind.i64.wrap (1 + y.sets % 4) = y.n := by unfold Yd.n; exact wrap64 (by omega) (by omega)
  have wp : IntKind.i64.wrap y.pairs = y.pairs := by have := hy.pairs; unfold in8 at this; exact wrap64 (by omega) (by omega)
  have tp : y.pairs.tmod 3 = y.pairs % 3 := by have := hy.pairs; unfold in8 at this; exact Int.tmod_eq_emod_of_nonneg (by omega)
  obtain ⟨h, hh⟩ : ∃ h : Nat, y.pairs % 3 = h := ⟨(y.pairs % 3).toNat, by omega⟩
  have hh2 : h ≤ 2 := by omega
  have s0 : SSt y [] ⟨[bYd y, .cells [.lit true [], .lit true [], .lit true []], .cells [.lit true [], .lit true [], .lit true []]], []⟩ := ⟨.lit true [], [], rfl, .inl ⟨rfl, rfl⟩⟩
  obtain ⟨H1, S, l1, s1, n1, k1⟩ := loop13_0 y hy _ s0 0 (by simp)
  have hB1 : 3 ≤ H1.B.length := by obtain ⟨c0, X, hB, _⟩ := s1; rw [hB]; simp
  obtain ⟨H2, l2, s2⟩ := loop13_2 y hy S H1 s1.to H1.A.length hB1
  have hB2 : 3 ≤ H2.B.length := by obtain ⟨c0, c1, c2, X, hB, _⟩ := s2; rw [hB]; simp
  obtain ⟨H3, Z, l3, s3, k3, k4⟩ := loop13_3 y hy h hh2 S _ H2 s2 H2.A.length hB2
  refine ⟨⟨S, (U0 y).map (mkU y.n), Z⟩, ?_, by simp only; omega, by simp only; omega, fun H => ?_⟩
  · simp only [RProb.ok, Bool.and_eq_true, decide_eq_true_eq]
    refine ⟨⟨⟨⟨⟨by omega, ?_⟩, by omega⟩, k1⟩, ?_⟩, ?_⟩
    · simp only [U0, List.length_map, List.length_take]; omega
    · rw [List.all_eq_true]
      intro u hu
      obtain ⟨x, hx, rfl⟩ := List.mem_map.1 hu
      rw [n1]
      exact mkU_ok hn.1 hn.2 (hy.uses x (List.mem_of_mem_take hx))
    · rw [n1]; exact k4
  · refine W13_of (by simp [Yd.cs]) (by simp) ?_
    obtain ⟨c0, X1, hB1', g1⟩ := s1
    obtain ⟨B1, A1⟩ := H1
    simp only at hB1' g1
    subst hB1'
    obtain ⟨d0, d1, d2, X2, hB2', q0, q1, q2, _⟩ := s2
    obtain ⟨B2, A2⟩ := H2
    simp only at hB2' q0 q1 q2
    subst hB2'
    obtain ⟨e0, e1, e2, X3, hB3', r0, r1, r2, _⟩ := s3
    obtain ⟨B3, A3⟩ := H3
    simp only at hB3' r0 r1 r2
    subst hB3'
    simp [lp13_0, code13, Tryz.f13, fr13a, bYd, Yd.cs] at l1
    simp [lp13_2, code13, Tryz.f13, fr13c, bYd, Yd.cs] at l2
    simp [lp13_3, code13, Tryz.f13, fr13d, bYd, Yd.cs] at l3
    have hfit : fits 4 (y.uses.map encQ) = true := by
      simp only [fits, List.all_eq_true, List.mem_map]
      rintro _ ⟨x, _, rfl⟩
      rfl
    have hdr : ∀ l : List PD, l.drop (0 : Int).toNat = l := fun l => rfl
    have pd0 := r0.pd
    have pd1 := r1.pd
    have pd2 := r2.pd
    have rf0 := r0.frz
    have rf1 := r1.frz
    have rf2 := r2.frz
    have rc0 := r0.cell
    have rc1 := r1.cell
    have rc2 := r2.cell
    have hp0 : (0 : Int) ≤ y.pairs % 3 := by omega
    have hp2 : y.pairs % 3 ≤ 2 := by omega
    have hpt : (y.pairs % 3).toNat = h := by omega
    have hi2 : (h : Int) ≤ 2 := by omega
    by_cases hlen : 12 < y.uses.length
    · have hlen' : (12 : Int) < y.uses.length := by omega
      have hle : (12 : Int) ≤ y.uses.length := by omega
      have hle' : 12 ≤ y.uses.length := by omega
      have e12 : (U0 y).length = 12 := by simp only [U0, List.length_take]; omega
      have et : (y.uses.map encQ).take 12 = (U0 y).map encQ := by simp [U0]
      simp [e12] at l2
      simp [code13, Tryz.f13, bYd, Yd.cs, ws, ts, wn, l1, sliceD, boundD, hfit, hlen, hlen', hle, hle', et, e12, l2, wp, tp, hp0, hp2, hpt, hi2, hh, l3, rc0, rc1, rc2, pd0, pd1, pd2, rf0, rf1, rf2, encR]
    · have hlen' : ¬ (12 : Int) < y.uses.length := by omega
      have e12 : U0 y = y.uses := by simp only [U0]; exact List.take_of_length_le (by omega)
      have et : (y.uses.map encQ).take y.uses.length = y.uses.map encQ := by rw [List.take_of_length_le (by simp)]
      simp [e12] at l2
      rw [e12]
      simp [code13, Tryz.f13, bYd, Yd.cs, ws, ts, wn, l1, sliceD, boundD, hfit, hlen, hlen', et, l2, wp, tp, hp0, hp2, hpt, hi2, hh, l3, rc0, rc1, rc2, pd0, pd1, pd2, rf0, rf1, rf2, encR, e12]
end Go.Vi
end
