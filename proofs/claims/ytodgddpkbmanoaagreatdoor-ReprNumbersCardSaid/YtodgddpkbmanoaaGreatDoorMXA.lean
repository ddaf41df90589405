/- It is proved here what functions of the program's layer 11 and of its specification compute; conditions stand with each. The law on numbers. -/
import Derived.Test.YtodgddpkbmanoaaGreatDoorMPA
import Derived.Test.YtodgddpkbmanoaaGreatDoorMF
import Derived.Test.YtodgddpkbmanoaaGreatDoorMQA
import Derived.Test.YtodgddpkbmanoaaGreatDoorMZA
import Derived.Test.YtodgddpkbmanoaaGreatDoorMQB
import Derived.Test.YtodgddpkbmanoaaGreatDoorMQC
import Derived.Test.YtodgddpkbmanoaaGreatDoorMRC
set_option linter.unusedVariables false
set_option linter.unusedSimpArgs false

section
/- Representations (layer 11), outright: other numbers by insertion. Plain Lean; no conditions but those that stand with each. -/
namespace Go.Vi
open Go
set_option maxRecDepth 10000

/-- The numbers with one more, at a place. -/
def insN (l : List Nat) (i : Nat) : List Nat := l.take i ++ l.length :: l.drop i
theorem insN_len (l : List Nat) (i : Nat) (h : i ≤ l.length) : (insN l i).length = l.length + 1 := by
  simp only [insN, List.length_append, List.length_take, List.length_cons, List.length_drop]; omega
theorem perm_ins {l : List Nat} (h : PermN l) {i : Nat} (hi : i ≤ l.length) : PermN (insN l i) := by
  have hp : List.Perm (insN l i) (l.length :: l) := by
    unfold insN
    refine List.perm_middle.trans ?_
    rw [List.take_append_drop]
  refine ⟨?_, fun x hx => ?_⟩
  · rw [hp.nodup_iff]
    refine List.nodup_cons.2 ⟨fun hm => ?_, h.1⟩
    exact absurd (h.2 _ hm) (Nat.lt_irrefl _)
  · rw [insN_len l i hi]
    rcases List.mem_cons.1 (hp.mem_iff.1 hx) with rfl | hm
    · exact Nat.lt_succ_self _
    · exact Nat.lt_succ_of_lt (h.2 x hm)
theorem perm_nil : PermN [] := ⟨List.nodup_nil, fun x hx => by cases hx⟩
def nI (n : Nat) : PD := .int .i64 (n : Nat)
def toI (l : List Nat) : List PD := l.map nI
theorem toI_ints (l : List Nat) : intsOf (toI l) = some (l.map fun n : Nat => (n : Int)) := by
  have := intsOf_map (l.map fun n : Nat => (n : Int))
  rw [List.map_map] at this
  exact this
theorem toI_ins (l : List Nat) (i : Nat) : ((insL (l.map fun n : Nat => (n : Int)) i (l.length : Nat)).map fun n => PD.int .i64 n) = toI (insN l i) := by
  have hf : (PD.int .i64 ∘ fun n : Nat => (n : Int)) = nI := rfl
  simp [insL, insN, toI, List.map_take, List.map_drop, hf]
  rfl

/-- The sets so far, where they come to lie. -/
def setsAt (p : RProb) (to : List Nat) (k : Nat) : List RSet := (List.range to.length).map fun j => if inv to j < k then p.sets.getD (inv to j) ⟨0, []⟩ else ⟨0, []⟩
theorem setsAt_len (p : RProb) (to : List Nat) (k : Nat) : (setsAt p to k).length = to.length := by simp [setsAt]
theorem setsAt_next (p : RProb) {to : List Nat} (h : PermN to) (k : Nat) (hk : k < to.length) : (setsAt p to k).set (to.getD k 0) (p.sets.getD k ⟨0, []⟩) = setsAt p to (k + 1) := by
  refine List.ext_getElem? fun j => ?_
  by_cases hj : j < to.length
  · rw [List.getElem?_set]
    by_cases e : to.getD k 0 = j
    · rw [if_pos e, if_pos (by rw [setsAt_len]; exact to_lt h hk)]
      subst e
      simp only [setsAt, List.getElem?_map]
      rw [List.getElem?_range (to_lt h hk)]
      simp only [Option.map_some, inv_to h hk]
      rw [if_pos (Nat.lt_succ_self k)]
    · rw [if_neg e]
      simp only [setsAt, List.getElem?_map]
      rw [List.getElem?_range hj]
      simp only [Option.map_some]
      have hne : inv to j ≠ k := fun e2 => e (by rw [← e2]; exact to_inv h hj)
      by_cases h1 : inv to j < k
      · rw [if_pos h1, if_pos (by omega)]
      · rw [if_neg h1, if_neg (by omega)]
  · rw [List.getElem?_eq_none (by simp [setsAt]; omega), List.getElem?_eq_none (by simp [setsAt]; omega)]
theorem setsAt_all (p : RProb) {to : List Nat} (h : PermN to) : setsAt p to to.length = (renP p to).sets := by
  simp only [setsAt, renP]
  refine List.map_congr_left fun j hj => ?_
  rw [if_pos (inv_lt h (List.mem_range.1 hj))]
theorem setsAt_zero (p : RProb) (to : List Nat) : setsAt p to 0 = List.replicate to.length ⟨0, []⟩ := by
  simp only [setsAt, Nat.not_lt_zero, if_false]
  rw [List.map_const']; simp
theorem ren_sets_len (p : RProb) (to : List Nat) : (renP p to).sets.length = to.length := by simp [renP]
end Go.Vi
end

section
/- Vi: open rows that grow. No conditions but those that stand with each. -/
namespace Go.Vi
open Go Go.Lib Go.Proofs
set_option maxRecDepth 100000

/-- An open row with what it holds, or none yet. -/
def ORow (A : List Arr) (e : TypeId) (sz : Nat) (d : D) (L : List PD) : Prop :=
  (d = .lit true [] ∧ L = []) ∨ ∃ k ver, d = .own k ver ∧ 2 ≤ k ∧ A[k]? = some ⟨ver, e, sz, false, false, L⟩
/-- Two rows are not the same one. -/
def OApart (c d : D) : Prop := ∀ k v v', c = .own k v → d ≠ .own k v'
theorem OApart.symm {c d : D} (h : OApart c d) : OApart d c := fun k v v' h1 h2 => h k v' v h2 h1
theorem oapart_lit (c : D) (b : Bool) (l : List PD) : OApart c (.lit b l) := fun k v v' _ h => by cases h
theorem ORow.cell {A : List Arr} {e : TypeId} {sz : Nat} {d : D} {L : List PD} (h : ORow A e sz d L) : cellD d = true := by
  rcases h with ⟨rfl, rfl⟩ | ⟨k, ver, rfl, _, h⟩ <;> rfl
theorem ORow.cells {A : List Arr} {e : TypeId} {sz : Nat} {d : D} {L : List PD} (h : ORow A e sz d L) : cellsD d = [d] := by
  rcases h with ⟨rfl, rfl⟩ | ⟨k, ver, rfl, _, h⟩ <;> rfl
theorem ORow.mono {A : List Arr} {e : TypeId} {sz : Nat} {d : D} {L : List PD} (h : ORow A e sz d L) (X : List Arr) : ORow (A ++ X) e sz d L := by
  rcases h with h | ⟨k, ver, rfl, hk, h⟩
  · exact .inl h
  · exact .inr ⟨k, ver, rfl, hk, by rw [List.getElem?_append_left (List.getElem?_eq_some_iff.1 h).1]; exact h⟩
theorem ORow.cut {A : List Arr} {e : TypeId} {sz : Nat} {d : D} {L : List PD} {nB nA : Nat} (h : ORow A e sz d L) (hn : D.noRef nB nA d = true) : ORow (A.take nA) e sz d L := by
  rcases h with h | ⟨k, ver, rfl, hk, h⟩
  · exact .inl h
  · simp only [D.noRef, decide_eq_true_eq] at hn
    exact .inr ⟨k, ver, rfl, hk, by rw [List.getElem?_take, if_pos hn]; exact h⟩
/-- One more, or some. -/
theorem ORow.app {A : List Arr} {e t : TypeId} {sz by_ : Nat} {d : D} {L ys : List PD} (h : ORow A e sz d L) (hA2 : 2 ≤ A.length) (B : List Blk) {y : D} (he : elemOf Tryz.prog t = some e) (hs : szOf Tryz.prog e = some sz) (hb : byOf Tryz.prog e = some by_)
    (h0 : 0 < by_) (h1 : 0 < sz) (hz : zOK Tryz.prog e sz = true) (hy : srcD ⟨B, A⟩ y = some ys) (hne : ys ≠ []) (hf : fits sz ys = true) (hlen : (L.length + ys.length) * by_ ≤ 140737488355328) :
    ∃ d' A', appendD Tryz.prog true ⟨B, A⟩ t d y = some (.val d' ⟨B, A'⟩) ∧ ORow A' e sz d' (L ++ ys) ∧ cellsD d' = [d'] ∧ A'.take 2 = A.take 2 ∧ A.length ≤ A'.length ∧ (∀ e' sz' c M, ORow A e' sz' c M → OApart c d → ORow A' e' sz' c M ∧ OApart c d') := by
  have hem : ys.isEmpty = false := by cases ys with | nil => exact absurd rfl hne | cons => rfl
  rcases h with ⟨rfl, rfl⟩ | ⟨k, ver, rfl, hk2, h⟩
  · refine ⟨.own A.length 0, A ++ [⟨0, e, sz, false, false, ys⟩], ?_, .inr ⟨_, _, rfl, hA2, by simp⟩, rfl, by rw [List.take_append_of_le_length hA2], by simp, fun e' sz' c M hc _ => ⟨hc.mono _, fun k v v' h1 h2 => ?_⟩⟩
    · have hf0 : fits sz [] = true := rfl
      have hlen' : ys.length * by_ ≤ 140737488355328 := by simpa using hlen
      simp [appendD, he, hs, hb, hy, hf, h0, h1, hz, hem, hf0, newRow, hlen']
    · subst h1
      rcases hc with ⟨h, _⟩ | ⟨k', ver', h, _, h'⟩
      · cases h
      · injection h with e1 e2
        injection h2 with e3 e4
        have := (List.getElem?_eq_some_iff.1 h').1
        omega
  · have hk := (List.getElem?_eq_some_iff.1 h).1
    refine ⟨.own k (ver + 1), A.set k ⟨ver + 1, e, sz, false, false, L ++ ys⟩, ?_, .inr ⟨_, _, rfl, hk2, by simp [hk]⟩, rfl, ?_, by simp, fun e' sz' c M hc ha => ⟨?_, fun k' v v' h1 h2 => ?_⟩⟩
    · simp [appendD, he, hs, hb, hy, hf, h0, h1, hz, Hp.live, h, hlen]
    · refine List.ext_getElem? fun j => ?_
      rw [List.getElem?_take, List.getElem?_take]
      by_cases hj : j < 2
      · rw [if_pos hj, if_pos hj, List.getElem?_set_ne (by omega)]
      · rw [if_neg hj, if_neg hj]
    · rcases hc with hc | ⟨k', ver', rfl, hk', h'⟩
      · exact .inl hc
      · refine .inr ⟨k', ver', rfl, hk', ?_⟩
        have : k ≠ k' := fun e => ha k' ver' ver rfl (by rw [e])
        rw [List.getElem?_set_ne this]; exact h'
    · injection h2 with e1 e2
      exact ha k' v ver h1 (by rw [e1])
end Go.Vi
end

section
/- Vi: layer 11: the law ReprNumbers: other numbers by insertion. No conditions but those that stand with each. -/
namespace Go.Vi
open Go Go.Lib Go.Proofs
set_option maxRecDepth 100000
theorem cells_boolX (b : Bool) : (PD.bool b).cells = [PD.bool b] := rfl
attribute [local simp] E_skip E_ret E_exit E_text E_draw E_seq E_cond E_block E_scope E_loop runOps runOp runDraw runVF runV finV gate FlOK wantD exec fin opd look putF norm constD constC fieldAddrD loadD storeD opCall lenD binD isShift intP strP numD indexAddrD indexD D.pd? D.pds? sub capsOf callD argsD argD D.nf unP cellD mkF H00 cD_agg cD_pagg cD_int cD_bool cD_str cD_sl cD_lit cells_encS cells_encU cells_encW cells_encR box_encU box_encW box_encR encU_agg encR_agg encW_agg cells_int one_int buildSliceD elsD splice
attribute [local simp] fnOut retOut resD retsD retD oneD D.noRefs D.noRef alone Hp.cut newRow Hp.live convD cells_boolX one_sl cells_sl

theorem W_x6 {f : FuncId} (hf : f < YB) (hx : isX f = true) {args : List D} {H : Hp} {r : Out × Hp} (h : doesX W f args H = some r) : W f args H = some r := by
  refine calW_of ?_
  unfold calF
  rw [if_neg (Nat.not_le.2 hf), if_pos (show others.is f = true from hx)]
  exact h

theorem ins_W (B : List Blk) (A : List Arr) (a ver : Nat) (nil : Bool) (to : List Nat) (hA : A[a]? = some ⟨ver, 3, 1, nil, false, toI to⟩) (i : Nat) (hi : i ≤ to.length) (hl : to.length < 1000000) :
    W 25 [.own a ver, .p (iP i), .lit false [iP to.length]] ⟨B, A⟩ = some (.ret (.own a (ver + 1)), ⟨B, A.set a ⟨ver + 1, 3, 1, false, false, toI (insN to i)⟩⟩) := by
  refine W_x6 (by decide) rfl ?_
  unfold doesX
  rw [if_neg (by decide), if_pos rfl]
  have hi' : (i : Int) ≤ to.length := by omega
  unfold insertD
  simp only [Hp.live, hA, if_true, toI_ints]
  have hc : (0 : Int) ≤ (i : Int) := by omega
  have hi2 : (i : Int) ≤ (to.map fun n : Nat => (n : Int)).length := by simpa using hi
  have hl2 : (to.map fun n : Nat => (n : Int)).length < 1000000 := by simpa using hl
  simp only [hc, hi2, hl2, true_and, and_true, if_true, Int.toNat_natCast, toI_ins]

def bQ4 (q : Nat → Int) : Blk := .cells [.p (b8 (q 0)), .p (b8 (q 1)), .p (b8 (q 2)), .p (b8 (q 3))]
section
variable (y : Yd) (p : RProb) (q : Nat → Int)
def rTo (to : List Nat) : Arr := ⟨to.length, 3, 1, decide (to.length = 0), false, toI to⟩
theorem rTo_ver (to : List Nat) : (rTo to).ver = to.length := rfl
attribute [local simp] rTo_ver
def fr6a (i : Nat) : Fr := [(3, .ptr 1 0), (5, .ptr 2 0), (6, .p (iP p.sets.length)), (7, .own 0 i), (33, .p (iP p.sets.length)), (34, .p (iP i))]
def hp6a (to : List Nat) : Hp := ⟨[bYd y, bQ4 q, bR p], [rTo to]⟩
theorem round6a (hn : p.sets.length ≤ 4) (hq : ∀ i, in8 (q i)) (to : List Nat) (hk : to.length < p.sets.length) :
    ∃ i X, i ≤ to.length ∧ E true ⟨0, 0⟩ 6 lp6_0 (fr6a p to.length) (hp6a y p q to) = some (.normal, fr6a p (to.length + 1), ⟨[bYd y, bQ4 q, bR p] ++ X, [rTo (insN to i)]⟩) := by
  have hw : IntKind.i64.wrap ((to.length : Int) + 1) = (to.length : Int) + 1 := wrap64 (by omega) (by omega)
  have hqi := hq to.length
  unfold in8 at hqi
  have hqw : IntKind.i64.wrap (q to.length) = q to.length := wrap64 (by omega) (by omega)
  have ht : (q to.length).tmod ((to.length : Int) + 1) = q to.length % ((to.length : Int) + 1) := Int.tmod_eq_emod_of_nonneg (by omega)
  have hm0 : 0 ≤ q to.length % ((to.length : Int) + 1) := Int.emod_nonneg _ (by omega)
  have hm1 : q to.length % ((to.length : Int) + 1) < (to.length : Int) + 1 := Int.emod_lt_of_pos _ (by omega)
  obtain ⟨i, hi⟩ : ∃ i : Nat, q to.length % ((to.length : Int) + 1) = i := ⟨_, (Int.toNat_of_nonneg hm0).symm⟩
  rw [hi] at ht hm1
  have hil : i ≤ to.length := by omega
  refine ⟨i, [], hil, ?_⟩
  have hins := ins_W [bYd y, bQ4 q, bR p] [rTo to] 0 to.length (decide (to.length = 0)) to rfl i hil (by omega)
  have hlen := insN_len to i hil
  have hr : (⟨to.length + 1, 3, 1, false, false, toI (insN to i)⟩ : Arr) = rTo (insN to i) := by
    unfold rTo
    rw [hlen]; simp
  simp only [List.set_cons_zero] at hins
  rw [hr] at hins
  have h4 : (to.length : Int) < 4 := by omega
  have hn1 : ¬ ((to.length : Int) + 1 = 0) := by omega
  have hcell : [D.p (b8 (q 0)), D.p (b8 (q 1)), D.p (b8 (q 2)), D.p (b8 (q 3))][to.length]? = some (.p (b8 (q to.length))) := by
    have : to.length = 0 ∨ to.length = 1 ∨ to.length = 2 ∨ to.length = 3 := by omega
    rcases this with e | e | e | e <;> rw [e] <;> rfl
  simp only [bYd, Yd.cs, bQ4, bR, List.map_cons, List.map_nil] at hins ⊢
  simp [lp6_0, code6, Tryz.f6, fr6a, hp6a, hk, hw, h4, hcell, hn1, hqw, ht, hins, bYd, Yd.cs, bQ4, bR]

theorem cut6a (F : Fr) (keep : List Tmp) (X : List Blk) (r : Arr) (hF : frNo 3 1 (norm keep F) = true) : cutD ⟨0, 0⟩ keep 3 1 F ⟨[bYd y, bQ4 q, bR p] ++ X, [r]⟩ = some (norm keep F, ⟨[bYd y, bQ4 q, bR p], [r]⟩) := by
  unfold cutD
  rw [if_pos ⟨hF, by simp [bYd, Yd.cs, bR, bQ4, blkNo]⟩]
  simp
theorem loop6a (hn : p.sets.length ≤ 4) (hq : ∀ i, in8 (q i)) :
    ∃ to, PermN to ∧ to.length = p.sets.length ∧ loopO true ⟨0, 0⟩ 6 lp6_0 3 1 (fr6a p 0) (hp6a y p q []) = some (.exit 0, fr6a p p.sets.length ++ [(35, .p (.bool false))], hp6a y p q to) := by
  obtain ⟨o, h1, to, h2, h3, h4⟩ := for_inv (mu := true) (m := ⟨0, 0⟩) (f := 6) (c := lp6_0) (nB := 3) (nA := 1) hd6_0 p.sets.length
    (fun k F1 H1 => ∃ to, PermN to ∧ to.length = k ∧ F1 = fr6a p k ∧ H1 = hp6a y p q to)
    (fun o => ∃ to, PermN to ∧ to.length = p.sets.length ∧ o = (.exit 0, fr6a p p.sets.length ++ [(35, .p (.bool false))], hp6a y p q to))
    (fun F1 H1 ⟨to, hp, hl, hf, hh⟩ => by
      subst hf; subst hh
      refine ⟨_, ?_, by simp, to, hp, hl, rfl⟩
      simp [lp6_0, code6, Tryz.f6, fr6a])
    (fun k F1 H1 hk ⟨to, hp, hl, hf, hh⟩ => by
      subst hf; subst hh; subst hl
      obtain ⟨i, X, hi, r1⟩ := round6a y p q hn hq to hk
      exact ⟨_, _, r1, _, _, cut6a y p q _ _ X _ (by simp [frNo, fr6a]), insN to i, perm_ins hp hi, insN_len to i hi, rfl, rfl⟩)
    (F := fr6a p 0) (H := hp6a y p q []) (F0 := fr6a p 0) (H0 := hp6a y p q []) (cut_full ⟨0, 0⟩ _ _ (hp6a y p q [])) ⟨[], perm_nil, rfl, rfl, rfl⟩
  exact ⟨to, h2, h3, by rw [h1, h4]⟩

/-! ### The sets -/
def rS (to : List Nat) (k : Nat) : Arr := ⟨0, 61, 2, false, false, (setsAt p to k).map encS⟩
def bOX (d e : D) : Blk := .cells [.own 1 0, d, e]
def fr6b (to : List Nat) (i : Nat) : Fr := [(5, .ptr 2 0), (6, .p (iP p.sets.length)), (7, .own 0 to.length), (9, .ptr 3 0), (53, .p (.sl (p.sets.map encS))), (54, .p (iP p.sets.length)), (55, .p (iP i))]
def hp6b (z : D) (to : List Nat) (k : Nat) : Hp := ⟨[bYd y, bQ4 q, bR p, bOX z z], [rTo to, rS p to k]⟩
theorem round6b (z : D) (hz : z = .lit true [] ∨ z = .p (.sl [])) (to : List Nat) (ht : PermN to) (hl : to.length = p.sets.length) (hn : p.sets.length ≤ 4) (i : Nat) (hi : i < p.sets.length) :
    ∃ X, E true ⟨0, 0⟩ 6 lp6_1 (fr6b p to i) (hp6b y p q z to i) = some (.normal, fr6b p to (i + 1), ⟨[bYd y, bQ4 q, bR p, bOX z z] ++ X, [rTo to, rS p to (i + 1)]⟩) := by
  have hw : IntKind.i64.wrap ((i : Int) + 1) = (i : Int) + 1 := wrap64 (by omega) (by omega)
  have hti : to.getD i 0 < to.length := to_lt ht (by omega)
  have h1 : i < to.length := by omega
  obtain ⟨j, hj⟩ : ∃ j, to.getD i 0 = j := ⟨_, rfl⟩
  have tl : (toI to).length = to.length := by simp [toI]
  have tg : (toI to)[i]? = some (iP (j : Nat)) := by
    simp only [toI, List.getElem?_map]
    rw [List.getElem?_eq_getElem h1, ← hj, getD_at h1]; rfl
  have tgE : (toI to)[i]'(by rw [tl]; exact h1) = iP (j : Nat) := by
    have := tg
    rw [List.getElem?_eq_getElem (by rw [tl]; exact h1), Option.some.injEq] at this
    exact this
  have sl : (setsAt p to i).length = to.length := setsAt_len p to i
  have hst : ((setsAt p to i).map encS).set j (encS p.sets[i]) = (setsAt p to (i + 1)).map encS := by
    rw [← setsAt_next p ht i h1, hj, List.map_set, getD_at hi]
  rw [hj] at hti
  have hje : (setsAt p to i)[j]? = some (setsAt p to i)[j] := List.getElem?_eq_getElem (by omega)
  refine ⟨[.cells [.p (iP p.sets[i].size), .p (.sl (p.sets[i].forms.map iP))]], ?_⟩
  have hse : ∀ a : RSet, setEl (encS a) 0 [PD.int .i64 p.sets[i].size, PD.sl (p.sets[i].forms.map iP)] = encS p.sets[i] := fun a => rfl
  rcases hz with rfl | rfl
  · simp [lp6_1, code6, Tryz.f6, fr6b, hp6b, hi, hw, bOX, rTo, rS, h1, tl, tg, tgE, sl, hti, hst, hje, hse]
  · simp [lp6_1, code6, Tryz.f6, fr6b, hp6b, hi, hw, bOX, rTo, rS, h1, tl, tg, tgE, sl, hti, hst, hje, hse]
theorem cut6b (F : Fr) (keep : List Tmp) (X : List Blk) (d e : D) (r s : Arr) (hF : frNo 4 2 (norm keep F) = true) (hd : D.noRef 4 2 d = true) (he : D.noRef 4 2 e = true) : cutD ⟨0, 0⟩ keep 4 2 F ⟨[bYd y, bQ4 q, bR p, bOX d e] ++ X, [r, s]⟩ = some (norm keep F, ⟨[bYd y, bQ4 q, bR p, bOX d e], [r, s]⟩) := by
  unfold cutD
  rw [if_pos ⟨hF, by simp [bYd, Yd.cs, bR, bQ4, bOX, blkNo, hd, he]⟩]
  simp
theorem loop6b (z : D) (hz : z = .lit true [] ∨ z = .p (.sl [])) (to : List Nat) (ht : PermN to) (hl : to.length = p.sets.length) (hn : p.sets.length ≤ 4) :
    loopO true ⟨0, 0⟩ 6 lp6_1 4 2 (fr6b p to 0) (hp6b y p q z to 0) = some (.exit 2, fr6b p to p.sets.length ++ [(56, .p (.bool false))], hp6b y p q z to p.sets.length) := by
  have hzn : D.noRef 4 2 z = true := by rcases hz with rfl | rfl <;> rfl
  obtain ⟨o, h1, h2⟩ := for_inv (mu := true) (m := ⟨0, 0⟩) (f := 6) (c := lp6_1) (nB := 4) (nA := 2) hd6_1 p.sets.length
    (fun k F1 H1 => F1 = fr6b p to k ∧ H1 = hp6b y p q z to k)
    (fun o => o = (.exit 2, fr6b p to p.sets.length ++ [(56, .p (.bool false))], hp6b y p q z to p.sets.length))
    (fun F1 H1 ⟨hf, hh⟩ => by
      subst hf; subst hh
      refine ⟨_, ?_, by simp, rfl⟩
      simp [lp6_1, code6, Tryz.f6, fr6b])
    (fun k F1 H1 hk ⟨hf, hh⟩ => by
      subst hf; subst hh
      obtain ⟨X, r1⟩ := round6b y p q z hz to ht hl hn k hk
      exact ⟨_, _, r1, _, _, cut6b y p q _ _ X z z _ _ (by simp [frNo, fr6b]) hzn hzn, rfl, rfl⟩)
    (F := fr6b p to 0) (H := hp6b y p q z to 0) (F0 := fr6b p to 0) (H0 := hp6b y p q z to 0) (cut_full ⟨0, 0⟩ _ _ (hp6b y p q z to 0)) ⟨rfl, rfl⟩
  rw [h1, h2]
end
end Go.Vi
end

section
/- Vi: layer 11: the law ReprNumbers: uses and pairs by other numbers. No conditions but those that stand with each. -/
namespace Go.Vi
open Go Go.Lib Go.Proofs
set_option maxRecDepth 100000
attribute [local simp] E_skip E_ret E_exit E_text E_draw E_seq E_cond E_block E_scope E_loop runOps runOp runDraw runVF runV finV gate FlOK wantD exec fin opd look putF norm constD constC fieldAddrD loadD storeD opCall binD isShift intP strP numD indexAddrD indexD D.pd? D.pds? sub capsOf callD argsD argD D.nf unP mkF H00 cD_agg cD_pagg cD_int cD_bool cD_str cD_sl cD_lit cD_ptr cells_encS cells_encU cells_encW cells_encR box_encU box_encW box_encR encU_agg encR_agg encW_agg cells_int one_int buildSliceD elsD splice
attribute [local simp] fnOut retOut resD retsD retD oneD D.noRefs D.noRef alone Hp.cut newRow Hp.live convD
attribute [local simp] ce_int ce_bool ce_str ce_sl ce_lit ce_own ce_ptr len_p len_l cells_agg one_agg one_sl


theorem cellsT (l : List Nat) (i : Nat) (hi : i < l.length) : (toI l)[i]? = some (iP (l.getD i 0 : Nat)) := by
  simp only [toI, List.getElem?_map]
  rw [List.getElem?_eq_getElem hi, getD_at hi]; rfl
section
variable (y : Yd) (p : RProb) (q : Nat → Int) (to : List Nat)
/-- The problem with other numbers, as far as it is made. -/
def NSt (U : List RUse) (Z : List (Int × Int)) (H : Hp) : Prop :=
  ∃ d e X Y, H.B = bYd y :: bQ4 q :: bR p :: .cells [.own 1 0, d, e] :: X ∧ H.A = rTo to :: rS p to p.sets.length :: Y ∧ ORow H.A 78 4 d (U.map encU) ∧ ORow H.A 70 2 e (Z.map encW) ∧ OApart d e
theorem NSt.cut {U : List RUse} {Z : List (Int × Int)} {H H' : Hp} (h : NSt y p q to U Z H) {keep : List Tmp} {nB nA : Nat} {F : Fr} (hB : 4 ≤ nB) (hA : 2 ≤ nA)
    (hc : H' = H ∨ (H' = ⟨H.B.take nB, H.A.take nA⟩ ∧ frNo nB nA (norm keep F) = true ∧ (H.B.take nB).all (blkNo nB nA) = true)) : NSt y p q to U Z H' := by
  obtain ⟨d, e, X, Y, h1, h2, h3, h4, h5⟩ := h
  rcases hc with rfl | ⟨rfl, _, hc⟩
  · exact ⟨d, e, X, Y, h1, h2, h3, h4, h5⟩
  · obtain ⟨k, rfl⟩ : ∃ k, nB = k + 4 := ⟨nB - 4, by omega⟩
    obtain ⟨m, rfl⟩ : ∃ m, nA = m + 2 := ⟨nA - 2, by omega⟩
    rw [h1] at hc
    simp only [List.take_succ_cons, List.all_cons, Bool.and_eq_true] at hc
    obtain ⟨_, _, _, hb, _⟩ := hc
    have hd : D.noRef (k + 4) (m + 2) d = true ∧ D.noRef (k + 4) (m + 2) e = true := by simpa [blkNo] using hb
    refine ⟨d, e, X.take k, Y.take m, by simp only [h1, List.take_succ_cons], by simp only [h2, List.take_succ_cons], h3.cut hd.1, h4.cut hd.2, h5⟩

def fr6c (k : Nat) : Fr := [(5, .ptr 2 0), (6, .p (iP p.sets.length)), (7, .own 0 to.length), (9, .ptr 3 0), (70, .p (.sl (p.uses.map encU))), (71, .p (iP p.uses.length)), (72, .p (iP k))]
set_option maxHeartbeats 4000000 in
theorem round6c (hp : p.ok = true) (ht : PermN to) (hl : to.length = p.sets.length) (k : Nat) (hk : k < p.uses.length) (U : List RUse) (hU : U.length = k) (H : Hp) (h : NSt y p q to U [] H) :
    ∃ H1, E true ⟨0, 0⟩ 6 lp6_2 (fr6c p to k) H = some (.normal, fr6c p to (k + 1), H1) ∧ NSt y p q to (U ++ [renU to p.uses[k]]) [] H1 := by
  obtain ⟨d, e, X, Y, hB, hA, g1, g2, a1⟩ := h
  obtain ⟨B, A⟩ := H
  simp only at hB hA g1 g2
  subst hB; subst hA
  obtain ⟨hpf, h5, h30, h10, hfl⟩ := ok_fine hp
  have hw : IntKind.i64.wrap ((k : Int) + 1) = (k : Int) + 1 := wrap64 (by omega) (by omega)
  obtain ⟨k1, k2, k3, k4, k5, k6, k7, k8, k9⟩ := ok_use hp (List.getElem_mem hk)
  generalize hue : p.uses[k] = u at *
  obtain ⟨ud, ua, ub, ut⟩ := u
  simp only at k1 k2 k3 k4 k5 k6 k7 k8 k9
  obtain ⟨a, rfl⟩ : ∃ a : Nat, ua = a := ⟨ua.toNat, by omega⟩
  have ha : a < to.length := by omega
  have ta := cellsT to a ha
  let v : RUse := renU to ⟨ud, a, ub, ut⟩
  obtain ⟨d', A1, m1, m2, m3, m4, m5, m6⟩ := g1.app (by simp) (B := bYd y :: bQ4 q :: bR p :: .cells [.own 1 0, d, e] :: (X ++ [.cells [.p (iP v.d), .p (iP v.a), .p (iP v.b), .p (iP v.t)]])) (t := 30) (y := .lit false [encU v]) (ys := [encU v]) el30 sz78 by78 (by decide) (by decide) (by kernel_rfl) rfl (by simp) (fitU _) (by simp; omega)
  have kk2 := m6 _ _ _ _ g2 a1.symm
  have kc := m2.cell
  obtain ⟨Y', hA1⟩ : ∃ Y', A1 = rTo to :: rS p to p.sets.length :: Y' := by
    match A1, m4, m5 with
    | x :: x' :: Y', m4, _ =>
      simp only [List.take_succ_cons, List.take_zero, List.cons.injEq] at m4
      exact ⟨Y', by rw [m4.1, m4.2.1]⟩
    | [x], _, m5 => simp at m5
    | [], _, m5 => simp at m5
  refine ⟨⟨bYd y :: bQ4 q :: bR p :: .cells [.own 1 0, d', e] :: (X ++ [.cells [.p (iP v.d), .p (iP v.a), .p (iP v.b), .p (iP v.t)]]), A1⟩, ?_,
    d', e, _, Y', rfl, hA1, by simpa [v] using m2, kk2.1, kk2.2.symm⟩
  have tl : (toI to).length = to.length := by simp [toI]
  have tE : ∀ (i : Nat) (hi : i < to.length), (toI to)[i]'(by rw [tl]; exact hi) = iP (to.getD i 0 : Nat) := fun i hi => by
    have := cellsT to i hi
    rw [List.getElem?_eq_getElem (by rw [tl]; exact hi), Option.some.injEq] at this
    exact this
  by_cases hd5 : 5 ≤ ud
  · have hdb : dbl ud = true := by rw [dbl_le ⟨k7, k8⟩]; simpa using hd5
    have hb := k5 hdb
    obtain ⟨b, rfl⟩ : ∃ b : Nat, ub = b := ⟨ub.toNat, by omega⟩
    have hb' : b < to.length := by omega
    simp only [v, renU, if_pos hd5, Int.toNat_natCast, getD_at ha, getD_at hb', bYd, Yd.cs, bQ4, bR, List.map_cons, List.map_nil, encU, rTo, rS, List.length_eq_zero_iff] at m1
    simp [lp6_2, code6, Tryz.f6, fr6c, bYd, Yd.cs, bQ4, bR, hk, hue, hw, ha, hb', tl, tE, hd5, v, renU, encU, m1, m3, kc, rTo, rS]
  · have hdb : dbl ud = false := by rw [dbl_le ⟨k7, k8⟩]; simpa using hd5
    obtain rfl := k6 hdb
    simp only [v, renU, if_neg hd5, Int.toNat_natCast, getD_at ha, bYd, Yd.cs, bQ4, bR, List.map_cons, List.map_nil, encU, rTo, rS, List.length_eq_zero_iff] at m1
    simp [lp6_2, code6, Tryz.f6, fr6c, bYd, Yd.cs, bQ4, bR, hk, hue, hw, ha, tl, tE, hd5, v, renU, encU, m1, m3, kc, rTo, rS]

theorem loop6c (hp : p.ok = true) (ht : PermN to) (hl : to.length = p.sets.length) (H : Hp) (h : NSt y p q to [] [] H) (nB nA : Nat) (hB : 4 ≤ nB) (hA : 2 ≤ nA) :
    ∃ H', loopO true ⟨0, 0⟩ 6 lp6_2 nB nA (fr6c p to 0) H = some (.exit 4, fr6c p to p.uses.length ++ [(73, .p (.bool false))], H') ∧ NSt y p q to (p.uses.map (renU to)) [] H' := by
  obtain ⟨H0, hc0, hor⟩ := cutD_or ⟨0, 0⟩ [5, 6, 7, 9, 70, 71, 72] nB nA (fr6c p to 0) H
  obtain ⟨o, h1, H', h2, h3⟩ := for_inv (mu := true) (m := ⟨0, 0⟩) (f := 6) (c := lp6_2) (nB := nB) (nA := nA) hd6_2 p.uses.length (fun k F1 H1 => F1 = fr6c p to k ∧ NSt y p q to ((p.uses.take k).map (renU to)) [] H1)
    (fun o => ∃ H', o = (.exit 4, fr6c p to p.uses.length ++ [(73, .p (.bool false))], H') ∧ NSt y p q to (p.uses.map (renU to)) [] H')
    (fun F1 H1 ⟨hf, hst⟩ => by
      subst hf
      rw [List.take_length] at hst
      refine ⟨_, ?_, by simp, H1, rfl, hst⟩
      simp [lp6_2, code6, Tryz.f6, fr6c])
    (fun k F1 H1 hk ⟨hf, hst⟩ => by
      subst hf
      obtain ⟨H2, e1, e2⟩ := round6c y p q to hp ht hl k hk _ (by simp; omega) H1 hst
      refine ⟨_, H2, e1, ?_⟩
      obtain ⟨H3, g1, g2⟩ := cutD_or ⟨0, 0⟩ [5, 6, 7, 9, 70, 71, 72] nB nA (fr6c p to (k + 1)) H2
      refine ⟨_, H3, g1, rfl, ?_⟩
      have := e2.cut y p q to hB hA g2
      rw [show [renU to p.uses[k]] = [p.uses[k]].map (renU to) from rfl, ← List.map_append, ← List.take_succ_eq_append_getElem hk] at this
      exact this)
    hc0 ⟨rfl, h.cut y p q to hB hA hor⟩
  exact ⟨H', by rw [h1, h2], h3⟩

def fr6d (k : Nat) : Fr := [(5, .ptr 2 0), (6, .p (iP p.sets.length)), (7, .own 0 to.length), (9, .ptr 3 0), (99, .p (.sl (p.same.map encW))), (100, .p (iP p.same.length)), (101, .p (iP k))]
set_option maxHeartbeats 4000000 in
theorem round6d (hp : p.ok = true) (ht : PermN to) (hl : to.length = p.sets.length) (k : Nat) (hk : k < p.same.length) (U : List RUse) (Z : List (Int × Int)) (hZ : Z.length = k) (H : Hp) (h : NSt y p q to U Z H) :
    ∃ H1, E true ⟨0, 0⟩ 6 lp6_3 (fr6d p to k) H = some (.normal, fr6d p to (k + 1), H1) ∧ NSt y p q to U (Z ++ [renW to p.same[k]]) H1 := by
  obtain ⟨d, e, X, Y, hB, hA, g1, g2, a1⟩ := h
  obtain ⟨B, A⟩ := H
  simp only at hB hA g1 g2
  subst hB; subst hA
  obtain ⟨hpf, h5, h30, h10, hfl⟩ := ok_fine hp
  have hw : IntKind.i64.wrap ((k : Int) + 1) = (k : Int) + 1 := wrap64 (by omega) (by omega)
  have hpr : pairOK (p.sets.length : Int) p.same[k] = true := by
    have hp' := hp
    simp only [RProb.ok, Bool.and_eq_true, List.all_eq_true] at hp'
    exact hp'.2 _ (List.getElem_mem hk)
  generalize hue : p.same[k] = u at *
  obtain ⟨ua, ub⟩ := u
  simp only [pairOK, inR, Bool.and_eq_true, decide_eq_true_eq] at hpr
  obtain ⟨a, rfl⟩ : ∃ a : Nat, ua = a := ⟨ua.toNat, by omega⟩
  obtain ⟨b, rfl⟩ : ∃ b : Nat, ub = b := ⟨ub.toNat, by omega⟩
  have ha : a < to.length := by omega
  have hb : b < to.length := by omega
  let v : Int × Int := renW to (a, b)
  obtain ⟨e', A1, m1, m2, m3, m4, m5, m6⟩ := g2.app (by simp) (B := bYd y :: bQ4 q :: bR p :: .cells [.own 1 0, d, e] :: (X ++ [.cells [.p (iP a), .p (iP b)]])) (t := 31) (y := .lit false [encW v]) (ys := [encW v]) el31 sz70 by70 (by decide) (by decide) (by kernel_rfl) rfl (by simp) (fitW _) (by simp; omega)
  have kk1 := m6 _ _ _ _ g1 a1
  have kc := m2.cell
  obtain ⟨Y', hA1⟩ : ∃ Y', A1 = rTo to :: rS p to p.sets.length :: Y' := by
    match A1, m4, m5 with
    | x :: x' :: Y', m4, _ =>
      simp only [List.take_succ_cons, List.take_zero, List.cons.injEq] at m4
      exact ⟨Y', by rw [m4.1, m4.2.1]⟩
    | [x], _, m5 => simp at m5
    | [], _, m5 => simp at m5
  refine ⟨⟨bYd y :: bQ4 q :: bR p :: .cells [.own 1 0, d, e'] :: (X ++ [.cells [.p (iP a), .p (iP b)]]), A1⟩, ?_,
    d, e', _, Y', rfl, hA1, kk1.1, by simpa [v] using m2, kk1.2⟩
  have tl : (toI to).length = to.length := by simp [toI]
  have tE : ∀ (i : Nat) (hi : i < to.length), (toI to)[i]'(by rw [tl]; exact hi) = iP (to.getD i 0 : Nat) := fun i hi => by
    have := cellsT to i hi
    rw [List.getElem?_eq_getElem (by rw [tl]; exact hi), Option.some.injEq] at this
    exact this
  simp only [v, renW, Int.toNat_natCast, getD_at ha, getD_at hb, bYd, Yd.cs, bQ4, bR, List.map_cons, List.map_nil, encW, rTo, rS, List.length_eq_zero_iff] at m1
  simp [lp6_3, code6, Tryz.f6, fr6d, bYd, Yd.cs, bQ4, bR, hk, hue, hw, ha, hb, tl, tE, v, renW, encW, m1, m3, kc, rTo, rS, buildD, buildD.go]

theorem loop6d (hp : p.ok = true) (ht : PermN to) (hl : to.length = p.sets.length) (U : List RUse) (H : Hp) (h : NSt y p q to U [] H) (nB nA : Nat) (hB : 4 ≤ nB) (hA : 2 ≤ nA) :
    ∃ H', loopO true ⟨0, 0⟩ 6 lp6_3 nB nA (fr6d p to 0) H = some (.exit 6, fr6d p to p.same.length ++ [(102, .p (.bool false))], H') ∧ NSt y p q to U (p.same.map (renW to)) H' := by
  obtain ⟨H0, hc0, hor⟩ := cutD_or ⟨0, 0⟩ [5, 6, 7, 9, 99, 100, 101] nB nA (fr6d p to 0) H
  obtain ⟨o, h1, H', h2, h3⟩ := for_inv (mu := true) (m := ⟨0, 0⟩) (f := 6) (c := lp6_3) (nB := nB) (nA := nA) hd6_3 p.same.length (fun k F1 H1 => F1 = fr6d p to k ∧ NSt y p q to U ((p.same.take k).map (renW to)) H1)
    (fun o => ∃ H', o = (.exit 6, fr6d p to p.same.length ++ [(102, .p (.bool false))], H') ∧ NSt y p q to U (p.same.map (renW to)) H')
    (fun F1 H1 ⟨hf, hst⟩ => by
      subst hf
      rw [List.take_length] at hst
      refine ⟨_, ?_, by simp, H1, rfl, hst⟩
      simp [lp6_3, code6, Tryz.f6, fr6d])
    (fun k F1 H1 hk ⟨hf, hst⟩ => by
      subst hf
      obtain ⟨H2, e1, e2⟩ := round6d y p q to hp ht hl k hk U _ (by simp; omega) H1 hst
      refine ⟨_, H2, e1, ?_⟩
      obtain ⟨H3, g1, g2⟩ := cutD_or ⟨0, 0⟩ [5, 6, 7, 9, 99, 100, 101] nB nA (fr6d p to (k + 1)) H2
      refine ⟨_, H3, g1, rfl, ?_⟩
      have := e2.cut y p q to hB hA g2
      rw [show [renW to p.same[k]] = [p.same[k]].map (renW to) from rfl, ← List.map_append, ← List.take_succ_eq_append_getElem hk] at this
      exact this)
    hc0 ⟨rfl, h.cut y p q to hB hA hor⟩
  exact ⟨H', by rw [h1, h2], h3⟩
end
end Go.Vi
end

section
/- Vi: layer 11: the law ReprNumbers: the problem with other numbers is handed over. No conditions but those that stand with each. -/
namespace Go.Vi
open Go Go.Lib Go.Proofs
set_option maxRecDepth 100000
theorem ORow.frz {A : List Arr} {e : TypeId} {sz : Nat} {d : D} {L : List PD} (h : ORow A e sz d L) :
    GRow (D.frz A d) e sz d L ∧ (∀ j, j < 2 → (D.frz A d)[j]? = A[j]?) ∧ (∀ e' sz' c M, ORow A e' sz' c M → OApart d c → ORow (D.frz A d) e' sz' c M) ∧ (∀ e' sz' c M, GRow A e' sz' c M → OApart d c → GRow (D.frz A d) e' sz' c M) := by
  rcases h with ⟨rfl, rfl⟩ | ⟨k, ver, rfl, hk2, h⟩
  · rw [frz_lit]
    exact ⟨.inl ⟨rfl, rfl⟩, fun _ _ => rfl, fun _ _ _ _ h _ => h, fun _ _ _ _ h _ => h⟩
  · have hk := (List.getElem?_eq_some_iff.1 h).1
    have e1 : D.frz A (.own k ver) = A.set k ⟨ver, e, sz, false, true, L⟩ := by
      rw [frz_own]
      simp [Hp.live, h]
    rw [e1]
    refine ⟨.inr ⟨k, ver, rfl, by simp [hk]⟩, fun j hj => List.getElem?_set_ne (by omega), fun e' sz' c M hc ha => ?_, fun e' sz' c M hc ha => ?_⟩
    · rcases hc with hc | ⟨k', v', rfl, hk', h'⟩
      · exact .inl hc
      · refine .inr ⟨k', v', rfl, hk', ?_⟩
        have : k ≠ k' := fun e => ha k ver v' rfl (by rw [e])
        rw [List.getElem?_set_ne this]; exact h'
    · rcases hc with hc | ⟨k', v', rfl, h'⟩
      · exact .inl hc
      · refine .inr ⟨k', v', rfl, ?_⟩
        have : k ≠ k' := fun e => ha k ver v' rfl (by rw [e])
        rw [List.getElem?_set_ne this]; exact h'
section
variable (y : Yd) (p : RProb) (q : Nat → Int) (to : List Nat)
/-- The problem with other numbers, made. -/
def OSt (d e : D) (A : List Arr) : Prop :=
  (∃ Y, A = rTo to :: Y) ∧ GRow A 61 2 (.own 1 0) ((renP p to).sets.map encS) ∧ GRow A 78 4 d ((renP p to).uses.map encU) ∧ GRow A 70 2 e ((renP p to).same.map encW)
theorem OSt.pd {d e : D} {A : List Arr} (h : OSt p to d e A) : D.pd? A (.agg [.own 1 0, d, e]) = some (encR (renP p to)) := by
  obtain ⟨_, h1, h2, h3⟩ := h
  have e1 := h1.pd
  have e2 := h2.pd
  have e3 := h3.pd
  simp only [D.pd?, D.pds?] at e1 ⊢
  rw [e1, e2, e3]
  rfl
theorem give6 (ht : PermN to) (hl : to.length = p.sets.length) {d e : D} {Y : List Arr} (h1 : ORow (rTo to :: rS p to p.sets.length :: Y) 78 4 d ((p.uses.map (renU to)).map encU)) (h2 : ORow (rTo to :: rS p to p.sets.length :: Y) 70 2 e ((p.same.map (renW to)).map encW)) (ha : OApart d e) :
    ∃ A1, retsD 0 (rTo to :: rS p to p.sets.length :: Y) [.agg [.own 1 0, d, e]] = some ([.p (encR (renP p to))], A1) ∧ OSt p to d e A1 := by
  have hs : (rS p to p.sets.length).els = (renP p to).sets.map encS := by
    show (setsAt p to p.sets.length).map encS = _
    rw [← hl, setsAt_all p ht]
  let A0 : List Arr := rTo to :: ⟨0, 61, 2, false, true, (renP p to).sets.map encS⟩ :: Y
  have e0 : D.frz (rTo to :: rS p to p.sets.length :: Y) (.own 1 0) = A0 := by
    rw [frz_own]
    simp [Hp.live, rS, A0, ← hs]
  have up : ∀ {e' sz' c M}, ORow (rTo to :: rS p to p.sets.length :: Y) e' sz' c M → ORow A0 e' sz' c M := fun {e' sz' c M} hc => by
    rcases hc with hc | ⟨k', v', rfl, hk', h'⟩
    · exact .inl hc
    · refine .inr ⟨k', v', rfl, hk', ?_⟩
      obtain ⟨m, rfl⟩ : ∃ m, k' = m + 2 := ⟨k' - 2, by omega⟩
      simpa [A0] using h'
  have g1 := up h1
  have g2 := up h2
  have hset : GRow A0 61 2 (.own 1 0) ((renP p to).sets.map encS) := .inr ⟨1, 0, rfl, rfl⟩
  obtain ⟨f1, f2, f3, f4⟩ := g1.frz
  have g2' := f3 _ _ _ _ g2 ha
  obtain ⟨k1, k2, k3, k4⟩ := g2'.frz
  have ap : ∀ {A e' sz' c M}, ORow A e' sz' c M → OApart c (.own 1 0) := fun {A e' sz' c M} hc k v v' h1 h2 => by
    rcases hc with ⟨rfl, _⟩ | ⟨k', ver', rfl, hk', _⟩
    · cases h1
    · injection h1 with a1 a2
      injection h2 with b1 b2
      omega
  have hst : OSt p to d e (D.frz (D.frz A0 d) e) := by
    refine ⟨?_, k4 _ _ _ _ (f4 _ _ _ _ hset (ap g1)) (ap g2), k4 _ _ _ _ f1 ha.symm, k1⟩
    have h0 : (D.frz (D.frz A0 d) e)[0]? = some (rTo to) := by rw [k2 0 (by decide), f2 0 (by decide)]; rfl
    match D.frz (D.frz A0 d) e, h0 with
    | x :: Y', h0 => exact ⟨Y', by simp at h0; rw [h0]⟩
    | [], h0 => cases h0
  refine ⟨D.frz (D.frz A0 d) e, ?_, hst⟩
  have hpd := hst.pd
  have hfr : D.frz (rTo to :: rS p to p.sets.length :: Y) (.agg [.own 1 0, d, e]) = D.frz (D.frz A0 d) e := by
    rw [frz_agg, frzs_cons, frzs_cons, frzs_cons, frzs_nil, e0]
  simp only [retsD, retD, argD, D.nf, hfr, hpd, Bool.false_eq_true, if_false]
theorem best_give (hp : p.ok = true) (ht : PermN to) (hl : to.length = p.sets.length) {d e : D} {Y : List Arr} (h1 : ORow (rTo to :: rS p to p.sets.length :: Y) 78 4 d ((p.uses.map (renU to)).map encU)) (h2 : ORow (rTo to :: rS p to p.sets.length :: Y) 70 2 e ((p.same.map (renW to)).map encW)) (ha : OApart d e) (B : List Blk) :
    ∃ A1, OSt p to d e A1 ∧ W 15 [.agg [.own 1 0, d, e]] ⟨B, rTo to :: rS p to p.sets.length :: Y⟩ = some (.ret (.tup [.p (.sl ((bestA (renP p to)).1.map iP)), .p (.int .i64 (bestA (renP p to)).2.1), .p (.int .i64 (bestA (renP p to)).2.2)]), ⟨B, A1⟩) := by
  obtain ⟨A1, r1, r2⟩ := give6 p to ht hl h1 h2 ha
  obtain ⟨hf, _⟩ := ok_fine (ren_ok hp ht hl)
  exact ⟨A1, r2, W_give rfl (by decide) (by decide) (by decide) r1 rfl (by simp [retsD, retD, argD, D.nf, D.pd?]) (best16_W (renP p to) hf H00)⟩
end
end Go.Vi
end

section
/- Vi: layer 11: the law ReprNumbers: least costs by form. No conditions but those that stand with each. -/
namespace Go.Vi
open Go Go.Lib Go.Proofs
set_option maxRecDepth 100000
attribute [local simp] E_skip E_ret E_exit E_text E_draw E_seq E_cond E_block E_scope E_loop runOps runOp runDraw runVF runV finV gate FlOK wantD exec fin opd look putF norm constD constC fieldAddrD loadD storeD opCall binD isShift intP strP numD indexAddrD indexD D.pd? D.pds? sub capsOf callD argsD argD D.nf unP mkF H00 cD_agg cD_pagg cD_int cD_bool cD_str cD_sl cD_lit cD_ptr cells_encS cells_encU cells_encW cells_encR box_encU box_encW box_encR encU_agg encR_agg encW_agg cells_int one_int buildSliceD elsD splice
attribute [local simp] fnOut retOut resD retsD retD oneD D.noRefs D.noRef alone Hp.cut newRow Hp.live convD
attribute [local simp] ce_int ce_bool ce_str ce_sl ce_lit ce_own ce_ptr len_p len_l cells_agg one_agg one_sl



theorem leastA_ren {p : RProb} {to : List Nat} (hp : p.ok = true) (ht : PermN to) (hl : to.length = p.sets.length) {i : Nat} (hi : i < p.sets.length) {f : Int} (h5 : five f = true) : leastA (renP p to) (to.getD i 0 : Nat) f = leastA p i f := by
  have h := ren_leastR hp ht hl (i := i) (by omega) f
  have h1 := to_lt ht (i := i) (by omega)
  have e1 : (renP p to).ok = true ∧ 0 ≤ ((to.getD i 0 : Nat) : Int) ∧ ((to.getD i 0 : Nat) : Int) < (renP p to).sets.length ∧ five f = true := ⟨ren_ok hp ht hl, Int.natCast_nonneg _, by rw [ren_sets_len]; exact Int.ofNat_lt.2 h1, h5⟩
  have e2 : p.ok = true ∧ 0 ≤ (i : Int) ∧ (i : Int) < p.sets.length ∧ five f = true := ⟨hp, by omega, by omega, h5⟩
  unfold leastA
  rw [if_pos e1, if_pos e2, Int.toNat_natCast, Int.toNat_natCast]
  generalize leastR (renP p to) (to.getD i 0) f = a at h ⊢
  generalize leastR p i f = b at h ⊢
  cases a with
  | none =>
    cases b with
    | none => rfl
    | some b => cases h
  | some a =>
    cases b with
    | none => cases h
    | some b =>
      simp only [Option.map_some, Option.some.injEq] at h
      simp only [h]

section
variable (y : Yd) (p : RProb) (q : Nat → Int) (to : List Nat) (d e : D) (X : List Blk) (A : List Arr)
def hp6e : Hp := ⟨bYd y :: bQ4 q :: bR p :: .cells [.own 1 0, d, e] :: X, A⟩
def fr6f (i : Nat) (f : Int) : Fr := [(5, .ptr 2 0), (7, .own 0 to.length), (9, .ptr 3 0), (22, .p (iP i)), (23, .p (iP f)), (142, .p (iP p.sets.length)), (143, .p (iP i))]
def fr6e (i : Nat) : Fr := [(5, .ptr 2 0), (7, .own 0 to.length), (9, .ptr 3 0), (142, .p (iP p.sets.length)), (143, .p (iP i))]
set_option maxHeartbeats 1000000 in
theorem round6f (hp : p.ok = true) (ht : PermN to) (hl : to.length = p.sets.length) (ho : OSt p to d e A) (i : Nat) (hi : i < p.sets.length) (f : Int) (f0 : 1 ≤ f) (f5 : f ≤ 5) :
    E true ⟨0, 0⟩ 6 lp6_5 (fr6f p to i f) (hp6e y p q d e X A) = some (.normal, fr6f p to i (f + 1), hp6e y p q d e X A) := by
  obtain ⟨hpf, h5, _⟩ := ok_fine hp
  obtain ⟨hof, _⟩ := ok_fine (ren_ok hp ht hl)
  have hw : IntKind.i64.wrap (f + 1) = f + 1 := wrap64 (by omega) (by omega)
  have hfive : five f = true := by
    have : f = 1 ∨ f = 2 ∨ f = 3 ∨ f = 4 ∨ f = 5 := by omega
    rcases this with rfl | rfl | rfl | rfl | rfl <;> rfl
  have h24 := fun H => least18_W p i f hpf H
  have hi' : i < to.length := by omega
  have h24o := fun H => least18_W (renP p to) (to.getD i 0 : Nat) f hof H
  rw [leastA_ren hp ht hl hi hfive, getD_at hi'] at h24o
  generalize leastA p i f = r at h24 h24o
  obtain ⟨c, g⟩ := r
  simp only at h24 h24o
  have hpd := ho.pd
  obtain ⟨⟨Y, rfl⟩, g1, g2, g3⟩ := ho
  have kd := g2.cell
  have ke := g3.cell
  have tl : (toI to).length = to.length := by simp [toI]
  have tE : ∀ (i : Nat) (hi : i < to.length), (toI to)[i]'(by rw [tl]; exact hi) = iP (to.getD i 0 : Nat) := fun i hi => by
    have := cellsT to i hi
    rw [List.getElem?_eq_getElem (by rw [tl]; exact hi), Option.some.injEq] at this
    exact this
  have hY : Y[0]? = some ⟨0, 61, 2, false, true, (renP p to).sets.map encS⟩ := by
    rcases g1 with ⟨h, _⟩ | ⟨k, v, h, h'⟩
    · cases h
    · injection h with a1 a2
      subst a1; subst a2
      simpa using h'
  have e1 := g1.pd
  have e2 := g2.pd
  have e3 := g3.pd
  have e4 : PD.agg [PD.sl ((renP p to).sets.map encS), PD.sl ((renP p to).uses.map encU), PD.sl ((renP p to).same.map encW)] = encR (renP p to) := rfl
  simp only [rTo, D.pd?, List.length_eq_zero_iff] at e1 e2 e3
  simp [lp6_5, code6, Tryz.f6, fr6f, hp6e, f5, bR, h24, hi', tl, tE, rTo, kd, ke, hY, e2, e3, e4, h24o, hw]

theorem loop6f (hp : p.ok = true) (ht : PermN to) (hl : to.length = p.sets.length) (ho : OSt p to d e A) (i : Nat) (hi : i < p.sets.length) :
    loopO true ⟨0, 0⟩ 6 lp6_5 (X.length + 1 + 1 + 1 + 1) A.length (fr6f p to i 1) (hp6e y p q d e X A) = some (.exit 10, fr6f p to i 6 ++ [(147, .p (.bool false))], hp6e y p q d e X A) := by
  obtain ⟨o, h1, h2⟩ := for_inv (mu := true) (m := ⟨0, 0⟩) (f := 6) (c := lp6_5) (nB := X.length + 1 + 1 + 1 + 1) (nA := A.length) hd6_5 5
    (fun k F1 H1 => F1 = fr6f p to i (k + 1) ∧ H1 = hp6e y p q d e X A)
    (fun o => o = (.exit 10, fr6f p to i 6 ++ [(147, .p (.bool false))], hp6e y p q d e X A))
    (fun F1 H1 ⟨hf, hh⟩ => by
      subst hf; subst hh
      refine ⟨_, ?_, by simp, rfl⟩
      simp [lp6_5, code6, Tryz.f6, fr6f])
    (fun k F1 H1 hk ⟨hf, hh⟩ => by
      subst hf; subst hh
      exact ⟨_, _, round6f y p q to d e X A hp ht hl ho i hi (k + 1) (by omega) (by omega), _, _, cut_full ⟨0, 0⟩ _ _ (hp6e y p q d e X A), rfl, rfl⟩)
    (F := fr6f p to i 1) (H := hp6e y p q d e X A) (F0 := fr6f p to i 1) (H0 := hp6e y p q d e X A) (cut_full ⟨0, 0⟩ _ _ (hp6e y p q d e X A)) ⟨rfl, rfl⟩
  rw [h1, h2]
theorem round6e (hp : p.ok = true) (ht : PermN to) (hl : to.length = p.sets.length) (ho : OSt p to d e A) (i : Nat) (hi : i < p.sets.length) :
    E true ⟨0, 0⟩ 6 lp6_4 (fr6e p to i) (hp6e y p q d e X A) = some (.normal, fr6e p to (i + 1), hp6e y p q d e X A) := by
  obtain ⟨hpf, h5, _⟩ := ok_fine hp
  have hw : IntKind.i64.wrap ((i : Int) + 1) = (i : Int) + 1 := wrap64 (by omega) (by omega)
  have hlp := loop6f y p q to d e X A hp ht hl ho i hi
  simp only [lp6_5, code6, Tryz.f6, fr6f, hp6e] at hlp
  simp [lp6_4, code6, Tryz.f6, fr6e, hp6e, hi, hlp, hw]
theorem loop6e (hp : p.ok = true) (ht : PermN to) (hl : to.length = p.sets.length) (ho : OSt p to d e A) :
    loopO true ⟨0, 0⟩ 6 lp6_4 (X.length + 1 + 1 + 1 + 1) A.length (fr6e p to 0) (hp6e y p q d e X A) = some (.exit 8, fr6e p to p.sets.length ++ [(144, .p (.bool false))], hp6e y p q d e X A) := by
  obtain ⟨o, h1, h2⟩ := for_inv (mu := true) (m := ⟨0, 0⟩) (f := 6) (c := lp6_4) (nB := X.length + 1 + 1 + 1 + 1) (nA := A.length) hd6_4 p.sets.length
    (fun k F1 H1 => F1 = fr6e p to k ∧ H1 = hp6e y p q d e X A)
    (fun o => o = (.exit 8, fr6e p to p.sets.length ++ [(144, .p (.bool false))], hp6e y p q d e X A))
    (fun F1 H1 ⟨hf, hh⟩ => by
      subst hf; subst hh
      refine ⟨_, ?_, by simp, rfl⟩
      simp [lp6_4, code6, Tryz.f6, fr6e])
    (fun k F1 H1 hk ⟨hf, hh⟩ => by
      subst hf; subst hh
      exact ⟨_, _, round6e y p q to d e X A hp ht hl ho k hk, _, _, cut_full ⟨0, 0⟩ _ _ (hp6e y p q d e X A), rfl, rfl⟩)
    (F := fr6e p to 0) (H := hp6e y p q d e X A) (F0 := fr6e p to 0) (H0 := hp6e y p q d e X A) (cut_full ⟨0, 0⟩ _ _ (hp6e y p q d e X A)) ⟨rfl, rfl⟩
  rw [h1, h2]
theorem bestA_ren (hp : p.ok = true) (ht : PermN to) (hl : to.length = p.sets.length) : (bestA (renP p to)).2 = (bestA p).2 := by
  have h := ren_best hp ht hl
  have e1 : leastN (renP p to) (choR (renP p to) (renP p to).sets []) = (bestR (renP p to)).map (·.2) := rfl
  have e2 : leastN p (choR p p.sets []) = (bestR p).map (·.2) := rfl
  rw [e1, e2] at h
  unfold bestA
  rw [if_pos (ren_ok hp ht hl), if_pos hp]
  cases ha : bestR (renP p to) with
  | none =>
    cases hb : bestR p with
    | none => rfl
    | some b => rw [ha, hb] at h; cases h
  | some a =>
    cases hb : bestR p with
    | none => rw [ha, hb] at h; cases h
    | some b =>
      obtain ⟨a1, a2⟩ := a
      obtain ⟨b1, b2⟩ := b
      rw [ha, hb] at h
      simp only [Option.map_some, Option.some.injEq] at h
      simp only [h]
end
end Go.Vi
end

section
/- Vi: layer 11: the law ReprNumbers answers true. No conditions but those that stand with it. -/
namespace Go.Vi
open Go Go.Lib Go.Proofs
set_option maxRecDepth 100000
attribute [local simp] E_skip E_ret E_exit E_text E_draw E_seq E_cond E_block E_scope E_loop runOps runOp runDraw runVF runV finV gate FlOK wantD exec fin opd look putF norm constD constC fieldAddrD loadD storeD opCall binD isShift intP strP numD indexAddrD indexD D.pd? D.pds? sub capsOf callD argsD argD D.nf unP mkF H00 cD_agg cD_pagg cD_int cD_bool cD_str cD_sl cD_lit cD_ptr cells_encS cells_encU cells_encW cells_encR box_encU box_encW box_encR encU_agg encR_agg encW_agg cells_int one_int buildSliceD elsD splice
attribute [local simp] fnOut retOut resD retsD retD oneD D.noRefs D.noRef alone Hp.cut newRow Hp.live convD
attribute [local simp] ce_int ce_bool ce_str ce_sl ce_lit ce_own ce_ptr len_p len_l cells_agg one_agg one_sl




@[simp] theorem pl33 : placesOf Tryz.prog 33 = some [(0, 1), (1, 1), (2, 1)] := by kernel_rfl
theorem box_own (a b : Nat) : cellsD (.own a b) = [.own a b] := rfl
theorem zok61 : zOK Tryz.prog 61 2 = true := by kernel_rfl
theorem zlen61 : (PD.agg [PD.int .i64 0, PD.sl []]).cells.length = 2 := rfl

set_option maxHeartbeats 4000000 in
theorem law6_W (y : Yd) (hy : y.ok) (q : Nat → Int) (hq : ∀ i, in8 (q i)) (H : Hp) : W 6 [.p (.agg y.cs), .p (.agg [b8 (q 0), b8 (q 1), b8 (q 2), b8 (q 3)])] H = some (.ret (.p (.bool true)), H) := by
  refine W6_of (by simp [Yd.cs]) (by simp) ?_
  obtain ⟨p, hp, h1, hn4, h13⟩ := made13_W y hy
  obtain ⟨hpf, h5, h30, h10, hfl⟩ := ok_fine hp
  simp only [Yd.cs] at h13
  have h00 : ((0 : Nat) : Int) = 0 := rfl
  have h8 := fun H => works9_W H
  obtain ⟨to, ht, htl, l0⟩ := loop6a y p q hn4 hq
  have hm1 : p.sets.length ≤ 140737488355328 := by omega
  have hm2 : (p.sets.length : Int) ≤ 4611686018427387904 := by omega
  have hm3 : p.sets.length * 8 ≤ 140737488355328 := by omega
  have hm4 : p.sets.length * 32 ≤ 140737488355328 := by omega
  have l1 := loop6b y p q (.lit true []) (.inl rfl) to ht htl hn4
  have ns0 : NSt y p q to [] [] (hp6b y p q (.lit true []) to p.sets.length) := ⟨_, _, [], [], rfl, rfl, .inl ⟨rfl, rfl⟩, .inl ⟨rfl, rfl⟩, oapart_lit _ _ _⟩
  obtain ⟨H2, l2, ns2⟩ := loop6c y p q to hp ht htl _ ns0 4 2 (Nat.le_refl _) (Nat.le_refl _)
  obtain ⟨B2, A2⟩ := H2
  have ns2' := ns2
  obtain ⟨d2, e2, X2, Y2, hB2, hA2, r2, r2', ra2⟩ := ns2'
  simp only at hB2 hA2
  subst hB2; subst hA2
  obtain ⟨H3, l3, ns3⟩ := loop6d y p q to hp ht htl _ _ ns2 (X2.length + 1 + 1 + 1 + 1) (Y2.length + 1 + 1) (by omega) (by omega)
  obtain ⟨B3, A3⟩ := H3
  obtain ⟨d, e, X, Y, hB3, hA3, g1, g2, ga⟩ := ns3
  simp only at hB3 hA3 g1 g2
  subst hB3; subst hA3
  have kd := g1.cell
  have ke := g2.cell
  obtain ⟨A, ho, h15o⟩ := best_give p to hp ht htl g1 g2 ga (bYd y :: bQ4 q :: bR p :: .cells [.own 1 0, d, e] :: X)
  have h15 := fun H => best16_W p hpf H
  have hbe := bestA_ren p to hp ht htl
  rw [hbe] at h15o
  have l4 := loop6e y p q to d e X A hp ht htl ho
  simp only [lp6_0, code6, Tryz.f6, fr6a, hp6a, bYd, Yd.cs, bR, bQ4, rTo, toI, h00, List.map_cons, List.map_nil, List.length_nil, decide_true] at l0
  have hs0 : (setsAt p to 0).map encS = List.replicate p.sets.length (PD.agg [PD.int .i64 0, PD.sl []]) := by
    rw [setsAt_zero, htl]; simp [encS]
  simp only [lp6_1, code6, Tryz.f6, fr6b, hp6b, rS, hs0, bOX, bYd, Yd.cs, bR, bQ4, rTo, toI, h00, List.map_cons, List.map_nil, List.length_eq_zero_iff, htl] at l1
  simp only [lp6_2, code6, Tryz.f6, fr6c, hp6b, rS, bOX, bYd, Yd.cs, bR, bQ4, rTo, toI, h00, List.map_cons, List.map_nil, List.length_eq_zero_iff, htl] at l2
  simp only [lp6_3, code6, Tryz.f6, fr6d, rS, bYd, Yd.cs, bR, bQ4, rTo, toI, h00, List.map_cons, List.map_nil, List.length_eq_zero_iff, htl] at l3
  simp only [rS, bYd, Yd.cs, bR, bQ4, rTo, toI, List.map_cons, List.map_nil, List.length_eq_zero_iff, htl] at h15o
  simp only [lp6_4, code6, Tryz.f6, fr6e, hp6e, bYd, Yd.cs, bR, bQ4, h00, List.map_cons, List.map_nil, htl] at l4
  simp [code6, Tryz.f6, Yd.cs, h13, l0, l1, l2, l3, makeSliceD, hm1, hm2, hm3, hm4, zok61, zlen61, buildD, buildD.go, box_own, htl, h15, h15o, kd, ke, l4, h8]
  done
end Go.Vi
end
