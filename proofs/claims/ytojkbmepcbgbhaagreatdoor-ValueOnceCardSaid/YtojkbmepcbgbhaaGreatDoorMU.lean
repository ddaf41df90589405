/- It is proved here what the program's functions on values compute, the third part; conditions stand with each. -/
import Derived.Test.YtojkbmepcbgbhaaGreatDoorMT
set_option linter.unusedVariables false
set_option linter.unusedSimpArgs false

section
/- Vi: value.compare is ref.Compare where values are shaped; value.shaped (f107) is ref.shaped; value.valid (f71). No conditions. -/
namespace Go.Vi
open Go Go.Lib Go.Proofs
set_option maxRecDepth 100000

/-! ### The two orders -/
theorem less_compare : ∀ (a b : List UInt8), Lib.compareBytes a b = if a = b then 0 else if Op.bytesLess a b = true then -1 else 1
  | [], [] => by simp [Lib.compareBytes]
  | [], _ :: _ => by simp [Lib.compareBytes, Op.bytesLess]
  | _ :: _, [] => by simp [Lib.compareBytes, Op.bytesLess]
  | a :: x, b :: y => by
    simp only [Lib.compareBytes, Op.bytesLess]
    by_cases h1 : a < b
    · have hne : ¬ a = b := fun e => by subst e; exact absurd h1 (by simp)
      simp [h1, hne]
    · by_cases h2 : b < a
      · have hne : ¬ a = b := fun e => by subst e; exact absurd h2 (by simp)
        simp [h1, h2, hne]
      · have e : a = b := by
          have := UInt8.le_antisymm (UInt8.not_lt.1 h2) (UInt8.not_lt.1 h1)
          exact this
        subst e
        rw [if_neg h1, if_neg h1, less_compare x y]
        simp

theorem ba_ext {s t : ByteArray} : s = t ↔ s.data.toList = t.data.toList := by
  constructor
  · intro e; rw [e]
  · intro e; cases s; cases t; simp at e; subst e; rfl

theorem compareBytes_eq (s t : ByteArray) : Lib.compareBytes s.data.toList t.data.toList = if s = t then 0 else if lessB s t = true then -1 else 1 := by
  rw [less_compare]
  by_cases h : s = t
  · subst h; simp
  · have h' : ¬ s.data.toList = t.data.toList := fun e => h (ba_ext.2 e)
    rw [if_neg h, if_neg h']; rfl

theorem ordI_same (a : Int) : ordI a a = 0 := by simp [ordI]

mutual
theorem pc_cmp : ∀ (v u : Val), v.shaped = true → u.shaped = true → v.pc u = v.cmp u
  | .mk k n t ps, .mk k' n' t' ps', hv, hu => by
    simp only [Val.shaped, Bool.and_eq_true] at hv hu
    obtain ⟨hp, ho⟩ := hv
    obtain ⟨hp', ho'⟩ := hu
    simp only [Val.pc, Val.cmp]
    by_cases hk : k = k'
    · subst hk
      rw [if_neg (by simp [ordI_same]), if_neg (show ¬ k ≠ k by simp)]
      by_cases h1 : k = 1
      · simp only [own75, h1, if_true, Bool.and_eq_true, decide_eq_true_eq] at ho ho'
        rw [if_neg (by omega), if_pos (by omega), if_neg (by omega), if_pos (.inl h1), ho.2, ho'.2]
        simp [ordI_same]
      by_cases h2 : k = 2
      · simp only [own75, h2, if_true, Bool.and_eq_true, decide_eq_true_eq] at ho ho'
        rw [if_neg (by omega), if_pos (by omega), if_neg (by omega), if_pos (.inr (.inl h2))]
        simp at ho ho'
        simp [ho, ho', ordI_same]
      by_cases h3 : k = 3
      · rw [if_neg (by omega), if_neg (by omega), if_pos h3, if_pos h3, compareBytes_eq]
      by_cases h45 : k = 4 ∨ k = 5
      · have hn : n = 0 ∧ n' = 0 := by
          rcases h45 with h | h <;> subst h <;> simp [own75] at ho ho' <;> omega
        rw [if_neg (by omega), if_neg (by omega), if_neg h3, if_neg h3]
        obtain ⟨rfl, rfl⟩ := hn
        by_cases hl : ps.length = ps'.length
        · rw [if_neg (by simp [hl, ordI_same]), if_neg (by simp [h1, h2, hl]), pcL_cmpL ps ps' hp hp']
        · have : ¬ ordI ps.length ps'.length = 0 := fun e => hl (by have := (ordI_zero _ _).1 e; omega)
          rw [if_pos this, if_pos (.inr (.inr hl))]
          simp [ordI_same]
      · exfalso
        have h4 : ¬ k = 4 := fun e => h45 (.inl e)
        have h5 : ¬ k = 5 := fun e => h45 (.inr e)
        simp [own75, h1, h2, h3, h4, h5] at ho
    · have : ¬ ordI k k' = 0 := fun e => hk ((ordI_zero _ _).1 e)
      rw [if_pos this, if_pos hk]
theorem pcL_cmpL : ∀ (l m : List Val), shapeds l = true → shapeds m = true → pcL l m = cmpL l m
  | [], _, _, _ => by simp [pcL, cmpL]
  | _ :: _, [], _, _ => by simp [pcL, cmpL]
  | v :: r, u :: s, hl, hm => by
    simp only [shapeds, Bool.and_eq_true] at hl hm
    simp only [pcL, cmpL, pc_cmp v u hl.1 hm.1, pcL_cmpL r s hl.2 hm.2]
end

theorem sortedP_L : ∀ (l : List Val), l.all Val.shaped = true → sortedP l = sortedL l
  | [], _ => rfl
  | [_], _ => rfl
  | v :: u :: r, h => by
    have h' := h
    simp only [List.all_cons, Bool.and_eq_true] at h
    simp only [sortedP, sortedL, pc_cmp v u h.1 h.2.1]
    rw [sortedP_L (u :: r) (by simp only [List.all_cons, h.2.1, h.2.2, Bool.and_self])]

/-! ### shaped -/
theorem kind_shaped (v : Val) (hlen : v.ps.length < 9223372036854775807) (hp : ∀ u ∈ v.ps, Shp107 u u.shaped) (hrec : ∀ u ∈ v.ps, Pc83 u) (b0 : Blk) :
    ∃ B, E false ⟨0, 0⟩ 108 rest107 [(3, .p v.kind)] ⟨[b0], []⟩ = some (.ret, [(2, .p (.bool v.shaped))], ⟨B, []⟩) := by
  have nothing : v.kind = .ifc 147 (.agg []) → v.shaped = false → ∃ B, E false ⟨0, 0⟩ 108 rest107 [(3, .p v.kind)] ⟨[b0], []⟩ = some (.ret, [(2, .p (.bool v.shaped))], ⟨B, []⟩) := fun h1 h2 => by
    rw [h1, h2]; exact rest107_146 b0
  have empty : v.ps.length = 0 → v.ps = [] := List.eq_nil_of_length_eq_zero
  have sh := shaped_eq v
  by_cases h1 : v.k = 1
  · by_cases hc : v.t = ⟨#[]⟩ ∧ v.ps.length = 0
    · have hk : v.kind = .ifc 120 (.agg [.int .i64 v.n]) := by simp [Val.kind, h1, hc.1, empty hc.2]
      have hs : v.shaped = inB v.n (-1000000000) 1000000000 := by rw [sh]; simp [own75, h1, hc.1, empty hc.2]
      rw [hk, hs]; exact rest107_119 v.n b0
    · refine nothing (by simp only [Val.kind, h1, if_true, if_neg hc]) ?_
      rw [sh]; simp only [own75, h1, if_true]
      rw [Bool.and_eq_false_iff]; right
      rw [Bool.and_assoc, Bool.and_eq_false_iff]; right
      simpa using hc
  by_cases h2 : v.k = 2
  · by_cases hc : v.t = ⟨#[]⟩ ∧ v.ps.length = 0
    · have hk : v.kind = .ifc 121 (.agg [.int .i64 v.n]) := by simp [Val.kind, h2, hc.1, empty hc.2]
      have hs : v.shaped = inB v.n 0 1 := by rw [sh]; simp [own75, h2, hc.1, empty hc.2]
      rw [hk, hs]; exact rest107_120 v.n b0
    · refine nothing (by simp [Val.kind, h2]; intro a b; exact absurd ⟨a, by simp [b]⟩ hc) ?_
      rw [sh]; simp [own75, h2]
      intro _ _ a b
      exact hc ⟨a, by simp [b]⟩
  by_cases h3 : v.k = 3
  · by_cases hc : v.n = 0 ∧ v.ps.length = 0
    · have hk : v.kind = .ifc 124 (.agg [.str v.t]) := by simp [Val.kind, h3, hc.1, empty hc.2]
      have hs : v.shaped = letters v.t := by rw [sh]; simp [own75, h3, hc.1, empty hc.2]
      rw [hk, hs]; exact rest107_123 v.t b0
    · refine nothing (by simp [Val.kind, h3]; intro a b; exact absurd ⟨a, by simp [b]⟩ hc) ?_
      rw [sh]; simp [own75, h3]
      intro _ a _ b
      exact hc ⟨a, by simp [b]⟩
  by_cases h4 : v.k = 4
  · by_cases hc : v.n = 0 ∧ v.t = ⟨#[]⟩
    · have hk : v.kind = .ifc 126 (.agg [.sl (v.ps.map enc)]) := by simp [Val.kind, h4, hc.1, hc.2]
      have hs : v.shaped = (v.ps.all Val.shaped && inB v.ps.length 2 6) := by rw [sh]; simp [own75, h4, hc.1, hc.2]
      rw [hk, hs]; exact rest107_125 v.ps Val.shaped hp hlen b0
    · refine nothing (by simp [Val.kind, h4]; intro a b; exact absurd ⟨a, b⟩ hc) ?_
      rw [sh]; simp [own75, h4]
      intro _ a b
      exact absurd ⟨a, b⟩ hc
  by_cases h5 : v.k = 5
  · by_cases hc : v.n = 0 ∧ v.t = ⟨#[]⟩
    · have hk : v.kind = .ifc 145 (.agg [.sl (v.ps.map enc)]) := by simp [Val.kind, h5, hc.1, hc.2]
      have hs : v.shaped = (v.ps.all Val.shaped && sortedP v.ps) := by
        rw [sh]
        cases ha : v.ps.all Val.shaped with
        | false => simp
        | true => rw [sortedP_L v.ps ha]; simp [own75, h5, hc.1, hc.2]
      rw [hk, hs]; exact rest107_144 v.ps Val.shaped hp hlen hrec b0
    · refine nothing (by simp [Val.kind, h5]; intro a b; exact absurd ⟨a, b⟩ hc) ?_
      rw [sh]; simp [own75, h5]
      intro _ _ a b
      exact absurd ⟨a, b⟩ hc
  · refine nothing (by simp [Val.kind, h1, h2, h3, h4, h5]) ?_
    rw [sh]; simp [own75, h1, h2, h3, h4, h5]

attribute [local simp] E_skip E_ret E_exit E_text E_draw E_seq E_cond E_block E_scope E_loop runOps runOp runDraw runVF runV finV gate FlOK wantD exec fin opd look putF norm constD constC fieldAddrD loadD storeD opCall lenD binD isShift intP strP numD indexAddrD indexD D.pd? D.pds? cells_enc sub capsOf callD argsD argD D.nf enc_agg unP box_enc cellD mkF H00 st1 cD_agg cD_pagg cD_int cD_bool cD_str cD_sl cD_lit

theorem shaped107_step (v : Val) (hlen : v.ps.length < 9223372036854775807) (hp : ∀ u ∈ v.ps, Shp107 u u.shaped) (hrec : ∀ u ∈ v.ps, Pc83 u) : Shp107 v v.shaped := by
  intro H
  refine W108_of rfl (by simp) ?_
  have h1 := fun H => of_W v H
  obtain ⟨B, hB⟩ := kind_shaped v hlen hp hrec (box25 v)
  have key : E false ⟨0, 0⟩ 108 code108 (mkF 0 [.p (enc v)]) H00 = some (.ret, [(2, .p (.bool v.shaped))], ⟨B, []⟩) := by
    rw [code107_eq]
    have e1 : E false ⟨0, 0⟩ 108 ini107 (mkF 0 [.p (enc v)]) H00 = some (.normal, [(1, .ptr 0 0)], ⟨[box25 v], []⟩) := by
      simp [ini107, code108, Tryz.f108, box25]
    have e2 : E false ⟨0, 0⟩ 108 of107 [(1, .ptr 0 0)] ⟨[box25 v], []⟩ = some (.normal, [(3, .p v.kind)], ⟨[box25 v], []⟩) := by
      simp [of107, code108, Tryz.f108, box25, h1]
    rw [E_seq, e1]
    simp only
    rw [E_seq, e2]
    simp only
    exact hB
  rw [key]
  simp [fnOut, retOut, resD, retsD, retD, oneD, D.noRefs, D.noRef, alone, Hp.cut]

mutual
theorem shaped107_W : ∀ v : Val, v.fine → Shp107 v v.shaped
  | .mk k n t ps, h => shaped107_step (.mk k n t ps) (by have := h.1; simp only [Val.ps]; omega) (shapeds107_W ps h.2) (compares_W ps h.2)
theorem shapeds107_W : ∀ l : List Val, fines l → ∀ u ∈ l, Shp107 u u.shaped
  | [], _, u, hu => by cases hu
  | v :: r, h, u, hu => by
    rcases List.mem_cons.1 hu with e | hu
    · rw [e]; exact shaped107_W v h.1
    · exact shapeds107_W r h.2 u hu
end

theorem valid71_W (v : Val) (H : Hp) : W 72 [.p (enc v)] H = some (.ret (.p (.bool v.valid)), H) := by
  refine W72_of rfl (by simp) ?_
  have h1 := fun H => fits106_W v H
  have key : E false ⟨0, 0⟩ 72 code72 (mkF 0 [.p (enc v)]) H00 = some (.ret, [(2, .p (.bool v.valid))], st1 v) := by
    cases hf : v.fits with
    | false =>
      have hv : v.valid = false := by simp [Val.valid]; intro hw; simp [Val.fits, hw] at hf
      rw [hf] at h1
      simp [code72, Tryz.f72, h1, hv]
    | true =>
      have hw : 0 ≤ v.weigh 200 8 := by simpa [Val.fits] using hf
      have hv : v.valid = v.shaped := by simp [Val.valid, hw]
      have h2 : ∀ H, W 108 [.p (enc v)] H = some (.ret (.p (.bool v.shaped)), H) := shaped107_W v (weigh_fine (by omega) (by omega) hw)
      rw [hf] at h1
      simp [code72, Tryz.f72, h1, h2, hv]
  rw [key]
  simp [fnOut, retOut, resD, retsD, retD, oneD, D.noRefs, D.noRef, alone, Hp.cut]
end Go.Vi
end

section
/- Vi: value.At (f17), value.Size (f21), value.Check (f29), value.Compare (f30), value.Same (f31). No conditions. -/
namespace Go.Vi
open Go Go.Lib Go.Proofs
set_option maxRecDepth 100000
attribute [local simp] E_skip E_ret E_exit E_text E_draw E_seq E_cond E_block E_scope E_loop runOps runOp runDraw runVF runV finV gate FlOK wantD exec fin opd look putF norm constD constC fieldAddrD loadD storeD opCall lenD binD isShift intP strP numD indexAddrD indexD D.pd? D.pds? cells_enc sub capsOf callD argsD argD D.nf enc_agg unP box_enc cellD mkF H00 st1 cD_agg cD_pagg cD_int cD_bool cD_str cD_sl cD_lit

def st17 (v : Val) (q : List Blk) : Hp := ⟨[box25 v, zeroB] ++ q, []⟩
def fr17 (p : List Int) (i : Nat) : Fr := [(2, .ptr 0 0), (4, .ptr 1 0), (12, .p (.sl (encI p))), (13, .p (.int .i64 p.length)), (14, .p (.int .i64 i))]

theorem body17_end (v : Val) (p : List Int) : E false ⟨0, 0⟩ 18 lp18_0 (fr17 p p.length) (st17 v []) = some (.exit 0, fr17 p p.length ++ [(15, .p (.bool false))], st17 v []) := by
  simp [fr17, st17, encI, lp18_0, code18, Tryz.f18]

theorem body17_out (v : Val) (p : List Int) (i : Nat) (hlt : i < p.length) (hv : v.ps.length < 9223372036854775807) (hin : inB p[i] 0 ((v.ps.length : Int) - 1) = false) :
    E false ⟨0, 0⟩ 18 lp18_0 (fr17 p i) (st17 v []) = some (.ret, [(4, .ptr 1 0), (5, .p (.int .i64 2))], st17 v []) := by
  have hw : IntKind.i64.wrap ((v.ps.length : Int) - 1) = (v.ps.length : Int) - 1 := wrap64 (by omega) (by omega)
  have h1 : ∀ H, W 73 [.p (.int .i64 p[i]), .p (.int .i64 0), .p (.int .i64 ((v.ps.length : Int) - 1))] H = some (.ret (.p (.bool false)), H) := fun H => by rw [in72_W, hin]
  simp [fr17, st17, encI, box25, zeroB, lp18_0, code18, Tryz.f18, hlt, hw, h1, build25, splice, cells_int]

theorem body17_in (v : Val) (p : List Int) (i : Nat) (hlt : i < p.length) (hp : p.length < 9223372036854775807) (hv : v.ps.length < 9223372036854775807) (hin : inB p[i] 0 ((v.ps.length : Int) - 1) = true)
    (hb : p[i].toNat < v.ps.length) : E false ⟨0, 0⟩ 18 lp18_0 (fr17 p i) (st17 v []) = some (.normal, fr17 p (i + 1), st17 v.ps[p[i].toNat] []) := by
  have hw : IntKind.i64.wrap ((v.ps.length : Int) - 1) = (v.ps.length : Int) - 1 := wrap64 (by omega) (by omega)
  have hw2 : IntKind.i64.wrap ((i : Int) + 1) = (i : Int) + 1 := wrap64 (by omega) (by omega)
  have h0 : 0 ≤ p[i] := by simp only [inB, Bool.and_eq_true, decide_eq_true_eq] at hin; exact hin.1
  have h1 : ∀ H, W 73 [.p (.int .i64 p[i]), .p (.int .i64 0), .p (.int .i64 ((v.ps.length : Int) - 1))] H = some (.ret (.p (.bool true)), H) := fun H => by rw [in72_W, hin]
  simp [fr17, st17, encI, box25, zeroB, lp18_0, code18, Tryz.f18, hlt, hw, hw2, h0, hb, h1, build25, splice, cells_int, len_enc]

theorem cut17 (v : Val) (F : Fr) : cutD ⟨0, 0⟩ [2, 4, 12, 13, 14] 2 0 F (st17 v []) = some (norm [2, 4, 12, 13, 14] F, st17 v []) := cut_full ⟨0, 0⟩ [2, 4, 12, 13, 14] F (st17 v [])

theorem loop17_ok (p : List Int) (hp : p.length < 9223372036854775807) : ∀ (m i : Nat) (v : Val) (F : Fr), m = p.length - i → i ≤ p.length → v.fine → norm [2, 4, 12, 13, 14] F = fr17 p i →
    (∃ u, atV v (p.drop i) = some u ∧ loopO false ⟨0, 0⟩ 18 lp18_0 2 0 F (st17 v []) = some (.exit 0, fr17 p p.length ++ [(15, .p (.bool false))], st17 u [])) ∨
    (atV v (p.drop i) = none ∧ ∃ u, loopO false ⟨0, 0⟩ 18 lp18_0 2 0 F (st17 v []) = some (.ret, [(4, .ptr 1 0), (5, .p (.int .i64 2))], st17 u [])) := by
  intro m
  induction m with
  | zero =>
    intro i v F hm hi hf hF
    have hie : i = p.length := by omega
    subst hie
    left
    refine ⟨v, by rw [List.drop_length, atV], ?_⟩
    rw [loopO_eq, hd18_0, cut17, hF]
    simp only [body17_end]
  | succ m ih =>
    intro i v F hm hi hf hF
    have hlt : i < p.length := by omega
    have hl := fine_len hf
    rw [loopO_eq, hd18_0, cut17, hF, List.drop_eq_getElem_cons hlt, atV]
    by_cases hin : inB p[i] 0 ((v.ps.length : Int) - 1) = true
    · have hb : p[i].toNat < v.ps.length := by
        have h2 := hin
        simp only [inB, Bool.and_eq_true, decide_eq_true_eq] at h2
        omega
      rw [dif_pos ⟨hin, hb⟩]
      simp only [body17_in v p i hlt hp (by omega) hin hb]
      exact ih (i + 1) v.ps[p[i].toNat] (fr17 p (i + 1)) (by omega) (by omega) (fine_mem hf _ (List.getElem_mem hb)) rfl
    · right
      rw [dif_neg (fun h => hin h.1)]
      refine ⟨rfl, v, ?_⟩
      simp only [body17_out v p i hlt (by omega) (by simpa using hin)]

mutual
theorem nodes_mem : ∀ (v u : Val), u ∈ v.ps → u.nodes ≤ v.nodes
  | .mk k n t ps, u, hu => by simp only [Val.nodes]; have := nodesL_mem ps u hu; omega
theorem nodesL_mem : ∀ (l : List Val) (u : Val), u ∈ l → u.nodes ≤ nodesL l
  | [], u, hu => by cases hu
  | v :: r, u, hu => by
    simp only [nodesL]
    have h1 := nodes_pos v; have h2 := nodesL_pos r
    rcases List.mem_cons.1 hu with e | hu
    · rw [e]; omega
    · have := nodesL_mem r u hu; omega
end

theorem atV_nodes : ∀ (p : List Int) (v u : Val), atV v p = some u → u.nodes ≤ v.nodes
  | [], v, u, h => by simp only [atV, Option.some.injEq] at h; subst h; omega
  | n :: r, v, u, h => by
    simp only [atV] at h
    split at h
    · rename_i hc
      have h1 := atV_nodes r _ u h
      have h2 := nodes_mem v _ (List.getElem_mem hc.2)
      omega
    · cases h

def At17 (v : Val) (p : List Int) : List D :=
  if v.valid = true then (match atV v p with | some u => [.p (enc u), .p (.int .i64 0)] | none => [.p (enc Val.zero), .p (.int .i64 2)]) else [.p (enc Val.zero), .p (.int .i64 2)]

theorem valid_fine {v : Val} (h : v.valid = true) : v.fine ∧ v.nodes ≤ 200 := by
  simp only [Val.valid, Bool.and_eq_true, decide_eq_true_eq] at h
  refine ⟨weigh_fine (by omega) (by omega) h.1, ?_⟩
  have := weigh_nodes v 200 8 (by omega) h.1
  omega

theorem at17_W (v : Val) (p : List Int) (hp : p.length < 9223372036854775807) (H : Hp) :
    W 18 [.p (enc v), .p (.sl (encI p))] H = some (.ret (.tup (At17 v p)), H) := by
  refine W18_of rfl (by simp) ?_
  have h00 : ((0 : Nat) : Int) = 0 := rfl
  have h1 := fun H => valid71_W v H
  unfold At17
  cases hv : v.valid with
  | false =>
    rw [hv] at h1
    have key : E false ⟨0, 0⟩ 18 code18 (mkF 0 [.p (enc v), .p (.sl (encI p))]) H00 = some (.ret, [(4, .ptr 1 0), (5, .p (.int .i64 2))], st17 v []) := by
      simp [code18, Tryz.f18, st17, box25, zeroB, z25', h1, build25, splice]
    rw [key, enc_zero]
    simp [fnOut, retOut, resD, retsD, retD, oneD, D.noRefs, D.noRef, alone, Hp.cut, st17, zeroB]
  | true =>
    rw [hv] at h1
    obtain ⟨hf, hn⟩ := valid_fine hv
    rcases loop17_ok p hp p.length 0 v (fr17 p 0) rfl (Nat.zero_le _) hf rfl with ⟨u, hu, hloop⟩ | ⟨hu, u, hloop⟩
    · rw [List.drop_zero] at hu
      have hc := fun H => copied_W u (by have := atV_nodes p v u hu; omega) H
      have key : E false ⟨0, 0⟩ 18 code18 (mkF 0 [.p (enc v), .p (.sl (encI p))]) H00 = some (.ret, [(4, .ptr 1 0), (5, .p (.int .i64 0))], ⟨[box25 u, box25 u], []⟩) := by
        simp only [lp18_0, code18, Tryz.f18, fr17, st17, box25, zeroB, h00, List.append_nil, encI] at hloop
        simp [code18, Tryz.f18, box25, z25', h1, hloop, splice, hc, encI]
      rw [key, hu]
      simp [fnOut, retOut, resD, retsD, retD, oneD, D.noRefs, D.noRef, alone, Hp.cut, box25]
    · rw [List.drop_zero] at hu
      have key : E false ⟨0, 0⟩ 18 code18 (mkF 0 [.p (enc v), .p (.sl (encI p))]) H00 = some (.ret, [(4, .ptr 1 0), (5, .p (.int .i64 2))], st17 u []) := by
        simp only [lp18_0, code18, Tryz.f18, fr17, st17, box25, zeroB, h00, List.append_nil, encI] at hloop
        simp [code18, Tryz.f18, st17, box25, zeroB, z25', h1, hloop, splice, encI]
      rw [key, hu, enc_zero]
      simp [fnOut, retOut, resD, retsD, retD, oneD, D.noRefs, D.noRef, alone, Hp.cut, st17, zeroB]

def Size21 (v : Val) : List D := if v.valid = true then [.p (.int .i64 v.nodes), .p (.int .i64 v.depth), .p (.int .i64 0)] else [.p (.int .i64 0), .p (.int .i64 0), .p (.int .i64 2)]

theorem size21_W (v : Val) (H : Hp) : W 22 [.p (enc v)] H = some (.ret (.tup (Size21 v)), H) := by
  refine W22_of rfl (by simp) ?_
  have h1 := fun H => valid71_W v H
  unfold Size21
  cases hv : v.valid with
  | false =>
    rw [hv] at h1
    have key : E false ⟨0, 0⟩ 22 code22 (mkF 0 [.p (enc v)]) H00 = some (.ret, [(2, .p (.int .i64 0)), (3, .p (.int .i64 0)), (4, .p (.int .i64 2))], st1 v) := by
      simp [code22, Tryz.f22, h1]
    rw [key]
    simp [fnOut, retOut, resD, retsD, retD, oneD, D.noRefs, D.noRef, alone, Hp.cut]
  | true =>
    rw [hv] at h1
    have hw : 0 ≤ v.weigh 200 8 := by simp only [Val.valid, Bool.and_eq_true, decide_eq_true_eq] at hv; exact hv.1
    have h2 : ∀ H, W 77 [.p (enc v), .p (.int .i64 200), .p (.int .i64 8)] H = some (.ret (.p (.agg [.int .i64 v.nodes, .int .i64 v.depth])), H) := fun H => by
      have := vw_W 8 8 (by omega) (by omega) (by omega) v 200 H (by omega) (by omega)
      rw [((vw_weigh v 200 8 (by omega) (by omega)).1 hw).1] at this
      exact this
    have key : E false ⟨0, 0⟩ 22 code22 (mkF 0 [.p (enc v)]) H00 = some (.ret, [(2, .p (.int .i64 v.nodes)), (3, .p (.int .i64 v.depth)), (4, .p (.int .i64 0))], ⟨[box25 v, pr2 v.nodes v.depth], []⟩) := by
      simp [code22, Tryz.f22, h1, h2, box25, pr2, z81, splice]
    rw [key]
    simp [fnOut, retOut, resD, retsD, retD, oneD, D.noRefs, D.noRef, alone, Hp.cut]

theorem check29_W (v : Val) (H : Hp) : W 30 [.p (enc v)] H = some (.ret (.p (.int .i64 (if v.valid = true then 0 else 2))), H) := by
  refine W30_of rfl (by simp) ?_
  have h1 := fun H => valid71_W v H
  have key : E false ⟨0, 0⟩ 30 code30 (mkF 0 [.p (enc v)]) H00 = some (.ret, [(2, .p (.int .i64 (if v.valid = true then 0 else 2)))], st1 v) := by
    cases hv : v.valid <;> rw [hv] at h1 <;> simp [code30, Tryz.f30, h1]
  rw [key]
  simp [fnOut, retOut, resD, retsD, retD, oneD, D.noRefs, D.noRef, alone, Hp.cut]

def both (a b : Val) : Bool := a.valid && b.valid

theorem compare30_W (a b : Val) (H : Hp) : W 31 [.p (enc a), .p (enc b)] H = some (.ret (.tup (if both a b = true then [.p (.int .i64 (a.cmp b)), .p (.int .i64 0)] else [.p (.int .i64 0), .p (.int .i64 2)])), H) := by
  refine W31_of rfl (by simp) ?_
  have h1 := fun H => valid71_W a H
  have h2 := fun H => valid71_W b H
  have fin1 : ∀ x y : Int, alone H (fnOut Tryz.prog [.tmp 4, .tmp 5] 0 0 (some (.ret, [(4, .p (.int .i64 x)), (5, .p (.int .i64 y))], st2 a b))) = some (.ret (.tup [.p (.int .i64 x), .p (.int .i64 y)]), H) := fun x y => by
    simp [fnOut, retOut, resD, look, retsD, retD, argD, D.nf, D.pd?, oneD, D.noRefs, D.noRef, alone, Hp.cut]
  cases ha : a.valid with
  | false =>
    rw [ha] at h1
    have key : E false ⟨0, 0⟩ 31 code31 (mkF 0 [.p (enc a), .p (enc b)]) H00 = some (.ret, [(4, .p (.int .i64 0)), (5, .p (.int .i64 2))], st2 a b) := by
      simp [code31, Tryz.f31, h1, st2]
    rw [key, fin1]; simp [both, ha]
  | true =>
    rw [ha] at h1
    cases hb : b.valid with
    | false =>
      rw [hb] at h2
      have key : E false ⟨0, 0⟩ 31 code31 (mkF 0 [.p (enc a), .p (enc b)]) H00 = some (.ret, [(4, .p (.int .i64 0)), (5, .p (.int .i64 2))], st2 a b) := by
        simp [code31, Tryz.f31, h1, h2, st2]
      rw [key, fin1]; simp [both, ha, hb]
    | true =>
      rw [hb] at h2
      have hsa : a.shaped = true := by simp only [Val.valid, Bool.and_eq_true] at ha; exact ha.2
      have hsb : b.shaped = true := by simp only [Val.valid, Bool.and_eq_true] at hb; exact hb.2
      have h3 : ∀ H, W 84 [.p (enc a), .p (enc b)] H = some (.ret (.p (.int .i64 (a.cmp b))), H) := fun H => by
        have := compare_W a (valid_fine ha).1 b H
        rw [pc_cmp a b hsa hsb] at this
        exact this
      have key : E false ⟨0, 0⟩ 31 code31 (mkF 0 [.p (enc a), .p (enc b)]) H00 = some (.ret, [(4, .p (.int .i64 (a.cmp b))), (5, .p (.int .i64 0))], st2 a b) := by
        simp [code31, Tryz.f31, h1, h2, h3, st2]
      rw [key, fin1]; simp [both, ha, hb]

theorem same31_W (a b : Val) (H : Hp) : W 32 [.p (enc a), .p (enc b)] H = some (.ret (.tup (if both a b = true then [.p (.bool (decide (a.cmp b = 0))), .p (.int .i64 0)] else [.p (.bool false), .p (.int .i64 2)])), H) := by
  refine W32_of rfl (by simp) ?_
  have h1 := fun H => valid71_W a H
  have h2 := fun H => valid71_W b H
  have fin1 : ∀ (x : Bool) (y : Int), alone H (fnOut Tryz.prog [.tmp 4, .tmp 5] 0 0 (some (.ret, [(4, .p (.bool x)), (5, .p (.int .i64 y))], st2 a b))) = some (.ret (.tup [.p (.bool x), .p (.int .i64 y)]), H) := fun x y => by
    simp [fnOut, retOut, resD, look, retsD, retD, argD, D.nf, D.pd?, oneD, D.noRefs, D.noRef, alone, Hp.cut]
  cases ha : a.valid with
  | false =>
    rw [ha] at h1
    have key : E false ⟨0, 0⟩ 32 code32 (mkF 0 [.p (enc a), .p (enc b)]) H00 = some (.ret, [(4, .p (.bool false)), (5, .p (.int .i64 2))], st2 a b) := by
      simp [code32, Tryz.f32, h1, st2]
    rw [key, fin1]; simp [both, ha]
  | true =>
    rw [ha] at h1
    cases hb : b.valid with
    | false =>
      rw [hb] at h2
      have key : E false ⟨0, 0⟩ 32 code32 (mkF 0 [.p (enc a), .p (enc b)]) H00 = some (.ret, [(4, .p (.bool false)), (5, .p (.int .i64 2))], st2 a b) := by
        simp [code32, Tryz.f32, h1, h2, st2]
      rw [key, fin1]; simp [both, ha, hb]
    | true =>
      rw [hb] at h2
      have hsa : a.shaped = true := by simp only [Val.valid, Bool.and_eq_true] at ha; exact ha.2
      have hsb : b.shaped = true := by simp only [Val.valid, Bool.and_eq_true] at hb; exact hb.2
      have h3 : ∀ H, W 84 [.p (enc a), .p (enc b)] H = some (.ret (.p (.int .i64 (a.cmp b))), H) := fun H => by
        have := compare_W a (valid_fine ha).1 b H
        rw [pc_cmp a b hsa hsb] at this
        exact this
      have key : E false ⟨0, 0⟩ 32 code32 (mkF 0 [.p (enc a), .p (enc b)]) H00 = some (.ret, [(4, .p (.bool (decide (a.cmp b = 0)))), (5, .p (.int .i64 0))], st2 a b) := by
        simp [code32, Tryz.f32, h1, h2, h3, st2]
      rw [key, fin1]; simp [both, ha, hb]
end Go.Vi
end

section
/- Vi: what the parts of valid values are. No conditions. -/
namespace Go.Vi
open Go Go.Lib Go.Proofs

mutual
theorem weigh_iff : ∀ (v : Val) (l d : Int), 0 ≤ l → (0 ≤ v.weigh l d ↔ v.nodes ≤ l ∧ v.depth ≤ d)
  | .mk k n t ps, l, d, h => by
    simp only [Val.weigh, Val.nodes, Val.depth]
    have h0 := nodesL_pos ps
    have h1 := depthL_nodes ps
    split
    · omega
    · rw [weighs_iff ps (l - 1) (d - 1) (by omega)]
      constructor
      · rintro (h2 | rfl)
        · omega
        · simp [nodesL, depthL]; omega
      · intro h2
        left; omega
theorem weighs_iff : ∀ (ps : List Val) (l d : Int), 0 ≤ l → (0 ≤ weighs ps l d ↔ nodesL ps ≤ l ∧ depthL ps ≤ d ∨ ps = [])
  | [], l, d, h => by simp [weighs]; omega
  | v :: r, l, d, h => by
    simp only [weighs, nodesL, depthL]
    rw [if_pos h]
    have hp := nodes_pos v
    have hd := depth_nodes v
    have hr := nodesL_pos r
    have hdr := depthL_nodes r
    have hv := weigh_iff v l d h
    by_cases hw : 0 ≤ v.weigh l d
    · have e := weigh_nodes v l d h hw
      have hw2 := hv.1 hw
      rw [weighs_iff r _ d hw, e]
      cases r with
      | nil => simp [nodesL, depthL]; omega
      | cons x y => simp; omega
    · have hle := weigh_le v l d h
      have hle2 := weighs_le r (v.weigh l d) d hle.2
      constructor
      · intro h2; omega
      · rintro (⟨a, b⟩ | h2)
        · exact absurd (hv.2 ⟨by omega, by omega⟩) hw
        · cases h2
end

theorem fits_iff (v : Val) : v.fits = true ↔ v.nodes ≤ 200 ∧ v.depth ≤ 8 := by
  simp only [Val.fits, decide_eq_true_eq, weigh_iff v 200 8 (by omega)]
theorem valid_iff (v : Val) : v.valid = true ↔ (v.nodes ≤ 200 ∧ v.depth ≤ 8) ∧ v.shaped = true := by
  simp only [Val.valid, Bool.and_eq_true, decide_eq_true_eq, weigh_iff v 200 8 (by omega)]
theorem small_iff (v : Val) : v.small = true ↔ (v.nodes ≤ 260 ∧ v.depth ≤ 12) ∧ v.brief = true := by
  simp only [Val.small, Bool.and_eq_true, decide_eq_true_eq, weigh_iff v 260 12 (by omega)]

theorem depthL_mem : ∀ (l : List Val) (u : Val), u ∈ l → u.depth ≤ depthL l
  | [], u, hu => by cases hu
  | v :: r, u, hu => by
    simp only [depthL]
    rcases List.mem_cons.1 hu with e | hu
    · rw [e]; omega
    · have := depthL_mem r u hu; omega

theorem shaped_mem {v : Val} (h : v.shaped = true) : ∀ u ∈ v.ps, u.shaped = true := by
  rw [shaped_eq, Bool.and_eq_true] at h
  exact List.all_eq_true.1 h.1

theorem valid_mem {v u : Val} (h : v.valid = true) (hu : u ∈ v.ps) : u.valid = true ∧ u.depth + 1 ≤ v.depth := by
  rw [valid_iff] at h ⊢
  have h1 := nodes_mem v u hu
  have h2 := depthL_mem v.ps u hu
  have h3 := depth_eq v
  exact ⟨⟨⟨by omega, by omega⟩, shaped_mem h.2 u hu⟩, by omega⟩

theorem atV_valid : ∀ (p : List Int) (v u : Val), v.valid = true → atV v p = some u → u.valid = true ∧ u.depth + p.length ≤ v.depth
  | [], v, u, hv, h => by simp only [atV, Option.some.injEq] at h; subst h; exact ⟨hv, by simp⟩
  | n :: r, v, u, hv, h => by
    simp only [atV] at h
    split at h
    · rename_i hc
      obtain ⟨h1, h2⟩ := valid_mem hv (List.getElem_mem hc.2)
      obtain ⟨h3, h4⟩ := atV_valid r _ u h1 h
      exact ⟨h3, by simp only [List.length_cons]; omega⟩
    · cases h

theorem eqb_self (v : Val) : v.eqb v = true := (eqb_iff v v).2 rfl
theorem none_zero : Val.zero.none = true := by unfold Val.none; exact eqb_self _
theorem zero_fine : Val.zero.fine := by simp [Val.zero, Val.fine, fines]
end Go.Vi
end
