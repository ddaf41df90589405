/- It is proved here what the program's functions that make a set of any values compute; conditions stand with each. -/
import Derived.Test.YtojkbmepcbgbhaaGreatDoorMYA
import Derived.Test.YtojkbmepcbgbhaaGreatDoorMAE
set_option linter.unusedVariables false
set_option linter.unusedSimpArgs false

section
/- Vi: packed bytes tell values apart; listed (f58), valid (f60). No conditions. -/
namespace Go.Vi
open Go Go.Lib Go.Proofs
set_option maxRecDepth 100000
attribute [local simp] E_skip E_ret E_exit E_text E_draw E_seq E_cond E_block E_scope E_loop runOps runOp runDraw runVF runV finV gate FlOK wantD exec fin opd look putF norm constD constC fieldAddrD loadD storeD opCall lenD binD isShift intP strP numD indexAddrD indexD D.pd? D.pds? cells_enc sub capsOf callD argsD argD D.nf enc_agg unP box_enc cellD mkF H00 st1 cD_agg cD_pagg cD_int cD_bool cD_str cD_sl cD_lit

theorem num4_inj {m q : Int} (h1 : 0 ≤ m) (h2 : m ≤ 2000000000) (h3 : 0 ≤ q) (h4 : q ≤ 2000000000) {r s : List Int} (h : num4 m ++ r = num4 q ++ s) : m = q ∧ r = s := by
  simp only [num4, List.cons_append, List.nil_append, List.cons.injEq] at h
  obtain ⟨a, b, c, d, e⟩ := h
  refine ⟨?_, e⟩
  omega

theorem map_pre {α β : Type} {f : α → β} (hf : ∀ x y, f x = f y → x = y) : ∀ (l m : List α) (r s : List β), l.length = m.length → l.map f ++ r = m.map f ++ s → l = m ∧ r = s
  | [], [], r, s, _, h => ⟨rfl, h⟩
  | x :: l, y :: m, r, s, hl, h => by
    simp only [List.map_cons, List.cons_append, List.cons.injEq] at h
    obtain ⟨h1, h2⟩ := map_pre hf l m r s (by simpa using hl) h.2
    exact ⟨by rw [hf x y h.1, h1], h2⟩
  | [], _ :: _, _, _, hl, _ => by simp at hl
  | _ :: _, [], _, _, hl, _ => by simp at hl

theorem ba_pre {t t' : ByteArray} {r s : List Int} (hl : t.size = t'.size) (h : ba t ++ r = ba t' ++ s) : t = t' ∧ r = s := by
  obtain ⟨h1, h2⟩ := map_pre (f := fun c : UInt8 => (c.toNat : Int)) (fun x y e => UInt8.toNat_inj.1 (Int.ofNat.inj e)) t.data.toList t'.data.toList r s (by rw [ba_size, ba_size]; exact hl) h
  obtain ⟨⟨t⟩⟩ := t
  obtain ⟨⟨t'⟩⟩ := t'
  simp only at h1
  rw [h1]
  exact ⟨rfl, h2⟩

theorem pk_head {v : Val} (h : v.shaped = true) : ∃ q, pk v = v.k :: q := by
  rw [pk_eq]
  rcases shaped_cases h with ⟨h1, _⟩ | ⟨h1, _⟩ | ⟨h1, _⟩ | ⟨h1, _⟩ | ⟨h1, _⟩ <;> rw [h1] <;> exact ⟨_, rfl⟩

mutual
theorem pk_inj : ∀ (v u : Val) (r s : List Int), v.shaped = true → u.shaped = true → pk v ++ r = pk u ++ s → v = u ∧ r = s
  | .mk k n t ps, .mk k' n' t' ps', r, s, hv, hu, h => by
    have hk : k = k' := by
      obtain ⟨q, hq⟩ := pk_head hv
      obtain ⟨q', hq'⟩ := pk_head hu
      rw [hq, hq'] at h
      exact (List.cons.inj h).1
    subst hk
    have ih := fun hl => pks_inj ps ps' r s hl (shaped_mem hv) (shaped_mem hu)
    rw [pk_eq, pk_eq] at h
    have cv := shaped_cases hv
    have cu := shaped_cases hu
    simp only [k_mk, n_mk, t_mk, ps_mk] at h cv cu
    by_cases k1 : k = 1
    · subst k1
      simp at cv cu
      simp only [if_true, List.cons_append, List.cons.injEq, true_and] at h
      obtain ⟨e1, e2⟩ := num4_inj (by omega) (by omega) (by omega) (by omega) h
      refine ⟨?_, e2⟩
      rw [cv.2.2.1, cv.2.2.2, cu.2.2.1, cu.2.2.2, show n = n' by omega]
    by_cases k2 : k = 2
    · subst k2
      simp at cv cu h
      refine ⟨?_, h.2⟩
      rw [cv.2.2.1, cv.2.2.2, cu.2.2.1, cu.2.2.2, h.1]
    by_cases k3 : k = 3
    · subst k3
      simp at cv cu
      simp only [if_true, if_false, show ¬ (3 : Int) = 1 by decide, show ¬ (3 : Int) = 2 by decide, List.cons_append, List.cons.injEq, true_and] at h
      obtain ⟨e1, e2⟩ := ba_pre (Int.ofNat.inj h.1) h.2
      refine ⟨?_, e2⟩
      rw [e1, cv.1, cv.2.2.2, cu.1, cu.2.2.2]
    · simp only [k1, k2, k3, if_false, List.cons_append, List.cons.injEq, true_and] at h
      obtain ⟨e1, e2⟩ := ih (Int.ofNat.inj h.1) h.2
      refine ⟨?_, e2⟩
      simp only [k1, k2, k3, false_and, false_or] at cv cu
      rw [e1, show n = 0 by rcases cv with h | h <;> exact h.2.1, show t = ⟨#[]⟩ by rcases cv with h | h <;> exact h.2.2.1, show n' = 0 by rcases cu with h | h <;> exact h.2.1, show t' = ⟨#[]⟩ by rcases cu with h | h <;> exact h.2.2.1]
theorem pks_inj : ∀ (l m : List Val) (r s : List Int), l.length = m.length → (∀ u ∈ l, u.shaped = true) → (∀ u ∈ m, u.shaped = true) → pks l ++ r = pks m ++ s → l = m ∧ r = s
  | [], [], r, s, _, _, _, h => ⟨rfl, h⟩
  | v :: l, u :: m, r, s, hl, h1, h2, h => by
    simp only [pks, List.append_assoc] at h
    obtain ⟨e1, e2⟩ := pk_inj v u _ _ (h1 v (by simp)) (h2 u (by simp)) h
    obtain ⟨e3, e4⟩ := pks_inj l m r s (by simpa using hl) (fun x hx => h1 x (by simp [hx])) (fun x hx => h2 x (by simp [hx])) e2
    exact ⟨by rw [e1, e3], e4⟩
  | [], _ :: _, _, _, hl, _, _, _ => by simp at hl
  | _ :: _, [], _, _, hl, _, _, _ => by simp at hl
end

mutual
theorem pk_bd0 : ∀ v : Val, v.shaped = true → v.nodes ≤ 250 → ∀ x ∈ pk v, 0 ≤ x ∧ x ≤ 255
  | .mk k n t ps, h, hn => by
    have hnn := nodes_eq (.mk k n t ps)
    simp only [ps_mk] at hnn
    have ih := pks_bd0 ps (shaped_mem h) (by omega)
    have hl := nodesL_len ps
    have cv := shaped_cases h
    rw [pk_eq]
    simp only [k_mk, n_mk, t_mk, ps_mk] at cv ⊢
    intro x hx
    rcases cv with ⟨rfl, h1, h2, _⟩ | ⟨rfl, h1, h2, _⟩ | ⟨rfl, _, _, h1, _⟩ | ⟨rfl, _⟩ | ⟨rfl, _⟩
    · simp [num4] at hx; omega
    · simp at hx; omega
    · simp [ba] at hx
      rcases hx with e | e | ⟨c, _, e⟩
      · omega
      · omega
      · have := c.toNat_lt; omega
    · simp at hx
      rcases hx with e | e | e
      · omega
      · omega
      · exact ih x e
    · simp at hx
      rcases hx with e | e | e
      · omega
      · omega
      · exact ih x e
theorem pks_bd0 : ∀ l : List Val, (∀ u ∈ l, u.shaped = true) → nodesL l ≤ 250 → ∀ x ∈ pks l, 0 ≤ x ∧ x ≤ 255
  | [], _, _, x, hx => by simp [pks] at hx
  | v :: r, h, hn, x, hx => by
    have h1 := nodes_pos v
    have h2 := nodesL_pos r
    simp only [nodesL] at hn
    simp only [pks, List.mem_append] at hx
    rcases hx with hx | hx
    · exact pk_bd0 v (h v (by simp)) (by omega) x hx
    · exact pks_bd0 r (fun u hu => h u (by simp [hu])) (by omega) x hx
end

/-- A value's bytes as a text. -/
def kB (v : Val) : List UInt8 := (pk v).map fun x => UInt8.ofNat x.toNat
def kS (v : Val) : ByteArray := ⟨(kB v).toArray⟩
theorem bytes_kB (l : List Int) : bytesP (encU l) = some (l.map fun x => UInt8.ofNat x.toNat) := by
  induction l with
  | nil => rfl
  | cons x r ih =>
    rw [show encU (x :: r) = PD.int .u8 x :: encU r from rfl, bytesP, ih]; rfl
theorem kB_inj {v u : Val} (hv : v.shaped = true) (hu : u.shaped = true) (nv : v.nodes ≤ 250) (nu : u.nodes ≤ 250) (h : kB v = kB u) : v = u := by
  have back : ∀ l : List Int, (∀ x ∈ l, 0 ≤ x ∧ x ≤ 255) → (l.map fun x => UInt8.ofNat x.toNat).map (fun c => (c.toNat : Int)) = l := by
    intro l
    induction l with
    | nil => intro _; rfl
    | cons x r ih =>
      intro h
      have hx := h x (by simp)
      simp only [List.map_cons, ih (fun y hy => h y (by simp [hy]))]
      congr 1
      simp; omega
  have h2 := congrArg (List.map fun c : UInt8 => (c.toNat : Int)) h
  unfold kB at h2
  rw [back _ (pk_bd0 v hv nv), back _ (pk_bd0 u hu nu)] at h2
  exact (pk_inj v u [] [] hv hu (by rw [List.append_nil, List.append_nil]; exact h2)).1
end Go.Vi
end

section
/- Vi: swardlaw01.valid (f60), swardlaw01.listed (f58). No conditions. -/
namespace Go.Vi
open Go Go.Lib Go.Proofs
set_option maxRecDepth 100000
attribute [local simp] E_skip E_ret E_exit E_text E_draw E_seq E_cond E_block E_scope E_loop runOps runOp runDraw runVF runV finV gate FlOK wantD exec fin opd look putF norm constD constC fieldAddrD loadD storeD opCall lenD binD isShift intP strP numD indexAddrD indexD D.pd? D.pds? cells_enc sub capsOf callD argsD argD D.nf enc_agg unP box_enc cellD mkF H00 st1 cD_agg cD_pagg cD_int cD_bool cD_str cD_sl cD_lit

def fr60 (l : List Val) (i : Nat) : Fr := [(0, .p (.sl (l.map enc))), (3, .p (.int .i64 i))]
theorem body60_end (l : List Val) : E false ⟨0, 0⟩ 61 lp61_0 (fr60 l l.length) H00 = some (.exit 0, fr60 l l.length ++ [(7, .p (.bool false))], H00) := by
  simp [fr60, lp61_0, code61, Tryz.f61]
theorem body60_step (l : List Val) (i : Nat) (hlt : i < l.length) (hlen : l.length < 9223372036854775807) (b : Bool) (hr : ∀ H, W 20 [.p (enc l[i])] H = some (.ret (.p (.bool b)), H)) :
    E false ⟨0, 0⟩ 61 lp61_0 (fr60 l i) H00 = if b = true then some (.normal, fr60 l (i + 1), H00) else some (.ret, [(2, .p (.bool false))], H00) := by
  have hw : IntKind.i64.wrap ((i : Int) + 1) = (i : Int) + 1 := wrap64 (by omega) (by omega)
  cases b <;> simp [fr60, lp61_0, code61, Tryz.f61, hlt, hr, hw]
theorem loop60_ok (l : List Val) (hlen : l.length < 9223372036854775807) (hs : ∀ u ∈ l, u.fine ∧ u.brief = true) : ∀ (m i : Nat) (F : Fr), m = l.length - i → i ≤ l.length → norm [0, 3] F = fr60 l i →
    loopO false ⟨0, 0⟩ 61 lp61_0 0 0 F H00 = if (l.drop i).all Val.valid = true then some (.exit 0, fr60 l l.length ++ [(7, .p (.bool false))], H00) else some (.ret, [(2, .p (.bool false))], H00) := by
  intro m
  induction m with
  | zero =>
    intro i F hm hi hF
    have hie : i = l.length := by omega
    subst hie
    rw [loopO_eq, hd61_0, show cutD ⟨0, 0⟩ [0, 3] 0 0 F H00 = some (norm [0, 3] F, H00) from cut_full _ _ _ H00, hF]
    simp only [body60_end, List.drop_length, List.all_nil, if_true]
  | succ m ih =>
    intro i F hm hi hF
    have hlt : i < l.length := by omega
    rw [loopO_eq, hd61_0, show cutD ⟨0, 0⟩ [0, 3] 0 0 F H00 = some (norm [0, 3] F, H00) from cut_full _ _ _ H00, hF, List.drop_eq_getElem_cons hlt, List.all_cons]
    obtain ⟨h1, h2⟩ := hs _ (List.getElem_mem hlt)
    simp only [body60_step l i hlt hlen _ (fun H => valid_W l[i] h1 h2 H)]
    cases hv : l[i].valid with
    | true =>
      simp only [if_true, Bool.true_and]
      exact ih (i + 1) _ (by omega) (by omega) rfl
    | false => simp only [Bool.false_eq_true, if_false, Bool.false_and]

theorem valid60_W (l : List Val) (hlen : l.length < 9223372036854775807) (hs : ∀ u ∈ l, u.fine ∧ u.brief = true) (H : Hp) : W 61 [.p (.sl (l.map enc))] H = some (.ret (.p (.bool (l.all Val.valid))), H) := by
  refine W61_of rfl (by simp) ?_
  have hloop := loop60_ok l hlen hs l.length 0 (fr60 l 0) rfl (Nat.zero_le _) rfl
  have h00 : ((0 : Nat) : Int) = 0 := rfl
  rw [List.drop_zero] at hloop
  simp only [lp61_0, code61, Tryz.f61, fr60, h00, H00] at hloop
  have key : E false ⟨0, 0⟩ 61 code61 (mkF 0 [.p (.sl (l.map enc))]) H00 = some (.ret, [(2, .p (.bool (l.all Val.valid)))], H00) := by
    cases hb : l.all Val.valid with
    | true => rw [hb] at hloop; simp only [if_true] at hloop; simp [code61, Tryz.f61, hloop]
    | false => rw [hb] at hloop; simp only [Bool.false_eq_true, if_false] at hloop; simp [code61, Tryz.f61, hloop]
  rw [key]
  simp [fnOut, retOut, resD, retsD, retD, oneD, D.noRefs, D.noRef, alone, Hp.cut]

/-! ### listed -/
def fr58 (l : List Val) (n : Int) (i : Nat) : Fr := [(0, .p (.sl (l.map enc))), (3, .p (.int .i64 n)), (4, .p (.int .i64 i))]
theorem body58_end (l : List Val) (n : Int) (i : Nat) (h : ¬ (i < l.length ∧ i < 12)) : E false ⟨0, 0⟩ 59 lp59_0 (fr58 l n i) H00 = some (.exit 0, fr58 l n i ++ [(12, .p (.bool false))], H00) := by
  by_cases h1 : i < l.length
  · have h2 : ¬ i < 12 := fun h2 => h ⟨h1, h2⟩
    have h3 : ¬ (i : Int) < 12 := by omega
    simp [fr58, lp59_0, code59, Tryz.f59, h1, h3]
  · simp [fr58, lp59_0, code59, Tryz.f59, h1]
theorem body58_step (l : List Val) (n : Int) (i : Nat) (hlt : i < l.length) (h12 : i < 12) (hn0 : 0 ≤ n) (hn : n ≤ 10000) (b : Bool) (hb : b = true → 0 ≤ l[i].nodes ∧ l[i].nodes ≤ 1000) (h15 : ∀ H, W 16 [.p (enc l[i])] H = some (.ret (.p (.bool b)), H))
    (h23 : b = true → ∀ H, W 24 [.p (enc l[i])] H = some (.ret (.p (.int .i64 l[i].nodes)), H)) :
    E false ⟨0, 0⟩ 59 lp59_0 (fr58 l n i) H00 = if b = true then some (.normal, fr58 l (n + l[i].nodes) (i + 1), H00) else some (.ret, [(2, .p (.bool false))], H00) := by
  have hw : IntKind.i64.wrap ((i : Int) + 1) = (i : Int) + 1 := wrap64 (by omega) (by omega)
  have h3 : (i : Int) < 12 := by omega
  cases b with
  | false => simp [fr58, lp59_0, code59, Tryz.f59, hlt, h3, h15]
  | true =>
    have h23 := h23 rfl
    have hb := hb rfl
    have hwn : IntKind.i64.wrap (n + l[i].nodes) = n + l[i].nodes := wrap64 (by omega) (by omega)
    simp [fr58, lp59_0, code59, Tryz.f59, hlt, h3, h15, h23, hw, hwn]

theorem small_nodes {v : Val} (h : v.small = true) : v.nodes ≤ 260 := ((small_iff v).1 h).1.1

theorem loop58_ok (l : List Val) : ∀ (m i : Nat) (n : Int) (F : Fr), m = 12 - i → i ≤ 12 → i ≤ l.length → 0 ≤ n → n ≤ 260 * i → norm [0, 3, 4] F = fr58 l n i →
    (((l.drop i).take (12 - i)).all Val.small = true ∧ ∃ j, loopO false ⟨0, 0⟩ 59 lp59_0 0 0 F H00 = some (.exit 0, fr58 l (n + nodesL ((l.drop i).take (12 - i))) j ++ [(12, .p (.bool false))], H00)) ∨
    (((l.drop i).take (12 - i)).all Val.small = false ∧ loopO false ⟨0, 0⟩ 59 lp59_0 0 0 F H00 = some (.ret, [(2, .p (.bool false))], H00)) := by
  intro m
  induction m with
  | zero =>
    intro i n F hm hi hil hn0 hn hF
    left
    rw [show 12 - i = 0 by omega, List.take_zero]
    refine ⟨rfl, i, ?_⟩
    rw [loopO_eq, hd59_0, show cutD ⟨0, 0⟩ [0, 3, 4] 0 0 F H00 = some (norm [0, 3, 4] F, H00) from cut_full _ _ _ H00, hF]
    simp only [body58_end l n i (by omega), nodesL, Int.add_zero]
  | succ m ih =>
    intro i n F hm hi hil hn0 hn hF
    rw [loopO_eq, hd59_0, show cutD ⟨0, 0⟩ [0, 3, 4] 0 0 F H00 = some (norm [0, 3, 4] F, H00) from cut_full _ _ _ H00, hF]
    by_cases hlt : i < l.length
    · rw [List.drop_eq_getElem_cons hlt, show 12 - i = (12 - (i + 1)) + 1 by omega, List.take_succ_cons, List.all_cons]
      simp only [body58_step l n i hlt (by omega) hn0 (by omega) l[i].small (fun h => ⟨by have := nodes_pos l[i]; omega, by have := small_nodes h; omega⟩) (fun H => small_W l[i] H) (fun h H => nodes_W l[i] (by have := small_nodes h; omega) H)]
      cases hb : l[i].small with
      | true =>
        simp only [if_true, Bool.true_and, nodesL]
        have h1 := nodes_pos l[i]
        have h2 := small_nodes hb
        rw [← Int.add_assoc]
        exact ih (i + 1) (n + l[i].nodes) (fr58 l (n + l[i].nodes) (i + 1)) (by omega) (by omega) (by omega) (by omega) (by omega) rfl
      | false => right; simp only [Bool.false_eq_true, if_false, Bool.false_and, and_self]
    · left
      rw [List.drop_of_length_le (by omega), List.take_nil]
      refine ⟨rfl, i, ?_⟩
      simp only [body58_end l n i (fun h => hlt h.1), nodesL, Int.add_zero]

def listedB (l : List Val) : Bool := decide (l.length ≤ 10) && l.all Val.small && decide (nodesL l ≤ 800)

theorem listed58_W (l : List Val) (hlen : l.length < 9223372036854775807) (H : Hp) : W 59 [.p (.sl (l.map enc))] H = some (.ret (.p (.bool (listedB l))), H) := by
  refine W59_of rfl (by simp) ?_
  have h00 : ((0 : Nat) : Int) = 0 := rfl
  have fin58 : E false ⟨0, 0⟩ 59 code59 (mkF 0 [.p (.sl (l.map enc))]) H00 = some (.ret, [(2, .p (.bool (listedB l)))], H00) →
      alone H (fnOut Tryz.prog [.tmp 2] 0 0 (E false ⟨0, 0⟩ 59 code59 (mkF 0 [.p (.sl (l.map enc))]) H00)) = some (.ret (.p (.bool (listedB l))), H) := fun h => by
    rw [h]
    simp [fnOut, retOut, resD, retsD, retD, oneD, D.noRefs, D.noRef, alone, Hp.cut]
  apply fin58
  rcases loop58_ok l 12 0 0 (fr58 l 0 0) rfl (by decide) (Nat.zero_le _) (Int.le_refl _) (by simp) rfl with ⟨ha, j, hloop⟩ | ⟨ha, hloop⟩
  · rw [List.drop_zero] at ha hloop
    rw [Int.zero_add] at hloop
    simp only [lp59_0, code59, Tryz.f59, fr58, h00, H00] at hloop
    by_cases h10 : l.length ≤ 10
    · have ht : l.take (12 - 0) = l := List.take_of_length_le (by omega)
      rw [ht] at ha hloop
      have e : listedB l = decide (nodesL l ≤ 800) := by simp [listedB, h10, ha]
      have h10' : (l.length : Int) ≤ 10 := by omega
      rw [e]
      simp [code59, Tryz.f59, hloop, h10']
    · have e : listedB l = false := by simp [listedB, h10]
      have h10' : ¬ (l.length : Int) ≤ 10 := by omega
      rw [e]
      simp [code59, Tryz.f59, hloop, h10']
  · rw [List.drop_zero] at ha
    have e : listedB l = false := by
      by_cases h10 : l.length ≤ 10
      · have ht : l.take (12 - 0) = l := List.take_of_length_le (by omega)
        rw [ht] at ha
        simp [listedB, ha]
      · simp [listedB, h10]
    simp only [lp59_0, code59, Tryz.f59, fr58, h00, H00] at hloop
    rw [e]
    simp [code59, Tryz.f59, hloop]
end Go.Vi
end

section
/- Vi: value.Set (f59). No conditions. -/
namespace Go.Vi
open Go Go.Lib Go.Proofs
set_option maxRecDepth 100000
attribute [local simp] E_skip E_ret E_exit E_text E_draw E_seq E_cond E_block E_scope E_loop runOps runOp runDraw runVF runV finV gate FlOK wantD exec fin opd look putF norm constD constC fieldAddrD loadD storeD opCall lenD binD isShift intP strP numD indexAddrD indexD D.pd? D.pds? cells_enc sub capsOf callD argsD argD D.nf enc_agg unP box_enc cellD mkF H00 st1 cD_agg cD_pagg cD_int cD_bool cD_str cD_sl cD_lit

theorem u107' : Tryz.prog.underlying 108 = some (.map 9 4) := by kernel_rfl
theorem u9' : Tryz.prog.underlying 9 = some .string := by kernel_rfl
theorem k9 (s : ByteArray) : keyOK Tryz.prog 9 (.str s) = true := by simp [keyOK, u9']

def keysOf (out : List Val) : List (PD × PD) := out.map fun v => (.str (kS v), .bool true)
def hasV (v : Val) (out : List Val) : Bool := out.any fun w => w.eqb v

theorem find_keys (v : Val) (hv : v.shaped = true) (nv : v.nodes ≤ 250) : ∀ (out : List Val) (i : Nat), (∀ w ∈ out, w.shaped = true ∧ w.nodes ≤ 250) →
    (hasV v out = true ∧ ∃ j, findM (.str (kS v)) (keysOf out) i = some (some (j, .bool true))) ∨ (hasV v out = false ∧ findM (.str (kS v)) (keysOf out) i = some none)
  | [], i, _ => .inr ⟨rfl, rfl⟩
  | w :: r, i, h => by
    obtain ⟨hw, nw⟩ := h w (by simp)
    have ih := find_keys v hv nv r (i + 1) fun x hx => h x (by simp [hx])
    have hs : sameK (.str (kS v)) (.str (kS w)) = some (w.eqb v) := by
      simp only [sameK, kS]
      congr 1
      rw [Bool.eq_iff_iff, beq_iff_eq, eqb_iff]
      exact ⟨fun e => (kB_inj hv hw nv nw e).symm, fun e => by rw [e]⟩
    have e1 : keysOf (w :: r) = (.str (kS w), .bool true) :: keysOf r := rfl
    rw [e1, findM, hs]
    have e2 : hasV v (w :: r) = (w.eqb v || hasV v r) := rfl
    rw [e2]
    cases he : w.eqb v with
    | true => exact .inl ⟨rfl, i, rfl⟩
    | false => simpa using ih

def ddp (out : List Val) : List Val → List Val
  | [] => out
  | v :: r => ddp (if hasV v out = true then out else out ++ [v]) r

def fr59 (l : List Val) (n i : Nat) : Fr := [(2, .ptr 0 0), (4, .mp 1), (5, .own 0 n), (14, .p (.sl (l.map enc))), (15, .p (.int .i64 l.length)), (16, .p (.int .i64 i))]
def B59 (out : List Val) : List Blk := [zeroB, .mset (keysOf out)]
theorem body59_end (l out : List Val) (B : List Blk) : E true ⟨0, 0⟩ 60 lp60_0 (fr59 l out.length l.length) ⟨B59 out ++ B, [rowK out]⟩ = some (.exit 0, fr59 l out.length l.length ++ [(17, .p (.bool false))], ⟨B59 out ++ B, [rowK out]⟩) := by
  simp [fr59, lp60_0, code60, Tryz.f60]

theorem body59_bad (l out : List Val) (i : Nat) (hlt : i < l.length) (hr : ∀ H, W 72 [.p (enc l[i])] H = some (.ret (.p (.bool false)), H)) :
    E true ⟨0, 0⟩ 60 lp60_0 (fr59 l out.length i) ⟨B59 out, [rowK out]⟩ = some (.ret, [(2, .ptr 0 0), (3, .p (.int .i64 2))], ⟨B59 out ++ [box25 l[i]], [rowK out]⟩) := by
  simp [fr59, B59, box25, zeroB, lp60_0, code60, Tryz.f60, hlt, hr, z25', build25, splice]

theorem body59_old (l out : List Val) (i j : Nat) (hlt : i < l.length) (hlen : l.length ≤ 1000000) (hr : ∀ H, W 72 [.p (enc l[i])] H = some (.ret (.p (.bool true)), H))
    (h92 : ∀ H, W 93 [.p (enc l[i])] H = some (.ret (.p (.sl (encU (pk l[i])))), H)) (hf : findM (.str (kS l[i])) (keysOf out) 0 = some (some (j, .bool true))) :
    E true ⟨0, 0⟩ 60 lp60_0 (fr59 l out.length i) ⟨B59 out, [rowK out]⟩ = some (.normal, fr59 l out.length (i + 1), ⟨B59 out ++ [box25 l[i]], [rowK out]⟩) := by
  have hw : IntKind.i64.wrap ((i : Int) + 1) = (i : Int) + 1 := wrap64 (by omega) (by omega)
  have hb := bytes_kB (pk l[i])
  simp only [kS, kB] at hf
  simp [fr59, B59, box25, zeroB, lp60_0, code60, Tryz.f60, hlt, hr, h92, z25', splice, convD, hb, lookupD, u107', mapOf, k9, z4', hf, hw]

theorem body59_new (l out : List Val) (i : Nat) (hlt : i < l.length) (hlen : l.length ≤ 1000000) (hout : out.length ≤ i) (hr : ∀ H, W 72 [.p (enc l[i])] H = some (.ret (.p (.bool true)), H))
    (h92 : ∀ H, W 93 [.p (enc l[i])] H = some (.ret (.p (.sl (encU (pk l[i])))), H)) (hf : findM (.str (kS l[i])) (keysOf out) 0 = some none) :
    E true ⟨0, 0⟩ 60 lp60_0 (fr59 l out.length i) ⟨B59 out, [rowK out]⟩ = some (.normal, fr59 l (out ++ [l[i]]).length (i + 1), ⟨B59 (out ++ [l[i]]) ++ [box25 l[i]], [rowK (out ++ [l[i]])]⟩) := by
  have hw : IntKind.i64.wrap ((i : Int) + 1) = (i : Int) + 1 := wrap64 (by omega) (by omega)
  have hb := bytes_kB (pk l[i])
  have hby : (out.length + 1) * 56 ≤ 140737488355328 := by omega
  have hk : keysOf (out ++ [l[i]]) = keysOf out ++ [(.str (kS l[i]), .bool true)] := by simp [keysOf]
  rw [show B59 (out ++ [l[i]]) = [zeroB, .mset (keysOf out ++ [(.str (kS l[i]), .bool true)])] from by rw [B59, hk]]
  simp only [kS, kB] at hf ⊢
  simp [fr59, B59, rowK, box25, zeroB, lp60_0, code60, Tryz.f60, hlt, hr, h92, z25', splice, convD, hb, lookupD, updD, putM, u107', mapOf, k9, z4', hf, hw, buildSliceD, elsD, one_int, one_str, one_sl, one_enc, len_enc, all_one, appendD, srcD, Hp.live, zok25, fits_enc, hby]
end Go.Vi
end

section
/- Vi: value.Set (f59), whole. No conditions. -/
namespace Go.Vi
open Go Go.Lib Go.Proofs
set_option maxRecDepth 100000
attribute [local simp] E_skip E_ret E_exit E_text E_draw E_seq E_cond E_block E_scope E_loop runOps runOp runDraw runVF runV finV gate FlOK wantD exec fin opd look putF norm constD constC fieldAddrD loadD storeD opCall lenD binD isShift intP strP numD indexAddrD indexD D.pd? D.pds? cells_enc sub capsOf callD argsD argD D.nf enc_agg unP box_enc cellD mkF H00 st1 cD_agg cD_pagg cD_int cD_bool cD_str cD_sl cD_lit

/-! ### Lists without a value twice -/
theorem hasV_mem {v : Val} {out : List Val} : hasV v out = true ↔ v ∈ out := by
  unfold hasV
  rw [List.any_eq_true]
  constructor
  · rintro ⟨w, h1, h2⟩
    rw [eqb_iff] at h2
    rw [← h2]; exact h1
  · intro h
    exact ⟨v, h, (eqb_iff v v).2 rfl⟩
theorem ddp_mem : ∀ (l out : List Val) (x : Val), x ∈ ddp out l ↔ x ∈ out ∨ x ∈ l
  | [], out, x => by simp [ddp]
  | v :: r, out, x => by
    rw [ddp, ddp_mem r]
    cases h : hasV v out with
    | true =>
      have hv := hasV_mem.1 h
      simp only [if_true, List.mem_cons]
      constructor
      · rintro (h | h)
        · exact .inl h
        · exact .inr (.inr h)
      · rintro (h | rfl | h)
        · exact .inl h
        · exact .inl hv
        · exact .inr h
    | false =>
      simp only [Bool.false_eq_true, if_false, List.mem_append, List.mem_cons, List.not_mem_nil, false_or, or_false, or_assoc]
theorem ddp_nodup : ∀ (l out : List Val), out.Nodup → (ddp out l).Nodup
  | [], out, h => h
  | v :: r, out, h => by
    rw [ddp]
    refine ddp_nodup r _ ?_
    cases hb : hasV v out with
    | true => exact h
    | false =>
      simp only [Bool.false_eq_true, if_false]
      have hv : v ∉ out := fun hv => by rw [hasV_mem.2 hv] at hb; cases hb
      rw [List.nodup_append]
      exact ⟨h, by simp, fun a ha b hb' e => by simp only [List.mem_singleton] at hb'; rw [hb'] at e; exact hv (e ▸ ha)⟩
theorem ddp_len : ∀ (l out : List Val), (ddp out l).length ≤ out.length + l.length
  | [], out => by simp [ddp]
  | v :: r, out => by
    rw [ddp]
    have := ddp_len r (if hasV v out = true then out else out ++ [v])
    split at this <;> rename_i h <;> simp only [h, if_true, Bool.false_eq_true, if_false] <;> simp at this ⊢ <;> omega
theorem ddp_nodes : ∀ (l out : List Val), nodesL (ddp out l) ≤ nodesL out + nodesL l
  | [], out => by simp [ddp, nodesL]
  | v :: r, out => by
    rw [ddp]
    have h1 := ddp_nodes r (if hasV v out = true then out else out ++ [v])
    have h2 := nodes_pos v
    have app : ∀ (a b : List Val), nodesL (a ++ b) = nodesL a + nodesL b := by
      intro a b
      induction a with
      | nil => simp [nodesL]
      | cons x a ih => simp only [List.cons_append, nodesL, ih]; omega
    split at h1 <;> rename_i h <;> simp only [h, if_true, Bool.false_eq_true, if_false, nodesL]
    · omega
    · rw [app] at h1
      simp only [nodesL] at h1
      omega
theorem perm_of : ∀ (a b : List Val), a.Nodup → b.Nodup → (∀ x, x ∈ a ↔ x ∈ b) → a.Perm b
  | [], b, _, _, h => by
    cases b with
    | nil => exact List.Perm.refl _
    | cons y b => exact absurd ((h y).2 (by simp)) (by simp)
  | x :: a, b, ha, hb, h => by
    obtain ⟨s, t, rfl⟩ := List.append_of_mem ((h x).1 (by simp))
    have hb' : (x :: (s ++ t)).Nodup := (List.perm_middle.nodup_iff).1 hb
    rw [List.nodup_cons] at ha hb'
    refine (List.Perm.cons x (perm_of a (s ++ t) ha.2 hb'.2 fun y => ?_)).trans List.perm_middle.symm
    have hy := h y
    simp only [List.mem_cons, List.mem_append] at hy ⊢
    constructor
    · intro h1
      rcases hy.1 (.inr h1) with h2 | rfl | h2
      · exact .inl h2
      · exact absurd h1 ha.1
      · exact .inr h2
    · intro h1
      have h2 : y = x ∨ y ∈ a := hy.2 (h1.elim .inl fun h => .inr (.inr h))
      rcases h2 with rfl | h2
      · exact absurd (by simpa using h1) hb'.1
      · exact h2
theorem up_nodup {l : List Val} (hs : Shp l) (h : Up l) : l.Nodup := by
  refine List.Pairwise.imp_of_mem (fun {x y} hx hy h => ?_) h
  intro e
  rw [e, cmp_self (hs y hy)] at h
  omega
theorem nodesL_perm {a b : List Val} (h : a.Perm b) : nodesL a = nodesL b := by
  induction h with
  | nil => rfl
  | cons x _ ih => simp only [nodesL, ih]
  | swap x y l => simp only [nodesL]; omega
  | trans _ _ h1 h2 => rw [h1, h2]

/-- The values sorted, each once. -/
theorem set_perm {l : List Val} (hs : Shp l) : (foldW [] l).Perm (ddp [] l) ∧ Up (foldW [] l) ∧ Shp (foldW [] l) := by
  obtain ⟨h1, h2, h3⟩ := foldW_up l [] (fun _ h => by cases h) hs List.Pairwise.nil
  exact ⟨perm_of _ _ (up_nodup h2 h1) (ddp_nodup l [] List.nodup_nil) (fun x => by rw [h3 x, ddp_mem]), h1, h2⟩

/-! ### The loop -/
theorem cut59 (l out : List Val) (i : Nat) (F : Fr) (B : List Blk) (hF : norm [2, 4, 5, 14, 15, 16] F = fr59 l out.length i) : cutD ⟨0, 0⟩ [2, 4, 5, 14, 15, 16] 2 1 F ⟨B59 out ++ B, [rowK out]⟩ = some (fr59 l out.length i, ⟨B59 out, [rowK out]⟩) := by
  simp only [cutD, hF]
  simp [fr59, B59, zeroB, frNo, blkNo, D.noRef, D.noRefs, Hp.cut]

theorem loop59_ok (l : List Val) (hlen : l.length ≤ 200) : ∀ (m i : Nat) (out : List Val) (F : Fr) (B : List Blk), m = l.length - i → i ≤ l.length → out.length ≤ i → (∀ w ∈ out, w.shaped = true ∧ w.nodes ≤ 250) → norm [2, 4, 5, 14, 15, 16] F = fr59 l out.length i →
    ((l.drop i).all Val.valid = true ∧ loopO true ⟨0, 0⟩ 60 lp60_0 2 1 F ⟨B59 out ++ B, [rowK out]⟩ = some (.exit 0, fr59 l (ddp out (l.drop i)).length l.length ++ [(17, .p (.bool false))], ⟨B59 (ddp out (l.drop i)), [rowK (ddp out (l.drop i))]⟩)) ∨
    ((l.drop i).all Val.valid = false ∧ ∃ out' u, loopO true ⟨0, 0⟩ 60 lp60_0 2 1 F ⟨B59 out ++ B, [rowK out]⟩ = some (.ret, [(2, .ptr 0 0), (3, .p (.int .i64 2))], ⟨B59 out' ++ [box25 u], [rowK out']⟩)) := by
  intro m
  induction m with
  | zero =>
    intro i out F B hm hi ho hout hF
    have hie : i = l.length := by omega
    subst hie
    left
    rw [List.drop_length]
    refine ⟨rfl, ?_⟩
    rw [loopO_eq, hd60_0, cut59 l out _ F B hF]
    have := body59_end l out []
    rw [List.append_nil] at this
    simp only [this, ddp]
  | succ m ih =>
    intro i out F B hm hi ho hout hF
    have hlt : i < l.length := by omega
    rw [loopO_eq, hd60_0, cut59 l out _ F B hF, List.drop_eq_getElem_cons hlt, List.all_cons, ddp]
    have h71 := fun H => valid71_W l[i] H
    cases hv : l[i].valid with
    | false =>
      rw [hv] at h71
      right
      simp only [Bool.false_and, true_and, body59_bad l out i hlt h71]
      exact ⟨_, _, rfl⟩
    | true =>
      rw [hv] at h71
      have hsv := valid_shaped hv
      have hnv : l[i].nodes ≤ 250 := by have := ((valid_iff _).1 hv).1.1; omega
      have h92 := fun H => packed_W l[i] hsv hnv H
      simp only [Bool.true_and]
      rcases find_keys l[i] hsv hnv out 0 hout with ⟨h1, j, h2⟩ | ⟨h1, h2⟩
      · simp only [body59_old l out i j hlt (by omega) h71 h92 h2, h1, if_true]
        exact ih (i + 1) out _ [box25 l[i]] (by omega) (by omega) (by omega) hout rfl
      · simp only [body59_new l out i hlt (by omega) ho h71 h92 h2, h1, Bool.false_eq_true, if_false]
        exact ih (i + 1) (out ++ [l[i]]) _ [box25 l[i]] (by omega) (by omega) (by simp; omega) (fun w hw => by
          rcases List.mem_append.1 hw with h | h
          · exact hout w h
          · simp only [List.mem_singleton] at h; rw [h]; exact ⟨hsv, hnv⟩) rfl

def Set59 (l : List Val) : List D := if (decide (l.length ≤ 200) && l.all Val.valid) = true then Made (foldW [] l) else [.p (enc Val.zero), .p (.int .i64 2)]

theorem valids_nodes : ∀ (l : List Val), (∀ v ∈ l, v.valid = true) → nodesL l ≤ 200 * l.length
  | [], _ => by simp [nodesL]
  | v :: r, h => by
    have h1 := valids_nodes r fun u hu => h u (by simp [hu])
    have h2 := ((valid_iff v).1 (h v (by simp))).1.1
    simp only [nodesL, List.length_cons]
    omega

theorem set59_W (l : List Val) (hlen : l.length < 9223372036854775807) (H : Hp) : W 60 [.p (.sl (l.map enc))] H = some (.ret (.tup (Set59 l)), H) := by
  refine W60_of rfl (by simp) ?_
  have h00 : ((0 : Nat) : Int) = 0 := rfl
  unfold Set59
  by_cases h200 : l.length ≤ 200
  · have hgt : ¬ (200 : Int) < l.length := by omega
    rcases loop59_ok l h200 l.length 0 [] (fr59 l 0 0) [] rfl (Nat.zero_le _) (Nat.le_refl _) (by simp) rfl with ⟨ha, hloop⟩ | ⟨ha, out', u, hloop⟩
    · rw [List.drop_zero] at ha hloop
      have hvm : ∀ v ∈ l, v.valid = true := List.all_eq_true.1 ha
      have hsh : Shp l := fun v hv => valid_shaped (hvm v hv)
      obtain ⟨hp, hup, hss⟩ := set_perm hsh
      have hdm : ∀ v ∈ ddp [] l, v ∈ l := fun v hv => by simpa using (ddp_mem l [] v).1 hv
      have hdl := ddp_len l []
      have hdn := ddp_nodes l []
      have hln := valids_nodes l hvm
      simp only [List.length_nil, nodesL] at hdl hdn
      have h103 := fun B nil => sort103_W (ddp [] l) (foldW [] l) (by omega) (fun u hu => (valid_fine (hvm u (hdm u hu))).1) (fun u hu => hsh u (hdm u hu)) hp hup B (ddp [] l).length 25 nil
      have h86 := fun H => made_W (foldW [] l) (by rw [nodesL_perm hp]; omega) H
      rw [ha, decide_eq_true h200]
      simp only [Bool.and_self, if_true]
      rw [made_two] at h86 ⊢
      generalize foldW [] l = srt at *
      generalize ddp [] l = out at *
      simp only [lp60_0, code60, Tryz.f60, fr59, B59, zeroB, rowK, keysOf, h00, List.append_nil, List.length_nil, List.map_nil, decide_true] at hloop
      have key : ∃ B A, E true ⟨0, 0⟩ 60 code60 (mkF 0 [.p (.sl (l.map enc))]) H00 = some (.ret, [(2, .ptr 0 0), (3, .p (.int .i64 (mdE srt)))], ⟨box25 (mdV srt) :: B, A⟩) :=
        ⟨_, _, by simp [code60, Tryz.f60, hgt, box25, zeroB, newRow, z25', hloop, h103, h86, splice, Hp.live]; exact ⟨rfl, rfl⟩⟩
      obtain ⟨B, A, key⟩ := key
      rw [key]
      simp [fnOut, retOut, resD, retsD, retD, oneD, D.noRefs, D.noRef, alone, Hp.cut, box25]
    · rw [List.drop_zero] at ha
      rw [ha, Bool.and_false]
      simp only [lp60_0, code60, Tryz.f60, fr59, B59, zeroB, rowK, keysOf, h00, List.append_nil, List.length_nil, List.map_nil, decide_true] at hloop
      have key : ∃ B A, E true ⟨0, 0⟩ 60 code60 (mkF 0 [.p (.sl (l.map enc))]) H00 = some (.ret, [(2, .ptr 0 0), (3, .p (.int .i64 2))], ⟨zeroB :: B, A⟩) :=
        ⟨_, _, by simp [code60, Tryz.f60, hgt, box25, zeroB, newRow, z25', hloop, splice, Hp.live]; exact ⟨rfl, rfl⟩⟩
      obtain ⟨B, A, key⟩ := key
      rw [key, enc_zero]
      simp [fnOut, retOut, resD, retsD, retD, oneD, D.noRefs, D.noRef, alone, Hp.cut, zeroB]
  · have hgt : (200 : Int) < l.length := by omega
    rw [decide_eq_false h200, Bool.false_and]
    have key : E true ⟨0, 0⟩ 60 code60 (mkF 0 [.p (.sl (l.map enc))]) H00 = some (.ret, [(2, .ptr 0 0), (3, .p (.int .i64 2))], ⟨[zeroB], []⟩) := by
      simp [code60, Tryz.f60, hgt, zeroB, z25', build25, splice]
    rw [key, enc_zero]
    simp [fnOut, retOut, resD, retsD, retD, oneD, D.noRefs, D.noRef, alone, Hp.cut, zeroB]
end Go.Vi
end
