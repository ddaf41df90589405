/- It is proved here that the evaluator of the program's functions agrees with the model's run; no condition. This part: the operations, the second half. -/
import Derived.Test.YtjkpdlloccnilaaGreatDoorMB
import Derived.Great.BuildSlice
import Derived.Laws.StructEq
import Derived.ChangeKeysEq
set_option linter.unusedVariables false
set_option linter.unusedSimpArgs false

section
/- Vi, part 10: append, told of the state. No conditions. -/
namespace Go.Vi
open Go Go.Lib

/-- A row's first cells. -/
def Content (w : World) (I : Nat → Nat → Prop) (sz : Nat) (els : List PD) (L : List Value) : Prop :=
  ∀ (j c : Nat) (e x : PD), els[j]? = some e → e.cells[c]? = some x → ∃ v, L[j * sz + c]? = some v ∧ RepP w I x v

theorem Content.same {w w' : World} {I I' : Nat → Nat → Prop} (hs : Same w I w' I') {sz : Nat} {els : List PD} {L : List Value} (h : Content w I sz els L) : Content w' I' sz els L :=
  fun j c e x he hx => let ⟨v, hv, hr⟩ := h j c e x he hx; ⟨v, hv, hr.same hs⟩

theorem Content.append {w : World} {I : Nat → Nat → Prop} {sz : Nat} {els ys : List PD} {L M : List Value} (hl : L.length = els.length * sz) (hsz : ∀ e ∈ els, e.cells.length = sz)
    (h : Content w I sz els L) (k : Content w I sz ys M) : Content w I sz (els ++ ys) (L ++ M) := by
  intro j c e x he hx
  rcases Nat.lt_or_ge j els.length with hj | hj
  · rw [List.getElem?_append_left hj] at he
    obtain ⟨v, hv, hr⟩ := h j c e x he hx
    have := (at_lt hsz he hx).2
    exact ⟨v, by rw [List.getElem?_append_left (by omega)]; exact hv, hr⟩
  · rw [List.getElem?_append_right hj] at he
    obtain ⟨v, hv, hr⟩ := k _ c e x he hx
    have e1 : j * sz + c = L.length + ((j - els.length) * sz + c) := by
      rw [hl, ← Nat.add_assoc, ← Nat.add_mul]
      congr 2
      omega
    exact ⟨v, by rw [e1, List.getElem?_append_right (by omega), Nat.add_sub_cancel_left]; exact hv, hr⟩

theorem Content.agree {w : World} {I : Nat → Nat → Prop} {sz : Nat} {els : List PD} {L M : List Value} (hsz : ∀ e ∈ els, e.cells.length = sz) (h : Content w I sz els L)
    (ha : ∀ k, k < els.length * sz → M[k]? = L[k]?) : Content w I sz els M := fun j c e x he hx =>
  let ⟨v, hv, hr⟩ := h j c e x he hx; ⟨v, (ha _ (at_lt hsz he hx).2).trans hv, hr⟩

def addI (I : Nat → Nat → Prop) (fz : Bool) (b n : Nat) : Nat → Nat → Prop := fun k o => I k o ∨ (fz = true ∧ k = b ∧ o < n)

theorem zOK_size {P : Program} {e : TypeId} {n : Nat} (h : zOK P e n = true) : ∃ i z, P.info? e = some i ∧ i.zero = some z ∧ zeroOf P e = some z ∧ z.cells.size = n := by
  unfold zOK at h
  split at h
  · rename_i z hz
    have hz' := hz
    simp only [zeroOf, Option.bind_eq_some_iff] at hz
    obtain ⟨i, hi, hzi⟩ := hz
    exact ⟨i, z, hi, hzi, hz', by simpa using h⟩
  · cases h

theorem append_sound {P : Program} {w : World} {g : Gh} {H : Hp} (hi : Inv w g H) {mu : Bool} {t u ty : TypeId} {du : TypeDesc} (hu : P.underlying u = some du) (hdu : ∀ k, du ≠ .int k)
    {s x : D} {sv xv : Value} (hs : RepD w g H.A s sv) (hx : RepD w g H.A x xv) {r : Nx} (h : appendD P mu H t s x = some r) (sm : Sem Next)
    (hrun : ∀ v w', (Builtin.append_ #[t, u] ty #[sv, xv]).run P w = .ok v w' → sm.run P w = .ok (.value v) w') : Good P w g H.A sm r := by
  unfold appendD at h
  split at h
  · cases h
  rename_i e he
  have ht : P.underlying t = some (.slice e) := by
    unfold elemOf at he
    split at he
    · rename_i e' he'; injection he with he; rw [← he]; exact he'
    · cases he
  split at h
  rotate_left
  · cases h
  rename_i sz by_ ys hsz hby hys
  split at h
  rotate_left
  · cases h
  rename_i hc
  obtain ⟨hfit, hby0, hsz0, hzok⟩ := hc
  obtain ⟨i, z, hinfo, hz, _, hzs⟩ := zOK_size hzok
  obtain rfl : i.size = sz := by simpa [szOf, hinfo] using hsz
  obtain rfl : i.bytes = by_ := by simpa [byOf, hinfo] using hby
  obtain ⟨news, hsrc⟩ := src_sound (P := P) hi hsz0 hx hys hfit
  have hyc : Content w g.I i.size ys news := hsrc.rep
  have hysz : ∀ e ∈ ys, e.cells.length = i.size := fun e he => (fits_spec hfit e he).1
  -- the arm that grows
  have grown : ∀ (base : Option Addr) (n cap : Nat) (els : List PD) (olds : List Value), n = els.length → olds.length = n * i.size → (∀ e ∈ els, e.cells.length = i.size) → Content w g.I i.size els olds →
      (∀ w' : World, w'.heap = w.heap → (Builtin.firstCells i.size n (.slice base n cap)).run P w' = .ok olds.toArray w') → cap < n + ys.length → (n + ys.length) * i.bytes ≤ 140737488355328 →
      ∃ (c : Nat) (w' : World), (Builtin.append_ #[t, u] ty #[.slice base n cap, xv]).run P w = .ok (.slice (some ⟨w.heap.size, 0, none⟩) (n + ys.length) c) w' ∧ Grows w w' ∧
        w.heap.size < w'.heap.size ∧
        ∀ (fz : Bool) (ver : Nat) (B : List (Option Nat)) (A : List (Option (Nat × Nat))) (I' : Nat → Nat → Prop), Same w g.I w' I' → (fz = true → ∀ o, o < (els ++ ys).length * i.size → I' w.heap.size o) →
          ArrRep w' ⟨B, A, I'⟩ ⟨ver, e, i.size, false, fz, els ++ ys⟩ (some (w.heap.size, c)) := by
    intro base n cap els olds hn hlo hel hco hold hgr hb
    have hr := append_grow (P := P) (w := w) (ty := ty) ht hinfo hu hdu hz hold hsrc hgr hb hby0
    have hle : n + ys.length ≤ (n + ys.length) * i.bytes := Nat.le_mul_of_pos_right _ hby0
    have hge := grownCap_ge w (n + ys.length) cap e
    have hmx := grownCap_le_maxLen w (n + ys.length) cap e (by simp only [maxLen]; omega)
    refine ⟨_, _, hr, ⟨fun b hb => ?_, by simp, rfl, rfl, ⟨rfl, Nat.le_succ _⟩⟩, by simp, fun fz ver B A I' hsame hI' => ⟨rfl, by simpa [maxLen] using hmx, _, heap_alloc_new w.drew _, ?_, ?_, ?_, ?_, ?_⟩⟩
    · exact heap_alloc_old w.drew _ hb
    · simp only [Array.size_append, List.size_toArray, size_zeroCells, hzs, hlo, hsrc.len, ← Nat.add_mul]
      congr 1
      omega
    · simp only [List.length_append]
      omega
    · intro e' he'
      rcases List.mem_append.1 he' with h1 | h1
      · exact hel e' h1
      · exact hysz e' h1
    · have hc := ((hco.append (by rw [hlo, hn]) hel hyc).same hsame).agree (M := olds ++ news ++ (Builtin.zeroCells z.cells (grownCap w (n + ys.length) cap e - (n + ys.length))).toList)
        (fun e' he' => by
          rcases List.mem_append.1 he' with h1 | h1
          · exact hel e' h1
          · exact hysz e' h1) (fun k hk => by
          rw [List.getElem?_append_left (by simp only [List.length_append] at hk ⊢; rw [hlo, hsrc.len, hn, ← Nat.add_mul]; exact hk)])
      intro j c e' x' he' hx'
      obtain ⟨v, hv, hr'⟩ := hc j c e' x' he' hx'
      refine ⟨v, ?_, hr'⟩
      rw [← hv, ← Array.getElem?_toList]
      simp
    · intro hf j c e' x' he' hx'
      have := (at_lt (l := els ++ ys) (sz := i.size) (fun e' he' => by
          rcases List.mem_append.1 he' with h1 | h1
          · exact hel e' h1
          · exact hysz e' h1) he' hx').2
      exact hI' hf _ this
  split at h
  · rename_i nil l
    split at h
    · rename_i hemp
      have hy0 : ys = [] := by simpa using hemp
      subst hy0
      injection h with h
      subst h
      have hsl : ∃ (a : Option Addr) (n : Nat), sv = .slice a n n := by
        cases hs with
        | litN => exact ⟨none, 0, rfl⟩
        | lit l b o _ => exact ⟨_, _, rfl⟩
      obtain ⟨a, n, rfl⟩ := hsl
      have hd : (match du with | .int _ => true | _ => false) = false := by cases du <;> first | rfl | exact absurd rfl (hdu _)
      have h1 := hsrc.lenOf w
      have h2 := hsrc.first w rfl
      have h3 : news = [] := by simpa using hsrc.len
      subst h3
      simp only [List.length_nil] at h1 h2
      refine good_val hi (hrun _ _ ?_) hs
      cases a <;> simp [Builtin.append_, run_underlying ht, run_underlying hu, sizeOf, typeInfo, hinfo, hd, h1, h2, storeCells]
    · rename_i hemp
      split at h
      rotate_left
      · cases h
      rename_i hc2
      injection h with h
      subst h
      have hy0 : 0 < ys.length := by
        cases ys with
        | nil => simp at hemp
        | cons => simp
      obtain ⟨olds, hso⟩ := src_sound (P := P) hi hsz0 hs (ys := l) rfl hc2.1
      have hsl : ∃ (a : Option Addr), sv = .slice a l.length l.length := by
        cases hs with
        | litN => exact ⟨none, rfl⟩
        | lit l b o _ => exact ⟨_, rfl⟩
      obtain ⟨a, rfl⟩ := hsl
      obtain ⟨c, w', hr, hgw, hlt, hrep⟩ := grown a l.length l.length l olds rfl hso.len (fun e he => (fits_spec hc2.1 e he).1) hso.rep hso.first (by omega) hc2.2
      have key := hi.newA hgw (ar := ⟨0, e, i.size, false, !mu, l ++ ys⟩) (q := some (w.heap.size, c)) (addI g.I (!mu) w.heap.size ((l ++ ys).length * i.size)) (fun b o h => .inl h)
        (fun b o h => h.imp id fun ⟨h1, h2, h3⟩ => ⟨⟨c, by rw [h2]⟩, h1, h3⟩) (fun b cap hq => by
          simp only [Option.some.injEq, Prod.mk.injEq] at hq
          omega) hsz0 (fun hsame => hrep (!mu) 0 _ _ _ hsame fun hf o ho => .inr ⟨hf, rfl, ho⟩)
      refine ⟨_, w', _, hrun _ _ hr, .own _ _ _ (by simp) ⟨_, _, _, rfl⟩ fun ar har => ?_, key.1, key.2⟩
      simp only [List.getElem?_append_right (Nat.le_refl _), Nat.sub_self, List.getElem?_cons_zero, Option.some.injEq] at har
      subst har
      refine ⟨Nat.le_refl _, fun _ => ⟨some (w.heap.size, c), ?_, by simp [ownV]⟩⟩
      have := hi.lenA
      simp [← this]
  · rename_i l
    split at h
    · rename_i hemp
      have hy0 : ys = [] := by simpa using hemp
      subst hy0
      injection h with h
      subst h
      have hsl : ∃ (a : Option Addr) (n : Nat), sv = .slice a n n := by
        cases hs with
        | clip l a _ => exact ⟨_, _, rfl⟩
      obtain ⟨a, n, rfl⟩ := hsl
      have hd : (match du with | .int _ => true | _ => false) = false := by cases du <;> first | rfl | exact absurd rfl (hdu _)
      have h1 := hsrc.lenOf w
      have h2 := hsrc.first w rfl
      have h3 : news = [] := by simpa using hsrc.len
      subst h3
      simp only [List.length_nil] at h1 h2
      refine good_val hi (hrun _ _ ?_) hs
      cases a <;> simp [Builtin.append_, run_underlying ht, run_underlying hu, sizeOf, typeInfo, hinfo, hd, h1, h2, storeCells]
    · rename_i hemp
      split at h
      rotate_left
      · cases h
      rename_i hc2
      injection h with h
      subst h
      have hy0 : 0 < ys.length := by
        cases ys with
        | nil => simp at hemp
        | cons => simp
      obtain ⟨olds, hso⟩ := src_sound (P := P) hi hsz0 hs (ys := l) rfl hc2.1
      have hsl : ∃ (a : Option Addr), sv = .slice a l.length l.length := by
        cases hs with
        | clip l a _ => exact ⟨_, rfl⟩
      obtain ⟨a, rfl⟩ := hsl
      obtain ⟨c, w', hr, hgw, hlt, hrep⟩ := grown a l.length l.length l olds rfl hso.len (fun e he => (fits_spec hc2.1 e he).1) hso.rep hso.first (by omega) hc2.2
      have key := hi.newA hgw (ar := ⟨0, e, i.size, false, !mu, l ++ ys⟩) (q := some (w.heap.size, c)) (addI g.I (!mu) w.heap.size ((l ++ ys).length * i.size)) (fun b o h => .inl h)
        (fun b o h => h.imp id fun ⟨h1, h2, h3⟩ => ⟨⟨c, by rw [h2]⟩, h1, h3⟩) (fun b cap hq => by
          simp only [Option.some.injEq, Prod.mk.injEq] at hq
          omega) hsz0 (fun hsame => hrep (!mu) 0 _ _ _ hsame fun hf o ho => .inr ⟨hf, rfl, ho⟩)
      refine ⟨_, w', _, hrun _ _ hr, .own _ _ _ (by simp) ⟨_, _, _, rfl⟩ fun ar har => ?_, key.1, key.2⟩
      simp only [List.getElem?_append_right (Nat.le_refl _), Nat.sub_self, List.getElem?_cons_zero, Option.some.injEq] at har
      subst har
      refine ⟨Nat.le_refl _, fun _ => ⟨some (w.heap.size, c), ?_, by simp [ownV]⟩⟩
      have := hi.lenA
      simp [← this]
  · rename_i i' ver
    split at h
    rotate_left
    · cases h
    rename_i ar hl
    split at h
    rotate_left
    · cases h
    rename_i hc2
    injection h with h
    subst h
    obtain ⟨hc1, hc3, hc4⟩ := hc2
    obtain ⟨har, hver, q, hq, rfl, _, hA⟩ := own_live hi hs hl
    have finish : ∀ (q' : Option (Nat × Nat)) (w' : World) (g' : Gh) (v : Value), (Builtin.append_ #[t, u] ty #[ownV q ar.els.length, xv]).run P w = .ok v w' → v = ownV q' (ar.els ++ ys).length →
        g'.A = g.A.set i' q' → Inv w' g' { H with A := H.A.set i' ⟨ver + 1, e, i.size, ar.nil && ys.isEmpty, ar.fz, ar.els ++ ys⟩ } →
        Ext w g H.A w' g' (H.A.set i' ⟨ver + 1, e, i.size, ar.nil && ys.isEmpty, ar.fz, ar.els ++ ys⟩) →
        Good P w g H.A sm (.val (.own i' (ver + 1)) { H with A := H.A.set i' ⟨ver + 1, e, i.size, ar.nil && ys.isEmpty, ar.fz, ar.els ++ ys⟩ }) := by
      intro q' w' g' v hr hv hgA hinv hext
      have hlt : i' < H.A.length := (List.getElem?_eq_some_iff.1 har).1
      refine ⟨v, w', g', hrun _ _ hr, .own _ _ _ (by simp [hlt]) (by rw [hv]; cases q' with | none => exact ⟨_, _, _, rfl⟩ | some p => exact ⟨_, _, _, rfl⟩) fun ar2 har2 => ?_, hinv, hext⟩
      simp only [List.getElem?_set_self hlt, Option.some.injEq] at har2
      subst har2
      exact ⟨Nat.le_refl _, fun _ => ⟨q', by rw [hgA]; exact List.getElem?_set_self (by have := hi.lenA; omega), hv⟩⟩
    cases q with
    | none =>
      obtain ⟨hels, hnil⟩ := hA
      cases hy : ys with
      | nil =>
        subst hy
        have hr := append_none (P := P) (w := w) (ty := ty) ht hinfo hu hdu hsrc rfl
        have key := hi.setA (w' := w) (ar' := ⟨ver + 1, e, i.size, ar.nil && true, ar.fz, ar.els ++ []⟩) (q' := none) har hq g.I (fun _ _ h => h) (fun _ _ h => .inl h) (fun _ _ _ => rfl) (Nat.le_refl _) rfl rfl (.same rfl rfl)
          (fun b o cap h _ => by cases h) (fun b cap h => by cases h) (by simp only; omega) (fun h => by simp only at h; omega) hc1.symm (fun h => ⟨h, by simp⟩) (fun _ => ⟨by simp [hels], by simp [hnil]⟩)
        exact finish none w _ _ (by simpa [ownV, hels] using hr) (by simp [ownV]) rfl key.1 key.2
      | cons y ys' =>
        rw [← hy]
        have hy0 : 0 < ys.length := by rw [hy]; simp
        obtain ⟨c, w', hr, hgw, hlt, hrep⟩ := grown none 0 0 [] [] rfl (by simp) (by simp) (fun j c e x h => by simp at h) (fun w' _ => by simp [Builtin.firstCells]) (by omega) (by simpa [hels] using hc4)
        have hemp : ys.isEmpty = false := by rw [hy]; rfl
        have key := hi.setA (w' := w') (ar' := ⟨ver + 1, e, i.size, ar.nil && ys.isEmpty, ar.fz, ar.els ++ ys⟩) (q' := some (w.heap.size, c)) har hq
          (addI g.I ar.fz w.heap.size ((ar.els ++ ys).length * i.size)) (fun b o h => .inl h)
          (fun b o h => h.imp id fun ⟨h1, h2, h3⟩ => ⟨⟨c, by rw [h2]⟩, h1, h3⟩) (fun k hk _ => hgw.heap k hk) hgw.size hgw.os hgw.tape hgw.output (fun b o cap h _ => by cases h)
          (fun b cap h => .inr (by simp only [Option.some.injEq, Prod.mk.injEq] at h; omega)) (by simp only; omega) (fun h => by simp only at h; omega) hc1.symm (fun h => ⟨h, by simp⟩)
          (fun hsame => by
            have := hrep ar.fz (ver + 1) g.B (g.A.set i' (some (w.heap.size, c))) _ hsame fun hf o ho => .inr ⟨hf, rfl, by simpa [hels] using ho⟩
            simpa [hels, hemp] using this)
        exact finish _ w' _ _ (by simpa [ownV, hels] using hr) (by simp [ownV, hels]) rfl key.1 key.2
    | some q =>
      obtain ⟨b, cap⟩ := q
      obtain ⟨hnil, hcap, cs, hcs, hcsz, hle, hel, hcell, hfz⟩ := hA
      rw [hc3] at hcs
      rw [hc1] at hcsz hel
      have hco : Content w g.I i.size ar.els (cs.toList.take (ar.els.length * i.size)) := fun j c e' x' he' hx' => by
        obtain ⟨v, hv, hr⟩ := hcell j c e' x' he' hx'
        rw [hc1] at hv
        exact ⟨v, by rw [List.getElem?_take, if_pos (at_lt hel he' hx').2]; simpa using hv, hr⟩
      have hmul : ar.els.length * i.size ≤ cap * i.size := Nat.mul_le_mul_right _ hle
      have hol : (cs.toList.take (ar.els.length * i.size)).length = ar.els.length * i.size := by simp; omega
      have hall : ∀ e' ∈ ar.els ++ ys, e'.cells.length = i.size := fun e' he' => by
        rcases List.mem_append.1 he' with h1 | h1
        · exact hel e' h1
        · exact hysz e' h1
      by_cases hroom : ar.els.length + ys.length ≤ cap
      · have hfit2 : ar.els.length * i.size + news.length ≤ cs.size := by
          rw [hcsz, hsrc.len, ← Nat.add_mul]; exact Nat.mul_le_mul_right _ hroom
        have hr := append_room (P := P) (w := w) (ty := ty) ht hinfo hu hdu hsrc hcs hroom hfit2
        obtain ⟨e1, e2, e3, e4⟩ := setRow_same w b (splice cs.toList (ar.els.length * i.size) news).toArray
        have hfit3 : ar.els.length * i.size + news.length ≤ cs.toList.length := by simpa using hfit2
        have hnew := setRow_heap w b cs (splice cs.toList (ar.els.length * i.size) news).toArray e (0, 0) hcs
        have key := hi.setA (w' := w.setRow b (splice cs.toList (ar.els.length * i.size) news).toArray) (ar' := ⟨ver + 1, e, i.size, ar.nil && ys.isEmpty, ar.fz, ar.els ++ ys⟩) (q' := some (b, cap)) har hq
          (addI g.I ar.fz b ((ar.els ++ ys).length * i.size)) (fun b o h => .inl h) (fun b' o h => h.imp id fun ⟨h1, h2, h3⟩ => ⟨⟨cap, by rw [h2]⟩, h1, h3⟩)
          (fun k hk hne => setRow_other w b k _ fun e => hne cap (by rw [e])) (by omega) e2 e3 e4
          (fun b' o cap' hq' hI => by
            simp only [Option.some.injEq, Prod.mk.injEq] at hq'
            obtain ⟨rfl, rfl⟩ := hq'
            have h1 := (hi.iA b o hI i' cap ar hq har).2
            rw [hc1] at h1
            rw [cell_of_block hnew, cell_of_block hcs, List.getElem?_toArray, splice_get _ _ _ hfit3, if_pos h1]
            simp)
          (fun b' cap' h => .inl ⟨cap', h⟩) (by simp only; omega) (fun h => by simp only at h; omega) hc1.symm (fun h => ⟨h, by simp⟩)
          (fun hsame => ⟨by simp [hnil], hcap, _, hnew, by simp [splice_length _ _ _ hfit3, hcsz], by simpa using hroom, hall, ?_, fun hf j c e' x' he' hx' => .inr ⟨hf, rfl, (at_lt hall he' hx').2⟩⟩)
        · exact finish (some (b, cap)) _ _ _ (by simpa [ownV] using hr) (by simp [ownV]) rfl key.1 key.2
        · have hcA := ((hco.append hol hel hyc).same hsame).agree (M := splice cs.toList (ar.els.length * i.size) news) hall fun k hk => by
            rw [splice_get _ _ _ hfit3]
            split
            · rename_i hk2
              rw [List.getElem?_append_left (by omega), List.getElem?_take, if_pos hk2]
            · rename_i hk2
              rw [List.getElem?_append_right (by omega), hol, if_pos (by rw [hsrc.len, ← Nat.add_mul]; simpa using hk)]
          intro j c e' x' he' hx'
          obtain ⟨v, hv, hr'⟩ := hcA j c e' x' he' hx'
          exact ⟨v, by simpa using hv, hr'⟩
      · have hold : ∀ w' : World, w'.heap = w.heap → (Builtin.firstCells i.size ar.els.length (.slice (some ⟨b, 0, none⟩) ar.els.length cap)).run P w' = .ok (cs.toList.take (ar.els.length * i.size)).toArray w' :=
          fun w' hw => run_firstCells_some (P := P) w' i.size ar.els.length ⟨b, 0, none⟩ ar.els.length cap _ hol fun j v hj => by
            rw [Addr.add_lit, Nat.zero_add]
            have hjlt : j < ar.els.length * i.size := by rw [← hol]; exact (List.getElem?_eq_some_iff.1 hj).1
            rw [List.getElem?_take, if_pos hjlt] at hj
            have : w.cell? ⟨b, j, none⟩ = some v := by rw [cell_of_block hcs]; simpa using hj
            simpa [World.cell?, hw] using this
        obtain ⟨c, w', hr, hgw, hlt, hrep⟩ := grown (some ⟨b, 0, none⟩) ar.els.length cap ar.els _ rfl hol hel hco hold (by omega) hc4
        have hblt : b < w.heap.size := hi.lt b (mem_ownedA hq)
        have hemp : ys.isEmpty = false := by
          cases ys with
          | nil => simp at hroom; omega
          | cons => rfl
        have key := hi.setA (w' := w') (ar' := ⟨ver + 1, e, i.size, ar.nil && ys.isEmpty, ar.fz, ar.els ++ ys⟩) (q' := some (w.heap.size, c)) har hq
          (addI g.I ar.fz w.heap.size ((ar.els ++ ys).length * i.size)) (fun b o h => .inl h)
          (fun b o h => h.imp id fun ⟨h1, h2, h3⟩ => ⟨⟨c, by rw [h2]⟩, h1, h3⟩) (fun k hk _ => hgw.heap k hk) hgw.size hgw.os hgw.tape hgw.output
          (fun b' o cap' hq' _ => by
            simp only [Option.some.injEq, Prod.mk.injEq] at hq'
            obtain ⟨rfl, _⟩ := hq'
            simp only [World.cell?, hgw.heap b hblt])
          (fun b cap h => .inr (by simp only [Option.some.injEq, Prod.mk.injEq] at h; omega)) (by simp only; omega) (fun h => by simp only at h; omega) hc1.symm (fun h => ⟨h, by simp⟩)
          (fun hsame => by
            have := hrep ar.fz (ver + 1) g.B (g.A.set i' (some (w.heap.size, c))) _ hsame fun hf o ho => .inr ⟨hf, rfl, ho⟩
            simpa [hemp] using this)
        exact finish _ w' _ _ (by simpa [ownV] using hr) (by simp [ownV]) rfl key.1 key.2
  · cases h
end Go.Vi
end

section
/- Vi, part 11: values that are built, conversions, cuts, iterators, arguments. No conditions. -/
namespace Go.Vi
open Go Go.Lib

theorem fill_one (vs : List Value) : ∀ (k off : Nat) (cells : Array Value), off + k + vs.length ≤ cells.size →
    (vs.zipIdx k).foldl (fun cs x => cs.setIfInBounds (off + x.2) x.1) cells = (splice cells.toList (off + k) vs).toArray := by
  induction vs with
  | nil => intro k off cells h; simp [splice]
  | cons v r ih =>
    intro k off cells h
    simp only [List.length_cons] at h
    rw [List.zipIdx_cons, List.foldl_cons, ih (k + 1) off _ (by simp; omega)]
    congr 1
    apply List.ext_getElem?
    intro j
    rw [splice_get _ _ _ (by simp; omega), splice_get _ _ _ (by simp; omega)]
    simp only [Array.toList_setIfInBounds, List.length_cons]
    by_cases h1 : j < off + k
    · rw [if_pos (by omega), if_pos h1, List.getElem?_set_ne (by omega)]
    · rw [if_neg h1]
      by_cases h2 : j = off + k
      · subst h2
        rw [if_pos (by omega), if_pos (by omega), List.getElem?_set_self (by simp; omega)]
        simp
      · rw [if_neg (by omega)]
        by_cases h3 : j < off + k + (r.length + 1)
        · rw [if_pos (by omega), if_pos h3, show j - (off + k) = (j - (off + (k + 1))) + 1 from by omega, List.getElem?_cons_succ]
        · rw [if_neg (by omega), if_neg h3, List.getElem?_set_ne (by omega)]

def PW (w : World) (g : Gh) (A : List Arr) (l : List D) (cs : List Value) : Prop :=
  cs.length = l.length ∧ ∀ (j : Nat) (d : D) (v : Value), l[j]? = some d → cs[j]? = some v → RepD w g A d v

theorem PW.splice {w : World} {g : Gh} {A : List Arr} {l m : List D} {cs us : List Value} {off : Nat} (h : PW w g A l cs) (k : PW w g A m us) (hl : off + m.length ≤ l.length) :
    PW w g A (splice l off m) (splice cs off us) := by
  have h1 := h.1
  have h2 := k.1
  refine ⟨by rw [splice_length _ _ _ hl, splice_length _ _ _ (by omega), h1], fun j d v hd hv => ?_⟩
  rw [splice_get _ _ _ hl] at hd
  rw [splice_get _ _ _ (by omega), h2] at hv
  split at hd
  · rename_i hj; rw [if_pos hj] at hv; exact h.2 j d v hd hv
  · rename_i hj
    rw [if_neg hj] at hv
    split at hd
    · rename_i hj2; rw [if_pos hj2] at hv; exact k.2 _ d v hd hv
    · rename_i hj2; rw [if_neg hj2] at hv; exact h.2 j d v hd hv

theorem cellsD_of_len {w : World} {g : Gh} {A : List Arr} {d : D} {v : Value} (h : RepD w g A d v) (hc : (cellsD d).all cellD = true) : PW w g A (cellsD d) v.cells.toList := by
  obtain ⟨h1, h2⟩ := cellsD_sound h hc
  exact ⟨by simpa using h1, fun j x u hx hu => h2 j x u hx (by simpa using hu)⟩

theorem build_go {w : World} {g : Gh} {F : Fr} {H : Hp} {a : Act} {N : Fm} (hs : Sim w g F H a N) (place : Nat → Option (Nat × Nat)) : ∀ (parts : List (Nat × Operand)) (cs : List D) (us : Array Value) (r : D),
    PW w g H.A cs us.toList → buildD.go F cs place parts = some r →
    ∃ out : Array Value, Instr.fill place us (parts.map fun (i, x) => (i, a.eval x)) = some out ∧ RepD w g H.A r (.agg out) := by
  intro parts
  induction parts with
  | nil =>
    intro cs us r hp h
    simp only [buildD.go] at h
    split at h
    · injection h with h
      subst h
      exact ⟨us, rfl, .agg _ _ (by simpa using hp.1) fun i x v hx hv => hp.2 i x v hx (by simpa using hv)⟩
    · cases h
  | cons p r ih =>
    obtain ⟨i, x⟩ := p
    intro cs us out hp h
    simp only [buildD.go] at h
    split at h
    · rename_i off n hpl
      split at h
      · rename_i hc
        have hall : (cellsD (opd F x)).all cellD = true := hc.2.2
        have hv := cellsD_of_len (opd_sound hs x) hall
        have h1 : (a.eval x).cells.size = n := by have := hv.1; have := hc.2.1; simp at *; omega
        have hsz : us.size = cs.length := by have := hp.1; simpa using this
        obtain ⟨o, ho, hr⟩ := ih (splice cs off (cellsD (opd F x))) (splice us.toList off (a.eval x).cells.toList).toArray out (hp.splice hv (by have := hc.2.1; omega)) h
        refine ⟨o, ?_, hr⟩
        have := fill_one (a.eval x).cells.toList 0 off us (by simp; omega)
        simp only [List.map_cons, Instr.fill, hpl]
        rw [if_neg (by simp; omega)]
        rw [← ho]
        congr 1
        simp only [Nat.add_zero] at this
        rw [← this, ← Array.foldl_toList]
        simp [Array.toList_zipIdx]
      · cases h
    · cases h

theorem build_sound {P : Program} {w : World} {g : Gh} {F : Fr} {H : Hp} {a : Act} {N : Fm} (hs : Sim w g F H a N) {t : TypeId} {parts : Array (Nat × Operand)} {r : D}
    (h : buildD P F t parts.toList = some r) : ∃ v, (Instr.build t (parts.map fun (i, x) => (i, a.eval x))).run P w = .ok v w ∧ RepD w g H.A r v := by
  unfold buildD at h
  split at h
  · rename_i z hz
    have hcz := constD_sound w g H.A z
    have start : ∀ place, buildD.go F (cellsD (constD z)) place parts.toList = some r → (cellsD (constD z)).all cellD = true := by
      intro place
      have : ∀ (parts : List (Nat × Operand)) (cs : List D), buildD.go F cs place parts = some r → cs.all cellD = true := by
        intro parts
        induction parts with
        | nil => intro cs h; simp only [buildD.go] at h; split at h; assumption; cases h
        | cons p q ih =>
          intro cs h
          simp only [buildD.go] at h
          split at h
          · split at h
            · rename_i hc; exact hc.1
            · cases h
          · cases h
      exact this _ _
    split at h
    · rename_i ps hps
      unfold placesOf at hps
      split at hps
      · rename_i fs hfs
        have hp := cellsD_of_len hcz (start _ h)
        obtain ⟨out, ho, hr⟩ := build_go hs _ _ _ z.cells _ hp h
        refine ⟨_, ?_, hr⟩
        have hrp := run_places (P := P) w fs.toList ps hps
        simp [Instr.build, run_zeroOf hz, run_underlying hfs, Array.mapM_eq_mapM_toList, hrp, ho]
      · cases hps
    · split at h
      · rename_i len e hu
        split at h
        · rename_i sz hsz
          have hp := cellsD_of_len hcz (start _ h)
          obtain ⟨out, ho, hr⟩ := build_go hs _ _ _ z.cells _ hp h
          refine ⟨_, ?_, hr⟩
          simp [Instr.build, run_zeroOf hz, run_underlying hu, run_szOf hsz, ho]
        · cases h
      · cases h
  · cases h
end Go.Vi
end

section
/- Vi, part 12: slice literals, conversions, cuts, lengths, arguments of calls. No conditions. -/
namespace Go.Vi
open Go Go.Lib

theorem repP_cells {w : World} {I : Nat → Nat → Prop} {x : PD} {v : Value} (h : RepP w I x v) :
    v.cells.size = x.cells.length ∧ ∀ (c : Nat) (y : PD) (u : Value), x.cells[c]? = some y → v.cells[c]? = some u → RepP w I y u := by
  have single : x.cells = [x] → v.cells = #[v] → v.cells.size = x.cells.length ∧ ∀ (c : Nat) (y : PD) (u : Value), x.cells[c]? = some y → v.cells[c]? = some u → RepP w I y u := by
    intro e1 e2
    rw [e1, e2]
    refine ⟨rfl, fun c y u hy hu => ?_⟩
    cases c with
    | zero => simp at hy hu; subst hy; subst hu; exact h
    | succ c => simp at hy
  cases h with
  | agg l cs hs h => exact ⟨hs, h⟩
  | _ => exact single rfl rfl

theorem fill_els {w : World} {g : Gh} {F : Fr} {H : Hp} {a : Act} {N : Fm} (hs : Sim w g F H a N) (ag : Bool) {sz : Nat} : ∀ (parts : List (Nat × Operand)) (k : Nat) (l : List PD) (us : Array Value),
    elsD H.A F ag sz k parts = some l → (k + l.length) * sz ≤ us.size →
    (∀ e ∈ l, e.cells.length = sz) ∧ ∃ out : Array Value, Instr.fill (fun i => some (i * sz, sz)) us (parts.map fun (i, x) => (i, a.eval x)) = some out ∧ out.size = us.size ∧
      (∀ j, j < k * sz → out[j]? = us[j]?) ∧
      ∀ (j c : Nat) (e x : PD), l[j]? = some e → e.cells[c]? = some x → ∃ v, out[(k + j) * sz + c]? = some v ∧ RepP w g.I x v := by
  intro parts
  induction parts with
  | nil =>
    intro k l us h hl
    simp only [elsD, Option.some.injEq] at h
    subst h
    exact ⟨by simp, us, rfl, rfl, fun _ _ => rfl, fun j c e x h => by simp at h⟩
  | cons p r ih =>
    obtain ⟨i, x⟩ := p
    intro k l us h hl
    simp only [elsD] at h
    split at h
    · rename_i hik
      subst hik
      split at h
      · rename_i v vs hv hvs
        split at h
        · rename_i hc
          injection h with h
          subst h
          simp only [List.length_cons] at hl
          have hrep := pd_sound hs.inv _ _ _ (opd_sound hs x) hv
          obtain ⟨h1, h2⟩ := repP_cells hrep
          rw [hc.1] at h1
          have hmul : (i + (vs.length + 1)) * sz = i * sz + sz + vs.length * sz := by rw [Nat.add_mul, Nat.add_mul]; omega
          have hone := fill_one (a.eval x).cells.toList 0 (i * sz) us (by simp; omega)
          obtain ⟨hel, out, ho, hos, hlow, hhi⟩ := ih (i + 1) vs (splice us.toList (i * sz) (a.eval x).cells.toList).toArray hvs (by
            simp only [List.size_toArray]
            rw [splice_length _ _ _ (by simp; omega)]
            have : (i + 1 + vs.length) * sz = i * sz + sz + vs.length * sz := by rw [Nat.add_mul, Nat.add_mul]; omega
            simp; omega)
          refine ⟨fun e he => ?_, out, ?_, ?_, fun j hj => ?_, fun j c e y he hy => ?_⟩
          · rcases List.mem_cons.1 he with rfl | he
            · exact hc.1
            · exact hel e he
          · simp only [List.map_cons, Instr.fill]
            rw [if_neg (by simp; omega)]
            rw [← ho]
            congr 1
            simp only [Nat.add_zero] at hone
            rw [← hone, ← Array.foldl_toList]
            simp [Array.toList_zipIdx]
          · rw [hos]
            simp only [List.size_toArray]
            rw [splice_length _ _ _ (by simp; omega)]
            simp
          · rw [hlow j (by rw [Nat.add_mul]; omega), List.getElem?_toArray, splice_get _ _ _ (by simp; omega), if_pos hj]
            simp
          · cases j with
            | zero =>
              simp at he
              subst he
              have hclt : c < sz := by rw [← hc.1]; exact (List.getElem?_eq_some_iff.1 hy).1
              have hc2 : c < (a.eval x).cells.size := by omega
              refine ⟨(a.eval x).cells[c], ?_, h2 c y _ hy (by simp [hc2])⟩
              rw [hlow _ (by have e9 : (i + 1) * sz = i * sz + sz := by rw [Nat.add_mul, Nat.one_mul]
                             simp only [Nat.add_zero]; omega), List.getElem?_toArray, splice_get _ _ _ (by simp; omega), if_neg (by simp), if_pos (by simp; omega)]
              simp [hc2]
            | succ j =>
              obtain ⟨u, hu, hr⟩ := hhi j c e y (by simpa using he) hy
              exact ⟨u, by rw [← hu]; congr 3; omega, hr⟩
        · cases h
      · cases h
    · cases h

theorem buildSlice_sound {P : Program} {w : World} {g : Gh} {F : Fr} {H : Hp} {a : Act} {N : Fm} (hs : Sim w g F H a N) {t : TypeId} {len : Nat} {parts : Array (Nat × Operand)} {r : D}
    (h : buildSliceD P F H t len parts.toList = some r) :
    ∃ v w' g', (Instr.buildSlice t len (parts.map fun (i, x) => (i, a.eval x))).run P w = .ok v w' ∧ RepD w' g' H.A r v ∧ Inv w' g' H ∧ Ext w g H.A w' g' H.A := by
  unfold buildSliceD at h
  split at h
  · rename_i e he
    have ht : P.underlying t = some (.slice e) := by
      unfold elemOf at he
      split at he
      · rename_i e' he'; injection he with he; rw [← he]; exact he'
      · cases he
    split at h
    · rename_i sz ag z hsz hag hz
      split at h
      · rename_i l hl
        split at h
        · rename_i hc
          injection h with h
          subst h
          obtain ⟨hc1, hc2, hc3⟩ := hc
          have size0 : ∀ zs : Array Value, ((Array.range (len * sz)).map (zs[· % zs.size]!)).size = len * sz := by simp
          obtain ⟨zs, hzs⟩ : ∃ zs : Array Value, zs = (if len * sz = 0 then #[] else z.cells) := ⟨_, rfl⟩
          obtain ⟨hel, out, ho, hos, _, hcont⟩ := fill_els hs ag parts.toList 0 l ((Array.range (len * sz)).map (zs[· % zs.size]!)) hl (by rw [size0, hc1]; simp)
          rw [size0] at hos
          have hrun : (Instr.buildSlice t len (parts.map fun (i, x) => (i, a.eval x))).run P w = .ok (.slice (some ⟨w.heap.size, 0, none⟩) len len) (w.alloc (.cells out e)) := by
            obtain ⟨ps, hps⟩ : ∃ ps : Array (Nat × Value), ps = parts.map fun (i, x) => (i, a.eval x) := ⟨_, rfl⟩
            have hpl : ps.toList = parts.toList.map fun (i, x) => (i, a.eval x) := by rw [hps]; simp
            rw [← hps]
            rw [← hpl] at ho
            obtain ⟨ie, hie, rfl⟩ := szOf_info hsz
            obtain ⟨ie', hie', hz'⟩ : ∃ i, P.info? e = some i ∧ i.zero = some z := by simpa [zeroOf, Option.bind_eq_some_iff] using hz
            obtain rfl : ie = ie' := by rw [hie] at hie'; injection hie'
            by_cases h0 : len * ie.size = 0
            · have hlen : len = 0 := by rcases Nat.mul_eq_zero.1 h0 with h | h <;> omega
              have hl0 : l = [] := List.eq_nil_of_length_eq_zero (by omega)
              have hp0 : parts.toList = [] := by
                cases hp : parts.toList with
                | nil => rfl
                | cons p r =>
                  rw [hp] at hl
                  simp only [elsD] at hl
                  split at hl
                  · split at hl
                    · split at hl
                      · injection hl with hl; rw [hl0] at hl; cases hl
                      · cases hl
                    · cases hl
                  · cases hl
              have hps0 : ps.toList = [] := by rw [hpl, hp0]; rfl
              rw [hps0] at ho
              simp only [Instr.fill, Option.some.injEq] at ho
              subst hlen
              have ho' : out = #[] := Array.eq_empty_of_size_eq_zero (by omega)
              subst ho'
              simp [Instr.buildSlice, run_underlying ht, run_szOf hsz, hps0, Instr.fill, Go.newRow, World.alloc_eq]
              exact congrArg (fun c => w.alloc (.cells c e)) (Array.eq_empty_of_size_eq_zero (by simp))
            · rw [if_neg h0] at hzs
              rw [hzs] at ho
              exact run_buildSlice w t e len ps out ie z ht hie hz' (by omega) h0 ho
          have key := hs.inv.grow (grows_alloc w (.cells out e)) (addI g.I true w.heap.size (len * sz)) (fun b o h => .inl h) (fun b o h => h.imp id fun ⟨_, h2, _⟩ => by
            rw [alloc_heap, Array.size_push]; omega)
          refine ⟨_, _, _, hrun, ?_, key.1, key.2⟩
          have hrow : RowAt (w.alloc (.cells out e)) (addI g.I true w.heap.size (len * sz)) l w.heap.size 0 sz := fun j c e' x he' hx => by
            obtain ⟨v, hv, hr⟩ := hcont j c e' x he' hx
            rw [Nat.zero_add] at hv ⊢
            refine ⟨.inr ⟨rfl, rfl, by rw [← hc1]; exact (at_lt hel he' hx).2⟩, v, ?_, hr.same key.2.same⟩
            rw [cell_of_block (heap_alloc_new w _)]
            exact hv
          have := RepD.lit (g := ⟨g.B, g.A, addI g.I true w.heap.size (len * sz)⟩) (A := H.A) l w.heap.size 0 (RepP.sl_of (Nat.le_refl _) hel hrow)
          rwa [hc1] at this
        · cases h
      · cases h
    · cases h
  · cases h

theorem bytes_spec : ∀ (l : List PD) (bs : List UInt8), bytesP l = some bs → ∃ ns : List Int, l = ns.map (PD.int .u8) ∧ bs = ns.map fun n => UInt8.ofNat n.toNat
  | [], bs, h => by simp only [bytesP, Option.some.injEq] at h; subst h; exact ⟨[], rfl, rfl⟩
  | x :: r, bs, h => by
    cases x with
    | int k n =>
      cases k <;> simp only [bytesP, reduceCtorEq, Option.map_eq_some_iff] at h
      obtain ⟨cs, hc, rfl⟩ := h
      obtain ⟨ns, rfl, rfl⟩ := bytes_spec r cs hc
      exact ⟨n :: ns, rfl, rfl⟩
    | _ => simp [bytesP] at h

theorem foldl_push (ns : List Int) : ∀ s : ByteArray, ns.foldl (fun r n => r.push (UInt8.ofNat n.toNat)) s = ⟨s.data ++ (ns.map fun n => UInt8.ofNat n.toNat).toArray⟩ := by
  induction ns with
  | nil => intro s; cases s; simp
  | cons n r ih =>
    intro s
    rw [List.foldl_cons, ih]
    cases s
    simp [ByteArray.push]

theorem conv_sound {P : Program} {w : World} {I : Nat → Nat → Prop} {src dst : TypeId} {x : PD} {v : Value} {r : D} (hx : RepP w I x v) (h : convD P src dst (some x) = some r) :
    ∃ u, (convert src dst v).run P w = .ok u w ∧ ∀ (g : Gh) (A : List Arr), RepD w g A r u := by
  cases hx with
  | int k n =>
    simp only [convD] at h
    split at h
    · rename_i hs hd
      injection h with h
      subst h
      exact ⟨_, by simp [convert, run_underlying hs, run_underlying hd, Conv.intToInt], fun _ _ => .p _ _ (.int _ _)⟩
    · cases h
  | str s =>
    simp only [convD] at h
    split at h
    · rename_i hs hd
      injection h with h
      subst h
      exact ⟨_, by simp [convert, run_underlying hs, run_underlying hd], fun _ _ => .p _ _ (.str _)⟩
    · cases h
  | nil a cap =>
    simp only [convD] at h
    split at h
    · rename_i e hs hd
      split at h
      · rename_i he
        simp only [bytesP, Option.map_some, Option.some.injEq] at h
        subst h
        refine ⟨.string ⟨#[]⟩, ?_, fun _ _ => .p _ _ (.str _)⟩
        rw [run_convert_bytes_string w src dst e a 0 cap hs he hd]
        cases a with
        | none => rfl
        | some a => exact run_bytesToString w a 0 cap [] (by simp [loadCells, loadCellsFrom])
      · cases h
    · cases h
  | sl l b o cap sz f hl hsz hI hc hr =>
    simp only [convD] at h
    split at h
    · rename_i e hs hd
      split at h
      · rename_i he
        simp only [Option.map_eq_some_iff] at h
        obtain ⟨bs, hb, rfl⟩ := h
        obtain ⟨ns, rfl, rfl⟩ := bytes_spec l bs hb
        refine ⟨_, ?_, fun _ _ => .p _ _ (.str _)⟩
        rw [run_convert_bytes_string w src dst e _ _ cap hs he hd]
        have hlen : (ns.map (PD.int IntKind.u8)).length = (ns.map (Value.int IntKind.u8)).length := by simp
        rw [hlen]
        have hcells : (loadCells ⟨b, o, none⟩ (ns.map (Value.int .u8)).length).run P w = .ok (ns.map (Value.int .u8)).toArray w := by
          refine run_loadCells_list (P := P) (w := w) ⟨b, o, none⟩ _ fun j v hj => ?_
          simp only [List.getElem?_map, Option.map_eq_some_iff] at hj
          obtain ⟨n, hn, rfl⟩ := hj
          have h1 : (ns.map (PD.int IntKind.u8))[j]? = some (.int .u8 n) := by simp [hn]
          have h2 : (PD.int IntKind.u8 n).cells[0]? = some (.int .u8 n) := rfl
          have hs1 : sz = 1 := (hsz _ (List.mem_of_getElem? h1)).symm
          subst hs1
          have h3 := hc j 0 _ _ h1 h2
          have h4 := hr j 0 _ _ h1 h2
          rw [Addr.add_lit]
          simp only [Nat.mul_one, Nat.add_zero] at h3
          rw [h3]
          generalize f j 0 = u at h4 ⊢
          cases h4
          rfl
        rw [run_bytesToString w _ _ cap ns hcells, foldl_push]
        simp [ByteArray.empty, ByteArray.emptyWithCapacity]
        rfl
      · cases h
    · cases h
  | _ => simp [convD] at h
end Go.Vi
end

section
/- Vi, part 13: cuts, arguments, calls; every operation. No conditions. -/
namespace Go.Vi
open Go Go.Lib

section
variable {P : Program} {w : World} {g : Gh} {F : Fr} {H : Hp} {a : Act} {N : Fm}

theorem bound_sound (hs : Sim w g F H a N) {x : Option Operand} {dflt i : Int} (h : boundD F x dflt = some i) :
    (x = none ∧ i = dflt) ∨ ∃ o k, x = some o ∧ a.eval o = .int k i := by
  cases x with
  | none => simp only [boundD, Option.some.injEq] at h; exact .inl ⟨rfl, h.symm⟩
  | some o =>
    simp only [boundD] at h
    obtain ⟨k, hk⟩ := num_sound (opd_sound hs o) h
    exact .inr ⟨o, k, rfl, hk⟩

theorem run_bounds (hs : Sim w g F H a N) (isSlice : Bool) {len cap : Nat} (hlc : len ≤ cap) {lo hi : Option Operand} {i h : Int} (hl : boundD F lo 0 = some i) (hh : boundD F hi len = some h)
    (h0 : 0 ≤ i) (h1 : i ≤ h) (h2 : h ≤ len) :
    (Instr.sliceBounds isSlice len cap (lo.map a.eval) (hi.map a.eval) none).run P w = .ok (i.toNat, h.toNat, cap) w := by
  have e1 : (0 ≤ h ∧ h ≤ (cap : Int)) := by omega
  have e2 : (0 ≤ i ∧ i ≤ ((h.toNat : Nat) : Int)) := by omega
  rcases bound_sound hs hl with ⟨rfl, rfl⟩ | ⟨o, k, rfl, ho⟩ <;> rcases bound_sound hs hh with ⟨rfl, rfl⟩ | ⟨o', k', rfl, ho'⟩
  · simp [Instr.sliceBounds]
  · simp [Instr.sliceBounds, Instr.sliceBound, asIntOf, ho', e1]
  · simp only [Int.toNat_natCast] at e2 ⊢
    simp [Instr.sliceBounds, Instr.sliceBound, asIntOf, ho, e2]
  · simp [Instr.sliceBounds, Instr.sliceBound, asIntOf, ho, ho', e1, e2]
    intro h3
    omega

theorem _root_.Go.Vi.RepP.sl_cap {w : World} {I : Nat → Nat → Prop} {l : List PD} {a : Option Addr} {n cap : Nat} (h : RepP w I (.sl l) (.slice a n cap)) : l.length ≤ cap := by
  cases h with
  | nil => simp
  | sl _ _ _ _ _ _ hl => exact hl

theorem slice_sound (hs : Sim w g F H a N) {t : TypeId} {x : Operand} {lo hi : Option Operand} {r : D} (h : sliceD P H F t x lo hi = some r) :
    ∃ u, (Instr.sliceAt t (a.eval x) (lo.map a.eval) (hi.map a.eval) none).run P w = .ok u w ∧ RepD w g H.A r u := by
  unfold sliceD at h
  split at h
  · rename_i hu
    split at h
    · rename_i s hx
      have hv := opd_sound hs x
      rw [hx] at hv
      generalize hxe : a.eval x = v at hv ⊢
      cases hv with
      | p _ _ hv =>
        cases hv
        split at h
        · rename_i i j hl hh
          split at h
          · rename_i hc
            injection h with h
            subst h
            have := run_bounds (P := P) hs false (Nat.le_refl s.size) hl hh hc.1 hc.2.1 hc.2.2
            exact ⟨_, by simp [Instr.sliceAt, Instr.slice, run_underlying hu, this], .p _ _ (.str _)⟩
          · cases h
        · cases h
    · cases h
  · rename_i e hu
    split at h
    · rename_i sz l hsz hx
      have hv := pd_sound hs.inv _ _ _ (opd_sound hs x) hx
      generalize hxe : a.eval x = v at hv ⊢
      obtain ⟨ad, cap, rfl, hne⟩ := hv.sl_inv
      split at h
      · rename_i i j hl hh
        split at h
        · rename_i hc
          injection h with h
          subst h
          obtain ⟨hf, h0, h1, h2⟩ := hc
          have hlen : ((l.take j.toNat).drop i.toNat).length = j.toNat - i.toNat := by simp; omega
          by_cases hem : j = i
          · subst hem
            have hnil : (l.take j.toNat).drop j.toNat = [] := List.eq_nil_of_length_eq_zero (by omega)
            rw [hnil]
            have hle : l.length ≤ cap := hv.sl_cap
            have hb := run_bounds (P := P) hs true hle hl hh h0 h1 h2
            exact ⟨.slice (if cap = j.toNat then ad else ad.map (·.add (j.toNat * sz))) 0 (cap - j.toNat), by simp [Instr.sliceAt, Instr.slice, run_underlying hu, hb, run_szOf hsz], .p _ _ (.nil _ _)⟩
          · have hlne : l ≠ [] := fun e => by simp [e] at h2; omega
            obtain ⟨b, o, sz', rfl, hle, hel, hrow⟩ := hne hlne
            obtain ⟨y, hy⟩ := List.exists_mem_of_ne_nil l hlne
            have e1 : sz' = sz := by rw [← hel y hy]; exact (fits_spec hf y hy).1
            subst e1
            have hb := run_bounds (P := P) hs true hle hl hh h0 h1 h2
            have hnc : ¬ cap = i.toNat := by omega
            refine ⟨.slice (some ⟨b, o + i.toNat * sz', none⟩) (j.toNat - i.toNat) (cap - i.toNat), by simp [Instr.sliceAt, Instr.slice, run_underlying hu, hb, run_szOf hsz, hnc, Addr.add_lit], .p _ _ ?_⟩
            rw [← hlen]
            refine RepP.sl_of (by omega) (fun e' he' => hel e' (List.mem_of_mem_take (List.mem_of_mem_drop he'))) fun k c e' x' he' hx' => ?_
            rw [List.getElem?_drop] at he'
            have hlt : i.toNat + k < j.toNat := by
              have := (List.getElem?_eq_some_iff.1 he').1
              simp at this
              omega
            rw [List.getElem?_take, if_pos hlt] at he'
            have := hrow _ c e' x' he' hx'
            rw [Nat.add_mul] at this
            rw [show o + i.toNat * sz' + (k * sz' + c) = o + (i.toNat * sz' + k * sz' + c) from by omega]
            exact this
        · cases h
      · cases h
    · cases h
  · rename_i n e hu
    split at h
    · rename_i i off hx
      split at h
      · rename_i sz l j hsz hl hh
        split at h
        · rename_i hc
          obtain ⟨rfl, h1, h2⟩ := hc
          injection h with h
          subst h
          have hv := opd_sound hs x
          rw [hx] at hv
          generalize hxe : a.eval x = v at hv ⊢
          cases hv with
          | ptr _ _ b hg =>
            have hb := run_bounds (P := P) hs false (Nat.le_refl n) hl hh (by omega) h1 h2
            have e0 : (⟨b, off, none⟩ : Addr).add (0 * sz) = ⟨b, off, none⟩ := by simp [Addr.add_lit]
            refine ⟨.slice (some ⟨b, off, none⟩) j.toNat n, ?_, .bsl _ _ _ _ b hg⟩
            simp [Instr.sliceAt, Instr.sureAddr, run_underlying hu, hb, run_szOf hsz, Addr.add_lit]
        · cases h
      · cases h
    · cases h
  · cases h

theorem clip_sound (hs : Sim w g F H a N) {t : TypeId} {x : Operand} {lo hi mx : Option Operand} {r : D} (h : clipD P H F t x lo hi mx = some r) :
    ∃ u, (Instr.sliceAt t (a.eval x) (lo.map a.eval) (hi.map a.eval) (mx.map a.eval)).run P w = .ok u w ∧ RepD w g H.A r u := by
  unfold clipD at h
  split at h
  case h_2 => cases h
  rename_i e oh om hu
  split at h
  case h_2 => cases h
  rename_i sz l n k hsz hx hn hk
  split at h
  case isFalse => cases h
  rename_i hc
  obtain ⟨rfl, h0, h1⟩ := hc
  injection h with h
  subst h
  have hv := pd_sound hs.inv _ _ _ (opd_sound hs x) hx
  obtain ⟨ki, eh⟩ := num_sound (opd_sound hs oh) hn
  obtain ⟨kj, em⟩ := num_sound (opd_sound hs om) hk
  generalize hxe : a.eval x = v at hv ⊢
  obtain ⟨ad, cap, rfl, hne⟩ := hv.sl_inv
  have hle : l.length ≤ cap := hv.sl_cap
  have e1 : (0 ≤ n ∧ n ≤ (cap : Int)) := by omega
  have e2 : (0 ≤ n ∧ n ≤ ((n.toNat : Nat) : Int)) := by omega
  have hb : (Instr.sliceBounds true l.length cap none (some (.int ki n)) (some (.int kj n))).run P w = .ok (0, n.toNat, n.toNat) w := by
    simp [Instr.sliceBounds, Instr.sliceBound, asIntOf, e1, e2]
    intro h3
    omega
  have hlen : (l.take n.toNat).length = n.toNat := by simp; omega
  by_cases hem : n.toNat = 0
  · have hnil : l.take n.toNat = [] := List.eq_nil_of_length_eq_zero (by omega)
    rw [hnil]
    refine ⟨.slice ad 0 0, ?_, .clip [] ad (.nil _ _)⟩
    simp only [Option.map_none, Option.map_some, eh, em]
    simp [Instr.sliceAt, Instr.slice, run_underlying hu, hb, run_szOf hsz, hem]
  · have hlne : l ≠ [] := fun e => by simp [e] at h1; omega
    obtain ⟨b, o, sz', rfl, _, hel, hrow⟩ := hne hlne
    have key : RepP w g.I (.sl (l.take n.toNat)) (.slice (some ⟨b, o, none⟩) (l.take n.toNat).length (l.take n.toNat).length) := by
      refine RepP.sl_of (Nat.le_refl _) (fun e' he' => hel e' (List.mem_of_mem_take he')) fun j c e' x' he' hx' => ?_
      rw [List.getElem?_take] at he'
      split at he'
      · exact hrow _ c e' x' he' hx'
      · cases he'
    refine ⟨.slice (some ⟨b, o, none⟩) n.toNat n.toNat, ?_, ?_⟩
    · simp only [Option.map_none, Option.map_some, eh, em]
      simp [Instr.sliceAt, Instr.slice, run_underlying hu, hb, run_szOf hsz, Addr.add_lit]
    · have := RepD.clip (g := g) (A := H.A) _ _ key
      rw [hlen] at this
      exact this

theorem len_str {d : D} {v : Value} {n : Int} (hd : RepD w g H.A d v) (h : lenD H true d = some n) {t : TypeId} (ht : P.underlying t = some .string) (ty : TypeId) :
    (Builtin.len_ #[t] ty #[v]).run P w = .ok (.int .i64 n) w := by
  cases hd with
  | p x v hx =>
    cases x with
    | str s =>
      cases hx
      simp only [lenD, Option.some.injEq] at h
      subst h
      simp [Builtin.len_, run_underlying ht, goInt]
    | _ => simp [lenD] at h
  | _ => simp [lenD] at h

theorem len_sl (hi : Inv w g H) {d : D} {v : Value} {n : Int} (hd : RepD w g H.A d v) (h : lenD H false d = some n) {t e : TypeId} (ht : P.underlying t = some (.slice e)) (ty : TypeId) :
    (Builtin.len_ #[t] ty #[v]).run P w = .ok (.int .i64 n) w := by
  have sl : ∀ (a : Option Addr) (l c : Nat), n = (l : Int) → (Builtin.len_ #[t] ty #[.slice a l c]).run P w = .ok (.int .i64 n) w := by
    intro a l c hn
    subst hn
    simp [Builtin.len_, run_underlying ht, goInt]
  cases hd with
  | p x v hx =>
    cases x with
    | sl l =>
      simp only [lenD, Option.some.injEq] at h
      subst h
      obtain ⟨a, cap, rfl, _⟩ := hx.sl_inv
      exact sl a _ cap rfl
    | _ => simp [lenD] at h
  | litN => simp only [lenD, Option.some.injEq] at h; subst h; exact sl _ _ _ rfl
  | lit l b o _ => simp only [lenD, Option.some.injEq] at h; subst h; exact sl _ _ _ rfl
  | clip l a _ => simp only [lenD, Option.some.injEq] at h; subst h; exact sl _ _ _ rfl
  | bsl i off n c b _ => simp only [lenD, Option.some.injEq] at h; subst h; exact sl _ _ _ rfl
  | emp a c => simp only [lenD, Option.some.injEq] at h; subst h; exact sl _ _ _ rfl
  | own i ver v hi' hv h' =>
    simp only [lenD, Option.map_eq_some_iff] at h
    obtain ⟨ar, hl, rfl⟩ := h
    obtain ⟨_, _, q, _, rfl, _, hA⟩ := own_live hi (.own i ver v hi' hv h') hl
    cases q with
    | none => exact sl none 0 0 (by rw [hA.1]; rfl)
    | some q => exact sl _ _ _ rfl
  | _ => simp [lenD] at h

theorem list_one {A : List Arr} {d : D} {vs : List Value} (h : PW w g A [d] vs) : ∃ v, vs = [v] ∧ RepD w g A d v := by
  match vs, h with
  | [v], h => exact ⟨v, rfl, h.2 0 d v (by simp) (by simp)⟩
  | [], h => have := h.1; simp at this
  | _ :: _ :: _, h => have := h.1; simp at this

theorem list_two {A : List Arr} {d e : D} {vs : List Value} (h : PW w g A [d, e] vs) : ∃ v u, vs = [v, u] ∧ RepD w g A d v ∧ RepD w g A e u := by
  match vs, h with
  | [v, u], h => exact ⟨v, u, rfl, h.2 0 d v (by simp) (by simp), h.2 1 e u (by simp) (by simp)⟩
  | [], h => have := h.1; simp at this
  | [_], h => have := h.1; simp at this
  | _ :: _ :: _ :: _, h => have := h.1; simp at this

theorem unP_sound {op : UnOp} {x r : PD} {v : Value} (hx : RepP w g.I x v) (h : unP op x = some r) : ∃ u, (Op.unary op v).run P w = .ok u w ∧ RepP w g.I r u := by
  cases hx with
  | int k n => cases op <;> simp [unP] at h <;> subst h <;> exact ⟨_, by simp [Op.unary, Op.intArith, Op.intBits, Go.bits], .int _ _⟩
  | bool b => cases op <;> simp [unP] at h; subst h; exact ⟨_, by simp [Op.unary], .bool _⟩
  | _ => simp [unP] at h

theorem arg_sound (hi : Inv w g H) {own : Bool} {d x : D} {v : Value} {A1 : List Arr} (hd : RepD w g H.A d v) (h : argD own H.A d = some (x, A1)) :
    ∃ g', Inv w g' { H with A := A1 } ∧ Ext w g H.A w g' A1 ∧ RepD w g' A1 x v := by
  have plain : ∀ d : D, RepD w g H.A d v → some (if own = true then d else d.nf H.A, H.A) = some (x, A1) → ∃ g', Inv w g' { H with A := A1 } ∧ Ext w g H.A w g' A1 ∧ RepD w g' A1 x v := by
    intro d hd h
    simp only [Option.some.injEq, Prod.mk.injEq] at h
    obtain ⟨rfl, rfl⟩ := h
    refine ⟨g, hi, Ext.refl _ _ _, ?_⟩
    cases own
    · exact nf_sound hi hd
    · exact hd
  cases d with
  | own i ver =>
    simp only [argD] at h
    split at h
    · rename_i ar hl
      split at h
      · simp only [Option.some.injEq, Prod.mk.injEq] at h
        obtain ⟨rfl, rfl⟩ := h
        exact ⟨g, hi, Ext.refl _ _ _, hd⟩
      · simp only [Option.some.injEq, Prod.mk.injEq] at h
        obtain ⟨rfl, rfl⟩ := h
        obtain ⟨har, hver, q, hq, rfl, _, hA⟩ := own_live hi hd hl
        by_cases hf : ar.fz = true
        · rw [if_pos hf]
          exact ⟨g, hi, Ext.refl _ _ _, .p _ _ (hA.repP hf)⟩
        · rw [if_neg hf]
          have hgr := grows_refl w
          cases q with
          | none =>
            have key := hi.setA (w' := w) (ar' := { ar with fz := true }) (q' := none) har hq g.I (fun _ _ h => h) (fun _ _ h => .inl h) (fun _ _ _ => rfl) (Nat.le_refl _) rfl rfl (.same rfl rfl)
              (fun b o cap h _ => by cases h) (fun b cap h => by cases h) (Nat.le_refl _) (fun _ => ⟨rfl, rfl⟩) rfl (fun h => ⟨rfl, Nat.le_refl _⟩) (fun _ => hA)
            exact ⟨_, key.1, key.2, .p _ _ (by rw [hA.1]; exact .nil _ _)⟩
          | some q =>
            obtain ⟨b, cap⟩ := q
            obtain ⟨h1, h2, cs, h3, h4, h5, h6, h7, h8⟩ := hA
            have harr : ∀ (B : List (Option Nat)) (A : List (Option (Nat × Nat))), Same w g.I w (addI g.I true b (ar.els.length * ar.sz)) → ArrRep w ⟨B, A, addI g.I true b (ar.els.length * ar.sz)⟩ { ar with fz := true } (some (b, cap)) :=
              fun B A hsame => ⟨h1, h2, cs, h3, h4, h5, h6, fun j c e x he hx => let ⟨v, hv, hr⟩ := h7 j c e x he hx; ⟨v, hv, hr.same hsame⟩, fun _ j c e x he hx => .inr ⟨rfl, rfl, (at_lt h6 he hx).2⟩⟩
            have key := hi.setA (w' := w) (ar' := { ar with fz := true }) (q' := some (b, cap)) har hq (addI g.I true b (ar.els.length * ar.sz)) (fun _ _ h => .inl h)
              (fun b' o h => h.imp id fun ⟨_, h2, h3⟩ => ⟨⟨cap, by rw [h2]⟩, rfl, h3⟩) (fun _ _ _ => rfl) (Nat.le_refl _) rfl rfl (.same rfl rfl)
              (fun _ _ _ _ _ => rfl) (fun b' cap' h => .inl ⟨cap', h⟩) (Nat.le_refl _) (fun _ => ⟨rfl, rfl⟩) rfl (fun h => ⟨rfl, Nat.le_refl _⟩) (harr _ _)
            exact ⟨_, key.1, key.2, .p _ _ (ArrRep.repP (ar := { ar with fz := true }) (harr _ _ key.2.same) rfl)⟩
    · cases h
  | _ => exact plain _ hd h

theorem args_sound {own : Bool} : ∀ (ds xs : List D) (vs : List Value) (g : Gh) (H : Hp) (A1 : List Arr), Inv w g H → PW w g H.A ds vs → argsD own H.A ds = some (xs, A1) →
    ∃ g', Inv w g' { H with A := A1 } ∧ Ext w g H.A w g' A1 ∧ PW w g' A1 xs vs := by
  intro ds
  induction ds with
  | nil =>
    intro xs vs g H A1 hi hp h
    simp only [argsD, Option.some.injEq, Prod.mk.injEq] at h
    obtain ⟨rfl, rfl⟩ := h
    exact ⟨g, hi, Ext.refl _ _ _, hp⟩
  | cons d r ih =>
    intro xs vs g H A1 hi hp h
    simp only [argsD] at h
    split at h
    · rename_i x A2 hx
      split at h
      · rename_i ys A3 hys
        simp only [Option.some.injEq, Prod.mk.injEq] at h
        obtain ⟨rfl, rfl⟩ := h
        cases vs with
        | nil => have := hp.1; simp at this
        | cons v vs =>
          obtain ⟨g1, hi1, he1, hr1⟩ := arg_sound hi (hp.2 0 d v (by simp) (by simp)) hx
          obtain ⟨g2, hi2, he2, hp2⟩ := ih ys vs g1 { H with A := A2 } A3 hi1 ⟨by have := hp.1; simpa using this, fun j d u hd hu => (hp.2 (j + 1) d u (by simpa using hd) (by simpa using hu)).ext he1⟩ hys
          refine ⟨g2, hi2, he1.trans he2, by simp [hp2.1], fun j e u he hu => ?_⟩
          cases j with
          | zero => simp at he hu; subst he; subst hu; exact hr1.ext he2
          | succ j => exact hp2.2 j e u (by simpa using he) (by simpa using hu)
      · cases h
    · cases h

theorem call_sound (hi : Inv w g H) {hn : Hints} {f : FuncId} {ds : List D} {vs : List Value} {r : Nx} {s : Sem Next} (hp : PW w g H.A ds vs) (h : callD hn H f ds = some r)
    (hs : s.run P w = (callFunc f vs.toArray).run P w) : Good P w g H.A s r := by
  unfold callD at h
  split at h
  · rename_i xs A1 hx
    injection h with h
    subst h
    obtain ⟨g', hi', he, hp'⟩ := args_sound ds xs vs g H A1 hi hp hx
    exact ⟨vs, g', hs, hi', he, hp'.1, hp'.2⟩
  · cases h

theorem yield_sound (hi : Inv w g H) {i b : Nat} (hb : g.B[i]? = some (some b)) {ds : List D} {vs : List Value} {r : Nx} {s : Sem Next} (hp : PW w g H.A ds vs) (h : yieldD H i ds = some r)
    (hs : s.run P w = (Instr.yield b vs.toArray).run P w) : Good P w g H.A s r := by
  unfold yieldD at h
  split at h
  · rename_i xs A1 hx
    injection h with h
    subst h
    obtain ⟨g', hi', he, hp'⟩ := args_sound ds xs vs g H A1 hi hp hx
    exact ⟨vs, g', b, hs, he.ptr _ _ hb, hi', he, hp'.1, hp'.2⟩
  · cases h

theorem pw_args (hs : Sim w g F H a N) (l : List Operand) : PW w g H.A (l.map (opd F)) (l.map a.eval) :=
  ⟨by simp, fun j d v hd hv => by
    simp only [List.getElem?_map, Option.map_eq_some_iff] at hd hv
    obtain ⟨x, hx, rfl⟩ := hd
    obtain ⟨y, hy, rfl⟩ := hv
    rw [hx] at hy
    injection hy with hy
    subst hy
    exact opd_sound hs x⟩

theorem PW.append {A : List Arr} {l m : List D} {cs us : List Value} (h : PW w g A l cs) (k : PW w g A m us) : PW w g A (l ++ m) (cs ++ us) :=
  ⟨by simp [h.1, k.1], fun j d v hd hv => by
    rcases Nat.lt_or_ge j l.length with hj | hj
    · rw [List.getElem?_append_left hj] at hd
      rw [List.getElem?_append_left (by rw [h.1]; exact hj)] at hv
      exact h.2 j d v hd hv
    · rw [List.getElem?_append_right hj] at hd
      rw [List.getElem?_append_right (by rw [h.1]; exact hj), h.1] at hv
      exact k.2 _ d v hd hv⟩

theorem PW.cons {A : List Arr} {d : D} {v : Value} {m : List D} {us : List Value} (h : RepD w g A d v) (k : PW w g A m us) : PW w g A (d :: m) (v :: us) :=
  ⟨by simp [k.1], fun j e u he hu => by
    cases j with
    | zero => simp at he hu; subst he; subst hu; exact h
    | succ j => exact k.2 j e u (by simpa using he) (by simpa using hu)⟩

theorem caps_sound {A : List Arr} {d : D} {v : Value} {f : FuncId} {caps : List D} (hd : RepD w g A d v) (h : capsOf d = some (f, caps)) :
    ∃ cs : Array Value, v = .func (.func f) #[] cs ∧ PW w g A caps cs.toList := by
  cases hd with
  | p x v hx =>
    cases hx <;> simp [capsOf] at h
    obtain ⟨rfl, rfl⟩ := h
    exact ⟨#[], rfl, rfl, fun j d v hd => by simp at hd⟩
  | fn f' l cs hs hr =>
    simp [capsOf] at h
    obtain ⟨rfl, rfl⟩ := h
    exact ⟨cs, rfl, by simpa using hs, fun j d v hd hv => hr j d v hd (by simpa using hv)⟩
  | _ => simp [capsOf] at h

theorem mkFn_sound {A : List Arr} (f : FuncId) {l : List D} {vs : List Value} (h : PW w g A l vs) : RepD w g A (mkFn f l) (.func (.func f) #[] vs.toArray) := by
  cases l with
  | nil =>
    have : vs = [] := List.eq_nil_of_length_eq_zero (by simpa using h.1)
    subst this
    exact .p _ _ (.fn f)
  | cons d r => exact .fn f _ _ (by simpa using h.1) fun i x v hx hv => h.2 i x v hx (by simpa using hv)

theorem run_method {t : TypeId} {v : Value} {name : String} {f : FuncId} (h : methOf P t name = some f) (n : Nat) : (method (n + 1) t v name).run P w = .ok (f, v) w := by
  unfold methOf at h
  split at h
  · rename_i m hm
    obtain ⟨i, hi, hm'⟩ := Option.bind_eq_some_iff.1 hm
    split at h
    · rename_i e f' el hp hf hu
      injection h with h
      subst h
      have hpe : m.path = #[] := by simpa using hp
      simp [method, typeInfo, hi, hm', hpe, follow, hf, receiverAt, run_underlying hu, Place.get]
    · cases h
    · rename_i f' td hne hp hf hu
      injection h with h
      subst h
      have hpe : m.path = #[] := by simpa using hp
      cases td <;> first | exact absurd rfl (hne _) | simp [method, typeInfo, hi, hm', hpe, follow, hf, receiverAt, run_underlying hu, Place.get]
    · cases h
  · cases h
end
end Go.Vi
end

section
/- Vi: structs and arrays of plain cells, compared. No conditions. -/
namespace Go.Vi
open Go Go.Lib

section
variable {P : Program} {w : World} {g : Gh} {H : Hp}

theorem plain_run {t : TypeId} {x : PD} (h : plainT P t x = true) : P.underlying t = some .bool ∨ P.underlying t = some .string ∨ ∃ k, P.underlying t = some (.int k) := by
  unfold plainT at h
  split at h
  · rename_i hu; exact .inr (.inr ⟨_, hu⟩)
  · rename_i hu; exact .inr (.inl hu)
  · rename_i hu; exact .inl hu
  · cases h

theorem cell_run {I : Nat → Nat → Prop} (d : Nat) {t : TypeId} {a b : PD} {u v : Value} {r : Bool} (ha : plainT P t a = true) (hb : plainT P t b = true) (h : eqCell a b = some r) (hu : RepP w I a u) (hv : RepP w I b v) :
    (Op.equalIn (d + 1) t u v).run P w = .ok r w := by
  unfold plainT at ha
  split at ha
  · rename_i k m n hk
    cases b with
    | int k' n' =>
      cases hu; cases hv
      simp only [eqCell] at h
      split at h
      · rename_i e; subst e
        injection h with h
        subst h
        rw [run_equalIn_int w d t _ _ _ _ hk]
        rw [Result.ok.injEq]
        refine ⟨?_, rfl⟩
        rw [Bool.eq_iff_iff]; simp
      · cases h
    | _ => simp [eqCell] at h
  · rename_i s hk
    cases b with
    | str s' =>
      cases hu; cases hv
      simp only [eqCell] at h
      injection h with h
      subst h
      rw [run_equalIn_string w d t _ _ hk, beq_str]
    | _ => simp [eqCell] at h
  · rename_i s hk
    cases b with
    | bool s' =>
      cases hu; cases hv
      simp only [eqCell] at h
      injection h with h
      subst h
      exact run_equalIn_bool w d t _ _ hk
    | _ => simp [eqCell] at h
  · cases ha

theorem part_run {t : TypeId} {x : PD} (h : plainT P t x = true) {cs : Array Value} {off : Nat} {v : Value} (hx : cs[off]? = some v) : (part t cs off).run P w = .ok v w := by
  rcases plain_run h with hu | hu | ⟨k, hu⟩ <;> simp [part, isAgg, run_underlying hu, hx]

theorem cells_at {I : Nat → Nat → Prop} {xs : List PD} {cs : Array Value} (hs : cs.size = xs.length) (h : ∀ (i : Nat) (x : PD) (v : Value), xs[i]? = some x → cs[i]? = some v → RepP w I x v) {i : Nat} {x : PD} (hx : xs[i]? = some x) :
    ∃ v, cs[i]? = some v ∧ RepP w I x v := by
  have hlt : i < cs.size := by rw [hs]; exact (List.getElem?_eq_some_iff.1 hx).1
  exact ⟨cs[i], by simp [hlt], h i x cs[i] hx (by simp [hlt])⟩

section
variable {I : Nat → Nat → Prop} {xs ys : List PD} {cs ds : Array Value} (hs : cs.size = xs.length) (h1 : ∀ (i : Nat) (x : PD) (v : Value), xs[i]? = some x → cs[i]? = some v → RepP w I x v)
  (ht : ds.size = ys.length) (h2 : ∀ (i : Nat) (x : PD) (v : Value), ys[i]? = some x → ds[i]? = some v → RepP w I x v)
include hs h1 ht h2

theorem fields_run (d : Nat) : ∀ (fs : List Field) (r : Bool), fs.all (fun f => f.name != "_") = true → eqFs P xs ys (fs.map fun f => (f.offset, f.type)) = some r →
    (Op.eqFields (d + 1) cs ds fs).run P w = .ok r w
  | [], r, _, h => by simp only [List.map_nil, eqFs, Option.some.injEq] at h; subst h; simp [Op.eqFields]
  | f :: fs, r, hn, h => by
    simp only [List.all_cons, Bool.and_eq_true, bne_iff_ne] at hn
    simp only [List.map_cons, eqFs] at h
    split at h
    case h_2 => cases h
    rename_i a b ea eb
    split at h
    case isFalse => cases h
    rename_i hp
    split at h
    case h_2 => cases h
    rename_i p q hpq hq
    injection h with h
    subst h
    obtain ⟨u, hu, ru⟩ := cells_at hs h1 ea
    obtain ⟨v, hv, rv⟩ := cells_at ht h2 eb
    have ih := fields_run d fs q hn.2 hq
    simp only [Op.eqFields, if_pos hn.1, Sem.run_bind, part_run hp.1 hu, part_run hp.2 hv, Result.andThen_ok, cell_run d hp.1 hp.2 hpq ru rv]
    cases p <;> simp [ih]

theorem items_run (d : Nat) {e : TypeId} : ∀ (is : List Nat) (r : Bool), eqFs P xs ys (is.map fun k => (k, e)) = some r → (Op.eqItems (d + 1) e 1 cs ds is).run P w = .ok r w
  | [], r, h => by simp only [List.map_nil, eqFs, Option.some.injEq] at h; subst h; simp [Op.eqItems]
  | i :: is, r, h => by
    simp only [List.map_cons, eqFs] at h
    split at h
    case h_2 => cases h
    rename_i a b ea eb
    split at h
    case isFalse => cases h
    rename_i hp
    split at h
    case h_2 => cases h
    rename_i p q hpq hq
    injection h with h
    subst h
    obtain ⟨u, hu, ru⟩ := cells_at hs h1 ea
    obtain ⟨v, hv, rv⟩ := cells_at ht h2 eb
    have ih := items_run d is q hq
    simp only [Op.eqItems, Nat.mul_one, Sem.run_bind, part_run hp.1 hu, part_run hp.2 hv, Result.andThen_ok, cell_run d hp.1 hp.2 hpq ru rv]
    cases p <;> simp [ih]

theorem agg_run {t : TypeId} {r : Bool} (h : aggEqD P t xs ys = some r) : (Op.equalIn 10000 t (.agg cs) (.agg ds)).run P w = .ok r w ∧ P.eqGuardType P.depth t = false := by
  unfold aggEqD at h
  split at h
  case isFalse => cases h
  rename_i hg
  refine ⟨?_, hg⟩
  split at h
  · rename_i fs hu
    split at h
    case isFalse => cases h
    rename_i hk
    have hf : P.fieldsOf t = fs := by simp [Program.fieldsOf, hu]
    rw [run_equalIn_struct w 9999 t cs ds (by rw [hf]; exact hu) hk.1, hf]
    exact fields_run hs h1 ht h2 9998 fs.toList r hk.2 h
  · rename_i n e hu
    split at h
    case h_2 => cases h
    rename_i i hi
    split at h
    case isFalse => cases h
    rename_i h1'
    rw [run_equalIn_array w 9999 cs ds hu hi, show P.cellsOf e = 1 by simp [Program.cellsOf, hi, h1']]
    exact items_run hs h1 ht h2 9998 _ r h
  · cases h
end

theorem agg_bin (hi : Inv w g H) {op : BinOp} {t : TypeId} {x y : Operand} {a b : D} {u v : Value} {r : D} (hx : RepD w g H.A a u) (hy : RepD w g H.A b v)
    (h : (match aggD P H.A t a b, op with | some v, .eql => some (D.p (.bool v)) | some v, .neq => some (D.p (.bool (!v))) | _, _ => none) = some r) :
    ∃ z, (do eqGuard op t x y u v; binOp op t u v : Sem Value).run P w = .ok z w ∧ RepD w g H.A r z := by
  cases hag : aggD P H.A t a b with
  | none => rw [hag] at h; cases h
  | some rb =>
    rw [hag] at h
    unfold aggD at hag
    split at hag
    case h_2 => cases hag
    rename_i xs ys ea eb
    have hx1 := nf_sound hi hx
    have hy1 := nf_sound hi hy
    unfold D.nf at hx1 hy1
    rw [ea] at hx1
    rw [eb] at hy1
    cases hx1 with
    | p _ _ hx1 =>
      cases hy1 with
      | p _ _ hy1 =>
        cases hx1 with
        | agg _ cs hs h1 =>
          cases hy1 with
          | agg _ ds ht h2 =>
            obtain ⟨hrun, hg⟩ := agg_run hs h1 ht h2 hag
            split at h
            · rename_i w' e
              injection h with h
              subst h
              injection e with e
              subst e
              exact ⟨.bool _, by simp [run_eqGuard_agg w _ t x y cs ds hg, run_eql_struct w t cs ds, hrun], .p _ _ (.bool _)⟩
            · rename_i w' e
              injection h with h
              subst h
              injection e with e
              subst e
              exact ⟨.bool _, by simp [run_eqGuard_agg w _ t x y cs ds hg, run_neq_struct w t cs ds, hrun], .p _ _ (.bool _)⟩
            · cases h
end
end Go.Vi
end

section
/- Vi, part 14: every operation of the evaluator is what the machine does. No conditions. -/
namespace Go.Vi
open Go Go.Lib

section
variable {P : Program} {w : World} {g : Gh} {F : Fr} {H : Hp} {a : Act} {N : Fm}

theorem good_v {s : Sem Value} {d : D} {v : Value} (hi : Inv w g H) (hr : s.run P w = .ok v w) (hd : RepD w g H.A d v) :
    Good P w g H.A (do pure (Next.value (← s))) (.val d H) := good_val hi (run_v hr) hd

theorem pan_iface {w : World} {I : Nat → Nat → Prop} {t : TypeId} {x : PD} {v : Value} (h : RepP w I (.ifc t x) v) : (Instr.panic v).run P w = .halt (.panic v) w := by
  cases h
  simp [Instr.panic]

theorem eqGuard_nil {op : BinOp} {t : TypeId} {x y : Operand} {u v : Value} (h : (∃ z, x = .const z) ∨ ∃ z, y = .const z) (hagg : (∀ cs, u ≠ .agg cs) ∨ (∀ cs, v ≠ .agg cs)) :
    (eqGuard op t x y u v).run P w = .ok () w := by
  cases op <;> try rfl
  all_goals
    cases u <;> try rfl
  all_goals
    cases v <;> try rfl
  all_goals
    first
      | (rcases h with ⟨z, rfl⟩ | ⟨z, rfl⟩ <;> first | rfl | (cases x <;> rfl))
      | (rcases hagg with hg | hg <;> exact absurd rfl (hg _))

theorem eqGuard_other {op : BinOp} {t : TypeId} {x y : Operand} {u v : Value} (h : (∀ cs, u ≠ .agg cs) ∧ u ≠ .nilIface) : (eqGuard op t x y u v).run P w = .ok () w := by
  cases op <;> try rfl
  all_goals
    cases u <;> try rfl
  all_goals first | exact absurd rfl h.2 | exact absurd rfl (h.1 _)

theorem inv_int {A : List Arr} {k : IntKind} {n : Int} {v : Value} (h : RepD w g A (.p (.int k n)) v) : v = .int k n := by cases h with | p _ _ h => cases h; rfl
theorem inv_str {A : List Arr} {s : ByteArray} {v : Value} (h : RepD w g A (.p (.str s)) v) : v = .string s := by cases h with | p _ _ h => cases h; rfl
theorem inv_bool {A : List Arr} {b : Bool} {v : Value} (h : RepD w g A (.p (.bool b)) v) : v = .bool b := by cases h with | p _ _ h => cases h; rfl

theorem isNil_const {td : TypeDesc} {y : Operand} (h : isNil td y = true) : ∃ z, y = .const z ∧ (z = .nilIface ∨ z = .nilFunc ∨ z = .pointer none ∨ z = .slice none 0 0) := by
  unfold isNil at h
  split at h <;> first | (cases h; done) | exact ⟨_, rfl, by simp⟩

theorem run_eql_nil {t : TypeId} {u z : Value} {r : Bool} (hz : z = .nilIface ∨ z = .nilFunc ∨ z = .pointer none ∨ z = .slice none 0 0) (h : (Op.equal t u z).run P w = .ok r w) :
    (binOp .eql t u z).run P w = .ok (.bool r) w ∧ (binOp .neq t u z).run P w = .ok (.bool (!r)) w := by
  rcases hz with rfl | rfl | rfl | rfl <;> cases u <;> simp [binOp, h]

theorem run_nil_eql {t : TypeId} {u z : Value} {r : Bool} (hz : z = .nilIface ∨ z = .nilFunc ∨ z = .pointer none ∨ z = .slice none 0 0) (h : (Op.equal t z u).run P w = .ok r w) :
    (binOp .eql t z u).run P w = .ok (.bool r) w ∧ (binOp .neq t z u).run P w = .ok (.bool (!r)) w := by
  rcases hz with rfl | rfl | rfl | rfl <;> cases u <;> simp [binOp, h]

theorem bin_sound (hs : Sim w g F H a N) {op : BinOp} {t : TypeId} {x y : Operand} {r : D} (h : binD P H.A op t x y (opd F x) (opd F y) = some r) :
    ∃ v, (do eqGuard op t x y (a.eval x) (a.eval y); binOp op t (a.eval x) (a.eval y) : Sem Value).run P w = .ok v w ∧ RepD w g H.A r v := by
  have hx := opd_sound hs x
  have hy := opd_sound hs y
  have nonil : (∀ cs, a.eval x ≠ .agg cs) ∧ a.eval x ≠ .nilIface → ∀ v, (binOp op t (a.eval x) (a.eval y)).run P w = .ok v w →
      (do eqGuard op t x y (a.eval x) (a.eval y); binOp op t (a.eval x) (a.eval y) : Sem Value).run P w = .ok v w := fun hn v hv => by
    simp [eqGuard_other (P := P) (w := w) (op := op) (t := t) (x := x) (y := y) (v := a.eval y) hn, hv]
  unfold binD at h
  split at h
  · rename_i k m k' n e1 e2
    rw [e1] at hx
    rw [e2] at hy
    have hx' : a.eval x = .int k m := inv_int hx
    have hy' : a.eval y = .int k' n := inv_int hy
    have hn : (∀ cs, a.eval x ≠ .agg cs) ∧ a.eval x ≠ .nilIface := by rw [hx']; exact ⟨fun cs e => (by cases e), fun e => (by cases e)⟩
    split at h
    · simp only [Option.map_eq_some_iff] at h
      obtain ⟨q, hq, rfl⟩ := h
      obtain ⟨v, hv, hr⟩ := shiftP_run (P := P) (w := w) op k k' m n q t hq
      exact ⟨v, nonil hn v (by rw [hx', hy']; exact hv), .p _ _ (hr _)⟩
    · rename_i hsh
      split at h
      · rename_i hk
        subst hk
        simp only [Option.map_eq_some_iff] at h
        obtain ⟨q, hq, rfl⟩ := h
        obtain ⟨v, hv, hr⟩ := intP_run (P := P) (w := w) op k m n q t (by simpa using hsh) hq
        exact ⟨v, nonil hn v (by rw [hx', hy']; exact hv), .p _ _ (hr _)⟩
      · cases h
  · rename_i s s' e1 e2
    rw [e1] at hx
    rw [e2] at hy
    have hx' : a.eval x = .string s := inv_str hx
    have hy' : a.eval y = .string s' := inv_str hy
    have hn : (∀ cs, a.eval x ≠ .agg cs) ∧ a.eval x ≠ .nilIface := by rw [hx']; exact ⟨fun cs e => (by cases e), fun e => (by cases e)⟩
    simp only [Option.map_eq_some_iff] at h
    obtain ⟨q, hq, rfl⟩ := h
    obtain ⟨v, hv, hr⟩ := strP_run (P := P) (w := w) op s s' q t hq
    exact ⟨v, nonil hn v (by rw [hx', hy']; exact hv), .p _ _ (hr _)⟩
  · split at h
    · rename_i hu
      split at h
      · rename_i c d e1 e2
        rw [e1] at hx
        rw [e2] at hy
        have hx' : a.eval x = .bool c := inv_bool hx
        have hy' : a.eval y = .bool d := inv_bool hy
        have hn : (∀ cs, a.eval x ≠ .agg cs) ∧ a.eval x ≠ .nilIface := by rw [hx']; exact ⟨fun cs e => (by cases e), fun e => (by cases e)⟩
        injection h with h
        subst h
        have he : (Op.equal t (.bool c) (.bool d)).run P w = .ok (c == d) w := run_equal hu _ _ _ fun k => by simp [Op.equalIn, run_underlying hu]
        exact ⟨_, nonil hn _ (by rw [hx', hy']; simp [binOp, he]), .p _ _ (.bool _)⟩
      · rename_i c d e1 e2
        rw [e1] at hx
        rw [e2] at hy
        have hx' : a.eval x = .bool c := inv_bool hx
        have hy' : a.eval y = .bool d := inv_bool hy
        have hn : (∀ cs, a.eval x ≠ .agg cs) ∧ a.eval x ≠ .nilIface := by rw [hx']; exact ⟨fun cs e => (by cases e), fun e => (by cases e)⟩
        injection h with h
        subst h
        have he : (Op.equal t (.bool c) (.bool d)).run P w = .ok (c == d) w := run_equal hu _ _ _ fun k => by simp [Op.equalIn, run_underlying hu]
        exact ⟨_, nonil hn _ (by rw [hx', hy']; simp [binOp, he]), .p _ _ (.bool _)⟩
      · cases h
    · rename_i fs hu
      exact agg_bin hs.inv hx hy h
    · rename_i n e hu
      exact agg_bin hs.inv hx hy h
    · rename_i td htd _ _ hu
      simp only at h
      have fin : ∀ (rb : Bool), (if isNil td y = true then nilD H.A td (opd F x) else if isNil td x = true then nilD H.A td (opd F y) else none) = some rb →
          ((do eqGuard .eql t x y (a.eval x) (a.eval y); binOp .eql t (a.eval x) (a.eval y) : Sem Value).run P w = .ok (.bool rb) w) ∧
          ((do eqGuard .neq t x y (a.eval x) (a.eval y); binOp .neq t (a.eval x) (a.eval y) : Sem Value).run P w = .ok (.bool (!rb)) w) := by
        intro rb hrb
        split at hrb
        · rename_i hny
          have := (nil_run hs.inv hu y hny _ _ rb hx hrb a).1
          obtain ⟨z, hyz, hz⟩ := isNil_const hny
          have hg : ∀ op, (eqGuard op t x y (a.eval x) (a.eval y)).run P w = .ok () w := fun op => eqGuard_nil (.inr ⟨z, hyz⟩) (.inr (by rw [hyz]; rcases hz with rfl | rfl | rfl | rfl <;> exact fun cs e => by cases e))
          have hev : a.eval y = z := by rw [hyz]; rfl
          rw [hev] at this
          have hb := run_eql_nil hz this
          rw [← hev] at hb
          exact ⟨by simp [hg, hb.1], by simp [hg, hb.2]⟩
        · split at hrb
          · rename_i hnx
            have := (nil_run hs.inv hu x hnx _ _ rb hy hrb a).2
            obtain ⟨z, hxz, hz⟩ := isNil_const hnx
            have hg : ∀ op, (eqGuard op t x y (a.eval x) (a.eval y)).run P w = .ok () w := fun op => eqGuard_nil (.inl ⟨z, hxz⟩) (.inl (by rw [hxz]; rcases hz with rfl | rfl | rfl | rfl <;> exact fun cs e => by cases e))
            have hev : a.eval x = z := by rw [hxz]; rfl
            rw [hev] at this
            have hb := run_nil_eql hz this
            rw [← hev] at hb
            exact ⟨by simp [hg, hb.1], by simp [hg, hb.2]⟩
          · cases hrb
      split at h
      · rename_i rb hrb
        injection h with h
        subst h
        exact ⟨_, (fin rb hrb).1, .p _ _ (.bool _)⟩
      · rename_i rb hrb
        injection h with h
        subst h
        exact ⟨_, (fin rb hrb).2, .p _ _ (.bool _)⟩
      · cases h
    · cases h
end
end Go.Vi
end

section
/- Vi, part 14b: maps made by the call, rows of zeros. No conditions. -/
namespace Go.Vi
open Go Go.Lib

section
variable {P : Program} {w : World} {g : Gh} {F : Fr} {H : Hp} {a : Act} {N : Fm}

theorem makeMap_sound (hi : Inv w g H) (t : TypeId) : Good P w g H.A (do pure (Next.value (← Instr.makeMap t none))) (.val (.mp H.B.length) { H with B := H.B ++ [.mset []] }) := by
  obtain ⟨hi', he⟩ := hi.allocB (.mset []) (.map #[] 0) fun w' g' he hb => ⟨#[], 0, hb, rfl, fun j k x e h => by simp at h⟩
  refine ⟨.map (some w.heap.size), _, _, run_v ?_, .mp _ _ (by simp [← hi.lenB]), hi', he⟩
  simp [Instr.makeMap, World.alloc_eq]

theorem ba_beq (a b : ByteArray) : (a == b) = (a.data.toList == b.data.toList) := by
  obtain ⟨⟨a⟩⟩ := a
  obtain ⟨⟨b⟩⟩ := b
  show ((⟨a⟩ : Array UInt8) == ⟨b⟩) = (a == b)
  rw [Bool.eq_iff_iff, beq_iff_eq, beq_iff_eq]
  exact ⟨fun h => by injection h, fun h => by rw [h]⟩
theorem tup_two {A : List Arr} {x y : D} {u v : Value} (h1 : RepD w g A x u) (h2 : RepD w g A y v) : RepD w g A (.tup [x, y]) (.tuple #[u, v]) :=
  .tup _ _ rfl fun i d z a b => by
    match i with
    | 0 => simp at a b; subst a; subst b; exact h1
    | 1 => simp at a b; subst a; subst b; exact h2
    | i + 2 => simp at a

/-- Is it a key of one cell? -/
def plainK (P : Program) (t : TypeId) (k : PD) : Bool :=
  match P.underlying t, k with
  | some (.int _), .int _ _ => true
  | some .string, .str _ => true
  | some .bool, .bool _ => true
  | _, _ => false
theorem same_now {kind : TypeDesc} {kt : TypeId} {k k' : PD} {v v' : Value} {I : Nat → Nat → Prop} {b : Bool} (hk : plainK P kt k = true) (hu : P.underlying kt = some kind) (hv : RepP w I k v) (hv' : RepP w I k' v') (h : sameK k k' = some b) :
    Instr.sameNow kind v v' = some b ∧ (b = true → v' = v ∧ Instr.sameBits 10000 v v = true) := by
  unfold plainK at hk
  rw [hu] at hk
  split at hk
  · rename_i kk a hkk
    cases hv
    cases hv' <;> simp only [sameK] at h <;> try (cases h; done)
    rename_i k2 n2
    injection hkk with hkk
    subst hkk
    split at h
    · rename_i hkk
      subst hkk
      injection h with h
      subst h
      exact ⟨by simp [Instr.sameNow], fun e => by
        have := eq_of_beq e
        subst this
        exact ⟨rfl, by simp [Instr.sameBits]⟩⟩
    · cases h
  · rename_i s hkk
    cases hv
    cases hv' <;> simp only [sameK] at h <;> try (cases h; done)
    rename_i s2
    injection hkk with hkk
    subst hkk
    injection h with h
    subst h
    refine ⟨by simp only [Instr.sameNow, ba_beq], fun e => ?_⟩
    have e2 : s2 = s := by
      obtain ⟨⟨s⟩⟩ := s
      obtain ⟨⟨s2⟩⟩ := s2
      have := eq_of_beq e
      simp only at this
      rw [this]
    subst e2
    exact ⟨rfl, by rw [show (10000 : Nat) = 9999 + 1 from rfl]; simp only [Instr.sameBits, ba_beq]; exact beq_self_eq_true _⟩
  · rename_i bb hkk
    cases hv
    cases hv' <;> simp only [sameK] at h <;> try (cases h; done)
    rename_i b2
    injection hkk with hkk
    subst hkk
    injection h with h
    subst h
    exact ⟨by simp [Instr.sameNow], fun e => by
      have := eq_of_beq e
      subst this
      exact ⟨rfl, by simp [Instr.sameBits]⟩⟩
  · cases hk

theorem find_sound {kind : TypeDesc} {kt : TypeId} {k : PD} {v : Value} {I : Nat → Nat → Prop} (hk : plainK P kt k = true) (hu : P.underlying kt = some kind) (hv : RepP w I k v) : ∀ (l : List (PD × PD)) (es : List MapEntry) (i : Nat) (r : Option (Nat × PD)),
    es.length = l.length → (∀ (j : Nat) (k x : PD) (e : MapEntry), l[j]? = some (k, x) → es[j]? = some e → RepP w I k e.key ∧ RepP w I x e.val) → findM k l i = some r →
    (r = none ∧ Instr.findNow kind v es i = some none) ∨ ∃ j x e, r = some (i + j, x) ∧ Instr.findNow kind v es i = some (some (i + j, e.val)) ∧ es[j]? = some e ∧ RepP w I x e.val ∧ e.key = v ∧ Instr.sameBits 10000 v v = true
  | [], es, i, r, hl, _, h => by
    have : es = [] := List.eq_nil_of_length_eq_zero hl
    subst this
    simp only [findM, Option.some.injEq] at h
    exact .inl ⟨h.symm, rfl⟩
  | (k', x) :: l, [], i, r, hl, _, h => by simp at hl
  | (k', x) :: l, e :: es, i, r, hl, hr, h => by
    obtain ⟨hk', hx⟩ := hr 0 k' x e rfl rfl
    simp only [findM] at h
    split at h
    · rename_i hs
      injection h with h
      subst h
      obtain ⟨h1, h2⟩ := same_now hk hu hv hk' hs
      obtain ⟨h3, h4⟩ := h2 rfl
      exact .inr ⟨0, x, e, rfl, by simp [Instr.findNow, h1], rfl, hx, h3, h4⟩
    · rename_i hs
      obtain ⟨h1, _⟩ := same_now hk hu hv hk' hs
      rcases find_sound hk hu hv l es (i + 1) r (by simpa using hl) (fun j k x e a b => hr (j + 1) k x e (by simpa using a) (by simpa using b)) h with ⟨e1, e2⟩ | ⟨j, y, e0, e1, e2, e3, e4⟩
      · exact .inl ⟨e1, by simp [Instr.findNow, h1, e2]⟩
      · exact .inr ⟨j + 1, y, e0, by rw [e1, show i + 1 + j = i + (j + 1) by omega], by simp [Instr.findNow, h1, e2, show i + 1 + j = i + (j + 1) by omega], by simpa using e3, e4⟩
    · cases h

theorem key_kinds {kt : TypeId} {k : PD} (hk : keyOK P kt k = true) : plainK P kt k = true ∨ ∃ e i a b, P.underlying kt = some (.array 2 e) ∧ P.underlying e = some (.int .i64) ∧ P.info? e = some i ∧ i.size = 1 ∧ P.eqGuardType P.depth kt = false ∧ k = .agg [.int .i64 a, .int .i64 b] := by
  unfold keyOK at hk
  split at hk
  · rename_i h; exact .inl (by simp [plainK, h])
  · rename_i h; exact .inl (by simp [plainK, h])
  · rename_i h; exact .inl (by simp [plainK, h])
  · rename_i e a b h
    split at hk
    · rename_i i h1 h2
      simp only [Bool.and_eq_true, beq_iff_eq, Bool.not_eq_true'] at hk
      exact .inr ⟨e, i, a, b, h, h1, h2, hk.1, hk.2, rfl⟩
    · cases hk
  · cases hk

theorem rep_two {I : Nat → Nat → Prop} {a b : Int} {v : Value} (h : RepP w I (.agg [.int .i64 a, .int .i64 b]) v) : v = .agg #[.int .i64 a, .int .i64 b] := by
  cases h with
  | agg _ cs hs hr =>
    have hs2 : cs.size = 2 := hs
    have h0 : cs[0]? = some (cs[0]'(by omega)) := by simp [hs2]
    have h1 : cs[1]? = some (cs[1]'(by omega)) := by simp [hs2]
    have e0 : cs[0]'(by omega) = .int .i64 a := by
      have := hr 0 _ _ rfl h0
      generalize cs[0]'(by omega) = y at this
      cases this; rfl
    have e1 : cs[1]'(by omega) = .int .i64 b := by
      have := hr 1 _ _ rfl h1
      generalize cs[1]'(by omega) = y at this
      cases this; rfl
    have : cs = #[.int .i64 a, .int .i64 b] := by
      apply Array.ext
      · simp [hs]
      · intro i h1 h2
        simp only [hs, List.length_cons, List.length_nil] at h1
        match i, h1 with
        | 0, _ => exact e0
        | 1, _ => exact e1
    rw [this]

theorem two_eq {kt e : TypeId} {i : TypeInfo} {a b c d : Int} (hu : P.underlying kt = some (.array 2 e)) (he : P.underlying e = some (.int .i64)) (hi : P.info? e = some i) (hs : i.size = 1) (hg : P.eqGuardType P.depth kt = false) (w : World) :
    (Op.equal kt (.agg #[.int .i64 a, .int .i64 b]) (.agg #[.int .i64 c, .int .i64 d])).run P w = .ok (a == c && b == d) w := by
  have rp : ∀ x y : Int, ∀ (i : Nat) (z : PD) (v : Value), [PD.int .i64 x, PD.int .i64 y][i]? = some z → (#[Value.int .i64 x, .int .i64 y] : Array Value)[i]? = some v → RepP w (fun _ _ => False) z v := by
    intro x y i z v h1 h2
    match i with
    | 0 => simp at h1 h2; subst h1; subst h2; exact .int _ _
    | 1 => simp at h1 h2; subst h1; subst h2; exact .int _ _
    | i + 2 => simp at h1
  have hq : aggEqD P kt [.int .i64 a, .int .i64 b] [.int .i64 c, .int .i64 d] = some (a == c && b == d) := by
    have hr : List.range 2 = [0, 1] := rfl
    have h1 : (decide (a = c)) = (a == c) := by rw [Bool.eq_iff_iff]; simp
    have h2 : (decide (b = d)) = (b == d) := by rw [Bool.eq_iff_iff]; simp
    simp [aggEqD, hg, hu, hi, hs, hr, eqFs, plainT, he, eqCell, h1, h2]
  exact (agg_run (w := w) (cs := #[.int .i64 a, .int .i64 b]) (ds := #[.int .i64 c, .int .i64 d]) rfl (rp a b) rfl (rp c d) hq).1

theorem sameK_two {a b : Int} {k' : PD} {r : Bool} (h : sameK (.agg [.int .i64 a, .int .i64 b]) k' = some r) : ∃ c d, k' = .agg [.int .i64 c, .int .i64 d] ∧ r = (a == c && b == d) := by
  unfold sameK at h
  split at h <;> simp_all
  exact ⟨_, _, ⟨rfl, rfl⟩, by first | exact h.symm | rfl⟩

theorem ask_sound {kt e : TypeId} {ti : TypeInfo} {a b : Int} {I : Nat → Nat → Prop} (hu : P.underlying kt = some (.array 2 e)) (he : P.underlying e = some (.int .i64)) (hi : P.info? e = some ti) (hs : ti.size = 1) (hg : P.eqGuardType P.depth kt = false) :
    ∀ (l : List (PD × PD)) (es : List MapEntry) (i : Nat) (r : Option (Nat × PD)), es.length = l.length → (∀ (j : Nat) (k x : PD) (e : MapEntry), l[j]? = some (k, x) → es[j]? = some e → RepP w I k e.key ∧ RepP w I x e.val) → findM (.agg [.int .i64 a, .int .i64 b]) l i = some r →
    (r = none ∧ (Instr.findAsking kt (.agg #[.int .i64 a, .int .i64 b]) es i).run P w = .ok none w) ∨ ∃ j x e, r = some (i + j, x) ∧ (Instr.findAsking kt (.agg #[.int .i64 a, .int .i64 b]) es i).run P w = .ok (some (i + j, e.val)) w ∧ es[j]? = some e ∧ RepP w I x e.val ∧ e.key = .agg #[.int .i64 a, .int .i64 b]
  | [], es, i, r, hl, _, h => by
    have : es = [] := List.eq_nil_of_length_eq_zero hl
    subst this
    simp only [findM, Option.some.injEq] at h
    exact .inl ⟨h.symm, by simp [Instr.findAsking]⟩
  | (k', x) :: l, [], i, r, hl, _, h => by simp at hl
  | (k', x) :: l, en :: es, i, r, hl, hr, h => by
    obtain ⟨hk', hx⟩ := hr 0 k' x en rfl rfl
    simp only [findM] at h
    split at h
    · rename_i hsm
      injection h with h
      subst h
      obtain ⟨c, d, rfl, hse⟩ := sameK_two hsm
      have hsm := hse.symm
      have hkey := rep_two hk'
      have heq := two_eq (a := a) (b := b) (c := c) (d := d) hu he hi hs hg w
      rw [hsm] at heq
      simp only [Bool.and_eq_true, beq_iff_eq] at hsm
      obtain ⟨rfl, rfl⟩ := hsm
      exact .inr ⟨0, x, en, rfl, by simp [Instr.findAsking, hkey, heq], rfl, hx, hkey⟩
    · rename_i hsm
      obtain ⟨c, d, rfl, hse⟩ := sameK_two hsm
      have hsm := hse.symm
      have hkey := rep_two hk'
      have heq := two_eq (a := a) (b := b) (c := c) (d := d) hu he hi hs hg w
      rw [hsm] at heq
      rcases ask_sound hu he hi hs hg l es (i + 1) r (by simpa using hl) (fun j k x e a b => hr (j + 1) k x e (by simpa using a) (by simpa using b)) h with ⟨e1, e2⟩ | ⟨j, y, e0, e1, e2, e3, e4⟩
      · exact .inl ⟨e1, by simp [Instr.findAsking, hkey, heq, e2]⟩
      · exact .inr ⟨j + 1, y, e0, by rw [e1, show i + 1 + j = i + (j + 1) by omega], by simp [Instr.findAsking, hkey, heq, e2, show i + 1 + j = i + (j + 1) by omega], by simpa using e3, e4⟩
    · cases h

theorem findKey_sound {kt : TypeId} {k : PD} {v : Value} {I : Nat → Nat → Prop} (hk : keyOK P kt k = true) (hv : RepP w I k v) (l : List (PD × PD)) (es : List MapEntry) (r : Option (Nat × PD)) (hl : es.length = l.length)
    (hr : ∀ (j : Nat) (k x : PD) (e : MapEntry), l[j]? = some (k, x) → es[j]? = some e → RepP w I k e.key ∧ RepP w I x e.val) (h : findM k l 0 = some r) :
    (r = none ∧ (Instr.findKey kt v es).run P w = .ok none w) ∨ ∃ j x e, r = some (j, x) ∧ (Instr.findKey kt v es).run P w = .ok (some (j, e.val)) w ∧ es[j]? = some e ∧ RepP w I x e.val ∧ e.key = v ∧ Instr.sameBits 10000 v v = true := by
  rcases key_kinds hk with hp | ⟨e, ti, a, b, hu, he, hi, hs, hg, rfl⟩
  · have hkind : ∃ kind, P.underlying kt = some kind := by
      unfold plainK at hp
      cases hq : P.underlying kt with
      | none => rw [hq] at hp; simp at hp
      | some kind => exact ⟨kind, rfl⟩
    obtain ⟨kind, hkind⟩ := hkind
    rcases find_sound hp hkind hv l es 0 r hl hr h with ⟨e1, e2⟩ | ⟨j, x, e, e1, e2, e3⟩
    · exact .inl ⟨e1, by simp [Instr.findKey, run_underlying hkind, e2]⟩
    · rw [Nat.zero_add] at e1 e2
      exact .inr ⟨j, x, e, e1, by simp [Instr.findKey, run_underlying hkind, e2], e3⟩
  · have hv' := rep_two hv
    subst hv'
    have hbits : Instr.sameBits 10000 (.agg #[.int .i64 a, .int .i64 b]) (.agg #[.int .i64 a, .int .i64 b]) = true := by
      rw [show (10000 : Nat) = 9999 + 1 from rfl]
      simp [Instr.sameBits]
    have hnow : ∀ e0 : MapEntry, ∀ es0, Instr.findNow (.array 2 e) (.agg #[.int .i64 a, .int .i64 b]) (e0 :: es0) 0 = none := fun e0 es0 => by simp [Instr.findNow, Instr.sameNow]
    have hfk : ∀ x, (Instr.findAsking kt (.agg #[.int .i64 a, .int .i64 b]) es 0).run P w = .ok x w → (Instr.findKey kt (.agg #[.int .i64 a, .int .i64 b]) es).run P w = .ok x w := fun x hx => by
      cases es with
      | nil => simpa [Instr.findKey, run_underlying hu, Instr.findNow, Instr.findAsking] using hx
      | cons e0 es0 => simp [Instr.findKey, run_underlying hu, hnow, hx]
    rcases ask_sound hu he hi hs hg l es 0 r hl hr h with ⟨e1, e2⟩ | ⟨j, x, e0, e1, e2, e3, e4, e5⟩
    · exact .inl ⟨e1, hfk _ e2⟩
    · rw [Nat.zero_add] at e1 e2
      exact .inr ⟨j, x, e0, e1, hfk _ e2, e3, e4, e5, hbits⟩

theorem arr_checked {kt e : TypeId} {cs : Array Value} {i : TypeInfo} (hu : P.underlying kt = some (.array 2 e)) (he : P.underlying e = some (.int .i64)) (hi : P.info? e = some i) (hs : i.size = 1) (hc : cs.size = 2) (em : Bool) (n : Nat) (w : World) :
    (Instr.checkKey em (n + 2) kt (.agg cs)).run P w = .ok () w := by
  have hz : ∀ w, (Go.sizeOf e).run P w = .ok 1 w := fun w => by simp [Go.sizeOf, typeInfo, hi, hs]
  have hag : ∀ w, (isAgg e).run P w = .ok false w := fun w => by simp [isAgg, run_underlying he]
  have h0 : cs[0]? = some cs[0] := by simp [hc]
  have h1 : cs[1]? = some cs[1] := by simp [hc]
  have hk : ∀ v w, (Instr.checkKey em (n + 1) e v).run P w = .ok () w := fun v w => by simp [Instr.checkKey, run_underlying he]
  rw [Instr.checkKey]
  have hr : List.range' 0 2 = [0, 1] := rfl
  simp [run_underlying hu, hr, hz, hag, part, h0, h1, hk, Result.andThen]

theorem key_plain {kt : TypeId} {k : PD} {v : Value} {I : Nat → Nat → Prop} (hk : plainK P kt k = true) (hv : RepP w I k v) (em : Bool) : ∃ kind, P.underlying kt = some kind ∧ ∀ w', (Instr.checkKey em 10000 kt v).run P w' = .ok () w' := by
  have go : ∀ kind, P.underlying kt = some kind → (∀ n w', (Instr.checkKey em (n + 1) kt v).run P w' = .ok () w') → ∃ kind, P.underlying kt = some kind ∧ ∀ w', (Instr.checkKey em 10000 kt v).run P w' = .ok () w' :=
    fun kind h1 h2 => ⟨kind, h1, fun w' => h2 9999 w'⟩
  unfold plainK at hk
  split at hk
  · rename_i kk a b hkk
    cases hv
    exact go _ hkk fun n w' => by simp [Instr.checkKey, run_underlying hkk]
  · rename_i s hkk
    cases hv
    exact go _ hkk fun n w' => by simp [Instr.checkKey, run_underlying hkk]
  · rename_i s hkk
    cases hv
    exact go _ hkk fun n w' => by simp [Instr.checkKey, run_underlying hkk]
  · cases hk

theorem key_checked {kt : TypeId} {k : PD} {v : Value} {I : Nat → Nat → Prop} (hk : keyOK P kt k = true) (hv : RepP w I k v) (em : Bool) : ∃ kind, P.underlying kt = some kind ∧ ∀ w', (Instr.checkKey em 10000 kt v).run P w' = .ok () w' := by
  rcases key_kinds hk with hp | ⟨e, ti, a, b, hu, he, hi, hs, hg, rfl⟩
  · exact key_plain hp hv em
  · have hv' := rep_two hv
    subst hv'
    exact ⟨_, hu, fun w' => arr_checked hu he hi hs rfl em 9998 w'⟩

theorem map_of {d : D} {v : Value} {i : Nat} {l : List (PD × PD)} (hi : Inv w g H) (hd : RepD w g H.A d v) (h : mapOf H d = some (i, l)) :
    ∃ b es clock, v = .map (some b) ∧ g.B[i]? = some (some b) ∧ H.B[i]? = some (.mset l) ∧ w.heap[b]? = some (.map es clock) ∧ es.size = l.length ∧
      ∀ (j : Nat) (k x : PD) (e : MapEntry), l[j]? = some (k, x) → es.toList[j]? = some e → RepP w g.I k e.key ∧ RepP w g.I x e.val := by
  unfold mapOf at h
  split at h
  case h_2 => cases h
  split at h
  case h_2 => cases h
  rename_i i' l' hb
  simp only [Option.some.injEq, Prod.mk.injEq] at h
  obtain ⟨rfl, rfl⟩ := h
  cases hd with
  | mp _ b hg =>
    obtain ⟨es, clock, h1, h2, h3⟩ := hi.blk _ _ b hb hg
    exact ⟨b, es, clock, rfl, hg, hb, h1, h2, fun j k x e a b => h3 j k x e a (by simpa using b)⟩

theorem lookup_sound (hi : Inv w g H) {t : TypeId} {m k : D} {vm vk : Value} {ok : Bool} {d : D} (hm : RepD w g H.A m vm) (hk : RepD w g H.A k vk) (h : lookupD P H t m k ok = some d) :
    ∃ u, (Instr.lookup t vm vk ok).run P w = .ok u w ∧ RepD w g H.A d u := by
  unfold lookupD at h
  split at h
  case h_2 => cases h
  rename_i kt et i l kp hu hmo hkp
  obtain ⟨b, es, clock, rfl, hg, hb, hh, hsz, hrep⟩ := map_of hi hm hmo
  have hkr := pd_sound hi _ _ _ hk hkp
  by_cases hko : keyOK P kt kp = true
  · rw [if_pos hko] at h
    obtain ⟨kind, hkind, hck⟩ := key_checked (P := P) hko hkr es.isEmpty
    have hgo : (getObj b).run P w = .ok (.map es clock) w := by simp [getObj, Sem.run, hh]
    split at h
    · rename_i z j x hf hz
      rcases findKey_sound hko hkr l es.toList _ (by simpa using hsz) hrep hf with ⟨e1, _⟩ | ⟨j0, x0, e, e1, e2, e3, e4, e5, _⟩
      · cases e1
      · simp only [Option.some.injEq, Prod.mk.injEq] at e1
        obtain ⟨rfl, rfl⟩ := e1
        injection h with h
        subst h
        have hrun : (Instr.lookup t (.map (some b)) vk ok).run P w = .ok (if ok = true then .tuple #[e.val, .bool true] else e.val) w := by
          simp [Instr.lookup, run_underlying hu, hgo, hck, e2]
        refine ⟨_, hrun, ?_⟩
        cases ok with
        | false => exact .p _ _ e4
        | true => exact tup_two (.p _ _ e4) (.p _ _ (.bool true))
    · rename_i z hf hz
      rcases findKey_sound hko hkr l es.toList _ (by simpa using hsz) hrep hf with ⟨_, e2⟩ | ⟨j0, x0, e, e1, _⟩
      · injection h with h
        subst h
        have hrun : (Instr.lookup t (.map (some b)) vk ok).run P w = .ok (if ok = true then .tuple #[z, .bool false] else z) w := by
          simp [Instr.lookup, run_underlying hu, hgo, hck, e2, run_zeroOf hz]
        refine ⟨_, hrun, ?_⟩
        cases ok with
        | false => exact constD_sound _ _ _ _
        | true => exact tup_two (constD_sound _ _ _ _) (.p _ _ (.bool false))
      · cases e1
    · cases h
  · rw [if_neg hko] at h
    simp at h

theorem upd_sound (hi : Inv w g H) {t : TypeId} {m k v : D} {vm vk vv : Value} {H' : Hp} (hm : RepD w g H.A m vm) (hk : RepD w g H.A k vk) (hv : RepD w g H.A v vv) (h : updD P H t m k v = some H') :
    ∃ w' g', (Instr.mapUpdate t vm vk vv).run P w = .ok () w' ∧ Inv w' g' H' ∧ Ext w g H.A w' g' H'.A := by
  unfold updD at h
  split at h
  case h_2 => cases h
  rename_i kt et i l kp xp hu hmo hkp hxp
  obtain ⟨b, es, clock, rfl, hg, hb, hh, hsz, hrep⟩ := map_of hi hm hmo
  have hkr := pd_sound hi _ _ _ hk hkp
  have hxr := pd_sound hi _ _ _ hv hxp
  by_cases hko : keyOK P kt kp = true
  · rw [if_pos hko] at h
    obtain ⟨kind, hkind, hck⟩ := key_checked (P := P) hko hkr false
    have hgo : (getObj b).run P w = .ok (.map es clock) w := by simp [getObj, Sem.run, hh]
    have hlt : b < w.heap.size := (Array.getElem?_eq_some_iff.1 hh).1
    have hset : ∀ o, (setObj b o).run P w = .ok () { w with heap := w.heap.setIfInBounds b o } := fun o => by simp [setObj, Sem.run, hh]
    split at h
    case h_2 => cases h
    rename_i r hf
    injection h with h
    subst h
    have fin : ∀ es' clock', es'.size = (putM l kp xp r).length → (∀ (j : Nat) (k x : PD) (e : MapEntry), (putM l kp xp r)[j]? = some (k, x) → es'.toList[j]? = some e → RepP w g.I k e.key ∧ RepP w g.I x e.val) →
        Inv { w with heap := w.heap.setIfInBounds b (.map es' clock') } g { H with B := H.B.set i (.mset (putM l kp xp r)) } ∧ Ext w g H.A { w with heap := w.heap.setIfInBounds b (.map es' clock') } g H.A := fun es' clock' hs' hr' =>
      hi.setB (bk' := .mset (putM l kp xp r)) hg (fun k hk => by simp [Array.getElem?_setIfInBounds_ne (Ne.symm hk)]) (by simp) rfl rfl (.same rfl rfl) fun he =>
        ⟨es', clock', by simp [hlt], hs', fun j k x e h1 h2 => let ⟨r1, r2⟩ := hr' j k x e h1 (by simpa using h2); ⟨r1.same he.same, r2.same he.same⟩⟩
    rcases findKey_sound hko hkr l es.toList _ (by simpa using hsz) hrep hf with ⟨rfl, e2⟩ | ⟨j0, x0, e, rfl, e2, e3, e4, e5, e6⟩
    · obtain ⟨h1, h2⟩ := fin (es.push { key := vk, val := vv, born := clock }) (clock + 1) (by simp [putM, hsz]) fun j k x e h1 h2 => by
        simp only [putM] at h1
        rcases Nat.lt_trichotomy j l.length with hj | rfl | hj
        · rw [List.getElem?_append_left hj] at h1
          refine hrep j k x e h1 ?_
          rw [Array.toList_push, List.getElem?_append_left (by simpa [hsz] using hj)] at h2
          exact h2
        · rw [List.getElem?_append_right (Nat.le_refl _)] at h1
          rw [Array.toList_push, List.getElem?_append_right (by simp [hsz])] at h2
          simp [hsz] at h1 h2
          obtain ⟨rfl, rfl⟩ := h1
          subst h2
          exact ⟨hkr, hxr⟩
        · rw [List.getElem?_eq_none (by simp; omega)] at h1
          cases h1
      refine ⟨_, g, ?_, h1, h2⟩
      simp [Instr.mapUpdate, run_underlying hu, hgo, hck, e2, hset]
    · skip
      have hj0 : j0 < es.size := by have := (List.getElem?_eq_some_iff.1 e3).1; simpa using this
      obtain ⟨h1, h2⟩ := fin (es.modify j0 fun e => { e with key := vk, val := vv }) clock (by simp [putM, hsz]) fun j k x e h1 h2 => by
        simp only [putM] at h1
        rw [Array.getElem?_toList, Array.getElem?_modify] at h2
        rw [List.getElem?_set] at h1
        by_cases hj : j0 = j
        · subst hj
          rw [if_pos rfl] at h1 h2
          rw [if_pos (by rw [← hsz]; exact hj0)] at h1
          simp only [Option.some.injEq, Prod.mk.injEq] at h1
          obtain ⟨rfl, rfl⟩ := h1
          obtain ⟨e', _, rfl⟩ := Option.map_eq_some_iff.1 h2
          exact ⟨hkr, hxr⟩
        · rw [if_neg hj] at h1 h2
          exact hrep j k x e h1 (by simpa using h2)
      refine ⟨_, g, ?_, h1, h2⟩
      have e3' : es[j0]? = some e := by simpa using e3
      have hks : ((es[j0]?.map (·.key)).getD vk) = vk := by rw [e3']; exact e5
      simp [Instr.mapUpdate, run_underlying hu, hgo, hck, e2, hset, e3', e5, Instr.keyThatStays, e6]
  · rw [if_neg hko] at h
    simp at h

theorem RepP.cells_at {w : World} {I : Nat → Nat → Prop} {x : PD} {v : Value} (h : RepP w I x v) : v.cells.size = x.cells.length ∧ ∀ (c : Nat) (y : PD) (u : Value), x.cells[c]? = some y → v.cells[c]? = some u → RepP w I y u := by
  have one : ∀ (x : PD) (v : Value), x.cells = [x] → v.cells = #[v] → RepP w I x v → v.cells.size = x.cells.length ∧ ∀ (c : Nat) (y : PD) (u : Value), x.cells[c]? = some y → v.cells[c]? = some u → RepP w I y u := fun x v h1 h2 h => by
    rw [h1, h2]
    refine ⟨rfl, fun c y u a b => ?_⟩
    match c with
    | 0 => simp at a b; subst a; subst b; exact h
    | c + 1 => simp at a
  cases h with
  | agg l cs hs hr => exact ⟨hs, hr⟩
  | int k n => exact one _ _ rfl rfl (.int k n)
  | bool b => exact one _ _ rfl rfl (.bool b)
  | str s => exact one _ _ rfl rfl (.str s)
  | nilI => exact one _ _ rfl rfl .nilI
  | nilF => exact one _ _ rfl rfl .nilF
  | nilP => exact one _ _ rfl rfl .nilP
  | nilM => exact one _ _ rfl rfl .nilM
  | fn f => exact one _ _ rfl rfl (.fn f)
  | ifc t x v h => exact one _ _ rfl rfl (.ifc t x v h)
  | nil a cap => exact one _ _ rfl rfl (.nil a cap)
  | sl l b o cap sz f h1 h2 h3 h4 h5 => exact one _ _ rfl rfl (.sl l b o cap sz f h1 h2 h3 h4 h5)

theorem num_of {d : D} {v : Value} {n : Int} (hd : RepD w g H.A d v) (h : numD d = some n) : ∃ k, v = .int k n := by
  unfold numD at h
  split at h
  · injection h with h
    subst h
    cases hd with
    | p _ _ h => cases h; exact ⟨_, rfl⟩
  · cases h

theorem makeSlice_sound (hi : Inv w g H) {t : TypeId} {n c : D} {vn vc : Value} {r : Nx} (hn : RepD w g H.A n vn) (hc : RepD w g H.A c vc) (h : makeSliceD P H t n c = some r) :
    Good P w g H.A (do pure (Next.value (← Instr.makeSlice t vn vc))) r := by
  unfold makeSliceD at h
  split at h
  case h_2 => cases h
  rename_i e a b he ha hb
  split at h
  case h_2 => cases h
  rename_i sz by_ zp hsz hby hzp
  split at h
  case isFalse => cases h
  rename_i hcond
  obtain ⟨rfl, h0, hroom, hmax, hpos, hzok, hzl⟩ := hcond
  injection h with h
  subst h
  obtain ⟨kn, rfl⟩ := num_of hn ha
  obtain ⟨kc, rfl⟩ := num_of hc hb
  have hu : P.underlying t = some (.slice e) := by
    unfold elemOf at he
    split at he
    · injection he with he; subst he; assumption
    · cases he
  obtain ⟨i, z, hinfo, hz, hzo, hzs⟩ := zOK_size hzok
  obtain rfl : i.size = sz := by simpa [szOf, hinfo] using hsz
  obtain rfl : i.bytes = by_ := by simpa [byOf, hinfo] using hby
  rw [hzo] at hzp
  have hzr := pd_sound hi _ _ _ (constD_sound w g H.A z) hzp
  obtain ⟨hcs, hcell⟩ := RepP.cells_at hzr
  obtain ⟨m, rfl⟩ : ∃ m : Nat, a = m := ⟨a.toNat, by omega⟩
  simp only [Int.toNat_natCast] at hroom ⊢
  have hwr : IntKind.i64.wrap (m : Int) = m := by simp [IntKind.wrap, IntKind.bits, IntKind.signed]; omega
  have hby2 : (i.bytes : Int) * (m : Int) ≤ 140737488355328 := by
    have := Int.ofNat_le.2 hroom
    rw [Int.natCast_mul] at this
    rw [Int.mul_comm]; exact this
  obtain ⟨zc, hzc⟩ : ∃ zc : Array Value, zc = (if m * i.size = 0 then #[] else z.cells) := ⟨_, rfl⟩
  let arr : Array Value := (Array.range (m * i.size)).map fun k => zc[k % zc.size]!
  have hasz : arr.size = m * i.size := by simp [arr]
  have hrun : (Instr.makeSlice t (.int kn m) (.int kc m)).run P w = .ok (.slice (some ⟨w.heap.size, 0, none⟩) m m) (w.alloc (.cells arr e (0, 0))) := by
    have e1 : ¬ ((m : Int) < 0 ∨ (281474976710656 : Int) < (i.bytes : Int) * (m : Int)) := by omega
    have e2 : ¬ 140737488355328 < m * i.bytes := by omega
    have e3 : ¬ (m : Int) < 0 := by omega
    have e4 : ¬ (281474976710656 : Int) < (i.bytes : Int) * (m : Int) := by omega
    by_cases hz0 : m * i.size = 0
    · have hz1 : m = 0 ∨ i.size = 0 := Nat.mul_eq_zero.1 hz0
      rw [if_pos hz0] at hzc
      simp [Instr.makeSlice, run_underlying hu, asInt, asIntOf, typeInfo, hinfo, hwr, e3, e4, askRoom, roomBytes, e2, sizeOf, hz1, Go.newRow, World.alloc_eq, arr, hz0, hzc]
    · have hz1 : ¬ (m = 0 ∨ i.size = 0) := fun h => hz0 (Nat.mul_eq_zero.2 h)
      rw [if_neg hz0] at hzc
      simp [Instr.makeSlice, run_underlying hu, asInt, asIntOf, typeInfo, hinfo, hwr, e3, e4, askRoom, roomBytes, e2, sizeOf, hz1, Go.newRow, World.alloc_eq, arr, hz0, hzc, run_zeroOf hzo]
  have key := hi.newA (grows_alloc w (.cells arr e (0, 0))) (ar := ⟨0, e, i.size, false, false, List.replicate m zp⟩) (q := some (w.heap.size, m)) g.I (fun _ _ h => h) (fun _ _ h => .inl h)
    (fun b cap h => by injection h with h; simp only [Prod.mk.injEq] at h; obtain ⟨rfl, rfl⟩ := h; exact ⟨Nat.le_refl _, by simp [alloc_heap]⟩) hpos
    (fun hsame => ⟨rfl, by omega, arr, by rw [alloc_heap]; simp, hasz, by simp, fun e' he' => by rw [(List.mem_replicate.1 he').2]; exact hzl, fun j c e' x he' hx => by
      have hj : j < m := by have := (List.getElem?_eq_some_iff.1 he').1; simpa using this
      have hep : e' = zp := by have := List.mem_of_getElem? he'; exact (List.mem_replicate.1 this).2
      subst hep
      have hc4 : c < i.size := by have := (List.getElem?_eq_some_iff.1 hx).1; rw [hzl] at this; exact this
      have hjc : j * i.size + c < m * i.size := by
        have : j * i.size + i.size ≤ m * i.size := by rw [← Nat.succ_mul]; exact Nat.mul_le_mul_right _ hj
        omega
      have hne : ¬ m * i.size = 0 := by omega
      rw [if_neg hne] at hzc
      have hzcs : zc.size = i.size := by rw [hzc]; exact hzs
      have hmod : (j * i.size + c) % zc.size = c := by rw [hzcs, Nat.mul_comm, Nat.mul_add_mod, Nat.mod_eq_of_lt hc4]
      refine ⟨z.cells[c]'(by rw [hzs]; exact hc4), ?_, (hcell c x _ hx (Array.getElem?_eq_getElem _)).same hsame⟩
      simp only [arr, Array.getElem?_map, Array.getElem?_range, hjc, if_true, Option.map_some, hmod]
      rw [hzc, getElem!_pos z.cells c (by rw [hzs]; exact hc4)], fun h => by cases h⟩)
  refine ⟨_, _, _, run_v hrun, .own _ _ _ (by simp) ⟨_, _, _, rfl⟩ fun ar har => ?_, key.1, key.2⟩
  simp only [List.getElem?_append_right (Nat.le_refl _), Nat.sub_self, List.getElem?_cons_zero, Option.some.injEq] at har
  subst har
  exact ⟨Nat.le_refl _, fun _ => ⟨some (w.heap.size, m), by simp [← hi.lenA], by simp [ownV]⟩⟩
end
end Go.Vi
end

section
/- Vi, part 15: every operation of the evaluator is what the machine does: together. No conditions. -/
namespace Go.Vi
open Go Go.Lib

section
variable {P : Program} {w : World} {g : Gh} {F : Fr} {H : Hp} {a : Act} {N : Fm}

theorem range_sound (hi : Inv w g H) {t : TypeId} {s : ByteArray} (hu : P.underlying t = some .string) :
    Good P w g H.A (do pure (Next.value (← Instr.range t (.string s)))) (.val (.ptr H.B.length 0) { H with B := H.B ++ [.sit s 0] }) := by
  obtain ⟨hi', he⟩ := hi.allocB (.sit s 0) (.stringIter s 0) fun w' g' he hb => hb
  refine ⟨.pointer (some ⟨w.heap.size, 0, none⟩), _, _, run_v ?_, .ptr _ _ _ (by simp [← hi.lenB]), hi', he⟩
  simp [Instr.range, run_underlying hu, World.alloc_eq]

theorem tup_of {A : List Arr} {l : List D} {cs : List Value} (h : PW w g A l cs) : RepD w g A (.tup l) (.tuple cs.toArray) :=
  .tup _ _ (by simpa using h.1) fun i x v hx hv => h.2 i x v hx (by simpa using hv)

theorem PW.nil {A : List Arr} : PW w g A [] [] := ⟨rfl, fun j d v h => by simp at h⟩

theorem next_sound (hi : Inv w g H) {i pos : Nat} {s : ByteArray} {v : Value} {ty : TypeId} (hd : RepD w g H.A (.ptr i 0) v) (hb : H.B[i]? = some (.sit s pos)) :
    (pos < s.size → Good P w g H.A (do pure (Next.value (← Instr.next v true ty))) (.val (.tup [.p (.bool true), .p (.int .i64 pos), .p (.int .i32 (Utf8.decode s pos).1)])
      { H with B := H.B.set i (.sit s (pos + (Utf8.decode s pos).2)) })) ∧
    (¬ pos < s.size → Good P w g H.A (do pure (Next.value (← Instr.next v true ty))) (.val (.tup [.p (.bool false)]) H)) := by
  cases hd with
  | ptr _ _ b hg =>
    have hbk : w.heap[b]? = some (.stringIter s pos) := hi.blk i _ b hb hg
    have hlt : b < w.heap.size := (Array.getElem?_eq_some_iff.1 hbk).1
    constructor
    · intro hp
      have key := hi.setB (w' := { w with heap := w.heap.setIfInBounds b (.stringIter s (pos + (Utf8.decode s pos).2)) }) (bk' := .sit s (pos + (Utf8.decode s pos).2)) hg
        (fun k hk => by simp [Array.getElem?_setIfInBounds_ne (Ne.symm hk)]) (by simp) rfl rfl (.same rfl rfl) (fun _ => by simp [BlkRep, hlt])
      refine ⟨.tuple #[.bool true, .int .i64 pos, .int .i32 (Utf8.decode s pos).1], _, g, run_v (w' := { w with heap := w.heap.setIfInBounds b (.stringIter s (pos + (Utf8.decode s pos).2)) }) ?_, ?_, key.1, key.2⟩
      · simp [Instr.next, getObj, Sem.run, hbk, hp, setObj, goInt]
      · exact tup_of (PW.cons (.p _ _ (.bool _)) (PW.cons (.p _ _ (.int _ _)) (PW.cons (.p _ _ (.int _ _)) PW.nil)))
    · intro hp
      refine good_v hi (v := .tuple #[.bool false]) ?_ (tup_of (PW.cons (.p _ _ (.bool _)) PW.nil))
      simp [Instr.next, getObj, Sem.run, hbk, hp]

theorem exec_sound (hs : Sim w g F H a N) {hn : Hints} {mu : Bool} {m : Mk} {o : Oper} {r : Nx} (h : exec P hn mu m F H o = some r) : Good P w g H.A (execOp a.eval o) r := by
  have hi := hs.inv
  obtain ⟨dst, op, type, pos, after, guard⟩ := o
  cases op <;> simp only [exec] at h <;> simp only [execOp]
  case move x =>
    injection h with h
    subst h
    exact good_val hi rfl (opd_sound hs x)
  case assign x =>
    split at h
    · split at h
      · rename_i e he
        split at h
        · rename_i sz hsz
          split at h
          · rename_i h0
            injection h with h
            subst h
            have key := hi.newA (grows_refl w) (ar := ⟨0, e, sz, true, !(mu || hn.mutT type), []⟩) (q := none) g.I (fun _ _ h => h) (fun _ _ h => .inl h) (fun b cap h => by cases h) h0 (fun _ => ⟨rfl, rfl⟩)
            refine ⟨.slice none 0 0, w, _, rfl, .own _ _ _ (by simp) ⟨_, _, _, rfl⟩ fun ar har => ?_, key.1, key.2⟩
            simp only [List.getElem?_append_right (Nat.le_refl _), Nat.sub_self, List.getElem?_cons_zero, Option.some.injEq] at har
            subst har
            exact ⟨Nat.le_refl _, fun _ => ⟨none, by simp [← hi.lenA], rfl⟩⟩
          · cases h
        · cases h
      · cases h
    · injection h with h
      subst h
      exact good_val hi rfl (opd_sound hs x)
  case pick c x y =>
    split at h
    · rename_i t ht
      injection h with h
      subst h
      have := opd_sound hs c
      rw [ht] at this
      rw [inv_bool this]
      refine good_val hi (by simp [asBool]; rfl) ?_
      cases t
      · simpa using opd_sound hs y
      · simpa using opd_sound hs x
    · cases h
  case alloc t =>
    split at h
    · rename_i z hz
      split at h
      · rename_i hc
        injection h with h
        subst h
        refine box_sound hi t (constD_sound w g H.A z) (by simpa using hc) _ (run_v ?_)
        simp [Instr.alloc, run_zeroOf hz, newVar, Go.newRow, World.alloc_eq]
      · cases h
    · cases h
  case box t x =>
    split at h
    · rename_i hc
      injection h with h
      subst h
      exact box_sound hi t (opd_sound hs x) (by simpa using hc) _ (run_v (box_run t _))
    · cases h
  case build t parts =>
    simp only [Option.map_eq_some_iff] at h
    obtain ⟨d, hd, rfl⟩ := h
    obtain ⟨v, hv, hr⟩ := build_sound hs hd
    exact good_v hi hv hr
  case buildSlice t n parts =>
    simp only [Option.map_eq_some_iff] at h
    obtain ⟨d, hd, rfl⟩ := h
    obtain ⟨v, w', g', hv, hr, h1, h2⟩ := buildSlice_sound hs hd
    exact ⟨v, w', g', run_v hv, hr, h1, h2⟩
  case load t x =>
    split at h
    · rename_i ag n hag hn'
      simp only [Option.map_eq_some_iff] at h
      obtain ⟨d, hd, rfl⟩ := h
      obtain ⟨v, hv, hr⟩ := load_sound hi hag hn' (opd_sound hs x) hd
      exact good_v hi hv hr
    · cases h
  case store t x y =>
    split at h
    · rename_i n hn'
      simp only [Option.map_eq_some_iff] at h
      obtain ⟨H', hH, rfl⟩ := h
      obtain ⟨w', g', hv, h1, h2⟩ := store_sound hi hn' (opd_sound hs x) (opd_sound hs y) hH
      exact ⟨w', g', run_u hv, h1, h2⟩
    · cases h
  case nilCheck x =>
    have hx := opd_sound hs x
    split at h
    · rename_i i off hd
      injection h with h
      subst h
      rw [hd] at hx
      generalize a.eval x = v at hx ⊢
      cases hx with
      | ptr _ _ b hb => exact good_val hi rfl (.ptr _ _ _ hb)
    · rename_i f hd
      injection h with h
      subst h
      rw [hd] at hx
      generalize a.eval x = v at hx ⊢
      cases hx with
      | p _ _ hx => cases hx; exact good_val hi rfl (.p _ _ (.fn _))
    · rename_i f cs hd
      injection h with h
      subst h
      rw [hd] at hx
      generalize a.eval x = v at hx ⊢
      cases hx with
      | fn _ _ us h1 h2 => exact good_val hi rfl (.fn _ _ _ h1 h2)
    · cases h
  case binOp op t x y ty =>
    simp only [Option.map_eq_some_iff] at h
    obtain ⟨d, hd, rfl⟩ := h
    obtain ⟨v, hv, hr⟩ := bin_sound hs hd
    exact good_v hi hv hr
  case unOp op t x =>
    split at h
    · rename_i y hy
      simp only [Option.map_eq_some_iff] at h
      obtain ⟨q, hq, rfl⟩ := h
      have hx := opd_sound hs x
      rw [hy] at hx
      generalize a.eval x = v at hx ⊢
      cases hx with
      | p _ _ hx =>
        obtain ⟨u, hu, hr⟩ := unP_sound (P := P) hx hq
        exact good_v hi hu (.p _ _ hr)
    · cases h
  case convert s d x =>
    simp only [Option.map_eq_some_iff] at h
    obtain ⟨q, hq, rfl⟩ := h
    cases hp : D.pd? H.A (opd F x) with
    | none => rw [hp] at hq; simp [convD] at hq
    | some y =>
      rw [hp] at hq
      obtain ⟨u, hu, hr⟩ := conv_sound (P := P) (pd_sound hi _ _ _ (opd_sound hs x) hp) hq
      exact good_v hi hu (hr g H.A)
  case makeInterface t x =>
    split at h
    · cases h
    · cases h
    · rename_i td hne hnone
      obtain ⟨td, htd⟩ : ∃ td, P.underlying t = some td := by
        cases hx : P.underlying t with
        | none => exact absurd hx hnone
        | some td => exact ⟨td, rfl⟩
      have hrun : (Instr.makeInterface t (a.eval x)).run P w = .ok (.iface t (a.eval x)) w := by
        cases td <;> first | exact absurd htd (hne _) | simp [Instr.makeInterface, run_underlying htd]
      split at h
      · rename_i y hy
        injection h with h
        subst h
        exact good_v hi hrun (.p _ _ (.ifc _ _ _ (pd_sound hi _ _ _ (opd_sound hs x) hy)))
      · injection h with h
        subst h
        exact good_v hi hrun (.ifc _ _ _ (opd_sound hs x))
  case makeFunc fn first caps =>
    cases fn <;> simp only [reduceCtorEq] at h
    rename_i f
    split at h
    · rename_i hf
      injection h with h
      subst h
      have hfe : first = #[] := by simpa using hf
      subst hfe
      refine good_v hi (v := .func (.func f) #[] (caps.map a.eval)) (by simp [Instr.makeFunc]) ?_
      have e : caps.map a.eval = (caps.toList.map a.eval).toArray := by apply Array.ext'; simp
      rw [e]
      exact mkFn_sound f (pw_args hs caps.toList)
    · split at h
      · rename_i _ hc
        injection h with h
        subst h
        have hce : caps = #[] := by simpa using hc
        subst hce
        refine good_v hi (v := .func (.func f) (first.map a.eval) #[]) (by simp [Instr.makeFunc]) ?_
        have hp := pw_args hs first.toList
        refine .bnd f _ _ (by simp) fun i x v hx hv => hp.2 i x v hx ?_
        rw [← hv]
        simp
      · cases h
  case slice t x lo hi' mx =>
    cases mx with
    | none =>
      simp only [Option.map_eq_some_iff] at h
      obtain ⟨d, hd, rfl⟩ := h
      obtain ⟨v, hv, hr⟩ := slice_sound (P := P) hs hd
      exact good_v hi hv hr
    | some m =>
      simp only [Option.map_eq_some_iff] at h
      obtain ⟨d, hd, rfl⟩ := h
      obtain ⟨v, hv, hr⟩ := clip_sound (P := P) hs hd
      exact good_v hi hv hr
  case fieldAddr t x j =>
    split at h
    · rename_i off n ag hf
      split at h
      · cases h
      · rename_i hn0
        simp only [Option.map_eq_some_iff] at h
        obtain ⟨d, hd, rfl⟩ := h
        obtain ⟨b, o, hv, hr⟩ := fieldAddr_sound (opd_sound hs x) hd
        rw [hv]
        exact good_v hi (run_fieldAt hf hn0) hr
    · cases h
  case field t x j =>
    split at h
    · rename_i off n ag hf
      simp only [Option.map_eq_some_iff] at h
      obtain ⟨d, hd, rfl⟩ := h
      obtain ⟨ft, h1, h2, h3⟩ := run_field (P := P) (w := w) hf
      obtain ⟨cs, hv, u, hu, hr⟩ := part_sound (P := P) h1 h2 (opd_sound hs x) hd
      rw [hv]
      exact good_v hi (h3 cs u hu) hr
    · cases h
  case indexAddr t x ix =>
    split at h
    · rename_i n hn'
      simp only [Option.map_eq_some_iff] at h
      obtain ⟨d, hd, rfl⟩ := h
      obtain ⟨k, hk⟩ := num_sound (opd_sound hs ix) hn'
      obtain ⟨u, hu, hr⟩ := indexAddr_sound (P := P) (k := k) hi (opd_sound hs x) hd
      rw [hk]
      exact good_v hi hu hr
    · cases h
  case index t x ix =>
    split at h
    · rename_i n hn'
      simp only [Option.map_eq_some_iff] at h
      obtain ⟨d, hd, rfl⟩ := h
      obtain ⟨k, hk⟩ := num_sound (opd_sound hs ix) hn'
      obtain ⟨u, hu, hr⟩ := index_sound (P := P) (w := w) (k := k) (opd_sound hs x) hd
      rw [hk]
      exact good_v hi hu hr
    · cases h
  case range t x =>
    split at h
    · rename_i s hu hx
      injection h with h
      subst h
      have := opd_sound hs x
      rw [hx] at this
      rw [inv_str this]
      exact range_sound hi hu
    · cases h
  case next it is =>
    cases is <;> simp only [reduceCtorEq] at h
    split at h
    · rename_i i hd
      split at h
      · rename_i s pos' hb
        have hx := opd_sound hs it
        rw [hd] at hx
        split at h
        · rename_i hp
          injection h with h
          subst h
          exact (next_sound hi hx hb).1 hp
        · rename_i hp
          injection h with h
          subst h
          exact (next_sound hi hx hb).2 hp
      · cases h
    · cases h
  case typeAssert x xt at_ ok =>
    simp only [Option.map_eq_some_iff] at h
    obtain ⟨d, hd, rfl⟩ := h
    obtain ⟨v, hv, hr⟩ := assert_sound (P := P) (xt := xt) (opd_sound hs x) hd
    exact good_v hi hv hr
  case extract t i =>
    split at h
    · rename_i l hl
      simp only [Option.map_eq_some_iff] at h
      obtain ⟨d, hd, rfl⟩ := h
      have hx := opd_sound hs t
      rw [hl] at hx
      obtain ⟨v, hv, hr⟩ := extract_sound (P := P) hx hd
      exact good_v hi hv hr
    · cases h
  case panic x =>
    split at h
    · rename_i t v hv
      injection h with h
      subst h
      have hx := pd_sound hi _ _ _ (opd_sound hs x) hv
      refine ⟨a.eval x, ?_, hx⟩
      have := pan_iface (P := P) hx
      simp [this]
    · cases h
  case call c =>
    have e : c.args.map a.eval = (c.args.toList.map a.eval).toArray := by apply Array.ext'; simp
    have hpw := pw_args hs c.args.toList
    obtain ⟨callee, args, argTypes⟩ := c
    simp only at e hpw
    unfold opCall at h
    simp only at h
    cases callee with
    | builtin b =>
      simp only [resolve, e]
      cases b <;> simp only [reduceCtorEq] at h
      case len =>
        split at h
        · rename_i d t hargs hty
          have hat : argTypes = #[t] := by apply Array.ext'; simpa using hty
          subst hat
          rw [hargs] at hpw
          obtain ⟨v, hvs, hv⟩ := list_one hpw
          rw [hvs]
          split at h
          · rename_i hu
            simp only [Option.map_eq_some_iff] at h
            obtain ⟨n, hn', rfl⟩ := h
            refine good_val hi (v := .int .i64 n) ?_ (.p _ _ (.int .i64 n))
            simp [invoke, builtin, len_str hv hn' hu]
          · rename_i el hu
            simp only [Option.map_eq_some_iff] at h
            obtain ⟨n, hn', rfl⟩ := h
            refine good_val hi (v := .int .i64 n) ?_ (.p _ _ (.int .i64 n))
            simp [invoke, builtin, len_sl hi hv hn' hu]
          · cases h
        · cases h
      case append =>
        split at h
        · rename_i s x t u hargs hty
          have hat : argTypes = #[t, u] := by apply Array.ext'; simpa using hty
          subst hat
          rw [hargs] at hpw
          obtain ⟨v, u', hvs, hv, hu'⟩ := list_two hpw
          rw [hvs]
          split at h
          · rename_i hu
            exact append_sound hi hu (fun k e => by cases e) hv hu' h (ty := type) _ fun v' w' hr => by simp [invoke, builtin, hr]
          · rename_i el hu
            exact append_sound hi hu (fun k e => by cases e) hv hu' h (ty := type) _ fun v' w' hr => by simp [invoke, builtin, hr]
          · cases h
        · cases h
      case max =>
        split at h
        · rename_i k x k' y hargs
          split at h
          · injection h with h
            subst h
            rw [hargs] at hpw
            obtain ⟨v, u', hvs, hv, hu'⟩ := list_two hpw
            rw [hvs, inv_int hv, inv_int hu']
            exact good_val hi (by simp [invoke, builtin, run_max_int2]) (.p _ _ (.int _ _))
          · cases h
        · cases h
      case min =>
        split at h
        · rename_i k x k' y hargs
          split at h
          · injection h with h
            subst h
            rw [hargs] at hpw
            obtain ⟨v, u', hvs, hv, hu'⟩ := list_two hpw
            rw [hvs, inv_int hv, inv_int hu']
            exact good_val hi (by simp [invoke, builtin, run_min_int2]) (.p _ _ (.int _ _))
          · cases h
        · cases h
    | invoke rcv name =>
      simp only [resolve, e]
      simp only at h
      have hr := opd_sound hs rcv
      split at h
      · rename_i t v hd
        rw [hd] at hr
        split at h
        · rename_i f hf
          generalize a.eval rcv = rv at hr ⊢
          cases hr with
          | p _ _ hr =>
            cases hr with
            | ifc _ _ u hu =>
              refine call_sound hi (vs := u :: args.toList.map a.eval) (PW.cons (.p _ _ hu) hpw) h ?_
              have hm := run_method (P := P) (w := w) (v := u) hf (P.types.size + 99)
              have hfu : P.types.size + 99 + 1 = P.types.size + Made.depth := rfl
              rw [hfu] at hm
              simp [invoke, callMethod, hm, List.take_of_length_le]
        · cases h
      · rename_i t v hd
        rw [hd] at hr
        split at h
        · rename_i f hf
          generalize a.eval rcv = rv at hr ⊢
          cases hr with
          | ifc _ _ u hu =>
            refine call_sound hi (vs := u :: args.toList.map a.eval) (PW.cons hu hpw) h ?_
            have hm := run_method (P := P) (w := w) (v := u) hf (P.types.size + 99)
            have hfu : P.types.size + 99 + 1 = P.types.size + Made.depth := rfl
            rw [hfu] at hm
            simp [invoke, callMethod, hm, List.take_of_length_le]
        · cases h
      · cases h
    | value f =>
      simp only [resolve, e]
      simp only at h
      have hf := opd_sound hs f
      split at h
      · rename_i i hd
        rw [hd] at hf
        generalize a.eval f = v at hf ⊢
        cases hf with
        | yld _ b hb =>
          refine yield_sound hi hb hpw h ?_
          simp [Deferred.ofValue, invoke]
      · rename_i gf fs hd
        rw [hd] at hf
        generalize a.eval f = v at hf ⊢
        cases hf with
        | bnd _ _ cs hs' hr =>
          have hpc : PW w g H.A fs cs.toList := ⟨by simpa using hs', fun j d v hd hv => hr j d v hd (by simpa using hv)⟩
          refine call_sound hi (vs := cs.toList ++ args.toList.map a.eval) (hpc.append hpw) h ?_
          have e2 : cs ++ (args.toList.map a.eval).toArray = (cs.toList ++ args.toList.map a.eval).toArray := by apply Array.ext'; simp
          rw [← e2]
          simp [Deferred.ofValue, invoke]
      · split at h
        · rename_i gf caps hcaps
          obtain ⟨cs, hv, hpc⟩ := caps_sound hf hcaps
          rw [hv]
          refine call_sound hi (vs := args.toList.map a.eval ++ cs.toList) (hpw.append hpc) h ?_
          have e2 : (args.toList.map a.eval).toArray ++ cs = (args.toList.map a.eval ++ cs.toList).toArray := by apply Array.ext'; simp
          rw [← e2]
          simp [Deferred.ofValue, invoke]
        · cases h
  case makeMap t r0 =>
    cases r0 with
    | none =>
      simp only [Option.some.injEq] at h
      subst h
      exact makeMap_sound hi t
    | some _ => cases h
  case lookup t x ix ok =>
    simp only [Option.map_eq_some_iff] at h
    obtain ⟨d, hd, rfl⟩ := h
    obtain ⟨u, hu, hr⟩ := lookup_sound hi (opd_sound hs x) (opd_sound hs ix) hd
    exact good_v hi hu hr
  case mapUpdate t x ix v =>
    simp only [Option.map_eq_some_iff] at h
    obtain ⟨H', hd, rfl⟩ := h
    obtain ⟨w', g', hu, h1, h2⟩ := upd_sound hi (opd_sound hs x) (opd_sound hs ix) (opd_sound hs v) hd
    exact ⟨w', g', run_u hu, h1, h2⟩
  case makeSlice t n c => exact makeSlice_sound hi (opd_sound hs n) (opd_sound hs c) h
  all_goals cases h
end
end Go.Vi
end
