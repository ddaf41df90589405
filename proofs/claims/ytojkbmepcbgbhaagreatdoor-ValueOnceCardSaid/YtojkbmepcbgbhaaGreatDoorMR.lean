/- It is proved here how arguments of the laws are read as data of the evaluator; conditions stand with each. -/
import Derived.Test.YtojkbmepcbgbhaaGreatDoorMF
import Derived.WalkKit
import Derived.ProofKit
import Derived.OpenShut
import Derived.ShutString
import Derived.ChangeOld
import Derived.Below
import Derived.SizedLaws
set_option linter.unusedVariables false
set_option linter.unusedSimpArgs false

section
/- Vi: what is read as data is what the evaluator calls data; a law's call out of the evaluator's answer. No conditions. -/
namespace Go.Vi
open Go Go.Lib Go.Proofs Go.RowKit Go.ChangeShapes Go.WideShapes Go.ChangeAt
set_option maxRecDepth 100000

/-- All that lay there when the call began. -/
def I0 (W : World) : Nat → Nat → Prop := fun b _ => b < W.heap.size
def G0 (W : World) : Gh := ⟨[], [], I0 W⟩

theorem inv0 (W : World) (ht : Tab W (G0 W)) : Inv W (G0 W) H00 where
  lenB := rfl
  lenA := rfl
  blk i bk b h := by simp [H00] at h
  arr i ar q h := by simp [H00] at h
  nB i j b h := by simp [G0] at h
  nBA i j b cap h := by simp [G0] at h
  nA i j b c c' h := by simp [G0] at h
  lt b h := by simp [G0, Gh.owned] at h
  iB b o _ h := by simp [G0] at h
  iA b o _ i cap ar h := by simp [G0] at h
  iLt b o h := h
  tab := ht

theorem law_calls {f : FuncId} (hf : f < 1000000000) {args : List D} {vs : List Value} {W0 : World} (ht : Tab W0 (G0 W0)) (h : ∀ H, W f args H = some (.ret (.p (.bool true)), H)) (hl : vs.length = args.length)
    (hp : ∀ (j : Nat) (d : D) (v : Value), args[j]? = some d → vs[j]? = some v → RepD W0 (G0 W0) [] d v) :
    Calls Tryz.prog f vs.toArray W0 fun e W' => e = .returned (.bool true) ∧ Below W0.heap.size W0 W' := by
  refine (((W_ok f args H00 _ _ (h H00)).1 hf).2 W0 (G0 W0) vs (inv0 W0 ht) ⟨hl, hp⟩).mono fun e W' hpost => ?_
  obtain ⟨g', hi', he', v, rfl, hr⟩ := hpost
  have hv := inv_bool hr
  subst hv
  exact ⟨rfl, he'.os, he'.tape, he'.output.1, he'.size, fun k hk => he'.heap k hk (by simp [G0, Gh.owned])⟩

/-! ### Reading -/
section
variable {H : Type} {en : TypeId × Value → H} {W : World}

/-- Cells that stand for data. -/
def CellsRep (W : World) (ps : List PD) (cs : List Value) : Prop := cs.length = ps.length ∧ ∀ (i : Nat) (p : PD) (c : Value), ps[i]? = some p → cs[i]? = some c → RepP W (I0 W) p c

def RdN (en : TypeId × Value → H) (W : World) (n : Nat) (t : TypeId) {α : Type} (ea : α → PD) : Prop :=
  ∀ cs x, DataW.trod en Tryz.prog W 0 (fun _ => true) true n t cs = some x → ∃ a : α, CellsRep W (ea a).cells cs

theorem exists_list {α : Type} {R : Nat → α → Prop} (n : Nat) (h : ∀ i, i < n → ∃ a, R i a) : ∃ l : List α, l.length = n ∧ ∀ (i : Nat) (a : α), l[i]? = some a → R i a := by
  induction n with
  | zero => exact ⟨[], rfl, fun i a h => by simp at h⟩
  | succ n ih =>
    obtain ⟨l, hl, hr⟩ := ih fun i hi => h i (by omega)
    obtain ⟨a, ha⟩ := h n (by omega)
    refine ⟨l ++ [a], by simp [hl], fun i b hb => ?_⟩
    rw [List.getElem?_append] at hb
    split at hb
    · exact hr i b hb
    · rename_i hge
      have h1 := (List.getElem?_eq_some_iff.1 hb).1
      simp at h1
      have e : i = n := by omega
      subst e
      simp [hl] at hb
      subst hb
      exact ha

theorem cell_lt {a : Addr} {v : Value} (h : W.cell? a = some v) : a.block < W.heap.size ∧ a.spot = none := by
  unfold World.cell? at h
  split at h
  · rename_i c t fr hc
    refine ⟨(Array.getElem?_eq_some_iff.1 hc).1, ?_⟩
    split at h
    · cases h
    · rename_i hs
      cases hx : a.spot with
      | none => rfl
      | some _ => rw [hx] at hs; simp at hs
  · cases h

theorem slice_read {α : Type} {ea : α → PD} {t e : TypeId} {sz n : Nat} (hu : Tryz.prog.underlying t = some (.slice e)) (hc : Tryz.prog.cellsOf e = sz) (h0 : 0 < sz) (hel : ∀ a, (ea a).cells.length = sz)
    (ih : RdN en W n e ea) (cs : List Value) (x : DataW H × List MemPlace) (h : DataW.trod en Tryz.prog W 0 (fun _ => true) true (n + 1) t cs = some x) :
    ∃ (l : List α) (sv : Value), cs = [sv] ∧ RepP W (I0 W) (.sl (l.map ea)) sv ∧ (l = [] ∨ ∃ es rs, x.1 = .slice es rs ∧ l.length = es.length) := by
  rcases DataW.trod_slice hu h with ⟨rfl, rfl⟩ | ⟨a, len, cap, elems, rest, m, hm, rfl, rfl, _, hlc, _, hlen, hels, _, _⟩
  · exact ⟨[], _, rfl, .nil _ _, .inl rfl⟩
  · have hm : m = n := by omega
    subst hm
    have each : ∀ i, i < len → ∃ y : α, ∃ ci : List Value, W.cells? 0 (a.add (i * sz)) sz = some ci ∧ CellsRep W (ea y).cells ci := by
      intro i hi
      have h1 := hels i hi
      rw [hc] at h1
      have h2 : elems[i]? = some elems[i] := by simp [hlen, hi]
      rw [h2] at h1
      obtain ⟨ci, hci, hx⟩ := Option.bind_eq_some_iff.1 h1
      obtain ⟨y, hy⟩ := ih ci _ hx
      exact ⟨y, ci, hci, hy⟩
    obtain ⟨l, hl, hr⟩ := exists_list (R := fun i y => ∃ ci : List Value, W.cells? 0 (a.add (i * sz)) sz = some ci ∧ CellsRep W (ea y).cells ci) len each
    refine ⟨l, _, rfl, ?_, .inr ⟨_, _, rfl, by simp [hl, hlen]⟩⟩
    by_cases hz : len = 0
    · have : l = [] := List.eq_nil_of_length_eq_zero (by omega)
      subst this
      subst hz
      exact .nil _ _
    · -- the address is a plain one
      obtain ⟨b, o, spot⟩ := a
      have cell : ∀ (j c : Nat) (y : α) (p : PD), l[j]? = some y → (ea y).cells[c]? = some p → b < W.heap.size ∧ (j = 0 → c = 0 → spot = none) ∧ ∃ v, W.cell? ⟨b, o + (j * sz + c), none⟩ = some v ∧ RepP W (I0 W) p v := by
        intro j c y p hy hp
        obtain ⟨ci, hci, hrep⟩ := hr j y hy
        obtain ⟨_, h2, h3⟩ := World.cells?_some hci
        have hcl : c < (ea y).cells.length := (List.getElem?_eq_some_iff.1 hp).1
        rw [hel y] at hcl
        have hcc : ci[c]? = some ci[c] := by simp [h2, hcl]
        have h4 := h3 c hcl
        rw [hcc] at h4
        have hlt := cell_lt h4
        have hblk : ((⟨b, o, spot⟩ : Addr).add (j * sz)).add c = if j * sz + c = 0 then ⟨b, o, spot⟩ else ⟨b, o + (j * sz + c), none⟩ := by
          unfold Addr.add
          by_cases hj : j * sz = 0
          · by_cases hc0 : c = 0
            · simp [hj, hc0]
            · simp [hj, hc0]
          · by_cases hc0 : c = 0
            · simp [hj, hc0]
            · simp [hj, hc0, Nat.add_assoc]
        rw [hblk] at h4 hlt
        by_cases hz0 : j * sz + c = 0
        · rw [if_pos hz0] at h4 hlt
          have hs : spot = none := hlt.2
          subst hs
          refine ⟨hlt.1, fun _ _ => rfl, _, ?_, hrep.2 c p _ hp hcc⟩
          rw [hz0]; exact h4
        · rw [if_neg hz0] at h4 hlt
          refine ⟨hlt.1, fun hj hc0 => absurd (by subst hj; subst hc0; simp) hz0, _, h4, hrep.2 c p _ hp hcc⟩
      obtain ⟨y0, hy0⟩ : ∃ y, l[0]? = some y := ⟨l[0]'(by omega), by simp [show 0 < l.length by omega]⟩
      obtain ⟨p0, hp0⟩ : ∃ p, (ea y0).cells[0]? = some p := ⟨(ea y0).cells[0]'(by rw [hel]; omega), by simp [show 0 < (ea y0).cells.length by rw [hel]; omega]⟩
      have hs : spot = none := (cell 0 0 y0 p0 hy0 hp0).2.1 rfl rfl
      subst hs
      have : RepP W (I0 W) (.sl (l.map ea)) (.slice (some ⟨b, o, none⟩) (l.map ea).length cap) := by
        refine RepP.sl_of (sz := sz) (by simp [hl]; omega) (fun e he => ?_) fun j c e p he hp => ?_
        · obtain ⟨y, _, rfl⟩ := List.mem_map.1 he
          exact hel y
        · rw [List.getElem?_map, Option.map_eq_some_iff] at he
          obtain ⟨y, hy, rfl⟩ := he
          obtain ⟨h1, _, h3⟩ := cell j c y p hy hp
          exact ⟨h1, h3⟩
      simpa [hl] using this

theorem int_read (n : Nat) : RdN en W n 3 (fun i : Int => PD.int .i64 i) := fun cs x h => by
  obtain ⟨i, rfl, _, _⟩ := DataW.trod_int Tryz.underlying3 h
  exact ⟨i, rfl, fun j p c hp hc => by
    cases j with
    | zero => simp [PD.cells] at hp hc; subst hp; subst hc; exact .int _ _
    | succ j => simp [PD.cells] at hp⟩

theorem cells25 : Tryz.prog.cellsOf 25 = 4 := by kernel_rfl
theorem cells3 : Tryz.prog.cellsOf 3 = 1 := by kernel_rfl

theorem val_read : ∀ (n : Nat), RdN en W n 25 Vi.enc := by
  intro n
  induction n using Nat.strongRecOn with
  | _ n ih =>
    intro cs x h
    obtain ⟨xs, m, rfl, _, hlen, hxs, hf⟩ := DataW.trod_struct Tryz.underlying25 h
    rw [cells25] at hlen
    have hx : ∀ i, i < 4 → ∃ y, xs[i]? = some y := fun i hi => ⟨xs[i]'(by rw [hxs]; exact hi), by simp [hxs, hi]⟩
    obtain ⟨y0, hy0⟩ := hx 0 (by omega)
    obtain ⟨y1, hy1⟩ := hx 1 (by omega)
    obtain ⟨y2, hy2⟩ := hx 2 (by omega)
    obtain ⟨y3, hy3⟩ := hx 3 (by omega)
    have f0 := (hf 0 _ rfl).trans hy0
    have f1 := (hf 1 _ rfl).trans hy1
    have f2 := (hf 2 _ rfl).trans hy2
    have f3 := (hf 3 _ rfl).trans hy3
    obtain ⟨k, hk, _, _⟩ := DataW.trod_int (show Tryz.prog.underlying 22 = some (.int .i64) by kernel_rfl) f0
    obtain ⟨i, hi, _, _⟩ := DataW.trod_int Tryz.underlying3 f1
    obtain ⟨t, ht, _, _⟩ := DataW.trod_string Tryz.underlying9 f2
    obtain ⟨m', rfl⟩ : ∃ m', m = m' + 1 := by
      cases m with
      | zero => simp [DataW.trod] at f3
      | succ m' => exact ⟨m', rfl⟩
    obtain ⟨l, sv, hsv, hrep, _⟩ := slice_read Tryz.underlying23 cells25 (by omega) (fun a => by rw [cells_enc]; rfl) (ih m' (by omega)) _ _ f3
    have e0 : Tryz.prog.cellsOf 22 = 1 := by kernel_rfl
    have e2 : Tryz.prog.cellsOf 9 = 1 := by kernel_rfl
    have e3 : Tryz.prog.cellsOf 23 = 1 := by kernel_rfl
    have hk : (cs.drop 0).take (Tryz.prog.cellsOf 22) = [.int .i64 k] := hk
    have hi : (cs.drop 1).take (Tryz.prog.cellsOf 3) = [.int .i64 i] := hi
    have ht : (cs.drop 2).take (Tryz.prog.cellsOf 9) = [.string t] := ht
    have hsv : (cs.drop 3).take (Tryz.prog.cellsOf 23) = [sv] := hsv
    rw [e0] at hk
    rw [cells3] at hi
    rw [e2] at ht
    rw [e3] at hsv
    match cs, hlen with
    | [c0, c1, c2, c3], _ =>
      have hk1 : c0 = .int .i64 k := by simpa using hk
      have hi1 : c1 = .int .i64 i := by simpa using hi
      have ht1 : c2 = .string t := by simpa using ht
      have hs1 : c3 = sv := by simpa using hsv
      clear hk hi ht hsv hf f0 f1 f2 f3 h
      rw [hk1, hi1, ht1, hs1]
      refine ⟨.mk k i t l, rfl, fun j p c hp hc => ?_⟩
      rw [cells_enc] at hp
      match j, hp, hc with
      | 0, hp, hc => simp [Val.k] at hp hc; subst hp; subst hc; exact .int _ _
      | 1, hp, hc => simp [Val.n] at hp hc; subst hp; subst hc; exact .int _ _
      | 2, hp, hc => simp [Val.t] at hp hc; subst hp; subst hc; exact .str _
      | 3, hp, hc => simp [Val.ps] at hp hc; subst hp; subst hc; exact hrep
      | j + 4, hp, hc => simp at hp

/-! ### Arguments -/
theorem arg_val {base : Nat} {v : Value} {d : DataW H} {ps : List MemPlace} (hval : Value.okWide Tryz.prog W .any base 25 v) (h : DataW.Trod en Tryz.prog W 0 (fun _ => true) true 25 v d ps) :
    ∃ a : Val, RepD W (G0 W) [] (.p (Vi.enc a)) v := by
  obtain ⟨fuel, hf⟩ := h
  simp only [Value.okWide, Tryz.underlying25] at hval
  obtain ⟨cs, rfl, _⟩ := hval
  obtain ⟨a, hl, hr⟩ := val_read fuel _ _ hf
  refine ⟨a, .p _ _ ?_⟩
  rw [enc_eq]
  rw [cells_enc] at hl hr
  exact .agg _ _ (by simpa [Value.cells] using hl) fun i x u hx hu => hr i x u hx (by simpa [Value.cells] using hu)

theorem arg_ints {base : Nat} {v : Value} {d : DataW H} {ps : List MemPlace} (hval : Value.okWide Tryz.prog W .any base 26 v) (h : DataW.Trod en Tryz.prog W 0 (fun _ => true) true 26 v d ps)
    {ts : List TypeId} {ds : List (DataW H)} {j : Nat} (ht : ts[j]? = some 26) (hd : ds[j]? = some d) (hz : (DataW.weightsEach Tryz.prog ts ds).all (· ≤ reachBytes) = true) :
    ∃ l : List Int, l.length < 9223372036854775807 ∧ RepD W (G0 W) [] (.p (.sl (l.map (PD.int .i64)))) v := by
  obtain ⟨fuel, hf⟩ := h
  obtain ⟨a, len, cap, rfl⟩ := okWide_slice Tryz.underlying26 hval
  obtain ⟨m, rfl⟩ : ∃ m, fuel = m + 1 := by
    cases fuel with
    | zero => simp [DataW.trod] at hf
    | succ m => exact ⟨m, rfl⟩
  obtain ⟨l, sv, hsv, hrep, hlen⟩ := slice_read Tryz.underlying26 cells3 (by omega) (fun a => rfl) (int_read m) _ _ hf
  simp [Value.cells] at hsv
  subst hsv
  refine ⟨l, ?_, .p _ _ hrep⟩
  rcases hlen with rfl | ⟨es, rs, hx, hl⟩
  · simp
  · have hx : d = .slice es rs := hx
    subst hx
    have := List.all_eq_true.1 hz _ (DataW.weights_mem_each ht hd ((es.length + rs.length) * Tryz.prog.bytesOf 3) (by simp [DataW.weights, Tryz.underlying26]))
    have e8 : Tryz.prog.bytesOf 3 = 8 := by kernel_rfl
    rw [e8] at this
    have h2 := of_decide_eq_true this
    have h3 : reachBytes = 140737488351232 := rfl
    omega

theorem byte_read (n : Nat) : RdN en W n 5 (fun c : UInt8 => PD.int .u8 c.toNat) := fun cs x h => by
  obtain ⟨i, rfl, _, hw⟩ := DataW.trod_int Tryz.underlying5 h
  have hb : 0 ≤ i ∧ i ≤ 255 := by
    simp [Lit.wf, IntKind.min, IntKind.max, IntKind.bits, IntKind.signed] at hw
    omega
  refine ⟨UInt8.ofNat i.toNat, rfl, fun j p c hp hc => ?_⟩
  have e : (((UInt8.ofNat i.toNat).toNat : Nat) : Int) = i := by
    simp; omega
  cases j with
  | zero => 
    simp only [PD.cells, e] at hp
    simp at hp hc; subst hp; subst hc; exact .int _ _
  | succ j => simp [PD.cells] at hp
theorem cells5 : Tryz.prog.cellsOf 5 = 1 := by kernel_rfl

theorem arg_bytes {base : Nat} {v : Value} {d : DataW H} {ps : List MemPlace} (hval : Value.okWide Tryz.prog W .any base 56 v) (h : DataW.Trod en Tryz.prog W 0 (fun _ => true) true 56 v d ps)
    {ts : List TypeId} {ds : List (DataW H)} {j : Nat} (ht : ts[j]? = some 56) (hd : ds[j]? = some d) (hz : (DataW.weightsEach Tryz.prog ts ds).all (· ≤ reachBytes) = true) :
    ∃ l : List UInt8, l.length < 9223372036854775807 ∧ RepD W (G0 W) [] (.p (.sl (l.map fun c => PD.int .u8 c.toNat))) v := by
  obtain ⟨fuel, hf⟩ := h
  obtain ⟨a, len, cap, rfl⟩ := okWide_slice Tryz.underlying56 hval
  obtain ⟨m, rfl⟩ : ∃ m, fuel = m + 1 := by
    cases fuel with
    | zero => simp [DataW.trod] at hf
    | succ m => exact ⟨m, rfl⟩
  obtain ⟨l, sv, hsv, hrep, hlen⟩ := slice_read Tryz.underlying56 cells5 (by omega) (fun a => rfl) (byte_read m) _ _ hf
  simp [Value.cells] at hsv
  subst hsv
  refine ⟨l, ?_, .p _ _ hrep⟩
  rcases hlen with rfl | ⟨es, rs, hx, hl⟩
  · simp
  · have hx : d = .slice es rs := hx
    subst hx
    have := List.all_eq_true.1 hz _ (DataW.weights_mem_each ht hd ((es.length + rs.length) * Tryz.prog.bytesOf 5) (by simp [DataW.weights, Tryz.underlying56]))
    have e8 : Tryz.prog.bytesOf 5 = 1 := by kernel_rfl
    rw [e8] at this
    have h2 := of_decide_eq_true this
    have h3 : reachBytes = 140737488351232 := rfl
    omega

theorem arg_vals {base : Nat} {v : Value} {d : DataW H} {ps : List MemPlace} (hval : Value.okWide Tryz.prog W .any base 23 v) (h : DataW.Trod en Tryz.prog W 0 (fun _ => true) true 23 v d ps)
    {ts : List TypeId} {ds : List (DataW H)} {j : Nat} (ht : ts[j]? = some 23) (hd : ds[j]? = some d) (hz : (DataW.weightsEach Tryz.prog ts ds).all (· ≤ reachBytes) = true) :
    ∃ l : List Val, l.length < 9223372036854775807 ∧ RepD W (G0 W) [] (.p (.sl (l.map Vi.enc))) v := by
  obtain ⟨fuel, hf⟩ := h
  obtain ⟨a, len, cap, rfl⟩ := okWide_slice Tryz.underlying23 hval
  obtain ⟨m, rfl⟩ : ∃ m, fuel = m + 1 := by
    cases fuel with
    | zero => simp [DataW.trod] at hf
    | succ m => exact ⟨m, rfl⟩
  obtain ⟨l, sv, hsv, hrep, hlen⟩ := slice_read Tryz.underlying23 cells25 (by omega) (fun a => by rw [cells_enc]; rfl) (val_read m) _ _ hf
  simp [Value.cells] at hsv
  subst hsv
  refine ⟨l, ?_, .p _ _ hrep⟩
  rcases hlen with rfl | ⟨es, rs, hx, hl⟩
  · simp
  · have hx : d = .slice es rs := hx
    subst hx
    have := List.all_eq_true.1 hz _ (DataW.weights_mem_each ht hd ((es.length + rs.length) * Tryz.prog.bytesOf 25) (by simp [DataW.weights, Tryz.underlying23]))
    have e8 : Tryz.prog.bytesOf 25 = 56 := by kernel_rfl
    rw [e8] at this
    have h2 := of_decide_eq_true this
    have h3 : reachBytes = 140737488351232 := rfl
    omega
end
end Go.Vi
end
