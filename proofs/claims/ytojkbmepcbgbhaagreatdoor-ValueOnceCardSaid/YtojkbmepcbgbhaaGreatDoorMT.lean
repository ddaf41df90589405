/- It is proved here what the program's functions on values compute, the second part; conditions stand with each. -/
import Derived.Test.YtojkbmepcbgbhaaGreatDoorMS
set_option linter.unusedVariables false
set_option linter.unusedSimpArgs false

section
/- Vi: value.of (f117): what a value is. No conditions. -/
namespace Go.Vi
open Go Go.Lib Go.Proofs
set_option maxRecDepth 100000
attribute [local simp] E_skip E_ret E_exit E_text E_draw E_seq E_cond E_block E_scope E_loop runOps runOp runDraw runVF runV finV gate FlOK wantD exec fin opd look putF norm constD constC fieldAddrD loadD storeD opCall lenD binD isShift intP strP numD indexAddrD indexD D.pd? D.pds? cells_enc sub capsOf callD argsD argD D.nf enc_agg unP box_enc cellD mkF H00 st1 cD_agg cD_pagg cD_int cD_bool cD_str cD_sl cD_lit

theorem us119 : ∃ fs, Tryz.prog.underlying 120 = some (.struct fs) := ⟨_, rfl⟩
theorem us120 : ∃ fs, Tryz.prog.underlying 121 = some (.struct fs) := ⟨_, rfl⟩
theorem us123 : ∃ fs, Tryz.prog.underlying 124 = some (.struct fs) := ⟨_, rfl⟩
theorem us125 : ∃ fs, Tryz.prog.underlying 126 = some (.struct fs) := ⟨_, rfl⟩
theorem us144 : ∃ fs, Tryz.prog.underlying 145 = some (.struct fs) := ⟨_, rfl⟩
theorem us146 : ∃ fs, Tryz.prog.underlying 147 = some (.struct fs) := ⟨_, rfl⟩
theorem bd119 (F : Fr) (s : Tmp) (n : Int) (h : look F s = .p (.int .i64 n)) : buildD Tryz.prog F 120 [(0, .tmp s)] = some (.agg [.p (.int .i64 n)]) := by
  have z : zeroOf Tryz.prog 120 = some (.agg #[.int .i64 0]) := by kernel_rfl
  have pl : placesOf Tryz.prog 120 = some [(0, 1)] := by kernel_rfl
  simp [buildD, z, pl, buildD.go, splice, h]
theorem bd120 (F : Fr) (s : Tmp) (n : Int) (h : look F s = .p (.int .i64 n)) : buildD Tryz.prog F 121 [(0, .tmp s)] = some (.agg [.p (.int .i64 n)]) := by
  have z : zeroOf Tryz.prog 121 = some (.agg #[.int .i64 0]) := by kernel_rfl
  have pl : placesOf Tryz.prog 121 = some [(0, 1)] := by kernel_rfl
  simp [buildD, z, pl, buildD.go, splice, h]
theorem bd123 (F : Fr) (s : Tmp) (t : ByteArray) (h : look F s = .p (.str t)) : buildD Tryz.prog F 124 [(0, .tmp s)] = some (.agg [.p (.str t)]) := by
  have z : zeroOf Tryz.prog 124 = some (.agg #[.string ⟨#[]⟩]) := by kernel_rfl
  have pl : placesOf Tryz.prog 124 = some [(0, 1)] := by kernel_rfl
  simp [buildD, z, pl, buildD.go, splice, h]
theorem bd125 (F : Fr) (s : Tmp) (l : List PD) (h : look F s = .p (.sl l)) : buildD Tryz.prog F 126 [(0, .tmp s)] = some (.agg [.p (.sl l)]) := by
  have z : zeroOf Tryz.prog 126 = some (.agg #[.slice none 0 0]) := by kernel_rfl
  have pl : placesOf Tryz.prog 126 = some [(0, 1)] := by kernel_rfl
  simp [buildD, z, pl, buildD.go, splice, h]
theorem bd144 (F : Fr) (s : Tmp) (l : List PD) (h : look F s = .p (.sl l)) : buildD Tryz.prog F 145 [(0, .tmp s)] = some (.agg [.p (.sl l)]) := by
  have z : zeroOf Tryz.prog 145 = some (.agg #[.slice none 0 0]) := by kernel_rfl
  have pl : placesOf Tryz.prog 145 = some [(0, 1)] := by kernel_rfl
  simp [buildD, z, pl, buildD.go, splice, h]
theorem bd146 (F : Fr) : buildD Tryz.prog F 147 [] = some (.agg []) := by kernel_rfl

def Val.kind (v : Val) : PD :=
  if v.k = 1 then (if v.t = ⟨#[]⟩ ∧ v.ps.length = 0 then .ifc 120 (.agg [.int .i64 v.n]) else .ifc 147 (.agg []))
  else if v.k = 2 then (if v.t = ⟨#[]⟩ ∧ v.ps.length = 0 then .ifc 121 (.agg [.int .i64 v.n]) else .ifc 147 (.agg []))
  else if v.k = 3 then (if v.n = 0 ∧ v.ps.length = 0 then .ifc 124 (.agg [.str v.t]) else .ifc 147 (.agg []))
  else if v.k = 4 then (if v.n = 0 ∧ v.t = ⟨#[]⟩ then .ifc 126 (.agg [.sl (v.ps.map enc)]) else .ifc 147 (.agg []))
  else if v.k = 5 then (if v.n = 0 ∧ v.t = ⟨#[]⟩ then .ifc 145 (.agg [.sl (v.ps.map enc)]) else .ifc 147 (.agg []))
  else .ifc 147 (.agg [])

theorem of_W (v : Val) (H : Hp) : W 118 [.p (enc v)] H = some (.ret (.p v.kind), H) := by
  refine W118_of rfl (by simp) ?_
  have key : E false ⟨0, 0⟩ 118 code118 (mkF 0 [.p (enc v)]) H00 = some (.ret, [(2, .p v.kind)], st1 v) := by
    obtain ⟨_, s119⟩ := us119
    obtain ⟨_, s120⟩ := us120
    obtain ⟨_, s123⟩ := us123
    obtain ⟨_, s125⟩ := us125
    obtain ⟨_, s144⟩ := us144
    obtain ⟨_, s146⟩ := us146
    by_cases h1 : v.k = 1
    · by_cases ht : v.t = ⟨#[]⟩ <;> by_cases hl : v.ps = [] <;> simp [code118, Tryz.f118, Val.kind, h1, ht, hl, bd119, bd146, s119, s146]
    by_cases h2 : v.k = 2
    · by_cases ht : v.t = ⟨#[]⟩ <;> by_cases hl : v.ps = [] <;> simp [code118, Tryz.f118, Val.kind, h2, ht, hl, bd120, bd146, s120, s146]
    by_cases h3 : v.k = 3
    · by_cases ht : v.n = 0 <;> by_cases hl : v.ps = [] <;> simp [code118, Tryz.f118, Val.kind, h3, ht, hl, bd123, bd146, s123, s146]
    by_cases h4 : v.k = 4
    · by_cases ht : v.n = 0 <;> by_cases hl : v.t = ⟨#[]⟩ <;> simp [code118, Tryz.f118, Val.kind, h4, ht, hl, bd125, bd146, s125, s146]
    by_cases h5 : v.k = 5
    · by_cases ht : v.n = 0 <;> by_cases hl : v.t = ⟨#[]⟩ <;> simp [code118, Tryz.f118, Val.kind, h5, ht, hl, bd144, bd146, s144, s146]
    simp [code118, Tryz.f118, Val.kind, h1, h2, h3, h4, h5, bd146, s146]
  rw [key]
  simp [fnOut, retOut, resD, retsD, retD, oneD, D.noRefs, D.noRef, alone, Hp.cut]
end Go.Vi
end

section
/- Vi: cmp.isNaN (f145, f161), cmp.Compare (f123, f146), strings.Compare (f147), pair.numbers (f124), pair.words (f125). No conditions. -/
namespace Go.Vi
open Go Go.Lib Go.Proofs
set_option maxRecDepth 100000
attribute [local simp] E_skip E_ret E_exit E_text E_draw E_seq E_cond E_block E_scope E_loop runOps runOp runDraw runVF runV finV gate FlOK wantD exec fin opd look putF norm constD constC fieldAddrD loadD storeD opCall lenD binD isShift intP strP numD indexAddrD indexD D.pd? D.pds? cells_enc sub capsOf callD argsD argD D.nf enc_agg unP box_enc cellD mkF H00 st1 cD_agg cD_pagg cD_int cD_bool cD_str cD_sl cD_lit

theorem nan145_W (a : Int) (H : Hp) : W 146 [.p (.int .i64 a)] H = some (.ret (.p (.bool false)), H) := by
  refine W146_of rfl (by simp) ?_
  have key : E false ⟨0, 0⟩ 146 code146 (mkF 0 [.p (.int .i64 a)]) H00 = some (.ret, [(2, .p (.bool false))], H00) := by simp [code146, Tryz.f146]
  rw [key]
  simp [fnOut, retOut, resD, retsD, retD, oneD, D.noRefs, D.noRef, alone, Hp.cut]
theorem nan161_W (a : Int) (H : Hp) : W 162 [.p (.int .i64 a)] H = some (.ret (.p (.bool false)), H) := by
  refine W162_of rfl (by simp) ?_
  have key : E false ⟨0, 0⟩ 162 code162 (mkF 0 [.p (.int .i64 a)]) H00 = some (.ret, [(2, .p (.bool false))], H00) := by simp [code162, Tryz.f162]
  rw [key]
  simp [fnOut, retOut, resD, retsD, retD, oneD, D.noRefs, D.noRef, alone, Hp.cut]

theorem cmp123_W (a b : Int) (H : Hp) : W 124 [.p (.int .i64 a), .p (.int .i64 b)] H = some (.ret (.p (.int .i64 (ordI a b))), H) := by
  refine W124_of rfl (by simp) ?_
  have hn := fun a H => nan145_W a H
  have key : E false ⟨0, 0⟩ 124 code124 (mkF 0 [.p (.int .i64 a), .p (.int .i64 b)]) H00 = some (.ret, [(4, .p (.int .i64 (ordI a b)))], H00) := by
    by_cases h1 : a < b
    · simp [code124, Tryz.f124, ordI, h1, hn]
    · by_cases h2 : b < a <;> simp [code124, Tryz.f124, ordI, h1, h2, hn]
  rw [key]
  simp [fnOut, retOut, resD, retsD, retD, oneD, D.noRefs, D.noRef, alone, Hp.cut]
theorem cmp146_W (a b : Int) (H : Hp) : W 147 [.p (.int .i64 a), .p (.int .i64 b)] H = some (.ret (.p (.int .i64 (ordI a b))), H) := by
  refine W147_of rfl (by simp) ?_
  have hn := fun a H => nan161_W a H
  have key : E false ⟨0, 0⟩ 147 code147 (mkF 0 [.p (.int .i64 a), .p (.int .i64 b)]) H00 = some (.ret, [(4, .p (.int .i64 (ordI a b)))], H00) := by
    by_cases h1 : a < b
    · simp [code147, Tryz.f147, ordI, h1, hn]
    · by_cases h2 : b < a <;> simp [code147, Tryz.f147, ordI, h1, h2, hn]
  rw [key]
  simp [fnOut, retOut, resD, retsD, retD, oneD, D.noRefs, D.noRef, alone, Hp.cut]

theorem cmp162_W (a b : ByteArray) (H : Hp) : W 163 [.p (.str a), .p (.str b)] H = some (.ret (.p (.int .i64 (Lib.compareBytes a.data.toList b.data.toList))), H) := by
  refine calW_of ?_
  unfold calF
  rw [if_pos (show others.is 163 = true from rfl)]
  rfl
theorem strcmp_W (a b : ByteArray) (H : Hp) : W 148 [.p (.str a), .p (.str b)] H = some (.ret (.p (.int .i64 (Lib.compareBytes a.data.toList b.data.toList))), H) := by
  refine W148_of rfl (by simp) ?_
  have hn := fun H => cmp162_W a b H
  have key : E false ⟨0, 0⟩ 148 code148 (mkF 0 [.p (.str a), .p (.str b)]) H00 = some (.ret, [(4, .p (.int .i64 (Lib.compareBytes a.data.toList b.data.toList)))], H00) := by
    simp [code148, Tryz.f148, hn]
  rw [key]
  simp [fnOut, retOut, resD, retsD, retD, oneD, D.noRefs, D.noRef, alone, Hp.cut]

/-- Two values of one kind, as the program hands them on. -/
def pairP (v u : Val) : PD := .agg [.int .i64 v.k, .int .i64 v.n, .str v.t, .sl (v.ps.map enc), .int .i64 u.k, .int .i64 u.n, .str u.t, .sl (u.ps.map enc)]

theorem numbers_W (v u : Val) (H : Hp) : W 125 [.p (pairP v u)] H = some (.ret (.p (.int .i64 (ordI v.n u.n))), H) := by
  refine W125_of rfl (by simp) ?_
  have hn := fun H => cmp146_W v.n u.n H
  suffices key : ∃ B, E false ⟨0, 0⟩ 125 code125 (mkF 0 [.p (pairP v u)]) H00 = some (.ret, [(2, .p (.int .i64 (ordI v.n u.n)))], ⟨B, []⟩) by
    obtain ⟨B, key⟩ := key
    rw [key]
    simp [fnOut, retOut, resD, retsD, retD, oneD, D.noRefs, D.noRef, alone, Hp.cut]
  refine ⟨[.cells [.p (.int .i64 v.k), .p (.int .i64 v.n), .p (.str v.t), .p (.sl (v.ps.map enc)), .p (.int .i64 u.k), .p (.int .i64 u.n), .p (.str u.t), .p (.sl (u.ps.map enc))]], ?_⟩
  simp [code125, Tryz.f125, pairP, hn]

theorem words_W (v u : Val) (H : Hp) : W 126 [.p (pairP v u)] H = some (.ret (.p (.int .i64 (Lib.compareBytes v.t.data.toList u.t.data.toList))), H) := by
  refine W126_of rfl (by simp) ?_
  have hn := fun H => strcmp_W v.t u.t H
  suffices key : ∃ B, E false ⟨0, 0⟩ 126 code126 (mkF 0 [.p (pairP v u)]) H00 = some (.ret, [(2, .p (.int .i64 (Lib.compareBytes v.t.data.toList u.t.data.toList)))], ⟨B, []⟩) by
    obtain ⟨B, key⟩ := key
    rw [key]
    simp [fnOut, retOut, resD, retsD, retD, oneD, D.noRefs, D.noRef, alone, Hp.cut]
  refine ⟨[.cells [.p (.int .i64 v.k), .p (.int .i64 v.n), .p (.str v.t), .p (.sl (v.ps.map enc)), .p (.int .i64 u.k), .p (.int .i64 u.n), .p (.str u.t), .p (.sl (u.ps.map enc))]], ?_⟩
  simp [code126, Tryz.f126, pairP, hn]
end Go.Vi
end

section
/- Vi: slices.CompareFunc (f148) at value.compare, lists of one length; pair.lists (f126). No conditions. -/
namespace Go.Vi
open Go Go.Lib Go.Proofs
set_option maxRecDepth 100000
attribute [local simp] E_skip E_ret E_exit E_text E_draw E_seq E_cond E_block E_scope E_loop runOps runOp runDraw runVF runV finV gate FlOK wantD exec fin opd look putF norm constD constC fieldAddrD loadD storeD opCall lenD binD isShift intP strP numD indexAddrD indexD D.pd? D.pds? cells_enc sub capsOf callD argsD argD D.nf enc_agg unP box_enc cellD mkF H00 st1 cD_agg cD_pagg cD_int cD_bool cD_str cD_sl cD_lit

mutual
/-- How the program compares. -/
def Val.pc : Val → Val → Int
  | .mk k n t ps, .mk k' n' t' ps' =>
    if ordI k k' ≠ 0 then ordI k k'
    else if k < 1 ∨ 5 < k then 0
    else if k = 1 ∨ k = 2 then ordI n n'
    else if k = 3 then Lib.compareBytes t.data.toList t'.data.toList
    else if ordI ps.length ps'.length ≠ 0 then ordI ps.length ps'.length
    else pcL ps ps'
def pcL : List Val → List Val → Int
  | [], _ => 0
  | _ :: _, [] => 0
  | v :: r, u :: s => if v.pc u ≠ 0 then v.pc u else pcL r s
end
theorem pc_eq (v u : Val) : v.pc u = if ordI v.k u.k ≠ 0 then ordI v.k u.k
    else if v.k < 1 ∨ 5 < v.k then 0
    else if v.k = 1 ∨ v.k = 2 then ordI v.n u.n
    else if v.k = 3 then Lib.compareBytes v.t.data.toList u.t.data.toList
    else if ordI v.ps.length u.ps.length ≠ 0 then ordI v.ps.length u.ps.length
    else pcL v.ps u.ps := by cases v; cases u; rfl

def Pc83 (v : Val) : Prop := ∀ (u : Val) (H : Hp), W 84 [.p (enc v), .p (enc u)] H = some (.ret (.p (.int .i64 (v.pc u))), H)

def fr148 (a b : List Val) (i : Nat) : Fr := [(0, .p (.sl (a.map enc))), (1, .p (.sl (b.map enc))), (2, .p (.fn 84)), (11, .p (.sl (a.map enc))), (12, .p (.int .i64 a.length)), (13, .p (.int .i64 i))]

theorem body148_end (a b : List Val) : E false ⟨0, 0⟩ 149 lp149_0 (fr148 a b a.length) H00 = some (.exit 0, fr148 a b a.length ++ [(14, .p (.bool false))], H00) := by
  simp [fr148, lp149_0, code149, Tryz.f149]

theorem body148_step (a b : List Val) (i : Nat) (hlt : i < a.length) (hlb : i < b.length) (hlen : a.length < 9223372036854775807) (c : Int)
    (hr : ∀ H, W 84 [.p (enc a[i]), .p (enc b[i])] H = some (.ret (.p (.int .i64 c)), H)) :
    E false ⟨0, 0⟩ 149 lp149_0 (fr148 a b i) H00 = if c ≠ 0 then some (.ret, [(6, .p (.int .i64 c))], ⟨[box25 a[i], box25 b[i]], []⟩) else some (.normal, fr148 a b (i + 1), ⟨[box25 a[i], box25 b[i]], []⟩) := by
  have hw : IntKind.i64.wrap ((i : Int) + 1) = (i : Int) + 1 := wrap64 (by omega) (by omega)
  have hnb : ¬ b.length ≤ i := by omega
  by_cases hc : c = 0 <;> simp [fr148, box25, lp149_0, code149, Tryz.f149, hlt, hlb, hnb, hr, hw, hc, z25', splice]

theorem cut148 (a b : List Val) (i : Nat) (F : Fr) (ex : List Blk) (hF : norm [0, 1, 2, 11, 12, 13] F = fr148 a b i) : cutD ⟨0, 0⟩ [0, 1, 2, 11, 12, 13] 0 0 F ⟨ex, []⟩ = some (fr148 a b i, H00) := by
  simp only [cutD, hF]
  simp [fr148, frNo, blkNo, D.noRef, D.noRefs, Hp.cut]

theorem loop148_ok (a b : List Val) (hab : a.length = b.length) (hlen : a.length < 9223372036854775807) (hrec : ∀ u ∈ a, Pc83 u) : ∀ (m i : Nat) (F : Fr) (ex : List Blk),
    m = a.length - i → i ≤ a.length → norm [0, 1, 2, 11, 12, 13] F = fr148 a b i →
    ∃ ex', loopO false ⟨0, 0⟩ 149 lp149_0 0 0 F ⟨ex, []⟩ = if pcL (a.drop i) (b.drop i) ≠ 0 then some (.ret, [(6, .p (.int .i64 (pcL (a.drop i) (b.drop i))))], ⟨ex', []⟩)
      else some (.exit 0, fr148 a b a.length ++ [(14, .p (.bool false))], H00) := by
  intro m
  induction m with
  | zero =>
    intro i F ex hm hi hF
    have hie : i = a.length := by omega
    subst hie
    refine ⟨[], ?_⟩
    rw [loopO_eq, hd149_0, cut148 a b _ F ex hF]
    simp only [body148_end, List.drop_length, pcL]
    simp
  | succ m ih =>
    intro i F ex hm hi hF
    have hlt : i < a.length := by omega
    have hlb : i < b.length := by omega
    rw [List.drop_eq_getElem_cons hlt, List.drop_eq_getElem_cons hlb, pcL]
    rw [loopO_eq, hd149_0, cut148 a b _ F ex hF]
    simp only [body148_step a b i hlt hlb hlen _ (fun H => hrec a[i] (List.getElem_mem hlt) b[i] H)]
    by_cases hc : a[i].pc b[i] = 0
    · simp only [hc, ne_eq, not_true_eq_false, if_false]
      exact ih (i + 1) (fr148 a b (i + 1)) _ (by omega) (by omega) rfl
    · refine ⟨[box25 a[i], box25 b[i]], ?_⟩
      simp only [ne_eq, hc, not_false_eq_true, if_true]

theorem cmpf_W (a b : List Val) (hab : a.length = b.length) (hlen : a.length < 9223372036854775807) (hrec : ∀ u ∈ a, Pc83 u) (H : Hp) :
    W 149 [.p (.sl (a.map enc)), .p (.sl (b.map enc)), .p (.fn 84)] H = some (.ret (.p (.int .i64 (pcL a b))), H) := by
  refine W149_of rfl (by simp) ?_
  suffices key : ∃ B, E false ⟨0, 0⟩ 149 code149 (mkF 0 [.p (.sl (a.map enc)), .p (.sl (b.map enc)), .p (.fn 84)]) H00 = some (.ret, [(6, .p (.int .i64 (pcL a b)))], ⟨B, []⟩) by
    obtain ⟨B, key⟩ := key
    rw [key]
    simp [fnOut, retOut, resD, retsD, retD, oneD, D.noRefs, D.noRef, alone, Hp.cut]
  obtain ⟨ex', hloop⟩ := loop148_ok a b hab hlen hrec a.length 0 (fr148 a b 0) [] rfl (Nat.zero_le _) rfl
  have h00 : ((0 : Nat) : Int) = 0 := rfl
  simp only [lp149_0, code149, Tryz.f149, fr148, h00, List.drop_zero, hab, H00] at hloop
  by_cases hc : pcL a b = 0
  · simp only [hc, ne_eq, not_true_eq_false, if_false] at hloop
    refine ⟨[], ?_⟩
    simp [code149, Tryz.f149, hab, hloop, hc]
  · simp only [hc, ne_eq, not_false_eq_true, if_true] at hloop
    refine ⟨ex', ?_⟩
    simp [code149, Tryz.f149, hab, hloop]

theorem ordI_zero (a b : Int) : ordI a b = 0 ↔ a = b := by
  by_cases h1 : a < b
  · simp [ordI, h1]; omega
  · by_cases h2 : b < a
    · simp [ordI, h1, h2]; omega
    · simp [ordI, h1, h2]; omega

theorem lists126_W (v u : Val) (hlen : v.ps.length < 9223372036854775807) (hrec : ∀ x ∈ v.ps, Pc83 x) (H : Hp) :
    W 127 [.p (pairP v u)] H = some (.ret (.p (.int .i64 (if ordI v.ps.length u.ps.length ≠ 0 then ordI v.ps.length u.ps.length else pcL v.ps u.ps))), H) := by
  refine W127_of rfl (by simp) ?_
  have hn := fun H => cmp146_W v.ps.length u.ps.length H
  suffices key : ∃ B, E false ⟨0, 0⟩ 127 code127 (mkF 0 [.p (pairP v u)]) H00 =
      some (.ret, [(2, .p (.int .i64 (if ordI v.ps.length u.ps.length ≠ 0 then ordI v.ps.length u.ps.length else pcL v.ps u.ps)))], ⟨B, []⟩) by
    obtain ⟨B, key⟩ := key
    rw [key]
    simp [fnOut, retOut, resD, retsD, retD, oneD, D.noRefs, D.noRef, alone, Hp.cut]
  refine ⟨[.cells [.p (.int .i64 v.k), .p (.int .i64 v.n), .p (.str v.t), .p (.sl (v.ps.map enc)), .p (.int .i64 u.k), .p (.int .i64 u.n), .p (.str u.t), .p (.sl (u.ps.map enc))]], ?_⟩
  by_cases ho : ordI v.ps.length u.ps.length = 0
  · have hvu : v.ps.length = u.ps.length := by have := (ordI_zero _ _).1 ho; omega
    have hc := fun H => cmpf_W v.ps u.ps hvu hlen hrec H
    simp [code127, Tryz.f127, pairP, hn, ho, hc]
  · simp [code127, Tryz.f127, pairP, hn, ho]
end Go.Vi
end

section
/- Vi: value.compare (f83). No conditions. -/
namespace Go.Vi
open Go Go.Lib Go.Proofs
set_option maxRecDepth 100000
attribute [local simp] E_skip E_ret E_exit E_text E_draw E_seq E_cond E_block E_scope E_loop runOps runOp runDraw runVF runV finV gate FlOK wantD exec fin opd look putF norm constD constC fieldAddrD loadD storeD opCall lenD binD isShift intP strP numD indexAddrD indexD D.pd? D.pds? cells_enc sub capsOf callD argsD argD D.nf enc_agg unP box_enc cellD mkF H00 st1 cD_agg cD_pagg cD_int cD_bool cD_str cD_sl cD_lit

theorem bd133 (F : Fr) : buildD Tryz.prog F 134 [(1, .func 125), (2, .func 125), (3, .func 126), (4, .func 127), (5, .func 127)] =
    some (.agg [.p .nilF, .p (.fn 125), .p (.fn 125), .p (.fn 126), .p (.fn 127), .p (.fn 127)]) := by kernel_rfl
theorem z133 : zeroOf Tryz.prog 134 = some (.agg #[.nilFunc, .nilFunc, .nilFunc, .nilFunc, .nilFunc, .nilFunc]) := by kernel_rfl
theorem un133 : Tryz.prog.underlying 134 = some (.array 6 130) := by kernel_rfl
theorem bd132 (R : Fr) (k n : Int) (x : ByteArray) (l : List PD) (k' n' : Int) (x' : ByteArray) (l' : List PD) :
    buildD Tryz.prog ((29, .agg [.p (.int .i64 k'), .p (.int .i64 n'), .p (.str x'), .p (.sl l')]) :: (28, .agg [.p (.int .i64 k), .p (.int .i64 n), .p (.str x), .p (.sl l)]) :: R) 133
      [(0, .tmp 28), (1, .tmp 29)] = some (.agg [.p (.int .i64 k), .p (.int .i64 n), .p (.str x), .p (.sl l), .p (.int .i64 k'), .p (.int .i64 n'), .p (.str x'), .p (.sl l')]) := by
  have z : zeroOf Tryz.prog 133 = some (.agg #[.int .i64 0, .int .i64 0, .string ⟨#[]⟩, .slice none 0 0, .int .i64 0, .int .i64 0, .string ⟨#[]⟩, .slice none 0 0]) := by kernel_rfl
  have pl : placesOf Tryz.prog 133 = some [(0, 4), (4, 4)] := by kernel_rfl
  simp [buildD, z, pl, buildD.go, splice]

def tblB : Blk := .cells [.p .nilF, .p (.fn 125), .p (.fn 125), .p (.fn 126), .p (.fn 127), .p (.fn 127)]

theorem compare_step (v u : Val) (hlen : v.ps.length < 9223372036854775807) (hrec : ∀ x ∈ v.ps, Pc83 x) (H : Hp) : W 84 [.p (enc v), .p (enc u)] H = some (.ret (.p (.int .i64 (v.pc u))), H) := by
  refine W84_of rfl (by simp) ?_
  suffices key : ∃ B, E false ⟨0, 0⟩ 84 code84 (mkF 0 [.p (enc v), .p (enc u)]) H00 = some (.ret, [(4, .p (.int .i64 (v.pc u)))], ⟨B, []⟩) by
    obtain ⟨B, key⟩ := key
    rw [key]
    simp [fnOut, retOut, resD, retsD, retD, oneD, D.noRefs, D.noRef, alone, Hp.cut]
  have hc := fun a b H => cmp123_W a b H
  have hn := fun H => numbers_W v u H
  have hw := fun H => words_W v u H
  have hl := fun H => lists126_W v u hlen hrec H
  simp only [pairP] at hn hw hl
  rw [pc_eq]
  by_cases ho : ordI v.k u.k = 0
  · have hk : v.k = u.k := (ordI_zero _ _).1 ho
    by_cases h0 : v.k < 1
    · refine ⟨[box25 v, box25 u, tblB], ?_⟩
      simp [code84, Tryz.f84, box25, tblB, hc, ho, h0, bd133, z133, splice]
    by_cases h6 : 5 < v.k
    · refine ⟨[box25 v, box25 u, tblB], ?_⟩
      simp [code84, Tryz.f84, box25, tblB, hc, ho, h0, h6, bd133, z133, splice]
    have hor : v.k = 1 ∨ v.k = 2 ∨ v.k = 3 ∨ v.k = 4 ∨ v.k = 5 := by omega
    refine ⟨[box25 v, box25 u, tblB], ?_⟩
    rcases hor with e | e | e | e | e <;> rw [e] at ho hn hw hl ⊢ <;> simp [code84, Tryz.f84, box25, tblB, hc, ho, e, bd133, z133, splice, un133, bd132, hn, hw, hl]
  · refine ⟨[box25 v, box25 u], ?_⟩
    simp [code84, Tryz.f84, box25, hc, ho]

mutual
theorem compare_W : ∀ v : Val, v.fine → Pc83 v
  | .mk k n t ps, h => fun u H => compare_step (.mk k n t ps) u (by have := h.1; simp only [Val.ps]; omega) (compares_W ps h.2) H
theorem compares_W : ∀ l : List Val, fines l → ∀ u ∈ l, Pc83 u
  | [], _, u, hu => by cases hu
  | v :: r, h, u, hu => by
    rcases List.mem_cons.1 hu with e | hu
    · rw [e]; exact compare_W v h.1
    · exact compares_W r h.2 u hu
end
end Go.Vi
end

section
/- Vi: ref.At (f18). No conditions. -/
namespace Go.Vi
open Go Go.Lib Go.Proofs
set_option maxRecDepth 100000
attribute [local simp] E_skip E_ret E_exit E_text E_draw E_seq E_cond E_block E_scope E_loop runOps runOp runDraw runVF runV finV gate FlOK wantD exec fin opd look putF norm constD constC fieldAddrD loadD storeD opCall lenD binD isShift intP strP numD indexAddrD indexD D.pd? D.pds? cells_enc sub capsOf callD argsD argD D.nf enc_agg unP box_enc cellD mkF H00 st1 cD_agg cD_pagg cD_int cD_bool cD_str cD_sl cD_lit

theorem cells_int (k : IntKind) (n : Int) : (PD.int k n).cells = [PD.int k n] := rfl
def encI (l : List Int) : List PD := l.map (PD.int .i64)
def atV : Val → List Int → Option Val
  | v, [] => some v
  | v, n :: r => if h : inB n 0 ((v.ps.length : Int) - 1) = true ∧ n.toNat < v.ps.length then atV v.ps[n.toNat] r else none

def zeroB : Blk := .cells [.p (.int .i64 0), .p (.int .i64 0), .p (.str ⟨#[]⟩), .lit true []]
def st18 (v : Val) : Hp := ⟨[box25 v, zeroB], []⟩
def fr18 (p : List Int) (i : Nat) : Fr := [(1, .p (.sl (encI p))), (2, .ptr 0 0), (4, .ptr 1 0), (6, .p (.int .i64 i))]

theorem body18_end (v : Val) (p : List Int) : E false ⟨0, 0⟩ 19 lp19_0 (fr18 p p.length) (st18 v) = some (.exit 0, fr18 p p.length ++ [(10, .p (.bool false))], st18 v) := by
  simp [fr18, st18, encI, lp19_0, code19, Tryz.f19]

theorem body18_out (v : Val) (p : List Int) (i : Nat) (hlt : i < p.length) (hv : v.ps.length < 9223372036854775807) (hin : inB p[i] 0 ((v.ps.length : Int) - 1) = false) :
    E false ⟨0, 0⟩ 19 lp19_0 (fr18 p i) (st18 v) = some (.ret, [(4, .ptr 1 0), (5, .p (.bool false))], st18 v) := by
  have hw : IntKind.i64.wrap ((v.ps.length : Int) - 1) = (v.ps.length : Int) - 1 := wrap64 (by omega) (by omega)
  have h1 : ∀ H, W 75 [.p (.int .i64 p[i]), .p (.int .i64 0), .p (.int .i64 ((v.ps.length : Int) - 1))] H = some (.ret (.p (.bool false)), H) := fun H => by rw [in_W, hin]
  simp [fr18, st18, encI, box25, zeroB, lp19_0, code19, Tryz.f19, hlt, hw, h1, build25, splice, cells_int]

theorem body18_in (v : Val) (p : List Int) (i : Nat) (hlt : i < p.length) (hp : p.length < 9223372036854775807) (hv : v.ps.length < 9223372036854775807) (hin : inB p[i] 0 ((v.ps.length : Int) - 1) = true)
    (hb : p[i].toNat < v.ps.length) : E false ⟨0, 0⟩ 19 lp19_0 (fr18 p i) (st18 v) = some (.normal, fr18 p (i + 1), st18 v.ps[p[i].toNat]) := by
  have hw : IntKind.i64.wrap ((v.ps.length : Int) - 1) = (v.ps.length : Int) - 1 := wrap64 (by omega) (by omega)
  have hw2 : IntKind.i64.wrap ((i : Int) + 1) = (i : Int) + 1 := wrap64 (by omega) (by omega)
  have h0 : 0 ≤ p[i] := by simp only [inB, Bool.and_eq_true, decide_eq_true_eq] at hin; exact hin.1
  have h1 : ∀ H, W 75 [.p (.int .i64 p[i]), .p (.int .i64 0), .p (.int .i64 ((v.ps.length : Int) - 1))] H = some (.ret (.p (.bool true)), H) := fun H => by rw [in_W, hin]
  simp [fr18, st18, encI, box25, zeroB, lp19_0, code19, Tryz.f19, hlt, hw, hw2, h0, hb, h1, build25, splice, cells_int, len_enc]

theorem cut18 (v : Val) (p : List Int) (i : Nat) (F : Fr) (hF : norm [1, 2, 4, 6] F = fr18 p i) : cutD ⟨0, 0⟩ [1, 2, 4, 6] 2 0 F (st18 v) = some (fr18 p i, st18 v) := by
  simp only [cutD, hF]
  simp [fr18, st18, box25, zeroB, frNo, blkNo, D.noRef, D.noRefs, Hp.cut]

theorem loop18_ok (p : List Int) (hp : p.length < 9223372036854775807) : ∀ (m i : Nat) (v : Val) (F : Fr), m = p.length - i → i ≤ p.length → v.fine → norm [1, 2, 4, 6] F = fr18 p i →
    (∃ u, atV v (p.drop i) = some u ∧ loopO false ⟨0, 0⟩ 19 lp19_0 2 0 F (st18 v) = some (.exit 0, fr18 p p.length ++ [(10, .p (.bool false))], st18 u)) ∨
    (atV v (p.drop i) = none ∧ ∃ u, loopO false ⟨0, 0⟩ 19 lp19_0 2 0 F (st18 v) = some (.ret, [(4, .ptr 1 0), (5, .p (.bool false))], st18 u)) := by
  intro m
  induction m with
  | zero =>
    intro i v F hm hi hf hF
    have hie : i = p.length := by omega
    subst hie
    left
    refine ⟨v, by rw [List.drop_length, atV], ?_⟩
    rw [loopO_eq, hd19_0, cut18 v p _ F hF]
    simp only [body18_end]
  | succ m ih =>
    intro i v F hm hi hf hF
    have hlt : i < p.length := by omega
    have hl := fine_len hf
    rw [loopO_eq, hd19_0, cut18 v p _ F hF, List.drop_eq_getElem_cons hlt, atV]
    by_cases hin : inB p[i] 0 ((v.ps.length : Int) - 1) = true
    · have hb : p[i].toNat < v.ps.length := by
        have h2 := hin
        simp only [inB, Bool.and_eq_true, decide_eq_true_eq] at h2
        omega
      rw [dif_pos ⟨hin, hb⟩]
      simp only [body18_in v p i hlt hp (by omega) hin hb]
      exact ih (i + 1) v.ps[p[i].toNat] (fr18 p (i + 1)) (by omega) (by omega) (fine_mem hf _ (List.getElem_mem hb)) rfl
    · right
      rw [dif_neg (fun h => hin h.1)]
      refine ⟨rfl, v, ?_⟩
      simp only [body18_out v p i hlt (by omega) (by simpa using hin)]

theorem at18_W (v : Val) (p : List Int) (hf : v.fine) (hp : p.length < 9223372036854775807) (H : Hp) :
    W 19 [.p (enc v), .p (.sl (encI p))] H = some (.ret (.tup (match atV v p with | some u => [.p (enc u), .p (.bool true)] | none => [.p (enc Val.zero), .p (.bool false)])), H) := by
  refine W19_of rfl (by simp) ?_
  have h00 : ((0 : Nat) : Int) = 0 := rfl
  rcases loop18_ok p hp p.length 0 v (fr18 p 0) rfl (Nat.zero_le _) hf rfl with ⟨u, hu, hloop⟩ | ⟨hu, u, hloop⟩
  · rw [List.drop_zero] at hu
    have key : E false ⟨0, 0⟩ 19 code19 (mkF 0 [.p (enc v), .p (.sl (encI p))]) H00 = some (.ret, [(4, .ptr 1 0), (5, .p (.bool true))], ⟨[box25 u, box25 u], []⟩) := by
      simp only [lp19_0, code19, Tryz.f19, fr18, st18, box25, zeroB, h00] at hloop
      simp [code19, Tryz.f19, box25, z25', hloop, splice]
    rw [key, hu]
    simp [fnOut, retOut, resD, retsD, retD, oneD, D.noRefs, D.noRef, alone, Hp.cut, box25]
  · rw [List.drop_zero] at hu
    have key : E false ⟨0, 0⟩ 19 code19 (mkF 0 [.p (enc v), .p (.sl (encI p))]) H00 = some (.ret, [(4, .ptr 1 0), (5, .p (.bool false))], st18 u) := by
      simp only [lp19_0, code19, Tryz.f19, fr18, st18, box25, zeroB, h00] at hloop
      simp [code19, Tryz.f19, st18, box25, zeroB, z25', hloop, splice]
    rw [key, hu, enc_zero]
    simp [fnOut, retOut, resD, retsD, retD, oneD, D.noRefs, D.noRef, alone, Hp.cut, st18, zeroB]
end Go.Vi
end

section
/- Vi: value.spelled (f140): as ref.letters. No conditions. -/
namespace Go.Vi
open Go Go.Lib Go.Proofs
set_option maxRecDepth 100000
attribute [local simp] E_skip E_ret E_exit E_text E_draw E_seq E_cond E_block E_scope E_loop runOps runOp runDraw runVF runV finV gate FlOK wantD exec fin opd look putF norm constD constC fieldAddrD loadD storeD opCall lenD binD isShift intP strP numD indexAddrD indexD D.pd? D.pds? cells_enc sub capsOf callD argsD argD D.nf enc_agg unP box_enc cellD mkF H00 st1 cD_agg cD_pagg cD_int cD_bool cD_str cD_sl cD_lit

def fr140 (s : ByteArray) : Fr := [(0, .p (.str s)), (6, .ptr 0 0)]
def st140 (s : ByteArray) (i : Nat) : Hp := ⟨[.sit s i], []⟩

theorem body140_end (s : ByteArray) : E false ⟨0, 0⟩ 141 lp141_0 (fr140 s) (st140 s s.size) = some (.exit 0, [(0, .p (.str s)), (6, .ptr 0 0), (7, .tup [.p (.bool false)]), (8, .p (.bool false))], st140 s s.size) := by
  simp [fr140, st140, lp141_0, code141, Tryz.f141]

theorem body140_step (s : ByteArray) (i : Nat) (hlt : i < s.size) : ∃ j,
    E false ⟨0, 0⟩ 141 lp141_0 (fr140 s) (st140 s i) = if okB (s[i]'hlt) = true then some (.normal, fr140 s ++ [(23, .p (.bool false))], st140 s (i + 1)) else some (.ret, [(2, .p (.bool false))], st140 s j) := by
  by_cases h7 : (s[i]'hlt).toNat < 128
  · have hd := decode_ascii s i hlt h7
    refine ⟨i + 1, ?_⟩
    by_cases h1 : (s[i]'hlt).toNat < 32
    · have e1 : ((s[i]'hlt).toNat : Int) < 32 := by omega
      have h1' : ¬ 32 ≤ (s[i]'hlt).toNat := by omega
      simp [fr140, st140, lp141_0, code141, Tryz.f141, hlt, hd, okB, e1, h1']
    have e1 : ¬ ((s[i]'hlt).toNat : Int) < 32 := by omega
    have h1' : 32 ≤ (s[i]'hlt).toNat := by omega
    by_cases h2 : 126 < (s[i]'hlt).toNat
    · have e2 : (126 : Int) < (s[i]'hlt).toNat := by omega
      have h2' : ¬ (s[i]'hlt).toNat ≤ 126 := by omega
      simp [fr140, st140, lp141_0, code141, Tryz.f141, hlt, hd, okB, e1, h1', e2, h2']
    have e2 : ¬ (126 : Int) < (s[i]'hlt).toNat := by omega
    have h2' : (s[i]'hlt).toNat ≤ 126 := by omega
    by_cases h3 : (s[i]'hlt).toNat = 34
    · simp [fr140, st140, lp141_0, code141, Tryz.f141, hlt, hd, okB, h3, e1, e2]
    have e3 : ¬ ((s[i]'hlt).toNat : Int) = 34 := by omega
    by_cases h4 : (s[i]'hlt).toNat = 92
    · simp [fr140, st140, lp141_0, code141, Tryz.f141, hlt, hd, okB, h4, e1, e2, e3]
    have e4 : ¬ ((s[i]'hlt).toNat : Int) = 92 := by omega
    simp [fr140, st140, lp141_0, code141, Tryz.f141, hlt, hd, okB, e1, h1', e2, h2', e3, h3, e4, h4]
  · have hd := (decode_high s i hlt (by omega)).1
    have hok : okB (s[i]'hlt) = false := by
      have : ¬ (s[i]'hlt).toNat ≤ 126 := by omega
      simp [okB, this]
    have e1 : ¬ ((Utf8.decode s i).1 : Int) < 32 := by omega
    have e2 : (126 : Int) < ((Utf8.decode s i).1 : Int) := by omega
    refine ⟨i + (Utf8.decode s i).2, ?_⟩
    rw [hok]
    simp [fr140, st140, lp141_0, code141, Tryz.f141, hlt, e1, e2]

theorem cut140 (s : ByteArray) (i : Nat) (F : Fr) (hF : norm [0, 6] F = fr140 s) : cutD ⟨0, 0⟩ [0, 6] 1 0 F (st140 s i) = some (fr140 s, st140 s i) := by
  simp only [cutD, hF]
  simp [fr140, st140, frNo, blkNo, D.noRef, Hp.cut]

theorem loop140_ok (s : ByteArray) : ∀ (m i : Nat) (F : Fr), m = s.size - i → i ≤ s.size → norm [0, 6] F = fr140 s →
    ∃ j, loopO false ⟨0, 0⟩ 141 lp141_0 1 0 F (st140 s i) = if (s.data.toList.drop i).all okB = true then
      some (.exit 0, [(0, .p (.str s)), (6, .ptr 0 0), (7, .tup [.p (.bool false)]), (8, .p (.bool false))], st140 s s.size) else some (.ret, [(2, .p (.bool false))], st140 s j) := by
  intro m
  induction m with
  | zero =>
    intro i F hm hi hF
    have hie : i = s.size := by omega
    subst hie
    refine ⟨0, ?_⟩
    rw [loopO_eq, hd141_0, cut140 s _ F hF]
    simp only [body140_end]
    rw [show s.data.toList.drop s.size = [] by rw [← ba_size, List.drop_length]]
    simp
  | succ m ih =>
    intro i F hm hi hF
    have hlt : i < s.size := by omega
    have hlt' : i < s.data.toList.length := by rw [ba_size]; exact hlt
    obtain ⟨j, hj⟩ := body140_step s i hlt
    have eb : s[i]'hlt = s.data.toList[i] := rfl
    rw [List.drop_eq_getElem_cons hlt']
    rw [loopO_eq, hd141_0, cut140 s _ F hF]
    simp only [hj, eb]
    cases hb : okB s.data.toList[i] with
    | false => exact ⟨j, by simp only [List.all_cons, hb, Bool.false_and, Bool.false_eq_true, if_false]⟩
    | true =>
      simp only [if_true, List.all_cons, hb, Bool.true_and]
      exact ih (i + 1) (fr140 s ++ [(23, .p (.bool false))]) (by omega) (by omega) rfl

theorem spelled_W (s : ByteArray) (H : Hp) : W 141 [.p (.str s)] H = some (.ret (.p (.bool (letters s))), H) := by
  refine W141_of rfl (by simp) ?_
  have hl : letters s = (s.data.toList.all okB && decide (s.size ≤ 20)) := rfl
  obtain ⟨j, hloop⟩ := loop140_ok s s.size 0 (fr140 s) rfl (Nat.zero_le _) rfl
  have h20 : ((s.size : Int) ≤ 20) = (s.size ≤ 20) := by apply propext; omega
  simp only [lp141_0, code141, Tryz.f141, fr140, st140, List.drop_zero] at hloop
  suffices key : ∃ B, E false ⟨0, 0⟩ 141 code141 (mkF 0 [.p (.str s)]) H00 = some (.ret, [(2, .p (.bool (letters s)))], ⟨B, []⟩) by
    obtain ⟨B, key⟩ := key
    rw [key]
    simp [fnOut, retOut, resD, retsD, retD, oneD, D.noRefs, D.noRef, alone, Hp.cut]
  cases he : s.data.toList.all okB with
  | true =>
    rw [he] at hloop hl
    simp only [if_true] at hloop
    exact ⟨_, by simp [code141, Tryz.f141, hloop, hl, h20]; rfl⟩
  | false =>
    rw [he] at hloop hl
    simp only [Bool.false_eq_true, if_false] at hloop
    exact ⟨_, by simp [code141, Tryz.f141, hloop, hl]; rfl⟩
end Go.Vi
end

section
/- Vi: slices.IndexFunc (f133), slices.ContainsFunc (f138), the parts of what a value is (f195 .. f200). No conditions. -/
namespace Go.Vi
open Go Go.Lib Go.Proofs
set_option maxRecDepth 100000
attribute [local simp] E_skip E_ret E_exit E_text E_draw E_seq E_cond E_block E_scope E_loop runOps runOp runDraw runVF runV finV gate FlOK wantD exec fin opd look putF norm constD constC fieldAddrD loadD storeD opCall lenD binD isShift intP strP numD indexAddrD indexD D.pd? D.pds? cells_enc sub capsOf callD argsD argD D.nf enc_agg unP box_enc cellD mkF H00 st1 cD_agg cD_pagg cD_int cD_bool cD_str cD_sl cD_lit

/-- A function value: plain, or with one variable. -/
def cbD (g : Nat) : Option Nat → D
  | none => .p (.fn g)
  | some k => .fn g [.ptr k 0]
def cbA (x : PD) : Option Nat → List D
  | none => [.p x]
  | some k => [.p x, .ptr k 0]

def fr133 (l : List Val) (cb : D) (i : Nat) : Fr := [(0, .p (.sl (l.map enc))), (1, cb), (7, .p (.int .i64 l.length)), (8, .p (.int .i64 i))]

/-- The first place at which something is so. -/
def idxP (p : Val → Bool) : List Val → Nat → Int
  | [], _ => -1
  | v :: r, i => if p v = true then i else idxP p r (i + 1)

theorem body133_end (l : List Val) (cb : D) (B : List Blk) (A : List Arr) : E false ⟨0, 0⟩ 134 lp134_0 (fr133 l cb l.length) ⟨B, A⟩ = some (.exit 0, fr133 l cb l.length ++ [(9, .p (.bool false))], ⟨B, A⟩) := by
  simp [fr133, lp134_0, code134, Tryz.f134]

theorem body133_step (l : List Val) (g : Nat) (hg : g < 1000000000) (ho : (g == 129) = false) (q : Option Nat) (i : Nat) (hlt : i < l.length) (hlen : l.length < 9223372036854775807) (B : List Blk) (A : List Arr) (b : Bool)
    (hr : W g (cbA (enc l[i]) q) ⟨B, A⟩ = some (.ret (.p (.bool b)), ⟨B, A⟩)) :
    E false ⟨0, 0⟩ 134 lp134_0 (fr133 l (cbD g q) i) ⟨B, A⟩ = if b = true then some (.ret, [(4, .p (.int .i64 i))], ⟨B, A⟩) else some (.normal, fr133 l (cbD g q) (i + 1), ⟨B, A⟩) := by
  have hw : IntKind.i64.wrap ((i : Int) + 1) = (i : Int) + 1 := wrap64 (by omega) (by omega)
  cases q <;> cases b <;> simp only [cbA] at hr <;> simp [fr133, cbD, lp134_0, code134, Tryz.f134, hlt, hr, hw, hg, ho]

theorem cut_full (m : Mk) (keep : List Tmp) (F : Fr) (H : Hp) : cutD m keep H.B.length H.A.length F H = some (norm keep F, H) := by
  unfold cutD
  have : H.cut H.B.length H.A.length = H := by cases H; simp [Hp.cut]
  rw [this]
  split <;> rfl

theorem loop133_ok (l : List Val) (g : Nat) (hg : g < 1000000000) (ho : (g == 129) = false) (q : Option Nat) (hlen : l.length < 9223372036854775807) (B : List Blk) (A : List Arr) (p : Val → Bool)
    (hr : ∀ u ∈ l, W g (cbA (enc u) q) ⟨B, A⟩ = some (.ret (.p (.bool (p u))), ⟨B, A⟩)) : ∀ (m i : Nat) (F : Fr), m = l.length - i → i ≤ l.length → norm [0, 1, 7, 8] F = fr133 l (cbD g q) i →
    loopO false ⟨0, 0⟩ 134 lp134_0 B.length A.length F ⟨B, A⟩ = if idxP p (l.drop i) i = -1 then some (.exit 0, fr133 l (cbD g q) l.length ++ [(9, .p (.bool false))], ⟨B, A⟩)
      else some (.ret, [(4, .p (.int .i64 (idxP p (l.drop i) i)))], ⟨B, A⟩) := by
  intro m
  induction m with
  | zero =>
    intro i F hm hi hF
    have hie : i = l.length := by omega
    subst hie
    rw [loopO_eq, hd134_0, show cutD ⟨0, 0⟩ [0, 1, 7, 8] B.length A.length F ⟨B, A⟩ = some (norm [0, 1, 7, 8] F, ⟨B, A⟩) from cut_full _ _ _ ⟨B, A⟩, hF]
    simp only [body133_end, List.drop_length, idxP, if_true]
  | succ m ih =>
    intro i F hm hi hF
    have hlt : i < l.length := by omega
    rw [loopO_eq, hd134_0, show cutD ⟨0, 0⟩ [0, 1, 7, 8] B.length A.length F ⟨B, A⟩ = some (norm [0, 1, 7, 8] F, ⟨B, A⟩) from cut_full _ _ _ ⟨B, A⟩, hF, List.drop_eq_getElem_cons hlt, idxP]
    simp only [body133_step l g hg ho q i hlt hlen B A _ (hr l[i] (List.getElem_mem hlt))]
    cases hb : p l[i] with
    | true =>
      have : ¬ (i : Int) = -1 := by omega
      simp only [if_true, if_neg this]
    | false =>
      simp only [Bool.false_eq_true, if_false]
      exact ih (i + 1) (fr133 l (cbD g q) (i + 1)) (by omega) (by omega) rfl

theorem idxP_bd (p : Val → Bool) : ∀ (l : List Val) (i : Nat), idxP p l i = -1 ∨ ((i : Int) ≤ idxP p l i ∧ idxP p l i < i + l.length)
  | [], i => .inl rfl
  | v :: r, i => by
    simp only [idxP]
    split
    · right; simp only [List.length_cons]; omega
    · rcases idxP_bd p r (i + 1) with h | h
      · exact .inl h
      · right; simp only [List.length_cons]; omega

theorem code133_ok (l : List Val) (g : Nat) (hg : g < 1000000000) (ho : (g == 129) = false) (q : Option Nat) (hlen : l.length < 9223372036854775807) (B : List Blk) (A : List Arr) (p : Val → Bool)
    (hr : ∀ u ∈ l, W g (cbA (enc u) q) ⟨B, A⟩ = some (.ret (.p (.bool (p u))), ⟨B, A⟩)) :
    E false ⟨0, 0⟩ 134 code134 (mkF 0 [.p (.sl (l.map enc)), cbD g q]) ⟨B, A⟩ = some (.ret, [(4, .p (.int .i64 (idxP p l 0)))], ⟨B, A⟩) := by
  have hloop := loop133_ok l g hg ho q hlen B A p hr l.length 0 (fr133 l (cbD g q) 0) rfl (Nat.zero_le _) rfl
  have h00 : ((0 : Nat) : Int) = 0 := rfl
  simp only [lp134_0, code134, Tryz.f134, fr133, h00, List.drop_zero] at hloop
  by_cases he : idxP p l 0 = -1
  · simp only [he, if_true] at hloop
    simp [code134, Tryz.f134, hloop, he]
  · simp only [he, if_false] at hloop
    simp [code134, Tryz.f134, hloop]

theorem idx133_W (l : List Val) (g : Nat) (hg : g < 1000000000) (ho : (g == 129) = false) (hlen : l.length < 9223372036854775807) (p : Val → Bool)
    (hr : ∀ u ∈ l, ∀ H, W g [.p (enc u)] H = some (.ret (.p (.bool (p u))), H)) (H : Hp) :
    W 134 [.p (.sl (l.map enc)), .p (.fn g)] H = some (.ret (.p (.int .i64 (idxP p l 0))), H) := by
  refine W134_of rfl (by simp) ?_
  rw [show E false ⟨0, 0⟩ 134 code134 (mkF 0 [.p (.sl (l.map enc)), .p (.fn g)]) H00 = _ from code133_ok l g hg ho none hlen [] [] p (fun u hu => hr u hu ⟨[], []⟩)]
  simp [fnOut, retOut, resD, retsD, retD, oneD, D.noRefs, D.noRef, alone, Hp.cut]

theorem idx133_WH (l : List Val) (g : Nat) (hg : g < 1000000000) (ho : (g == 129) = false) (k : Nat) (hlen : l.length < 9223372036854775807) (p : Val → Bool) (B : List Blk) (A : List Arr)
    (hr : ∀ u ∈ l, W g [.p (enc u), .ptr k 0] ⟨B, A⟩ = some (.ret (.p (.bool (p u))), ⟨B, A⟩)) :
    W 134 [.p (.sl (l.map enc)), .fn g [.ptr k 0]] ⟨B, A⟩ = some (.ret (.p (.int .i64 (idxP p l 0))), ⟨B, A⟩) := by
  refine W_ofH Tryz.func134 rfl (by kernel_rfl) rfl (by simp [D.noRef, D.noRefs]) (by rw [Tryz.ntmps134]; simp) ?_
  rw [show Tryz.f134.results.toList = [.tmp 4] from rs134]
  have key : evalC Tryz.prog hn ch (hn.mutF 134) ⟨0, 0⟩ W 134 _ (mkF 0 [.p (.sl (l.map enc)), .fn g [.ptr k 0]]) ⟨B, A⟩ = _ := code133_ok l g hg ho (some k) hlen B A p hr
  refine (congrArg (fnOut Tryz.prog [.tmp 4] B.length A.length) key).trans ?_
  simp only [fnOut, retOut, resD, look, if_true, retsD, retD, argD, D.nf, D.pd?, Bool.false_eq_true, if_false, oneD]
  split
  · simp [Hp.cut]
  · rfl

theorem contains_W (l : List Val) (g : Nat) (hg : g < 1000000000) (ho : (g == 129) = false) (hlen : l.length < 9223372036854775807) (p : Val → Bool)
    (hr : ∀ u ∈ l, ∀ H, W g [.p (enc u)] H = some (.ret (.p (.bool (p u))), H)) (H : Hp) :
    W 139 [.p (.sl (l.map enc)), .p (.fn g)] H = some (.ret (.p (.bool (l.any p))), H) := by
  refine W139_of rfl (by simp) ?_
  have h1 := fun H => idx133_W l g hg ho hlen p hr H
  have h2 : decide (0 ≤ idxP p l 0) = l.any p := by
    have key : ∀ (l : List Val) (i : Nat), decide (0 ≤ idxP p l i) = l.any p := by
      intro l
      induction l with
      | nil => intro i; simp [idxP]
      | cons v r ih =>
        intro i
        simp only [idxP, List.any_cons]
        by_cases hb : p v = true
        · simp [hb]
        · simp [hb, ih (i + 1)]
    exact key l 0
  have key : E false ⟨0, 0⟩ 139 code139 (mkF 0 [.p (.sl (l.map enc)), .p (.fn g)]) H00 = some (.ret, [(4, .p (.bool (l.any p)))], H00) := by
    simp [code139, Tryz.f139, h1, h2]
  rw [key]
  simp [fnOut, retOut, resD, retsD, retD, oneD, D.noRefs, D.noRef, alone, Hp.cut]

theorem parts195 (n : Int) (H : Hp) : W 196 [.p (.agg [.int .i64 n])] H = some (.ret (.p (.sl [])), H) := by
  refine W196_of rfl (by simp) ?_
  simp [code196, Tryz.f196, newRow, fnOut, retOut, resD, retsD, retD, oneD, D.noRefs, D.noRef, alone, Hp.cut, Hp.live]
theorem parts196 (n : Int) (H : Hp) : W 197 [.p (.agg [.int .i64 n])] H = some (.ret (.p (.sl [])), H) := by
  refine W197_of rfl (by simp) ?_
  simp [code197, Tryz.f197, newRow, fnOut, retOut, resD, retsD, retD, oneD, D.noRefs, D.noRef, alone, Hp.cut, Hp.live]
theorem parts197 (n : ByteArray) (H : Hp) : W 198 [.p (.agg [.str n])] H = some (.ret (.p (.sl [])), H) := by
  refine W198_of rfl (by simp) ?_
  simp [code198, Tryz.f198, newRow, fnOut, retOut, resD, retsD, retD, oneD, D.noRefs, D.noRef, alone, Hp.cut, Hp.live]
theorem parts198 (l : List PD) (H : Hp) : W 199 [.p (.agg [.sl l])] H = some (.ret (.p (.sl l)), H) := by
  refine W199_of rfl (by simp) ?_
  simp [code199, Tryz.f199, newRow, fnOut, retOut, resD, retsD, retD, oneD, D.noRefs, D.noRef, alone, Hp.cut, Hp.live]
theorem parts199 (l : List PD) (H : Hp) : W 200 [.p (.agg [.sl l])] H = some (.ret (.p (.sl l)), H) := by
  refine W200_of rfl (by simp) ?_
  simp [code200, Tryz.f200, newRow, fnOut, retOut, resD, retsD, retD, oneD, D.noRefs, D.noRef, alone, Hp.cut, Hp.live]
theorem parts200 (H : Hp) : W 201 [.p (.agg [])] H = some (.ret (.p (.sl [])), H) := by
  refine W201_of rfl (by simp) ?_
  simp [code201, Tryz.f201, newRow, fnOut, retOut, resD, retsD, retD, oneD, D.noRefs, D.noRef, alone, Hp.cut, Hp.live]

theorem me119 : methOf Tryz.prog 120 "sward/value.parts" = some 196 := by kernel_rfl
theorem me120 : methOf Tryz.prog 121 "sward/value.parts" = some 197 := by kernel_rfl
theorem me123 : methOf Tryz.prog 124 "sward/value.parts" = some 198 := by kernel_rfl
theorem me125 : methOf Tryz.prog 126 "sward/value.parts" = some 199 := by kernel_rfl
theorem me144 : methOf Tryz.prog 145 "sward/value.parts" = some 200 := by kernel_rfl
theorem me146 : methOf Tryz.prog 147 "sward/value.parts" = some 201 := by kernel_rfl
end Go.Vi
end

section
/- Vi: value.shaped$1 (f139), value.shaped (f107), by kinds. No conditions. -/
namespace Go.Vi
open Go Go.Lib Go.Proofs
set_option maxRecDepth 100000
attribute [local simp] E_skip E_ret E_exit E_text E_draw E_seq E_cond E_block E_scope E_loop runOps runOp runDraw runVF runV finV gate FlOK wantD exec fin opd look putF norm constD constC fieldAddrD loadD storeD opCall lenD binD isShift intP strP numD indexAddrD indexD D.pd? D.pds? cells_enc sub capsOf callD argsD argD D.nf enc_agg unP box_enc cellD mkF H00 st1 cD_agg cD_pagg cD_int cD_bool cD_str cD_sl cD_lit

def Shp107 (v : Val) (b : Bool) : Prop := ∀ H : Hp, W 108 [.p (enc v)] H = some (.ret (.p (.bool b)), H)

theorem not139_W (v : Val) (b : Bool) (h : Shp107 v b) (H : Hp) : W 140 [.p (enc v)] H = some (.ret (.p (.bool (!b))), H) := by
  refine W140_of rfl (by simp) ?_
  have h' : ∀ H : Hp, W 108 [.p (enc v)] H = some (.ret (.p (.bool b)), H) := h
  have key : E false ⟨0, 0⟩ 140 code140 (mkF 0 [.p (enc v)]) H00 = some (.ret, [(2, .p (.bool (!b)))], st1 v) := by
    simp [code140, Tryz.f140, h']
  rw [key]
  simp [fnOut, retOut, resD, retsD, retD, oneD, D.noRefs, D.noRef, alone, Hp.cut]

noncomputable def ini107 : Code := match code108 with | .seq r _ => r | c => c
noncomputable def of107 : Code := match code108 with | .seq _ (.seq r _) => r | c => c
noncomputable def rest107 : Code := match code108 with | .seq _ (.seq _ r) => r | c => c
theorem code107_eq : code108 = .seq ini107 (.seq of107 rest107) := rfl

theorem z119 : zeroOf Tryz.prog 120 = some (.agg #[.int .i64 0]) := by kernel_rfl
theorem z120 : zeroOf Tryz.prog 121 = some (.agg #[.int .i64 0]) := by kernel_rfl
theorem z123 : zeroOf Tryz.prog 124 = some (.agg #[.string ⟨#[]⟩]) := by kernel_rfl
theorem z125 : zeroOf Tryz.prog 126 = some (.agg #[.slice none 0 0]) := by kernel_rfl
theorem z144 : zeroOf Tryz.prog 145 = some (.agg #[.slice none 0 0]) := by kernel_rfl

theorem rest107_119 (n : Int) (b0 : Blk) : ∃ B, E false ⟨0, 0⟩ 108 rest107 [(3, .p (.ifc 120 (.agg [.int .i64 n])))] ⟨[b0], []⟩ = some (.ret, [(2, .p (.bool (inB n (-1000000000) 1000000000)))], ⟨B, []⟩) := by
  have h1 := fun H => parts195 n H
  have h2 := fun H => contains_W [] 140 (by decide) rfl (by simp) (fun _ => false) (fun u hu => by cases hu) H
  have h3 := fun n lo hi H => in72_W n lo hi H
  simp only [List.map_nil, List.any_nil] at h2
  obtain ⟨_, s119⟩ := us119
  exact ⟨_, by simp [rest107, code108, Tryz.f108, me119, h1, h2, h3, assertD, s119, z119, splice]; rfl⟩

theorem rest107_120 (n : Int) (b0 : Blk) : ∃ B, E false ⟨0, 0⟩ 108 rest107 [(3, .p (.ifc 121 (.agg [.int .i64 n])))] ⟨[b0], []⟩ = some (.ret, [(2, .p (.bool (inB n 0 1)))], ⟨B, []⟩) := by
  have h1 := fun H => parts196 n H
  have h2 := fun H => contains_W [] 140 (by decide) rfl (by simp) (fun _ => false) (fun u hu => by cases hu) H
  have h3 := fun n lo hi H => in72_W n lo hi H
  simp only [List.map_nil, List.any_nil] at h2
  obtain ⟨_, s119⟩ := us119
  obtain ⟨_, s120⟩ := us120
  exact ⟨_, by simp [rest107, code108, Tryz.f108, me120, h1, h2, h3, assertD, s119, s120, z119, z120, splice]; rfl⟩

theorem rest107_123 (t : ByteArray) (b0 : Blk) : ∃ B, E false ⟨0, 0⟩ 108 rest107 [(3, .p (.ifc 124 (.agg [.str t])))] ⟨[b0], []⟩ = some (.ret, [(2, .p (.bool (letters t)))], ⟨B, []⟩) := by
  have h1 := fun H => parts197 t H
  have h2 := fun H => contains_W [] 140 (by decide) rfl (by simp) (fun _ => false) (fun u hu => by cases hu) H
  have h3 := fun H => spelled_W t H
  simp only [List.map_nil, List.any_nil] at h2
  obtain ⟨_, s119⟩ := us119
  obtain ⟨_, s120⟩ := us120
  obtain ⟨_, s123⟩ := us123
  exact ⟨_, by simp [rest107, code108, Tryz.f108, me123, h1, h2, h3, assertD, s119, s120, s123, z119, z120, z123, splice]; rfl⟩

theorem rest107_146 (b0 : Blk) : ∃ B, E false ⟨0, 0⟩ 108 rest107 [(3, .p (.ifc 147 (.agg [])))] ⟨[b0], []⟩ = some (.ret, [(2, .p (.bool false))], ⟨B, []⟩) := by
  have h1 := fun H => parts200 H
  have h2 := fun H => contains_W [] 140 (by decide) rfl (by simp) (fun _ => false) (fun u hu => by cases hu) H
  simp only [List.map_nil, List.any_nil] at h2
  obtain ⟨_, s119⟩ := us119
  obtain ⟨_, s120⟩ := us120
  obtain ⟨_, s123⟩ := us123
  obtain ⟨_, s125⟩ := us125
  obtain ⟨_, s144⟩ := us144
  exact ⟨_, by simp [rest107, code108, Tryz.f108, me146, h1, h2, assertD, s119, s120, s123, s125, s144, z119, z120, z123, z125, z144, splice]; rfl⟩

theorem rest107_125 (l : List Val) (p : Val → Bool) (hp : ∀ u ∈ l, Shp107 u (p u)) (hlen : l.length < 9223372036854775807) (b0 : Blk) :
    ∃ B, E false ⟨0, 0⟩ 108 rest107 [(3, .p (.ifc 126 (.agg [.sl (l.map enc)])))] ⟨[b0], []⟩ = some (.ret, [(2, .p (.bool (l.all p && inB l.length 2 6)))], ⟨B, []⟩) := by
  have h1 := fun H => parts198 (l.map enc) H
  have h2 := fun H => contains_W l 140 (by decide) rfl hlen (fun u => !p u) (fun u hu => not139_W u _ (hp u hu)) H
  have h3 := fun n lo hi H => in72_W n lo hi H
  have h4 : l.any (fun u => !p u) = !l.all p := by simp [List.all_eq_not_any_not]
  rw [h4] at h2
  obtain ⟨_, s119⟩ := us119
  obtain ⟨_, s120⟩ := us120
  obtain ⟨_, s123⟩ := us123
  obtain ⟨_, s125⟩ := us125
  cases ha : l.all p with
  | false =>
    rw [ha] at h2
    exact ⟨_, by simp [rest107, code108, Tryz.f108, me125, h1, h2]; rfl⟩
  | true =>
    rw [ha] at h2
    exact ⟨_, by simp [rest107, code108, Tryz.f108, me125, h1, h2, h3, assertD, s119, s120, s123, s125, z119, z120, z123, z125, splice]; rfl⟩

/-! ### Sets -/
def sortedP : List Val → Bool
  | [] => true
  | [_] => true
  | v :: u :: r => decide (v.pc u < 0) && sortedP (u :: r)

def fr107 (i : Nat) : Fr := [(8, .ptr 1 0), (9, .p (.int .i64 i))]
def st107 (b0 : Blk) (l : List Val) : Hp := ⟨[b0, .cells [.p (.sl (l.map enc))]], []⟩

theorem body107_end (b0 : Blk) (l : List Val) (i : Nat) (h : ¬ i < l.length) : E false ⟨0, 0⟩ 108 lp108_0 (fr107 i) (st107 b0 l) = some (.exit 1, fr107 i ++ [(48, .p (.bool false))], st107 b0 l) := by
  simp [fr107, st107, lp108_0, code108, Tryz.f108, h]

theorem body107_step (b0 : Blk) (l : List Val) (j : Nat) (hlt : j + 1 < l.length) (hlen : l.length < 9223372036854775807) (c : Int)
    (hr : ∀ H, W 84 [.p (enc l[j]), .p (enc l[j + 1])] H = some (.ret (.p (.int .i64 c)), H)) :
    E false ⟨0, 0⟩ 108 lp108_0 (fr107 (j + 1)) (st107 b0 l) = if c < 0 then some (.normal, fr107 (j + 2), st107 b0 l) else some (.ret, [(2, .p (.bool false))], st107 b0 l) := by
  have hj : j < l.length := by omega
  have hw : IntKind.i64.wrap ((j : Int) + 1 + 1) = (j : Int) + 1 + 1 := wrap64 (by omega) (by omega)
  have hw2 : IntKind.i64.wrap (j : Int) = (j : Int) := wrap64 (by omega) (by omega)
  have hw3 : IntKind.i64.wrap ((j : Int) + 1 - 1) = (j : Int) := by rw [show (j : Int) + 1 - 1 = j by omega]; exact hw2
  have hpos : (0 : Int) ≤ (j : Int) + 1 := by omega
  have htn : ((j : Int) + 1).toNat = j + 1 := by omega
  have hlt' : (j : Int) + 1 < l.length := by omega
  by_cases hc : c < 0
  · have hc' : ¬ 0 ≤ c := by omega
    simp [fr107, st107, lp108_0, code108, Tryz.f108, hlt, hlt', hj, hr, hw, hw2, hw3, hpos, htn, hc, hc', len_enc]
    omega
  · have hc' : 0 ≤ c := by omega
    simp [fr107, st107, lp108_0, code108, Tryz.f108, hlt, hlt', hj, hr, hw, hw2, hw3, hpos, htn, hc, hc', len_enc]

theorem cut107 (b0 : Blk) (l : List Val) (F : Fr) : cutD ⟨0, 0⟩ [8, 9] 2 0 F (st107 b0 l) = some (norm [8, 9] F, st107 b0 l) := cut_full ⟨0, 0⟩ [8, 9] F (st107 b0 l)

theorem loop107_ok (b0 : Blk) (l : List Val) (hlen : l.length < 9223372036854775807) (hrec : ∀ u ∈ l, Pc83 u) : ∀ (m j : Nat) (F : Fr), m = l.length - j → norm [8, 9] F = fr107 (j + 1) →
    ∃ d, loopO false ⟨0, 0⟩ 108 lp108_0 2 0 F (st107 b0 l) =
      if sortedP (l.drop j) = true then some (.exit 1, [(8, .ptr 1 0), (9, d), (48, .p (.bool false))], st107 b0 l) else some (.ret, [(2, .p (.bool false))], st107 b0 l) := by
  intro m
  induction m with
  | zero =>
    intro j F hm hF
    refine ⟨.p (.int .i64 ((j + 1 : Nat) : Int)), ?_⟩
    rw [loopO_eq, hd108_0, cut107, hF]
    simp only [body107_end b0 l (j + 1) (by omega)]
    rw [List.drop_eq_nil_of_le (by omega)]
    simp [sortedP, fr107]
  | succ m ih =>
    intro j F hm hF
    by_cases hlt : j + 1 < l.length
    · rw [loopO_eq, hd108_0, cut107, hF]
      rw [List.drop_eq_getElem_cons (show j < l.length by omega), List.drop_eq_getElem_cons hlt, sortedP]
      simp only [body107_step b0 l j hlt hlen _ (fun H => hrec l[j] (List.getElem_mem _) l[j + 1] H)]
      by_cases hc : l[j].pc l[j + 1] < 0
      · obtain ⟨d, hd⟩ := ih (j + 1) (fr107 (j + 2)) (by omega) rfl
        refine ⟨d, ?_⟩
        rw [List.drop_eq_getElem_cons hlt] at hd
        simp only [hc, if_true, decide_true, Bool.true_and]
        exact hd
      · refine ⟨.dead, ?_⟩
        simp only [hc, if_false, decide_false, Bool.false_and, Bool.false_eq_true]
    · refine ⟨.p (.int .i64 ((j + 1 : Nat) : Int)), ?_⟩
      rw [loopO_eq, hd108_0, cut107, hF]
      simp only [body107_end b0 l (j + 1) hlt]
      have hj : l.drop j = [l[j]'(by omega)] := by
        rw [List.drop_eq_getElem_cons (show j < l.length by omega), List.drop_eq_nil_of_le (by omega)]
      rw [hj]
      simp [sortedP, fr107]

theorem rest107_144 (l : List Val) (p : Val → Bool) (hp : ∀ u ∈ l, Shp107 u (p u)) (hlen : l.length < 9223372036854775807) (hrec : ∀ u ∈ l, Pc83 u) (b0 : Blk) :
    ∃ B, E false ⟨0, 0⟩ 108 rest107 [(3, .p (.ifc 145 (.agg [.sl (l.map enc)])))] ⟨[b0], []⟩ = some (.ret, [(2, .p (.bool (l.all p && sortedP l)))], ⟨B, []⟩) := by
  have h1 := fun H => parts199 (l.map enc) H
  have h2 := fun H => contains_W l 140 (by decide) rfl hlen (fun u => !p u) (fun u hu => not139_W u _ (hp u hu)) H
  have h4 : l.any (fun u => !p u) = !l.all p := by simp [List.all_eq_not_any_not]
  rw [h4] at h2
  obtain ⟨_, s119⟩ := us119
  obtain ⟨_, s120⟩ := us120
  obtain ⟨_, s123⟩ := us123
  obtain ⟨_, s125⟩ := us125
  obtain ⟨_, s144⟩ := us144
  cases ha : l.all p with
  | false =>
    rw [ha] at h2
    exact ⟨_, by simp [rest107, code108, Tryz.f108, me144, h1, h2]; rfl⟩
  | true =>
    rw [ha] at h2
    obtain ⟨d, hloop⟩ := loop107_ok b0 l hlen hrec l.length 0 (fr107 1) rfl rfl
    have h01 : ((1 : Nat) : Int) = 1 := rfl
    simp only [lp108_0, code108, Tryz.f108, fr107, st107, h01, List.drop_zero] at hloop
    cases hs : sortedP l with
    | false =>
      rw [hs] at hloop
      simp only [Bool.false_eq_true, if_false] at hloop
      exact ⟨_, by simp [rest107, code108, Tryz.f108, me144, h1, h2, assertD, s119, s120, s123, s125, s144, z119, z120, z123, z125, z144, splice, hloop]; rfl⟩
    | true =>
      rw [hs] at hloop
      simp only [if_true] at hloop
      exact ⟨_, by simp [rest107, code108, Tryz.f108, me144, h1, h2, assertD, s119, s120, s123, s125, s144, z119, z120, z123, z125, z144, splice, hloop]; rfl⟩
end Go.Vi
end
