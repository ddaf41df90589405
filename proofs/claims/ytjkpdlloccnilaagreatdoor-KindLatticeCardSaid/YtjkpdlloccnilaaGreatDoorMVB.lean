/- It is proved here what functions of the program's layer 5 and of its specification compute; conditions stand with each. Values, the second part. -/
import Derived.Test.YtjkpdlloccnilaaGreatDoorMVA
set_option linter.unusedVariables false
set_option linter.unusedSimpArgs false

section
/- Vi: value.copied (f73), value.all (f108): a value, and a list, as they are. No conditions. -/
namespace Go.Vi
open Go Go.Lib Go.Proofs
set_option maxRecDepth 100000
attribute [local simp] E_skip E_ret E_exit E_text E_draw E_seq E_cond E_block E_scope E_loop runOps runOp runDraw drawR slotsOf Hp.kept_zero runX runVF runV finV gate FlOK FlOK0 wantD exec fin opd look putF norm constD constC fieldAddrD loadD storeD opCall lenD binD isShift intP strP numD indexAddrD indexD D.pd? D.pds? cells_enc sub capsOf callD argsD argD D.nf enc_agg unP box_enc cellD mkF H00 st1 cD_aggv cD_paggv cD_intv cD_boolv cD_strv cD_slv cD_litv

def row0 : Arr := ⟨0, 25, 4, true, true, []⟩
def rowI (l : List Val) (i : Nat) : Arr := ⟨i, 25, 4, decide (i = 0), true, (l.map enc).take i⟩
def fr108 (l : List Val) (i : Nat) : Fr := [(3, .own 1 i), (6, .p (.sl (l.map enc))), (7, .p (.int .i64 l.length)), (8, .p (.int .i64 i))]
def st108 (l : List Val) (i : Nat) : Hp := ⟨[], [row0, rowI l i]⟩
theorem zok25v : zOK Tryz.prog 29 4 = true := by kernel_rfl
theorem one_enc (v : Val) : (enc v).one = false := by rw [enc_eq]; rfl
theorem one_intv (k : IntKind) (n : Int) : (PD.int k n).one = true := rfl
theorem one_strv (x : ByteArray) : (PD.str x).one = true := rfl
theorem one_slv (x : List PD) : (PD.sl x).one = true := rfl
theorem fits_enc (v : Val) : fits 4 [enc v] = true := by simp [fits, cells_enc, PD.one]
theorem len_enc (v : Val) : (enc v).cells.length = 4 := by rw [cells_enc]; rfl
theorem all_one (v : Val) : (enc v).cells.all PD.one = true := by rw [cells_enc]; rfl

theorem cut108 (l : List Val) (i : Nat) (F : Fr) (ex : List Blk) (hF : norm [3, 6, 7, 8] F = fr108 l i) : cutD ⟨0, 0⟩ [3, 6, 7, 8] 0 2 F ⟨ex, [row0, rowI l i]⟩ = some (fr108 l i, st108 l i) := by
  simp only [cutD, hF]
  simp [fr108, st108, frNo, D.noRef, Hp.cut]

theorem build25_4 (F : Fr) (a b c d : Tmp) (k n : Int) (t : ByteArray) (l : List PD) (ha : look F a = .p (.int .i64 k)) (hb : look F b = .p (.int .i64 n)) (hc : look F c = .p (.str t)) (hd : look F d = .p (.sl l)) :
    buildD Tryz.prog F 29 [(0, .tmp a), (1, .tmp b), (2, .tmp c), (3, .tmp d)] = some (.agg [.p (.int .i64 k), .p (.int .i64 n), .p (.str t), .p (.sl l)]) := by
  have pl25 : placesOf Tryz.prog 29 = some [(0, 1), (1, 1), (2, 1), (3, 1)] := by kernel_rfl
  simp [buildD, z25', pl25, buildD.go, splice, ha, hb, hc, hd]

end Go.Vi
end

section
/- Vi: value.of (f117): what a value is. No conditions. -/
namespace Go.Vi
open Go Go.Lib Go.Proofs
set_option maxRecDepth 100000
attribute [local simp] E_skip E_ret E_exit E_text E_draw E_seq E_cond E_block E_scope E_loop runOps runOp runDraw drawR slotsOf Hp.kept_zero runX runVF runV finV gate FlOK FlOK0 wantD exec fin opd look putF norm constD constC fieldAddrD loadD storeD opCall lenD binD isShift intP strP numD indexAddrD indexD D.pd? D.pds? cells_enc sub capsOf callD argsD argD D.nf enc_agg unP box_enc cellD mkF H00 st1 cD_aggv cD_paggv cD_intv cD_boolv cD_strv cD_slv cD_litv

theorem us119 : ∃ fs, Tryz.prog.underlying 200 = some (.struct fs) := ⟨_, rfl⟩
theorem us120 : ∃ fs, Tryz.prog.underlying 201 = some (.struct fs) := ⟨_, rfl⟩
theorem us123 : ∃ fs, Tryz.prog.underlying 203 = some (.struct fs) := ⟨_, rfl⟩
theorem us125 : ∃ fs, Tryz.prog.underlying 205 = some (.struct fs) := ⟨_, rfl⟩
theorem us144 : ∃ fs, Tryz.prog.underlying 206 = some (.struct fs) := ⟨_, rfl⟩
theorem us146 : ∃ fs, Tryz.prog.underlying 233 = some (.struct fs) := ⟨_, rfl⟩
theorem bd119 (F : Fr) (s : Tmp) (n : Int) (h : look F s = .p (.int .i64 n)) : buildD Tryz.prog F 200 [(0, .tmp s)] = some (.agg [.p (.int .i64 n)]) := by
  have z : zeroOf Tryz.prog 200 = some (.agg #[.int .i64 0]) := by kernel_rfl
  have pl : placesOf Tryz.prog 200 = some [(0, 1)] := by kernel_rfl
  simp [buildD, z, pl, buildD.go, splice, h]
theorem bd120 (F : Fr) (s : Tmp) (n : Int) (h : look F s = .p (.int .i64 n)) : buildD Tryz.prog F 201 [(0, .tmp s)] = some (.agg [.p (.int .i64 n)]) := by
  have z : zeroOf Tryz.prog 201 = some (.agg #[.int .i64 0]) := by kernel_rfl
  have pl : placesOf Tryz.prog 201 = some [(0, 1)] := by kernel_rfl
  simp [buildD, z, pl, buildD.go, splice, h]
theorem bd123 (F : Fr) (s : Tmp) (t : ByteArray) (h : look F s = .p (.str t)) : buildD Tryz.prog F 203 [(0, .tmp s)] = some (.agg [.p (.str t)]) := by
  have z : zeroOf Tryz.prog 203 = some (.agg #[.string ⟨#[]⟩]) := by kernel_rfl
  have pl : placesOf Tryz.prog 203 = some [(0, 1)] := by kernel_rfl
  simp [buildD, z, pl, buildD.go, splice, h]
theorem bd125 (F : Fr) (s : Tmp) (l : List PD) (h : look F s = .p (.sl l)) : buildD Tryz.prog F 205 [(0, .tmp s)] = some (.agg [.p (.sl l)]) := by
  have z : zeroOf Tryz.prog 205 = some (.agg #[.slice none 0 0]) := by kernel_rfl
  have pl : placesOf Tryz.prog 205 = some [(0, 1)] := by kernel_rfl
  simp [buildD, z, pl, buildD.go, splice, h]
theorem bd144 (F : Fr) (s : Tmp) (l : List PD) (h : look F s = .p (.sl l)) : buildD Tryz.prog F 206 [(0, .tmp s)] = some (.agg [.p (.sl l)]) := by
  have z : zeroOf Tryz.prog 206 = some (.agg #[.slice none 0 0]) := by kernel_rfl
  have pl : placesOf Tryz.prog 206 = some [(0, 1)] := by kernel_rfl
  simp [buildD, z, pl, buildD.go, splice, h]
theorem bd146 (F : Fr) : buildD Tryz.prog F 233 [] = some (.agg []) := by kernel_rfl

def Val.kind (v : Val) : PD :=
  if v.k = 1 then (if v.t = ⟨#[]⟩ ∧ v.ps.length = 0 then .ifc 200 (.agg [.int .i64 v.n]) else .ifc 233 (.agg []))
  else if v.k = 2 then (if v.t = ⟨#[]⟩ ∧ v.ps.length = 0 then .ifc 201 (.agg [.int .i64 v.n]) else .ifc 233 (.agg []))
  else if v.k = 3 then (if v.n = 0 ∧ v.ps.length = 0 then .ifc 203 (.agg [.str v.t]) else .ifc 233 (.agg []))
  else if v.k = 4 then (if v.n = 0 ∧ v.t = ⟨#[]⟩ then .ifc 205 (.agg [.sl (v.ps.map enc)]) else .ifc 233 (.agg []))
  else if v.k = 5 then (if v.n = 0 ∧ v.t = ⟨#[]⟩ then .ifc 206 (.agg [.sl (v.ps.map enc)]) else .ifc 233 (.agg []))
  else .ifc 233 (.agg [])

theorem of_W (v : Val) (H : Hp) : W 179 [.p (enc v)] H = some (.ret (.p v.kind), H) := by
  refine W179_of rfl (by simp) ?_
  have key : E false ⟨0, 0⟩ 179 code179 (mkF 0 [.p (enc v)]) H00 = some (.ret, [(2, .p v.kind)], st1 v) := by
    obtain ⟨_, s119⟩ := us119
    obtain ⟨_, s120⟩ := us120
    obtain ⟨_, s123⟩ := us123
    obtain ⟨_, s125⟩ := us125
    obtain ⟨_, s144⟩ := us144
    obtain ⟨_, s146⟩ := us146
    by_cases h1 : v.k = 1
    · by_cases ht : v.t = ⟨#[]⟩ <;> by_cases hl : v.ps = [] <;> simp [code179, Tryz.f179, Val.kind, h1, ht, hl, bd119, bd146, s119, s146]
    by_cases h2 : v.k = 2
    · by_cases ht : v.t = ⟨#[]⟩ <;> by_cases hl : v.ps = [] <;> simp [code179, Tryz.f179, Val.kind, h2, ht, hl, bd120, bd146, s120, s146]
    by_cases h3 : v.k = 3
    · by_cases ht : v.n = 0 <;> by_cases hl : v.ps = [] <;> simp [code179, Tryz.f179, Val.kind, h3, ht, hl, bd123, bd146, s123, s146]
    by_cases h4 : v.k = 4
    · by_cases ht : v.n = 0 <;> by_cases hl : v.t = ⟨#[]⟩ <;> simp [code179, Tryz.f179, Val.kind, h4, ht, hl, bd125, bd146, s125, s146]
    by_cases h5 : v.k = 5
    · by_cases ht : v.n = 0 <;> by_cases hl : v.t = ⟨#[]⟩ <;> simp [code179, Tryz.f179, Val.kind, h5, ht, hl, bd144, bd146, s144, s146]
    simp [code179, Tryz.f179, Val.kind, h1, h2, h3, h4, h5, bd146, s146]
  rw [key]
  simp [fnOut, retOut, resD, retsD, retD, oneD, D.noRefs, D.noRef, alone, Hp.cut]
end Go.Vi
end

section
/- Vi: cmp.isNaN (f145, f161), cmp.Compare (f123, f146), strings.Compare (f147), pair.numbers (f124), pair.words (f125). No conditions. -/
namespace Go.Vi
open Go Go.Lib Go.Proofs
set_option maxRecDepth 100000
attribute [local simp] E_skip E_ret E_exit E_text E_draw E_seq E_cond E_block E_scope E_loop runOps runOp runDraw drawR slotsOf Hp.kept_zero runX runVF runV finV gate FlOK FlOK0 wantD exec fin opd look putF norm constD constC fieldAddrD loadD storeD opCall lenD binD isShift intP strP numD indexAddrD indexD D.pd? D.pds? cells_enc sub capsOf callD argsD argD D.nf enc_agg unP box_enc cellD mkF H00 st1 cD_aggv cD_paggv cD_intv cD_boolv cD_strv cD_slv cD_litv

theorem nan145_W (a : Int) (H : Hp) : W 220 [.p (.int .i64 a)] H = some (.ret (.p (.bool false)), H) := by
  refine W220_of rfl (by simp) ?_
  have key : E false ⟨0, 0⟩ 220 code220 (mkF 0 [.p (.int .i64 a)]) H00 = some (.ret, [(2, .p (.bool false))], H00) := by simp [code220, Tryz.f220]
  rw [key]
  simp [fnOut, retOut, resD, retsD, retD, oneD, D.noRefs, D.noRef, alone, Hp.cut]
theorem nan161_W (a : Int) (H : Hp) : W 229 [.p (.int .i64 a)] H = some (.ret (.p (.bool false)), H) := by
  refine W229_of rfl (by simp) ?_
  have key : E false ⟨0, 0⟩ 229 code229 (mkF 0 [.p (.int .i64 a)]) H00 = some (.ret, [(2, .p (.bool false))], H00) := by simp [code229, Tryz.f229]
  rw [key]
  simp [fnOut, retOut, resD, retsD, retD, oneD, D.noRefs, D.noRef, alone, Hp.cut]

theorem cmp123_W (a b : Int) (H : Hp) : W 208 [.p (.int .i64 a), .p (.int .i64 b)] H = some (.ret (.p (.int .i64 (ordI a b))), H) := by
  refine W208_of rfl (by simp) ?_
  have hn := fun a H => nan145_W a H
  have key : E false ⟨0, 0⟩ 208 code208 (mkF 0 [.p (.int .i64 a), .p (.int .i64 b)]) H00 = some (.ret, [(4, .p (.int .i64 (ordI a b)))], H00) := by
    by_cases h1 : a < b
    · simp [code208, Tryz.f208, ordI, h1, hn]
    · by_cases h2 : b < a <;> simp [code208, Tryz.f208, ordI, h1, h2, hn]
  rw [key]
  simp [fnOut, retOut, resD, retsD, retD, oneD, D.noRefs, D.noRef, alone, Hp.cut]
theorem cmp146_W (a b : Int) (H : Hp) : W 221 [.p (.int .i64 a), .p (.int .i64 b)] H = some (.ret (.p (.int .i64 (ordI a b))), H) := by
  refine W221_of rfl (by simp) ?_
  have hn := fun a H => nan161_W a H
  have key : E false ⟨0, 0⟩ 221 code221 (mkF 0 [.p (.int .i64 a), .p (.int .i64 b)]) H00 = some (.ret, [(4, .p (.int .i64 (ordI a b)))], H00) := by
    by_cases h1 : a < b
    · simp [code221, Tryz.f221, ordI, h1, hn]
    · by_cases h2 : b < a <;> simp [code221, Tryz.f221, ordI, h1, h2, hn]
  rw [key]
  simp [fnOut, retOut, resD, retsD, retD, oneD, D.noRefs, D.noRef, alone, Hp.cut]

theorem cmp162_W (a b : ByteArray) (H : Hp) : W 230 [.p (.str a), .p (.str b)] H = some (.ret (.p (.int .i64 (Lib.compareBytes a.data.toList b.data.toList))), H) := by
  refine calW_of ?_
  unfold calF
  rw [if_pos (show others.is 230 = true from rfl)]
  rfl
theorem strcmp_W (a b : ByteArray) (H : Hp) : W 222 [.p (.str a), .p (.str b)] H = some (.ret (.p (.int .i64 (Lib.compareBytes a.data.toList b.data.toList))), H) := by
  refine W222_of rfl (by simp) ?_
  have hn := fun H => cmp162_W a b H
  have key : E false ⟨0, 0⟩ 222 code222 (mkF 0 [.p (.str a), .p (.str b)]) H00 = some (.ret, [(4, .p (.int .i64 (Lib.compareBytes a.data.toList b.data.toList)))], H00) := by
    simp [code222, Tryz.f222, hn]
  rw [key]
  simp [fnOut, retOut, resD, retsD, retD, oneD, D.noRefs, D.noRef, alone, Hp.cut]

/-- Two values of one kind, as the program hands them on. -/
def pairP (v u : Val) : PD := .agg [.int .i64 v.k, .int .i64 v.n, .str v.t, .sl (v.ps.map enc), .int .i64 u.k, .int .i64 u.n, .str u.t, .sl (u.ps.map enc)]

theorem numbers_W (v u : Val) (H : Hp) : W 209 [.p (pairP v u)] H = some (.ret (.p (.int .i64 (ordI v.n u.n))), H) := by
  refine W209_of rfl (by simp) ?_
  have hn := fun H => cmp146_W v.n u.n H
  suffices key : ∃ B, E false ⟨0, 0⟩ 209 code209 (mkF 0 [.p (pairP v u)]) H00 = some (.ret, [(2, .p (.int .i64 (ordI v.n u.n)))], ⟨B, []⟩) by
    obtain ⟨B, key⟩ := key
    rw [key]
    simp [fnOut, retOut, resD, retsD, retD, oneD, D.noRefs, D.noRef, alone, Hp.cut]
  refine ⟨[.cells [.p (.int .i64 v.k), .p (.int .i64 v.n), .p (.str v.t), .p (.sl (v.ps.map enc)), .p (.int .i64 u.k), .p (.int .i64 u.n), .p (.str u.t), .p (.sl (u.ps.map enc))]], ?_⟩
  simp [code209, Tryz.f209, pairP, hn]

theorem words_W (v u : Val) (H : Hp) : W 210 [.p (pairP v u)] H = some (.ret (.p (.int .i64 (Lib.compareBytes v.t.data.toList u.t.data.toList))), H) := by
  refine W210_of rfl (by simp) ?_
  have hn := fun H => strcmp_W v.t u.t H
  suffices key : ∃ B, E false ⟨0, 0⟩ 210 code210 (mkF 0 [.p (pairP v u)]) H00 = some (.ret, [(2, .p (.int .i64 (Lib.compareBytes v.t.data.toList u.t.data.toList)))], ⟨B, []⟩) by
    obtain ⟨B, key⟩ := key
    rw [key]
    simp [fnOut, retOut, resD, retsD, retD, oneD, D.noRefs, D.noRef, alone, Hp.cut]
  refine ⟨[.cells [.p (.int .i64 v.k), .p (.int .i64 v.n), .p (.str v.t), .p (.sl (v.ps.map enc)), .p (.int .i64 u.k), .p (.int .i64 u.n), .p (.str u.t), .p (.sl (u.ps.map enc))]], ?_⟩
  simp [code210, Tryz.f210, pairP, hn]
end Go.Vi
end

section
/- Vi: slices.CompareFunc (f148) at value.compare, lists of one length; pair.lists (f126). No conditions. -/
namespace Go.Vi
open Go Go.Lib Go.Proofs
set_option maxRecDepth 100000
attribute [local simp] E_skip E_ret E_exit E_text E_draw E_seq E_cond E_block E_scope E_loop runOps runOp runDraw drawR slotsOf Hp.kept_zero runX runVF runV finV gate FlOK FlOK0 wantD exec fin opd look putF norm constD constC fieldAddrD loadD storeD opCall lenD binD isShift intP strP numD indexAddrD indexD D.pd? D.pds? cells_enc sub capsOf callD argsD argD D.nf enc_agg unP box_enc cellD mkF H00 st1 cD_aggv cD_paggv cD_intv cD_boolv cD_strv cD_slv cD_litv

mutual
/-- How the program compares. -/
def Val.pc : Val → Val → Int
  | .mk k n t ps, .mk k' n' t' ps' =>
    if ordI k k' ≠ 0 then ordI k k'
    else if k < 1 ∨ 5 < k then 0
    else if k = 1 ∨ k = 2 then ordI n n'
    else if k = 3 then Lib.compareBytes t.data.toList t'.data.toList
    else if ordI ps.length ps'.length ≠ 0 then ordI ps.length ps'.length
    else pcL ps ps'
def pcL : List Val → List Val → Int
  | [], _ => 0
  | _ :: _, [] => 0
  | v :: r, u :: s => if v.pc u ≠ 0 then v.pc u else pcL r s
end
theorem pc_eq (v u : Val) : v.pc u = if ordI v.k u.k ≠ 0 then ordI v.k u.k
    else if v.k < 1 ∨ 5 < v.k then 0
    else if v.k = 1 ∨ v.k = 2 then ordI v.n u.n
    else if v.k = 3 then Lib.compareBytes v.t.data.toList u.t.data.toList
    else if ordI v.ps.length u.ps.length ≠ 0 then ordI v.ps.length u.ps.length
    else pcL v.ps u.ps := by cases v; cases u; rfl

def Pc83 (v : Val) : Prop := ∀ (u : Val) (H : Hp), W 183 [.p (enc v), .p (enc u)] H = some (.ret (.p (.int .i64 (v.pc u))), H)

def fr148 (a b : List Val) (i : Nat) : Fr := [(0, .p (.sl (a.map enc))), (1, .p (.sl (b.map enc))), (2, .p (.fn 183)), (11, .p (.sl (a.map enc))), (12, .p (.int .i64 a.length)), (13, .p (.int .i64 i))]

theorem body148_end (a b : List Val) : E false ⟨0, 0⟩ 223 lp223_0 (fr148 a b a.length) H00 = some (.exit 0, fr148 a b a.length ++ [(14, .p (.bool false))], H00) := by
  simp [fr148, lp223_0, code223, Tryz.f223]

theorem body148_step (a b : List Val) (i : Nat) (hlt : i < a.length) (hlb : i < b.length) (hlen : a.length < 9223372036854775807) (c : Int)
    (hr : ∀ H, W 183 [.p (enc a[i]), .p (enc b[i])] H = some (.ret (.p (.int .i64 c)), H)) :
    E false ⟨0, 0⟩ 223 lp223_0 (fr148 a b i) H00 = if c ≠ 0 then some (.ret, [(6, .p (.int .i64 c))], ⟨[box25 a[i], box25 b[i]], []⟩) else some (.normal, fr148 a b (i + 1), ⟨[box25 a[i], box25 b[i]], []⟩) := by
  have hw : IntKind.i64.wrap ((i : Int) + 1) = (i : Int) + 1 := wrap64 (by omega) (by omega)
  have hnb : ¬ b.length ≤ i := by omega
  by_cases hc : c = 0 <;> simp [fr148, box25, lp223_0, code223, Tryz.f223, hlt, hlb, hnb, hr, hw, hc, z25', splice]

theorem cut148 (a b : List Val) (i : Nat) (F : Fr) (ex : List Blk) (hF : norm [0, 1, 2, 11, 12, 13] F = fr148 a b i) : cutD ⟨0, 0⟩ [0, 1, 2, 11, 12, 13] 0 0 F ⟨ex, []⟩ = some (fr148 a b i, H00) := by
  simp only [cutD, hF]
  simp [fr148, frNo, blkNo, D.noRef, D.noRefs, Hp.cut]

theorem loop148_ok (a b : List Val) (hab : a.length = b.length) (hlen : a.length < 9223372036854775807) (hrec : ∀ u ∈ a, Pc83 u) : ∀ (m i : Nat) (F : Fr) (ex : List Blk),
    m = a.length - i → i ≤ a.length → norm [0, 1, 2, 11, 12, 13] F = fr148 a b i →
    ∃ ex', loopO false ⟨0, 0⟩ 223 lp223_0 0 0 F ⟨ex, []⟩ = if pcL (a.drop i) (b.drop i) ≠ 0 then some (.ret, [(6, .p (.int .i64 (pcL (a.drop i) (b.drop i))))], ⟨ex', []⟩)
      else some (.exit 0, fr148 a b a.length ++ [(14, .p (.bool false))], H00) := by
  intro m
  induction m with
  | zero =>
    intro i F ex hm hi hF
    have hie : i = a.length := by omega
    subst hie
    refine ⟨[], ?_⟩
    rw [loopO_eq, hd223_0, cut148 a b _ F ex hF]
    simp only [body148_end, List.drop_length, pcL]
    simp
  | succ m ih =>
    intro i F ex hm hi hF
    have hlt : i < a.length := by omega
    have hlb : i < b.length := by omega
    rw [List.drop_eq_getElem_cons hlt, List.drop_eq_getElem_cons hlb, pcL]
    rw [loopO_eq, hd223_0, cut148 a b _ F ex hF]
    simp only [body148_step a b i hlt hlb hlen _ (fun H => hrec a[i] (List.getElem_mem hlt) b[i] H)]
    by_cases hc : a[i].pc b[i] = 0
    · simp only [hc, ne_eq, not_true_eq_false, if_false]
      exact ih (i + 1) (fr148 a b (i + 1)) _ (by omega) (by omega) rfl
    · refine ⟨[box25 a[i], box25 b[i]], ?_⟩
      simp only [ne_eq, hc, not_false_eq_true, if_true]

theorem cmpf_W (a b : List Val) (hab : a.length = b.length) (hlen : a.length < 9223372036854775807) (hrec : ∀ u ∈ a, Pc83 u) (H : Hp) :
    W 223 [.p (.sl (a.map enc)), .p (.sl (b.map enc)), .p (.fn 183)] H = some (.ret (.p (.int .i64 (pcL a b))), H) := by
  refine W223_of rfl (by simp) ?_
  suffices key : ∃ B, E false ⟨0, 0⟩ 223 code223 (mkF 0 [.p (.sl (a.map enc)), .p (.sl (b.map enc)), .p (.fn 183)]) H00 = some (.ret, [(6, .p (.int .i64 (pcL a b)))], ⟨B, []⟩) by
    obtain ⟨B, key⟩ := key
    rw [key]
    simp [fnOut, retOut, resD, retsD, retD, oneD, D.noRefs, D.noRef, alone, Hp.cut]
  obtain ⟨ex', hloop⟩ := loop148_ok a b hab hlen hrec a.length 0 (fr148 a b 0) [] rfl (Nat.zero_le _) rfl
  have h00 : ((0 : Nat) : Int) = 0 := rfl
  simp only [lp223_0, code223, Tryz.f223, fr148, h00, List.drop_zero, hab, H00] at hloop
  by_cases hc : pcL a b = 0
  · simp only [hc, ne_eq, not_true_eq_false, if_false] at hloop
    refine ⟨[], ?_⟩
    simp [code223, Tryz.f223, hab, hloop, hc]
  · simp only [hc, ne_eq, not_false_eq_true, if_true] at hloop
    refine ⟨ex', ?_⟩
    simp [code223, Tryz.f223, hab, hloop]

theorem ordI_zero (a b : Int) : ordI a b = 0 ↔ a = b := by
  by_cases h1 : a < b
  · simp [ordI, h1]; omega
  · by_cases h2 : b < a
    · simp [ordI, h1, h2]; omega
    · simp [ordI, h1, h2]; omega

theorem lists126_W (v u : Val) (hlen : v.ps.length < 9223372036854775807) (hrec : ∀ x ∈ v.ps, Pc83 x) (H : Hp) :
    W 211 [.p (pairP v u)] H = some (.ret (.p (.int .i64 (if ordI v.ps.length u.ps.length ≠ 0 then ordI v.ps.length u.ps.length else pcL v.ps u.ps))), H) := by
  refine W211_of rfl (by simp) ?_
  have hn := fun H => cmp146_W v.ps.length u.ps.length H
  suffices key : ∃ B, E false ⟨0, 0⟩ 211 code211 (mkF 0 [.p (pairP v u)]) H00 =
      some (.ret, [(2, .p (.int .i64 (if ordI v.ps.length u.ps.length ≠ 0 then ordI v.ps.length u.ps.length else pcL v.ps u.ps)))], ⟨B, []⟩) by
    obtain ⟨B, key⟩ := key
    rw [key]
    simp [fnOut, retOut, resD, retsD, retD, oneD, D.noRefs, D.noRef, alone, Hp.cut]
  refine ⟨[.cells [.p (.int .i64 v.k), .p (.int .i64 v.n), .p (.str v.t), .p (.sl (v.ps.map enc)), .p (.int .i64 u.k), .p (.int .i64 u.n), .p (.str u.t), .p (.sl (u.ps.map enc))]], ?_⟩
  by_cases ho : ordI v.ps.length u.ps.length = 0
  · have hvu : v.ps.length = u.ps.length := by have := (ordI_zero _ _).1 ho; omega
    have hc := fun H => cmpf_W v.ps u.ps hvu hlen hrec H
    simp [code211, Tryz.f211, pairP, hn, ho, hc]
  · simp [code211, Tryz.f211, pairP, hn, ho]
end Go.Vi
end

section
/- Vi: value.compare (f83). No conditions. -/
namespace Go.Vi
open Go Go.Lib Go.Proofs
set_option maxRecDepth 100000
attribute [local simp] E_skip E_ret E_exit E_text E_draw E_seq E_cond E_block E_scope E_loop runOps runOp runDraw drawR slotsOf Hp.kept_zero runX runVF runV finV gate FlOK FlOK0 wantD exec fin opd look putF norm constD constC fieldAddrD loadD storeD opCall lenD binD isShift intP strP numD indexAddrD indexD D.pd? D.pds? cells_enc sub capsOf callD argsD argD D.nf enc_agg unP box_enc cellD mkF H00 st1 cD_aggv cD_paggv cD_intv cD_boolv cD_strv cD_slv cD_litv

theorem bd133 (F : Fr) : buildD Tryz.prog F 239 [(1, .func 209), (2, .func 209), (3, .func 210), (4, .func 211), (5, .func 211)] =
    some (.agg [.p .nilF, .p (.fn 209), .p (.fn 209), .p (.fn 210), .p (.fn 211), .p (.fn 211)]) := by kernel_rfl
theorem z133 : zeroOf Tryz.prog 239 = some (.agg #[.nilFunc, .nilFunc, .nilFunc, .nilFunc, .nilFunc, .nilFunc]) := by kernel_rfl
theorem un133 : Tryz.prog.underlying 239 = some (.array 6 235) := by kernel_rfl
theorem bd132 (R : Fr) (k n : Int) (x : ByteArray) (l : List PD) (k' n' : Int) (x' : ByteArray) (l' : List PD) :
    buildD Tryz.prog ((29, .agg [.p (.int .i64 k'), .p (.int .i64 n'), .p (.str x'), .p (.sl l')]) :: (28, .agg [.p (.int .i64 k), .p (.int .i64 n), .p (.str x), .p (.sl l)]) :: R) 238
      [(0, .tmp 28), (1, .tmp 29)] = some (.agg [.p (.int .i64 k), .p (.int .i64 n), .p (.str x), .p (.sl l), .p (.int .i64 k'), .p (.int .i64 n'), .p (.str x'), .p (.sl l')]) := by
  have z : zeroOf Tryz.prog 238 = some (.agg #[.int .i64 0, .int .i64 0, .string ⟨#[]⟩, .slice none 0 0, .int .i64 0, .int .i64 0, .string ⟨#[]⟩, .slice none 0 0]) := by kernel_rfl
  have pl : placesOf Tryz.prog 238 = some [(0, 4), (4, 4)] := by kernel_rfl
  simp [buildD, z, pl, buildD.go, splice]

def tblB : Blk := .cells [.p .nilF, .p (.fn 209), .p (.fn 209), .p (.fn 210), .p (.fn 211), .p (.fn 211)]

theorem compare_step (v u : Val) (hlen : v.ps.length < 9223372036854775807) (hrec : ∀ x ∈ v.ps, Pc83 x) (H : Hp) : W 183 [.p (enc v), .p (enc u)] H = some (.ret (.p (.int .i64 (v.pc u))), H) := by
  refine W183_of rfl (by simp) ?_
  suffices key : ∃ B, E false ⟨0, 0⟩ 183 code183 (mkF 0 [.p (enc v), .p (enc u)]) H00 = some (.ret, [(4, .p (.int .i64 (v.pc u)))], ⟨B, []⟩) by
    obtain ⟨B, key⟩ := key
    rw [key]
    simp [fnOut, retOut, resD, retsD, retD, oneD, D.noRefs, D.noRef, alone, Hp.cut]
  have hc := fun a b H => cmp123_W a b H
  have hn := fun H => numbers_W v u H
  have hw := fun H => words_W v u H
  have hl := fun H => lists126_W v u hlen hrec H
  simp only [pairP] at hn hw hl
  rw [pc_eq]
  by_cases ho : ordI v.k u.k = 0
  · have hk : v.k = u.k := (ordI_zero _ _).1 ho
    by_cases h0 : v.k < 1
    · refine ⟨[box25 v, box25 u, tblB], ?_⟩
      simp [code183, Tryz.f183, box25, tblB, hc, ho, h0, bd133, z133, splice]
    by_cases h6 : 5 < v.k
    · refine ⟨[box25 v, box25 u, tblB], ?_⟩
      simp [code183, Tryz.f183, box25, tblB, hc, ho, h0, h6, bd133, z133, splice]
    have hor : v.k = 1 ∨ v.k = 2 ∨ v.k = 3 ∨ v.k = 4 ∨ v.k = 5 := by omega
    refine ⟨[box25 v, box25 u, tblB], ?_⟩
    rcases hor with e | e | e | e | e <;> rw [e] at ho hn hw hl ⊢ <;> simp [code183, Tryz.f183, box25, tblB, hc, ho, e, bd133, z133, splice, un133, bd132, hn, hw, hl]
  · refine ⟨[box25 v, box25 u], ?_⟩
    simp [code183, Tryz.f183, box25, hc, ho]

mutual
theorem compare_W : ∀ v : Val, v.fine → Pc83 v
  | .mk k n t ps, h => fun u H => compare_step (.mk k n t ps) u (by have := h.1; simp only [Val.ps]; omega) (compares_W ps h.2) H
theorem compares_W : ∀ l : List Val, fines l → ∀ u ∈ l, Pc83 u
  | [], _, u, hu => by cases hu
  | v :: r, h, u, hu => by
    rcases List.mem_cons.1 hu with e | hu
    · rw [e]; exact compare_W v h.1
    · exact compares_W r h.2 u hu
end
end Go.Vi
end

section
/- Vi: ref.At (f18). No conditions. -/
namespace Go.Vi
open Go Go.Lib Go.Proofs
set_option maxRecDepth 100000
attribute [local simp] E_skip E_ret E_exit E_text E_draw E_seq E_cond E_block E_scope E_loop runOps runOp runDraw drawR slotsOf Hp.kept_zero runX runVF runV finV gate FlOK FlOK0 wantD exec fin opd look putF norm constD constC fieldAddrD loadD storeD opCall lenD binD isShift intP strP numD indexAddrD indexD D.pd? D.pds? cells_enc sub capsOf callD argsD argD D.nf enc_agg unP box_enc cellD mkF H00 st1 cD_aggv cD_paggv cD_intv cD_boolv cD_strv cD_slv cD_litv

theorem cells_intv (k : IntKind) (n : Int) : (PD.int k n).cells = [PD.int k n] := rfl
def encI (l : List Int) : List PD := l.map (PD.int .i64)
def atV : Val → List Int → Option Val
  | v, [] => some v
  | v, n :: r => if h : inB n 0 ((v.ps.length : Int) - 1) = true ∧ n.toNat < v.ps.length then atV v.ps[n.toNat] r else none

def zeroB : Blk := .cells [.p (.int .i64 0), .p (.int .i64 0), .p (.str ⟨#[]⟩), .lit true []]
def st18 (v : Val) : Hp := ⟨[box25 v, zeroB], []⟩
def fr18 (p : List Int) (i : Nat) : Fr := [(1, .p (.sl (encI p))), (2, .ptr 0 0), (4, .ptr 1 0), (6, .p (.int .i64 i))]

theorem cut18 (v : Val) (p : List Int) (i : Nat) (F : Fr) (hF : norm [1, 2, 4, 6] F = fr18 p i) : cutD ⟨0, 0⟩ [1, 2, 4, 6] 2 0 F (st18 v) = some (fr18 p i, st18 v) := by
  simp only [cutD, hF]
  simp [fr18, st18, box25, zeroB, frNo, blkNo, D.noRef, D.noRefs, Hp.cut]

end Go.Vi
end

section
/- Vi: value.spelled (f140): as ref.letters. No conditions. -/
namespace Go.Vi
open Go Go.Lib Go.Proofs
set_option maxRecDepth 100000
attribute [local simp] E_skip E_ret E_exit E_text E_draw E_seq E_cond E_block E_scope E_loop runOps runOp runDraw drawR slotsOf Hp.kept_zero runX runVF runV finV gate FlOK FlOK0 wantD exec fin opd look putF norm constD constC fieldAddrD loadD storeD opCall lenD binD isShift intP strP numD indexAddrD indexD D.pd? D.pds? cells_enc sub capsOf callD argsD argD D.nf enc_agg unP box_enc cellD mkF H00 st1 cD_aggv cD_paggv cD_intv cD_boolv cD_strv cD_slv cD_litv

def fr140 (s : ByteArray) : Fr := [(0, .p (.str s)), (6, .ptr 0 0)]
def st140 (s : ByteArray) (i : Nat) : Hp := ⟨[.sit s i], []⟩

theorem body140_end (s : ByteArray) : E false ⟨0, 0⟩ 182 lp182_0 (fr140 s) (st140 s s.size) = some (.exit 0, [(0, .p (.str s)), (6, .ptr 0 0), (7, .tup [.p (.bool false)]), (8, .p (.bool false))], st140 s s.size) := by
  simp [fr140, st140, lp182_0, code182, Tryz.f182]

theorem body140_step (s : ByteArray) (i : Nat) (hlt : i < s.size) : ∃ j,
    E false ⟨0, 0⟩ 182 lp182_0 (fr140 s) (st140 s i) = if okB (s[i]'hlt) = true then some (.normal, fr140 s ++ [(23, .p (.bool false))], st140 s (i + 1)) else some (.ret, [(2, .p (.bool false))], st140 s j) := by
  by_cases h7 : (s[i]'hlt).toNat < 128
  · have hd := decode_ascii s i hlt h7
    refine ⟨i + 1, ?_⟩
    by_cases h1 : (s[i]'hlt).toNat < 32
    · have e1 : ((s[i]'hlt).toNat : Int) < 32 := by omega
      have h1' : ¬ 32 ≤ (s[i]'hlt).toNat := by omega
      simp [fr140, st140, lp182_0, code182, Tryz.f182, hlt, hd, okB, e1, h1']
    have e1 : ¬ ((s[i]'hlt).toNat : Int) < 32 := by omega
    have h1' : 32 ≤ (s[i]'hlt).toNat := by omega
    by_cases h2 : 126 < (s[i]'hlt).toNat
    · have e2 : (126 : Int) < (s[i]'hlt).toNat := by omega
      have h2' : ¬ (s[i]'hlt).toNat ≤ 126 := by omega
      simp [fr140, st140, lp182_0, code182, Tryz.f182, hlt, hd, okB, e1, h1', e2, h2']
    have e2 : ¬ (126 : Int) < (s[i]'hlt).toNat := by omega
    have h2' : (s[i]'hlt).toNat ≤ 126 := by omega
    by_cases h3 : (s[i]'hlt).toNat = 34
    · simp [fr140, st140, lp182_0, code182, Tryz.f182, hlt, hd, okB, h3, e1, e2]
    have e3 : ¬ ((s[i]'hlt).toNat : Int) = 34 := by omega
    by_cases h4 : (s[i]'hlt).toNat = 92
    · simp [fr140, st140, lp182_0, code182, Tryz.f182, hlt, hd, okB, h4, e1, e2, e3]
    have e4 : ¬ ((s[i]'hlt).toNat : Int) = 92 := by omega
    simp [fr140, st140, lp182_0, code182, Tryz.f182, hlt, hd, okB, e1, h1', e2, h2', e3, h3, e4, h4]
  · have hd := (decode_high s i hlt (by omega)).1
    have hok : okB (s[i]'hlt) = false := by
      have : ¬ (s[i]'hlt).toNat ≤ 126 := by omega
      simp [okB, this]
    have e1 : ¬ ((Utf8.decode s i).1 : Int) < 32 := by omega
    have e2 : (126 : Int) < ((Utf8.decode s i).1 : Int) := by omega
    refine ⟨i + (Utf8.decode s i).2, ?_⟩
    rw [hok]
    simp [fr140, st140, lp182_0, code182, Tryz.f182, hlt, e1, e2]

theorem cut140 (s : ByteArray) (i : Nat) (F : Fr) (hF : norm [0, 6] F = fr140 s) : cutD ⟨0, 0⟩ [0, 6] 1 0 F (st140 s i) = some (fr140 s, st140 s i) := by
  simp only [cutD, hF]
  simp [fr140, st140, frNo, blkNo, D.noRef, Hp.cut]

theorem loop140_ok (s : ByteArray) : ∀ (m i : Nat) (F : Fr), m = s.size - i → i ≤ s.size → norm [0, 6] F = fr140 s →
    ∃ j, loopO false ⟨0, 0⟩ 182 lp182_0 1 0 F (st140 s i) = if (s.data.toList.drop i).all okB = true then
      some (.exit 0, [(0, .p (.str s)), (6, .ptr 0 0), (7, .tup [.p (.bool false)]), (8, .p (.bool false))], st140 s s.size) else some (.ret, [(2, .p (.bool false))], st140 s j) := by
  intro m
  induction m with
  | zero =>
    intro i F hm hi hF
    have hie : i = s.size := by omega
    subst hie
    refine ⟨0, ?_⟩
    rw [loopO_eq, hd182_0, cut140 s _ F hF]
    simp only [body140_end]
    rw [show s.data.toList.drop s.size = [] by rw [← ba_size, List.drop_length]]
    simp
  | succ m ih =>
    intro i F hm hi hF
    have hlt : i < s.size := by omega
    have hlt' : i < s.data.toList.length := by rw [ba_size]; exact hlt
    obtain ⟨j, hj⟩ := body140_step s i hlt
    have eb : s[i]'hlt = s.data.toList[i] := rfl
    rw [List.drop_eq_getElem_cons hlt']
    rw [loopO_eq, hd182_0, cut140 s _ F hF]
    simp only [hj, eb]
    cases hb : okB s.data.toList[i] with
    | false => exact ⟨j, by simp only [List.all_cons, hb, Bool.false_and, Bool.false_eq_true, if_false]⟩
    | true =>
      simp only [if_true, List.all_cons, hb, Bool.true_and]
      exact ih (i + 1) (fr140 s ++ [(23, .p (.bool false))]) (by omega) (by omega) rfl

theorem spelled_W (s : ByteArray) (H : Hp) : W 182 [.p (.str s)] H = some (.ret (.p (.bool (letters s))), H) := by
  refine W182_of rfl (by simp) ?_
  have hl : letters s = (s.data.toList.all okB && decide (s.size ≤ 20)) := rfl
  obtain ⟨j, hloop⟩ := loop140_ok s s.size 0 (fr140 s) rfl (Nat.zero_le _) rfl
  have h20 : ((s.size : Int) ≤ 20) = (s.size ≤ 20) := by apply propext; omega
  simp only [lp182_0, code182, Tryz.f182, fr140, st140, List.drop_zero] at hloop
  suffices key : ∃ B, E false ⟨0, 0⟩ 182 code182 (mkF 0 [.p (.str s)]) H00 = some (.ret, [(2, .p (.bool (letters s)))], ⟨B, []⟩) by
    obtain ⟨B, key⟩ := key
    rw [key]
    simp [fnOut, retOut, resD, retsD, retD, oneD, D.noRefs, D.noRef, alone, Hp.cut]
  cases he : s.data.toList.all okB with
  | true =>
    rw [he] at hloop hl
    simp only [if_true] at hloop
    exact ⟨_, by simp [code182, Tryz.f182, hloop, hl, h20]; rfl⟩
  | false =>
    rw [he] at hloop hl
    simp only [Bool.false_eq_true, if_false] at hloop
    exact ⟨_, by simp [code182, Tryz.f182, hloop, hl]; rfl⟩
end Go.Vi
end

section
/- Vi: slices.IndexFunc (f133), slices.ContainsFunc (f138), the parts of what a value is (f195 .. f200). No conditions. -/
namespace Go.Vi
open Go Go.Lib Go.Proofs
set_option maxRecDepth 100000
attribute [local simp] E_skip E_ret E_exit E_text E_draw E_seq E_cond E_block E_scope E_loop runOps runOp runDraw drawR slotsOf Hp.kept_zero runX runVF runV finV gate FlOK FlOK0 wantD exec fin opd look putF norm constD constC fieldAddrD loadD storeD opCall lenD binD isShift intP strP numD indexAddrD indexD D.pd? D.pds? cells_enc sub capsOf callD argsD argD D.nf enc_agg unP box_enc cellD mkF H00 st1 cD_aggv cD_paggv cD_intv cD_boolv cD_strv cD_slv cD_litv

/-- A function value: plain, or with one variable. -/
def cbD (g : Nat) : Option Nat → D
  | none => .p (.fn g)
  | some k => .fn g [.ptr k 0]
def cbA (x : PD) : Option Nat → List D
  | none => [.p x]
  | some k => [.p x, .ptr k 0]

def fr133 (l : List Val) (cb : D) (i : Nat) : Fr := [(0, .p (.sl (l.map enc))), (1, cb), (7, .p (.int .i64 l.length)), (8, .p (.int .i64 i))]

/-- The first place at which something is so. -/
def idxP (p : Val → Bool) : List Val → Nat → Int
  | [], _ => -1
  | v :: r, i => if p v = true then i else idxP p r (i + 1)

theorem body133_end (l : List Val) (cb : D) (B : List Blk) (A : List Arr) : E false ⟨0, 0⟩ 144 lp144_0 (fr133 l cb l.length) ⟨B, A⟩ = some (.exit 0, fr133 l cb l.length ++ [(9, .p (.bool false))], ⟨B, A⟩) := by
  simp [fr133, lp144_0, code144, Tryz.f144]

theorem body133_step (l : List Val) (g : Nat) (hg : g < 1000000000) (ho : (g == 1000000) = false) (q : Option Nat) (i : Nat) (hlt : i < l.length) (hlen : l.length < 9223372036854775807) (B : List Blk) (A : List Arr) (b : Bool)
    (hr : W g (cbA (enc l[i]) q) ⟨B, A⟩ = some (.ret (.p (.bool b)), ⟨B, A⟩)) :
    E false ⟨0, 0⟩ 144 lp144_0 (fr133 l (cbD g q) i) ⟨B, A⟩ = if b = true then some (.ret, [(4, .p (.int .i64 i))], ⟨B, A⟩) else some (.normal, fr133 l (cbD g q) (i + 1), ⟨B, A⟩) := by
  have hw : IntKind.i64.wrap ((i : Int) + 1) = (i : Int) + 1 := wrap64 (by omega) (by omega)
  cases q <;> cases b <;> simp only [cbA] at hr <;> simp [fr133, cbD, lp144_0, code144, Tryz.f144, hlt, hr, hw, hg, ho]

theorem cut_full (m : Mk) (keep : List Tmp) (F : Fr) (H : Hp) : cutD m keep H.B.length H.A.length F H = some (norm keep F, H) := by
  unfold cutD
  have : H.cut H.B.length H.A.length = H := by cases H; simp [Hp.cut]
  rw [this]
  split <;> rfl

theorem loop133_ok (l : List Val) (g : Nat) (hg : g < 1000000000) (ho : (g == 1000000) = false) (q : Option Nat) (hlen : l.length < 9223372036854775807) (B : List Blk) (A : List Arr) (p : Val → Bool)
    (hr : ∀ u ∈ l, W g (cbA (enc u) q) ⟨B, A⟩ = some (.ret (.p (.bool (p u))), ⟨B, A⟩)) : ∀ (m i : Nat) (F : Fr), m = l.length - i → i ≤ l.length → norm [0, 1, 7, 8] F = fr133 l (cbD g q) i →
    loopO false ⟨0, 0⟩ 144 lp144_0 B.length A.length F ⟨B, A⟩ = if idxP p (l.drop i) i = -1 then some (.exit 0, fr133 l (cbD g q) l.length ++ [(9, .p (.bool false))], ⟨B, A⟩)
      else some (.ret, [(4, .p (.int .i64 (idxP p (l.drop i) i)))], ⟨B, A⟩) := by
  intro m
  induction m with
  | zero =>
    intro i F hm hi hF
    have hie : i = l.length := by omega
    subst hie
    rw [loopO_eq, hd144_0, show cutD ⟨0, 0⟩ [0, 1, 7, 8] B.length A.length F ⟨B, A⟩ = some (norm [0, 1, 7, 8] F, ⟨B, A⟩) from cut_full _ _ _ ⟨B, A⟩, hF]
    simp only [body133_end, List.drop_length, idxP, if_true]
  | succ m ih =>
    intro i F hm hi hF
    have hlt : i < l.length := by omega
    rw [loopO_eq, hd144_0, show cutD ⟨0, 0⟩ [0, 1, 7, 8] B.length A.length F ⟨B, A⟩ = some (norm [0, 1, 7, 8] F, ⟨B, A⟩) from cut_full _ _ _ ⟨B, A⟩, hF, List.drop_eq_getElem_cons hlt, idxP]
    simp only [body133_step l g hg ho q i hlt hlen B A _ (hr l[i] (List.getElem_mem hlt))]
    cases hb : p l[i] with
    | true =>
      have : ¬ (i : Int) = -1 := by omega
      simp only [if_true, if_neg this]
    | false =>
      simp only [Bool.false_eq_true, if_false]
      exact ih (i + 1) (fr133 l (cbD g q) (i + 1)) (by omega) (by omega) rfl

theorem idxP_bd (p : Val → Bool) : ∀ (l : List Val) (i : Nat), idxP p l i = -1 ∨ ((i : Int) ≤ idxP p l i ∧ idxP p l i < i + l.length)
  | [], i => .inl rfl
  | v :: r, i => by
    simp only [idxP]
    split
    · right; simp only [List.length_cons]; omega
    · rcases idxP_bd p r (i + 1) with h | h
      · exact .inl h
      · right; simp only [List.length_cons]; omega

theorem code133_ok (l : List Val) (g : Nat) (hg : g < 1000000000) (ho : (g == 1000000) = false) (q : Option Nat) (hlen : l.length < 9223372036854775807) (B : List Blk) (A : List Arr) (p : Val → Bool)
    (hr : ∀ u ∈ l, W g (cbA (enc u) q) ⟨B, A⟩ = some (.ret (.p (.bool (p u))), ⟨B, A⟩)) :
    E false ⟨0, 0⟩ 144 code144 (mkF 0 [.p (.sl (l.map enc)), cbD g q]) ⟨B, A⟩ = some (.ret, [(4, .p (.int .i64 (idxP p l 0)))], ⟨B, A⟩) := by
  have hloop := loop133_ok l g hg ho q hlen B A p hr l.length 0 (fr133 l (cbD g q) 0) rfl (Nat.zero_le _) rfl
  have h00 : ((0 : Nat) : Int) = 0 := rfl
  simp only [lp144_0, code144, Tryz.f144, fr133, h00, List.drop_zero] at hloop
  by_cases he : idxP p l 0 = -1
  · simp only [he, if_true] at hloop
    simp [code144, Tryz.f144, hloop, he]
  · simp only [he, if_false] at hloop
    simp [code144, Tryz.f144, hloop]

theorem idx133_W (l : List Val) (g : Nat) (hg : g < 1000000000) (ho : (g == 1000000) = false) (hlen : l.length < 9223372036854775807) (p : Val → Bool)
    (hr : ∀ u ∈ l, ∀ H, W g [.p (enc u)] H = some (.ret (.p (.bool (p u))), H)) (H : Hp) :
    W 144 [.p (.sl (l.map enc)), .p (.fn g)] H = some (.ret (.p (.int .i64 (idxP p l 0))), H) := by
  refine W144_of rfl (by simp) ?_
  rw [show E false ⟨0, 0⟩ 144 code144 (mkF 0 [.p (.sl (l.map enc)), .p (.fn g)]) H00 = _ from code133_ok l g hg ho none hlen [] [] p (fun u hu => hr u hu ⟨[], []⟩)]
  simp [fnOut, retOut, resD, retsD, retD, oneD, D.noRefs, D.noRef, alone, Hp.cut]

theorem idx133_WH (l : List Val) (g : Nat) (hg : g < 1000000000) (ho : (g == 1000000) = false) (k : Nat) (hlen : l.length < 9223372036854775807) (p : Val → Bool) (B : List Blk) (A : List Arr)
    (hr : ∀ u ∈ l, W g [.p (enc u), .ptr k 0] ⟨B, A⟩ = some (.ret (.p (.bool (p u))), ⟨B, A⟩)) :
    W 144 [.p (.sl (l.map enc)), .fn g [.ptr k 0]] ⟨B, A⟩ = some (.ret (.p (.int .i64 (idxP p l 0))), ⟨B, A⟩) := by
  refine W_ofH Tryz.func144 rfl (by kernel_rfl) rfl rfl rfl rfl (by simp [D.noRef, D.noRefs]) (by rw [Tryz.ntmps144]; simp) ?_
  rw [show Tryz.f144.results.toList = [.tmp 4] from rs144]
  have key : evalC Tryz.prog hn ch (hn.mutF 144) ⟨0, 0⟩ W 144 _ (mkF 0 [.p (.sl (l.map enc)), .fn g [.ptr k 0]]) ⟨B, A⟩ = _ := code133_ok l g hg ho (some k) hlen B A p hr
  refine (congrArg (fnOut Tryz.prog [.tmp 4] B.length A.length) key).trans ?_
  simp only [fnOut, retOut, resD, look, if_true, retsD, retD, argD, D.nf, D.pd?, Bool.false_eq_true, if_false, oneD]
  split
  · simp [Hp.cut]
  · rfl

theorem contains_W (l : List Val) (g : Nat) (hg : g < 1000000000) (ho : (g == 1000000) = false) (hlen : l.length < 9223372036854775807) (p : Val → Bool)
    (hr : ∀ u ∈ l, ∀ H, W g [.p (enc u)] H = some (.ret (.p (.bool (p u))), H)) (H : Hp) :
    W 96 [.p (.sl (l.map enc)), .p (.fn g)] H = some (.ret (.p (.bool (l.any p))), H) := by
  refine W96_of rfl (by simp) ?_
  have h1 := fun H => idx133_W l g hg ho hlen p hr H
  have h2 : decide (0 ≤ idxP p l 0) = l.any p := by
    have key : ∀ (l : List Val) (i : Nat), decide (0 ≤ idxP p l i) = l.any p := by
      intro l
      induction l with
      | nil => intro i; simp [idxP]
      | cons v r ih =>
        intro i
        simp only [idxP, List.any_cons]
        by_cases hb : p v = true
        · simp [hb]
        · simp [hb, ih (i + 1)]
    exact key l 0
  have key : E false ⟨0, 0⟩ 96 code96 (mkF 0 [.p (.sl (l.map enc)), .p (.fn g)]) H00 = some (.ret, [(4, .p (.bool (l.any p)))], H00) := by
    simp [code96, Tryz.f96, h1, h2]
  rw [key]
  simp [fnOut, retOut, resD, retsD, retD, oneD, D.noRefs, D.noRef, alone, Hp.cut]

theorem parts195 (n : Int) (H : Hp) : W 265 [.p (.agg [.int .i64 n])] H = some (.ret (.p (.sl [])), H) := by
  refine W265_of rfl (by simp) ?_
  simp [code265, Tryz.f265, newRow, fnOut, retOut, resD, retsD, retD, oneD, D.noRefs, D.noRef, alone, Hp.cut, Hp.live]
theorem parts196 (n : Int) (H : Hp) : W 266 [.p (.agg [.int .i64 n])] H = some (.ret (.p (.sl [])), H) := by
  refine W266_of rfl (by simp) ?_
  simp [code266, Tryz.f266, newRow, fnOut, retOut, resD, retsD, retD, oneD, D.noRefs, D.noRef, alone, Hp.cut, Hp.live]
theorem parts197 (n : ByteArray) (H : Hp) : W 267 [.p (.agg [.str n])] H = some (.ret (.p (.sl [])), H) := by
  refine W267_of rfl (by simp) ?_
  simp [code267, Tryz.f267, newRow, fnOut, retOut, resD, retsD, retD, oneD, D.noRefs, D.noRef, alone, Hp.cut, Hp.live]
theorem parts198 (l : List PD) (H : Hp) : W 268 [.p (.agg [.sl l])] H = some (.ret (.p (.sl l)), H) := by
  refine W268_of rfl (by simp) ?_
  simp [code268, Tryz.f268, newRow, fnOut, retOut, resD, retsD, retD, oneD, D.noRefs, D.noRef, alone, Hp.cut, Hp.live]
theorem parts199 (l : List PD) (H : Hp) : W 269 [.p (.agg [.sl l])] H = some (.ret (.p (.sl l)), H) := by
  refine W269_of rfl (by simp) ?_
  simp [code269, Tryz.f269, newRow, fnOut, retOut, resD, retsD, retD, oneD, D.noRefs, D.noRef, alone, Hp.cut, Hp.live]
theorem parts200 (H : Hp) : W 289 [.p (.agg [])] H = some (.ret (.p (.sl [])), H) := by
  refine W289_of rfl (by simp) ?_
  simp [code289, Tryz.f289, newRow, fnOut, retOut, resD, retsD, retD, oneD, D.noRefs, D.noRef, alone, Hp.cut, Hp.live]

theorem me119 : methOf Tryz.prog 200 "sward/value.parts" = some 265 := by kernel_rfl
theorem me120 : methOf Tryz.prog 201 "sward/value.parts" = some 266 := by kernel_rfl
theorem me123 : methOf Tryz.prog 203 "sward/value.parts" = some 267 := by kernel_rfl
theorem me125 : methOf Tryz.prog 205 "sward/value.parts" = some 268 := by kernel_rfl
theorem me144 : methOf Tryz.prog 206 "sward/value.parts" = some 269 := by kernel_rfl
theorem me146 : methOf Tryz.prog 233 "sward/value.parts" = some 289 := by kernel_rfl
end Go.Vi
end

section
/- Vi: value.shaped$1 (f139), value.shaped (f107), by kinds. No conditions. -/
namespace Go.Vi
open Go Go.Lib Go.Proofs
set_option maxRecDepth 100000
attribute [local simp] E_skip E_ret E_exit E_text E_draw E_seq E_cond E_block E_scope E_loop runOps runOp runDraw drawR slotsOf Hp.kept_zero runX runVF runV finV gate FlOK FlOK0 wantD exec fin opd look putF norm constD constC fieldAddrD loadD storeD opCall lenD binD isShift intP strP numD indexAddrD indexD D.pd? D.pds? cells_enc sub capsOf callD argsD argD D.nf enc_agg unP box_enc cellD mkF H00 st1 cD_aggv cD_paggv cD_intv cD_boolv cD_strv cD_slv cD_litv

def Shp107 (v : Val) (b : Bool) : Prop := ∀ H : Hp, W 143 [.p (enc v)] H = some (.ret (.p (.bool b)), H)

theorem not139_W (v : Val) (b : Bool) (h : Shp107 v b) (H : Hp) : W 180 [.p (enc v)] H = some (.ret (.p (.bool (!b))), H) := by
  refine W180_of rfl (by simp) ?_
  have h' : ∀ H : Hp, W 143 [.p (enc v)] H = some (.ret (.p (.bool b)), H) := h
  have key : E false ⟨0, 0⟩ 180 code180 (mkF 0 [.p (enc v)]) H00 = some (.ret, [(2, .p (.bool (!b)))], st1 v) := by
    simp [code180, Tryz.f180, h']
  rw [key]
  simp [fnOut, retOut, resD, retsD, retD, oneD, D.noRefs, D.noRef, alone, Hp.cut]

noncomputable def ini107 : Code := match code143 with | .seq r _ => r | c => c
noncomputable def of107 : Code := match code143 with | .seq _ (.seq r _) => r | c => c
noncomputable def rest107 : Code := match code143 with | .seq _ (.seq _ r) => r | c => c
theorem code107_eq : code143 = .seq ini107 (.seq of107 rest107) := rfl

theorem z119 : zeroOf Tryz.prog 200 = some (.agg #[.int .i64 0]) := by kernel_rfl
theorem z120 : zeroOf Tryz.prog 201 = some (.agg #[.int .i64 0]) := by kernel_rfl
theorem z123 : zeroOf Tryz.prog 203 = some (.agg #[.string ⟨#[]⟩]) := by kernel_rfl
theorem z125 : zeroOf Tryz.prog 205 = some (.agg #[.slice none 0 0]) := by kernel_rfl
theorem z144 : zeroOf Tryz.prog 206 = some (.agg #[.slice none 0 0]) := by kernel_rfl

theorem rest107_119 (n : Int) (b0 : Blk) : ∃ B, E false ⟨0, 0⟩ 143 rest107 [(3, .p (.ifc 200 (.agg [.int .i64 n])))] ⟨[b0], []⟩ = some (.ret, [(2, .p (.bool (inB n (-1000000000) 1000000000)))], ⟨B, []⟩) := by
  have h1 := fun H => parts195 n H
  have h2 := fun H => contains_W [] 180 (by decide) rfl (by simp) (fun _ => false) (fun u hu => by cases hu) H
  have h3 := fun n lo hi H => in72_W n lo hi H
  simp only [List.map_nil, List.any_nil] at h2
  obtain ⟨_, s119⟩ := us119
  exact ⟨_, by simp [rest107, code143, Tryz.f143, me119, h1, h2, h3, assertD, s119, z119, splice]; rfl⟩

theorem rest107_120 (n : Int) (b0 : Blk) : ∃ B, E false ⟨0, 0⟩ 143 rest107 [(3, .p (.ifc 201 (.agg [.int .i64 n])))] ⟨[b0], []⟩ = some (.ret, [(2, .p (.bool (inB n 0 1)))], ⟨B, []⟩) := by
  have h1 := fun H => parts196 n H
  have h2 := fun H => contains_W [] 180 (by decide) rfl (by simp) (fun _ => false) (fun u hu => by cases hu) H
  have h3 := fun n lo hi H => in72_W n lo hi H
  simp only [List.map_nil, List.any_nil] at h2
  obtain ⟨_, s119⟩ := us119
  obtain ⟨_, s120⟩ := us120
  exact ⟨_, by simp [rest107, code143, Tryz.f143, me120, h1, h2, h3, assertD, s119, s120, z119, z120, splice]; rfl⟩

theorem rest107_123 (t : ByteArray) (b0 : Blk) : ∃ B, E false ⟨0, 0⟩ 143 rest107 [(3, .p (.ifc 203 (.agg [.str t])))] ⟨[b0], []⟩ = some (.ret, [(2, .p (.bool (letters t)))], ⟨B, []⟩) := by
  have h1 := fun H => parts197 t H
  have h2 := fun H => contains_W [] 180 (by decide) rfl (by simp) (fun _ => false) (fun u hu => by cases hu) H
  have h3 := fun H => spelled_W t H
  simp only [List.map_nil, List.any_nil] at h2
  obtain ⟨_, s119⟩ := us119
  obtain ⟨_, s120⟩ := us120
  obtain ⟨_, s123⟩ := us123
  exact ⟨_, by simp [rest107, code143, Tryz.f143, me123, h1, h2, h3, assertD, s119, s120, s123, z119, z120, z123, splice]; rfl⟩

theorem rest107_146 (b0 : Blk) : ∃ B, E false ⟨0, 0⟩ 143 rest107 [(3, .p (.ifc 233 (.agg [])))] ⟨[b0], []⟩ = some (.ret, [(2, .p (.bool false))], ⟨B, []⟩) := by
  have h1 := fun H => parts200 H
  have h2 := fun H => contains_W [] 180 (by decide) rfl (by simp) (fun _ => false) (fun u hu => by cases hu) H
  simp only [List.map_nil, List.any_nil] at h2
  obtain ⟨_, s119⟩ := us119
  obtain ⟨_, s120⟩ := us120
  obtain ⟨_, s123⟩ := us123
  obtain ⟨_, s125⟩ := us125
  obtain ⟨_, s144⟩ := us144
  exact ⟨_, by simp [rest107, code143, Tryz.f143, me146, h1, h2, assertD, s119, s120, s123, s125, s144, z119, z120, z123, z125, z144, splice]; rfl⟩

theorem rest107_125 (l : List Val) (p : Val → Bool) (hp : ∀ u ∈ l, Shp107 u (p u)) (hlen : l.length < 9223372036854775807) (b0 : Blk) :
    ∃ B, E false ⟨0, 0⟩ 143 rest107 [(3, .p (.ifc 205 (.agg [.sl (l.map enc)])))] ⟨[b0], []⟩ = some (.ret, [(2, .p (.bool (l.all p && inB l.length 2 6)))], ⟨B, []⟩) := by
  have h1 := fun H => parts198 (l.map enc) H
  have h2 := fun H => contains_W l 180 (by decide) rfl hlen (fun u => !p u) (fun u hu => not139_W u _ (hp u hu)) H
  have h3 := fun n lo hi H => in72_W n lo hi H
  have h4 : l.any (fun u => !p u) = !l.all p := by simp [List.all_eq_not_any_not]
  rw [h4] at h2
  obtain ⟨_, s119⟩ := us119
  obtain ⟨_, s120⟩ := us120
  obtain ⟨_, s123⟩ := us123
  obtain ⟨_, s125⟩ := us125
  cases ha : l.all p with
  | false =>
    rw [ha] at h2
    exact ⟨_, by simp [rest107, code143, Tryz.f143, me125, h1, h2]; rfl⟩
  | true =>
    rw [ha] at h2
    exact ⟨_, by simp [rest107, code143, Tryz.f143, me125, h1, h2, h3, assertD, s119, s120, s123, s125, z119, z120, z123, z125, splice]; rfl⟩

/-! ### Sets -/
def sortedP : List Val → Bool
  | [] => true
  | [_] => true
  | v :: u :: r => decide (v.pc u < 0) && sortedP (u :: r)

def fr107v (i : Nat) : Fr := [(8, .ptr 1 0), (9, .p (.int .i64 i))]
def st107 (b0 : Blk) (l : List Val) : Hp := ⟨[b0, .cells [.p (.sl (l.map enc))]], []⟩

theorem body107_end (b0 : Blk) (l : List Val) (i : Nat) (h : ¬ i < l.length) : E false ⟨0, 0⟩ 143 lp143_0 (fr107v i) (st107 b0 l) = some (.exit 1, fr107v i ++ [(48, .p (.bool false))], st107 b0 l) := by
  simp [fr107v, st107, lp143_0, code143, Tryz.f143, h]

theorem body107_step (b0 : Blk) (l : List Val) (j : Nat) (hlt : j + 1 < l.length) (hlen : l.length < 9223372036854775807) (c : Int)
    (hr : ∀ H, W 183 [.p (enc l[j]), .p (enc l[j + 1])] H = some (.ret (.p (.int .i64 c)), H)) :
    E false ⟨0, 0⟩ 143 lp143_0 (fr107v (j + 1)) (st107 b0 l) = if c < 0 then some (.normal, fr107v (j + 2), st107 b0 l) else some (.ret, [(2, .p (.bool false))], st107 b0 l) := by
  have hj : j < l.length := by omega
  have hw : IntKind.i64.wrap ((j : Int) + 1 + 1) = (j : Int) + 1 + 1 := wrap64 (by omega) (by omega)
  have hw2 : IntKind.i64.wrap (j : Int) = (j : Int) := wrap64 (by omega) (by omega)
  have hw3 : IntKind.i64.wrap ((j : Int) + 1 - 1) = (j : Int) := by rw [show (j : Int) + 1 - 1 = j by omega]; exact hw2
  have hpos : (0 : Int) ≤ (j : Int) + 1 := by omega
  have htn : ((j : Int) + 1).toNat = j + 1 := by omega
  have hlt' : (j : Int) + 1 < l.length := by omega
  by_cases hc : c < 0
  · have hc' : ¬ 0 ≤ c := by omega
    simp [fr107v, st107, lp143_0, code143, Tryz.f143, hlt, hlt', hj, hr, hw, hw2, hw3, hpos, htn, hc, hc', len_enc]
    omega
  · have hc' : 0 ≤ c := by omega
    simp [fr107v, st107, lp143_0, code143, Tryz.f143, hlt, hlt', hj, hr, hw, hw2, hw3, hpos, htn, hc, hc', len_enc]

theorem cut107 (b0 : Blk) (l : List Val) (F : Fr) : cutD ⟨0, 0⟩ [8, 9] 2 0 F (st107 b0 l) = some (norm [8, 9] F, st107 b0 l) := cut_full ⟨0, 0⟩ [8, 9] F (st107 b0 l)

theorem loop107_okv (b0 : Blk) (l : List Val) (hlen : l.length < 9223372036854775807) (hrec : ∀ u ∈ l, Pc83 u) : ∀ (m j : Nat) (F : Fr), m = l.length - j → norm [8, 9] F = fr107v (j + 1) →
    ∃ d, loopO false ⟨0, 0⟩ 143 lp143_0 2 0 F (st107 b0 l) =
      if sortedP (l.drop j) = true then some (.exit 1, [(8, .ptr 1 0), (9, d), (48, .p (.bool false))], st107 b0 l) else some (.ret, [(2, .p (.bool false))], st107 b0 l) := by
  intro m
  induction m with
  | zero =>
    intro j F hm hF
    refine ⟨.p (.int .i64 ((j + 1 : Nat) : Int)), ?_⟩
    rw [loopO_eq, hd143_0, cut107, hF]
    simp only [body107_end b0 l (j + 1) (by omega)]
    rw [List.drop_eq_nil_of_le (by omega)]
    simp [sortedP, fr107v]
  | succ m ih =>
    intro j F hm hF
    by_cases hlt : j + 1 < l.length
    · rw [loopO_eq, hd143_0, cut107, hF]
      rw [List.drop_eq_getElem_cons (show j < l.length by omega), List.drop_eq_getElem_cons hlt, sortedP]
      simp only [body107_step b0 l j hlt hlen _ (fun H => hrec l[j] (List.getElem_mem _) l[j + 1] H)]
      by_cases hc : l[j].pc l[j + 1] < 0
      · obtain ⟨d, hd⟩ := ih (j + 1) (fr107v (j + 2)) (by omega) rfl
        refine ⟨d, ?_⟩
        rw [List.drop_eq_getElem_cons hlt] at hd
        simp only [hc, if_true, decide_true, Bool.true_and]
        exact hd
      · refine ⟨.dead, ?_⟩
        simp only [hc, if_false, decide_false, Bool.false_and, Bool.false_eq_true]
    · refine ⟨.p (.int .i64 ((j + 1 : Nat) : Int)), ?_⟩
      rw [loopO_eq, hd143_0, cut107, hF]
      simp only [body107_end b0 l (j + 1) hlt]
      have hj : l.drop j = [l[j]'(by omega)] := by
        rw [List.drop_eq_getElem_cons (show j < l.length by omega), List.drop_eq_nil_of_le (by omega)]
      rw [hj]
      simp [sortedP, fr107v]

theorem rest107_144 (l : List Val) (p : Val → Bool) (hp : ∀ u ∈ l, Shp107 u (p u)) (hlen : l.length < 9223372036854775807) (hrec : ∀ u ∈ l, Pc83 u) (b0 : Blk) :
    ∃ B, E false ⟨0, 0⟩ 143 rest107 [(3, .p (.ifc 206 (.agg [.sl (l.map enc)])))] ⟨[b0], []⟩ = some (.ret, [(2, .p (.bool (l.all p && sortedP l)))], ⟨B, []⟩) := by
  have h1 := fun H => parts199 (l.map enc) H
  have h2 := fun H => contains_W l 180 (by decide) rfl hlen (fun u => !p u) (fun u hu => not139_W u _ (hp u hu)) H
  have h4 : l.any (fun u => !p u) = !l.all p := by simp [List.all_eq_not_any_not]
  rw [h4] at h2
  obtain ⟨_, s119⟩ := us119
  obtain ⟨_, s120⟩ := us120
  obtain ⟨_, s123⟩ := us123
  obtain ⟨_, s125⟩ := us125
  obtain ⟨_, s144⟩ := us144
  cases ha : l.all p with
  | false =>
    rw [ha] at h2
    exact ⟨_, by simp [rest107, code143, Tryz.f143, me144, h1, h2]; rfl⟩
  | true =>
    rw [ha] at h2
    obtain ⟨d, hloop⟩ := loop107_okv b0 l hlen hrec l.length 0 (fr107v 1) rfl rfl
    have h01 : ((1 : Nat) : Int) = 1 := rfl
    simp only [lp143_0, code143, Tryz.f143, fr107v, st107, h01, List.drop_zero] at hloop
    cases hs : sortedP l with
    | false =>
      rw [hs] at hloop
      simp only [Bool.false_eq_true, if_false] at hloop
      exact ⟨_, by simp [rest107, code143, Tryz.f143, me144, h1, h2, assertD, s119, s120, s123, s125, s144, z119, z120, z123, z125, z144, splice, hloop]; rfl⟩
    | true =>
      rw [hs] at hloop
      simp only [if_true] at hloop
      exact ⟨_, by simp [rest107, code143, Tryz.f143, me144, h1, h2, assertD, s119, s120, s123, s125, s144, z119, z120, z123, z125, z144, splice, hloop]; rfl⟩
end Go.Vi
end

section
/- Vi: value.compare is ref.Compare where values are shaped; value.shaped (f107) is ref.shaped; value.valid (f71). No conditions. -/
namespace Go.Vi
open Go Go.Lib Go.Proofs
set_option maxRecDepth 100000

/-! ### The two orders -/
theorem less_compare : ∀ (a b : List UInt8), Lib.compareBytes a b = if a = b then 0 else if Op.bytesLess a b = true then -1 else 1
  | [], [] => by simp [Lib.compareBytes]
  | [], _ :: _ => by simp [Lib.compareBytes, Op.bytesLess]
  | _ :: _, [] => by simp [Lib.compareBytes, Op.bytesLess]
  | a :: x, b :: y => by
    simp only [Lib.compareBytes, Op.bytesLess]
    by_cases h1 : a < b
    · have hne : ¬ a = b := fun e => by subst e; exact absurd h1 (by simp)
      simp [h1, hne]
    · by_cases h2 : b < a
      · have hne : ¬ a = b := fun e => by subst e; exact absurd h2 (by simp)
        simp [h1, h2, hne]
      · have e : a = b := by
          have := UInt8.le_antisymm (UInt8.not_lt.1 h2) (UInt8.not_lt.1 h1)
          exact this
        subst e
        rw [if_neg h1, if_neg h1, less_compare x y]
        simp

theorem ba_ext {s t : ByteArray} : s = t ↔ s.data.toList = t.data.toList := by
  constructor
  · intro e; rw [e]
  · intro e; cases s; cases t; simp at e; subst e; rfl

theorem compareBytes_eq (s t : ByteArray) : Lib.compareBytes s.data.toList t.data.toList = if s = t then 0 else if lessB s t = true then -1 else 1 := by
  rw [less_compare]
  by_cases h : s = t
  · subst h; simp
  · have h' : ¬ s.data.toList = t.data.toList := fun e => h (ba_ext.2 e)
    rw [if_neg h, if_neg h']; rfl

theorem ordI_same (a : Int) : ordI a a = 0 := by simp [ordI]

mutual
theorem pc_cmp : ∀ (v u : Val), v.shaped = true → u.shaped = true → v.pc u = v.cmp u
  | .mk k n t ps, .mk k' n' t' ps', hv, hu => by
    simp only [Val.shaped, Bool.and_eq_true] at hv hu
    obtain ⟨hp, ho⟩ := hv
    obtain ⟨hp', ho'⟩ := hu
    simp only [Val.pc, Val.cmp]
    by_cases hk : k = k'
    · subst hk
      rw [if_neg (by simp [ordI_same]), if_neg (show ¬ k ≠ k by simp)]
      by_cases h1 : k = 1
      · simp only [own75, h1, if_true, Bool.and_eq_true, decide_eq_true_eq] at ho ho'
        rw [if_neg (by omega), if_pos (by omega), if_neg (by omega), if_pos (.inl h1), ho.2, ho'.2]
        simp [ordI_same]
      by_cases h2 : k = 2
      · simp only [own75, h2, if_true, Bool.and_eq_true, decide_eq_true_eq] at ho ho'
        rw [if_neg (by omega), if_pos (by omega), if_neg (by omega), if_pos (.inr (.inl h2))]
        simp at ho ho'
        simp [ho, ho', ordI_same]
      by_cases h3 : k = 3
      · rw [if_neg (by omega), if_neg (by omega), if_pos h3, if_pos h3, compareBytes_eq]
      by_cases h45 : k = 4 ∨ k = 5
      · have hn : n = 0 ∧ n' = 0 := by
          rcases h45 with h | h <;> subst h <;> simp [own75] at ho ho' <;> omega
        rw [if_neg (by omega), if_neg (by omega), if_neg h3, if_neg h3]
        obtain ⟨rfl, rfl⟩ := hn
        by_cases hl : ps.length = ps'.length
        · rw [if_neg (by simp [hl, ordI_same]), if_neg (by simp [h1, h2, hl]), pcL_cmpL ps ps' hp hp']
        · have : ¬ ordI ps.length ps'.length = 0 := fun e => hl (by have := (ordI_zero _ _).1 e; omega)
          rw [if_pos this, if_pos (.inr (.inr hl))]
          simp [ordI_same]
      · exfalso
        have h4 : ¬ k = 4 := fun e => h45 (.inl e)
        have h5 : ¬ k = 5 := fun e => h45 (.inr e)
        simp [own75, h1, h2, h3, h4, h5] at ho
    · have : ¬ ordI k k' = 0 := fun e => hk ((ordI_zero _ _).1 e)
      rw [if_pos this, if_pos hk]
theorem pcL_cmpL : ∀ (l m : List Val), shapeds l = true → shapeds m = true → pcL l m = cmpL l m
  | [], _, _, _ => by simp [pcL, cmpL]
  | _ :: _, [], _, _ => by simp [pcL, cmpL]
  | v :: r, u :: s, hl, hm => by
    simp only [shapeds, Bool.and_eq_true] at hl hm
    simp only [pcL, cmpL, pc_cmp v u hl.1 hm.1, pcL_cmpL r s hl.2 hm.2]
end

theorem sortedP_L : ∀ (l : List Val), l.all Val.shaped = true → sortedP l = sortedL l
  | [], _ => rfl
  | [_], _ => rfl
  | v :: u :: r, h => by
    have h' := h
    simp only [List.all_cons, Bool.and_eq_true] at h
    simp only [sortedP, sortedL, pc_cmp v u h.1 h.2.1]
    rw [sortedP_L (u :: r) (by simp only [List.all_cons, h.2.1, h.2.2, Bool.and_self])]

/-! ### shaped -/
theorem kind_shaped (v : Val) (hlen : v.ps.length < 9223372036854775807) (hp : ∀ u ∈ v.ps, Shp107 u u.shaped) (hrec : ∀ u ∈ v.ps, Pc83 u) (b0 : Blk) :
    ∃ B, E false ⟨0, 0⟩ 143 rest107 [(3, .p v.kind)] ⟨[b0], []⟩ = some (.ret, [(2, .p (.bool v.shaped))], ⟨B, []⟩) := by
  have nothing : v.kind = .ifc 233 (.agg []) → v.shaped = false → ∃ B, E false ⟨0, 0⟩ 143 rest107 [(3, .p v.kind)] ⟨[b0], []⟩ = some (.ret, [(2, .p (.bool v.shaped))], ⟨B, []⟩) := fun h1 h2 => by
    rw [h1, h2]; exact rest107_146 b0
  have empty : v.ps.length = 0 → v.ps = [] := List.eq_nil_of_length_eq_zero
  have sh := shaped_eq v
  by_cases h1 : v.k = 1
  · by_cases hc : v.t = ⟨#[]⟩ ∧ v.ps.length = 0
    · have hk : v.kind = .ifc 200 (.agg [.int .i64 v.n]) := by simp [Val.kind, h1, hc.1, empty hc.2]
      have hs : v.shaped = inB v.n (-1000000000) 1000000000 := by rw [sh]; simp [own75, h1, hc.1, empty hc.2]
      rw [hk, hs]; exact rest107_119 v.n b0
    · refine nothing (by simp only [Val.kind, h1, if_true, if_neg hc]) ?_
      rw [sh]; simp only [own75, h1, if_true]
      rw [Bool.and_eq_false_iff]; right
      rw [Bool.and_assoc, Bool.and_eq_false_iff]; right
      simpa using hc
  by_cases h2 : v.k = 2
  · by_cases hc : v.t = ⟨#[]⟩ ∧ v.ps.length = 0
    · have hk : v.kind = .ifc 201 (.agg [.int .i64 v.n]) := by simp [Val.kind, h2, hc.1, empty hc.2]
      have hs : v.shaped = inB v.n 0 1 := by rw [sh]; simp [own75, h2, hc.1, empty hc.2]
      rw [hk, hs]; exact rest107_120 v.n b0
    · refine nothing (by simp [Val.kind, h2]; intro a b; exact absurd ⟨a, by simp [b]⟩ hc) ?_
      rw [sh]; simp [own75, h2]
      intro _ _ a b
      exact hc ⟨a, by simp [b]⟩
  by_cases h3 : v.k = 3
  · by_cases hc : v.n = 0 ∧ v.ps.length = 0
    · have hk : v.kind = .ifc 203 (.agg [.str v.t]) := by simp [Val.kind, h3, hc.1, empty hc.2]
      have hs : v.shaped = letters v.t := by rw [sh]; simp [own75, h3, hc.1, empty hc.2]
      rw [hk, hs]; exact rest107_123 v.t b0
    · refine nothing (by simp [Val.kind, h3]; intro a b; exact absurd ⟨a, by simp [b]⟩ hc) ?_
      rw [sh]; simp [own75, h3]
      intro _ a _ b
      exact hc ⟨a, by simp [b]⟩
  by_cases h4 : v.k = 4
  · by_cases hc : v.n = 0 ∧ v.t = ⟨#[]⟩
    · have hk : v.kind = .ifc 205 (.agg [.sl (v.ps.map enc)]) := by simp [Val.kind, h4, hc.1, hc.2]
      have hs : v.shaped = (v.ps.all Val.shaped && inB v.ps.length 2 6) := by rw [sh]; simp [own75, h4, hc.1, hc.2]
      rw [hk, hs]; exact rest107_125 v.ps Val.shaped hp hlen b0
    · refine nothing (by simp [Val.kind, h4]; intro a b; exact absurd ⟨a, b⟩ hc) ?_
      rw [sh]; simp [own75, h4]
      intro _ a b
      exact absurd ⟨a, b⟩ hc
  by_cases h5 : v.k = 5
  · by_cases hc : v.n = 0 ∧ v.t = ⟨#[]⟩
    · have hk : v.kind = .ifc 206 (.agg [.sl (v.ps.map enc)]) := by simp [Val.kind, h5, hc.1, hc.2]
      have hs : v.shaped = (v.ps.all Val.shaped && sortedP v.ps) := by
        rw [sh]
        cases ha : v.ps.all Val.shaped with
        | false => simp
        | true => rw [sortedP_L v.ps ha]; simp [own75, h5, hc.1, hc.2]
      rw [hk, hs]; exact rest107_144 v.ps Val.shaped hp hlen hrec b0
    · refine nothing (by simp [Val.kind, h5]; intro a b; exact absurd ⟨a, b⟩ hc) ?_
      rw [sh]; simp [own75, h5]
      intro _ _ a b
      exact absurd ⟨a, b⟩ hc
  · refine nothing (by simp [Val.kind, h1, h2, h3, h4, h5]) ?_
    rw [sh]; simp [own75, h1, h2, h3, h4, h5]

attribute [local simp] E_skip E_ret E_exit E_text E_draw E_seq E_cond E_block E_scope E_loop runOps runOp runDraw drawR slotsOf Hp.kept_zero runX runVF runV finV gate FlOK FlOK0 wantD exec fin opd look putF norm constD constC fieldAddrD loadD storeD opCall lenD binD isShift intP strP numD indexAddrD indexD D.pd? D.pds? cells_enc sub capsOf callD argsD argD D.nf enc_agg unP box_enc cellD mkF H00 st1 cD_aggv cD_paggv cD_intv cD_boolv cD_strv cD_slv cD_litv

theorem shaped107_step (v : Val) (hlen : v.ps.length < 9223372036854775807) (hp : ∀ u ∈ v.ps, Shp107 u u.shaped) (hrec : ∀ u ∈ v.ps, Pc83 u) : Shp107 v v.shaped := by
  intro H
  refine W143_of rfl (by simp) ?_
  have h1 := fun H => of_W v H
  obtain ⟨B, hB⟩ := kind_shaped v hlen hp hrec (box25 v)
  have key : E false ⟨0, 0⟩ 143 code143 (mkF 0 [.p (enc v)]) H00 = some (.ret, [(2, .p (.bool v.shaped))], ⟨B, []⟩) := by
    rw [code107_eq]
    have e1 : E false ⟨0, 0⟩ 143 ini107 (mkF 0 [.p (enc v)]) H00 = some (.normal, [(1, .ptr 0 0)], ⟨[box25 v], []⟩) := by
      simp [ini107, code143, Tryz.f143, box25]
    have e2 : E false ⟨0, 0⟩ 143 of107 [(1, .ptr 0 0)] ⟨[box25 v], []⟩ = some (.normal, [(3, .p v.kind)], ⟨[box25 v], []⟩) := by
      simp [of107, code143, Tryz.f143, box25, h1]
    rw [E_seq, e1]
    simp only
    rw [E_seq, e2]
    simp only
    exact hB
  rw [key]
  simp [fnOut, retOut, resD, retsD, retD, oneD, D.noRefs, D.noRef, alone, Hp.cut]

mutual
theorem shaped107_W : ∀ v : Val, v.fine → Shp107 v v.shaped
  | .mk k n t ps, h => shaped107_step (.mk k n t ps) (by have := h.1; simp only [Val.ps]; omega) (shapeds107_W ps h.2) (compares_W ps h.2)
theorem shapeds107_W : ∀ l : List Val, fines l → ∀ u ∈ l, Shp107 u u.shaped
  | [], _, u, hu => by cases hu
  | v :: r, h, u, hu => by
    rcases List.mem_cons.1 hu with e | hu
    · rw [e]; exact shaped107_W v h.1
    · exact shapeds107_W r h.2 u hu
end

theorem valid71_W (v : Val) (H : Hp) : W 95 [.p (enc v)] H = some (.ret (.p (.bool v.valid)), H) := by
  refine W95_of rfl (by simp) ?_
  have h1 := fun H => fits106_W v H
  have key : E false ⟨0, 0⟩ 95 code95 (mkF 0 [.p (enc v)]) H00 = some (.ret, [(2, .p (.bool v.valid))], st1 v) := by
    cases hf : v.fits with
    | false =>
      have hv : v.valid = false := by simp [Val.valid]; intro hw; simp [Val.fits, hw] at hf
      rw [hf] at h1
      simp [code95, Tryz.f95, h1, hv]
    | true =>
      have hw : 0 ≤ v.weigh 200 8 := by simpa [Val.fits] using hf
      have hv : v.valid = v.shaped := by simp [Val.valid, hw]
      have h2 : ∀ H, W 143 [.p (enc v)] H = some (.ret (.p (.bool v.shaped)), H) := shaped107_W v (weigh_fine (by omega) (by omega) hw)
      rw [hf] at h1
      simp [code95, Tryz.f95, h1, h2, hv]
  rw [key]
  simp [fnOut, retOut, resD, retsD, retD, oneD, D.noRefs, D.noRef, alone, Hp.cut]
end Go.Vi
end

section
/- Vi: value.At (f17), value.Size (f21), value.Check (f29), value.Compare (f30), value.Same (f31). No conditions. -/
namespace Go.Vi
open Go Go.Lib Go.Proofs
set_option maxRecDepth 100000
attribute [local simp] E_skip E_ret E_exit E_text E_draw E_seq E_cond E_block E_scope E_loop runOps runOp runDraw drawR slotsOf Hp.kept_zero runX runVF runV finV gate FlOK FlOK0 wantD exec fin opd look putF norm constD constC fieldAddrD loadD storeD opCall lenD binD isShift intP strP numD indexAddrD indexD D.pd? D.pds? cells_enc sub capsOf callD argsD argD D.nf enc_agg unP box_enc cellD mkF H00 st1 cD_aggv cD_paggv cD_intv cD_boolv cD_strv cD_slv cD_litv

def st17 (v : Val) (q : List Blk) : Hp := ⟨[box25 v, zeroB] ++ q, []⟩
def fr17 (p : List Int) (i : Nat) : Fr := [(2, .ptr 0 0), (4, .ptr 1 0), (12, .p (.sl (encI p))), (13, .p (.int .i64 p.length)), (14, .p (.int .i64 i))]

theorem cut17 (v : Val) (F : Fr) : cutD ⟨0, 0⟩ [2, 4, 12, 13, 14] 2 0 F (st17 v []) = some (norm [2, 4, 12, 13, 14] F, st17 v []) := cut_full ⟨0, 0⟩ [2, 4, 12, 13, 14] F (st17 v [])

mutual
theorem nodes_memv : ∀ (v u : Val), u ∈ v.ps → u.nodes ≤ v.nodes
  | .mk k n t ps, u, hu => by simp only [Val.nodes]; have := nodesL_mem ps u hu; omega
theorem nodesL_mem : ∀ (l : List Val) (u : Val), u ∈ l → u.nodes ≤ nodesL l
  | [], u, hu => by cases hu
  | v :: r, u, hu => by
    simp only [nodesL]
    have h1 := nodes_posv v; have h2 := nodesL_pos r
    rcases List.mem_cons.1 hu with e | hu
    · rw [e]; omega
    · have := nodesL_mem r u hu; omega
end

theorem atV_nodes : ∀ (p : List Int) (v u : Val), atV v p = some u → u.nodes ≤ v.nodes
  | [], v, u, h => by simp only [atV, Option.some.injEq] at h; subst h; omega
  | n :: r, v, u, h => by
    simp only [atV] at h
    split at h
    · rename_i hc
      have h1 := atV_nodes r _ u h
      have h2 := nodes_memv v _ (List.getElem_mem hc.2)
      omega
    · cases h

def At17 (v : Val) (p : List Int) : List D :=
  if v.valid = true then (match atV v p with | some u => [.p (enc u), .p (.int .i64 0)] | none => [.p (enc Val.zero), .p (.int .i64 2)]) else [.p (enc Val.zero), .p (.int .i64 2)]

theorem valid_fine {v : Val} (h : v.valid = true) : v.fine ∧ v.nodes ≤ 200 := by
  simp only [Val.valid, Bool.and_eq_true, decide_eq_true_eq] at h
  refine ⟨weigh_fine (by omega) (by omega) h.1, ?_⟩
  have := weigh_nodes v 200 8 (by omega) h.1
  omega

def Size21 (v : Val) : List D := if v.valid = true then [.p (.int .i64 v.nodes), .p (.int .i64 v.depth), .p (.int .i64 0)] else [.p (.int .i64 0), .p (.int .i64 0), .p (.int .i64 2)]

theorem check29_W (v : Val) (H : Hp) : W 61 [.p (enc v)] H = some (.ret (.p (.int .i64 (if v.valid = true then 0 else 2))), H) := by
  refine W61_of rfl (by simp) ?_
  have h1 := fun H => valid71_W v H
  have key : E false ⟨0, 0⟩ 61 code61 (mkF 0 [.p (enc v)]) H00 = some (.ret, [(2, .p (.int .i64 (if v.valid = true then 0 else 2)))], st1 v) := by
    cases hv : v.valid <;> rw [hv] at h1 <;> simp [code61, Tryz.f61, h1]
  rw [key]
  simp [fnOut, retOut, resD, retsD, retD, oneD, D.noRefs, D.noRef, alone, Hp.cut]

def both (a b : Val) : Bool := a.valid && b.valid

end Go.Vi
end

section
/- Vi: what the parts of valid values are. No conditions. -/
namespace Go.Vi
open Go Go.Lib Go.Proofs

mutual
theorem weigh_iff : ∀ (v : Val) (l d : Int), 0 ≤ l → (0 ≤ v.weigh l d ↔ v.nodes ≤ l ∧ v.depth ≤ d)
  | .mk k n t ps, l, d, h => by
    simp only [Val.weigh, Val.nodes, Val.depth]
    have h0 := nodesL_pos ps
    have h1 := depthL_nodes ps
    split
    · omega
    · rw [weighs_iff ps (l - 1) (d - 1) (by omega)]
      constructor
      · rintro (h2 | rfl)
        · omega
        · simp [nodesL, depthL]; omega
      · intro h2
        left; omega
theorem weighs_iff : ∀ (ps : List Val) (l d : Int), 0 ≤ l → (0 ≤ weighs ps l d ↔ nodesL ps ≤ l ∧ depthL ps ≤ d ∨ ps = [])
  | [], l, d, h => by simp [weighs]; omega
  | v :: r, l, d, h => by
    simp only [weighs, nodesL, depthL]
    rw [if_pos h]
    have hp := nodes_posv v
    have hd := depth_nodes v
    have hr := nodesL_pos r
    have hdr := depthL_nodes r
    have hv := weigh_iff v l d h
    by_cases hw : 0 ≤ v.weigh l d
    · have e := weigh_nodes v l d h hw
      have hw2 := hv.1 hw
      rw [weighs_iff r _ d hw, e]
      cases r with
      | nil => simp [nodesL, depthL]; omega
      | cons x y => simp; omega
    · have hle := weigh_le v l d h
      have hle2 := weighs_le r (v.weigh l d) d hle.2
      constructor
      · intro h2; omega
      · rintro (⟨a, b⟩ | h2)
        · exact absurd (hv.2 ⟨by omega, by omega⟩) hw
        · cases h2
end

theorem fits_iff (v : Val) : v.fits = true ↔ v.nodes ≤ 200 ∧ v.depth ≤ 8 := by
  simp only [Val.fits, decide_eq_true_eq, weigh_iff v 200 8 (by omega)]
theorem valid_iff (v : Val) : v.valid = true ↔ (v.nodes ≤ 200 ∧ v.depth ≤ 8) ∧ v.shaped = true := by
  simp only [Val.valid, Bool.and_eq_true, decide_eq_true_eq, weigh_iff v 200 8 (by omega)]
theorem small_iff (v : Val) : v.small = true ↔ (v.nodes ≤ 260 ∧ v.depth ≤ 12) ∧ v.brief = true := by
  simp only [Val.small, Bool.and_eq_true, decide_eq_true_eq, weigh_iff v 260 12 (by omega)]

theorem depthL_mem : ∀ (l : List Val) (u : Val), u ∈ l → u.depth ≤ depthL l
  | [], u, hu => by cases hu
  | v :: r, u, hu => by
    simp only [depthL]
    rcases List.mem_cons.1 hu with e | hu
    · rw [e]; omega
    · have := depthL_mem r u hu; omega

theorem shaped_mem {v : Val} (h : v.shaped = true) : ∀ u ∈ v.ps, u.shaped = true := by
  rw [shaped_eq, Bool.and_eq_true] at h
  exact List.all_eq_true.1 h.1

theorem valid_mem {v u : Val} (h : v.valid = true) (hu : u ∈ v.ps) : u.valid = true ∧ u.depth + 1 ≤ v.depth := by
  rw [valid_iff] at h ⊢
  have h1 := nodes_memv v u hu
  have h2 := depthL_mem v.ps u hu
  have h3 := depth_eq v
  exact ⟨⟨⟨by omega, by omega⟩, shaped_mem h.2 u hu⟩, by omega⟩

theorem atV_valid : ∀ (p : List Int) (v u : Val), v.valid = true → atV v p = some u → u.valid = true ∧ u.depth + p.length ≤ v.depth
  | [], v, u, hv, h => by simp only [atV, Option.some.injEq] at h; subst h; exact ⟨hv, by simp⟩
  | n :: r, v, u, hv, h => by
    simp only [atV] at h
    split at h
    · rename_i hc
      obtain ⟨h1, h2⟩ := valid_mem hv (List.getElem_mem hc.2)
      obtain ⟨h3, h4⟩ := atV_valid r _ u h1 h
      exact ⟨h3, by simp only [List.length_cons]; omega⟩
    · cases h

theorem eqb_selfv (v : Val) : v.eqb v = true := (eqb_iff v v).2 rfl
theorem none_zero : Val.zero.none = true := by unfold Val.none; exact eqb_selfv _
theorem zero_fine : Val.zero.fine := by simp [Val.zero, Val.fine, fines]
end Go.Vi
end
