/- It is proved here what the program's functions that read and write bytes compute, the first part; conditions stand with each. -/
import Derived.Test.YtapnoihkfocgkaaGreatDoorMW
set_option linter.unusedVariables false
set_option linter.unusedSimpArgs false

section
/- Vi: ref.load (f97), ref.Load (f50). No conditions. -/
namespace Go.Vi
open Go Go.Lib Go.Proofs
set_option maxRecDepth 100000
attribute [local simp] E_skip E_ret E_exit E_text E_draw E_seq E_cond E_block E_scope E_loop runOps runOp runDraw runVF runV finV gate FlOK wantD exec fin opd look putF norm constD constC fieldAddrD loadD storeD opCall lenD binD isShift intP strP numD indexAddrD indexD D.pd? D.pds? cells_enc sub capsOf callD argsD argD D.nf enc_agg unP box_enc cellD mkF H00 st1 cD_agg cD_pagg cD_int cD_bool cD_str cD_sl cD_lit cD_own

def encB (b : List UInt8) : List PD := b.map fun c => .int .u8 c.toNat
def byI (b : List UInt8) (i : Nat) : Int := ((b[i]?).getD 0).toNat
theorem encB_at (b : List UInt8) (i : Nat) (h : i < b.length) : (encB b)[i]? = some (.int .u8 (byI b i)) := by
  simp [encB, byI, h]
theorem encB_len (b : List UInt8) : (encB b).length = b.length := by simp [encB]
theorem byI_bd (b : List UInt8) (i : Nat) : 0 ≤ byI b i ∧ byI b i ≤ 255 := by
  have := ((b[i]?).getD 0).toNat_lt
  unfold byI; omega
theorem fit_b (b : List UInt8) : fits 1 (encB b) = true := by
  simp [fits, encB, one_int, PD.cells]

def x4 (b : List UInt8) (f : Nat) : Int := 256 * (256 * (256 * byI b (f + 1) + byI b (f + 2)) + byI b (f + 3)) + byI b (f + 4)
def loads (r : Nat → Int → Option (Val × Nat × Int)) : Nat → Nat → Int → Option (List Val × Nat × Int)
  | 0, at_, left => some ([], at_, left)
  | m + 1, at_, left =>
    match r at_ left with
    | none => none
    | some (x, nx, rest) =>
      match loads r m nx rest with
      | none => none
      | some (l, e, q) => some (x :: l, e, q)
def rload (b : List UInt8) : Nat → Nat → Int → Option (Val × Nat × Int)
  | 0, _, _ => none
  | d + 1, f, left =>
    if b.length ≤ f + 1 ∨ left < 1 then none
    else if byI b f = 1 then (if b.length < f + 5 then none else some (.mk 1 (x4 b f - 1000000000) ⟨#[]⟩ [], f + 5, left - 1))
    else if byI b f = 2 then some (.mk 2 (byI b (f + 1)) ⟨#[]⟩ [], f + 2, left - 1)
    else if byI b f = 3 then (if b.length < f + 2 + (byI b (f + 1)).toNat then none else some (.mk 3 0 ⟨((b.drop (f + 2)).take (byI b (f + 1)).toNat).toArray⟩ [], f + 2 + (byI b (f + 1)).toNat, left - 1))
    else if byI b f = 4 ∨ byI b f = 5 then
      match loads (rload b d) (byI b (f + 1)).toNat (f + 2) (left - 1) with
      | none => none
      | some (l, e, q) => some (.mk (byI b f) 0 ⟨#[]⟩ l, e, q)
    else none

def out97 : Option (Val × Nat × Int) → List D
  | none => [.p (enc Val.zero), .p (.int .i64 (-1)), .p (.int .i64 0)]
  | some (v, e, q) => [.p (enc v), .p (.int .i64 e), .p (.int .i64 q)]
def args97 (b : List UInt8) (f : Nat) (d left : Int) : List D := [.p (.sl (encB b)), .p (.int .i64 f), .p (.int .i64 d), .p (.int .i64 left)]

theorem fin97 (H : Hp) (v : Val) (e q : Int) (B : List Blk) (A : List Arr) : alone H (fnOut Tryz.prog [.cell 8 25, .tmp 9, .tmp 10] 0 0 (some (.ret, [(8, .ptr 0 0), (9, .p (.int .i64 e)), (10, .p (.int .i64 q))], ⟨box25 v :: B, A⟩))) = some (.ret (.tup [.p (enc v), .p (.int .i64 e), .p (.int .i64 q)]), H) := by
  rw [enc_eq v]
  simp [fnOut, retOut, resD, look, retsD, retD, argD, D.nf, D.pd?, oneD, D.noRefs, D.noRef, alone, Hp.cut, box25]

theorem load97_fail (b : List UInt8) (f : Nat) (d left : Int) (hb : b.length ≤ 1000) (hf : f ≤ 2000) (h : b.length ≤ f + 1 ∨ d < 1 ∨ left < 1) :
    ∃ B, E false ⟨0, 0⟩ 97 code97 (mkF 0 (args97 b f d left)) H00 = some (.ret, [(8, .ptr 0 0), (9, .p (.int .i64 (-1))), (10, .p (.int .i64 0))], ⟨zeroB :: B, []⟩) := by
  have hw : IntKind.i64.wrap ((f : Int) + 1) = (f : Int) + 1 := wrap64 (by omega) (by omega)
  by_cases h1 : (b.length : Int) ≤ f + 1
  · exact ⟨_, by simp [code97, Tryz.f97, args97, zeroB, encB_len, hw, h1, z25', build25, splice]; rfl⟩
  · by_cases h2 : d < 1
    · exact ⟨_, by simp [code97, Tryz.f97, args97, zeroB, encB_len, hw, h1, h2, z25', build25, splice]; rfl⟩
    · have h3 : left < 1 := by omega
      exact ⟨_, by simp [code97, Tryz.f97, args97, zeroB, encB_len, hw, h1, h2, h3, z25', build25, splice]; rfl⟩

theorem build25_k1 (F : Fr) (k n : Int) (d : Tmp) (hd : look F d = .p (.int .i64 n)) :
    buildD Tryz.prog F 25 [(0, .const (.int .i64 k)), (1, .tmp d)] = some (.agg [.p (.int .i64 k), .p (.int .i64 n), .p (.str ⟨#[]⟩), .lit true []]) := by
  have pl25 : placesOf Tryz.prog 25 = some [(0, 1), (1, 1), (2, 1), (3, 1)] := by kernel_rfl
  simp [buildD, z25', pl25, buildD.go, splice, hd]
theorem load97_bool (b : List UInt8) (f : Nat) (d left : Int) (hb : b.length ≤ 1000) (h1 : f + 1 < b.length) (hd : 1 ≤ d) (hl : 1 ≤ left) (hl2 : left ≤ 1000) (hk : byI b f = 2) :
    ∃ B, E false ⟨0, 0⟩ 97 code97 (mkF 0 (args97 b f d left)) H00 = some (.ret, [(8, .ptr 0 0), (9, .p (.int .i64 (f + 2))), (10, .p (.int .i64 (left - 1)))], ⟨.cells [.p (.int .i64 2), .p (.int .i64 (byI b (f + 1))), .p (.str ⟨#[]⟩), .lit true []] :: B, []⟩) := by
  have hw : IntKind.i64.wrap ((f : Int) + 1) = (f : Int) + 1 := wrap64 (by omega) (by omega)
  have hw2 : IntKind.i64.wrap ((f : Int) + 2) = (f : Int) + 2 := wrap64 (by omega) (by omega)
  have hw3 : IntKind.i64.wrap (left - 1) = left - 1 := wrap64 (by omega) (by omega)
  have c1 : ¬ (b.length : Int) ≤ f + 1 := by omega
  have c2 : ¬ d < 1 := by omega
  have c3 : ¬ left < 1 := by omega
  have g1 := encB_at b f (by omega)
  have g2 := encB_at b (f + 1) h1
  have t1 : ((f : Int) + 1).toNat = f + 1 := by omega
  have p1 : 0 ≤ (f : Int) + 1 := by omega
  have bd := byI_bd b (f + 1)
  have w1 : IntKind.i64.wrap 2 = 2 := wrap64 (by omega) (by omega)
  have w2 : IntKind.i64.wrap (byI b (f + 1)) = byI b (f + 1) := wrap64 (by omega) (by omega)
  rw [hk] at g1
  exact ⟨_, by simp [code97, Tryz.f97, args97, zeroB, encB_len, hw, hw2, hw3, c1, c2, c3, g1, g2, t1, p1, w1, w2, convD, cells_int, z25', build25, build25_k1, splice]; rfl⟩

theorem int68_W (n : Int) (H : Hp) : W 68 [.p (.int .i64 n)] H = some (.ret (.p (enc (.mk 1 n ⟨#[]⟩ []))), H) := by
  refine W68_of rfl (by simp) ?_
  have key : E false ⟨0, 0⟩ 68 code68 (mkF 0 [.p (.int .i64 n)]) H00 = some (.ret, [(2, .ptr 0 0)], ⟨[.cells [.p (.int .i64 1), .p (.int .i64 n), .p (.str ⟨#[]⟩), .lit true []]], []⟩) := by
    simp [code68, Tryz.f68, z25', build25_k1, splice]
  rw [key, enc_eq]
  simp [fnOut, retOut, resD, retsD, retD, oneD, D.noRefs, D.noRef, alone, Hp.cut, k_mk, n_mk, t_mk, ps_mk]

theorem build25_k2 (F : Fr) (k : Int) (s : ByteArray) (d : Tmp) (hd : look F d = .p (.str s)) :
    buildD Tryz.prog F 25 [(0, .const (.int .i64 k)), (2, .tmp d)] = some (.agg [.p (.int .i64 k), .p (.int .i64 0), .p (.str s), .lit true []]) := by
  have pl25 : placesOf Tryz.prog 25 = some [(0, 1), (1, 1), (2, 1), (3, 1)] := by kernel_rfl
  simp [buildD, z25', pl25, buildD.go, splice, hd]

theorem text70_W (s : ByteArray) (H : Hp) : W 70 [.p (.str s)] H = some (.ret (.p (enc (.mk 3 0 s []))), H) := by
  refine W70_of rfl (by simp) ?_
  have key : E false ⟨0, 0⟩ 70 code70 (mkF 0 [.p (.str s)]) H00 = some (.ret, [(2, .ptr 0 0)], ⟨[.cells [.p (.int .i64 3), .p (.int .i64 0), .p (.str s), .lit true []]], []⟩) := by
    simp [code70, Tryz.f70, z25', build25_k2, splice]
  rw [key, enc_eq]
  simp [fnOut, retOut, resD, retsD, retD, oneD, D.noRefs, D.noRef, alone, Hp.cut, k_mk, n_mk, t_mk, ps_mk]

theorem bytesP_enc : ∀ b : List UInt8, bytesP (encB b) = some b
  | [] => rfl
  | c :: r => by
    have ih := bytesP_enc r
    simp only [encB, List.map_cons] at ih ⊢
    simp [bytesP, ih]

def fr97 (b : List UInt8) (f : Nat) (l x : Int) (i : Nat) : Fr := [(0, .p (.sl (encB b))), (1, .p (.int .i64 f)), (3, .p (.int .i64 l)), (8, .ptr 0 0), (15, .p (.int .i64 x)), (16, .p (.int .i64 i))]
def st97 : Hp := ⟨[zeroB, zeroB], []⟩
theorem body97_end (b : List UInt8) (f : Nat) (l x : Int) : E false ⟨0, 0⟩ 97 lp97_0 (fr97 b f l x 5) st97 = some (.exit 1, fr97 b f l x 5 ++ [(62, .p (.bool false))], st97) := by
  simp [fr97, st97, lp97_0, code97, Tryz.f97]
theorem body97_step (b : List UInt8) (f : Nat) (l x : Int) (i : Nat) (hi : i ≤ 4) (hf : f + i < b.length) (hb : b.length ≤ 1000) (hx : 0 ≤ x) (hx2 : x ≤ 100000000) :
    E false ⟨0, 0⟩ 97 lp97_0 (fr97 b f l x i) st97 = some (.normal, fr97 b f l (256 * x + byI b (f + i)) (i + 1), st97) := by
  have hw : IntKind.i64.wrap ((i : Int) + 1) = (i : Int) + 1 := wrap64 (by omega) (by omega)
  have hw2 : IntKind.i64.wrap ((f : Int) + i) = (f : Int) + i := wrap64 (by omega) (by omega)
  have hw3 : IntKind.i64.wrap (256 * x) = 256 * x := wrap64 (by omega) (by omega)
  have bd := byI_bd b (f + i)
  have hw4 : IntKind.i64.wrap (256 * x + byI b (f + i)) = 256 * x + byI b (f + i) := wrap64 (by omega) (by omega)
  have hw5 : IntKind.i64.wrap (byI b (f + i)) = byI b (f + i) := wrap64 (by omega) (by omega)
  have g1 := encB_at b (f + i) hf
  have t1 : ((f : Int) + i).toNat = f + i := by omega
  have p1 : 0 ≤ (f : Int) + i := by omega
  have c1 : (i : Int) ≤ 4 := by omega
  simp [fr97, st97, lp97_0, code97, Tryz.f97, hw, hw2, hw3, hw4, hw5, g1, t1, p1, c1, convD, cells_int]

theorem loop97_0 (b : List UInt8) (f : Nat) (l : Int) (hf : f + 4 < b.length) (hb : b.length ≤ 1000) :
    loopO false ⟨0, 0⟩ 97 lp97_0 2 0 (fr97 b f l 0 1) st97 = some (.exit 1, fr97 b f l (x4 b f) 5 ++ [(62, .p (.bool false))], st97) := by
  have hcut : ∀ F, cutD ⟨0, 0⟩ [0, 1, 3, 8, 15, 16] 2 0 F st97 = some (norm [0, 1, 3, 8, 15, 16] F, st97) := fun F => cut_full ⟨0, 0⟩ _ F st97
  have hn : ∀ x i, norm [0, 1, 3, 8, 15, 16] (fr97 b f l x i) = fr97 b f l x i := fun _ _ => rfl
  have d1 := byI_bd b (f + 1)
  have d2 := byI_bd b (f + 2)
  have d3 := byI_bd b (f + 3)
  rw [loopO_eq, hd97_0, hcut, hn]
  simp only [body97_step b f l 0 1 (by omega) (by omega) hb (by omega) (by omega)]
  rw [loopO_eq, hd97_0, hcut, hn]
  simp only [body97_step b f l (256 * 0 + byI b (f + 1)) 2 (by omega) (by omega) hb (by omega) (by omega)]
  rw [loopO_eq, hd97_0, hcut, hn]
  simp only [body97_step b f l (256 * (256 * 0 + byI b (f + 1)) + byI b (f + 2)) 3 (by omega) (by omega) hb (by omega) (by omega)]
  rw [loopO_eq, hd97_0, hcut, hn]
  simp only [body97_step b f l (256 * (256 * (256 * 0 + byI b (f + 1)) + byI b (f + 2)) + byI b (f + 3)) 4 (by omega) (by omega) hb (by omega) (by omega)]
  rw [loopO_eq, hd97_0, hcut, hn]
  simp only [Nat.reduceAdd, body97_end]
  rw [show (256 * (256 * (256 * (256 * 0 + byI b (f + 1)) + byI b (f + 2)) + byI b (f + 3)) + byI b (f + 4) : Int) = x4 b f by unfold x4; omega]

theorem x4_bd (b : List UInt8) (f : Nat) : 0 ≤ x4 b f ∧ x4 b f ≤ 4294967295 := by
  have d1 := byI_bd b (f + 1)
  have d2 := byI_bd b (f + 2)
  have d3 := byI_bd b (f + 3)
  have d4 := byI_bd b (f + 4)
  unfold x4; omega

theorem load97_int (b : List UInt8) (f : Nat) (d left : Int) (hb : b.length ≤ 1000) (h1 : f + 1 < b.length) (hd : 1 ≤ d) (hl : 1 ≤ left) (hl2 : left ≤ 1000) (hk : byI b f = 1) (h5 : f + 5 ≤ b.length) :
    ∃ B, E false ⟨0, 0⟩ 97 code97 (mkF 0 (args97 b f d left)) H00 = some (.ret, [(8, .ptr 0 0), (9, .p (.int .i64 (f + 5))), (10, .p (.int .i64 (left - 1)))], ⟨box25 (.mk 1 (x4 b f - 1000000000) ⟨#[]⟩ []) :: B, []⟩) := by
  have hw : IntKind.i64.wrap ((f : Int) + 1) = (f : Int) + 1 := wrap64 (by omega) (by omega)
  have hw2 : IntKind.i64.wrap ((f : Int) + 2) = (f : Int) + 2 := wrap64 (by omega) (by omega)
  have hw5 : IntKind.i64.wrap ((f : Int) + 5) = (f : Int) + 5 := wrap64 (by omega) (by omega)
  have hw3 : IntKind.i64.wrap (left - 1) = left - 1 := wrap64 (by omega) (by omega)
  have hw4 : IntKind.i64.wrap ((b.length : Int) - f) = (b.length : Int) - f := wrap64 (by omega) (by omega)
  have c1 : ¬ (b.length : Int) ≤ f + 1 := by omega
  have c2 : ¬ d < 1 := by omega
  have c3 : ¬ left < 1 := by omega
  have c4 : ¬ (b.length : Int) - f < 5 := by omega
  have g1 := encB_at b f (by omega)
  have g2 := encB_at b (f + 1) h1
  have t1 : ((f : Int) + 1).toNat = f + 1 := by omega
  have p1 : 0 ≤ (f : Int) + 1 := by omega
  have bd := byI_bd b (f + 1)
  have xb := x4_bd b f
  have w1 : IntKind.i64.wrap 1 = 1 := wrap64 (by omega) (by omega)
  have w2 : IntKind.i64.wrap (byI b (f + 1)) = byI b (f + 1) := wrap64 (by omega) (by omega)
  have w3 : IntKind.i64.wrap (x4 b f - 1000000000) = x4 b f - 1000000000 := wrap64 (by omega) (by omega)
  rw [hk] at g1
  have hloop := loop97_0 b f (left - 1) (by omega) hb
  have h68 := fun H => int68_W (x4 b f - 1000000000) H
  have h01 : ((1 : Nat) : Int) = 1 := rfl
  have h05 : ((5 : Nat) : Int) = 5 := rfl
  simp only [lp97_0, code97, Tryz.f97, fr97, st97, zeroB, h01, h05] at hloop
  exact ⟨_, by simp [code97, Tryz.f97, args97, zeroB, box25, k_mk, n_mk, t_mk, ps_mk, encB_len, hw, hw2, hw3, hw4, hw5, c1, c2, c3, c4, g1, g2, t1, p1, w1, w2, w3, convD, cells_int, z25', build25, build25_k1, splice, hloop, h68]; rfl⟩
end Go.Vi
end

section
/- Vi: ref.load (f97), the tuples and sets; ref.Load (f50). No conditions. -/
namespace Go.Vi
open Go Go.Lib Go.Proofs
set_option maxRecDepth 100000
attribute [local simp] E_skip E_ret E_exit E_text E_draw E_seq E_cond E_block E_scope E_loop runOps runOp runDraw runVF runV finV gate FlOK wantD exec fin opd look putF norm constD constC fieldAddrD loadD storeD opCall lenD binD isShift intP strP numD indexAddrD indexD D.pd? D.pds? cells_enc sub capsOf callD argsD argD D.nf enc_agg unP box_enc cellD mkF H00 st1 cD_agg cD_pagg cD_int cD_bool cD_str cD_sl cD_lit cD_own

theorem set_last {α : Type} (L : List α) (x z : α) : (L ++ [z]).set L.length x = L ++ [x] := by
  induction L with
  | nil => rfl
  | cons a b ih => simp [ih]

def frL (b : List UInt8) (d l n : Int) (a i : Nat) : Fr := [(0, .p (.sl (encB b))), (2, .p (.int .i64 d)), (3, .p (.int .i64 l)), (8, .ptr 0 0), (11, .ptr 1 0), (13, .p (.int .i64 n)), (14, .p (.int .i64 a)), (17, .ptr 2 0), (18, .p (.int .i64 i))]
def vB (k : Int) (q : D) : Blk := .cells [.p (.int .i64 k), .p (.int .i64 0), .p (.str ⟨#[]⟩), q]
def stL (k : Int) (q : D) (G : List Blk) (A : List Arr) : Hp := ⟨zeroB :: zeroB :: vB k q :: G, A⟩
def rowL (m : Nat) (acc : List Val) : Arr := ⟨m, 25, 4, false, true, acc.map enc⟩

theorem bodyL_end (b : List UInt8) (d l : Int) (n a : Nat) (k : Int) (q : D) (G : List Blk) (A : List Arr) :
    E false ⟨0, 0⟩ 97 lp97_1 (frL b d l n a n) (stL k q G A) = some (.exit 3, frL b d l n a n ++ [(115, .p (.bool false))], stL k q G A) := by
  simp [frL, stL, lp97_1, code97, Tryz.f97]

theorem bodyL_fail (b : List UInt8) (d l : Int) (n a i : Nat) (k : Int) (q : D) (G : List Blk) (A : List Arr) (hi : i < n) (hd : 0 ≤ d) (hd2 : d ≤ 100)
    (hr : ∀ H, W 97 [.p (.sl (encB b)), .p (.int .i64 a), .p (.int .i64 (d - 1)), .p (.int .i64 l)] H = some (.ret (.tup [.p (enc Val.zero), .p (.int .i64 (-1)), .p (.int .i64 0)]), H)) :
    ∃ B, E false ⟨0, 0⟩ 97 lp97_1 (frL b d l n a i) (stL k q G A) = some (.ret, [(8, .ptr 0 0), (9, .p (.int .i64 (-1))), (10, .p (.int .i64 0))], ⟨zeroB :: B, A⟩) := by
  have hw : IntKind.i64.wrap (d - 1) = d - 1 := wrap64 (by omega) (by omega)
  exact ⟨_, by simp [frL, stL, zeroB, lp97_1, code97, Tryz.f97, hw, hr, hi, z25', splice, set_last]; rfl⟩

theorem bodyL_first (b : List UInt8) (d l : Int) (n a i : Nat) (k : Int) (G : List Blk) (hi : i < n) (hn : n ≤ 255) (hd : 0 ≤ d) (hd2 : d ≤ 100) (x : Val) (nx : Nat) (rest : Int)
    (hr : ∀ H, W 97 [.p (.sl (encB b)), .p (.int .i64 a), .p (.int .i64 (d - 1)), .p (.int .i64 l)] H = some (.ret (.tup [.p (enc x), .p (.int .i64 nx), .p (.int .i64 rest)]), H)) :
    ∃ B, E false ⟨0, 0⟩ 97 lp97_1 (frL b d l n a i) (stL k (.lit true []) G []) = some (.normal, frL b d rest n nx (i + 1), stL k (.own 0 0) (G ++ [B]) [rowL 0 [x]]) := by
  have hw : IntKind.i64.wrap (d - 1) = d - 1 := wrap64 (by omega) (by omega)
  have hw2 : IntKind.i64.wrap ((i : Int) + 1) = (i : Int) + 1 := wrap64 (by omega) (by omega)
  have hnx : ¬ (nx : Int) < 0 := by omega
  exact ⟨box25 x, by simp [frL, stL, vB, rowL, zeroB, box25, lp97_1, code97, Tryz.f97, hw, hw2, hr, hi, hnx, z25', splice, set_last, buildSliceD, elsD, one_int, one_str, one_sl, one_enc, len_enc, all_one, appendD, srcD, Hp.live, zok25, fits_enc, fit_n, newRow]⟩

theorem bodyL_next (b : List UInt8) (d l : Int) (n a i : Nat) (k : Int) (G : List Blk) (m : Nat) (acc : List Val) (hacc : acc.length ≤ 1000) (hi : i < n) (hn : n ≤ 255) (hd : 0 ≤ d) (hd2 : d ≤ 100) (x : Val) (nx : Nat) (rest : Int)
    (hr : ∀ H, W 97 [.p (.sl (encB b)), .p (.int .i64 a), .p (.int .i64 (d - 1)), .p (.int .i64 l)] H = some (.ret (.tup [.p (enc x), .p (.int .i64 nx), .p (.int .i64 rest)]), H)) :
    ∃ B, E false ⟨0, 0⟩ 97 lp97_1 (frL b d l n a i) (stL k (.own 0 m) G [rowL m acc]) = some (.normal, frL b d rest n nx (i + 1), stL k (.own 0 (m + 1)) (G ++ [B]) [rowL (m + 1) (acc ++ [x])]) := by
  have hw : IntKind.i64.wrap (d - 1) = d - 1 := wrap64 (by omega) (by omega)
  have hw2 : IntKind.i64.wrap ((i : Int) + 1) = (i : Int) + 1 := wrap64 (by omega) (by omega)
  have hnx : ¬ (nx : Int) < 0 := by omega
  have hby : (acc.length + 1) * 56 ≤ 140737488355328 := by omega
  exact ⟨box25 x, by simp [frL, stL, vB, rowL, zeroB, box25, lp97_1, code97, Tryz.f97, hw, hw2, hr, hi, hnx, z25', splice, set_last, buildSliceD, elsD, one_int, one_str, one_sl, one_enc, len_enc, all_one, appendD, srcD, Hp.live, zok25, fits_enc, fit_n, newRow, hby]⟩

/-- The state for the parts read so far. -/
def IL (k : Int) (acc : List Val) (H : Hp) : Prop := (acc = [] ∧ ∃ G, H = stL k (.lit true []) G []) ∨ (acc ≠ [] ∧ ∃ m G, H = stL k (.own 0 m) G [rowL m acc])

theorem IL_cut (k : Int) (acc : List Val) (F : Fr) (H : Hp) (hI : IL k acc H) : ∃ H0, cutD ⟨0, 0⟩ [0, 2, 3, 8, 11, 13, 14, 17, 18] 3 0 F H = some (norm [0, 2, 3, 8, 11, 13, 14, 17, 18] F, H0) ∧ IL k acc H0 := by
  unfold cutD
  split
  · rename_i hc
    rcases hI with ⟨h, G, rfl⟩ | ⟨h, m, G, rfl⟩
    · exact ⟨_, rfl, .inl ⟨h, [], rfl⟩⟩
    · exfalso
      have := hc.2
      simp [stL, vB, zeroB, blkNo, D.noRefs, D.noRef] at this
  · exact ⟨_, rfl, hI⟩

theorem loopL_ok (b : List UInt8) (d : Int) (n : Nat) (k : Int) (hn : n ≤ 255) (hd : 0 ≤ d) (hd2 : d ≤ 100) (r : Nat → Int → Option (Val × Nat × Int))
    (Q : Nat → Int → Prop) (hQ : ∀ a l x nx rest, Q a l → r a l = some (x, nx, rest) → Q nx rest)
    (hr : ∀ (a : Nat) (l : Int), Q a l → ∀ H, W 97 [.p (.sl (encB b)), .p (.int .i64 a), .p (.int .i64 (d - 1)), .p (.int .i64 l)] H = some (.ret (.tup (out97 (r a l))), H)) :
    ∀ (m i a : Nat) (l : Int) (acc : List Val) (F : Fr) (H : Hp), m = n - i → i ≤ n → acc.length = i → Q a l → IL k acc H → norm [0, 2, 3, 8, 11, 13, 14, 17, 18] F = frL b d l n a i →
    (∃ ps e q H1, loads r m a l = some (ps, e, q) ∧ loopO false ⟨0, 0⟩ 97 lp97_1 3 0 F H = some (.exit 3, frL b d q n e n ++ [(115, .p (.bool false))], H1) ∧ IL k (acc ++ ps) H1) ∨
    (loads r m a l = none ∧ ∃ B A, loopO false ⟨0, 0⟩ 97 lp97_1 3 0 F H = some (.ret, [(8, .ptr 0 0), (9, .p (.int .i64 (-1))), (10, .p (.int .i64 0))], ⟨zeroB :: B, A⟩)) := by
  intro m
  induction m with
  | zero =>
    intro i a l acc F H hm hi ha hq hI hF
    have hie : i = n := by omega
    subst hie
    obtain ⟨H0, hc, hI0⟩ := IL_cut k acc F H hI
    refine .inl ⟨[], a, l, H0, rfl, ?_, by rw [List.append_nil]; exact hI0⟩
    rw [loopO_eq, hd97_1, hc, hF]
    rcases hI0 with ⟨h, G, rfl⟩ | ⟨h, m, G, rfl⟩ <;> simp only [bodyL_end]
  | succ m ih =>
    intro i a l acc F H hm hi ha hq hI hF
    have hlt : i < n := by omega
    obtain ⟨H0, hc, hI0⟩ := IL_cut k acc F H hI
    have h97 := hr a l hq
    rw [loopO_eq, hd97_1, hc, hF]
    simp only [loads]
    cases hra : r a l with
    | none =>
      right
      rw [hra] at h97
      refine ⟨rfl, ?_⟩
      rcases hI0 with ⟨h, G, rfl⟩ | ⟨h, mm, G, rfl⟩
      · obtain ⟨B, hb⟩ := bodyL_fail b d l n a i k (.lit true []) G [] hlt hd hd2 h97
        exact ⟨B, _, by simp only [hb]; rfl⟩
      · obtain ⟨B, hb⟩ := bodyL_fail b d l n a i k (.own 0 mm) G [rowL mm acc] hlt hd hd2 h97
        exact ⟨B, _, by simp only [hb]; rfl⟩
    | some p =>
      obtain ⟨x, nx, rest⟩ := p
      rw [hra] at h97
      have hq2 := hQ a l x nx rest hq hra
      have step : ∃ H1, E false ⟨0, 0⟩ 97 lp97_1 (frL b d l n a i) H0 = some (.normal, frL b d rest n nx (i + 1), H1) ∧ IL k (acc ++ [x]) H1 := by
        rcases hI0 with ⟨h, G, rfl⟩ | ⟨h, mm, G, rfl⟩
        · obtain ⟨B, hb⟩ := bodyL_first b d l n a i k G hlt hn hd hd2 x nx rest h97
          exact ⟨_, hb, .inr ⟨by simp, 0, _, by rw [h]; rfl⟩⟩
        · obtain ⟨B, hb⟩ := bodyL_next b d l n a i k G mm acc (by omega) hlt hn hd hd2 x nx rest h97
          exact ⟨_, hb, .inr ⟨by simp, mm + 1, _, rfl⟩⟩
      obtain ⟨H1, hb, hI1⟩ := step
      simp only [hb]
      rcases ih (i + 1) nx rest (acc ++ [x]) (frL b d rest n nx (i + 1)) H1 (by omega) (by omega) (by simp; omega) hq2 hI1 rfl with ⟨ps, e, q, H2, h1, h2, h3⟩ | ⟨h1, h2⟩
      · left
        refine ⟨x :: ps, e, q, H2, by rw [h1], h2, ?_⟩
        simpa using h3
      · right
        exact ⟨by rw [h1], h2⟩

theorem loads_bd (r : Nat → Int → Option (Val × Nat × Int)) (N : Nat) (M : Int) (h : ∀ a l x nx rest, a ≤ N → l ≤ M → r a l = some (x, nx, rest) → nx ≤ N ∧ rest ≤ M) : ∀ (m a : Nat) (l : Int) (ps : List Val) (e : Nat) (q : Int), a ≤ N → l ≤ M → loads r m a l = some (ps, e, q) → e ≤ N ∧ q ≤ M
  | 0, a, l, ps, e, q, ha, hl, h0 => by simp only [loads, Option.some.injEq, Prod.mk.injEq] at h0; omega
  | m + 1, a, l, ps, e, q, ha, hl, h0 => by
    simp only [loads] at h0
    cases hr : r a l with
    | none => rw [hr] at h0; cases h0
    | some p =>
      obtain ⟨x, nx, rest⟩ := p
      rw [hr] at h0
      obtain ⟨h1, h2⟩ := h a l x nx rest ha hl hr
      simp only at h0
      cases hl2 : loads r m nx rest with
      | none => rw [hl2] at h0; cases h0
      | some p2 =>
        obtain ⟨ps2, e2, q2⟩ := p2
        rw [hl2] at h0
        simp only [Option.some.injEq, Prod.mk.injEq] at h0
        have := loads_bd r N M h m nx rest ps2 e2 q2 h1 h2 hl2
        omega

theorem rload_bd (b : List UInt8) : ∀ (d f : Nat) (l : Int) (v : Val) (nx : Nat) (rest : Int), rload b d f l = some (v, nx, rest) → nx ≤ b.length ∧ rest ≤ l - 1
  | 0, f, l, v, nx, rest, h => by simp [rload] at h
  | d + 1, f, l, v, nx, rest, h => by
    unfold rload at h
    split at h
    · cases h
    rename_i h1
    split at h
    · split at h
      · cases h
      · simp only [Option.some.injEq, Prod.mk.injEq] at h; omega
    split at h
    · simp only [Option.some.injEq, Prod.mk.injEq] at h; omega
    split at h
    · split at h
      · cases h
      · simp only [Option.some.injEq, Prod.mk.injEq] at h; omega
    split at h
    · cases hl : loads (rload b d) (byI b (f + 1)).toNat (f + 2) (l - 1) with
      | none => rw [hl] at h; cases h
      | some p =>
        obtain ⟨ps, e, q⟩ := p
        rw [hl] at h
        simp only [Option.some.injEq, Prod.mk.injEq] at h
        have := loads_bd (rload b d) b.length (l - 1) (fun a l' x nx rest ha hl' hr => by have := rload_bd b d a l' x nx rest hr; omega) _ _ _ _ _ _ (by omega) (by omega) hl
        omega
    · cases h

theorem load97_other (b : List UInt8) (f : Nat) (d left : Int) (hb : b.length ≤ 1000) (h1 : f + 1 < b.length) (hd : 1 ≤ d) (hl : 1 ≤ left) (hl2 : left ≤ 1000)
    (n1 : ¬ byI b f = 1) (n2 : ¬ byI b f = 2) (n3 : ¬ byI b f = 3) (n4 : ¬ byI b f = 4) (n5 : ¬ byI b f = 5) :
    ∃ B, E false ⟨0, 0⟩ 97 code97 (mkF 0 (args97 b f d left)) H00 = some (.ret, [(8, .ptr 0 0), (9, .p (.int .i64 (-1))), (10, .p (.int .i64 0))], ⟨zeroB :: B, []⟩) := by
  have hw : IntKind.i64.wrap ((f : Int) + 1) = (f : Int) + 1 := wrap64 (by omega) (by omega)
  have hw2 : IntKind.i64.wrap ((f : Int) + 2) = (f : Int) + 2 := wrap64 (by omega) (by omega)
  have hw3 : IntKind.i64.wrap (left - 1) = left - 1 := wrap64 (by omega) (by omega)
  have c1 : ¬ (b.length : Int) ≤ f + 1 := by omega
  have c2 : ¬ d < 1 := by omega
  have c3 : ¬ left < 1 := by omega
  have g1 := encB_at b f (by omega)
  have g2 := encB_at b (f + 1) h1
  have t1 : ((f : Int) + 1).toNat = f + 1 := by omega
  have p1 : 0 ≤ (f : Int) + 1 := by omega
  have bd := byI_bd b (f + 1)
  have bd0 := byI_bd b f
  have w1 : IntKind.i64.wrap (byI b f) = byI b f := wrap64 (by omega) (by omega)
  have w2 : IntKind.i64.wrap (byI b (f + 1)) = byI b (f + 1) := wrap64 (by omega) (by omega)
  exact ⟨_, by simp [code97, Tryz.f97, args97, zeroB, encB_len, hw, hw2, hw3, c1, c2, c3, g1, g2, t1, p1, w1, w2, n1, n2, n3, n4, n5, convD, cells_int, z25', build25, splice]; rfl⟩

theorem load97_short (b : List UInt8) (f : Nat) (d left : Int) (hb : b.length ≤ 1000) (h1 : f + 1 < b.length) (hd : 1 ≤ d) (hl : 1 ≤ left) (hl2 : left ≤ 1000) (hk : byI b f = 1) (h5 : b.length < f + 5) :
    ∃ B, E false ⟨0, 0⟩ 97 code97 (mkF 0 (args97 b f d left)) H00 = some (.ret, [(8, .ptr 0 0), (9, .p (.int .i64 (-1))), (10, .p (.int .i64 0))], ⟨zeroB :: B, []⟩) := by
  have hw : IntKind.i64.wrap ((f : Int) + 1) = (f : Int) + 1 := wrap64 (by omega) (by omega)
  have hw2 : IntKind.i64.wrap ((f : Int) + 2) = (f : Int) + 2 := wrap64 (by omega) (by omega)
  have hw3 : IntKind.i64.wrap (left - 1) = left - 1 := wrap64 (by omega) (by omega)
  have hw4 : IntKind.i64.wrap ((b.length : Int) - f) = (b.length : Int) - f := wrap64 (by omega) (by omega)
  have c1 : ¬ (b.length : Int) ≤ f + 1 := by omega
  have c2 : ¬ d < 1 := by omega
  have c3 : ¬ left < 1 := by omega
  have c4 : (b.length : Int) - f < 5 := by omega
  have g1 := encB_at b f (by omega)
  have g2 := encB_at b (f + 1) h1
  have t1 : ((f : Int) + 1).toNat = f + 1 := by omega
  have p1 : 0 ≤ (f : Int) + 1 := by omega
  have bd := byI_bd b (f + 1)
  have w1 : IntKind.i64.wrap 1 = 1 := wrap64 (by omega) (by omega)
  have w2 : IntKind.i64.wrap (byI b (f + 1)) = byI b (f + 1) := wrap64 (by omega) (by omega)
  rw [hk] at g1
  exact ⟨_, by simp [code97, Tryz.f97, args97, zeroB, encB_len, hw, hw2, hw3, hw4, c1, c2, c3, c4, g1, g2, t1, p1, w1, w2, convD, cells_int, z25', build25, splice]; rfl⟩

theorem load97_text (b : List UInt8) (f n : Nat) (d left : Int) (hb : b.length ≤ 1000) (h1 : f + 1 < b.length) (hd : 1 ≤ d) (hl : 1 ≤ left) (hl2 : left ≤ 1000) (hk : byI b f = 3) (hn : byI b (f + 1) = n) (h5 : f + 2 + n ≤ b.length) :
    ∃ B, E false ⟨0, 0⟩ 97 code97 (mkF 0 (args97 b f d left)) H00 = some (.ret, [(8, .ptr 0 0), (9, .p (.int .i64 (f + 2 + n))), (10, .p (.int .i64 (left - 1)))], ⟨box25 (.mk 3 0 ⟨((b.drop (f + 2)).take n).toArray⟩ []) :: B, []⟩) := by
  have hw : IntKind.i64.wrap ((f : Int) + 1) = (f : Int) + 1 := wrap64 (by omega) (by omega)
  have hw2 : IntKind.i64.wrap ((f : Int) + 2) = (f : Int) + 2 := wrap64 (by omega) (by omega)
  have hw3 : IntKind.i64.wrap (left - 1) = left - 1 := wrap64 (by omega) (by omega)
  have hw4 : IntKind.i64.wrap ((b.length : Int) - (f + 2)) = (b.length : Int) - (f + 2) := wrap64 (by omega) (by omega)
  have hw5 : IntKind.i64.wrap ((f : Int) + 2 + n) = (f : Int) + 2 + n := wrap64 (by omega) (by omega)
  have c1 : ¬ (b.length : Int) ≤ f + 1 := by omega
  have c2 : ¬ d < 1 := by omega
  have c3 : ¬ left < 1 := by omega
  have c4 : ¬ (b.length : Int) - (f + 2) < n := by omega
  have g1 := encB_at b f (by omega)
  have g2 := encB_at b (f + 1) h1
  have t1 : ((f : Int) + 1).toNat = f + 1 := by omega
  have p1 : 0 ≤ (f : Int) + 1 := by omega
  have w1 : IntKind.i64.wrap 3 = 3 := wrap64 (by omega) (by omega)
  have w2 : IntKind.i64.wrap n = n := wrap64 (by omega) (by omega)
  rw [hk] at g1
  rw [hn] at g2
  have t2 : ((f : Int) + 2).toNat = f + 2 := by omega
  have t3 : ((f : Int) + 2 + n).toNat = f + 2 + n := by omega
  have p2 : 0 ≤ (f : Int) + 2 := by omega
  have p3 : (f : Int) + 2 ≤ f + 2 + n := by omega
  have p4 : (f : Int) + 2 + n ≤ b.length := by omega
  have ft := fit_b b
  have ed : ((encB b).take (f + 2 + n)).drop (f + 2) = encB ((b.drop (f + 2)).take n) := by
    simp only [encB, ← List.map_take, ← List.map_drop]
    rw [List.drop_take, show f + 2 + n - (f + 2) = n by omega]
  have h70 := fun H => text70_W ⟨((b.drop (f + 2)).take n).toArray⟩ H
  have bp := bytesP_enc ((b.drop (f + 2)).take n)
  exact ⟨_, by simp [code97, Tryz.f97, args97, zeroB, box25, k_mk, n_mk, t_mk, ps_mk, encB_len, hw, hw2, hw3, hw4, hw5, c1, c2, c3, c4, g1, g2, t1, p1, w1, w2, convD, cells_int, z25', build25, splice, sliceD, boundD, t2, t3, p2, p3, p4, ft, ed, h70, bp]; rfl⟩
end Go.Vi
end

section
/- Vi: ref.load (f97) whole; ref.Load (f50). No conditions. -/
namespace Go.Vi
open Go Go.Lib Go.Proofs
set_option maxRecDepth 100000
attribute [local simp] E_skip E_ret E_exit E_text E_draw E_seq E_cond E_block E_scope E_loop runOps runOp runDraw runVF runV finV gate FlOK wantD exec fin opd look putF norm constD constC fieldAddrD loadD storeD opCall lenD binD isShift intP strP numD indexAddrD indexD D.pd? D.pds? cells_enc sub capsOf callD argsD argD D.nf enc_agg unP box_enc cellD mkF H00 st1 cD_agg cD_pagg cD_int cD_bool cD_str cD_sl cD_lit cD_own

theorem load97_tshort (b : List UInt8) (f n : Nat) (d left : Int) (hb : b.length ≤ 1000) (h1 : f + 1 < b.length) (hd : 1 ≤ d) (hl : 1 ≤ left) (hl2 : left ≤ 1000) (hk : byI b f = 3) (hn : byI b (f + 1) = n) (h5 : b.length < f + 2 + n) (hn2 : n ≤ 255) :
    ∃ B, E false ⟨0, 0⟩ 97 code97 (mkF 0 (args97 b f d left)) H00 = some (.ret, [(8, .ptr 0 0), (9, .p (.int .i64 (-1))), (10, .p (.int .i64 0))], ⟨zeroB :: B, []⟩) := by
  have hw : IntKind.i64.wrap ((f : Int) + 1) = (f : Int) + 1 := wrap64 (by omega) (by omega)
  have hw2 : IntKind.i64.wrap ((f : Int) + 2) = (f : Int) + 2 := wrap64 (by omega) (by omega)
  have hw3 : IntKind.i64.wrap (left - 1) = left - 1 := wrap64 (by omega) (by omega)
  have hw4 : IntKind.i64.wrap ((b.length : Int) - (f + 2)) = (b.length : Int) - (f + 2) := wrap64 (by omega) (by omega)
  have c1 : ¬ (b.length : Int) ≤ f + 1 := by omega
  have c2 : ¬ d < 1 := by omega
  have c3 : ¬ left < 1 := by omega
  have c4 : (b.length : Int) - (f + 2) < n := by omega
  have g1 := encB_at b f (by omega)
  have g2 := encB_at b (f + 1) h1
  have t1 : ((f : Int) + 1).toNat = f + 1 := by omega
  have p1 : 0 ≤ (f : Int) + 1 := by omega
  have w1 : IntKind.i64.wrap 3 = 3 := wrap64 (by omega) (by omega)
  have w2 : IntKind.i64.wrap n = n := wrap64 (by omega) (by omega)
  rw [hk] at g1
  rw [hn] at g2
  exact ⟨_, by simp [code97, Tryz.f97, args97, zeroB, encB_len, hw, hw2, hw3, hw4, c1, c2, c3, c4, g1, g2, t1, p1, w1, w2, convD, cells_int, z25', build25, splice]; rfl⟩

theorem build25_t0 (F : Fr) (k : Int) (d : Tmp) (hd : look F d = .p (.int .i64 k)) :
    buildD Tryz.prog F 25 [(0, .tmp d)] = some (.agg [.p (.int .i64 k), .p (.int .i64 0), .p (.str ⟨#[]⟩), .lit true []]) := by
  have pl25 : placesOf Tryz.prog 25 = some [(0, 1), (1, 1), (2, 1), (3, 1)] := by kernel_rfl
  simp [buildD, z25', pl25, buildD.go, splice, hd]

theorem load97_list (b : List UInt8) (f n : Nat) (k d left : Int) (hk45 : k = 4 ∨ k = 5) (hb : b.length ≤ 1000) (h1 : f + 1 < b.length) (hd : 1 ≤ d) (hl : 1 ≤ left) (hl2 : left ≤ 1000) (hk : byI b f = k) (hn : byI b (f + 1) = n) (hn2 : n ≤ 255)
    (o : CO) (hloop : loopO false ⟨0, 0⟩ 97 lp97_1 3 0 (frL b d (left - 1) n (f + 2) 0) (stL k (.lit true []) [] []) = some o) (e : Nat) (q : Int) (qd : D) (G : List Blk) (A : List Arr) (hqd : qd = .lit true [] ∨ ∃ m, qd = .own 0 m)
    (ho : o = (.exit 3, frL b d q n e n ++ [(115, .p (.bool false))], stL k qd G A)) :
    ∃ B, E false ⟨0, 0⟩ 97 code97 (mkF 0 (args97 b f d left)) H00 = some (.ret, [(8, .ptr 0 0), (9, .p (.int .i64 e)), (10, .p (.int .i64 q))], ⟨vB k qd :: B, A⟩) := by
  have hw : IntKind.i64.wrap ((f : Int) + 1) = (f : Int) + 1 := wrap64 (by omega) (by omega)
  have hw2 : IntKind.i64.wrap ((f : Int) + 2) = (f : Int) + 2 := wrap64 (by omega) (by omega)
  have hw3 : IntKind.i64.wrap (left - 1) = left - 1 := wrap64 (by omega) (by omega)
  have c1 : ¬ (b.length : Int) ≤ f + 1 := by omega
  have c2 : ¬ d < 1 := by omega
  have c3 : ¬ left < 1 := by omega
  have g1 := encB_at b f (by omega)
  have g2 := encB_at b (f + 1) h1
  have t1 : ((f : Int) + 1).toNat = f + 1 := by omega
  have p1 : 0 ≤ (f : Int) + 1 := by omega
  have w2 : IntKind.i64.wrap n = n := wrap64 (by omega) (by omega)
  rw [hk] at g1
  rw [hn] at g2
  subst ho
  have h00 : ((0 : Nat) : Int) = 0 := rfl
  have h02 : ((f + 2 : Nat) : Int) = (f : Int) + 2 := by omega
  rcases hk45 with rfl | rfl
  · have w1 : IntKind.i64.wrap 4 = 4 := wrap64 (by omega) (by omega)
    simp only [lp97_1, code97, Tryz.f97, frL, stL, vB, zeroB, h00, h02] at hloop
    rcases hqd with rfl | ⟨m, rfl⟩
    · exact ⟨_, by simp [code97, Tryz.f97, args97, zeroB, vB, encB_len, hw, hw2, hw3, c1, c2, c3, g1, g2, t1, p1, w1, w2, convD, cells_int, z25', build25, build25_t0, splice, hloop]; rfl⟩
    · exact ⟨_, by simp [code97, Tryz.f97, args97, zeroB, vB, encB_len, hw, hw2, hw3, c1, c2, c3, g1, g2, t1, p1, w1, w2, convD, cells_int, z25', build25, build25_t0, splice, hloop]; rfl⟩
  · have w1 : IntKind.i64.wrap 5 = 5 := wrap64 (by omega) (by omega)
    simp only [lp97_1, code97, Tryz.f97, frL, stL, vB, zeroB, h00, h02] at hloop
    rcases hqd with rfl | ⟨m, rfl⟩
    · exact ⟨_, by simp [code97, Tryz.f97, args97, zeroB, vB, encB_len, hw, hw2, hw3, c1, c2, c3, g1, g2, t1, p1, w1, w2, convD, cells_int, z25', build25, build25_t0, splice, hloop]; rfl⟩
    · exact ⟨_, by simp [code97, Tryz.f97, args97, zeroB, vB, encB_len, hw, hw2, hw3, c1, c2, c3, g1, g2, t1, p1, w1, w2, convD, cells_int, z25', build25, build25_t0, splice, hloop]; rfl⟩

theorem load97_lfail (b : List UInt8) (f n : Nat) (k d left : Int) (hk45 : k = 4 ∨ k = 5) (hb : b.length ≤ 1000) (h1 : f + 1 < b.length) (hd : 1 ≤ d) (hl : 1 ≤ left) (hl2 : left ≤ 1000) (hk : byI b f = k) (hn : byI b (f + 1) = n) (hn2 : n ≤ 255)
    (B0 : List Blk) (A : List Arr) (hloop : loopO false ⟨0, 0⟩ 97 lp97_1 3 0 (frL b d (left - 1) n (f + 2) 0) (stL k (.lit true []) [] []) = some (.ret, [(8, .ptr 0 0), (9, .p (.int .i64 (-1))), (10, .p (.int .i64 0))], ⟨zeroB :: B0, A⟩)) :
    ∃ B, E false ⟨0, 0⟩ 97 code97 (mkF 0 (args97 b f d left)) H00 = some (.ret, [(8, .ptr 0 0), (9, .p (.int .i64 (-1))), (10, .p (.int .i64 0))], ⟨zeroB :: B, A⟩) := by
  have hw : IntKind.i64.wrap ((f : Int) + 1) = (f : Int) + 1 := wrap64 (by omega) (by omega)
  have hw2 : IntKind.i64.wrap ((f : Int) + 2) = (f : Int) + 2 := wrap64 (by omega) (by omega)
  have hw3 : IntKind.i64.wrap (left - 1) = left - 1 := wrap64 (by omega) (by omega)
  have c1 : ¬ (b.length : Int) ≤ f + 1 := by omega
  have c2 : ¬ d < 1 := by omega
  have c3 : ¬ left < 1 := by omega
  have g1 := encB_at b f (by omega)
  have g2 := encB_at b (f + 1) h1
  have t1 : ((f : Int) + 1).toNat = f + 1 := by omega
  have p1 : 0 ≤ (f : Int) + 1 := by omega
  have w2 : IntKind.i64.wrap n = n := wrap64 (by omega) (by omega)
  rw [hk] at g1
  rw [hn] at g2
  have h00 : ((0 : Nat) : Int) = 0 := rfl
  have h02 : ((f + 2 : Nat) : Int) = (f : Int) + 2 := by omega
  rcases hk45 with rfl | rfl
  · have w1 : IntKind.i64.wrap 4 = 4 := wrap64 (by omega) (by omega)
    simp only [lp97_1, code97, Tryz.f97, frL, stL, vB, zeroB, h00, h02] at hloop
    exact ⟨_, by simp [code97, Tryz.f97, args97, zeroB, vB, encB_len, hw, hw2, hw3, c1, c2, c3, g1, g2, t1, p1, w1, w2, convD, cells_int, z25', build25, build25_t0, splice, hloop]; rfl⟩
  · have w1 : IntKind.i64.wrap 5 = 5 := wrap64 (by omega) (by omega)
    simp only [lp97_1, code97, Tryz.f97, frL, stL, vB, zeroB, h00, h02] at hloop
    exact ⟨_, by simp [code97, Tryz.f97, args97, zeroB, vB, encB_len, hw, hw2, hw3, c1, c2, c3, g1, g2, t1, p1, w1, w2, convD, cells_int, z25', build25, build25_t0, splice, hloop]; rfl⟩
end Go.Vi
end

section
/- Vi: ref.load (f97) whole; ref.Load (f50). No conditions. -/
namespace Go.Vi
open Go Go.Lib Go.Proofs
set_option maxRecDepth 100000
attribute [local simp] E_skip E_ret E_exit E_text E_draw E_seq E_cond E_block E_scope E_loop runOps runOp runDraw runVF runV finV gate FlOK wantD exec fin opd look putF norm constD constC fieldAddrD loadD storeD opCall lenD binD isShift intP strP numD indexAddrD indexD D.pd? D.pds? cells_enc sub capsOf callD argsD argD D.nf enc_agg unP box_enc cellD mkF H00 st1 cD_agg cD_pagg cD_int cD_bool cD_str cD_sl cD_lit cD_own

theorem fin97z (H : Hp) (B : List Blk) (A : List Arr) : alone H (fnOut Tryz.prog [.cell 8 25, .tmp 9, .tmp 10] 0 0 (some (.ret, [(8, .ptr 0 0), (9, .p (.int .i64 (-1))), (10, .p (.int .i64 0))], ⟨zeroB :: B, A⟩))) = some (.ret (.tup (out97 none)), H) := by
  rw [out97, enc_zero]
  simp [fnOut, retOut, resD, look, retsD, retD, argD, D.nf, D.pd?, oneD, D.noRefs, D.noRef, alone, Hp.cut, zeroB]
theorem fin97l (H : Hp) (k e q : Int) (B : List Blk) : alone H (fnOut Tryz.prog [.cell 8 25, .tmp 9, .tmp 10] 0 0 (some (.ret, [(8, .ptr 0 0), (9, .p (.int .i64 e)), (10, .p (.int .i64 q))], ⟨vB k (.lit true []) :: B, []⟩))) =
    some (.ret (.tup [.p (enc (.mk k 0 ⟨#[]⟩ [])), .p (.int .i64 e), .p (.int .i64 q)]), H) := by
  rw [enc_eq]
  simp [fnOut, retOut, resD, look, retsD, retD, argD, D.nf, D.pd?, oneD, D.noRefs, D.noRef, alone, Hp.cut, vB, k_mk, n_mk, t_mk, ps_mk]
theorem fin97o (H : Hp) (k e q : Int) (m : Nat) (acc : List Val) (B : List Blk) : alone H (fnOut Tryz.prog [.cell 8 25, .tmp 9, .tmp 10] 0 0 (some (.ret, [(8, .ptr 0 0), (9, .p (.int .i64 e)), (10, .p (.int .i64 q))], ⟨vB k (.own 0 m) :: B, [rowL m acc]⟩))) =
    some (.ret (.tup [.p (enc (.mk k 0 ⟨#[]⟩ acc)), .p (.int .i64 e), .p (.int .i64 q)]), H) := by
  rw [enc_eq]
  simp [fnOut, retOut, resD, look, retsD, retD, argD, D.nf, D.pd?, oneD, D.noRefs, D.noRef, alone, Hp.cut, vB, rowL, Hp.live, k_mk, n_mk, t_mk, ps_mk]

theorem load97_W (b : List UInt8) (hb : b.length ≤ 1000) : ∀ (d : Nat), d ≤ 50 → ∀ (f : Nat) (left : Int), f ≤ 1000 → left ≤ 1000 → ∀ H : Hp,
    W 97 [.p (.sl (encB b)), .p (.int .i64 f), .p (.int .i64 d), .p (.int .i64 left)] H = some (.ret (.tup (out97 (rload b d f left))), H) := by
  intro d
  induction d with
  | zero =>
    intro _ f left hf hl H
    obtain ⟨B, key⟩ := load97_fail b f 0 left hb (by omega) (.inr (.inl (by omega)))
    refine W97_of rfl (by simp) ?_
    have e := fin97z H B []
    rw [← key] at e
    exact e
  | succ d ih =>
    intro hd f left hf hl H
    refine W97_of rfl (by simp) ?_
    have hd1 : (1 : Int) ≤ ((d + 1 : Nat) : Int) := by omega
    show alone H (fnOut Tryz.prog [.cell 8 25, .tmp 9, .tmp 10] 0 0 (E false ⟨0, 0⟩ 97 code97 (mkF 0 (args97 b f ((d + 1 : Nat) : Int) left)) H00)) = _
    unfold rload
    by_cases h1 : b.length ≤ f + 1 ∨ left < 1
    · rw [if_pos h1]
      obtain ⟨B, key⟩ := load97_fail b f ((d + 1 : Nat) : Int) left hb (by omega) (by rcases h1 with h | h; exact .inl h; exact .inr (.inr h))
      rw [key, fin97z]
    rw [if_neg h1]
    have h2 : f + 1 < b.length := by omega
    have h3 : 1 ≤ left := by omega
    have bd := byI_bd b (f + 1)
    have hn : byI b (f + 1) = (((byI b (f + 1)).toNat : Nat) : Int) := by omega
    have hn2 : (byI b (f + 1)).toNat ≤ 255 := by omega
    by_cases k1 : byI b f = 1
    · rw [if_pos k1]
      by_cases h5 : b.length < f + 5
      · rw [if_pos h5]
        obtain ⟨B, key⟩ := load97_short b f ((d + 1 : Nat) : Int) left hb h2 hd1 h3 hl k1 h5
        rw [key, fin97z]
      · rw [if_neg h5]
        obtain ⟨B, key⟩ := load97_int b f ((d + 1 : Nat) : Int) left hb h2 hd1 h3 hl k1 (by omega)
        rw [key, fin97]
        simp [out97]
    rw [if_neg k1]
    by_cases k2 : byI b f = 2
    · rw [if_pos k2]
      obtain ⟨B, key⟩ := load97_bool b f ((d + 1 : Nat) : Int) left hb h2 hd1 h3 hl k2
      rw [key]
      have : fnOut Tryz.prog [.cell 8 25, .tmp 9, .tmp 10] 0 0 (some (.ret, [(8, .ptr 0 0), (9, .p (.int .i64 (f + 2))), (10, .p (.int .i64 (left - 1)))], ⟨.cells [.p (.int .i64 2), .p (.int .i64 (byI b (f + 1))), .p (.str ⟨#[]⟩), .lit true []] :: B, []⟩)) =
        fnOut Tryz.prog [.cell 8 25, .tmp 9, .tmp 10] 0 0 (some (.ret, [(8, .ptr 0 0), (9, .p (.int .i64 (f + 2))), (10, .p (.int .i64 (left - 1)))], ⟨box25 (.mk 2 (byI b (f + 1)) ⟨#[]⟩ []) :: B, []⟩)) := by
        simp [fnOut, retOut, resD, look, retsD, retD, argD, D.nf, D.pd?, oneD, D.noRefs, D.noRef, Hp.cut, box25, k_mk, n_mk, t_mk, ps_mk]
      rw [this, fin97]
      simp [out97]
    rw [if_neg k2]
    by_cases k3 : byI b f = 3
    · rw [if_pos k3]
      by_cases h5 : b.length < f + 2 + (byI b (f + 1)).toNat
      · rw [if_pos h5]
        obtain ⟨B, key⟩ := load97_tshort b f _ ((d + 1 : Nat) : Int) left hb h2 hd1 h3 hl k3 hn h5 hn2
        rw [key, fin97z]
      · rw [if_neg h5]
        obtain ⟨B, key⟩ := load97_text b f _ ((d + 1 : Nat) : Int) left hb h2 hd1 h3 hl k3 hn (by omega)
        rw [key, fin97]
        simp [out97]
    rw [if_neg k3]
    by_cases k45 : byI b f = 4 ∨ byI b f = 5
    · rw [if_pos k45]
      have hrec : ∀ (a : Nat) (l : Int), (a ≤ 1000 ∧ l ≤ 1000) → ∀ H, W 97 [.p (.sl (encB b)), .p (.int .i64 a), .p (.int .i64 (((d + 1 : Nat) : Int) - 1)), .p (.int .i64 l)] H = some (.ret (.tup (out97 (rload b d a l))), H) := fun a l h H => by
        rw [show (((d + 1 : Nat) : Int) - 1) = (d : Int) by omega]
        exact ih (by omega) a l h.1 h.2 H
      rcases loopL_ok b ((d + 1 : Nat) : Int) (byI b (f + 1)).toNat (byI b f) hn2 (by omega) (by omega) (rload b d) (fun a l => a ≤ 1000 ∧ l ≤ 1000)
        (fun a l x nx rest hq hr => by have := rload_bd b d a l x nx rest hr; omega) hrec (byI b (f + 1)).toNat 0 (f + 2) (left - 1) [] (frL b ((d + 1 : Nat) : Int) (left - 1) (byI b (f + 1)).toNat (f + 2) 0)
        (stL (byI b f) (.lit true []) [] []) rfl (Nat.zero_le _) rfl ⟨by omega, by omega⟩ (.inl ⟨rfl, [], rfl⟩) rfl with ⟨ps, e, q, H1, hl1, hloop, hI⟩ | ⟨hl1, B0, A, hloop⟩
      · rw [hl1]
        rw [List.nil_append] at hI
        rcases hI with ⟨h0, G, rfl⟩ | ⟨h0, m, G, rfl⟩
        · obtain ⟨B, key⟩ := load97_list b f _ (byI b f) ((d + 1 : Nat) : Int) left k45 hb h2 hd1 h3 hl rfl hn hn2 _ hloop e q (.lit true []) G [] (.inl rfl) rfl
          rw [key, fin97l, h0]
          rfl
        · obtain ⟨B, key⟩ := load97_list b f _ (byI b f) ((d + 1 : Nat) : Int) left k45 hb h2 hd1 h3 hl rfl hn hn2 _ hloop e q (.own 0 m) G [rowL m ps] (.inr ⟨m, rfl⟩) rfl
          rw [key, fin97o]
          rfl
      · rw [hl1]
        obtain ⟨B, key⟩ := load97_lfail b f _ (byI b f) ((d + 1 : Nat) : Int) left k45 hb h2 hd1 h3 hl rfl hn hn2 B0 A hloop
        rw [key, fin97z]
    rw [if_neg k45]
    obtain ⟨B, key⟩ := load97_other b f ((d + 1 : Nat) : Int) left hb h2 hd1 h3 hl k1 k2 k3 (fun h => k45 (.inl h)) (fun h => k45 (.inr h))
    rw [key, fin97z]
end Go.Vi
end

section
/- Vi: ref.Valid (f19) of any value with texts of a size; ref.Load (f50). No conditions. -/
namespace Go.Vi
open Go Go.Lib Go.Proofs
set_option maxRecDepth 100000
attribute [local simp] E_skip E_ret E_exit E_text E_draw E_seq E_cond E_block E_scope E_loop runOps runOp runDraw runVF runV finV gate FlOK wantD exec fin opd look putF norm constD constC fieldAddrD loadD storeD opCall lenD binD isShift intP strP numD indexAddrD indexD D.pd? D.pds? cells_enc sub capsOf callD argsD argD D.nf enc_agg unP box_enc cellD mkF H00 st1 cD_agg cD_pagg cD_int cD_bool cD_str cD_sl cD_lit cD_own

mutual
def Val.txt : Val → Prop
  | .mk _ _ t ps => t.size ≤ 1000000 ∧ txts ps
def txts : List Val → Prop
  | [] => True
  | v :: r => v.txt ∧ txts r
end
mutual
theorem shapedT_W : ∀ v : Val, v.fine → v.txt → Shp75 v
  | .mk k n t ps, h, hb => shaped_step (.mk k n t ps) h.1 (by have := hb.1; simp only [Val.t]; omega) (shapedsT_W ps h.2 hb.2) (cmps_W ps h.2)
theorem shapedsT_W : ∀ l : List Val, fines l → txts l → ∀ u ∈ l, Shp75 u
  | [], _, _, u, hu => by cases hu
  | v :: r, h, hb, u, hu => by
    rcases List.mem_cons.1 hu with e | hu
    · rw [e]; exact shapedT_W v h.1 hb.1
    · exact shapedsT_W r h.2 hb.2 u hu
end

theorem validT_W (v : Val) (hs : v.fine) (hb : v.txt) (H : Hp) : W 19 [.p (enc v)] H = some (.ret (.p (.bool v.valid)), H) := by
  refine W19_of rfl (by simp) ?_
  have h1 := fun H => rec63 8 (by omega) v 200 H (by omega) (by omega)
  have h2' : ∀ H, W 75 [.p (enc v)] H = some (.ret (.p (.bool v.shaped)), H) := shapedT_W v hs hb
  have key : E false ⟨0, 0⟩ 19 code19 (mkF 0 [.p (enc v)]) H00 = some (.ret, [(2, .p (.bool v.valid))], st1 v) := by
    by_cases hw : 0 ≤ v.weigh 200 8
    · simp [code19, Tryz.f19, h1, h2', hw, Val.valid]
    · simp [code19, Tryz.f19, h1, hw, Val.valid]
  rw [key]
  simp [fnOut, retOut, resD, retsD, retD, oneD, D.noRefs, D.noRef, alone, Hp.cut]

theorem loads_all (r : Nat → Int → Option (Val × Nat × Int)) (Q : Val → Prop) (h : ∀ a l x nx rest, r a l = some (x, nx, rest) → Q x) : ∀ (m a : Nat) (l : Int) (ps : List Val) (e : Nat) (q : Int), loads r m a l = some (ps, e, q) → ps.length = m ∧ ∀ u ∈ ps, Q u
  | 0, a, l, ps, e, q, h0 => by simp only [loads, Option.some.injEq, Prod.mk.injEq] at h0; obtain ⟨rfl, _⟩ := h0; exact ⟨rfl, by simp⟩
  | m + 1, a, l, ps, e, q, h0 => by
    simp only [loads] at h0
    cases hr : r a l with
    | none => rw [hr] at h0; cases h0
    | some p =>
      obtain ⟨x, nx, rest⟩ := p
      rw [hr] at h0
      simp only at h0
      cases hl2 : loads r m nx rest with
      | none => rw [hl2] at h0; cases h0
      | some p2 =>
        obtain ⟨ps2, e2, q2⟩ := p2
        rw [hl2] at h0
        simp only [Option.some.injEq, Prod.mk.injEq] at h0
        obtain ⟨i1, i2⟩ := loads_all r Q h m nx rest ps2 e2 q2 hl2
        obtain ⟨rfl, _⟩ := h0
        refine ⟨by simp [i1], fun u hu => ?_⟩
        rcases List.mem_cons.1 hu with e | hu
        · rw [e]; exact h a l x nx rest hr
        · exact i2 u hu

theorem fines_all : ∀ l : List Val, (∀ u ∈ l, u.fine) → fines l
  | [], _ => trivial
  | v :: r, h => ⟨h v (by simp), fines_all r fun u hu => h u (by simp [hu])⟩
theorem txts_all : ∀ l : List Val, (∀ u ∈ l, u.txt) → txts l
  | [], _ => trivial
  | v :: r, h => ⟨h v (by simp), txts_all r fun u hu => h u (by simp [hu])⟩

theorem rload_fine (b : List UInt8) : ∀ (d f : Nat) (l : Int) (v : Val) (nx : Nat) (rest : Int), rload b d f l = some (v, nx, rest) → v.fine ∧ v.txt
  | 0, f, l, v, nx, rest, h => by simp [rload] at h
  | d + 1, f, l, v, nx, rest, h => by
    have bd := byI_bd b (f + 1)
    unfold rload at h
    split at h
    · cases h
    split at h
    · split at h
      · cases h
      · simp only [Option.some.injEq, Prod.mk.injEq] at h
        rw [← h.1]; simp [Val.fine, fines, Val.txt, txts, ByteArray.size]
    split at h
    · simp only [Option.some.injEq, Prod.mk.injEq] at h
      rw [← h.1]; simp [Val.fine, fines, Val.txt, txts, ByteArray.size]
    split at h
    · split at h
      · cases h
      · simp only [Option.some.injEq, Prod.mk.injEq] at h
        rw [← h.1]; simp [Val.fine, fines, Val.txt, txts, ByteArray.size]; omega
    split at h
    · cases hl : loads (rload b d) (byI b (f + 1)).toNat (f + 2) (l - 1) with
      | none => rw [hl] at h; cases h
      | some p =>
        obtain ⟨ps, e, q⟩ := p
        rw [hl] at h
        simp only [Option.some.injEq, Prod.mk.injEq] at h
        obtain ⟨i1, i2⟩ := loads_all (rload b d) (fun u => u.fine ∧ u.txt) (fun a l' x nx rest hr => rload_fine b d a l' x nx rest hr) _ _ _ _ _ _ hl
        rw [← h.1]
        exact ⟨⟨by omega, fines_all ps fun u hu => (i2 u hu).1⟩, ⟨by simp [ByteArray.size], txts_all ps fun u hu => (i2 u hu).2⟩⟩
    · cases h

/-- What ref.Load answers. -/
def rLoad (b : List UInt8) : Option Val :=
  match rload b 8 0 200 with
  | some (v, e, _) => if e = b.length ∧ v.valid = true then some v else none
  | none => none

theorem load50_W (b : List UInt8) (hb : b.length ≤ 1000) (H : Hp) : W 50 [.p (.sl (encB b))] H =
    some (.ret (.tup (match rLoad b with | some v => [.p (enc v), .p (.bool true)] | none => [.p (enc Val.zero), .p (.bool false)])), H) := by
  refine W50_of rfl (by simp) ?_
  have h97 := fun H => load97_W b hb 8 (by omega) 0 200 (by omega) (by omega) H
  have h00 : ((0 : Nat) : Int) = 0 := rfl
  have h08 : ((8 : Nat) : Int) = 8 := rfl
  rw [h00, h08] at h97
  have fin1 : ∀ (v : Val) (x : Bool) (B : List Blk), alone H (fnOut Tryz.prog [.cell 2 25, .tmp 3] 0 0 (some (.ret, [(2, .ptr 0 0), (3, .p (.bool x))], ⟨box25 v :: B, []⟩))) = some (.ret (.tup [.p (enc v), .p (.bool x)]), H) := fun v x B => by
    rw [enc_eq v]
    simp [fnOut, retOut, resD, look, retsD, retD, argD, D.nf, D.pd?, oneD, D.noRefs, D.noRef, alone, Hp.cut, box25]
  have finz : ∀ (B : List Blk), alone H (fnOut Tryz.prog [.cell 2 25, .tmp 3] 0 0 (some (.ret, [(2, .ptr 0 0), (3, .p (.bool false))], ⟨zeroB :: B, []⟩))) = some (.ret (.tup [.p (enc Val.zero), .p (.bool false)]), H) := fun B => by
    rw [enc_zero]
    simp [fnOut, retOut, resD, look, retsD, retD, argD, D.nf, D.pd?, oneD, D.noRefs, D.noRef, alone, Hp.cut, zeroB]
  unfold rLoad
  cases hr : rload b 8 0 200 with
  | none =>
    rw [hr] at h97
    simp only [out97] at h97
    have hne : ¬ (-1 : Int) = (b.length : Int) := by omega
    have key : ∃ B, E false ⟨0, 0⟩ 50 code50 (mkF 0 [.p (.sl (encB b))]) H00 = some (.ret, [(2, .ptr 0 0), (3, .p (.bool false))], ⟨zeroB :: B, []⟩) :=
      ⟨_, by simp [code50, Tryz.f50, h97, encB_len, hne, zeroB, z25', build25, splice]; rfl⟩
    obtain ⟨B, key⟩ := key
    rw [key, finz]
  | some p =>
    obtain ⟨v, e, q⟩ := p
    rw [hr] at h97
    simp only [out97] at h97
    obtain ⟨hf, ht⟩ := rload_fine b 8 0 200 v e q hr
    have h19 := fun H => validT_W v hf ht H
    by_cases he : e = b.length
    · have he' : (e : Int) = b.length := by omega
      rw [he'] at h97
      cases hv : v.valid with
      | false =>
        rw [hv] at h19
        have key : ∃ B, E false ⟨0, 0⟩ 50 code50 (mkF 0 [.p (.sl (encB b))]) H00 = some (.ret, [(2, .ptr 0 0), (3, .p (.bool false))], ⟨zeroB :: B, []⟩) :=
          ⟨_, by simp [code50, Tryz.f50, h97, encB_len, h19, zeroB, z25', build25, splice]; rfl⟩
        obtain ⟨B, key⟩ := key
        rw [key, finz]
        simp [hv]
      | true =>
        rw [hv] at h19
        have key : ∃ B, E false ⟨0, 0⟩ 50 code50 (mkF 0 [.p (.sl (encB b))]) H00 = some (.ret, [(2, .ptr 0 0), (3, .p (.bool true))], ⟨box25 v :: B, []⟩) :=
          ⟨_, by simp [code50, Tryz.f50, h97, encB_len, h19, box25, z25', build25, splice]; rfl⟩
        obtain ⟨B, key⟩ := key
        rw [key, fin1]
        simp [hv, he]
    · have he' : ¬ (e : Int) = b.length := by omega
      have key : ∃ B, E false ⟨0, 0⟩ 50 code50 (mkF 0 [.p (.sl (encB b))]) H00 = some (.ret, [(2, .ptr 0 0), (3, .p (.bool false))], ⟨zeroB :: B, []⟩) :=
        ⟨_, by simp [code50, Tryz.f50, h97, encB_len, he', he, zeroB, z25', build25, splice]; rfl⟩
      obtain ⟨B, key⟩ := key
      rw [key, finz]
      simp [he]
end Go.Vi
end

section
/- Vi: value.packed (f92), value.Bytes (f46), slices.Equal (f95). No conditions. -/
namespace Go.Vi
open Go Go.Lib Go.Proofs
set_option maxRecDepth 100000
attribute [local simp] E_skip E_ret E_exit E_text E_draw E_seq E_cond E_block E_scope E_loop runOps runOp runDraw runVF runV finV gate FlOK wantD exec fin opd look putF norm constD constC fieldAddrD loadD storeD opCall lenD binD isShift intP strP numD indexAddrD indexD D.pd? D.pds? cells_enc sub capsOf callD argsD argD D.nf enc_agg unP box_enc cellD mkF H00 st1 cD_agg cD_pagg cD_int cD_bool cD_str cD_sl cD_lit cD_own

def encU (l : List Int) : List PD := l.map (PD.int .u8)
theorem fit_u (l : List Int) : fits 1 (encU l) = true := by simp [fits, encU, one_int, cells_int]
theorem encU_len (l : List Int) : (encU l).length = l.length := by simp [encU]
def ba (t : ByteArray) : List Int := t.data.toList.map fun c => (c.toNat : Int)
def num4 (m : Int) : List Int := [m / 16777216 % 256, m / 65536 % 256, m / 256 % 256, m % 256]

mutual
def pk : Val → List Int
  | .mk k n t ps =>
    if k = 1 then 1 :: num4 (n + 1000000000)
    else if k = 2 then [2, n]
    else if k = 3 then 3 :: (t.size : Int) :: ba t
    else k :: (ps.length : Int) :: pks ps
def pks : List Val → List Int
  | [] => []
  | v :: r => pk v ++ pks r
end
theorem zok5 : zOK Tryz.prog 5 1 = true := by kernel_rfl
theorem z5 : zeroOf Tryz.prog 5 = some (.int .u8 0) := by kernel_rfl
theorem u8w {x : Int} (h : 0 ≤ x) (h2 : x ≤ 255) : IntKind.u8.wrap x = x := by simp [IntKind.wrap, IntKind.bits, IntKind.signed]; omega
theorem u8m (x : Int) : IntKind.u8.wrap x = x % 256 := by simp [IntKind.wrap, IntKind.bits, IntKind.signed]
theorem u32w {x : Int} (h : 0 ≤ x) (h2 : x ≤ 4294967295) : IntKind.u32.wrap x = x := by simp [IntKind.wrap, IntKind.bits, IntKind.signed]; omega

def fin92 (H : Hp) (B : List Blk) (A : List Arr) (m : Nat) (l : List Int) : Prop := alone H (fnOut Tryz.prog [.tmp 2] 0 0 (some (.ret, [(2, .own 1 m)], ⟨B, A⟩))) = some (.ret (.p (.sl (encU l))), H)

theorem pack_int (n : Int) (h1 : -1000000000 ≤ n) (h2 : n ≤ 1000000000) (v : Val) (hv : v.k = 1) (hk : v.kind = .ifc 119 (.agg [.int .i64 n])) :
    ∃ B, E false ⟨0, 0⟩ 92 code92 (mkF 0 [.p (enc v)]) H00 = some (.ret, [(2, .own 1 0)], ⟨B, [⟨0, 5, 1, true, true, []⟩, ⟨0, 5, 1, false, true, encU (1 :: num4 (n + 1000000000))⟩]⟩) := by
  have h117 := fun H => of_W v H
  rw [hk] at h117
  have w1 : IntKind.u8.wrap v.k = 1 := by rw [hv]; exact u8w (by omega) (by omega)
  have w2 : IntKind.i64.wrap (n + 1000000000) = n + 1000000000 := wrap64 (by omega) (by omega)
  have w3 : IntKind.u32.wrap (n + 1000000000) = n + 1000000000 := u32w (by omega) (by omega)
  have s1 : ∀ q : Nat, q ≤ 31 → shiftP .shr .u32 (n + 1000000000) q = some (.int .u32 ((n + 1000000000) / (2 ^ q : Int))) := fun q hq => by
    simp only [shiftP, IntKind.bits]
    rw [if_neg (by omega), Int.fdiv_eq_ediv_of_nonneg _ (by exact_mod_cast Nat.zero_le _)]
    simp
    rw [Nat.min_eq_left (by omega)]
  obtain ⟨_, s119⟩ := us119
  have s24 : shiftP .shr .u32 (n + 1000000000) 24 = some (.int .u32 ((n + 1000000000) / 16777216)) := by have := s1 24 (by omega); simpa using this
  have s16 : shiftP .shr .u32 (n + 1000000000) 16 = some (.int .u32 ((n + 1000000000) / 65536)) := by have := s1 16 (by omega); simpa using this
  have s8 : shiftP .shr .u32 (n + 1000000000) 8 = some (.int .u32 ((n + 1000000000) / 256)) := by have := s1 8 (by omega); simpa using this
  exact ⟨_, by simp [code92, Tryz.f92, h117, assertD, s119, w1, w2, w3, s24, s16, s8, convD, z119, z5, zok5, splice, buildSliceD, elsD, one_int, cells_int, appendD, srcD, Hp.live, newRow, encU, num4, u8m, fits]; rfl⟩

theorem pack_bool (n : Int) (h1 : 0 ≤ n) (h2 : n ≤ 1) (v : Val) (hv : v.k = 2) (hk : v.kind = .ifc 120 (.agg [.int .i64 n])) :
    ∃ B, E false ⟨0, 0⟩ 92 code92 (mkF 0 [.p (enc v)]) H00 = some (.ret, [(2, .own 1 0)], ⟨B, [⟨0, 5, 1, true, true, []⟩, ⟨0, 5, 1, false, true, encU [2, n]⟩]⟩) := by
  have h117 := fun H => of_W v H
  rw [hk] at h117
  have w1 : IntKind.u8.wrap v.k = 2 := by rw [hv]; exact u8w (by omega) (by omega)
  have w2 : IntKind.u8.wrap n = n := u8w (by omega) (by omega)
  obtain ⟨_, s119⟩ := us119
  obtain ⟨_, s120⟩ := us120
  exact ⟨_, by simp [code92, Tryz.f92, h117, assertD, s119, s120, w1, w2, convD, z119, z120, z5, zok5, splice, buildSliceD, elsD, one_int, cells_int, appendD, srcD, Hp.live, newRow, encU, fits]; rfl⟩

theorem ba_len (t : ByteArray) : (ba t).length = t.size := by rw [ba, List.length_map]; rfl
theorem all_true {α : Type} (a : Array α) : a.all (fun _ => true) = true := by simp
theorem pack_text (t : ByteArray) (ht : t.size ≤ 255) (v : Val) (hv : v.k = 3) (hk : v.kind = .ifc 123 (.agg [.str t])) :
    ∃ B, E false ⟨0, 0⟩ 92 code92 (mkF 0 [.p (enc v)]) H00 = some (.ret, [(2, .own 1 1)], ⟨B, [⟨0, 5, 1, true, true, []⟩, ⟨1, 5, 1, false, true, encU (3 :: (t.size : Int) :: ba t)⟩]⟩) := by
  have h117 := fun H => of_W v H
  rw [hk] at h117
  have w1 : IntKind.u8.wrap v.k = 3 := by rw [hv]; exact u8w (by omega) (by omega)
  have w2 : IntKind.u8.wrap (t.size : Int) = t.size := u8w (by omega) (by omega)
  obtain ⟨_, s119⟩ := us119
  obtain ⟨_, s120⟩ := us120
  obtain ⟨_, s123⟩ := us123
  have hb : (2 + t.size) ≤ 140737488355328 := by omega
  have hall : t.data.all (fun _ => true) 0 t.size = true := all_true t.data
  exact ⟨_, by simp [code92, Tryz.f92, h117, assertD, s119, s120, s123, w1, w2, convD, z119, z120, z123, z5, zok5, splice, buildSliceD, elsD, one_int, cells_int, appendD, srcD, Hp.live, newRow, encU, ba, fits, hb, hall]; rfl⟩
end Go.Vi
end

section
/- Vi: value.packed (f92) whole, value.Bytes (f46), slices.Equal (f95). No conditions. -/
namespace Go.Vi
open Go Go.Lib Go.Proofs
set_option maxRecDepth 100000
attribute [local simp] E_skip E_ret E_exit E_text E_draw E_seq E_cond E_block E_scope E_loop runOps runOp runDraw runVF runV finV gate FlOK wantD exec fin opd look putF norm constD constC fieldAddrD loadD storeD opCall lenD binD isShift intP strP numD indexAddrD indexD D.pd? D.pds? cells_enc sub capsOf callD argsD argD D.nf enc_agg unP box_enc cellD mkF H00 st1 cD_agg cD_pagg cD_int cD_bool cD_str cD_sl cD_lit cD_own

theorem pks_app : ∀ a b : List Val, pks (a ++ b) = pks a ++ pks b
  | [], b => rfl
  | v :: r, b => by simp [pks, pks_app r b]
theorem pks_take (l : List Val) (i : Nat) (h : i < l.length) : pks (l.take (i + 1)) = pks (l.take i) ++ pk l[i] := by
  rw [List.take_succ_eq_append_getElem h, pks_app]; simp [pks]
theorem pks_take_len (l : List Val) (i : Nat) : (pks (l.take i)).length ≤ (pks l).length := by
  have h := pks_app (l.take i) (l.drop i)
  rw [List.take_append_drop] at h
  rw [h, List.length_append]; omega

def rb0 : Arr := ⟨0, 5, 1, true, true, []⟩
def rowB (m : Nat) (l : List Int) : Arr := ⟨m, 5, 1, false, true, encU l⟩
def fr92 (ps : List Val) (i : Nat) : Fr := [(3, .own 1 i), (67, .p (.sl (ps.map enc))), (68, .p (.int .i64 ps.length)), (69, .p (.int .i64 i))]
def st92 (v : Val) (ex : List Blk) (i : Nat) (l : List Int) : Hp := ⟨box25 v :: ex, [rb0, rowB i l]⟩

theorem body92_end (v : Val) (ps : List Val) (l : List Int) : E false ⟨0, 0⟩ 92 lp92_0 (fr92 ps ps.length) (st92 v [] ps.length l) = some (.exit 1, fr92 ps ps.length ++ [(70, .p (.bool false))], st92 v [] ps.length l) := by
  simp [fr92, st92, lp92_0, code92, Tryz.f92]

theorem body92_step (v : Val) (ps : List Val) (i : Nat) (l q : List Int) (hlt : i < ps.length) (hlen : ps.length ≤ 1000000) (hb : l.length + q.length ≤ 100000000)
    (hr : ∀ H, W 92 [.p (enc ps[i])] H = some (.ret (.p (.sl (encU q))), H)) :
    E false ⟨0, 0⟩ 92 lp92_0 (fr92 ps i) (st92 v [] i l) = some (.normal, fr92 ps (i + 1), st92 v [box25 ps[i]] (i + 1) (l ++ q)) := by
  have hw : IntKind.i64.wrap ((i : Int) + 1) = (i : Int) + 1 := wrap64 (by omega) (by omega)
  have hby : l.length + q.length ≤ 140737488355328 := by omega
  have e : encU (l ++ q) = encU l ++ encU q := by simp [encU]
  have fu := fit_u q
  simp [fr92, st92, rb0, rowB, box25, lp92_0, code92, Tryz.f92, hlt, hw, hr, z25', zok5, splice, appendD, srcD, Hp.live, encU_len, hby, e, fu]

theorem cut92 (v : Val) (ex : List Blk) (ps : List Val) (i : Nat) (l : List Int) (F : Fr) (hF : norm [3, 67, 68, 69] F = fr92 ps i) : cutD ⟨0, 0⟩ [3, 67, 68, 69] 1 2 F (st92 v ex i l) = some (fr92 ps i, st92 v [] i l) := by
  simp only [cutD, hF]
  simp [fr92, st92, box25, frNo, blkNo, D.noRefs, D.noRef, Hp.cut]

theorem loop92_ok (v : Val) (ps : List Val) (l0 : List Int) (hlen : ps.length ≤ 1000000) (hb : l0.length + (pks ps).length ≤ 100000000) (hrec : ∀ u ∈ ps, ∀ H, W 92 [.p (enc u)] H = some (.ret (.p (.sl (encU (pk u)))), H)) :
    ∀ (m i : Nat) (F : Fr) (ex : List Blk), m = ps.length - i → i ≤ ps.length → norm [3, 67, 68, 69] F = fr92 ps i →
    loopO false ⟨0, 0⟩ 92 lp92_0 1 2 F (st92 v ex i (l0 ++ pks (ps.take i))) = some (.exit 1, fr92 ps ps.length ++ [(70, .p (.bool false))], st92 v [] ps.length (l0 ++ pks ps)) := by
  intro m
  induction m with
  | zero =>
    intro i F ex hm hi hF
    have hie : i = ps.length := by omega
    subst hie
    rw [loopO_eq, hd92_0, cut92 v ex ps _ _ F hF]
    simp only [body92_end, List.take_length]
  | succ m ih =>
    intro i F ex hm hi hF
    have hlt : i < ps.length := by omega
    rw [loopO_eq, hd92_0, cut92 v ex ps _ _ F hF]
    have hbd : (l0 ++ pks (ps.take i)).length + (pk ps[i]).length ≤ 100000000 := by
      have h1 := pks_take ps i hlt
      have h2 := pks_take_len ps (i + 1)
      rw [h1, List.length_append] at h2
      rw [List.length_append]; omega
    simp only [body92_step v ps i _ _ hlt hlen hbd (hrec ps[i] (List.getElem_mem hlt))]
    rw [List.append_assoc, ← pks_take ps i hlt]
    exact ih (i + 1) (fr92 ps (i + 1)) _ (by omega) (by omega) rfl

theorem pack_list (v : Val) (T : TypeId) (k : Int) (hkT : (k = 4 ∧ T = 125) ∨ (k = 5 ∧ T = 144)) (hv : v.k = k) (hk : v.kind = .ifc T (.agg [.sl (v.ps.map enc)])) (hlen : v.ps.length ≤ 255) (hb : (pks v.ps).length ≤ 10000000)
    (hrec : ∀ u ∈ v.ps, ∀ H, W 92 [.p (enc u)] H = some (.ret (.p (.sl (encU (pk u)))), H)) :
    E false ⟨0, 0⟩ 92 code92 (mkF 0 [.p (enc v)]) H00 = some (.ret, [(2, .own 1 v.ps.length)], st92 v [] v.ps.length ([k, (v.ps.length : Int)] ++ pks v.ps)) := by
  have h117 := fun H => of_W v H
  rw [hk] at h117
  have w2 : IntKind.u8.wrap (v.ps.length : Int) = v.ps.length := u8w (by omega) (by omega)
  obtain ⟨_, s119⟩ := us119
  obtain ⟨_, s120⟩ := us120
  obtain ⟨_, s123⟩ := us123
  obtain ⟨_, s125⟩ := us125
  obtain ⟨_, s144⟩ := us144
  have hloop := loop92_ok v v.ps [k, (v.ps.length : Int)] (by omega) (by simp; omega) hrec v.ps.length 0 (fr92 v.ps 0) [] rfl (Nat.zero_le _) rfl
  have h00 : ((0 : Nat) : Int) = 0 := rfl
  have hn : pks [] = [] := rfl
  have eu : encU [k, (v.ps.length : Int)] = [.int .u8 k, .int .u8 v.ps.length] := rfl
  simp only [List.take_zero, hn, List.append_nil] at hloop
  rcases hkT with ⟨rfl, rfl⟩ | ⟨rfl, rfl⟩
  · have w1 : IntKind.u8.wrap v.k = 4 := by rw [hv]; exact u8w (by omega) (by omega)
    simp only [lp92_0, code92, Tryz.f92, fr92, st92, rb0, rowB, box25, h00, eu] at hloop
    simp [code92, Tryz.f92, st92, box25, rb0, rowB, h117, assertD, s119, s120, s123, s125, w1, w2, convD, z119, z120, z123, z5, zok5, splice, buildSliceD, elsD, one_int, cells_int, appendD, srcD, Hp.live, newRow, fits, hloop]
  · have w1 : IntKind.u8.wrap v.k = 5 := by rw [hv]; exact u8w (by omega) (by omega)
    simp only [lp92_0, code92, Tryz.f92, fr92, st92, rb0, rowB, box25, h00, eu] at hloop
    simp [code92, Tryz.f92, st92, box25, rb0, rowB, h117, assertD, s119, s120, s123, s144, w1, w2, convD, z119, z120, z123, z5, zok5, splice, buildSliceD, elsD, one_int, cells_int, appendD, srcD, Hp.live, newRow, fits, hloop]

theorem shaped_cases {v : Val} (h : v.shaped = true) : (v.k = 1 ∧ -1000000000 ≤ v.n ∧ v.n ≤ 1000000000 ∧ v.t = ⟨#[]⟩ ∧ v.ps = []) ∨ (v.k = 2 ∧ 0 ≤ v.n ∧ v.n ≤ 1 ∧ v.t = ⟨#[]⟩ ∧ v.ps = []) ∨
    (v.k = 3 ∧ v.n = 0 ∧ letters v.t = true ∧ v.t.size ≤ 20 ∧ v.ps = []) ∨ (v.k = 4 ∧ v.n = 0 ∧ v.t = ⟨#[]⟩ ∧ 2 ≤ v.ps.length ∧ v.ps.length ≤ 6) ∨ (v.k = 5 ∧ v.n = 0 ∧ v.t = ⟨#[]⟩ ∧ sortedL v.ps = true) := by
  rw [shaped_eq, Bool.and_eq_true] at h
  have ho := h.2
  have empty : v.ps.length = 0 → v.ps = [] := List.eq_nil_of_length_eq_zero
  by_cases h1 : v.k = 1
  · simp only [own75, h1, if_true, inB, Bool.and_eq_true, decide_eq_true_eq] at ho
    exact .inl ⟨h1, ho.1.1.1, ho.1.1.2, ho.1.2, empty ho.2⟩
  by_cases h2 : v.k = 2
  · simp only [own75, h2, if_true, inB, Bool.and_eq_true, decide_eq_true_eq] at ho
    simp at ho
    exact .inr (.inl ⟨h2, ho.1.1.1, ho.1.1.2, ho.1.2, ho.2⟩)
  by_cases h3 : v.k = 3
  · simp only [own75, h3, if_true, Bool.and_eq_true, decide_eq_true_eq] at ho
    simp at ho
    refine .inr (.inr (.inl ⟨h3, ho.1.1, ho.1.2, ?_, ho.2⟩))
    have := ho.1.2
    simp only [letters, Bool.and_eq_true, decide_eq_true_eq] at this
    exact this.2
  by_cases h4 : v.k = 4
  · simp only [own75, h4, if_true, inB, Bool.and_eq_true, decide_eq_true_eq] at ho
    simp at ho
    exact .inr (.inr (.inr (.inl ⟨h4, ho.1.1, ho.1.2, by omega, by omega⟩)))
  by_cases h5 : v.k = 5
  · simp only [own75, h5, if_true, Bool.and_eq_true, decide_eq_true_eq] at ho
    simp at ho
    exact .inr (.inr (.inr (.inr ⟨h5, ho.2.1, ho.2.2, ho.1⟩)))
  · simp [own75, h1, h2, h3, h4, h5] at ho

theorem pk_eq (v : Val) : pk v = if v.k = 1 then 1 :: num4 (v.n + 1000000000) else if v.k = 2 then [2, v.n] else if v.k = 3 then 3 :: (v.t.size : Int) :: ba v.t else v.k :: (v.ps.length : Int) :: pks v.ps := by
  cases v; rw [pk]; rfl

mutual
theorem pk_len : ∀ v : Val, v.shaped = true → ((pk v).length : Int) ≤ 25 * v.nodes
  | .mk k n t ps, h => by
    have hp := pks_len ps (shaped_mem h)
    have h0 := nodesL_pos ps
    have hn := nodes_eq (.mk k n t ps)
    rw [pk_eq]
    generalize (Val.mk k n t ps).nodes = N at *
    simp only [k_mk, n_mk, t_mk, ps_mk] at hn ⊢
    rcases shaped_cases h with ⟨h1, h2⟩ | ⟨h1, h2⟩ | ⟨h1, h2, _, h3, _⟩ | ⟨h1, h2⟩ | ⟨h1, h2⟩ <;> simp only [k_mk, n_mk, t_mk, ps_mk] at h1 <;> simp only [h1, if_true]
    · simp [num4]; omega
    · simp; omega
    · simp only [k_mk, n_mk, t_mk, ps_mk] at h3
      simp [ba_len]; omega
    · simp; omega
    · simp; omega
theorem pks_len : ∀ l : List Val, (∀ u ∈ l, u.shaped = true) → ((pks l).length : Int) ≤ 25 * nodesL l
  | [], _ => by simp [pks, nodesL]
  | v :: r, h => by
    have h1 := pk_len v (h v (by simp))
    have h2 := pks_len r (fun u hu => h u (by simp [hu]))
    simp only [pks, nodesL, List.length_append]
    omega
end

theorem packed_step (v : Val) (h : v.shaped = true) (hn : v.nodes ≤ 250) (hrec : ∀ u ∈ v.ps, ∀ H, W 92 [.p (enc u)] H = some (.ret (.p (.sl (encU (pk u)))), H)) (H : Hp) : W 92 [.p (enc v)] H = some (.ret (.p (.sl (encU (pk v)))), H) := by
  refine W92_of rfl (by simp) ?_
  have en := nodes_eq v
  have h0 := nodesL_len v.ps
  rw [pk_eq]
  rcases shaped_cases h with ⟨h1, h2, h3, h4, h5⟩ | ⟨h1, h2, h3, h4, h5⟩ | ⟨h1, h2, h3, h4, h5⟩ | ⟨h1, h2, h3, h4, h5⟩ | ⟨h1, h2, h3, h4⟩
  · have hk : v.kind = .ifc 119 (.agg [.int .i64 v.n]) := by simp [Val.kind, h1, h4, h5]
    obtain ⟨B, key⟩ := pack_int v.n h2 h3 v h1 hk
    rw [key, if_pos h1]
    simp [fnOut, retOut, resD, look, retsD, retD, argD, D.nf, D.pd?, oneD, D.noRefs, D.noRef, alone, Hp.cut, Hp.live]
  · have hk : v.kind = .ifc 120 (.agg [.int .i64 v.n]) := by simp [Val.kind, h1, h4, h5]
    obtain ⟨B, key⟩ := pack_bool v.n h2 h3 v h1 hk
    rw [key, if_neg (by omega), if_pos h1]
    simp [fnOut, retOut, resD, look, retsD, retD, argD, D.nf, D.pd?, oneD, D.noRefs, D.noRef, alone, Hp.cut, Hp.live]
  · have hk : v.kind = .ifc 123 (.agg [.str v.t]) := by simp [Val.kind, h1, h2, h5]
    obtain ⟨B, key⟩ := pack_text v.t (by omega) v h1 hk
    rw [key, if_neg (by omega), if_neg (by omega), if_pos h1]
    simp [fnOut, retOut, resD, look, retsD, retD, argD, D.nf, D.pd?, oneD, D.noRefs, D.noRef, alone, Hp.cut, Hp.live]
  · have hk : v.kind = .ifc 125 (.agg [.sl (v.ps.map enc)]) := by simp [Val.kind, h1, h2, h3]
    have hl := pks_len v.ps (shaped_mem h)
    rw [pack_list v 125 4 (.inl ⟨rfl, rfl⟩) h1 hk (by omega) (by omega) hrec, if_neg (by omega), if_neg (by omega), if_neg (by omega), h1]
    simp [fnOut, retOut, resD, look, retsD, retD, argD, D.nf, D.pd?, oneD, D.noRefs, D.noRef, alone, Hp.cut, Hp.live, st92, rb0, rowB]
  · have hk : v.kind = .ifc 144 (.agg [.sl (v.ps.map enc)]) := by simp [Val.kind, h1, h2, h3]
    have hl := pks_len v.ps (shaped_mem h)
    rw [pack_list v 144 5 (.inr ⟨rfl, rfl⟩) h1 hk (by omega) (by omega) hrec, if_neg (by omega), if_neg (by omega), if_neg (by omega), h1]
    simp [fnOut, retOut, resD, look, retsD, retD, argD, D.nf, D.pd?, oneD, D.noRefs, D.noRef, alone, Hp.cut, Hp.live, st92, rb0, rowB]

mutual
theorem packed_W : ∀ v : Val, v.shaped = true → v.nodes ≤ 250 → ∀ H, W 92 [.p (enc v)] H = some (.ret (.p (.sl (encU (pk v)))), H)
  | .mk k n t ps, h, hn => packed_step (.mk k n t ps) h hn (packeds_W ps (shaped_mem h) (by have := nodes_eq (.mk k n t ps); simp only [ps_mk] at this; omega))
theorem packeds_W : ∀ l : List Val, (∀ u ∈ l, u.shaped = true) → nodesL l ≤ 250 → ∀ u ∈ l, ∀ H, W 92 [.p (enc u)] H = some (.ret (.p (.sl (encU (pk u)))), H)
  | [], _, _, u, hu => by cases hu
  | v :: r, h, hn, u, hu => by
    have h1 := nodes_pos v
    have h2 := nodesL_pos r
    simp only [nodesL] at hn
    rcases List.mem_cons.1 hu with e | hu
    · rw [e]; exact packed_W v (h v (by simp)) (by omega)
    · exact packeds_W r (fun x hx => h x (by simp [hx])) (by omega) u hu
end

theorem bytes46_W (v : Val) (H : Hp) : W 46 [.p (enc v)] H = some (.ret (.tup (if v.valid = true then [.p (.sl (encU (pk v))), .p (.int .i64 0)] else [.p (.sl []), .p (.int .i64 2)])), H) := by
  refine W46_of rfl (by simp) ?_
  have h1 := fun H => valid71_W v H
  cases hv : v.valid with
  | false =>
    rw [hv] at h1
    have key : E false ⟨0, 0⟩ 46 code46 (mkF 0 [.p (enc v)]) H00 = some (.ret, [(2, .own 1 0), (3, .p (.int .i64 2))], ⟨[box25 v], [rb0, rb0]⟩) := by
      simp [code46, Tryz.f46, box25, rb0, h1, newRow]
    rw [key]
    simp [fnOut, retOut, resD, look, retsD, retD, argD, D.nf, D.pd?, oneD, D.noRefs, D.noRef, alone, Hp.cut, Hp.live, rb0]
  | true =>
    rw [hv] at h1
    have h2 := fun H => packed_W v (valid_shaped hv) (by have := (valid_fine hv).2; omega) H
    have key : ∃ A, E false ⟨0, 0⟩ 46 code46 (mkF 0 [.p (enc v)]) H00 = some (.ret, [(2, .p (.sl (encU (pk v)))), (3, .p (.int .i64 0))], ⟨[box25 v], A⟩) :=
      ⟨_, by simp [code46, Tryz.f46, box25, h1, h2, newRow]; rfl⟩
    obtain ⟨A, key⟩ := key
    rw [key]
    simp [fnOut, retOut, resD, look, retsD, retD, argD, D.nf, D.pd?, oneD, D.noRefs, D.noRef, alone, Hp.cut]
end Go.Vi
end

section
/- Vi: the reader's methods want (f111), next (f131). No conditions. -/
namespace Go.Vi
open Go Go.Lib Go.Proofs
set_option maxRecDepth 100000
attribute [local simp] E_skip E_ret E_exit E_text E_draw E_seq E_cond E_block E_scope E_loop runOps runOp runDraw runVF runV finV gate FlOK wantD exec fin opd look putF norm constD constC fieldAddrD loadD storeD opCall lenD binD isShift intP strP numD indexAddrD indexD D.pd? D.pds? cells_enc sub capsOf callD argsD argD D.nf enc_agg unP box_enc cellD mkF H00 st1 cD_agg cD_pagg cD_int cD_bool cD_str cD_sl cD_lit cD_own

/-- The reader's block. -/
def rdr (s : ByteArray) (a : Int) : Blk := .cells [.p (.str s), .p (.int .i64 a)]
def wrongP (a : Int) : PD := .ifc 110 (.agg [.int .i64 a])

theorem want_yes (q : Nat) (H : Hp) (hA : H.B.all (blkNo H.B.length H.A.length) = true) : ∃ d, W 111 [.ptr q 0, .p (.bool true)] H = some (.ret d, H) := by
  refine ⟨oneD [], W111_ofH (by rintro ⟨_, h⟩; simp [D.noRef] at h) (by simp) ?_⟩
  have key : ∃ F, E false ⟨0, 0⟩ 111 code111 (mkF 0 [.ptr q 0, .p (.bool true)]) H = some (.normal, F, H) :=
    ⟨_, by simp [code111, Tryz.f111]; rfl⟩
  obtain ⟨F, key⟩ := key
  rw [key]
  have hc : (H.B.take H.B.length).all (blkNo H.B.length H.A.length) = true := by rw [List.take_length]; exact hA
  simp only [fnOut, retOut, resD, retsD]
  rw [if_pos ⟨rfl, hc⟩]
  simp only [Hp.cut, List.take_length]

theorem us110 : ∃ fs, Tryz.prog.underlying 110 = some (.struct fs) := ⟨_, rfl⟩
theorem bd110 (F : Fr) (a : Int) (t : Tmp) : buildD Tryz.prog ((t, .p (.int .i64 a)) :: F) 110 [(0, .tmp t)] = some (.agg [.p (.int .i64 a)]) := by
  have pl : placesOf Tryz.prog 110 = some [(0, 1)] := by kernel_rfl
  simp [buildD, z110, pl, buildD.go, splice]
theorem want_no (q : Nat) (s : ByteArray) (a : Int) (H : Hp) (hq : H.B[q]? = some (rdr s a)) (hA : H.B.all (blkNo H.B.length H.A.length) = true) : W 111 [.ptr q 0, .p (.bool false)] H = some (.pan (wrongP a), H) := by
  refine W111_ofH (by rintro ⟨_, h⟩; simp [D.noRef] at h) (by simp) ?_
  have key : E false ⟨0, 0⟩ 111 code111 (mkF 0 [.ptr q 0, .p (.bool false)]) H = some (.pan (wrongP a), [], H) := by
    simp only [rdr] at hq
    obtain ⟨_, s110⟩ := us110
    simp [code111, Tryz.f111, hq, wrongP, bd110, s110]
  rw [key]
  have hc : (H.B.take H.B.length).all (blkNo H.B.length H.A.length) = true := by rw [List.take_length]; exact hA
  simp only [fnOut]
  rw [if_pos hc]
  simp only [Hp.cut, List.take_length]

/-! ### next -/
theorem fnOut_pure {r : Tmp} {x : PD} {F : Fr} {H : Hp} {nB nA : Nat} (h : look F r = .p x) (hB : H.B.length = nB) (hA : H.A.length = nA) (hall : H.B.all (blkNo nB nA) = true) :
    fnOut Tryz.prog [.tmp r] nB nA (some (.ret, F, H)) = some (.ret (.p x), H) := by
  have hc : (H.B.take nB).all (blkNo nB nA) = true := by rw [List.take_of_length_le (by omega)]; exact hall
  have hn : D.noRefs nB nA [.p x] = true := by simp [D.noRefs, D.noRef]
  simp only [fnOut, retOut, resD, h, retsD, retD, argD, Bool.false_eq_true, if_false, D.nf, D.pd?]
  rw [if_pos ⟨hn, hc⟩]
  simp only [oneD, Hp.cut]
  rw [List.take_of_length_le (by omega), List.take_of_length_le (by omega)]
theorem fnOut_pan {rs : List ResultVar} {x : PD} {F : Fr} {H : Hp} {nB nA : Nat} (hB : H.B.length = nB) (hA : H.A.length = nA) (hall : H.B.all (blkNo nB nA) = true) :
    fnOut Tryz.prog rs nB nA (some (.pan x, F, H)) = some (.pan x, H) := by
  have hc : (H.B.take nB).all (blkNo nB nA) = true := by rw [List.take_of_length_le (by omega)]; exact hall
  simp only [fnOut]
  rw [if_pos hc]
  simp only [Hp.cut]
  rw [List.take_of_length_le (by omega), List.take_of_length_le (by omega)]
theorem all_set {L : List Blk} {q : Nat} {b : Blk} {nB nA : Nat} (h : L.all (blkNo nB nA) = true) (hb : blkNo nB nA b = true) : (L.set q b).all (blkNo nB nA) = true := by
  rw [List.all_eq_true] at h ⊢
  intro x hx
  rcases List.mem_or_eq_of_mem_set hx with e | e
  · exact h x e
  · rw [e]; exact hb
theorem next_ok (q : Nat) (s : ByteArray) (a : Nat) (H : Hp) (hs : s.size ≤ 1000000) (ha : a < s.size) (hq : H.B[q]? = some (rdr s a)) (hA : H.B.all (blkNo H.B.length H.A.length) = true) :
    W 131 [.ptr q 0] H = some (.ret (.p (.int .i64 (byI s.data.toList a))), ⟨H.B.set q (rdr s (a + 1)), H.A⟩) := by
  refine W131_ofH (by rintro ⟨_, h⟩; simp [D.noRef] at h) (by simp) ?_
  obtain ⟨d, hw⟩ := want_yes q H hA
  have h1 : (a : Int) < s.size := by omega
  have hw2 : IntKind.i64.wrap ((a : Int) + 1) = (a : Int) + 1 := wrap64 (by omega) (by omega)
  have bd := byI_bd s.data.toList a
  have hw3 : IntKind.i64.wrap (byI s.data.toList a) = byI s.data.toList a := wrap64 (by omega) (by omega)
  have h2 : s[a]? = some s[a] := getElem?_pos s a ha
  have hby : byI s.data.toList a = (s[a].toNat : Int) := by
    have h3 : s.data.toList[a]? = some s[a] := by rw [List.getElem?_eq_some_iff]; exact ⟨ha, rfl⟩
    simp [byI, h3]
  rw [hby] at hw3 bd ⊢
  have key : E false ⟨0, 0⟩ 131 code131 (mkF 0 [.ptr q 0]) H = some (.ret, [(2, .p (.int .i64 (s[a].toNat : Int)))], ⟨H.B.set q (rdr s (a + 1)), H.A⟩) := by
    simp only [rdr] at hq
    simp [code131, Tryz.f131, hq, hw, h1, h2, hw2, hw3, convD, rdr, splice]
  rw [key]
  exact fnOut_pure rfl (by simp) rfl (all_set hA rfl)

theorem next_no (q : Nat) (s : ByteArray) (a : Nat) (H : Hp) (ha : s.size ≤ a) (hq : H.B[q]? = some (rdr s a)) (hA : H.B.all (blkNo H.B.length H.A.length) = true) :
    W 131 [.ptr q 0] H = some (.pan (wrongP a), H) := by
  refine W131_ofH (by rintro ⟨_, h⟩; simp [D.noRef] at h) (by simp) ?_
  have hw := want_no q s a H hq hA
  have h1 : ¬ (a : Int) < s.size := by omega
  have key : E false ⟨0, 0⟩ 131 code131 (mkF 0 [.ptr q 0]) H = some (.pan (wrongP a), [], H) := by
    simp only [rdr] at hq
    simp [code131, Tryz.f131, hq, hw, h1]
  rw [key]
  exact fnOut_pan rfl rfl hA
end Go.Vi
end
