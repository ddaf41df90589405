/- It is proved here what the program's functions that read and write texts compute, the second part; conditions stand with each. -/
import Derived.Test.YtapnoihkfocgkaaGreatDoorMAA
set_option linter.unusedVariables false
set_option linter.unusedSimpArgs false

section
/- Vi: ref.read (f82): texts, numbers and truths. No conditions. -/
namespace Go.Vi
open Go Go.Lib Go.Proofs
set_option maxRecDepth 100000
attribute [local simp] E_skip E_ret E_exit E_text E_draw E_seq E_cond E_block E_scope E_loop runOps runOp runDraw runVF runV finV gate FlOK wantD exec fin opd look putF norm constD constC fieldAddrD loadD storeD opCall lenD binD isShift intP strP numD indexAddrD indexD D.pd? D.pds? cells_enc sub capsOf callD argsD argD D.nf enc_agg unP box_enc cellD mkF H00 st1 cD_agg cD_pagg cD_int cD_bool cD_str cD_sl cD_lit cD_own

theorem S_cut (b : List UInt8) (i j : Nat) (h : i ≤ j) : (S b).extract i j = S ((b.drop i).take (j - i)) := by
  apply ByteArray.ext
  simp [S, ByteArray.data_extract]
theorem tw_take (p : UInt8 → Bool) : ∀ l : List UInt8, l.take (l.takeWhile p).length = l.takeWhile p ∧ l.drop (l.takeWhile p).length = l.dropWhile p
  | [] => by simp
  | c :: r => by
    obtain ⟨h1, h2⟩ := tw_take p r
    by_cases hc : p c = true
    · simp [hc, h1, h2]
    · simp [hc]
theorem tw_len (p : UInt8 → Bool) (l : List UInt8) : (l.takeWhile p).length ≤ l.length := by
  have := congrArg List.length (List.takeWhile_append_dropWhile (p := p) (l := l))
  rw [List.length_append] at this; omega

def args82 (b : List UInt8) (f : Nat) (d left : Int) : List D := [.p (.str (S b)), .p (.int .i64 f), .p (.int .i64 d), .p (.int .i64 left)]
def out82 (f : Nat) : Option (Val × List UInt8 × Int) → List D
  | none => [.p (enc Val.zero), .p (.int .i64 (-1)), .p (.int .i64 0)]
  | some (v, _, q) => [.p (enc v), .p (.int .i64 (f + (txt v).length : Nat)), .p (.int .i64 q)]

theorem read82_fail (b : List UInt8) (f : Nat) (d left : Int) (h : b.length ≤ f ∨ d < 1 ∨ left < 1) :
    ∃ B, E false ⟨0, 0⟩ 82 code82 (mkF 0 (args82 b f d left)) H00 = some (.ret, [(8, .ptr 0 0), (9, .p (.int .i64 (-1))), (10, .p (.int .i64 0))], ⟨zeroB :: B, []⟩) := by
  by_cases h1 : b.length ≤ f
  · have h1' : (b.length : Int) ≤ f := by omega
    exact ⟨_, by simp [code82, Tryz.f82, args82, zeroB, S_size, h1, h1', z25', build25, splice]; rfl⟩
  · by_cases h2 : d < 1
    · exact ⟨_, by simp [code82, Tryz.f82, args82, zeroB, S_size, h1, h2, z25', build25, splice]; rfl⟩
    · have h3 : left < 1 := by omega
      exact ⟨_, by simp [code82, Tryz.f82, args82, zeroB, S_size, h1, h2, h3, z25', build25, splice]; rfl⟩

/-! ### A text -/
def frQ (b : List UInt8) (f : Nat) (l : Int) (n : Nat) : Fr := [(0, .p (.str (S b))), (1, .p (.int .i64 f)), (3, .p (.int .i64 l)), (8, .ptr 0 0), (11, .ptr 1 0), (12, .p (.int .i64 n))]
theorem bodyQ_end (b : List UInt8) (f : Nat) (l : Int) (n : Nat) (h : b.length ≤ f + 1 + n) (hb : f + 1 + n ≤ 1000000) : E false ⟨0, 0⟩ 82 lp82_0 (frQ b f l n) st97 = some (.exit 0, frQ b f l n ++ [(57, .p (.bool false))], st97) := by
  have hw1 : IntKind.i64.wrap ((f : Int) + 1) = (f : Int) + 1 := wrap64 (by omega) (by omega)
  have hw2 : IntKind.i64.wrap ((f : Int) + 1 + n) = (f : Int) + 1 + n := wrap64 (by omega) (by omega)
  have c1 : ¬ (f : Int) + 1 + n < b.length := by omega
  simp [frQ, st97, lp82_0, code82, Tryz.f82, S_size, hw1, hw2, c1]
theorem bodyQ_step (b : List UInt8) (f : Nat) (l : Int) (n : Nat) (c : UInt8) (r : List UInt8) (h : b.drop (f + 1 + n) = c :: r) (hb : b.length ≤ 1000000) :
    E false ⟨0, 0⟩ 82 lp82_0 (frQ b f l n) st97 = if noQ c = true then some (.normal, frQ b f l (n + 1), st97) else some (.exit 0, frQ b f l n ++ [(57, .p (.bool false))], st97) := by
  obtain ⟨hlt, hg, _⟩ := drop_at h
  have he := drop_el h
  have hw1 : IntKind.i64.wrap ((f : Int) + 1) = (f : Int) + 1 := wrap64 (by omega) (by omega)
  have hw2 : IntKind.i64.wrap ((f : Int) + 1 + n) = (f : Int) + 1 + n := wrap64 (by omega) (by omega)
  have hw3 : IntKind.i64.wrap ((n : Int) + 1) = (n : Int) + 1 := wrap64 (by omega) (by omega)
  have c1 : (f : Int) + 1 + n < b.length := by omega
  have p1 : 0 ≤ (f : Int) + 1 + n := by omega
  have t1 : ((f : Int) + 1 + n).toNat = f + 1 + n := by omega
  by_cases c34 : c = 34
  · subst c34
    simp [frQ, st97, lp82_0, code82, Tryz.f82, S_size, S_get, S_at, he, hg, hw1, hw2, c1, p1, t1, noQ]
  · have n34 : ¬ (c.toNat : Int) = 34 := u8n 34 rfl c34
    simp [frQ, st97, lp82_0, code82, Tryz.f82, S_size, S_get, S_at, he, hg, hw1, hw2, hw3, c1, p1, t1, noQ, c34, n34]
theorem loopQ (b : List UInt8) (f : Nat) (l : Int) (hb : b.length ≤ 1000000) : ∀ (r : List UInt8) (n : Nat) (F : Fr), b.drop (f + 1 + n) = r → f + 1 + n ≤ 1000000 → norm [0, 1, 3, 8, 11, 12] F = frQ b f l n →
    loopO false ⟨0, 0⟩ 82 lp82_0 2 0 F st97 = some (.exit 0, frQ b f l (n + (r.takeWhile noQ).length) ++ [(57, .p (.bool false))], st97)
  | [], n, F, h, hi, hF => by
    have hcut : cutD ⟨0, 0⟩ [0, 1, 3, 8, 11, 12] 2 0 F st97 = some (norm [0, 1, 3, 8, 11, 12] F, st97) := cut_full ⟨0, 0⟩ _ F st97
    rw [loopO_eq, hd82_0, hcut, hF]
    simp only [bodyQ_end b f l n (drop_no h) hi]
    rfl
  | c :: r, n, F, h, hi, hF => by
    have hcut : cutD ⟨0, 0⟩ [0, 1, 3, 8, 11, 12] 2 0 F st97 = some (norm [0, 1, 3, 8, 11, 12] F, st97) := cut_full ⟨0, 0⟩ _ F st97
    obtain ⟨hlt, _, hr⟩ := drop_at h
    rw [loopO_eq, hd82_0, hcut, hF]
    simp only [bodyQ_step b f l n c r h hb]
    by_cases hc : noQ c = true
    · rw [if_pos hc]
      simp only
      rw [loopQ b f l hb r (n + 1) (frQ b f l (n + 1)) hr (by omega) rfl]
      rw [List.takeWhile_cons, if_pos hc, List.length_cons, show n + 1 + (r.takeWhile noQ).length = n + ((r.takeWhile noQ).length + 1) by omega]
    · rw [if_neg hc, List.takeWhile_cons, if_neg hc]
      rfl

theorem read82_text (b : List UInt8) (f : Nat) (d left : Int) (r : List UInt8) (hb : b.length ≤ 100000) (h : b.drop f = 34 :: r) (hd : 1 ≤ d) (hl : 1 ≤ left) (hl2 : left ≤ 1000) :
    (r.dropWhile noQ = [] → ∃ B, E false ⟨0, 0⟩ 82 code82 (mkF 0 (args82 b f d left)) H00 = some (.ret, [(8, .ptr 0 0), (9, .p (.int .i64 (-1))), (10, .p (.int .i64 0))], ⟨zeroB :: B, []⟩)) ∧
    (r.dropWhile noQ ≠ [] → ∃ B, E false ⟨0, 0⟩ 82 code82 (mkF 0 (args82 b f d left)) H00 = some (.ret, [(8, .ptr 0 0), (9, .p (.int .i64 (f + (r.takeWhile noQ).length + 2 : Nat))), (10, .p (.int .i64 (left - 1)))], ⟨box25 (.mk 3 0 (S (r.takeWhile noQ)) []) :: B, []⟩)) := by
  obtain ⟨hlt, hg, hr⟩ := drop_at h
  have he := drop_el h
  have hloop := loopQ b f (left - 1) (by omega) r 0 (frQ b f (left - 1) 0) hr (by omega) rfl
  obtain ⟨q1, q2⟩ := tw_take noQ r
  have q3 := tw_len noQ r
  have q4 : r.length = b.length - (f + 1) := by rw [← hr, List.length_drop]
  have q5 : (r.dropWhile noQ).length = r.length - (r.takeWhile noQ).length := by rw [← q2, List.length_drop]
  have hcut := S_cut b (f + 1) (f + 1 + (r.takeWhile noQ).length) (by omega)
  rw [hr, show f + 1 + (r.takeWhile noQ).length - (f + 1) = (r.takeWhile noQ).length by omega, q1] at hcut
  generalize hN : (r.takeWhile noQ).length = N at *
  rw [Nat.zero_add] at hloop
  simp only [lp82_0, code82, Tryz.f82, frQ, st97, zeroB, show ((0 : Nat) : Int) = 0 from rfl] at hloop
  have hw : IntKind.i64.wrap (left - 1) = left - 1 := wrap64 (by omega) (by omega)
  have hw1 : IntKind.i64.wrap ((f : Int) + 1) = (f : Int) + 1 := wrap64 (by omega) (by omega)
  have hw2 : IntKind.i64.wrap ((f : Int) + 1 + N) = (f : Int) + 1 + N := wrap64 (by omega) (by omega)
  have hw3 : IntKind.i64.wrap ((f : Int) + N) = (f : Int) + N := wrap64 (by omega) (by omega)
  have hw4 : IntKind.i64.wrap ((f : Int) + N + 2) = (f : Int) + N + 2 := wrap64 (by omega) (by omega)
  have c1 : ¬ (b.length : Int) ≤ f := by omega
  have c1' : ¬ b.length ≤ f := by omega
  have c2 : ¬ d < 1 := by omega
  have c3 : ¬ left < 1 := by omega
  refine ⟨fun hz => ?_, fun hz => ?_⟩
  · rw [hz] at q5
    simp at q5
    have c4 : (b.length : Int) ≤ (f : Int) + 1 + N := by omega
    exact ⟨_, by simp [code82, Tryz.f82, args82, zeroB, S_size, S_get, S_at, he, hg, hw, hw1, hw2, c1, c1', c2, c3, c4, z25', build25, splice, hloop]; rfl⟩
  · have q6 : 0 < (r.dropWhile noQ).length := List.length_pos_iff.2 hz
    have c4 : ¬ (b.length : Int) ≤ (f : Int) + 1 + N := by omega
    have t1 : ((f : Int) + 1).toNat = f + 1 := by omega
    have t2 : ((f : Int) + 1 + N).toNat = f + 1 + N := by omega
    have p1 : 0 ≤ (f : Int) + 1 := by omega
    have p2 : (f : Int) + 1 ≤ f + 1 + N := by omega
    have p3 : (f : Int) + 1 + N ≤ b.length := by omega
    have h70 := fun H => text70_W (S (r.takeWhile noQ)) H
    exact ⟨_, by simp [code82, Tryz.f82, args82, zeroB, box25, k_mk, n_mk, t_mk, ps_mk, S_size, S_get, S_at, he, hg, hw, hw1, hw2, hw3, hw4, c1, c1', c2, c3, c4, t1, t2, p1, p2, p3, z25', build25, splice, sliceD, boundD, hcut, h70, hloop]; rfl⟩

/-! ### A number or a truth -/
theorem read82_word (b : List UInt8) (f : Nat) (d left : Int) (c : UInt8) (r : List UInt8) (hb : b.length ≤ 100000) (h : b.drop f = c :: r) (hd : 1 ≤ d) (hl : 1 ≤ left) (hl2 : left ≤ 1000)
    (n1 : c ≠ 34) (n2 : c ≠ 40) (n3 : c ≠ 123) :
    (plainV ((c :: r).takeWhile wordB) = none → ∃ B, E false ⟨0, 0⟩ 82 code82 (mkF 0 (args82 b f d left)) H00 = some (.ret, [(8, .ptr 0 0), (9, .p (.int .i64 (-1))), (10, .p (.int .i64 0))], ⟨zeroB :: B, []⟩)) ∧
    (∀ v, plainV ((c :: r).takeWhile wordB) = some v → ∃ B, E false ⟨0, 0⟩ 82 code82 (mkF 0 (args82 b f d left)) H00 = some (.ret, [(8, .ptr 0 0), (9, .p (.int .i64 (f + ((c :: r).takeWhile wordB).length : Nat))), (10, .p (.int .i64 (left - 1)))], ⟨box25 v :: B, []⟩)) := by
  obtain ⟨hlt, hg, hr⟩ := drop_at h
  have he := drop_el h
  have hword := fun H => word_W b f (by omega) (by omega) H
  rw [h] at hword
  obtain ⟨q1, _⟩ := tw_take wordB (c :: r)
  have q3 := tw_len wordB (c :: r)
  have q4 : (c :: r).length = b.length - f := by rw [← h, List.length_drop]
  have hcut := S_cut b f (f + ((c :: r).takeWhile wordB).length) (by omega)
  rw [h, show f + ((c :: r).takeWhile wordB).length - f = ((c :: r).takeWhile wordB).length by omega, q1] at hcut
  have hplain := fun H => plain_W ((c :: r).takeWhile wordB) (by omega) H
  generalize hw0 : (c :: r).takeWhile wordB = w at *
  have m1 : ¬ (c.toNat : Int) = 34 := u8n 34 rfl n1
  have m2 : ¬ (c.toNat : Int) = 40 := u8n 40 rfl n2
  have m3 : ¬ (c.toNat : Int) = 123 := u8n 123 rfl n3
  have hw : IntKind.i64.wrap (left - 1) = left - 1 := wrap64 (by omega) (by omega)
  have hw2 : IntKind.i64.wrap ((f : Int) + w.length) = (f : Int) + w.length := wrap64 (by omega) (by omega)
  have c1 : ¬ (b.length : Int) ≤ f := by omega
  have c1' : ¬ b.length ≤ f := by omega
  have c2 : ¬ d < 1 := by omega
  have c3 : ¬ left < 1 := by omega
  have t2 : ((f : Int) + w.length).toNat = f + w.length := by omega
  have p2 : (f : Int) ≤ f + w.length := by omega
  have p3 : (f : Int) + w.length ≤ b.length := by omega
  refine ⟨fun hz => ?_, fun v hz => ?_⟩
  · rw [hz] at hplain
    simp only [out122, enc_zero] at hplain
    exact ⟨_, by simp [code82, Tryz.f82, args82, zeroB, S_size, S_get, S_at, he, hg, m1, m2, m3, hw, hw2, c1, c1', c2, c3, t2, p2, p3, z25', build25, splice, sliceD, boundD, hcut, hword, hplain]; rfl⟩
  · rw [hz] at hplain
    simp only [out122] at hplain
    exact ⟨_, by simp [code82, Tryz.f82, args82, zeroB, box25, S_size, S_get, S_at, he, hg, m1, m2, m3, hw, hw2, c1, c1', c2, c3, t2, p2, p3, z25', build25, splice, sliceD, boundD, hcut, hword, hplain]; rfl⟩
end Go.Vi
end

section
/- Vi: ref.read (f82): tuples and sets. No conditions. -/
namespace Go.Vi
open Go Go.Lib Go.Proofs
set_option maxRecDepth 100000
attribute [local simp] E_skip E_ret E_exit E_text E_draw E_seq E_cond E_block E_scope E_loop runOps runOp runDraw runVF runV finV gate FlOK wantD exec fin opd look putF norm constD constC fieldAddrD loadD storeD opCall lenD binD isShift intP strP numD indexAddrD indexD D.pd? D.pds? cells_enc sub capsOf callD argsD argD D.nf enc_agg unP box_enc cellD mkF H00 st1 cD_agg cD_pagg cD_int cD_bool cD_str cD_sl cD_lit cD_own

theorem txt_pos (v : Val) : 0 < (txt v).length := by
  rw [txt_eq]
  split
  · obtain ⟨c, r, e, _⟩ := itoa_head v.n
    rw [e]; simp
  · split
    · split <;> simp [tru, fls]
    · split
      · simp
      · split <;> simp
theorem suf {b a r : List UInt8} {f : Nat} (h : b.drop f = a ++ r) (hf : f ≤ b.length) : b.drop (f + a.length) = r ∧ f + a.length + r.length = b.length := by
  have h2 := congrArg (List.drop a.length) h
  rw [List.drop_drop, List.drop_left] at h2
  have h3 := congrArg List.length h
  rw [List.length_drop, List.length_append] at h3
  exact ⟨h2, by omega⟩

def frR (b : List UInt8) (d l : Int) (en : UInt8) (a : Nat) : Fr := [(0, .p (.str (S b))), (2, .p (.int .i64 d)), (3, .p (.int .i64 l)), (8, .ptr 0 0), (11, .ptr 1 0), (16, .ptr 2 0), (17, .p (.int .u8 en.toNat)), (18, .p (.int .i64 a))]

theorem bodyR_end (b : List UInt8) (d l : Int) (en : UInt8) (a : Nat) (k : Int) (q : D) (G : List Blk) (A : List Arr) (h : b.length ≤ a) :
    E false ⟨0, 0⟩ 82 lp82_1 (frR b d l en a) (stL k q G A) = some (.exit 2, frR b d l en a ++ [(131, .p (.bool false))], stL k q G A) := by
  have c1 : ¬ (a : Int) < b.length := by omega
  have c2 : ¬ a < b.length := by omega
  simp [frR, stL, lp82_1, code82, Tryz.f82, S_size, c1, c2]
theorem bodyR_close (b : List UInt8) (d l : Int) (en : UInt8) (a : Nat) (r : List UInt8) (k : Int) (q : D) (G : List Blk) (A : List Arr) (h : b.drop a = en :: r) :
    E false ⟨0, 0⟩ 82 lp82_1 (frR b d l en a) (stL k q G A) = some (.exit 2, frR b d l en a ++ [(131, .p (.bool false))], stL k q G A) := by
  obtain ⟨hlt, hg, _⟩ := drop_at h
  have he := drop_el h
  simp [frR, stL, lp82_1, code82, Tryz.f82, S_size, S_get, S_at, he, hg, hlt]

/-- Between two parts stands no comma. -/
theorem bodyR_comma (b : List UInt8) (d l : Int) (en : UInt8) (a : Nat) (c : UInt8) (r : List UInt8) (k : Int) (G : List Blk) (m : Nat) (acc : List Val) (h : b.drop a = c :: r) (hc : c ≠ en) (hacc : acc ≠ []) (hs : skip2 (c :: r) = none) (hb : b.length ≤ 100000) :
    ∃ B, E false ⟨0, 0⟩ 82 lp82_1 (frR b d l en a) (stL k (.own 0 m) G [rowL m acc]) = some (.ret, [(8, .ptr 0 0), (9, .p (.int .i64 (-1))), (10, .p (.int .i64 0))], ⟨zeroB :: B, [rowL m acc]⟩) := by
  obtain ⟨hlt, hg, hr⟩ := drop_at h
  have he := drop_el h
  have hne : ¬ (c.toNat : Int) = en.toNat := u8n _ rfl hc
  have hne' : ¬ c.toNat = en.toNat := by omega
  have hpos : 0 < acc.length := List.length_pos_iff.2 hacc
  have hw1 : IntKind.i64.wrap ((a : Int) + 1) = (a : Int) + 1 := wrap64 (by omega) (by omega)
  cases r with
  | nil =>
    have hl := drop_no hr
    have c1 : (b.length : Int) ≤ (a : Int) + 1 := by omega
    exact ⟨_, by simp [frR, stL, vB, rowL, zeroB, lp82_1, code82, Tryz.f82, S_size, S_get, S_at, he, hg, hlt, hne, hne', hacc, hpos, hw1, c1, Hp.live, splice]; rfl⟩
  | cons x r =>
    obtain ⟨hlt2, hg2, _⟩ := drop_at hr
    have he2 := drop_el hr
    have c1 : ¬ (b.length : Int) ≤ (a : Int) + 1 := by omega
    have p1 : 0 ≤ (a : Int) + 1 := by omega
    have t1 : ((a : Int) + 1).toNat = a + 1 := by omega
    by_cases c44 : c = 44
    · subst c44
      have x32 : ¬ x = 32 := fun e => by rw [e] at hs; simp [skip2] at hs
      have n32 : ¬ (x.toNat : Int) = 32 := u8n 32 rfl x32
      have ne44 : ¬ (44 : Int) = en.toNat := fun e => hne (by rw [← e]; rfl)
      have ne44' : ¬ (44 : Nat) = en.toNat := by omega
      exact ⟨_, by simp [frR, stL, vB, rowL, zeroB, lp82_1, code82, Tryz.f82, S_size, S_get, S_at, he, hg, he2, hg2, hlt, hne, hne', hacc, hpos, hw1, c1, p1, t1, n32, ne44, ne44', Hp.live, splice]; rfl⟩
    · have n44 : ¬ (c.toNat : Int) = 44 := u8n 44 rfl c44
      exact ⟨_, by simp [frR, stL, vB, rowL, zeroB, lp82_1, code82, Tryz.f82, S_size, S_get, S_at, he, hg, he2, hg2, hlt, hne, hne', hacc, hpos, hw1, c1, p1, t1, n44, Hp.live, splice]; rfl⟩

/-- The first part. -/
theorem bodyR_first (b : List UInt8) (d l : Int) (en : UInt8) (a : Nat) (c : UInt8) (r : List UInt8) (k : Int) (G : List Blk) (h : b.drop a = c :: r) (hc : c ≠ en) (hb : b.length ≤ 100000) (hd : 0 ≤ d) (hd2 : d ≤ 100) (x : Val) (nx : Nat) (rest : Int)
    (hr : ∀ H, W 82 [.p (.str (S b)), .p (.int .i64 a), .p (.int .i64 (d - 1)), .p (.int .i64 l)] H = some (.ret (.tup [.p (enc x), .p (.int .i64 nx), .p (.int .i64 rest)]), H)) :
    ∃ B, E false ⟨0, 0⟩ 82 lp82_1 (frR b d l en a) (stL k (.lit true []) G []) = some (.normal, frR b d rest en nx, stL k (.own 0 0) (G ++ [B]) [rowL 0 [x]]) := by
  obtain ⟨hlt, hg, _⟩ := drop_at h
  have he := drop_el h
  have hne : ¬ (c.toNat : Int) = en.toNat := u8n _ rfl hc
  have hne' : ¬ c.toNat = en.toNat := by omega
  have hw : IntKind.i64.wrap (d - 1) = d - 1 := wrap64 (by omega) (by omega)
  have hnx : ¬ (nx : Int) < 0 := by omega
  exact ⟨box25 x, by simp [frR, stL, vB, rowL, zeroB, box25, lp82_1, code82, Tryz.f82, S_size, S_get, S_at, he, hg, hlt, hne, hne', hw, hr, hnx, z25', splice, set_last, buildSliceD, elsD, one_int, one_str, one_sl, one_enc, len_enc, all_one, appendD, srcD, Hp.live, zok25, fits_enc, fit_n, newRow]⟩
theorem bodyR_first0 (b : List UInt8) (d l : Int) (en : UInt8) (a : Nat) (c : UInt8) (r : List UInt8) (k : Int) (G : List Blk) (h : b.drop a = c :: r) (hc : c ≠ en) (hb : b.length ≤ 100000) (hd : 0 ≤ d) (hd2 : d ≤ 100)
    (hr : ∀ H, W 82 [.p (.str (S b)), .p (.int .i64 a), .p (.int .i64 (d - 1)), .p (.int .i64 l)] H = some (.ret (.tup [.p (enc Val.zero), .p (.int .i64 (-1)), .p (.int .i64 0)]), H)) :
    ∃ B, E false ⟨0, 0⟩ 82 lp82_1 (frR b d l en a) (stL k (.lit true []) G []) = some (.ret, [(8, .ptr 0 0), (9, .p (.int .i64 (-1))), (10, .p (.int .i64 0))], ⟨zeroB :: B, []⟩) := by
  obtain ⟨hlt, hg, _⟩ := drop_at h
  have he := drop_el h
  have hne : ¬ (c.toNat : Int) = en.toNat := u8n _ rfl hc
  have hne' : ¬ c.toNat = en.toNat := by omega
  have hw : IntKind.i64.wrap (d - 1) = d - 1 := wrap64 (by omega) (by omega)
  exact ⟨_, by simp [frR, stL, vB, zeroB, lp82_1, code82, Tryz.f82, S_size, S_get, S_at, he, hg, hlt, hne, hne', hw, hr, z25', splice, set_last, Hp.live]; rfl⟩

/-- One more part. -/
theorem bodyR_next (b : List UInt8) (d l : Int) (en : UInt8) (a : Nat) (r : List UInt8) (k : Int) (G : List Blk) (m : Nat) (acc : List Val) (h : b.drop a = 44 :: 32 :: r) (hc : (44 : UInt8) ≠ en) (hacc : acc ≠ []) (hacc2 : acc.length ≤ 100000) (hb : b.length ≤ 100000) (hd : 0 ≤ d) (hd2 : d ≤ 100) (x : Val) (nx : Nat) (rest : Int)
    (hr : ∀ H, W 82 [.p (.str (S b)), .p (.int .i64 (a + 2 : Nat)), .p (.int .i64 (d - 1)), .p (.int .i64 l)] H = some (.ret (.tup [.p (enc x), .p (.int .i64 nx), .p (.int .i64 rest)]), H)) :
    ∃ B, E false ⟨0, 0⟩ 82 lp82_1 (frR b d l en a) (stL k (.own 0 m) G [rowL m acc]) = some (.normal, frR b d rest en nx, stL k (.own 0 (m + 1)) (G ++ [B]) [rowL (m + 1) (acc ++ [x])]) := by
  obtain ⟨hlt, hg, h2⟩ := drop_at h
  have he := drop_el h
  obtain ⟨hlt2, hg2, _⟩ := drop_at h2
  have he2 := drop_el h2
  have hne : ¬ (44 : Int) = en.toNat := fun e => u8n (c := 44) (x := en) _ rfl hc e
  have hne' : ¬ (44 : Nat) = en.toNat := by omega
  have hpos : 0 < acc.length := List.length_pos_iff.2 hacc
  have hw1 : IntKind.i64.wrap ((a : Int) + 1) = (a : Int) + 1 := wrap64 (by omega) (by omega)
  have hw2 : IntKind.i64.wrap ((a : Int) + 2) = (a : Int) + 2 := wrap64 (by omega) (by omega)
  have c1 : ¬ (b.length : Int) ≤ (a : Int) + 1 := by omega
  have p1 : 0 ≤ (a : Int) + 1 := by omega
  have t1 : ((a : Int) + 1).toNat = a + 1 := by omega
  have hw : IntKind.i64.wrap (d - 1) = d - 1 := wrap64 (by omega) (by omega)
  have hnx : ¬ (nx : Int) < 0 := by omega
  have hby : (acc.length + 1) * 56 ≤ 140737488355328 := by omega
  rw [show ((a + 2 : Nat) : Int) = (a : Int) + 2 by omega] at hr
  exact ⟨box25 x, by simp [frR, stL, vB, rowL, zeroB, box25, lp82_1, code82, Tryz.f82, S_size, S_get, S_at, he, hg, he2, hg2, hlt, hne, hne', hacc, hpos, hw1, hw2, c1, p1, t1, hw, hr, hnx, z25', splice, set_last, buildSliceD, elsD, one_int, one_str, one_sl, one_enc, len_enc, all_one, appendD, srcD, Hp.live, zok25, fits_enc, fit_n, newRow, hby]⟩
theorem bodyR_next0 (b : List UInt8) (d l : Int) (en : UInt8) (a : Nat) (r : List UInt8) (k : Int) (G : List Blk) (m : Nat) (acc : List Val) (h : b.drop a = 44 :: 32 :: r) (hc : (44 : UInt8) ≠ en) (hacc : acc ≠ []) (hb : b.length ≤ 100000) (hd : 0 ≤ d) (hd2 : d ≤ 100)
    (hr : ∀ H, W 82 [.p (.str (S b)), .p (.int .i64 (a + 2 : Nat)), .p (.int .i64 (d - 1)), .p (.int .i64 l)] H = some (.ret (.tup [.p (enc Val.zero), .p (.int .i64 (-1)), .p (.int .i64 0)]), H)) :
    ∃ B, E false ⟨0, 0⟩ 82 lp82_1 (frR b d l en a) (stL k (.own 0 m) G [rowL m acc]) = some (.ret, [(8, .ptr 0 0), (9, .p (.int .i64 (-1))), (10, .p (.int .i64 0))], ⟨zeroB :: B, [rowL m acc]⟩) := by
  obtain ⟨hlt, hg, h2⟩ := drop_at h
  have he := drop_el h
  obtain ⟨hlt2, hg2, _⟩ := drop_at h2
  have he2 := drop_el h2
  have hne : ¬ (44 : Int) = en.toNat := fun e => u8n (c := 44) (x := en) _ rfl hc e
  have hne' : ¬ (44 : Nat) = en.toNat := by omega
  have hpos : 0 < acc.length := List.length_pos_iff.2 hacc
  have hw1 : IntKind.i64.wrap ((a : Int) + 1) = (a : Int) + 1 := wrap64 (by omega) (by omega)
  have hw2 : IntKind.i64.wrap ((a : Int) + 2) = (a : Int) + 2 := wrap64 (by omega) (by omega)
  have c1 : ¬ (b.length : Int) ≤ (a : Int) + 1 := by omega
  have p1 : 0 ≤ (a : Int) + 1 := by omega
  have t1 : ((a : Int) + 1).toNat = a + 1 := by omega
  have hw : IntKind.i64.wrap (d - 1) = d - 1 := wrap64 (by omega) (by omega)
  rw [show ((a + 2 : Nat) : Int) = (a : Int) + 2 by omega] at hr
  exact ⟨_, by simp [frR, stL, vB, rowL, zeroB, lp82_1, code82, Tryz.f82, S_size, S_get, S_at, he, hg, he2, hg2, hlt, hne, hne', hacc, hpos, hw1, hw2, c1, p1, t1, hw, hr, z25', splice, set_last, Hp.live]; rfl⟩

theorem IL_cutR (k : Int) (acc : List Val) (F : Fr) (H : Hp) (hI : IL k acc H) : ∃ H0, cutD ⟨0, 0⟩ [0, 2, 3, 8, 11, 16, 17, 18] 3 0 F H = some (norm [0, 2, 3, 8, 11, 16, 17, 18] F, H0) ∧ IL k acc H0 := by
  unfold cutD
  split
  · rename_i hc
    rcases hI with ⟨h, G, rfl⟩ | ⟨h, m, G, rfl⟩
    · exact ⟨_, rfl, .inl ⟨h, [], rfl⟩⟩
    · exfalso
      have := hc.2
      simp [stL, vB, zeroB, blkNo, D.noRefs, D.noRef] at this
  · exact ⟨_, rfl, hI⟩

theorem loopR_ok (b : List UInt8) (d : Int) (k : Int) (en : UInt8) (hen : en = 41 ∨ en = 125) (hb : b.length ≤ 100000) (hd : 0 ≤ d) (hd2 : d ≤ 100) (dd : Nat)
    (hrec : ∀ (a : Nat) (l : Int), a ≤ b.length → l ≤ 200 → ∀ H, W 82 [.p (.str (S b)), .p (.int .i64 a), .p (.int .i64 (d - 1)), .p (.int .i64 l)] H = some (.ret (.tup (out82 a (rread dd (b.drop a) l))), H)) :
    ∀ (m a : Nat) (l : Int) (acc : List Val) (F : Fr) (H : Hp), a ≤ b.length → (b.drop a).length < m → acc.length ≤ a → l ≤ 200 → IL k acc H → norm [0, 2, 3, 8, 11, 16, 17, 18] F = frR b d l en a →
    (∃ ps e q H1, rlist (rread dd) en m acc.isEmpty (b.drop a) l = some (ps, b.drop (e + 1), q) ∧ e < b.length ∧ loopO false ⟨0, 0⟩ 82 lp82_1 3 0 F H = some (.exit 2, frR b d q en e ++ [(131, .p (.bool false))], H1) ∧ IL k (acc ++ ps) H1) ∨
    (rlist (rread dd) en m acc.isEmpty (b.drop a) l = none ∧ ((∃ B A, loopO false ⟨0, 0⟩ 82 lp82_1 3 0 F H = some (.ret, [(8, .ptr 0 0), (9, .p (.int .i64 (-1))), (10, .p (.int .i64 0))], ⟨zeroB :: B, A⟩)) ∨
      (∃ e q acc' H1, b.length ≤ e ∧ e ≤ 1000000 ∧ loopO false ⟨0, 0⟩ 82 lp82_1 3 0 F H = some (.exit 2, frR b d q en e ++ [(131, .p (.bool false))], H1) ∧ IL k acc' H1))) := by
  have h44 : (44 : UInt8) ≠ en := by rcases hen with rfl | rfl <;> decide
  intro m
  induction m with
  | zero => intro a l acc F H _ hm; omega
  | succ m ih =>
    intro a l acc F H ha hm hacc hl hI hF
    obtain ⟨H0, hcut, hI0⟩ := IL_cutR k acc F H hI
    rw [loopO_eq, hd82_1, hcut, hF]
    cases hb0 : b.drop a with
    | nil =>
      right
      have hlen := drop_no hb0
      refine ⟨rfl, .inr ⟨a, l, acc, H0, hlen, by omega, ?_, hI0⟩⟩
      rcases hI0 with ⟨h, G, rfl⟩ | ⟨h, mm, G, rfl⟩ <;> simp only [bodyR_end _ _ _ _ _ _ _ _ _ hlen]
    | cons c r =>
      obtain ⟨hlt, _, hr⟩ := drop_at hb0
      unfold rlist
      by_cases hc : c = en
      · subst hc
        left
        refine ⟨[], a, l, H0, by rw [if_pos rfl, hr], hlt, ?_, by rw [List.append_nil]; exact hI0⟩
        rcases hI0 with ⟨h, G, rfl⟩ | ⟨h, mm, G, rfl⟩ <;> simp only [bodyR_close _ _ _ _ _ _ _ _ _ _ hb0]
      rw [if_neg hc]
      -- where the next part begins
      have start : (acc.isEmpty = true ∧ acc = []) ∨ (acc.isEmpty = false ∧ acc ≠ []) := by cases acc <;> simp
      have main : ∀ (a1 : Nat), a1 ≤ b.length → a ≤ a1 → (acc = [] → a1 = a) →
          (∀ x nx rest, (∀ H, W 82 [.p (.str (S b)), .p (.int .i64 a1), .p (.int .i64 (d - 1)), .p (.int .i64 l)] H = some (.ret (.tup [.p (enc x), .p (.int .i64 (nx : Nat)), .p (.int .i64 rest)]), H)) →
            ∃ H1, E false ⟨0, 0⟩ 82 lp82_1 (frR b d l en a) H0 = some (.normal, frR b d rest en nx, H1) ∧ IL k (acc ++ [x]) H1) →
          ((∀ H, W 82 [.p (.str (S b)), .p (.int .i64 a1), .p (.int .i64 (d - 1)), .p (.int .i64 l)] H = some (.ret (.tup [.p (enc Val.zero), .p (.int .i64 (-1)), .p (.int .i64 0)]), H)) →
            ∃ B A, E false ⟨0, 0⟩ 82 lp82_1 (frR b d l en a) H0 = some (.ret, [(8, .ptr 0 0), (9, .p (.int .i64 (-1))), (10, .p (.int .i64 0))], ⟨zeroB :: B, A⟩)) →
          (∃ ps e q H1, (match rread dd (b.drop a1) l with
              | none => none
              | some (x, l2, q) => match rlist (rread dd) en m false l2 q with | none => none | some (ps, l3, q2) => some (x :: ps, l3, q2)) = some (ps, b.drop (e + 1), q) ∧ e < b.length ∧
              (match E false ⟨0, 0⟩ 82 lp82_1 (frR b d l en a) H0 with
                | some (.normal, F1, H1) => loopO false ⟨0, 0⟩ 82 lp82_1 3 0 F1 H1
                | r => r) = some (.exit 2, frR b d q en e ++ [(131, .p (.bool false))], H1) ∧ IL k (acc ++ ps) H1) ∨
          ((match rread dd (b.drop a1) l with
              | none => none
              | some (x, l2, q) => match rlist (rread dd) en m false l2 q with | none => none | some (ps, l3, q2) => some (x :: ps, l3, q2)) = none ∧
            ((∃ B A, (match E false ⟨0, 0⟩ 82 lp82_1 (frR b d l en a) H0 with
                | some (.normal, F1, H1) => loopO false ⟨0, 0⟩ 82 lp82_1 3 0 F1 H1
                | r => r) = some (.ret, [(8, .ptr 0 0), (9, .p (.int .i64 (-1))), (10, .p (.int .i64 0))], ⟨zeroB :: B, A⟩)) ∨
            (∃ e q acc' H1, b.length ≤ e ∧ e ≤ 1000000 ∧ (match E false ⟨0, 0⟩ 82 lp82_1 (frR b d l en a) H0 with
                | some (.normal, F1, H1) => loopO false ⟨0, 0⟩ 82 lp82_1 3 0 F1 H1
                | r => r) = some (.exit 2, frR b d q en e ++ [(131, .p (.bool false))], H1) ∧ IL k acc' H1))) := by
        intro a1 ha1 hle _ hstep hfail
        have h82 := hrec a1 l ha1 hl
        cases hra : rread dd (b.drop a1) l with
        | none =>
          right
          rw [hra] at h82
          obtain ⟨B, A, hbd⟩ := hfail h82
          exact ⟨rfl, .inl ⟨B, A, by simp only [hbd]⟩⟩
        | some p =>
          obtain ⟨x, l2, q⟩ := p
          rw [hra] at h82
          obtain ⟨H1, hbd, hI1⟩ := hstep x (a1 + (txt x).length) q h82
          obtain ⟨e1, e2⟩ := rread_R dd _ _ _ _ _ hra
          obtain ⟨s1, s2⟩ := suf e1 ha1
          have hp := txt_pos x
          have hn := nodes_pos x
          have hdl : (b.drop (a1 + (txt x).length)).length < m := by
            rw [List.length_drop] at hm ⊢; omega
          simp only [hbd]
          have hne : (acc ++ [x]).isEmpty = false := by simp
          have := ih (a1 + (txt x).length) q (acc ++ [x]) (frR b d q en (a1 + (txt x).length)) H1 (by omega) hdl (by rw [List.length_append]; simp; omega) (by omega) hI1 rfl
          rw [hne, s1] at this
          rcases this with ⟨ps, e, q2, H2, h1, h2, h3, h4⟩ | ⟨h1, h2⟩
          · left
            refine ⟨x :: ps, e, q2, H2, by rw [h1], h2, h3, ?_⟩
            simpa using h4
          · right
            exact ⟨by rw [h1], h2⟩
      rcases start with ⟨h1, h2⟩ | ⟨h1, h2⟩
      · rw [h1, if_pos rfl]
        simp only
        have hm2 := main a ha (Nat.le_refl _) (fun _ => rfl) (fun x nx rest h82 => by
          rcases hI0 with ⟨h, G, rfl⟩ | ⟨h, mm, G, rfl⟩
          · obtain ⟨B, hbd⟩ := bodyR_first b d l en a c r k G hb0 hc hb hd hd2 x nx rest h82
            exact ⟨_, hbd, .inr ⟨by simp, 0, _, by rw [h]; rfl⟩⟩
          · exact absurd h2 h) (fun h82 => by
          rcases hI0 with ⟨h, G, rfl⟩ | ⟨h, mm, G, rfl⟩
          · obtain ⟨B, hbd⟩ := bodyR_first0 b d l en a c r k G hb0 hc hb hd hd2 h82
            exact ⟨B, [], hbd⟩
          · exact absurd h2 h)
        rw [hb0] at hm2
        exact hm2
      · rw [h1, if_neg (by simp)]
        rcases hI0 with ⟨h, G, rfl⟩ | ⟨h, mm, G, rfl⟩
        · exact absurd h h2
        cases hs : skip2 (c :: r) with
        | none =>
          right
          obtain ⟨B, hbd⟩ := bodyR_comma b d l en a c r k G mm acc hb0 hc h2 hs hb
          exact ⟨rfl, .inl ⟨B, [rowL mm acc], by simp only [hbd]⟩⟩
        | some l1 =>
          have e1 := skip2_is hs
          have hb1 := hb0
          rw [e1] at hb1
          obtain ⟨u1, _, u2⟩ := drop_at hb1
          obtain ⟨u3, _, u4⟩ := drop_at u2
          simp only
          have hm2 := main (a + 2) (by omega) (by omega) (fun h => absurd h h2) (fun x nx rest h82 => by
            obtain ⟨B, hbd⟩ := bodyR_next b d l en a l1 k G mm acc hb1 h44 h2 (by omega) hb hd hd2 x nx rest h82
            exact ⟨_, hbd, .inr ⟨by simp, mm + 1, _, rfl⟩⟩) (fun h82 => by
            obtain ⟨B, hbd⟩ := bodyR_next0 b d l en a l1 k G mm acc hb1 h44 h2 hb hd hd2 h82
            exact ⟨B, _, hbd⟩)
          rw [show a + 2 = a + 1 + 1 by omega, u4] at hm2
          exact hm2
end Go.Vi
end

section
/- Vi: ref.read (f82) whole, ref.Read (f27). No conditions. -/
namespace Go.Vi
open Go Go.Lib Go.Proofs
set_option maxRecDepth 100000
attribute [local simp] E_skip E_ret E_exit E_text E_draw E_seq E_cond E_block E_scope E_loop runOps runOp runDraw runVF runV finV gate FlOK wantD exec fin opd look putF norm constD constC fieldAddrD loadD storeD opCall lenD binD isShift intP strP numD indexAddrD indexD D.pd? D.pds? cells_enc sub capsOf callD argsD argD D.nf enc_agg unP box_enc cellD mkF H00 st1 cD_agg cD_pagg cD_int cD_bool cD_str cD_sl cD_lit cD_own

theorem build25_c5 (F : Fr) : buildD Tryz.prog F 25 [(0, .const (.int .i64 5))] = some (.agg [.p (.int .i64 5), .p (.int .i64 0), .p (.str ⟨#[]⟩), .lit true []]) := by
  have pl25 : placesOf Tryz.prog 25 = some [(0, 1), (1, 1), (2, 1), (3, 1)] := by kernel_rfl
  simp [buildD, z25', pl25, buildD.go, splice]

/-- The list begins: what the loop is handed. -/
theorem read82_list (b : List UInt8) (f : Nat) (k d left : Int) (en c : UInt8) (r : List UInt8) (hk : (k = 4 ∧ en = 41 ∧ c = 40) ∨ (k = 5 ∧ en = 125 ∧ c = 123)) (hb : b.length ≤ 100000) (h : b.drop f = c :: r) (hd : 1 ≤ d) (hl : 1 ≤ left) (hl2 : left ≤ 1000)
    (e : Nat) (he0 : e < b.length) (q : Int) (qd : D) (G : List Blk) (A : List Arr) (hqd : qd = .lit true [] ∨ ∃ m, qd = .own 0 m)
    (hloop : loopO false ⟨0, 0⟩ 82 lp82_1 3 0 (frR b d (left - 1) en (f + 1)) (stL k (.lit true []) [] []) = some (.exit 2, frR b d q en e ++ [(131, .p (.bool false))], stL k qd G A)) :
    ∃ B, E false ⟨0, 0⟩ 82 code82 (mkF 0 (args82 b f d left)) H00 = some (.ret, [(8, .ptr 0 0), (9, .p (.int .i64 (e + 1 : Nat))), (10, .p (.int .i64 q))], ⟨vB k qd :: B, A⟩) := by
  obtain ⟨hlt, hg, hr⟩ := drop_at h
  have he := drop_el h
  have hw : IntKind.i64.wrap (left - 1) = left - 1 := wrap64 (by omega) (by omega)
  have hw1 : IntKind.i64.wrap ((f : Int) + 1) = (f : Int) + 1 := wrap64 (by omega) (by omega)
  have hw2 : IntKind.i64.wrap ((e : Int) + 1) = (e : Int) + 1 := wrap64 (by omega) (by omega)
  have c1 : ¬ (b.length : Int) ≤ f := by omega
  have c1' : ¬ b.length ≤ f := by omega
  have c2 : ¬ d < 1 := by omega
  have c3 : ¬ left < 1 := by omega
  have c4 : ¬ (b.length : Int) ≤ e := by omega
  have c4' : ¬ b.length ≤ e := by omega
  have h01 : ((f + 1 : Nat) : Int) = (f : Int) + 1 := by omega
  simp only [lp82_1, code82, Tryz.f82, frR, stL, vB, zeroB, h01] at hloop
  rcases hk with ⟨rfl, rfl, rfl⟩ | ⟨rfl, rfl, rfl⟩
  · have u1 : (((41 : UInt8).toNat : Nat) : Int) = 41 := rfl
    rw [u1] at hloop
    rcases hqd with rfl | ⟨m, rfl⟩
    · exact ⟨_, by simp [code82, Tryz.f82, args82, zeroB, vB, S_size, S_get, S_at, he, hg, hw, hw1, hw2, c1, c1', c2, c3, c4, c4', z25', build25, build25_c5, splice, hloop]; rfl⟩
    · exact ⟨_, by simp [code82, Tryz.f82, args82, zeroB, vB, S_size, S_get, S_at, he, hg, hw, hw1, hw2, c1, c1', c2, c3, c4, c4', z25', build25, build25_c5, splice, hloop]; rfl⟩
  · have u1 : (((125 : UInt8).toNat : Nat) : Int) = 125 := rfl
    rw [u1] at hloop
    rcases hqd with rfl | ⟨m, rfl⟩
    · exact ⟨_, by simp [code82, Tryz.f82, args82, zeroB, vB, S_size, S_get, S_at, he, hg, hw, hw1, hw2, c1, c1', c2, c3, c4, c4', z25', build25, build25_c5, splice, hloop]; rfl⟩
    · exact ⟨_, by simp [code82, Tryz.f82, args82, zeroB, vB, S_size, S_get, S_at, he, hg, hw, hw1, hw2, c1, c1', c2, c3, c4, c4', z25', build25, build25_c5, splice, hloop]; rfl⟩
/-- The list does not end. -/
theorem read82_open (b : List UInt8) (f : Nat) (k d left : Int) (en c : UInt8) (r : List UInt8) (hk : (k = 4 ∧ en = 41 ∧ c = 40) ∨ (k = 5 ∧ en = 125 ∧ c = 123)) (hb : b.length ≤ 100000) (h : b.drop f = c :: r) (hd : 1 ≤ d) (hl : 1 ≤ left) (hl2 : left ≤ 1000)
    (e : Nat) (he0 : b.length ≤ e) (q : Int) (qd : D) (G : List Blk) (A : List Arr)
    (hloop : loopO false ⟨0, 0⟩ 82 lp82_1 3 0 (frR b d (left - 1) en (f + 1)) (stL k (.lit true []) [] []) = some (.exit 2, frR b d q en e ++ [(131, .p (.bool false))], stL k qd G A)) :
    ∃ B A, E false ⟨0, 0⟩ 82 code82 (mkF 0 (args82 b f d left)) H00 = some (.ret, [(8, .ptr 0 0), (9, .p (.int .i64 (-1))), (10, .p (.int .i64 0))], ⟨zeroB :: B, A⟩) := by
  obtain ⟨hlt, hg, hr⟩ := drop_at h
  have he := drop_el h
  have hw : IntKind.i64.wrap (left - 1) = left - 1 := wrap64 (by omega) (by omega)
  have hw1 : IntKind.i64.wrap ((f : Int) + 1) = (f : Int) + 1 := wrap64 (by omega) (by omega)
  have c1 : ¬ (b.length : Int) ≤ f := by omega
  have c1' : ¬ b.length ≤ f := by omega
  have c2 : ¬ d < 1 := by omega
  have c3 : ¬ left < 1 := by omega
  have c4 : (b.length : Int) ≤ e := by omega
  have h01 : ((f + 1 : Nat) : Int) = (f : Int) + 1 := by omega
  simp only [lp82_1, code82, Tryz.f82, frR, stL, vB, zeroB, h01] at hloop
  rcases hk with ⟨rfl, rfl, rfl⟩ | ⟨rfl, rfl, rfl⟩
  · have u1 : (((41 : UInt8).toNat : Nat) : Int) = 41 := rfl
    rw [u1] at hloop
    exact ⟨_, A, by simp [code82, Tryz.f82, args82, zeroB, vB, S_size, S_get, S_at, he, hg, hw, hw1, c1, c1', c2, c3, c4, he0, z25', build25, build25_c5, splice, hloop]; rfl⟩
  · have u1 : (((125 : UInt8).toNat : Nat) : Int) = 125 := rfl
    rw [u1] at hloop
    exact ⟨_, A, by simp [code82, Tryz.f82, args82, zeroB, vB, S_size, S_get, S_at, he, hg, hw, hw1, c1, c1', c2, c3, c4, he0, z25', build25, build25_c5, splice, hloop]; rfl⟩
/-- A part fails. -/
theorem read82_lfail (b : List UInt8) (f : Nat) (k d left : Int) (en c : UInt8) (r : List UInt8) (hk : (k = 4 ∧ en = 41 ∧ c = 40) ∨ (k = 5 ∧ en = 125 ∧ c = 123)) (hb : b.length ≤ 100000) (h : b.drop f = c :: r) (hd : 1 ≤ d) (hl : 1 ≤ left) (hl2 : left ≤ 1000)
    (B0 : List Blk) (A : List Arr)
    (hloop : loopO false ⟨0, 0⟩ 82 lp82_1 3 0 (frR b d (left - 1) en (f + 1)) (stL k (.lit true []) [] []) = some (.ret, [(8, .ptr 0 0), (9, .p (.int .i64 (-1))), (10, .p (.int .i64 0))], ⟨zeroB :: B0, A⟩)) :
    ∃ B A, E false ⟨0, 0⟩ 82 code82 (mkF 0 (args82 b f d left)) H00 = some (.ret, [(8, .ptr 0 0), (9, .p (.int .i64 (-1))), (10, .p (.int .i64 0))], ⟨zeroB :: B, A⟩) := by
  obtain ⟨hlt, hg, hr⟩ := drop_at h
  have he := drop_el h
  have hw : IntKind.i64.wrap (left - 1) = left - 1 := wrap64 (by omega) (by omega)
  have hw1 : IntKind.i64.wrap ((f : Int) + 1) = (f : Int) + 1 := wrap64 (by omega) (by omega)
  have c1 : ¬ (b.length : Int) ≤ f := by omega
  have c1' : ¬ b.length ≤ f := by omega
  have c2 : ¬ d < 1 := by omega
  have c3 : ¬ left < 1 := by omega
  have h01 : ((f + 1 : Nat) : Int) = (f : Int) + 1 := by omega
  simp only [lp82_1, code82, Tryz.f82, frR, stL, vB, zeroB, h01] at hloop
  rcases hk with ⟨rfl, rfl, rfl⟩ | ⟨rfl, rfl, rfl⟩
  · have u1 : (((41 : UInt8).toNat : Nat) : Int) = 41 := rfl
    rw [u1] at hloop
    exact ⟨_, A, by simp [code82, Tryz.f82, args82, zeroB, vB, S_size, S_get, S_at, he, hg, hw, hw1, c1, c1', c2, c3, z25', build25, build25_c5, splice, hloop]; rfl⟩
  · have u1 : (((125 : UInt8).toNat : Nat) : Int) = 125 := rfl
    rw [u1] at hloop
    exact ⟨_, A, by simp [code82, Tryz.f82, args82, zeroB, vB, S_size, S_get, S_at, he, hg, hw, hw1, c1, c1', c2, c3, z25', build25, build25_c5, splice, hloop]; rfl⟩

theorem fin82z (H : Hp) (f : Nat) (B : List Blk) (A : List Arr) : alone H (fnOut Tryz.prog [.cell 8 25, .tmp 9, .tmp 10] 0 0 (some (.ret, [(8, .ptr 0 0), (9, .p (.int .i64 (-1))), (10, .p (.int .i64 0))], ⟨zeroB :: B, A⟩))) = some (.ret (.tup (out82 f none)), H) := fin97z H B A

theorem read82_W (b : List UInt8) (hb : b.length ≤ 100000) : ∀ (d : Nat), d ≤ 50 → ∀ (f : Nat) (left : Int), f ≤ b.length → left ≤ 200 → ∀ H : Hp,
    W 82 [.p (.str (S b)), .p (.int .i64 f), .p (.int .i64 d), .p (.int .i64 left)] H = some (.ret (.tup (out82 f (rread d (b.drop f) left))), H) := by
  intro d
  induction d with
  | zero =>
    intro _ f left hf hl H
    obtain ⟨B, key⟩ := read82_fail b f 0 left (.inr (.inl (by omega)))
    refine W82_of rfl (by simp) ?_
    have e := fin82z H f B []
    rw [← key] at e
    exact e
  | succ d ih =>
    intro hd f left hf hl H
    refine W82_of rfl (by simp) ?_
    have hd1 : (1 : Int) ≤ ((d + 1 : Nat) : Int) := by omega
    show alone H (fnOut Tryz.prog [.cell 8 25, .tmp 9, .tmp 10] 0 0 (E false ⟨0, 0⟩ 82 code82 (mkF 0 (args82 b f ((d + 1 : Nat) : Int) left)) H00)) = _
    cases hbf : b.drop f with
    | nil =>
      obtain ⟨B, key⟩ := read82_fail b f ((d + 1 : Nat) : Int) left (.inl (drop_no hbf))
      rw [key, fin82z H f]; rfl
    | cons c r =>
      obtain ⟨hlt, _, hr⟩ := drop_at hbf
      have hlen : r.length = b.length - (f + 1) := by rw [← hr, List.length_drop]
      unfold rread
      by_cases h1 : left < 1
      · rw [if_pos h1]
        obtain ⟨B, key⟩ := read82_fail b f ((d + 1 : Nat) : Int) left (.inr (.inr h1))
        rw [key, fin82z H f]
      rw [if_neg h1]
      by_cases c34 : c = 34
      · rw [if_pos c34]
        subst c34
        obtain ⟨k1, k2⟩ := read82_text b f ((d + 1 : Nat) : Int) left r hb hbf hd1 (by omega) (by omega)
        cases hz : r.dropWhile noQ with
        | nil =>
          obtain ⟨B, key⟩ := k1 hz
          rw [key, fin82z H f]
        | cons x r2 =>
          obtain ⟨B, key⟩ := k2 (by rw [hz]; simp)
          rw [key, fin97]
          simp only [out82]
          have : (txt (.mk 3 0 (S (r.takeWhile noQ)) [])).length = (r.takeWhile noQ).length + 2 := by simp [txt, S_data]
          rw [this, Nat.add_assoc]
      rw [if_neg c34]
      have lists : ∀ (k : Int) (en : UInt8), (k = 4 ∧ en = 41 ∧ c = 40) ∨ (k = 5 ∧ en = 125 ∧ c = 123) →
          alone H (fnOut Tryz.prog [.cell 8 25, .tmp 9, .tmp 10] 0 0 (E false ⟨0, 0⟩ 82 code82 (mkF 0 (args82 b f ((d + 1 : Nat) : Int) left)) H00)) =
          some (.ret (.tup (out82 f (match rlist (rread d) en (r.length + 1) true r (left - 1) with | none => none | some (ps, r2, q) => some (.mk k 0 ⟨#[]⟩ ps, r2, q)))), H) := by
        intro k en hk
        have hen : en = 41 ∨ en = 125 := by rcases hk with ⟨_, h, _⟩ | ⟨_, h, _⟩ <;> simp [h]
        have hrec : ∀ (a : Nat) (l : Int), a ≤ b.length → l ≤ 200 → ∀ H, W 82 [.p (.str (S b)), .p (.int .i64 a), .p (.int .i64 (((d + 1 : Nat) : Int) - 1)), .p (.int .i64 l)] H = some (.ret (.tup (out82 a (rread d (b.drop a) l))), H) := fun a l h1 h2 H => by
          rw [show (((d + 1 : Nat) : Int) - 1) = (d : Int) by omega]
          exact ih (by omega) a l h1 h2 H
        have hlp := loopR_ok b ((d + 1 : Nat) : Int) k en hen hb (by omega) (by omega) d hrec (r.length + 1) (f + 1) (left - 1) [] (frR b ((d + 1 : Nat) : Int) (left - 1) en (f + 1)) (stL k (.lit true []) [] [])
          (by omega) (by rw [hr]; omega) (by simp) (by omega) (.inl ⟨rfl, [], rfl⟩) rfl
        rw [hr] at hlp
        rcases hlp with ⟨ps, e, q, H1, h2, h3, hloop, hI⟩ | ⟨h2, ⟨B0, A, hloop⟩ | ⟨e, q, acc', H1, h3, _, hloop, hI⟩⟩
        · have h2' : rlist (rread d) en (r.length + 1) true r (left - 1) = some (ps, b.drop (e + 1), q) := h2
          rw [h2']
          obtain ⟨s1, s2⟩ := rlist_R (rread_R d) en _ _ _ _ _ _ _ h2'
          have hpos : f + (txt (.mk k 0 ⟨#[]⟩ ps)).length = e + 1 := by
            have h4 := congrArg List.length s1
            rw [if_pos rfl, List.length_append, List.length_cons, List.length_drop, hlen] at h4
            have h5 : (txt (.mk k 0 ⟨#[]⟩ ps)).length = (txtL ps).length + 2 := by
              rcases hk with ⟨h, _⟩ | ⟨h, _⟩ <;> subst h <;> simp [txt]
            omega
          simp only [out82]
          rw [hpos]
          rw [List.nil_append] at hI
          rcases hI with ⟨h0, G, rfl⟩ | ⟨h0, m, G, rfl⟩
          · obtain ⟨B, key⟩ := read82_list b f k ((d + 1 : Nat) : Int) left en c r hk hb hbf hd1 (by omega) (by omega) e h3 q (.lit true []) G [] (.inl rfl) hloop
            rw [key, fin97l, h0]
          · obtain ⟨B, key⟩ := read82_list b f k ((d + 1 : Nat) : Int) left en c r hk hb hbf hd1 (by omega) (by omega) e h3 q (.own 0 m) G [rowL m ps] (.inr ⟨m, rfl⟩) hloop
            rw [key, fin97o]
        · have h2' : rlist (rread d) en (r.length + 1) true r (left - 1) = none := h2
          rw [h2']
          obtain ⟨B, A', key⟩ := read82_lfail b f k ((d + 1 : Nat) : Int) left en c r hk hb hbf hd1 (by omega) (by omega) B0 A hloop
          rw [key, fin82z H f]
        · have h2' : rlist (rread d) en (r.length + 1) true r (left - 1) = none := h2
          rw [h2']
          rcases hI with ⟨h0, G, rfl⟩ | ⟨h0, m, G, rfl⟩
          · obtain ⟨B, A', key⟩ := read82_open b f k ((d + 1 : Nat) : Int) left en c r hk hb hbf hd1 (by omega) (by omega) e h3 q _ G _ hloop
            rw [key, fin82z H f]
          · obtain ⟨B, A', key⟩ := read82_open b f k ((d + 1 : Nat) : Int) left en c r hk hb hbf hd1 (by omega) (by omega) e h3 q _ G _ hloop
            rw [key, fin82z H f]
      by_cases c40 : c = 40
      · rw [if_pos c40]
        exact lists 4 41 (.inl ⟨rfl, rfl, c40⟩)
      rw [if_neg c40]
      by_cases c123 : c = 123
      · rw [if_pos c123]
        exact lists 5 125 (.inr ⟨rfl, rfl, c123⟩)
      rw [if_neg c123]
      obtain ⟨k1, k2⟩ := read82_word b f ((d + 1 : Nat) : Int) left c r hb hbf hd1 (by omega) (by omega) c34 c40 c123
      cases hz : plainV ((c :: r).takeWhile wordB) with
      | none =>
        obtain ⟨B, key⟩ := k1 hz
        rw [key, fin82z H f]
      | some v =>
        obtain ⟨B, key⟩ := k2 v hz
        rw [key, fin97]
        simp only [out82]
        rw [(plainV_txt hz).1]

/-! ### ref.Read -/
theorem rlist_all {rd : List UInt8 → Int → Option (Val × List UInt8 × Int)} (Q : Val → Prop) (N : Nat) (hl : ∀ l left v r q, rd l left = some (v, r, q) → r.length ≤ l.length) (h : ∀ l left v r q, l.length ≤ N → rd l left = some (v, r, q) → Q v) (en : UInt8) :
    ∀ (m : Nat) (fst : Bool) (l : List UInt8) (left : Int) (ps : List Val) (r : List UInt8) (q : Int), l.length ≤ N → rlist rd en m fst l left = some (ps, r, q) → ∀ u ∈ ps, Q u
  | 0, _, _, _, _, _, _, _, h0 => by cases h0
  | m + 1, _, [], _, _, _, _, _, h0 => by cases h0
  | m + 1, fst, c :: r0, left, ps, r, q, hN, h0 => by
    unfold rlist at h0
    split at h0
    · simp only [Option.some.injEq, Prod.mk.injEq] at h0
      obtain ⟨rfl, _⟩ := h0
      intro u hu; cases hu
    · split at h0
      · cases h0
      rename_i l1 hl1
      have e1 : l1.length ≤ N := by
        cases fst with
        | true => simp only [if_true, Option.some.injEq] at hl1; rw [← hl1]; exact hN
        | false => 
          simp only [Bool.false_eq_true, if_false] at hl1
          have := congrArg List.length (skip2_is hl1)
          simp only [List.length_cons] at this hN; omega
      split at h0
      · cases h0
      rename_i x l2 q1 hx
      split at h0
      · cases h0
      rename_i ps2 l3 q2 hp
      simp only [Option.some.injEq, Prod.mk.injEq] at h0
      obtain ⟨rfl, _⟩ := h0
      have e2 := hl _ _ _ _ _ hx
      intro u hu
      rcases List.mem_cons.1 hu with e | hu
      · rw [e]; exact h _ _ _ _ _ e1 hx
      · exact rlist_all Q N hl h en m false l2 q1 ps2 l3 q2 (by omega) hp u hu
theorem rread_short {d : Nat} {l : List UInt8} {left : Int} {v : Val} {r : List UInt8} {q : Int} (h : rread d l left = some (v, r, q)) : r.length ≤ l.length := by
  have := congrArg List.length (rread_R d _ _ _ _ _ h).1
  rw [List.length_append] at this; omega
theorem rread_txt : ∀ (d : Nat) (l : List UInt8) (left : Int) (v : Val) (r : List UInt8) (q : Int), l.length ≤ 1000000 → rread d l left = some (v, r, q) → v.txt
  | 0, l, left, v, r, q, hl, h => by simp [rread] at h
  | d + 1, [], left, v, r, q, hl, h => by simp [rread] at h
  | d + 1, c :: r0, left, v, r, q, hl, h => by
    have hl' : r0.length ≤ 1000000 := by simp at hl; omega
    have lists : ∀ (k : Int) (en : UInt8) (ps : List Val) (r2 : List UInt8) (q2 : Int), rlist (rread d) en (r0.length + 1) true r0 (left - 1) = some (ps, r2, q2) → (Val.mk k 0 ⟨#[]⟩ ps).txt := fun k en ps r2 q2 h1 => by
      refine ⟨by simp [ByteArray.size], txts_all ps (rlist_all Val.txt 1000000 (fun l left v r q h => rread_short h) (fun l left v r q hN h => rread_txt d l left v r q hN h) en _ _ _ _ _ _ _ hl' h1)⟩
    unfold rread at h
    split at h
    · cases h
    split at h
    · split at h
      · cases h
      · simp only [Option.some.injEq, Prod.mk.injEq] at h
        rw [← h.1]
        refine ⟨?_, trivial⟩
        rw [S_size]
        have := tw_len noQ r0
        omega
    split at h
    · split at h
      · cases h
      · rename_i h1
        simp only [Option.some.injEq, Prod.mk.injEq] at h
        rw [← h.1]; exact lists 4 41 _ _ _ h1
    split at h
    · split at h
      · cases h
      · rename_i h1
        simp only [Option.some.injEq, Prod.mk.injEq] at h
        rw [← h.1]; exact lists 5 125 _ _ _ h1
    · split at h
      · cases h
      · rename_i x hx
        simp only [Option.some.injEq, Prod.mk.injEq] at h
        rw [← h.1]
        obtain ⟨_, _, ht | ht | ⟨n, _, _, rfl, _⟩⟩ := plainV_txt hx
        · rw [ht.2]; simp [Val.txt, txts, ByteArray.size]
        · rw [ht.2]; simp [Val.txt, txts, ByteArray.size]
        · simp [Val.txt, txts, ByteArray.size]
theorem rlist_nn {rd : List UInt8 → Int → Option (Val × List UInt8 × Int)} (h : ∀ l left v r q, rd l left = some (v, r, q) → 0 ≤ q) (en : UInt8) :
    ∀ (m : Nat) (fst : Bool) (l : List UInt8) (left : Int) (ps : List Val) (r : List UInt8) (q : Int), 0 ≤ left → rlist rd en m fst l left = some (ps, r, q) → 0 ≤ q
  | 0, _, _, _, _, _, _, _, h0 => by cases h0
  | m + 1, _, [], _, _, _, _, _, h0 => by cases h0
  | m + 1, fst, c :: r0, left, ps, r, q, hN, h0 => by
    unfold rlist at h0
    split at h0
    · simp only [Option.some.injEq, Prod.mk.injEq] at h0
      omega
    · split at h0
      · cases h0
      split at h0
      · cases h0
      rename_i x l2 q1 hx
      split at h0
      · cases h0
      rename_i ps2 l3 q2 hp
      simp only [Option.some.injEq, Prod.mk.injEq] at h0
      have := rlist_nn h en m false l2 q1 ps2 l3 q2 (h _ _ _ _ _ hx) hp
      omega
theorem rread_nn : ∀ (d : Nat) (l : List UInt8) (left : Int) (v : Val) (r : List UInt8) (q : Int), rread d l left = some (v, r, q) → 0 ≤ q
  | 0, l, left, v, r, q, h => by simp [rread] at h
  | d + 1, [], left, v, r, q, h => by simp [rread] at h
  | d + 1, c :: r0, left, v, r, q, h => by
    unfold rread at h
    split at h
    · cases h
    rename_i h1
    split at h
    · split at h
      · cases h
      · simp only [Option.some.injEq, Prod.mk.injEq] at h; omega
    split at h
    · split at h
      · cases h
      · rename_i h2
        simp only [Option.some.injEq, Prod.mk.injEq] at h
        have := rlist_nn (rread_nn d) 41 _ _ _ _ _ _ _ (by omega) h2
        omega
    split at h
    · split at h
      · cases h
      · rename_i h2
        simp only [Option.some.injEq, Prod.mk.injEq] at h
        have := rlist_nn (rread_nn d) 125 _ _ _ _ _ _ _ (by omega) h2
        omega
    · split at h
      · cases h
      · simp only [Option.some.injEq, Prod.mk.injEq] at h; omega

theorem read27_W (b : List UInt8) (hb : b.length ≤ 100000) (H : Hp) : W 27 [.p (.str (S b))] H =
    some (.ret (.tup (match rRead b with | some v => [.p (enc v), .p (.bool true)] | none => [.p (enc Val.zero), .p (.bool false)])), H) := by
  refine W27_of rfl (by simp) ?_
  have h82 := fun H => read82_W b hb 8 (by omega) 0 200 (Nat.zero_le _) (by omega) H
  have h00 : ((0 : Nat) : Int) = 0 := rfl
  have h08 : ((8 : Nat) : Int) = 8 := rfl
  rw [h00, h08, List.drop_zero] at h82
  have finz : ∀ (B : List Blk), alone H (fnOut Tryz.prog [.cell 2 25, .tmp 3] 0 0 (some (.ret, [(2, .ptr 0 0), (3, .p (.bool false))], ⟨zeroB :: B, []⟩))) = some (.ret (.tup [.p (enc Val.zero), .p (.bool false)]), H) := fun B => fin122z H B []
  unfold rRead
  cases hr : rread 8 b 200 with
  | none =>
    rw [hr] at h82
    simp only [out82] at h82
    have hne : ¬ (-1 : Int) = (b.length : Int) := by omega
    have key : ∃ B, E false ⟨0, 0⟩ 27 code27 (mkF 0 [.p (.str (S b))]) H00 = some (.ret, [(2, .ptr 0 0), (3, .p (.bool false))], ⟨zeroB :: B, []⟩) :=
      ⟨_, by simp [code27, Tryz.f27, h82, S_size, hne, zeroB, z25', build25, splice]; rfl⟩
    obtain ⟨B, key⟩ := key
    rw [key, finz]
  | some p =>
    obtain ⟨v, r, q⟩ := p
    rw [hr] at h82
    obtain ⟨e1, e2⟩ := rread_R 8 _ _ _ _ _ hr
    have hnn := rread_nn 8 _ _ _ _ _ hr
    have hlen := congrArg List.length e1
    rw [List.length_append] at hlen
    have ht := rread_txt 8 _ _ _ _ _ (by omega) hr
    have hf : v.fine := nodes_fine v (by omega)
    have h19 := fun H => validT_W v hf ht H
    simp only [out82, Nat.zero_add] at h82
    generalize hN : (txt v).length = N at *
    by_cases he : r = []
    · subst he
      have he' : (N : Int) = b.length := by simp at hlen; omega
      rw [he'] at h82
      cases hv : v.valid with
      | false =>
        rw [hv] at h19
        have key : ∃ B, E false ⟨0, 0⟩ 27 code27 (mkF 0 [.p (.str (S b))]) H00 = some (.ret, [(2, .ptr 0 0), (3, .p (.bool false))], ⟨zeroB :: B, []⟩) :=
          ⟨_, by simp [code27, Tryz.f27, h82, S_size, h19, zeroB, z25', build25, splice]; rfl⟩
        obtain ⟨B, key⟩ := key
        rw [key, finz]
        simp [hv]
      | true =>
        rw [hv] at h19
        have key : ∃ B, E false ⟨0, 0⟩ 27 code27 (mkF 0 [.p (.str (S b))]) H00 = some (.ret, [(2, .ptr 0 0), (3, .p (.bool true))], ⟨box25 v :: B, []⟩) :=
          ⟨_, by simp [code27, Tryz.f27, h82, S_size, h19, box25, z25', build25, splice]; rfl⟩
        obtain ⟨B, key⟩ := key
        rw [key, fin122]
        simp [hv]
    · have h0 := List.length_pos_iff.2 he
      have he' : ¬ (N : Int) = b.length := by omega
      have he2 : ¬ N = b.length := by omega
      have key : ∃ B, E false ⟨0, 0⟩ 27 code27 (mkF 0 [.p (.str (S b))]) H00 = some (.ret, [(2, .ptr 0 0), (3, .p (.bool false))], ⟨zeroB :: B, []⟩) :=
        ⟨_, by simp [code27, Tryz.f27, h82, S_size, he', he2, zeroB, z25', build25, splice]; rfl⟩
      obtain ⟨B, key⟩ := key
      rw [key, finz]
      simp [he]
end Go.Vi
end

section
/- Vi: the reader's methods is (f112), run (f113), number (f116). No conditions. -/
namespace Go.Vi
open Go Go.Lib Go.Proofs
set_option maxRecDepth 100000
attribute [local simp] E_skip E_ret E_exit E_text E_draw E_seq E_cond E_block E_scope E_loop runOps runOp runDraw runVF runV finV gate FlOK wantD exec fin opd look putF norm constD constC fieldAddrD loadD storeD opCall lenD binD isShift intP strP numD indexAddrD indexD D.pd? D.pds? cells_enc sub capsOf callD argsD argD D.nf enc_agg unP box_enc cellD mkF H00 st1 cD_agg cD_pagg cD_int cD_bool cD_str cD_sl cD_lit cD_own

theorem pre_take (t l : List UInt8) : t.isPrefixOf l = decide (l.take t.length = t) := by
  rw [Bool.eq_iff_iff, decide_eq_true_eq, List.isPrefixOf_iff_prefix, List.prefix_iff_eq_take]
  exact eq_comm

variable {b : List UInt8} {q n nA : Nat} {M : Nat → List Blk} {A : List Arr}

theorem is_W (rd : Rd (S b) q n nA M) (hA : A.length = nA) (hb : b.length ≤ 100000) (a : Nat) (ha : a ≤ b.length) (t : List UInt8) (ht : t.length ≤ 100) :
    W 112 [.ptr q 0, .p (.str (S t))] ⟨M a, A⟩ = some (.ret (.p (.bool (t.isPrefixOf (b.drop a)))), ⟨M (if t.isPrefixOf (b.drop a) = true then a + t.length else a), A⟩) := by
  refine W112_ofH (by rintro ⟨_, h⟩; simp [D.noRef] at h) (by simp) ?_
  show fnOut Tryz.prog [.tmp 4] (M a).length A.length _ = _
  rw [rd.len, hA]
  have hq := rd.at_ a
  simp only [rdr] at hq
  have hw1 : IntKind.i64.wrap ((b.length : Int) - a) = (b.length : Int) - a := wrap64 (by omega) (by omega)
  have hw2 : IntKind.i64.wrap ((a : Int) + t.length) = (a : Int) + t.length := wrap64 (by omega) (by omega)
  rw [pre_take]
  by_cases h1 : b.length < a + t.length
  · have hne : ¬ (b.drop a).take t.length = t := fun e => by
      have := congrArg List.length e
      rw [List.length_take, List.length_drop] at this; omega
    have c1 : (b.length : Int) - a < t.length := by omega
    have key : E false ⟨0, 0⟩ 112 code112 (mkF 0 [.ptr q 0, .p (.str (S t))]) ⟨M a, A⟩ = some (.ret, [(4, .p (.bool false))], ⟨M a, A⟩) := by
      simp [code112, Tryz.f112, hq, S_size, hw1, c1]
    rw [key, decide_eq_false hne]
    exact fnOut_pure rfl (rd.len a) hA (rd.all a)
  · have c1 : ¬ (b.length : Int) - a < t.length := by omega
    have t1 : ((a : Int) + t.length).toNat = a + t.length := by omega
    have p1 : (a : Int) ≤ (a : Int) + t.length := by omega
    have p2 : (a : Int) + t.length ≤ b.length := by omega
    have hcut := S_cut b a (a + t.length) (by omega)
    rw [show a + t.length - a = t.length by omega] at hcut
    by_cases h2 : (b.drop a).take t.length = t
    · have hset := rd.set a (a + t.length)
      simp only [rdr, show ((a + t.length : Nat) : Int) = (a : Int) + t.length by omega] at hset
      have key : E false ⟨0, 0⟩ 112 code112 (mkF 0 [.ptr q 0, .p (.str (S t))]) ⟨M a, A⟩ = some (.ret, [(4, .p (.bool true))], ⟨M (a + t.length), A⟩) := by
        simp [code112, Tryz.f112, hq, S_size, hw1, hw2, c1, t1, p1, p2, sliceD, boundD, hcut, h2, splice, hset]
      rw [key, decide_eq_true h2]
      exact fnOut_pure rfl (rd.len _) hA (rd.all _)
    · have h3 : ¬ S ((b.drop a).take t.length) = S t := fun e => h2 (S_inj.1 e)
      have key : E false ⟨0, 0⟩ 112 code112 (mkF 0 [.ptr q 0, .p (.str (S t))]) ⟨M a, A⟩ = some (.ret, [(4, .p (.bool false))], ⟨M a, A⟩) := by
        simp [code112, Tryz.f112, hq, S_size, hw1, hw2, c1, t1, p1, p2, sliceD, boundD, hcut, h3]
      rw [key, decide_eq_false h2]
      exact fnOut_pure rfl (rd.len a) hA (rd.all a)

theorem notq_W (c : UInt8) (H : Hp) : W 114 [.p (.int .u8 c.toNat)] H = some (.ret (.p (.bool (noQ c))), H) := by
  refine W114_of rfl (by simp) ?_
  have e : noQ c = !decide ((c.toNat : Int) = 34) := by
    by_cases h : c = 34
    · subst h; rfl
    · have := u8n 34 rfl h
      simp [noQ, h, this]
  have key : E false ⟨0, 0⟩ 114 code114 (mkF 0 [.p (.int .u8 c.toNat)]) H00 = some (.ret, [(2, .p (.bool (noQ c)))], H00) := by
    rw [e]
    simp [code114, Tryz.f114]
  rw [key]
  simp [fnOut, retOut, resD, retsD, retD, oneD, D.noRefs, D.noRef, alone, Hp.cut]
theorem dig141_W (c : UInt8) (H : Hp) : W 141 [.p (.int .u8 c.toNat)] H = some (.ret (.p (.bool (digB c))), H) := by
  refine W141_of rfl (by simp) ?_
  have key : E false ⟨0, 0⟩ 141 code141 (mkF 0 [.p (.int .u8 c.toNat)]) H00 = some (.ret, [(2, .p (.bool (digB c)))], H00) := by
    unfold digB
    by_cases h : 48 ≤ c.toNat
    · have h1 : (48 : Int) ≤ c.toNat := by omega
      by_cases h2 : c.toNat ≤ 57
      · have h3 : (c.toNat : Int) ≤ 57 := by omega
        simp [code141, Tryz.f141, h, h1, h2, h3]
      · have h3 : ¬ (c.toNat : Int) ≤ 57 := by omega
        simp [code141, Tryz.f141, h, h1, h2, h3]
    · have h1 : ¬ (48 : Int) ≤ c.toNat := by omega
      simp [code141, Tryz.f141, h, h1]
  rw [key]
  simp [fnOut, retOut, resD, retsD, retD, oneD, D.noRefs, D.noRef, alone, Hp.cut]

/-! ### run -/
def fr113 (q g i : Nat) : Fr := [(0, .ptr q 0), (1, .p (.fn g)), (5, .p (.int .i64 i))]
theorem body113_end (rd : Rd (S b) q n nA M) (g i a : Nat) (h : b.length ≤ i) : E false ⟨0, 0⟩ 113 lp113_0 (fr113 q g i) ⟨M a, A⟩ = some (.exit 0, fr113 q g i ++ [(27, .p (.bool false))], ⟨M a, A⟩) := by
  have hq := rd.at_ a
  simp only [rdr] at hq
  have c1 : ¬ (i : Int) < b.length := by omega
  have c2 : ¬ i < b.length := by omega
  simp [fr113, lp113_0, code113, Tryz.f113, hq, S_size, c1, c2]
theorem body113_step (rd : Rd (S b) q n nA M) (g i a : Nat) (hg1000 : g < 1000000000) (p : UInt8 → Bool) (hg : ∀ (c : UInt8) (H : Hp), W g [.p (.int .u8 c.toNat)] H = some (.ret (.p (.bool (p c))), H)) (c : UInt8) (r : List UInt8) (h : b.drop i = c :: r) (hb : b.length ≤ 100000) (hown : hn.ownArg g = false) :
    E false ⟨0, 0⟩ 113 lp113_0 (fr113 q g i) ⟨M a, A⟩ = if p c = true then some (.normal, fr113 q g (i + 1), ⟨M a, A⟩) else some (.exit 0, fr113 q g i ++ [(27, .p (.bool false))], ⟨M a, A⟩) := by
  have hq := rd.at_ a
  simp only [rdr] at hq
  obtain ⟨hlt, hgt, _⟩ := drop_at h
  have he := drop_el h
  have hc := hg c
  have hw1 : IntKind.i64.wrap ((i : Int) + 1) = (i : Int) + 1 := wrap64 (by omega) (by omega)
  cases hp : p c with
  | true =>
    rw [hp] at hc
    simp [fr113, lp113_0, code113, Tryz.f113, hq, S_size, S_get, S_at, he, hgt, hlt, hc, hg1000, hown, hw1]
  | false =>
    rw [hp] at hc
    simp [fr113, lp113_0, code113, Tryz.f113, hq, S_size, S_get, S_at, he, hgt, hlt, hc, hg1000, hown]
theorem loop113 (rd : Rd (S b) q n nA M) (hA : A.length = nA) (g a : Nat) (hg1000 : g < 1000000000) (p : UInt8 → Bool) (hg : ∀ (c : UInt8) (H : Hp), W g [.p (.int .u8 c.toNat)] H = some (.ret (.p (.bool (p c))), H)) (hb : b.length ≤ 100000) (hown : hn.ownArg g = false) :
    ∀ (l : List UInt8) (i : Nat) (F : Fr), b.drop i = l → norm [0, 1, 5] F = fr113 q g i →
    loopO false ⟨0, 0⟩ 113 lp113_0 n nA F ⟨M a, A⟩ = some (.exit 0, fr113 q g (i + (l.takeWhile p).length) ++ [(27, .p (.bool false))], ⟨M a, A⟩) := by
  have hcut : ∀ F, cutD ⟨0, 0⟩ [0, 1, 5] n nA F ⟨M a, A⟩ = some (norm [0, 1, 5] F, ⟨M a, A⟩) := fun F => by
    have := cut_full ⟨0, 0⟩ [0, 1, 5] F ⟨M a, A⟩
    rw [show (⟨M a, A⟩ : Hp).B.length = n from rd.len a, show (⟨M a, A⟩ : Hp).A.length = nA from hA] at this
    exact this
  intro l
  induction l with
  | nil =>
    intro i F h hF
    rw [loopO_eq, hd113_0, hcut, hF]
    simp only [body113_end rd g i a (drop_no h)]
    rfl
  | cons c r ih =>
    intro i F h hF
    obtain ⟨_, _, hr⟩ := drop_at h
    rw [loopO_eq, hd113_0, hcut, hF]
    simp only [body113_step rd g i a hg1000 p hg c r h hb hown]
    by_cases hc : p c = true
    · rw [if_pos hc]
      simp only
      rw [ih (i + 1) (fr113 q g (i + 1)) hr rfl]
      rw [List.takeWhile_cons, if_pos hc, List.length_cons, show i + 1 + (r.takeWhile p).length = i + ((r.takeWhile p).length + 1) by omega]
    · rw [if_neg hc, List.takeWhile_cons, if_neg hc]
      rfl
theorem run_W (rd : Rd (S b) q n nA M) (hA : A.length = nA) (g a : Nat) (ha : a ≤ b.length) (hg1000 : g < 1000000000) (p : UInt8 → Bool) (hg : ∀ (c : UInt8) (H : Hp), W g [.p (.int .u8 c.toNat)] H = some (.ret (.p (.bool (p c))), H)) (hb : b.length ≤ 100000) (hown : hn.ownArg g = false) :
    W 113 [.ptr q 0, .p (.fn g)] ⟨M a, A⟩ = some (.ret (.p (.str (S ((b.drop a).takeWhile p)))), ⟨M (a + ((b.drop a).takeWhile p).length), A⟩) := by
  refine W113_ofH (by rintro ⟨_, h⟩; simp [D.noRef] at h) (by simp) ?_
  show fnOut Tryz.prog [.tmp 4] (M a).length A.length _ = _
  rw [rd.len, hA]
  have hloop := loop113 rd hA g a hg1000 p hg hb hown (b.drop a) a (fr113 q g a) rfl rfl
  obtain ⟨q1, _⟩ := tw_take p (b.drop a)
  have q3 := tw_len p (b.drop a)
  rw [List.length_drop] at q3
  have hcut := S_cut b a (a + ((b.drop a).takeWhile p).length) (by omega)
  rw [show a + ((b.drop a).takeWhile p).length - a = ((b.drop a).takeWhile p).length by omega, q1] at hcut
  have hl := rd.len a
  generalize hD : (b.drop a).takeWhile p = ds at *
  have hq := rd.at_ a
  have hset := rd.set a (a + ds.length)
  simp only [rdr, show ((a + ds.length : Nat) : Int) = (a : Int) + ds.length by omega] at hq hset
  have t1 : ((a : Int) + ds.length).toNat = a + ds.length := by omega
  have p1 : (a : Int) ≤ (a : Int) + ds.length := by omega
  have p2 : (a : Int) + ds.length ≤ b.length := by omega
  simp only [lp113_0, code113, Tryz.f113, fr113, show ((a + ds.length : Nat) : Int) = (a : Int) + ds.length by omega] at hloop
  have key : E false ⟨0, 0⟩ 113 code113 (mkF 0 [.ptr q 0, .p (.fn g)]) ⟨M a, A⟩ = some (.ret, [(4, .p (.str (S ds)))], ⟨M (a + ds.length), A⟩) := by
    simp [code113, Tryz.f113, hq, hl, hA, S_size, t1, p1, p2, sliceD, boundD, hcut, splice, hset, hloop]
  rw [key]
  exact fnOut_pure rfl (rd.len _) hA (rd.all _)
end Go.Vi
end
