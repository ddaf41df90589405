/- It is proved here what some calls with given arguments answer, by computing them; no condition. -/
import Derived.Test.YtjkpdlloccnilaaGreatDoorMF
set_option linter.unusedVariables false
set_option linter.unusedSimpArgs false

section
/- Vi: kernel runs in the fast evaluator. No conditions. -/
namespace Go.Vi
open Go Go.Lib Go.Proofs
theorem run_fast {sem : FuncId → Option (List D → Option D)} {ok : FuncId → Bool} (hok : ∀ f, ok f = true → okFn Tryz.prog ch f = true) (hsem : SemOK Tryz.prog hn ch others sem) (n : Nat) : CalLe (calS Tryz.prog hn ch others doesN sem ok n) (calW Tryz.prog hn ch others) :=
  calS_le hok hsem doesN_le n
end Go.Vi
end

section
/- Vi: kernel runs in the fast evaluator, with calls that are known already. No conditions but those that stand with each. -/
namespace Go.Vi
open Go Go.Lib Go.Proofs
set_option maxRecDepth 100000

/-- A call and its answer. -/
abbrev TabE := FuncId × List D × D
def findT (a : List D) : List TabE → Option D
  | [] => none
  | e :: r => if D.eqbs a e.2.1 = true then some e.2.2 else findT a r
noncomputable def semT (tab : List TabE) (f : FuncId) : Option (List D → Option D) :=
  match tab.filter fun e => Nat.beq e.1 f with
  | [] => none
  | e :: r => some fun a => findT a (e :: r)
def TabOK (tab : List TabE) : Prop := ∀ e ∈ tab, ∀ H, W e.1 e.2.1 H = some (.ret e.2.2, H)
theorem findT_mem {a : List D} {d : D} : ∀ {l : List TabE}, findT a l = some d → ∃ e ∈ l, e.2.1 = a ∧ e.2.2 = d
  | [], h => by cases h
  | e :: r, h => by
    unfold findT at h
    split at h
    · rename_i he
      injection h with h
      exact ⟨e, by simp, (D.eqbs_eq _ _ he).symm, h⟩
    · obtain ⟨e', h1, h2⟩ := findT_mem h
      exact ⟨e', by simp [h1], h2⟩
theorem semT_ok {tab : List TabE} (h : TabOK tab) : SemOK Tryz.prog hn ch others (semT tab) := by
  intro f s args d hs hd H
  unfold semT at hs
  split at hs
  · cases hs
  · rename_i e r he
    injection hs with hs
    subst hs
    obtain ⟨e', h1, h2, h3⟩ := findT_mem hd
    rw [← he, List.mem_filter, Nat.beq_eq] at h1
    have := h e' h1.1 H
    rw [h1.2, h2, h3] at this
    exact this
theorem tab_nil : TabOK [] := fun e he => by cases he
theorem tab_cons {e : TabE} {tab : List TabE} (h1 : ∀ H, W e.1 e.2.1 H = some (.ret e.2.2, H)) (h : TabOK tab) : TabOK (e :: tab) := by
  intro e' he H
  rcases List.mem_cons.1 he with rfl | he
  · exact h1 H
  · exact h e' he H

def okT (l : List FuncId) (f : FuncId) : Bool := l.any fun g => Nat.beq g f
theorem okT_ok {l : List FuncId} (h : l.all (fun f => okFn Tryz.prog ch f) = true) (f : FuncId) (hf : okT l f = true) : okFn Tryz.prog ch f = true := by
  unfold okT at hf
  rw [List.any_eq_true] at hf
  obtain ⟨g, hg, e⟩ := hf
  rw [Nat.beq_eq] at e
  subst e
  exact List.all_eq_true.1 h g hg
/-- What must be so of a call that is looked at alone. -/
noncomputable def condT (l : List FuncId) (e : TabE) : Bool := !(Nat.ble YB e.1) && (!isX e.1 && (okT l e.1 && (!ch.lend e.1 && (ch.pure e.1 && (allS (noRefS 0 0) e.2.1 && noRefS 0 0 e.2.2)))))
theorem run_tab {l : List FuncId} (hl : l.all (fun f => okFn Tryz.prog ch f) = true) {tab : List TabE} (ht : TabOK tab) (n : Nat) {e : TabE} (hc : condT l e = true)
    (h : (funB (pqX Tryz.prog ch others) Tryz.prog hn ch e.1).val n (calS Tryz.prog hn ch others doesN (semT tab) (okT l) n) e.2.1 H00 = some (.ret e.2.2, H00)) (H : Hp) : W e.1 e.2.1 H = some (.ret e.2.2, H) := by
  obtain ⟨f, args, d⟩ := e
  simp only [condT, Bool.and_eq_true, Bool.not_eq_true', allS_eq] at hc
  obtain ⟨c1, c2, c3, c4, c5, c6, c7⟩ := hc
  have hYB : ¬ YB ≤ f := by
    intro e
    have : Nat.ble YB f = true := by rw [Nat.ble_eq]; exact e
    rw [this] at c1
    cases c1
  have hall : args.all (D.noRef 0 0) = true := by
    rw [List.all_eq_true] at c6 ⊢
    exact fun x hx => by rw [← noRefS_eq]; exact c6 x hx
  refine calW_of ?_
  simp only [calF]
  rw [if_neg hYB, if_neg (by show ¬ isX f = true; rw [c2]; simp), if_neg (by rw [c4]; simp), if_pos ⟨c5, hall⟩]
  have h1 : evalFun Tryz.prog hn ch (calW Tryz.prog hn ch others) f args H00 = some (.ret d, H00) := evalFunN_le (calS_pq n) (calS_le (okT_ok hl) (semT_ok ht) doesN_le n) (okT_ok hl f c3) (funB_le _ _ _ _ h)
  rw [h1]
  show (if D.noRef 0 0 d = true then some (Out.ret d, H) else none) = _
  rw [if_pos (by rw [← noRefS_eq]; exact c7)]
end Go.Vi
end

section
/- Vi: layer 5: the chapter's examples: runs in the kernel. No conditions. -/
namespace Go.Vi
open Go Go.Lib Go.Proofs
set_option maxRecDepth 100000
def by_ (l : List UInt8) : ByteArray := ⟨⟨l⟩⟩
def tkF : List FuncId := [14, 15, 16, 20, 23, 24, 29, 32, 35, 39, 52, 53, 54, 55, 56, 57, 58, 59, 60, 61, 62, 63, 64, 69, 70, 71, 72, 75, 76, 77, 93, 94, 95, 96, 98, 99, 100, 101, 104, 107, 108, 109, 110, 111, 112, 114, 115, 116, 133, 141, 142, 143, 144, 145, 146, 147, 148, 149, 150, 152, 153, 154, 155, 156, 170, 176, 177, 178, 179, 180, 181, 183, 184, 185, 186, 187, 188, 190, 191, 192, 206, 207, 208, 209, 213, 219, 220, 221, 226, 229, 265, 269, 270, 272, 273, 275, 278, 279, 282, 283, 284, 287, 288]
theorem tkF_ok : tkF.all (fun f => okFn Tryz.prog ch f) = true := by kernel_rfl
theorem tkT0 : TabOK [] := tab_nil
/-! ### sward/lex.Name (7750 operations) -/
def tke1 : TabE := (76, [(.p (.str (by_ [120])))], (.p (.bool true)))
theorem tkr1 : (funB (pqX Tryz.prog ch others) Tryz.prog hn ch tke1.1).val 400 (calS Tryz.prog hn ch others doesN (semT []) (okT tkF) 400) tke1.2.1 H00 = some (.ret tke1.2.2, H00) := by kernel_rfl
theorem tkw1 (H : Hp) : W tke1.1 tke1.2.1 H = some (.ret tke1.2.2, H) := run_tab tkF_ok tkT0 400 (by kernel_rfl) tkr1 H
def tkl1 : List TabE := tke1 :: []
theorem tkT1 : TabOK tkl1 := tab_cons tkw1 tkT0
/-! ### sward/lex.Name (7750 operations) -/
def tke2 : TabE := (76, [(.p (.str (by_ [110])))], (.p (.bool true)))
theorem tkr2 : (funB (pqX Tryz.prog ch others) Tryz.prog hn ch tke2.1).val 400 (calS Tryz.prog hn ch others doesN (semT tkl1) (okT tkF) 400) tke2.2.1 H00 = some (.ret tke2.2.2, H00) := by kernel_rfl
theorem tkw2 (H : Hp) : W tke2.1 tke2.2.1 H = some (.ret tke2.2.2, H) := run_tab tkF_ok tkT1 400 (by kernel_rfl) tkr2 H
def tkl2 : List TabE := tke2 :: tkl1
theorem tkT2 : TabOK tkl2 := tab_cons tkw2 tkT1
/-! ### sward/lex.Name (7750 operations) -/
def tke3 : TabE := (76, [(.p (.str (by_ [115])))], (.p (.bool true)))
theorem tkr3 : (funB (pqX Tryz.prog ch others) Tryz.prog hn ch tke3.1).val 400 (calS Tryz.prog hn ch others doesN (semT tkl2) (okT tkF) 400) tke3.2.1 H00 = some (.ret tke3.2.2, H00) := by kernel_rfl
theorem tkw3 (H : Hp) : W tke3.1 tke3.2.1 H = some (.ret tke3.2.2, H) := run_tab tkF_ok tkT2 400 (by kernel_rfl) tkr3 H
def tkl3 : List TabE := tke3 :: tkl2
theorem tkT3 : TabOK tkl3 := tab_cons tkw3 tkT2
/-! ### sward/swardlaw05.known (9694 operations) -/
def tke4 : TabE := (14, [], (.p (.bool true)))
theorem tkr4 : (funB (pqX Tryz.prog ch others) Tryz.prog hn ch tke4.1).val 400 (calS Tryz.prog hn ch others doesN (semT tkl3) (okT tkF) 400) tke4.2.1 H00 = some (.ret tke4.2.2, H00) := by kernel_rfl
theorem tkw4 (H : Hp) : W tke4.1 tke4.2.1 H = some (.ret tke4.2.2, H) := run_tab tkF_ok tkT3 400 (by kernel_rfl) tkr4 H
def tkl4 : List TabE := tke4 :: tkl3
theorem tkT4 : TabOK tkl4 := tab_cons tkw4 tkT3
theorem known_W (H : Hp) : W 14 [] H = some (.ret (.p (.bool true)), H) := tkw4 H
end Go.Vi
end
