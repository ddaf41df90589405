/- It is proved here what some calls with given arguments answer, by computing them; no condition. -/
import Derived.Test.YtodgddpkbmanoaaGreatDoorMFA
import Derived.Test.YtodgddpkbmanoaaGreatDoorMF
set_option linter.unusedVariables false
set_option linter.unusedSimpArgs false

section
/- Vi: kernel runs in the fast evaluator. No conditions. -/
namespace Go.Vi
open Go Go.Lib Go.Proofs
theorem run_fast {sem : FuncId → Option (List D → Option D)} {ok : FuncId → Bool} (hok : ∀ f, ok f = true → okFn Tryz.prog ch f = true) (hsem : SemOK Tryz.prog hn ch others sem) (n : Nat) : CalLe (calS Tryz.prog hn ch others doesN sem ok n) (calW Tryz.prog hn ch others) :=
  calS_le hok hsem doesN_le n
end Go.Vi
end

section
/- Vi: kernel runs in the fast evaluator, with calls that are known already. No conditions but those that stand with each. -/
namespace Go.Vi
open Go Go.Lib Go.Proofs
set_option maxRecDepth 100000

/-- A call and its answer. -/
abbrev TabE := FuncId × List D × D
def findT (a : List D) : List TabE → Option D
  | [] => none
  | e :: r => if D.eqbs a e.2.1 = true then some e.2.2 else findT a r
noncomputable def semT (tab : List TabE) (f : FuncId) : Option (List D → Option D) :=
  match tab.filter fun e => Nat.beq e.1 f with
  | [] => none
  | e :: r => some fun a => findT a (e :: r)
def TabOK (tab : List TabE) : Prop := ∀ e ∈ tab, ∀ H, W e.1 e.2.1 H = some (.ret e.2.2, H)
theorem findT_mem {a : List D} {d : D} : ∀ {l : List TabE}, findT a l = some d → ∃ e ∈ l, e.2.1 = a ∧ e.2.2 = d
  | [], h => by cases h
  | e :: r, h => by
    unfold findT at h
    split at h
    · rename_i he
      injection h with h
      exact ⟨e, by simp, (D.eqbs_eq _ _ he).symm, h⟩
    · obtain ⟨e', h1, h2⟩ := findT_mem h
      exact ⟨e', by simp [h1], h2⟩
theorem semT_ok {tab : List TabE} (h : TabOK tab) : SemOK Tryz.prog hn ch others (semT tab) := by
  intro f s args d hs hd H
  unfold semT at hs
  split at hs
  · cases hs
  · rename_i e r he
    injection hs with hs
    subst hs
    obtain ⟨e', h1, h2, h3⟩ := findT_mem hd
    rw [← he, List.mem_filter, Nat.beq_eq] at h1
    have := h e' h1.1 H
    rw [h1.2, h2, h3] at this
    exact this
theorem tab_nil : TabOK [] := fun e he => by cases he
theorem tab_cons {e : TabE} {tab : List TabE} (h1 : ∀ H, W e.1 e.2.1 H = some (.ret e.2.2, H)) (h : TabOK tab) : TabOK (e :: tab) := by
  intro e' he H
  rcases List.mem_cons.1 he with rfl | he
  · exact h1 H
  · exact h e' he H

def okT (l : List FuncId) (f : FuncId) : Bool := l.any fun g => Nat.beq g f
theorem okT_ok {l : List FuncId} (h : l.all (fun f => okFn Tryz.prog ch f) = true) (f : FuncId) (hf : okT l f = true) : okFn Tryz.prog ch f = true := by
  unfold okT at hf
  rw [List.any_eq_true] at hf
  obtain ⟨g, hg, e⟩ := hf
  rw [Nat.beq_eq] at e
  subst e
  exact List.all_eq_true.1 h g hg
/-- What must be so of a call that is looked at alone. -/
noncomputable def condT (l : List FuncId) (e : TabE) : Bool := !(Nat.ble YB e.1) && (!isX e.1 && (okT l e.1 && (!ch.lend e.1 && (ch.pure e.1 && (allS (noRefS 0 0) e.2.1 && noRefS 0 0 e.2.2)))))
theorem run_tab {l : List FuncId} (hl : l.all (fun f => okFn Tryz.prog ch f) = true) {tab : List TabE} (ht : TabOK tab) (n : Nat) {e : TabE} (hc : condT l e = true)
    (h : (funB (pqX Tryz.prog ch others) Tryz.prog hn ch e.1).val n (calS Tryz.prog hn ch others doesN (semT tab) (okT l) n) e.2.1 H00 = some (.ret e.2.2, H00)) (H : Hp) : W e.1 e.2.1 H = some (.ret e.2.2, H) := by
  obtain ⟨f, args, d⟩ := e
  simp only [condT, Bool.and_eq_true, Bool.not_eq_true', allS_eq] at hc
  obtain ⟨c1, c2, c3, c4, c5, c6, c7⟩ := hc
  have hYB : ¬ YB ≤ f := by
    intro e
    have : Nat.ble YB f = true := by rw [Nat.ble_eq]; exact e
    rw [this] at c1
    cases c1
  have hall : args.all (D.noRef 0 0) = true := by
    rw [List.all_eq_true] at c6 ⊢
    exact fun x hx => by rw [← noRefS_eq]; exact c6 x hx
  refine calW_of ?_
  simp only [calF]
  rw [if_neg hYB, if_neg (by show ¬ isX f = true; rw [c2]; simp), if_neg (by rw [c4]; simp), if_pos ⟨c5, hall⟩]
  have h1 : evalFun Tryz.prog hn ch (calW Tryz.prog hn ch others) f args H00 = some (.ret d, H00) := evalFunN_le (calS_pq n) (calS_le (okT_ok hl) (semT_ok ht) doesN_le n) (okT_ok hl f c3) (funB_le _ _ _ _ h)
  rw [h1]
  show (if D.noRef 0 0 d = true then some (Out.ret d, H) else none) = _
  rw [if_pos (by rw [← noRefS_eq]; exact c7)]
end Go.Vi
end

section
/- Vi: layer 11: the chapter's module is read, and its problem found: runs in the kernel. No conditions. -/
namespace Go.Vi
open Go Go.Lib Go.Proofs
set_option maxRecDepth 100000
def by_ (l : List UInt8) : ByteArray := ⟨⟨l⟩⟩
def kwD : D := (.p (.str (by_ [97, 108, 108, 32, 97, 110, 100, 32, 98, 111, 111, 108, 32, 98, 121, 32, 99, 111, 117, 110, 116, 32, 101, 108, 115, 101, 32, 102, 97, 108, 115, 101, 32, 102, 105, 120, 32, 102, 111, 114, 32, 102, 114, 111, 109, 32, 103, 114, 101, 97, 116, 32, 105, 102, 32, 105, 110, 32, 105, 110, 116, 32, 108, 97, 119, 32, 108, 101, 97, 115, 116, 32, 109, 101, 101, 116, 32, 109, 105, 110, 117, 115, 32, 109, 111, 100, 117, 108, 101, 32, 110, 111, 110, 101, 32, 110, 111, 116, 32, 111, 112, 32, 111, 114, 32, 112, 105, 99, 107, 32, 115, 111, 109, 101, 32, 115, 117, 109, 32, 116, 101, 120, 116, 32, 116, 104, 101, 110, 32, 116, 114, 117, 101, 32, 117, 110, 105, 111, 110, 32, 118, 97, 114, 32, 119, 104, 105, 108, 101, 32, 119, 105, 116, 104, 105, 110])))
def mD : D := (.p (.str (by_ [109, 111, 100, 117, 108, 101, 32, 109, 32, 123, 32, 118, 97, 114, 32, 97, 32, 58, 32, 123, 105, 110, 116, 32, 48, 46, 46, 57, 125, 32, 53, 32, 61, 32, 123, 125, 59, 32, 118, 97, 114, 32, 98, 32, 58, 32, 123, 116, 101, 120, 116, 125, 32, 52, 32, 61, 32, 123, 125, 59, 32, 111, 112, 32, 102, 40, 120, 32, 58, 32, 105, 110, 116, 32, 48, 46, 46, 57, 41, 32, 123, 32, 97, 32, 43, 61, 32, 123, 120, 44, 32, 49, 125, 59, 32, 105, 102, 32, 120, 32, 105, 110, 32, 97, 32, 123, 32, 98, 32, 58, 61, 32, 98, 59, 32, 125, 32, 102, 111, 114, 32, 121, 32, 105, 110, 32, 97, 32, 123, 32, 97, 32, 45, 61, 32, 123, 121, 125, 59, 32, 125, 32, 125, 32, 108, 97, 119, 32, 108, 32, 61, 32, 99, 111, 117, 110, 116, 40, 97, 41, 32, 60, 32, 57, 59, 32, 125])))
def modD : D := (.p (.agg [(.str (by_ [109])), (.sl [(.agg [(.str (by_ [97])), (.int .i64 6), (.int .i64 0), (.int .i64 0), (.int .i64 5), (.sl [(.agg [(.int .i64 2), (.int .i64 0), (.int .i64 9), (.int .i64 0), (.sl [])])]), (.int .i64 7), (.int .i64 0), (.str (by_ [])), (.sl []), (.sl [])]), (.agg [(.str (by_ [98])), (.int .i64 6), (.int .i64 0), (.int .i64 0), (.int .i64 4), (.sl [(.agg [(.int .i64 4), (.int .i64 0), (.int .i64 0), (.int .i64 0), (.sl [])])]), (.int .i64 7), (.int .i64 0), (.str (by_ [])), (.sl []), (.sl [])])]), (.sl [(.agg [(.str (by_ [102])), (.sl [(.agg [(.str (by_ [120])), (.int .i64 2), (.int .i64 0), (.int .i64 9), (.int .i64 0), (.sl [])])]), (.sl [(.agg [(.int .i64 2), (.str (by_ [97])), (.int .i64 7), (.int .i64 0), (.str (by_ [])), (.sl []), (.sl [(.agg [(.int .i64 4), (.int .i64 0), (.str (by_ [120])), (.sl []), (.sl [])]), (.agg [(.int .i64 1), (.int .i64 1), (.str (by_ [])), (.sl []), (.sl [])])]), (.sl []), (.sl [])]), (.agg [(.int .i64 5), (.str (by_ [])), (.int .i64 11), (.int .i64 0), (.str (by_ [])), (.sl []), (.sl [(.agg [(.int .i64 4), (.int .i64 0), (.str (by_ [120])), (.sl []), (.sl [])]), (.agg [(.int .i64 4), (.int .i64 0), (.str (by_ [97])), (.sl []), (.sl [])])]), (.sl [(.agg [(.int .i64 1), (.str (by_ [98])), (.int .i64 4), (.int .i64 0), (.str (by_ [98])), (.sl []), (.sl []), (.sl []), (.sl [])])]), (.sl [])]), (.agg [(.int .i64 7), (.str (by_ [121])), (.int .i64 4), (.int .i64 0), (.str (by_ [97])), (.sl []), (.sl []), (.sl [(.agg [(.int .i64 3), (.str (by_ [97])), (.int .i64 7), (.int .i64 0), (.str (by_ [])), (.sl []), (.sl [(.agg [(.int .i64 4), (.int .i64 0), (.str (by_ [121])), (.sl []), (.sl [])])]), (.sl []), (.sl [])])]), (.sl [])])])])]), (.sl [(.agg [(.str (by_ [108])), (.int .i64 14), (.int .i64 0), (.str (by_ [])), (.sl []), (.sl [(.agg [(.int .i64 26), (.int .i64 0), (.str (by_ [])), (.sl []), (.sl [(.agg [(.int .i64 4), (.int .i64 0), (.str (by_ [97])), (.sl []), (.sl [])])])]), (.agg [(.int .i64 1), (.int .i64 9), (.str (by_ [])), (.sl []), (.sl [])])])])])]))
def tuF : List FuncId := [9, 34, 36, 37, 38, 39, 40, 41, 72, 73, 74, 75, 76, 77, 78, 79, 80, 103, 104, 105, 106, 107, 108, 109, 110, 111, 112, 113, 114, 115, 116, 117, 118, 119, 120, 121, 122, 123, 124, 125, 126, 127, 129, 143, 144, 145, 146, 147, 149, 150, 151, 153, 154, 155, 156, 157, 158, 159, 160, 161, 162, 163, 164, 165, 166, 167, 168, 169, 170, 171, 172, 183, 184, 185, 187, 188, 189, 190, 191, 192, 193, 194, 195, 196, 197, 198, 199, 201, 203, 204, 205, 206, 221, 222, 226, 229]
theorem tuF_ok : tuF.all (fun f => okFn Tryz.prog ch f) = true := by kernel_rfl
theorem tuT0 : TabOK [] := tab_nil
/-! ### strings.Fields (7400 operations) -/
def tue1 : TabE := (193, [kwD], (.p (.sl [(.str (by_ [97, 108, 108])), (.str (by_ [97, 110, 100])), (.str (by_ [98, 111, 111, 108])), (.str (by_ [98, 121])), (.str (by_ [99, 111, 117, 110, 116])), (.str (by_ [101, 108, 115, 101])), (.str (by_ [102, 97, 108, 115, 101])), (.str (by_ [102, 105, 120])), (.str (by_ [102, 111, 114])), (.str (by_ [102, 114, 111, 109])), (.str (by_ [103, 114, 101, 97, 116])), (.str (by_ [105, 102])), (.str (by_ [105, 110])), (.str (by_ [105, 110, 116])), (.str (by_ [108, 97, 119])), (.str (by_ [108, 101, 97, 115, 116])), (.str (by_ [109, 101, 101, 116])), (.str (by_ [109, 105, 110, 117, 115])), (.str (by_ [109, 111, 100, 117, 108, 101])), (.str (by_ [110, 111, 110, 101])), (.str (by_ [110, 111, 116])), (.str (by_ [111, 112])), (.str (by_ [111, 114])), (.str (by_ [112, 105, 99, 107])), (.str (by_ [115, 111, 109, 101])), (.str (by_ [115, 117, 109])), (.str (by_ [116, 101, 120, 116])), (.str (by_ [116, 104, 101, 110])), (.str (by_ [116, 114, 117, 101])), (.str (by_ [117, 110, 105, 111, 110])), (.str (by_ [118, 97, 114])), (.str (by_ [119, 104, 105, 108, 101])), (.str (by_ [119, 105, 116, 104, 105, 110]))])))
theorem tur1 : (funB (pqX Tryz.prog ch others) Tryz.prog hn ch tue1.1).val 400 (calS Tryz.prog hn ch others doesN (semT []) (okT tuF) 400) tue1.2.1 H00 = some (.ret tue1.2.2, H00) := by kernel_rfl
theorem tuw1 (H : Hp) : W tue1.1 tue1.2.1 H = some (.ret tue1.2.2, H) := run_tab tuF_ok tuT0 400 (by kernel_rfl) tur1 H
def tul1 : List TabE := tue1 :: []
theorem tuT1 : TabOK tul1 := tab_cons tuw1 tuT0
/-! ### sward/swardref02.Read (37453 operations) -/
def tue2 : TabE := (72, [mD], (.tup [(.p (.sl [(.agg [(.int .i64 2), (.str (by_ [109, 111, 100, 117, 108, 101])), (.int .i64 0), (.int .i64 0)]), (.agg [(.int .i64 1), (.str (by_ [109])), (.int .i64 0), (.int .i64 7)]), (.agg [(.int .i64 5), (.str (by_ [123])), (.int .i64 0), (.int .i64 9)]), (.agg [(.int .i64 2), (.str (by_ [118, 97, 114])), (.int .i64 0), (.int .i64 11)]), (.agg [(.int .i64 1), (.str (by_ [97])), (.int .i64 0), (.int .i64 15)]), (.agg [(.int .i64 5), (.str (by_ [58])), (.int .i64 0), (.int .i64 17)]), (.agg [(.int .i64 5), (.str (by_ [123])), (.int .i64 0), (.int .i64 19)]), (.agg [(.int .i64 2), (.str (by_ [105, 110, 116])), (.int .i64 0), (.int .i64 20)]), (.agg [(.int .i64 3), (.str (by_ [])), (.int .i64 0), (.int .i64 24)]), (.agg [(.int .i64 5), (.str (by_ [46, 46])), (.int .i64 0), (.int .i64 25)]), (.agg [(.int .i64 3), (.str (by_ [])), (.int .i64 9), (.int .i64 27)]), (.agg [(.int .i64 5), (.str (by_ [125])), (.int .i64 0), (.int .i64 28)]), (.agg [(.int .i64 3), (.str (by_ [])), (.int .i64 5), (.int .i64 30)]), (.agg [(.int .i64 5), (.str (by_ [61])), (.int .i64 0), (.int .i64 32)]), (.agg [(.int .i64 5), (.str (by_ [123])), (.int .i64 0), (.int .i64 34)]), (.agg [(.int .i64 5), (.str (by_ [125])), (.int .i64 0), (.int .i64 35)]), (.agg [(.int .i64 5), (.str (by_ [59])), (.int .i64 0), (.int .i64 36)]), (.agg [(.int .i64 2), (.str (by_ [118, 97, 114])), (.int .i64 0), (.int .i64 38)]), (.agg [(.int .i64 1), (.str (by_ [98])), (.int .i64 0), (.int .i64 42)]), (.agg [(.int .i64 5), (.str (by_ [58])), (.int .i64 0), (.int .i64 44)]), (.agg [(.int .i64 5), (.str (by_ [123])), (.int .i64 0), (.int .i64 46)]), (.agg [(.int .i64 2), (.str (by_ [116, 101, 120, 116])), (.int .i64 0), (.int .i64 47)]), (.agg [(.int .i64 5), (.str (by_ [125])), (.int .i64 0), (.int .i64 51)]), (.agg [(.int .i64 3), (.str (by_ [])), (.int .i64 4), (.int .i64 53)]), (.agg [(.int .i64 5), (.str (by_ [61])), (.int .i64 0), (.int .i64 55)]), (.agg [(.int .i64 5), (.str (by_ [123])), (.int .i64 0), (.int .i64 57)]), (.agg [(.int .i64 5), (.str (by_ [125])), (.int .i64 0), (.int .i64 58)]), (.agg [(.int .i64 5), (.str (by_ [59])), (.int .i64 0), (.int .i64 59)]), (.agg [(.int .i64 2), (.str (by_ [111, 112])), (.int .i64 0), (.int .i64 61)]), (.agg [(.int .i64 1), (.str (by_ [102])), (.int .i64 0), (.int .i64 64)]), (.agg [(.int .i64 5), (.str (by_ [40])), (.int .i64 0), (.int .i64 65)]), (.agg [(.int .i64 1), (.str (by_ [120])), (.int .i64 0), (.int .i64 66)]), (.agg [(.int .i64 5), (.str (by_ [58])), (.int .i64 0), (.int .i64 68)]), (.agg [(.int .i64 2), (.str (by_ [105, 110, 116])), (.int .i64 0), (.int .i64 70)]), (.agg [(.int .i64 3), (.str (by_ [])), (.int .i64 0), (.int .i64 74)]), (.agg [(.int .i64 5), (.str (by_ [46, 46])), (.int .i64 0), (.int .i64 75)]), (.agg [(.int .i64 3), (.str (by_ [])), (.int .i64 9), (.int .i64 77)]), (.agg [(.int .i64 5), (.str (by_ [41])), (.int .i64 0), (.int .i64 78)]), (.agg [(.int .i64 5), (.str (by_ [123])), (.int .i64 0), (.int .i64 80)]), (.agg [(.int .i64 1), (.str (by_ [97])), (.int .i64 0), (.int .i64 82)]), (.agg [(.int .i64 5), (.str (by_ [43, 61])), (.int .i64 0), (.int .i64 84)]), (.agg [(.int .i64 5), (.str (by_ [123])), (.int .i64 0), (.int .i64 87)]), (.agg [(.int .i64 1), (.str (by_ [120])), (.int .i64 0), (.int .i64 88)]), (.agg [(.int .i64 5), (.str (by_ [44])), (.int .i64 0), (.int .i64 89)]), (.agg [(.int .i64 3), (.str (by_ [])), (.int .i64 1), (.int .i64 91)]), (.agg [(.int .i64 5), (.str (by_ [125])), (.int .i64 0), (.int .i64 92)]), (.agg [(.int .i64 5), (.str (by_ [59])), (.int .i64 0), (.int .i64 93)]), (.agg [(.int .i64 2), (.str (by_ [105, 102])), (.int .i64 0), (.int .i64 95)]), (.agg [(.int .i64 1), (.str (by_ [120])), (.int .i64 0), (.int .i64 98)]), (.agg [(.int .i64 2), (.str (by_ [105, 110])), (.int .i64 0), (.int .i64 100)]), (.agg [(.int .i64 1), (.str (by_ [97])), (.int .i64 0), (.int .i64 103)]), (.agg [(.int .i64 5), (.str (by_ [123])), (.int .i64 0), (.int .i64 105)]), (.agg [(.int .i64 1), (.str (by_ [98])), (.int .i64 0), (.int .i64 107)]), (.agg [(.int .i64 5), (.str (by_ [58, 61])), (.int .i64 0), (.int .i64 109)]), (.agg [(.int .i64 1), (.str (by_ [98])), (.int .i64 0), (.int .i64 112)]), (.agg [(.int .i64 5), (.str (by_ [59])), (.int .i64 0), (.int .i64 113)]), (.agg [(.int .i64 5), (.str (by_ [125])), (.int .i64 0), (.int .i64 115)]), (.agg [(.int .i64 2), (.str (by_ [102, 111, 114])), (.int .i64 0), (.int .i64 117)]), (.agg [(.int .i64 1), (.str (by_ [121])), (.int .i64 0), (.int .i64 121)]), (.agg [(.int .i64 2), (.str (by_ [105, 110])), (.int .i64 0), (.int .i64 123)]), (.agg [(.int .i64 1), (.str (by_ [97])), (.int .i64 0), (.int .i64 126)]), (.agg [(.int .i64 5), (.str (by_ [123])), (.int .i64 0), (.int .i64 128)]), (.agg [(.int .i64 1), (.str (by_ [97])), (.int .i64 0), (.int .i64 130)]), (.agg [(.int .i64 5), (.str (by_ [45, 61])), (.int .i64 0), (.int .i64 132)]), (.agg [(.int .i64 5), (.str (by_ [123])), (.int .i64 0), (.int .i64 135)]), (.agg [(.int .i64 1), (.str (by_ [121])), (.int .i64 0), (.int .i64 136)]), (.agg [(.int .i64 5), (.str (by_ [125])), (.int .i64 0), (.int .i64 137)]), (.agg [(.int .i64 5), (.str (by_ [59])), (.int .i64 0), (.int .i64 138)]), (.agg [(.int .i64 5), (.str (by_ [125])), (.int .i64 0), (.int .i64 140)]), (.agg [(.int .i64 5), (.str (by_ [125])), (.int .i64 0), (.int .i64 142)]), (.agg [(.int .i64 2), (.str (by_ [108, 97, 119])), (.int .i64 0), (.int .i64 144)]), (.agg [(.int .i64 1), (.str (by_ [108])), (.int .i64 0), (.int .i64 148)]), (.agg [(.int .i64 5), (.str (by_ [61])), (.int .i64 0), (.int .i64 150)]), (.agg [(.int .i64 2), (.str (by_ [99, 111, 117, 110, 116])), (.int .i64 0), (.int .i64 152)]), (.agg [(.int .i64 5), (.str (by_ [40])), (.int .i64 0), (.int .i64 157)]), (.agg [(.int .i64 1), (.str (by_ [97])), (.int .i64 0), (.int .i64 158)]), (.agg [(.int .i64 5), (.str (by_ [41])), (.int .i64 0), (.int .i64 159)]), (.agg [(.int .i64 5), (.str (by_ [60])), (.int .i64 0), (.int .i64 161)]), (.agg [(.int .i64 3), (.str (by_ [])), (.int .i64 9), (.int .i64 163)]), (.agg [(.int .i64 5), (.str (by_ [59])), (.int .i64 0), (.int .i64 164)]), (.agg [(.int .i64 5), (.str (by_ [125])), (.int .i64 0), (.int .i64 166)])])), (.p (.int .i64 0)), (.p (.int .i64 0))]))
theorem tur2 : (funB (pqX Tryz.prog ch others) Tryz.prog hn ch tue2.1).val 400 (calS Tryz.prog hn ch others doesN (semT tul1) (okT tuF) 400) tue2.2.1 H00 = some (.ret tue2.2.2, H00) := by kernel_rfl
theorem tuw2 (H : Hp) : W tue2.1 tue2.2.1 H = some (.ret tue2.2.2, H) := run_tab tuF_ok tuT1 400 (by kernel_rfl) tur2 H
def tul2 : List TabE := tue2 :: tul1
theorem tuT2 : TabOK tul2 := tab_cons tuw2 tuT1
/-! ### sward/swardref03.ParseModule (65744 operations) -/
def tue3 : TabE := (34, [mD], (.tup [(.p (.agg [(.str (by_ [109])), (.sl [(.agg [(.str (by_ [97])), (.int .i64 6), (.int .i64 0), (.int .i64 0), (.int .i64 5), (.sl [(.agg [(.int .i64 2), (.int .i64 0), (.int .i64 9), (.int .i64 0), (.sl [])])]), (.int .i64 7), (.int .i64 0), (.str (by_ [])), (.sl []), (.sl [])]), (.agg [(.str (by_ [98])), (.int .i64 6), (.int .i64 0), (.int .i64 0), (.int .i64 4), (.sl [(.agg [(.int .i64 4), (.int .i64 0), (.int .i64 0), (.int .i64 0), (.sl [])])]), (.int .i64 7), (.int .i64 0), (.str (by_ [])), (.sl []), (.sl [])])]), (.sl [(.agg [(.str (by_ [102])), (.sl [(.agg [(.str (by_ [120])), (.int .i64 2), (.int .i64 0), (.int .i64 9), (.int .i64 0), (.sl [])])]), (.sl [(.agg [(.int .i64 2), (.str (by_ [97])), (.int .i64 7), (.int .i64 0), (.str (by_ [])), (.sl []), (.sl [(.agg [(.int .i64 4), (.int .i64 0), (.str (by_ [120])), (.sl []), (.sl [])]), (.agg [(.int .i64 1), (.int .i64 1), (.str (by_ [])), (.sl []), (.sl [])])]), (.sl []), (.sl [])]), (.agg [(.int .i64 5), (.str (by_ [])), (.int .i64 11), (.int .i64 0), (.str (by_ [])), (.sl []), (.sl [(.agg [(.int .i64 4), (.int .i64 0), (.str (by_ [120])), (.sl []), (.sl [])]), (.agg [(.int .i64 4), (.int .i64 0), (.str (by_ [97])), (.sl []), (.sl [])])]), (.sl [(.agg [(.int .i64 1), (.str (by_ [98])), (.int .i64 4), (.int .i64 0), (.str (by_ [98])), (.sl []), (.sl []), (.sl []), (.sl [])])]), (.sl [])]), (.agg [(.int .i64 7), (.str (by_ [121])), (.int .i64 4), (.int .i64 0), (.str (by_ [97])), (.sl []), (.sl []), (.sl [(.agg [(.int .i64 3), (.str (by_ [97])), (.int .i64 7), (.int .i64 0), (.str (by_ [])), (.sl []), (.sl [(.agg [(.int .i64 4), (.int .i64 0), (.str (by_ [121])), (.sl []), (.sl [])])]), (.sl []), (.sl [])])]), (.sl [])])])])]), (.sl [(.agg [(.str (by_ [108])), (.int .i64 14), (.int .i64 0), (.str (by_ [])), (.sl []), (.sl [(.agg [(.int .i64 26), (.int .i64 0), (.str (by_ [])), (.sl []), (.sl [(.agg [(.int .i64 4), (.int .i64 0), (.str (by_ [97])), (.sl []), (.sl [])])])]), (.agg [(.int .i64 1), (.int .i64 9), (.str (by_ [])), (.sl []), (.sl [])])])])])])), (.p (.bool true))]))
theorem tur3 : (funB (pqX Tryz.prog ch others) Tryz.prog hn ch tue3.1).val 400 (calS Tryz.prog hn ch others doesN (semT tul2) (okT tuF) 400) tue3.2.1 H00 = some (.ret tue3.2.2, H00) := by kernel_rfl
theorem tuw3 (H : Hp) : W tue3.1 tue3.2.1 H = some (.ret tue3.2.2, H) := run_tab tuF_ok tuT2 400 (by kernel_rfl) tur3 H
def tul3 : List TabE := tue3 :: tul2
theorem tuT3 : TabOK tul3 := tab_cons tuw3 tuT2
/-! ### sward/repr.Uses (13451 operations) -/
def tue4 : TabE := (9, [modD], (.tup [(.p (.agg [(.sl [(.agg [(.int .i64 5), (.sl [(.int .i64 1), (.int .i64 2), (.int .i64 3), (.int .i64 4), (.int .i64 5)])]), (.agg [(.int .i64 4), (.sl [(.int .i64 1), (.int .i64 3), (.int .i64 5)])])]), (.sl [(.agg [(.int .i64 2), (.int .i64 0), (.int .i64 0), (.int .i64 12)]), (.agg [(.int .i64 1), (.int .i64 0), (.int .i64 0), (.int .i64 1)]), (.agg [(.int .i64 6), (.int .i64 1), (.int .i64 1), (.int .i64 1)]), (.agg [(.int .i64 3), (.int .i64 0), (.int .i64 0), (.int .i64 1)])]), (.sl [])])), (.p (.int .i64 0))]))
theorem tur4 : (funB (pqX Tryz.prog ch others) Tryz.prog hn ch tue4.1).val 400 (calS Tryz.prog hn ch others doesN (semT tul3) (okT tuF) 400) tue4.2.1 H00 = some (.ret tue4.2.2, H00) := by kernel_rfl
theorem tuw4 (H : Hp) : W tue4.1 tue4.2.1 H = some (.ret tue4.2.2, H) := run_tab tuF_ok tuT3 400 (by kernel_rfl) tur4 H
def tul4 : List TabE := tue4 :: tul3
theorem tuT4 : TabOK tul4 := tab_cons tuw4 tuT3
end Go.Vi
end
