/- It is proved here that the program's check of known values answers true in the evaluator; no condition. -/
import Derived.Test.YtojkbmepcbgbhaaGreatDoorMF
set_option linter.unusedVariables false
set_option linter.unusedSimpArgs false

section
/- Vi: swardlaw01.known (f16): the chapter's examples, run. No conditions. -/
namespace Go.Vi
open Go Go.Lib Go.Proofs
set_option maxRecDepth 1000000

def okX (f : FuncId) : Bool := decide (3 ≤ f) && decide (f < 202) && !(f == 173) && !(decide (181 ≤ f) && decide (f < 196))
theorem okX_all : (List.range 202).all (fun f => !okX f || okFn Tryz.prog ch f) = true := by kernel_rfl
theorem okX_ok (f : FuncId) (h : okX f = true) : okFn Tryz.prog ch f = true := by
  have h2 := h
  simp only [okX, Bool.and_eq_true, decide_eq_true_eq] at h2
  have := List.all_eq_true.1 okX_all f (List.mem_range.2 h2.1.1.2)
  simpa [h] using this

noncomputable def deleteN (n : Nat) (cal : Cal) (args : List D) (H : Hp) : Option (Out × Hp) :=
  if args.length = 2 then
    let fin := retF H.B.length H.A.length
    let ev := fun i => evalCN (pqX Tryz.prog ch others) Tryz.prog hn ch false ⟨0, 0⟩ n cal 101 (delC del0 i)
    nextD (ev 0 (mkF 0 args) H) fin fun F H => nextD (ev 1 F H) fin fun F H => nextD (ev 2 F H) fin fun F H => nextD (ev 3 F H) fin fun F H =>
      match tailD F H with
      | some (F, H) => fin F H
      | none => none
  else none
theorem deleteN_le {n : Nat} {c d : Cal} (hpq : PqOK (pqX Tryz.prog ch others) c) (h : CalLe c d) {args : List D} {H : Hp} {r : Out × Hp} (hr : deleteN n c args H = some r) : deleteD d args H = some r := by
  unfold deleteN at hr
  unfold deleteD
  split at hr
  · rename_i hl
    rw [if_pos hl]
    exact nextD_mono (fun x hx => evalC_mono h _ _ _ _ (evalCN_le hpq _ _ _ _ hx)) (fun F H x hx => nextD_mono (fun x hx => evalC_mono h _ _ _ _ (evalCN_le hpq _ _ _ _ hx)) (fun F H x hx => nextD_mono (fun x hx => evalC_mono h _ _ _ _ (evalCN_le hpq _ _ _ _ hx))
      (fun F H x hx => nextD_mono (fun x hx => evalC_mono h _ _ _ _ (evalCN_le hpq _ _ _ _ hx)) (fun F H x hx => hx) hx) hx) hx) hr
  · cases hr
noncomputable def doesN (n : Nat) (c : Cal) : Cal := fun f args H =>
  if f = 163 then cmpD args H else if f = 79 then attemptD c args H else if f = 119 then itoaD args H else if f = 102 then cloneD args H else if f = 101 then deleteN n c args H else none
theorem doesN_le (n : Nat) (c d : Cal) (hpq : PqOK (pqX Tryz.prog ch others) c) (h : CalLe c d) (f : FuncId) (a : List D) (H : Hp) (r : Out × Hp) (hr : doesN n c f a H = some r) : others.does d f a H = some r := by
  show doesX d f a H = some r
  unfold doesN at hr
  unfold doesX
  split at hr
  · rename_i e; rw [if_pos e]; exact hr
  rename_i e
  rw [if_neg e]
  split at hr
  · rename_i e2; rw [if_pos e2]; exact attempt_mono h hr
  rename_i e2
  rw [if_neg e2]
  split at hr
  · rename_i e3; rw [if_pos e3]; exact hr
  rename_i e3
  rw [if_neg e3]
  split at hr
  · rename_i e5; rw [if_neg (by rw [e5]; decide), if_pos e5]; exact hr
  rename_i e5
  split at hr
  · rename_i e6; rw [if_neg (by rw [e6]; decide), if_neg e5, if_pos e6]; exact deleteN_le hpq h hr
  · cases hr

theorem known_run (H : Hp) : calN Tryz.prog hn ch others doesN okX 40 17 [] H = some (.ret (.p (.bool true)), H) := by kernel_rfl
theorem known_W (H : Hp) : W 17 [] H = some (.ret (.p (.bool true)), H) := calN_le okX_ok doesN_le 40 _ _ _ _ (known_run H)
end Go.Vi
end
