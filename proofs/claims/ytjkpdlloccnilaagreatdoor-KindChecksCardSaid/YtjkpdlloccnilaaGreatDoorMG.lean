/- It is proved here what the heads and facts of the program's functions are to the evaluator; no condition. -/
import Derived.Test.YtjkpdlloccnilaaGreatDoorMF
set_option linter.unusedVariables false
set_option linter.unusedSimpArgs false

section
/- Vi: what the evaluator asks of the program's types; made by a program of ours (wip/tools/mkfacts2.py). No conditions. -/
namespace Go.Vi
open Go Go.Proofs
set_option maxRecDepth 100000
@[simp] theorem sz0 : szOf Tryz.prog 0 = some 1 := by kernel_rfl
@[simp] theorem ag0 : aggOf Tryz.prog 0 = some false := by kernel_rfl
@[simp] theorem by0 : byOf Tryz.prog 0 = some 0 := by kernel_rfl
@[simp] theorem sz3 : szOf Tryz.prog 3 = some 1 := by kernel_rfl
@[simp] theorem ag3 : aggOf Tryz.prog 3 = some false := by kernel_rfl
@[simp] theorem by3 : byOf Tryz.prog 3 = some 8 := by kernel_rfl
@[simp] theorem sz4 : szOf Tryz.prog 4 = some 1 := by kernel_rfl
@[simp] theorem ag4 : aggOf Tryz.prog 4 = some false := by kernel_rfl
@[simp] theorem by4 : byOf Tryz.prog 4 = some 1 := by kernel_rfl
@[simp] theorem sz22 : szOf Tryz.prog 22 = some 1 := by kernel_rfl
@[simp] theorem ag22 : aggOf Tryz.prog 22 = some false := by kernel_rfl
@[simp] theorem by22 : byOf Tryz.prog 22 = some 8 := by kernel_rfl
@[simp] theorem sz23 : szOf Tryz.prog 23 = some 1 := by kernel_rfl
@[simp] theorem ag23 : aggOf Tryz.prog 23 = some false := by kernel_rfl
@[simp] theorem by23 : byOf Tryz.prog 23 = some 24 := by kernel_rfl
@[simp] theorem el23 : elemOf Tryz.prog 23 = some 25 := by kernel_rfl
@[simp] theorem un23 : Tryz.prog.underlying 23 = some (.slice 25) := by kernel_rfl
@[simp] theorem sz25 : szOf Tryz.prog 25 = some 5 := by kernel_rfl
@[simp] theorem ag25 : aggOf Tryz.prog 25 = some true := by kernel_rfl
@[simp] theorem by25 : byOf Tryz.prog 25 = some 56 := by kernel_rfl
@[simp] theorem fo25_0 : fieldOf Tryz.prog 25 0 = some (0, 1, false) := by kernel_rfl
@[simp] theorem fo25_1 : fieldOf Tryz.prog 25 1 = some (1, 1, false) := by kernel_rfl
@[simp] theorem fo25_2 : fieldOf Tryz.prog 25 2 = some (2, 1, false) := by kernel_rfl
@[simp] theorem fo25_3 : fieldOf Tryz.prog 25 3 = some (3, 1, false) := by kernel_rfl
@[simp] theorem fo25_4 : fieldOf Tryz.prog 25 4 = some (4, 1, false) := by kernel_rfl
@[simp] theorem sz30 : szOf Tryz.prog 30 = some 1 := by kernel_rfl
@[simp] theorem ag30 : aggOf Tryz.prog 30 = some false := by kernel_rfl
@[simp] theorem by30 : byOf Tryz.prog 30 = some 8 := by kernel_rfl
@[simp] theorem sz33 : szOf Tryz.prog 33 = some 1 := by kernel_rfl
@[simp] theorem ag33 : aggOf Tryz.prog 33 = some false := by kernel_rfl
@[simp] theorem by33 : byOf Tryz.prog 33 = some 8 := by kernel_rfl
@[simp] theorem sz34 : szOf Tryz.prog 34 = some 1 := by kernel_rfl
@[simp] theorem ag34 : aggOf Tryz.prog 34 = some false := by kernel_rfl
@[simp] theorem by34 : byOf Tryz.prog 34 = some 0 := by kernel_rfl
@[simp] theorem sz36 : szOf Tryz.prog 36 = some 1 := by kernel_rfl
@[simp] theorem ag36 : aggOf Tryz.prog 36 = some false := by kernel_rfl
@[simp] theorem by36 : byOf Tryz.prog 36 = some 0 := by kernel_rfl
@[simp] theorem sz38 : szOf Tryz.prog 38 = some 1 := by kernel_rfl
@[simp] theorem ag38 : aggOf Tryz.prog 38 = some false := by kernel_rfl
@[simp] theorem by38 : byOf Tryz.prog 38 = some 0 := by kernel_rfl
@[simp] theorem sz48 : szOf Tryz.prog 48 = some 1 := by kernel_rfl
@[simp] theorem ag48 : aggOf Tryz.prog 48 = some false := by kernel_rfl
@[simp] theorem by48 : byOf Tryz.prog 48 = some 0 := by kernel_rfl
@[simp] theorem sz51 : szOf Tryz.prog 51 = some 1 := by kernel_rfl
@[simp] theorem ag51 : aggOf Tryz.prog 51 = some false := by kernel_rfl
@[simp] theorem by51 : byOf Tryz.prog 51 = some 0 := by kernel_rfl
@[simp] theorem sz71 : szOf Tryz.prog 71 = some 1 := by kernel_rfl
@[simp] theorem ag71 : aggOf Tryz.prog 71 = some false := by kernel_rfl
@[simp] theorem by71 : byOf Tryz.prog 71 = some 0 := by kernel_rfl
@[simp] theorem sz73 : szOf Tryz.prog 73 = some 1 := by kernel_rfl
@[simp] theorem ag73 : aggOf Tryz.prog 73 = some false := by kernel_rfl
@[simp] theorem by73 : byOf Tryz.prog 73 = some 0 := by kernel_rfl
@[simp] theorem sz125 : szOf Tryz.prog 125 = some 1 := by kernel_rfl
@[simp] theorem ag125 : aggOf Tryz.prog 125 = some false := by kernel_rfl
@[simp] theorem by125 : byOf Tryz.prog 125 = some 24 := by kernel_rfl
@[simp] theorem el125 : elemOf Tryz.prog 125 = some 3 := by kernel_rfl
@[simp] theorem un125 : Tryz.prog.underlying 125 = some (.slice 3) := by kernel_rfl
@[simp] theorem zz3 : zeroOf Tryz.prog 3 = some (.int .i64 0) := by kernel_rfl
@[simp] theorem zk3 : zOK Tryz.prog 3 1 = true := by kernel_rfl
@[simp] theorem zz4 : zeroOf Tryz.prog 4 = some (.bool false) := by kernel_rfl
@[simp] theorem zk4 : zOK Tryz.prog 4 1 = true := by kernel_rfl
@[simp] theorem zz22 : zeroOf Tryz.prog 22 = some (.int .i64 0) := by kernel_rfl
@[simp] theorem zk22 : zOK Tryz.prog 22 1 = true := by kernel_rfl
@[simp] theorem zz23 : zeroOf Tryz.prog 23 = some (.slice none 0 0) := by kernel_rfl
@[simp] theorem zk23 : zOK Tryz.prog 23 1 = true := by kernel_rfl
@[simp] theorem zz25 : zeroOf Tryz.prog 25 = some (.agg #[.int .i64 0, .int .i64 0, .int .i64 0, .int .i64 0, .slice none 0 0]) := by kernel_rfl
@[simp] theorem zz33 : zeroOf Tryz.prog 33 = some (.int .i64 0) := by kernel_rfl
@[simp] theorem zk33 : zOK Tryz.prog 33 1 = true := by kernel_rfl
@[simp] theorem zz125 : zeroOf Tryz.prog 125 = some (.slice none 0 0) := by kernel_rfl
@[simp] theorem zk125 : zOK Tryz.prog 125 1 = true := by kernel_rfl
end Go.Vi
end

section
/- Vi: layer 5: heads of functions, made by a program of ours (wip/tools/spec2.py). No conditions. -/
namespace Go.Vi
open Go Go.Proofs
set_option maxRecDepth 100000
/-! ### f4: sward/swardlaw05.KindJoins -/
@[simp] theorem k4_0 : ch.keep 4 0 = [2, 3] := by kernel_rfl
@[simp] theorem k4_1 : ch.keep 4 1 = [2, 3, 18] := by kernel_rfl
@[simp] theorem k4_2 : ch.keep 4 2 = [4] := by kernel_rfl
@[simp] theorem k4_3 : ch.keep 4 3 = [2, 3, 5, 6] := by kernel_rfl
@[simp] theorem k4_4 : ch.keep 4 4 = [2, 3, 5, 6, 7, 8] := by kernel_rfl
@[simp] theorem k4_5 : ch.keep 4 5 = [2, 3, 5, 6, 7, 8, 39] := by kernel_rfl
@[simp] theorem k4_6 : ch.keep 4 6 = [4] := by kernel_rfl
@[simp] theorem k4_7 : ch.keep 4 7 = [2, 3, 5, 6, 7, 8, 9, 10] := by kernel_rfl
@[simp] theorem k4_8 : ch.keep 4 8 = [2, 3, 5, 6, 7, 8, 9, 69] := by kernel_rfl
@[simp] theorem k4_9 : ch.keep 4 9 = [4] := by kernel_rfl
@[simp] theorem k4_10 : ch.keep 4 10 = [4] := by kernel_rfl
noncomputable def code4 : Code := match Tryz.f4.body with | some c => c | none => .skip
theorem rs4 : Tryz.f4.results.toList = [.tmp 4] := rfl
theorem W4_of {args : List D} (ha : args.all (D.noRef 0 0) = true) (hl : args.length ≤ 111) {H : Hp} {o : Out × Hp}
    (h : alone H (fnOut Tryz.prog [.tmp 4] 0 0 (E false ⟨0, 0⟩ 4 code4 (mkF 0 args) H00)) = some o) : W 4 args H = some o :=
  W_of Tryz.func4 rfl (by kernel_rfl) rfl rfl rfl rfl rfl ha (by rw [Tryz.ntmps4]; exact hl) h
/-! ### f10: sward/swardlaw05.KindChecks -/
@[simp] theorem k10_0 : ch.keep 10 0 = [1] := by kernel_rfl
@[simp] theorem k10_1 : ch.keep 10 1 = [1, 15] := by kernel_rfl
@[simp] theorem k10_2 : ch.keep 10 2 = [2] := by kernel_rfl
@[simp] theorem k10_3 : ch.keep 10 3 = [1, 3] := by kernel_rfl
@[simp] theorem k10_4 : ch.keep 10 4 = [1, 3, 4, 5, 6] := by kernel_rfl
@[simp] theorem k10_5 : ch.keep 10 5 = [1, 3, 4, 5, 6, 7, 8] := by kernel_rfl
@[simp] theorem k10_6 : ch.keep 10 6 = [1, 3, 4, 5, 6, 7, 8, 32] := by kernel_rfl
@[simp] theorem k10_7 : ch.keep 10 7 = [2] := by kernel_rfl
@[simp] theorem k10_8 : ch.keep 10 8 = [1, 3, 4, 5, 6, 7, 8, 9, 10] := by kernel_rfl
@[simp] theorem k10_9 : ch.keep 10 9 = [1, 7, 8, 78] := by kernel_rfl
@[simp] theorem k10_10 : ch.keep 10 10 = [2] := by kernel_rfl
@[simp] theorem k10_11 : ch.keep 10 11 = [7, 8, 11, 12] := by kernel_rfl
@[simp] theorem k10_12 : ch.keep 10 12 = [7, 8, 11, 85] := by kernel_rfl
@[simp] theorem k10_13 : ch.keep 10 13 = [2] := by kernel_rfl
@[simp] theorem k10_14 : ch.keep 10 14 = [2] := by kernel_rfl
noncomputable def code10 : Code := match Tryz.f10.body with | some c => c | none => .skip
theorem rs10 : Tryz.f10.results.toList = [.tmp 2] := rfl
theorem W10_of {args : List D} (ha : args.all (D.noRef 0 0) = true) (hl : args.length ≤ 105) {H : Hp} {o : Out × Hp}
    (h : alone H (fnOut Tryz.prog [.tmp 2] 0 0 (E false ⟨0, 0⟩ 10 code10 (mkF 0 args) H00)) = some o) : W 10 args H = some o :=
  W_of Tryz.func10 rfl (by kernel_rfl) rfl rfl rfl rfl rfl ha (by rw [Tryz.ntmps10]; exact hl) h
/-! ### f12: sward/swardref05.Small -/
@[simp] theorem k12_0 : ch.keep 12 0 = [1] := by kernel_rfl
@[simp] theorem k12_1 : ch.keep 12 1 = [2] := by kernel_rfl
noncomputable def code12 : Code := match Tryz.f12.body with | some c => c | none => .skip
theorem rs12 : Tryz.f12.results.toList = [.tmp 2] := rfl
theorem W12_of {args : List D} (ha : args.all (D.noRef 0 0) = true) (hl : args.length ≤ 6) {H : Hp} {o : Out × Hp}
    (h : alone H (fnOut Tryz.prog [.tmp 2] 0 0 (E false ⟨0, 0⟩ 12 code12 (mkF 0 args) H00)) = some o) : W 12 args H = some o :=
  W_of Tryz.func12 rfl (by kernel_rfl) rfl rfl rfl rfl rfl ha (by rw [Tryz.ntmps12]; exact hl) h
/-! ### f18: sward/swardlaw05.none -/
@[simp] theorem k18_0 : ch.keep 18 0 = [1] := by kernel_rfl
@[simp] theorem k18_1 : ch.keep 18 1 = [2] := by kernel_rfl
noncomputable def code18 : Code := match Tryz.f18.body with | some c => c | none => .skip
theorem rs18 : Tryz.f18.results.toList = [.tmp 2] := rfl
theorem W18_of {args : List D} (ha : args.all (D.noRef 0 0) = true) (hl : args.length ≤ 6) {H : Hp} {o : Out × Hp}
    (h : alone H (fnOut Tryz.prog [.tmp 2] 0 0 (E false ⟨0, 0⟩ 18 code18 (mkF 0 args) H00)) = some o) : W 18 args H = some o :=
  W_of Tryz.func18 rfl (by kernel_rfl) rfl rfl rfl rfl rfl ha (by rw [Tryz.ntmps18]; exact hl) h
/-! ### f20: sward/swardref05.Equal -/
@[simp] theorem k20_0 : ch.keep 20 0 = [2, 3] := by kernel_rfl
@[simp] theorem k20_1 : ch.keep 20 1 = [2, 3, 40] := by kernel_rfl
@[simp] theorem k20_2 : ch.keep 20 2 = [4] := by kernel_rfl
@[simp] theorem k20_3 : ch.keep 20 3 = [2, 3, 5] := by kernel_rfl
@[simp] theorem k20_4 : ch.keep 20 4 = [2, 3, 5, 45] := by kernel_rfl
@[simp] theorem k20_5 : ch.keep 20 5 = [2, 3, 5] := by kernel_rfl
@[simp] theorem k20_6 : ch.keep 20 6 = [2, 3, 5, 59] := by kernel_rfl
@[simp] theorem k20_7 : ch.keep 20 7 = [4] := by kernel_rfl
@[simp] theorem k20_8 : ch.keep 20 8 = [4] := by kernel_rfl
@[simp] theorem fl20_6 : ch.fl 20 6 = [1, 1, 1, 1, 1, 1, 1, 1, 1, 1, 0, 0] := by kernel_rfl
noncomputable def code20 : Code := match Tryz.f20.body with | some c => c | none => .skip
noncomputable def lp20_0 : Code := match code20 with | .seq _ (.seq _ (.seq (.seq _ (.block _ (.loop c))) _)) => c | c => c
theorem hd20_0 : ch.head 20 (firstR lp20_0) = [2, 3, 5] := by kernel_rfl
theorem rs20 : Tryz.f20.results.toList = [.tmp 4] := rfl
theorem W20_of {args : List D} (ha : args.all (D.noRef 0 0) = true) (hl : args.length ≤ 60) {H : Hp} {o : Out × Hp}
    (h : alone H (fnOut Tryz.prog [.tmp 4] 0 0 (E false ⟨0, 0⟩ 20 code20 (mkF 0 args) H00)) = some o) : W 20 args H = some o :=
  W_of Tryz.func20 rfl (by kernel_rfl) rfl rfl rfl rfl rfl ha (by rw [Tryz.ntmps20]; exact hl) h
/-! ### f21: sward/swardref05.Valid -/
@[simp] theorem k21_0 : ch.keep 21 0 = [1] := by kernel_rfl
@[simp] theorem k21_1 : ch.keep 21 1 = [2] := by kernel_rfl
noncomputable def code21 : Code := match Tryz.f21.body with | some c => c | none => .skip
theorem rs21 : Tryz.f21.results.toList = [.tmp 2] := rfl
theorem W21_of {args : List D} (ha : args.all (D.noRef 0 0) = true) (hl : args.length ≤ 10) {H : Hp} {o : Out × Hp}
    (h : alone H (fnOut Tryz.prog [.tmp 2] 0 0 (E false ⟨0, 0⟩ 21 code21 (mkF 0 args) H00)) = some o) : W 21 args H = some o :=
  W_of Tryz.func21 rfl (by kernel_rfl) rfl rfl rfl rfl rfl ha (by rw [Tryz.ntmps21]; exact hl) h
/-! ### f23: sward/kind.Within -/
@[simp] theorem k23_0 : ch.keep 23 0 = [2, 3] := by kernel_rfl
@[simp] theorem k23_1 : ch.keep 23 1 = [2, 3, 13] := by kernel_rfl
@[simp] theorem k23_2 : ch.keep 23 2 = [4, 5] := by kernel_rfl
@[simp] theorem k23_3 : ch.keep 23 3 = [4, 5] := by kernel_rfl
noncomputable def code23 : Code := match Tryz.f23.body with | some c => c | none => .skip
theorem rs23 : Tryz.f23.results.toList = [.tmp 4, .tmp 5] := rfl
theorem W23_of {args : List D} (ha : args.all (D.noRef 0 0) = true) (hl : args.length ≤ 17) {H : Hp} {o : Out × Hp}
    (h : alone H (fnOut Tryz.prog [.tmp 4, .tmp 5] 0 0 (E false ⟨0, 0⟩ 23 code23 (mkF 0 args) H00)) = some o) : W 23 args H = some o :=
  W_of Tryz.func23 rfl (by kernel_rfl) rfl rfl rfl rfl rfl ha (by rw [Tryz.ntmps23]; exact hl) h
/-! ### f24: sward/kind.Join -/
@[simp] theorem k24_0 : ch.keep 24 0 = [2, 3, 4] := by kernel_rfl
@[simp] theorem k24_1 : ch.keep 24 1 = [2, 3, 4, 15] := by kernel_rfl
@[simp] theorem k24_2 : ch.keep 24 2 = [4, 5] := by kernel_rfl
@[simp] theorem k24_3 : ch.keep 24 3 = [4, 6, 7] := by kernel_rfl
@[simp] theorem k24_4 : ch.keep 24 4 = [4, 6, 29] := by kernel_rfl
@[simp] theorem k24_5 : ch.keep 24 5 = [4, 5] := by kernel_rfl
@[simp] theorem k24_6 : ch.keep 24 6 = [4, 5] := by kernel_rfl
noncomputable def code24 : Code := match Tryz.f24.body with | some c => c | none => .skip
theorem rs24 : Tryz.f24.results.toList = [.cell 4 25, .tmp 5] := rfl
theorem W24_of {args : List D} (ha : args.all (D.noRef 0 0) = true) (hl : args.length ≤ 33) {H : Hp} {o : Out × Hp}
    (h : alone H (fnOut Tryz.prog [.cell 4 25, .tmp 5] 0 0 (E false ⟨0, 0⟩ 24 code24 (mkF 0 args) H00)) = some o) : W 24 args H = some o :=
  W_of Tryz.func24 rfl (by kernel_rfl) rfl rfl rfl rfl rfl ha (by rw [Tryz.ntmps24]; exact hl) h
/-! ### f25: sward/swardref05.Join -/
@[simp] theorem k25_0 : ch.keep 25 0 = [2, 3, 4] := by kernel_rfl
@[simp] theorem k25_1 : ch.keep 25 1 = [2, 3, 4, 12] := by kernel_rfl
@[simp] theorem k25_2 : ch.keep 25 2 = [4, 5] := by kernel_rfl
@[simp] theorem k25_3 : ch.keep 25 3 = [2, 3, 4, 16] := by kernel_rfl
@[simp] theorem k25_4 : ch.keep 25 4 = [4, 5] := by kernel_rfl
@[simp] theorem k25_5 : ch.keep 25 5 = [2, 3, 4, 31] := by kernel_rfl
@[simp] theorem k25_6 : ch.keep 25 6 = [4, 5] := by kernel_rfl
@[simp] theorem k25_7 : ch.keep 25 7 = [2, 3, 4, 6] := by kernel_rfl
@[simp] theorem k25_8 : ch.keep 25 8 = [2, 3, 4, 6, 7] := by kernel_rfl
@[simp] theorem k25_9 : ch.keep 25 9 = [2, 3, 4, 6, 7, 55] := by kernel_rfl
@[simp] theorem k25_10 : ch.keep 25 10 = [2, 3, 4, 6, 7] := by kernel_rfl
@[simp] theorem k25_11 : ch.keep 25 11 = [2, 3, 4, 6, 7, 8, 9] := by kernel_rfl
@[simp] theorem k25_12 : ch.keep 25 12 = [2, 3, 4, 6, 7, 8, 73] := by kernel_rfl
@[simp] theorem k25_13 : ch.keep 25 13 = [4, 5] := by kernel_rfl
@[simp] theorem k25_14 : ch.keep 25 14 = [2, 3, 4, 6, 7] := by kernel_rfl
@[simp] theorem k25_15 : ch.keep 25 15 = [4, 5] := by kernel_rfl
@[simp] theorem fl25_11 : ch.fl 25 11 = [1001, 1001, 6, 1001, 1001, 1001, 1001, 6, 1001, 1001, 1000, 6, 6, 6, 2000, 2000, 0] := by kernel_rfl
noncomputable def code25 : Code := match Tryz.f25.body with | some c => c | none => .skip
noncomputable def lp25_0 : Code := match code25 with | .seq _ (.seq _ (.seq _ (.seq _ (.seq _ (.seq (.seq _ (.block _ (.loop c))) _))))) => c | c => c
theorem hd25_0 : ch.head 25 (firstR lp25_0) = [2, 3, 4, 6, 7] := by kernel_rfl
theorem rs25 : Tryz.f25.results.toList = [.cell 4 25, .tmp 5] := rfl
theorem W25_of {args : List D} (ha : args.all (D.noRef 0 0) = true) (hl : args.length ≤ 82) {H : Hp} {o : Out × Hp}
    (h : alone H (fnOut Tryz.prog [.cell 4 25, .tmp 5] 0 0 (E false ⟨0, 0⟩ 25 code25 (mkF 0 args) H00)) = some o) : W 25 args H = some o :=
  W_of Tryz.func25 rfl (by kernel_rfl) rfl rfl rfl rfl rfl ha (by rw [Tryz.ntmps25]; exact hl) h
/-! ### f26: sward/swardref05.Within -/
@[simp] theorem k26_0 : ch.keep 26 0 = [2, 3] := by kernel_rfl
@[simp] theorem k26_1 : ch.keep 26 1 = [2, 3, 8] := by kernel_rfl
@[simp] theorem k26_2 : ch.keep 26 2 = [4] := by kernel_rfl
@[simp] theorem k26_3 : ch.keep 26 3 = [2, 3, 22] := by kernel_rfl
@[simp] theorem k26_4 : ch.keep 26 4 = [4] := by kernel_rfl
@[simp] theorem k26_5 : ch.keep 26 5 = [2, 3, 25] := by kernel_rfl
@[simp] theorem k26_6 : ch.keep 26 6 = [4] := by kernel_rfl
@[simp] theorem k26_7 : ch.keep 26 7 = [2, 3, 5] := by kernel_rfl
@[simp] theorem k26_8 : ch.keep 26 8 = [2, 3, 5, 51] := by kernel_rfl
@[simp] theorem k26_9 : ch.keep 26 9 = [2, 3, 5] := by kernel_rfl
@[simp] theorem k26_10 : ch.keep 26 10 = [2, 3, 5, 65] := by kernel_rfl
@[simp] theorem k26_11 : ch.keep 26 11 = [4] := by kernel_rfl
@[simp] theorem k26_12 : ch.keep 26 12 = [4] := by kernel_rfl
@[simp] theorem fl26_6 : ch.fl 26 6 = [1, 1, 1, 1, 0, 0, 0, 0, 0, 0, 1, 1, 1, 1, 1, 1, 1, 1, 0, 0, 0, 0] := by kernel_rfl
@[simp] theorem fl26_10 : ch.fl 26 10 = [1, 1, 1, 1, 1, 1, 1, 1, 1, 1, 0, 0] := by kernel_rfl
noncomputable def code26 : Code := match Tryz.f26.body with | some c => c | none => .skip
noncomputable def lp26_0 : Code := match code26 with | .seq _ (.seq _ (.seq _ (.seq _ (.seq (.seq _ (.block _ (.loop c))) _)))) => c | c => c
theorem hd26_0 : ch.head 26 (firstR lp26_0) = [2, 3, 5] := by kernel_rfl
theorem rs26 : Tryz.f26.results.toList = [.tmp 4] := rfl
theorem W26_of {args : List D} (ha : args.all (D.noRef 0 0) = true) (hl : args.length ≤ 78) {H : Hp} {o : Out × Hp}
    (h : alone H (fnOut Tryz.prog [.tmp 4] 0 0 (E false ⟨0, 0⟩ 26 code26 (mkF 0 args) H00)) = some o) : W 26 args H = some o :=
  W_of Tryz.func26 rfl (by kernel_rfl) rfl rfl rfl rfl rfl ha (by rw [Tryz.ntmps26]; exact hl) h
/-! ### f27: sward/swardlaw05.within -/
@[simp] theorem k27_0 : ch.keep 27 0 = [2, 3] := by kernel_rfl
@[simp] theorem k27_1 : ch.keep 27 1 = [6, 7] := by kernel_rfl
@[simp] theorem k27_2 : ch.keep 27 2 = [4, 5] := by kernel_rfl
noncomputable def code27 : Code := match Tryz.f27.body with | some c => c | none => .skip
theorem rs27 : Tryz.f27.results.toList = [.tmp 4, .tmp 5] := rfl
theorem W27_of {args : List D} (ha : args.all (D.noRef 0 0) = true) (hl : args.length ≤ 17) {H : Hp} {o : Out × Hp}
    (h : alone H (fnOut Tryz.prog [.tmp 4, .tmp 5] 0 0 (E false ⟨0, 0⟩ 27 code27 (mkF 0 args) H00)) = some o) : W 27 args H = some o :=
  W_of Tryz.func27 rfl (by kernel_rfl) rfl rfl rfl rfl rfl ha (by rw [Tryz.ntmps27]; exact hl) h
/-! ### f29: sward/kind.Size -/
@[simp] theorem k29_0 : ch.keep 29 0 = [1] := by kernel_rfl
@[simp] theorem k29_1 : ch.keep 29 1 = [1, 9] := by kernel_rfl
@[simp] theorem k29_2 : ch.keep 29 2 = [2, 3, 4] := by kernel_rfl
@[simp] theorem k29_3 : ch.keep 29 3 = [5, 6] := by kernel_rfl
@[simp] theorem k29_4 : ch.keep 29 4 = [2, 3, 4] := by kernel_rfl
noncomputable def code29 : Code := match Tryz.f29.body with | some c => c | none => .skip
theorem rs29 : Tryz.f29.results.toList = [.tmp 2, .tmp 3, .tmp 4] := rfl
theorem W29_of {args : List D} (ha : args.all (D.noRef 0 0) = true) (hl : args.length ≤ 18) {H : Hp} {o : Out × Hp}
    (h : alone H (fnOut Tryz.prog [.tmp 2, .tmp 3, .tmp 4] 0 0 (E false ⟨0, 0⟩ 29 code29 (mkF 0 args) H00)) = some o) : W 29 args H = some o :=
  W_of Tryz.func29 rfl (by kernel_rfl) rfl rfl rfl rfl rfl ha (by rw [Tryz.ntmps29]; exact hl) h
/-! ### f32: sward/kind.Count -/
@[simp] theorem k32_0 : ch.keep 32 0 = [1] := by kernel_rfl
@[simp] theorem k32_1 : ch.keep 32 1 = [1, 7] := by kernel_rfl
@[simp] theorem k32_2 : ch.keep 32 2 = [2, 3] := by kernel_rfl
@[simp] theorem k32_3 : ch.keep 32 3 = [4] := by kernel_rfl
@[simp] theorem k32_4 : ch.keep 32 4 = [4, 11] := by kernel_rfl
@[simp] theorem k32_5 : ch.keep 32 5 = [2, 3] := by kernel_rfl
@[simp] theorem k32_6 : ch.keep 32 6 = [2, 3] := by kernel_rfl
noncomputable def code32 : Code := match Tryz.f32.body with | some c => c | none => .skip
theorem rs32 : Tryz.f32.results.toList = [.tmp 2, .tmp 3] := rfl
theorem W32_of {args : List D} (ha : args.all (D.noRef 0 0) = true) (hl : args.length ≤ 13) {H : Hp} {o : Out × Hp}
    (h : alone H (fnOut Tryz.prog [.tmp 2, .tmp 3] 0 0 (E false ⟨0, 0⟩ 32 code32 (mkF 0 args) H00)) = some o) : W 32 args H = some o :=
  W_of Tryz.func32 rfl (by kernel_rfl) rfl rfl rfl rfl rfl ha (by rw [Tryz.ntmps32]; exact hl) h
/-! ### f39: sward/swardref05.Int -/
@[simp] theorem k39_0 : ch.keep 39 0 = [0, 1, 4] := by kernel_rfl
@[simp] theorem k39_1 : ch.keep 39 1 = [4] := by kernel_rfl
noncomputable def code39 : Code := match Tryz.f39.body with | some c => c | none => .skip
theorem rs39 : Tryz.f39.results.toList = [.cell 4 25] := rfl
theorem W39_of {args : List D} (ha : args.all (D.noRef 0 0) = true) (hl : args.length ≤ 8) {H : Hp} {o : Out × Hp}
    (h : alone H (fnOut Tryz.prog [.cell 4 25] 0 0 (E false ⟨0, 0⟩ 39 code39 (mkF 0 args) H00)) = some o) : W 39 args H = some o :=
  W_of Tryz.func39 rfl (by kernel_rfl) rfl rfl rfl rfl rfl ha (by rw [Tryz.ntmps39]; exact hl) h
/-! ### f41: sward/kind.Check -/
@[simp] theorem k41_0 : ch.keep 41 0 = [1] := by kernel_rfl
@[simp] theorem k41_1 : ch.keep 41 1 = [5] := by kernel_rfl
@[simp] theorem k41_2 : ch.keep 41 2 = [2] := by kernel_rfl
@[simp] theorem k41_3 : ch.keep 41 3 = [2] := by kernel_rfl
noncomputable def code41 : Code := match Tryz.f41.body with | some c => c | none => .skip
theorem rs41 : Tryz.f41.results.toList = [.tmp 2] := rfl
theorem W41_of {args : List D} (ha : args.all (D.noRef 0 0) = true) (hl : args.length ≤ 6) {H : Hp} {o : Out × Hp}
    (h : alone H (fnOut Tryz.prog [.tmp 2] 0 0 (E false ⟨0, 0⟩ 41 code41 (mkF 0 args) H00)) = some o) : W 41 args H = some o :=
  W_of Tryz.func41 rfl (by kernel_rfl) rfl rfl rfl rfl rfl ha (by rw [Tryz.ntmps41]; exact hl) h
/-! ### f42: sward/swardref05.Size -/
@[simp] theorem k42_0 : ch.keep 42 0 = [1] := by kernel_rfl
@[simp] theorem k42_1 : ch.keep 42 1 = [1, 12] := by kernel_rfl
@[simp] theorem k42_2 : ch.keep 42 2 = [1, 12, 13] := by kernel_rfl
@[simp] theorem k42_3 : ch.keep 42 3 = [2, 3] := by kernel_rfl
@[simp] theorem k42_4 : ch.keep 42 4 = [1, 12, 15] := by kernel_rfl
@[simp] theorem k42_5 : ch.keep 42 5 = [1, 4, 5] := by kernel_rfl
@[simp] theorem k42_6 : ch.keep 42 6 = [1, 4, 5, 6] := by kernel_rfl
@[simp] theorem k42_7 : ch.keep 42 7 = [1, 4, 5, 6, 21] := by kernel_rfl
@[simp] theorem k42_8 : ch.keep 42 8 = [1, 4, 5, 6] := by kernel_rfl
@[simp] theorem k42_9 : ch.keep 42 9 = [1, 4, 5, 6, 7, 8] := by kernel_rfl
@[simp] theorem k42_10 : ch.keep 42 10 = [1, 4, 5, 6, 7, 8, 34] := by kernel_rfl
@[simp] theorem k42_11 : ch.keep 42 11 = [2, 3] := by kernel_rfl
@[simp] theorem k42_12 : ch.keep 42 12 = [1, 4, 5, 6] := by kernel_rfl
@[simp] theorem k42_13 : ch.keep 42 13 = [2, 3] := by kernel_rfl
@[simp] theorem k42_14 : ch.keep 42 14 = [1, 45] := by kernel_rfl
@[simp] theorem k42_15 : ch.keep 42 15 = [1, 9, 10] := by kernel_rfl
@[simp] theorem k42_16 : ch.keep 42 16 = [1, 9, 10, 61] := by kernel_rfl
@[simp] theorem k42_17 : ch.keep 42 17 = [2, 3] := by kernel_rfl
@[simp] theorem k42_18 : ch.keep 42 18 = [2, 3] := by kernel_rfl
@[simp] theorem k42_19 : ch.keep 42 19 = [2, 3] := by kernel_rfl
noncomputable def code42 : Code := match Tryz.f42.body with | some c => c | none => .skip
noncomputable def lp42_0 : Code := match code42 with | .seq _ (.seq (.seq _ (.block _ (.seq _ (.cond _ _ (.seq _ (.cond _ (.seq _ (.seq (.seq _ (.block _ (.loop c))) _)) _)))))) _) => c | c => c
theorem hd42_0 : ch.head 42 (firstR lp42_0) = [1, 4, 5, 6] := by kernel_rfl
theorem rs42 : Tryz.f42.results.toList = [.tmp 2, .tmp 3] := rfl
theorem W42_of {args : List D} (ha : args.all (D.noRef 0 0) = true) (hl : args.length ≤ 70) {H : Hp} {o : Out × Hp}
    (h : alone H (fnOut Tryz.prog [.tmp 2, .tmp 3] 0 0 (E false ⟨0, 0⟩ 42 code42 (mkF 0 args) H00)) = some o) : W 42 args H = some o :=
  W_of Tryz.func42 rfl (by kernel_rfl) rfl rfl rfl rfl rfl ha (by rw [Tryz.ntmps42]; exact hl) h
/-! ### f43: sward/swardref05.Count -/
@[simp] theorem k43_0 : ch.keep 43 0 = [1] := by kernel_rfl
@[simp] theorem k43_1 : ch.keep 43 1 = [1, 10] := by kernel_rfl
@[simp] theorem k43_2 : ch.keep 43 2 = [1, 10, 11] := by kernel_rfl
@[simp] theorem k43_3 : ch.keep 43 3 = [2, 3] := by kernel_rfl
@[simp] theorem k43_4 : ch.keep 43 4 = [1, 10, 13] := by kernel_rfl
@[simp] theorem k43_5 : ch.keep 43 5 = [2, 3] := by kernel_rfl
@[simp] theorem k43_6 : ch.keep 43 6 = [1, 10, 15] := by kernel_rfl
@[simp] theorem k43_7 : ch.keep 43 7 = [4] := by kernel_rfl
@[simp] theorem k43_8 : ch.keep 43 8 = [2, 3] := by kernel_rfl
@[simp] theorem k43_9 : ch.keep 43 9 = [1, 26] := by kernel_rfl
@[simp] theorem k43_10 : ch.keep 43 10 = [1, 5] := by kernel_rfl
@[simp] theorem k43_11 : ch.keep 43 11 = [1, 5, 6] := by kernel_rfl
@[simp] theorem k43_12 : ch.keep 43 12 = [1, 5, 6, 32] := by kernel_rfl
@[simp] theorem k43_13 : ch.keep 43 13 = [1, 5, 6] := by kernel_rfl
@[simp] theorem k43_14 : ch.keep 43 14 = [1, 5, 6, 7, 8] := by kernel_rfl
@[simp] theorem k43_15 : ch.keep 43 15 = [1, 5, 6, 7, 56] := by kernel_rfl
@[simp] theorem k43_16 : ch.keep 43 16 = [2, 3] := by kernel_rfl
@[simp] theorem k43_17 : ch.keep 43 17 = [1, 5, 6] := by kernel_rfl
@[simp] theorem k43_18 : ch.keep 43 18 = [2, 3] := by kernel_rfl
@[simp] theorem k43_19 : ch.keep 43 19 = [2, 3] := by kernel_rfl
noncomputable def code43 : Code := match Tryz.f43.body with | some c => c | none => .skip
noncomputable def lp43_0 : Code := match code43 with | .seq _ (.seq (.seq _ (.block _ (.seq _ (.cond _ _ (.seq _ (.cond _ _ (.seq _ (.cond _ _ (.seq _ (.cond _ (.seq _ (.seq (.seq _ (.block _ (.loop c))) _)) _)))))))))) _) => c | c => c
theorem hd43_0 : ch.head 43 (firstR lp43_0) = [1, 5, 6] := by kernel_rfl
theorem rs43 : Tryz.f43.results.toList = [.tmp 2, .tmp 3] := rfl
theorem W43_of {args : List D} (ha : args.all (D.noRef 0 0) = true) (hl : args.length ≤ 62) {H : Hp} {o : Out × Hp}
    (h : alone H (fnOut Tryz.prog [.tmp 2, .tmp 3] 0 0 (E false ⟨0, 0⟩ 43 code43 (mkF 0 args) H00)) = some o) : W 43 args H = some o :=
  W_of Tryz.func43 rfl (by kernel_rfl) rfl rfl rfl rfl rfl ha (by rw [Tryz.ntmps43]; exact hl) h
/-! ### f49: sward/swardref05.Weigh -/
@[simp] theorem k49_0 : ch.keep 49 0 = [1, 2, 3] := by kernel_rfl
@[simp] theorem k49_1 : ch.keep 49 1 = [1, 2, 3, 13] := by kernel_rfl
@[simp] theorem k49_2 : ch.keep 49 2 = [6] := by kernel_rfl
@[simp] theorem k49_3 : ch.keep 49 3 = [1, 2, 3] := by kernel_rfl
@[simp] theorem k49_4 : ch.keep 49 4 = [1, 2, 3, 7] := by kernel_rfl
@[simp] theorem k49_5 : ch.keep 49 5 = [1, 2, 3, 7, 24] := by kernel_rfl
@[simp] theorem k49_6 : ch.keep 49 6 = [1, 2, 3, 7] := by kernel_rfl
@[simp] theorem k49_7 : ch.keep 49 7 = [1, 2, 3, 7] := by kernel_rfl
@[simp] theorem k49_8 : ch.keep 49 8 = [6] := by kernel_rfl
noncomputable def code49 : Code := match Tryz.f49.body with | some c => c | none => .skip
noncomputable def lp49_0 : Code := match code49 with | .seq _ (.seq _ (.seq _ (.seq (.seq _ (.block _ (.loop c))) _))) => c | c => c
theorem hd49_0 : ch.head 49 (firstR lp49_0) = [1, 2, 3, 7] := by kernel_rfl
theorem rs49 : Tryz.f49.results.toList = [.tmp 6] := rfl
theorem W49_of {args : List D} (ha : args.all (D.noRef 0 0) = true) (hl : args.length ≤ 37) {H : Hp} {o : Out × Hp}
    (h : alone H (fnOut Tryz.prog [.tmp 6] 0 0 (E false ⟨0, 0⟩ 49 code49 (mkF 0 args) H00)) = some o) : W 49 args H = some o :=
  W_of Tryz.func49 rfl (by kernel_rfl) rfl rfl rfl rfl rfl ha (by rw [Tryz.ntmps49]; exact hl) h
/-! ### f53: sward/swardref05.Set -/
@[simp] theorem k53_0 : ch.keep 53 0 = [0, 3, 4] := by kernel_rfl
@[simp] theorem k53_1 : ch.keep 53 1 = [4] := by kernel_rfl
noncomputable def code53 : Code := match Tryz.f53.body with | some c => c | none => .skip
theorem rs53 : Tryz.f53.results.toList = [.cell 4 25] := rfl
theorem W53_of {args : List D} (ha : args.all (D.noRef 0 0) = true) (hl : args.length ≤ 9) {H : Hp} {o : Out × Hp}
    (h : alone H (fnOut Tryz.prog [.cell 4 25] 0 0 (E false ⟨0, 0⟩ 53 code53 (mkF 0 args) H00)) = some o) : W 53 args H = some o :=
  W_of Tryz.func53 rfl (by kernel_rfl) rfl rfl rfl rfl rfl ha (by rw [Tryz.ntmps53]; exact hl) h
/-! ### f54: sward/swardref05.Bool -/
@[simp] theorem k54_0 : ch.keep 54 0 = [0] := by kernel_rfl
@[simp] theorem k54_1 : ch.keep 54 1 = [0] := by kernel_rfl
noncomputable def code54 : Code := match Tryz.f54.body with | some c => c | none => .skip
theorem rs54 : Tryz.f54.results.toList = [.cell 0 25] := rfl
theorem W54_of {args : List D} (ha : args.all (D.noRef 0 0) = true) (hl : args.length ≤ 2) {H : Hp} {o : Out × Hp}
    (h : alone H (fnOut Tryz.prog [.cell 0 25] 0 0 (E false ⟨0, 0⟩ 54 code54 (mkF 0 args) H00)) = some o) : W 54 args H = some o :=
  W_of Tryz.func54 rfl (by kernel_rfl) rfl rfl rfl rfl rfl ha (by rw [Tryz.ntmps54]; exact hl) h
/-! ### f60: sward/kind.valid -/
@[simp] theorem k60_0 : ch.keep 60 0 = [1] := by kernel_rfl
@[simp] theorem k60_1 : ch.keep 60 1 = [2] := by kernel_rfl
noncomputable def code60 : Code := match Tryz.f60.body with | some c => c | none => .skip
theorem rs60 : Tryz.f60.results.toList = [.tmp 2] := rfl
theorem W60_of {args : List D} (ha : args.all (D.noRef 0 0) = true) (hl : args.length ≤ 6) {H : Hp} {o : Out × Hp}
    (h : alone H (fnOut Tryz.prog [.tmp 2] 0 0 (E false ⟨0, 0⟩ 60 code60 (mkF 0 args) H00)) = some o) : W 60 args H = some o :=
  W_of Tryz.func60 rfl (by kernel_rfl) rfl rfl rfl rfl rfl ha (by rw [Tryz.ntmps60]; exact hl) h
/-! ### f64: sward/kind.copied -/
@[simp] theorem k64_0 : ch.keep 64 0 = [1, 2] := by kernel_rfl
@[simp] theorem k64_1 : ch.keep 64 1 = [1, 2, 3] := by kernel_rfl
@[simp] theorem k64_2 : ch.keep 64 2 = [1, 2, 3, 7, 8, 9] := by kernel_rfl
@[simp] theorem k64_3 : ch.keep 64 3 = [1, 2, 3, 7, 8, 9, 10] := by kernel_rfl
@[simp] theorem k64_4 : ch.keep 64 4 = [1, 2, 3, 5, 7, 8, 9] := by kernel_rfl
@[simp] theorem k64_5 : ch.keep 64 5 = [1, 2, 3, 7, 8, 9] := by kernel_rfl
@[simp] theorem k64_6 : ch.keep 64 6 = [1, 2, 3, 7, 8, 9] := by kernel_rfl
@[simp] theorem k64_7 : ch.keep 64 7 = [1, 2] := by kernel_rfl
@[simp] theorem k64_8 : ch.keep 64 8 = [2] := by kernel_rfl
noncomputable def code64 : Code := match Tryz.f64.body with | some c => c | none => .skip
noncomputable def lp64_0 : Code := match code64 with | .seq _ (.seq _ (.seq (.seq _ (.block _ (.loop c))) _)) => c | c => c
theorem hd64_0 : ch.head 64 (firstR lp64_0) = [1, 2, 3, 7, 8, 9] := by kernel_rfl
theorem rs64 : Tryz.f64.results.toList = [.cell 2 25] := rfl
theorem W64_of {args : List D} (ha : args.all (D.noRef 0 0) = true) (hl : args.length ≤ 22) {H : Hp} {o : Out × Hp}
    (h : alone H (fnOut Tryz.prog [.cell 2 25] 0 0 (E false ⟨0, 0⟩ 64 code64 (mkF 0 args) H00)) = some o) : W 64 args H = some o :=
  W_of Tryz.func64 rfl (by kernel_rfl) rfl rfl rfl rfl rfl ha (by rw [Tryz.ntmps64]; exact hl) h
/-! ### f67: sward/swardref05.shaped -/
@[simp] theorem k67_0 : ch.keep 67 0 = [1] := by kernel_rfl
@[simp] theorem k67_1 : ch.keep 67 1 = [1, 3] := by kernel_rfl
@[simp] theorem k67_2 : ch.keep 67 2 = [1, 3, 8] := by kernel_rfl
@[simp] theorem k67_3 : ch.keep 67 3 = [1, 3] := by kernel_rfl
@[simp] theorem k67_4 : ch.keep 67 4 = [1, 3, 17] := by kernel_rfl
@[simp] theorem k67_5 : ch.keep 67 5 = [2] := by kernel_rfl
@[simp] theorem k67_6 : ch.keep 67 6 = [1, 19] := by kernel_rfl
@[simp] theorem k67_7 : ch.keep 67 7 = [1, 19, 20] := by kernel_rfl
@[simp] theorem k67_8 : ch.keep 67 8 = [1, 19, 20] := by kernel_rfl
@[simp] theorem k67_9 : ch.keep 67 9 = [1, 19, 20] := by kernel_rfl
@[simp] theorem k67_10 : ch.keep 67 10 = [2] := by kernel_rfl
@[simp] theorem k67_11 : ch.keep 67 11 = [1, 19, 32] := by kernel_rfl
@[simp] theorem k67_12 : ch.keep 67 12 = [2] := by kernel_rfl
@[simp] theorem k67_13 : ch.keep 67 13 = [1, 19, 55] := by kernel_rfl
@[simp] theorem k67_14 : ch.keep 67 14 = [2] := by kernel_rfl
@[simp] theorem k67_15 : ch.keep 67 15 = [1, 65] := by kernel_rfl
@[simp] theorem k67_16 : ch.keep 67 16 = [2] := by kernel_rfl
@[simp] theorem k67_17 : ch.keep 67 17 = [2] := by kernel_rfl
noncomputable def code67 : Code := match Tryz.f67.body with | some c => c | none => .skip
noncomputable def lp67_0 : Code := match code67 with | .seq _ (.seq (.seq _ (.block _ (.loop c))) _) => c | c => c
theorem hd67_0 : ch.head 67 (firstR lp67_0) = [1, 3] := by kernel_rfl
theorem rs67 : Tryz.f67.results.toList = [.tmp 2] := rfl
theorem W67_of {args : List D} (ha : args.all (D.noRef 0 0) = true) (hl : args.length ≤ 86) {H : Hp} {o : Out × Hp}
    (h : alone H (fnOut Tryz.prog [.tmp 2] 0 0 (E false ⟨0, 0⟩ 67 code67 (mkF 0 args) H00)) = some o) : W 67 args H = some o :=
  W_of Tryz.func67 rfl (by kernel_rfl) rfl rfl rfl rfl rfl ha (by rw [Tryz.ntmps67]; exact hl) h
/-! ### f68: sward/swardref05.in -/
@[simp] theorem k68_0 : ch.keep 68 0 = [0, 1, 2] := by kernel_rfl
@[simp] theorem k68_1 : ch.keep 68 1 = [6] := by kernel_rfl
noncomputable def code68 : Code := match Tryz.f68.body with | some c => c | none => .skip
theorem rs68 : Tryz.f68.results.toList = [.tmp 6] := rfl
theorem W68_of {args : List D} (ha : args.all (D.noRef 0 0) = true) (hl : args.length ≤ 15) {H : Hp} {o : Out × Hp}
    (h : alone H (fnOut Tryz.prog [.tmp 6] 0 0 (E false ⟨0, 0⟩ 68 code68 (mkF 0 args) H00)) = some o) : W 68 args H = some o :=
  W_of Tryz.func68 rfl (by kernel_rfl) rfl rfl rfl rfl rfl ha (by rw [Tryz.ntmps68]; exact hl) h
/-! ### f69: sward/kind.within -/
@[simp] theorem k69_0 : ch.keep 69 0 = [2, 3] := by kernel_rfl
@[simp] theorem k69_1 : ch.keep 69 1 = [2, 3, 9] := by kernel_rfl
@[simp] theorem k69_2 : ch.keep 69 2 = [4] := by kernel_rfl
@[simp] theorem k69_3 : ch.keep 69 3 = [2, 3, 23] := by kernel_rfl
@[simp] theorem k69_4 : ch.keep 69 4 = [4] := by kernel_rfl
@[simp] theorem k69_5 : ch.keep 69 5 = [2, 3, 5] := by kernel_rfl
@[simp] theorem k69_6 : ch.keep 69 6 = [2, 3, 5, 26, 27] := by kernel_rfl
@[simp] theorem k69_7 : ch.keep 69 7 = [2, 3, 5, 26, 27, 28] := by kernel_rfl
@[simp] theorem k69_8 : ch.keep 69 8 = [2, 3, 5, 6, 26, 27] := by kernel_rfl
@[simp] theorem k69_9 : ch.keep 69 9 = [2, 3, 5, 26, 27] := by kernel_rfl
@[simp] theorem k69_10 : ch.keep 69 10 = [2, 3, 5, 26, 27] := by kernel_rfl
@[simp] theorem k69_11 : ch.keep 69 11 = [2, 3, 5, 46] := by kernel_rfl
@[simp] theorem k69_12 : ch.keep 69 12 = [2, 3, 5, 46, 47] := by kernel_rfl
@[simp] theorem k69_13 : ch.keep 69 13 = [4] := by kernel_rfl
@[simp] theorem k69_14 : ch.keep 69 14 = [2, 3, 5, 61] := by kernel_rfl
@[simp] theorem k69_15 : ch.keep 69 15 = [4] := by kernel_rfl
@[simp] theorem k69_16 : ch.keep 69 16 = [4] := by kernel_rfl
@[simp] theorem fl69_9 : ch.fl 69 9 = [0, 0, 1, 1, 1, 1, 1, 1, 1, 1, 1, 1, 0, 0, 0] := by kernel_rfl
noncomputable def code69 : Code := match Tryz.f69.body with | some c => c | none => .skip
noncomputable def lp69_0 : Code := match code69 with | .seq _ (.seq _ (.seq _ (.seq _ (.seq (.seq _ (.block _ (.loop c))) _)))) => c | c => c
theorem hd69_0 : ch.head 69 (firstR lp69_0) = [2, 3, 5, 26, 27] := by kernel_rfl
theorem rs69 : Tryz.f69.results.toList = [.tmp 4] := rfl
theorem W69_of {args : List D} (ha : args.all (D.noRef 0 0) = true) (hl : args.length ≤ 77) {H : Hp} {o : Out × Hp}
    (h : alone H (fnOut Tryz.prog [.tmp 4] 0 0 (E false ⟨0, 0⟩ 69 code69 (mkF 0 args) H00)) = some o) : W 69 args H = some o :=
  W_of Tryz.func69 rfl (by kernel_rfl) rfl rfl rfl rfl rfl ha (by rw [Tryz.ntmps69]; exact hl) h
/-! ### f70: sward/kind.join -/
@[simp] theorem k70_0 : ch.keep 70 0 = [2, 3, 4] := by kernel_rfl
@[simp] theorem k70_1 : ch.keep 70 1 = [2, 3, 4, 10] := by kernel_rfl
@[simp] theorem k70_2 : ch.keep 70 2 = [4, 5] := by kernel_rfl
@[simp] theorem k70_3 : ch.keep 70 3 = [2, 3, 4, 15] := by kernel_rfl
@[simp] theorem k70_4 : ch.keep 70 4 = [4, 5] := by kernel_rfl
@[simp] theorem k70_5 : ch.keep 70 5 = [2, 3, 4, 20] := by kernel_rfl
@[simp] theorem k70_6 : ch.keep 70 6 = [4, 5] := by kernel_rfl
@[simp] theorem k70_7 : ch.keep 70 7 = [2, 3, 4, 6] := by kernel_rfl
@[simp] theorem k70_8 : ch.keep 70 8 = [2, 3, 4, 6, 46] := by kernel_rfl
@[simp] theorem k70_9 : ch.keep 70 9 = [2, 3, 4, 6] := by kernel_rfl
@[simp] theorem k70_10 : ch.keep 70 10 = [2, 3, 4, 6, 61, 62] := by kernel_rfl
@[simp] theorem k70_11 : ch.keep 70 11 = [2, 3, 4, 6, 61, 62, 63] := by kernel_rfl
@[simp] theorem k70_12 : ch.keep 70 12 = [2, 3, 4, 6, 7, 61, 62] := by kernel_rfl
@[simp] theorem k70_13 : ch.keep 70 13 = [2, 3, 4, 6, 8, 9, 61, 62] := by kernel_rfl
@[simp] theorem k70_14 : ch.keep 70 14 = [2, 3, 4, 6, 8, 61, 62, 80] := by kernel_rfl
@[simp] theorem k70_15 : ch.keep 70 15 = [4, 5] := by kernel_rfl
@[simp] theorem k70_16 : ch.keep 70 16 = [2, 3, 4, 6, 61, 62] := by kernel_rfl
@[simp] theorem k70_17 : ch.keep 70 17 = [2, 3, 4, 6, 61, 62] := by kernel_rfl
@[simp] theorem k70_18 : ch.keep 70 18 = [4, 5] := by kernel_rfl
@[simp] theorem fl70_9 : ch.fl 70 9 = [1, 1, 1, 1, 1, 13, 13, 13, 13, 13, 1, 12, 0, 0] := by kernel_rfl
@[simp] theorem fl70_13 : ch.fl 70 13 = [1001, 1001, 6, 1001, 1001, 1001, 1001, 6, 1001, 1001, 1000, 6, 6, 6, 2000, 2000, 0] := by kernel_rfl
noncomputable def code70 : Code := match Tryz.f70.body with | some c => c | none => .skip
noncomputable def lp70_0 : Code := match code70 with | .seq _ (.seq _ (.seq _ (.seq _ (.seq (.seq _ (.block _ (.loop c))) _)))) => c | c => c
theorem hd70_0 : ch.head 70 (firstR lp70_0) = [2, 3, 4, 6, 61, 62] := by kernel_rfl
theorem rs70 : Tryz.f70.results.toList = [.cell 4 25, .tmp 5] := rfl
theorem W70_of {args : List D} (ha : args.all (D.noRef 0 0) = true) (hl : args.length ≤ 90) {H : Hp} {o : Out × Hp}
    (h : alone H (fnOut Tryz.prog [.cell 4 25, .tmp 5] 0 0 (E false ⟨0, 0⟩ 70 code70 (mkF 0 args) H00)) = some o) : W 70 args H = some o :=
  W_of Tryz.func70 rfl (by kernel_rfl) rfl rfl rfl rfl rfl ha (by rw [Tryz.ntmps70]; exact hl) h
/-! ### f71: sward/kind.size -/
@[simp] theorem k71_0 : ch.keep 71 0 = [1] := by kernel_rfl
@[simp] theorem k71_1 : ch.keep 71 1 = [1, 4, 5] := by kernel_rfl
@[simp] theorem k71_2 : ch.keep 71 2 = [1, 4, 5, 11, 12, 13] := by kernel_rfl
@[simp] theorem k71_3 : ch.keep 71 3 = [1, 4, 5, 11, 12, 13, 14] := by kernel_rfl
@[simp] theorem k71_4 : ch.keep 71 4 = [1, 4, 5, 7, 11, 12, 13] := by kernel_rfl
@[simp] theorem k71_5 : ch.keep 71 5 = [1, 4, 5, 8, 9, 11, 12, 13] := by kernel_rfl
@[simp] theorem k71_6 : ch.keep 71 6 = [1, 4, 5, 8, 9, 11, 12, 13, 28] := by kernel_rfl
@[simp] theorem k71_7 : ch.keep 71 7 = [2, 3] := by kernel_rfl
@[simp] theorem k71_8 : ch.keep 71 8 = [1, 4, 5, 11, 12, 13] := by kernel_rfl
@[simp] theorem k71_9 : ch.keep 71 9 = [1, 4, 5, 11, 12, 13] := by kernel_rfl
@[simp] theorem k71_10 : ch.keep 71 10 = [1, 4, 5, 37] := by kernel_rfl
@[simp] theorem k71_11 : ch.keep 71 11 = [1, 4, 5, 37, 38] := by kernel_rfl
@[simp] theorem k71_12 : ch.keep 71 12 = [2, 3] := by kernel_rfl
@[simp] theorem k71_13 : ch.keep 71 13 = [1, 4, 5, 37, 40] := by kernel_rfl
@[simp] theorem k71_14 : ch.keep 71 14 = [2, 3] := by kernel_rfl
@[simp] theorem k71_15 : ch.keep 71 15 = [1, 4, 5, 46] := by kernel_rfl
@[simp] theorem k71_16 : ch.keep 71 16 = [1, 4, 5, 54] := by kernel_rfl
@[simp] theorem k71_17 : ch.keep 71 17 = [2, 3] := by kernel_rfl
@[simp] theorem k71_18 : ch.keep 71 18 = [2, 3] := by kernel_rfl
@[simp] theorem k71_19 : ch.keep 71 19 = [2, 3] := by kernel_rfl
noncomputable def code71 : Code := match Tryz.f71.body with | some c => c | none => .skip
noncomputable def lp71_0 : Code := match code71 with | .seq _ (.seq _ (.seq (.seq _ (.block _ (.loop c))) _)) => c | c => c
theorem hd71_0 : ch.head 71 (firstR lp71_0) = [1, 4, 5, 11, 12, 13] := by kernel_rfl
theorem rs71 : Tryz.f71.results.toList = [.tmp 2, .tmp 3] := rfl
theorem W71_of {args : List D} (ha : args.all (D.noRef 0 0) = true) (hl : args.length ≤ 63) {H : Hp} {o : Out × Hp}
    (h : alone H (fnOut Tryz.prog [.tmp 2, .tmp 3] 0 0 (E false ⟨0, 0⟩ 71 code71 (mkF 0 args) H00)) = some o) : W 71 args H = some o :=
  W_of Tryz.func71 rfl (by kernel_rfl) rfl rfl rfl rfl rfl ha (by rw [Tryz.ntmps71]; exact hl) h
/-! ### f72: sward/kind.count -/
@[simp] theorem k72_0 : ch.keep 72 0 = [1] := by kernel_rfl
@[simp] theorem k72_1 : ch.keep 72 1 = [1, 9] := by kernel_rfl
@[simp] theorem k72_2 : ch.keep 72 2 = [1, 9, 10] := by kernel_rfl
@[simp] theorem k72_3 : ch.keep 72 3 = [2] := by kernel_rfl
@[simp] theorem k72_4 : ch.keep 72 4 = [1, 9, 12] := by kernel_rfl
@[simp] theorem k72_5 : ch.keep 72 5 = [3] := by kernel_rfl
@[simp] theorem k72_6 : ch.keep 72 6 = [3, 21] := by kernel_rfl
@[simp] theorem k72_7 : ch.keep 72 7 = [2] := by kernel_rfl
@[simp] theorem k72_8 : ch.keep 72 8 = [2] := by kernel_rfl
@[simp] theorem k72_9 : ch.keep 72 9 = [1, 9, 23] := by kernel_rfl
@[simp] theorem k72_10 : ch.keep 72 10 = [2] := by kernel_rfl
@[simp] theorem k72_11 : ch.keep 72 11 = [1, 25] := by kernel_rfl
@[simp] theorem k72_12 : ch.keep 72 12 = [1, 4] := by kernel_rfl
@[simp] theorem k72_13 : ch.keep 72 13 = [4, 28, 29, 30] := by kernel_rfl
@[simp] theorem k72_14 : ch.keep 72 14 = [4, 28, 29, 30, 31] := by kernel_rfl
@[simp] theorem k72_15 : ch.keep 72 15 = [4, 6, 28, 29, 30] := by kernel_rfl
@[simp] theorem k72_16 : ch.keep 72 16 = [4, 7, 28, 29, 30] := by kernel_rfl
@[simp] theorem k72_17 : ch.keep 72 17 = [4, 7, 28, 29, 30, 37] := by kernel_rfl
@[simp] theorem k72_18 : ch.keep 72 18 = [2] := by kernel_rfl
@[simp] theorem k72_19 : ch.keep 72 19 = [4, 28, 29, 30] := by kernel_rfl
@[simp] theorem k72_20 : ch.keep 72 20 = [4, 28, 29, 30] := by kernel_rfl
@[simp] theorem k72_21 : ch.keep 72 21 = [2] := by kernel_rfl
@[simp] theorem k72_22 : ch.keep 72 22 = [2] := by kernel_rfl
noncomputable def code72 : Code := match Tryz.f72.body with | some c => c | none => .skip
noncomputable def lp72_0 : Code := match code72 with | .seq _ (.seq (.seq _ (.block _ (.seq _ (.cond _ _ (.seq _ (.cond _ _ (.seq _ (.cond _ _ (.seq _ (.cond _ (.seq _ (.seq (.seq _ (.block _ (.loop c))) _)) _)))))))))) _) => c | c => c
theorem hd72_0 : ch.head 72 (firstR lp72_0) = [4, 28, 29, 30] := by kernel_rfl
theorem rs72 : Tryz.f72.results.toList = [.tmp 2] := rfl
theorem W72_of {args : List D} (ha : args.all (D.noRef 0 0) = true) (hl : args.length ≤ 45) {H : Hp} {o : Out × Hp}
    (h : alone H (fnOut Tryz.prog [.tmp 2] 0 0 (E false ⟨0, 0⟩ 72 code72 (mkF 0 args) H00)) = some o) : W 72 args H = some o :=
  W_of Tryz.func72 rfl (by kernel_rfl) rfl rfl rfl rfl rfl ha (by rw [Tryz.ntmps72]; exact hl) h
/-! ### f82: sward/swardref05.empty -/
@[simp] theorem k82_0 : ch.keep 82 0 = [1] := by kernel_rfl
@[simp] theorem k82_1 : ch.keep 82 1 = [1, 3] := by kernel_rfl
@[simp] theorem k82_2 : ch.keep 82 2 = [1, 3, 10] := by kernel_rfl
@[simp] theorem k82_3 : ch.keep 82 3 = [1, 3] := by kernel_rfl
@[simp] theorem k82_4 : ch.keep 82 4 = [1, 3, 4, 5] := by kernel_rfl
@[simp] theorem k82_5 : ch.keep 82 5 = [1, 3, 26] := by kernel_rfl
@[simp] theorem k82_6 : ch.keep 82 6 = [2] := by kernel_rfl
@[simp] theorem k82_7 : ch.keep 82 7 = [2] := by kernel_rfl
noncomputable def code82 : Code := match Tryz.f82.body with | some c => c | none => .skip
noncomputable def lp82_0 : Code := match code82 with | .seq _ (.seq (.seq _ (.block _ (.loop c))) _) => c | c => c
theorem hd82_0 : ch.head 82 (firstR lp82_0) = [1, 3] := by kernel_rfl
theorem rs82 : Tryz.f82.results.toList = [.tmp 2] := rfl
theorem W82_of {args : List D} (ha : args.all (D.noRef 0 0) = true) (hl : args.length ≤ 27) {H : Hp} {o : Out × Hp}
    (h : alone H (fnOut Tryz.prog [.tmp 2] 0 0 (E false ⟨0, 0⟩ 82 code82 (mkF 0 args) H00)) = some o) : W 82 args H = some o :=
  W_of Tryz.func82 rfl (by kernel_rfl) rfl rfl rfl rfl rfl ha (by rw [Tryz.ntmps82]; exact hl) h
/-! ### f94: sward/syntax.CheckKind -/
@[simp] theorem k94_0 : ch.keep 94 0 = [1] := by kernel_rfl
@[simp] theorem k94_1 : ch.keep 94 1 = [2] := by kernel_rfl
noncomputable def code94 : Code := match Tryz.f94.body with | some c => c | none => .skip
theorem rs94 : Tryz.f94.results.toList = [.tmp 2] := rfl
theorem W94_of {args : List D} (ha : args.all (D.noRef 0 0) = true) (hl : args.length ≤ 6) {H : Hp} {o : Out × Hp}
    (h : alone H (fnOut Tryz.prog [.tmp 2] 0 0 (E false ⟨0, 0⟩ 94 code94 (mkF 0 args) H00)) = some o) : W 94 args H = some o :=
  W_of Tryz.func94 rfl (by kernel_rfl) rfl rfl rfl rfl rfl ha (by rw [Tryz.ntmps94]; exact hl) h
/-! ### f106: sward/swardref05.plain -/
@[simp] theorem k106_0 : ch.keep 106 0 = [1] := by kernel_rfl
@[simp] theorem k106_1 : ch.keep 106 1 = [2] := by kernel_rfl
noncomputable def code106 : Code := match Tryz.f106.body with | some c => c | none => .skip
theorem rs106 : Tryz.f106.results.toList = [.tmp 2] := rfl
theorem W106_of {args : List D} (ha : args.all (D.noRef 0 0) = true) (hl : args.length ≤ 16) {H : Hp} {o : Out × Hp}
    (h : alone H (fnOut Tryz.prog [.tmp 2] 0 0 (E false ⟨0, 0⟩ 106 code106 (mkF 0 args) H00)) = some o) : W 106 args H = some o :=
  W_of Tryz.func106 rfl (by kernel_rfl) rfl rfl rfl rfl rfl ha (by rw [Tryz.ntmps106]; exact hl) h
/-! ### f107: sward/kind.product -/
@[simp] theorem k107_0 : ch.keep 107 0 = [0] := by kernel_rfl
@[simp] theorem k107_1 : ch.keep 107 1 = [0, 7] := by kernel_rfl
@[simp] theorem k107_2 : ch.keep 107 2 = [2] := by kernel_rfl
@[simp] theorem k107_3 : ch.keep 107 3 = [0, 3] := by kernel_rfl
@[simp] theorem k107_4 : ch.keep 107 4 = [3, 8, 9, 10] := by kernel_rfl
@[simp] theorem k107_5 : ch.keep 107 5 = [3, 8, 9, 10, 11] := by kernel_rfl
@[simp] theorem k107_6 : ch.keep 107 6 = [3, 5, 8, 9, 10] := by kernel_rfl
@[simp] theorem k107_7 : ch.keep 107 7 = [3, 5, 8, 9, 10, 17] := by kernel_rfl
@[simp] theorem k107_8 : ch.keep 107 8 = [2] := by kernel_rfl
@[simp] theorem k107_9 : ch.keep 107 9 = [3, 8, 9, 10] := by kernel_rfl
@[simp] theorem k107_10 : ch.keep 107 10 = [3, 8, 9, 10] := by kernel_rfl
@[simp] theorem k107_11 : ch.keep 107 11 = [2] := by kernel_rfl
noncomputable def code107 : Code := match Tryz.f107.body with | some c => c | none => .skip
noncomputable def lp107_0 : Code := match code107 with | .seq _ (.seq _ (.seq _ (.seq (.seq _ (.block _ (.loop c))) _))) => c | c => c
theorem hd107_0 : ch.head 107 (firstR lp107_0) = [3, 8, 9, 10] := by kernel_rfl
theorem rs107 : Tryz.f107.results.toList = [.tmp 2] := rfl
theorem W107_of {args : List D} (ha : args.all (D.noRef 0 0) = true) (hl : args.length ≤ 23) {H : Hp} {o : Out × Hp}
    (h : alone H (fnOut Tryz.prog [.tmp 2] 0 0 (E false ⟨0, 0⟩ 107 code107 (mkF 0 args) H00)) = some o) : W 107 args H = some o :=
  W_of Tryz.func107 rfl (by kernel_rfl) rfl rfl rfl rfl rfl ha (by rw [Tryz.ntmps107]; exact hl) h
/-! ### f108: sward/syntax.refused -/
@[simp] theorem k108_0 : ch.keep 108 0 = [0] := by kernel_rfl
@[simp] theorem k108_1 : ch.keep 108 1 = [3] := by kernel_rfl
@[simp] theorem k108_2 : ch.keep 108 2 = [2] := by kernel_rfl
@[simp] theorem k108_3 : ch.keep 108 3 = [2] := by kernel_rfl
noncomputable def code108 : Code := match Tryz.f108.body with | some c => c | none => .skip
theorem rs108 : Tryz.f108.results.toList = [.tmp 2] := rfl
theorem W108_of {args : List D} (ha : args.all (D.noRef 0 0) = true) (hl : args.length ≤ 4) {H : Hp} {o : Out × Hp}
    (h : alone H (fnOut Tryz.prog [.tmp 2] 0 0 (E false ⟨0, 0⟩ 108 code108 (mkF 0 args) H00)) = some o) : W 108 args H = some o :=
  W_of Tryz.func108 rfl (by kernel_rfl) rfl rfl rfl rfl rfl ha (by rw [Tryz.ntmps108]; exact hl) h
/-! ### f141: sward/syntax.isKind -/
@[simp] theorem k141_0 : ch.keep 141 0 = [1] := by kernel_rfl
@[simp] theorem k141_1 : ch.keep 141 1 = [2] := by kernel_rfl
noncomputable def code141 : Code := match Tryz.f141.body with | some c => c | none => .skip
theorem rs141 : Tryz.f141.results.toList = [.tmp 2] := rfl
theorem W141_of {args : List D} (ha : args.all (D.noRef 0 0) = true) (hl : args.length ≤ 10) {H : Hp} {o : Out × Hp}
    (h : alone H (fnOut Tryz.prog [.tmp 2] 0 0 (E false ⟨0, 0⟩ 141 code141 (mkF 0 args) H00)) = some o) : W 141 args H = some o :=
  W_of Tryz.func141 rfl (by kernel_rfl) rfl rfl rfl rfl rfl ha (by rw [Tryz.ntmps141]; exact hl) h
/-! ### f146: slices.Contains[[]int,int] -/
@[simp] theorem k146_0 : ch.keep 146 0 = [0, 1] := by kernel_rfl
@[simp] theorem k146_1 : ch.keep 146 1 = [4] := by kernel_rfl
noncomputable def code146 : Code := match Tryz.f146.body with | some c => c | none => .skip
theorem rs146 : Tryz.f146.results.toList = [.tmp 4] := rfl
theorem W146_of {args : List D} (ha : args.all (D.noRef 0 0) = true) (hl : args.length ≤ 9) {H : Hp} {o : Out × Hp}
    (h : alone H (fnOut Tryz.prog [.tmp 4] 0 0 (E false ⟨0, 0⟩ 146 code146 (mkF 0 args) H00)) = some o) : W 146 args H = some o :=
  W_of Tryz.func146 rfl (by kernel_rfl) rfl rfl rfl rfl rfl ha (by rw [Tryz.ntmps146]; exact hl) h
/-! ### f176: sward/syntax.kindNodes -/
@[simp] theorem k176_0 : ch.keep 176 0 = [1, 2, 3] := by kernel_rfl
@[simp] theorem k176_1 : ch.keep 176 1 = [1, 2, 3, 14] := by kernel_rfl
@[simp] theorem k176_2 : ch.keep 176 2 = [6] := by kernel_rfl
@[simp] theorem k176_3 : ch.keep 176 3 = [1, 2, 3] := by kernel_rfl
@[simp] theorem k176_4 : ch.keep 176 4 = [1, 2, 18, 19, 20] := by kernel_rfl
@[simp] theorem k176_5 : ch.keep 176 5 = [1, 2, 18, 19, 20, 21] := by kernel_rfl
@[simp] theorem k176_6 : ch.keep 176 6 = [1, 2, 8, 18, 19, 20] := by kernel_rfl
@[simp] theorem k176_7 : ch.keep 176 7 = [1, 2, 18, 19, 20] := by kernel_rfl
@[simp] theorem k176_8 : ch.keep 176 8 = [1, 2, 18, 19, 20, 30] := by kernel_rfl
@[simp] theorem k176_9 : ch.keep 176 9 = [6] := by kernel_rfl
@[simp] theorem k176_10 : ch.keep 176 10 = [1, 2, 18, 19, 20] := by kernel_rfl
@[simp] theorem k176_11 : ch.keep 176 11 = [6] := by kernel_rfl
noncomputable def code176 : Code := match Tryz.f176.body with | some c => c | none => .skip
noncomputable def lp176_0 : Code := match code176 with | .seq _ (.seq _ (.seq _ (.seq (.seq _ (.block _ (.loop c))) _))) => c | c => c
theorem hd176_0 : ch.head 176 (firstR lp176_0) = [1, 2, 18, 19, 20] := by kernel_rfl
theorem rs176 : Tryz.f176.results.toList = [.tmp 6] := rfl
theorem W176_of {args : List D} (ha : args.all (D.noRef 0 0) = true) (hl : args.length ≤ 33) {H : Hp} {o : Out × Hp}
    (h : alone H (fnOut Tryz.prog [.tmp 6] 0 0 (E false ⟨0, 0⟩ 176 code176 (mkF 0 args) H00)) = some o) : W 176 args H = some o :=
  W_of Tryz.func176 rfl (by kernel_rfl) rfl rfl rfl rfl rfl ha (by rw [Tryz.ntmps176]; exact hl) h
/-! ### f177: sward/syntax.isForm -/
@[simp] theorem k177_0 : ch.keep 177 0 = [1] := by kernel_rfl
@[simp] theorem k177_1 : ch.keep 177 1 = [1, 3] := by kernel_rfl
@[simp] theorem k177_2 : ch.keep 177 2 = [1, 3, 19] := by kernel_rfl
@[simp] theorem k177_3 : ch.keep 177 3 = [2] := by kernel_rfl
@[simp] theorem k177_4 : ch.keep 177 4 = [1, 3, 21] := by kernel_rfl
@[simp] theorem k177_5 : ch.keep 177 5 = [1, 3, 21, 22] := by kernel_rfl
@[simp] theorem k177_6 : ch.keep 177 6 = [1, 3, 21, 22] := by kernel_rfl
@[simp] theorem k177_7 : ch.keep 177 7 = [1, 3, 21, 22] := by kernel_rfl
@[simp] theorem k177_8 : ch.keep 177 8 = [2] := by kernel_rfl
@[simp] theorem k177_9 : ch.keep 177 9 = [1, 3, 21, 33] := by kernel_rfl
@[simp] theorem k177_10 : ch.keep 177 10 = [2] := by kernel_rfl
@[simp] theorem k177_11 : ch.keep 177 11 = [1, 3, 21, 61] := by kernel_rfl
@[simp] theorem k177_12 : ch.keep 177 12 = [2] := by kernel_rfl
@[simp] theorem k177_13 : ch.keep 177 13 = [1, 70] := by kernel_rfl
@[simp] theorem k177_14 : ch.keep 177 14 = [2] := by kernel_rfl
@[simp] theorem k177_15 : ch.keep 177 15 = [2] := by kernel_rfl
noncomputable def code177 : Code := match Tryz.f177.body with | some c => c | none => .skip
theorem rs177 : Tryz.f177.results.toList = [.tmp 2] := rfl
theorem W177_of {args : List D} (ha : args.all (D.noRef 0 0) = true) (hl : args.length ≤ 91) {H : Hp} {o : Out × Hp}
    (h : alone H (fnOut Tryz.prog [.tmp 2] 0 0 (E false ⟨0, 0⟩ 177 code177 (mkF 0 args) H00)) = some o) : W 177 args H = some o :=
  W_of Tryz.func177 rfl (by kernel_rfl) rfl rfl rfl rfl rfl ha (by rw [Tryz.ntmps177]; exact hl) h
/-! ### f184: slices.Index[[]int,int] -/
@[simp] theorem k184_0 : ch.keep 184 0 = [0, 1] := by kernel_rfl
@[simp] theorem k184_1 : ch.keep 184 1 = [0, 1, 7, 8] := by kernel_rfl
@[simp] theorem k184_2 : ch.keep 184 2 = [0, 1, 7, 8, 9] := by kernel_rfl
@[simp] theorem k184_3 : ch.keep 184 3 = [0, 1, 5, 7, 8] := by kernel_rfl
@[simp] theorem k184_4 : ch.keep 184 4 = [0, 1, 5, 7, 8, 16] := by kernel_rfl
@[simp] theorem k184_5 : ch.keep 184 5 = [4] := by kernel_rfl
@[simp] theorem k184_6 : ch.keep 184 6 = [0, 1, 7, 8] := by kernel_rfl
@[simp] theorem k184_7 : ch.keep 184 7 = [4] := by kernel_rfl
noncomputable def code184 : Code := match Tryz.f184.body with | some c => c | none => .skip
noncomputable def lp184_0 : Code := match code184 with | .seq _ (.seq (.seq _ (.block _ (.loop c))) _) => c | c => c
theorem hd184_0 : ch.head 184 (firstR lp184_0) = [0, 1, 7, 8] := by kernel_rfl
theorem rs184 : Tryz.f184.results.toList = [.tmp 4] := rfl
theorem W184_of {args : List D} (ha : args.all (D.noRef 0 0) = true) (hl : args.length ≤ 19) {H : Hp} {o : Out × Hp}
    (h : alone H (fnOut Tryz.prog [.tmp 4] 0 0 (E false ⟨0, 0⟩ 184 code184 (mkF 0 args) H00)) = some o) : W 184 args H = some o :=
  W_of Tryz.func184 rfl (by kernel_rfl) rfl rfl rfl rfl rfl ha (by rw [Tryz.ntmps184]; exact hl) h
/-! ### f187: sward/syntax.isInt -/
@[simp] theorem k187_0 : ch.keep 187 0 = [0] := by kernel_rfl
@[simp] theorem k187_1 : ch.keep 187 1 = [2] := by kernel_rfl
noncomputable def code187 : Code := match Tryz.f187.body with | some c => c | none => .skip
theorem rs187 : Tryz.f187.results.toList = [.tmp 2] := rfl
theorem W187_of {args : List D} (ha : args.all (D.noRef 0 0) = true) (hl : args.length ≤ 5) {H : Hp} {o : Out × Hp}
    (h : alone H (fnOut Tryz.prog [.tmp 2] 0 0 (E false ⟨0, 0⟩ 187 code187 (mkF 0 args) H00)) = some o) : W 187 args H = some o :=
  W_of Tryz.func187 rfl (by kernel_rfl) rfl rfl rfl rfl rfl ha (by rw [Tryz.ntmps187]; exact hl) h
/-! ### f188: sward/syntax.in -/
@[simp] theorem k188_0 : ch.keep 188 0 = [0, 1, 2] := by kernel_rfl
@[simp] theorem k188_1 : ch.keep 188 1 = [6] := by kernel_rfl
noncomputable def code188 : Code := match Tryz.f188.body with | some c => c | none => .skip
theorem rs188 : Tryz.f188.results.toList = [.tmp 6] := rfl
theorem W188_of {args : List D} (ha : args.all (D.noRef 0 0) = true) (hl : args.length ≤ 15) {H : Hp} {o : Out × Hp}
    (h : alone H (fnOut Tryz.prog [.tmp 6] 0 0 (E false ⟨0, 0⟩ 188 code188 (mkF 0 args) H00)) = some o) : W 188 args H = some o :=
  W_of Tryz.func188 rfl (by kernel_rfl) rfl rfl rfl rfl rfl ha (by rw [Tryz.ntmps188]; exact hl) h
/-! ### f206: slices.ContainsFunc[[]sward/api.Kind,sward/api.Kind] -/
@[simp] theorem k206_0 : ch.keep 206 0 = [0, 1] := by kernel_rfl
@[simp] theorem k206_1 : ch.keep 206 1 = [4] := by kernel_rfl
noncomputable def code206 : Code := match Tryz.f206.body with | some c => c | none => .skip
theorem rs206 : Tryz.f206.results.toList = [.tmp 4] := rfl
theorem W206_of {args : List D} (ha : args.all (D.noRef 0 0) = true) (hl : args.length ≤ 9) {H : Hp} {o : Out × Hp}
    (h : alone H (fnOut Tryz.prog [.tmp 4] 0 0 (E false ⟨0, 0⟩ 206 code206 (mkF 0 args) H00)) = some o) : W 206 args H = some o :=
  W_of Tryz.func206 rfl (by kernel_rfl) rfl rfl rfl rfl rfl ha (by rw [Tryz.ntmps206]; exact hl) h
/-! ### f207: sward/syntax.isForm$1 -/
@[simp] theorem k207_0 : ch.keep 207 0 = [1] := by kernel_rfl
@[simp] theorem k207_1 : ch.keep 207 1 = [2] := by kernel_rfl
noncomputable def code207 : Code := match Tryz.f207.body with | some c => c | none => .skip
theorem rs207 : Tryz.f207.results.toList = [.tmp 2] := rfl
theorem W207_of {args : List D} (ha : args.all (D.noRef 0 0) = true) (hl : args.length ≤ 6) {H : Hp} {o : Out × Hp}
    (h : alone H (fnOut Tryz.prog [.tmp 2] 0 0 (E false ⟨0, 0⟩ 207 code207 (mkF 0 args) H00)) = some o) : W 207 args H = some o :=
  W_of Tryz.func207 rfl (by kernel_rfl) rfl rfl rfl rfl rfl ha (by rw [Tryz.ntmps207]; exact hl) h
/-! ### f219: slices.IndexFunc[[]sward/api.Kind,sward/api.Kind] -/
@[simp] theorem k219_0 : ch.keep 219 0 = [0, 1] := by kernel_rfl
@[simp] theorem k219_1 : ch.keep 219 1 = [0, 1, 7, 8] := by kernel_rfl
@[simp] theorem k219_2 : ch.keep 219 2 = [0, 1, 7, 8, 9] := by kernel_rfl
@[simp] theorem k219_3 : ch.keep 219 3 = [0, 1, 5, 7, 8] := by kernel_rfl
@[simp] theorem k219_4 : ch.keep 219 4 = [0, 1, 5, 7, 8, 16] := by kernel_rfl
@[simp] theorem k219_5 : ch.keep 219 5 = [4] := by kernel_rfl
@[simp] theorem k219_6 : ch.keep 219 6 = [0, 1, 7, 8] := by kernel_rfl
@[simp] theorem k219_7 : ch.keep 219 7 = [4] := by kernel_rfl
noncomputable def code219 : Code := match Tryz.f219.body with | some c => c | none => .skip
noncomputable def lp219_0 : Code := match code219 with | .seq _ (.seq (.seq _ (.block _ (.loop c))) _) => c | c => c
theorem hd219_0 : ch.head 219 (firstR lp219_0) = [0, 1, 7, 8] := by kernel_rfl
theorem rs219 : Tryz.f219.results.toList = [.tmp 4] := rfl
theorem W219_of {args : List D} (ha : args.all (D.noRef 0 0) = true) (hl : args.length ≤ 19) {H : Hp} {o : Out × Hp}
    (h : alone H (fnOut Tryz.prog [.tmp 4] 0 0 (E false ⟨0, 0⟩ 219 code219 (mkF 0 args) H00)) = some o) : W 219 args H = some o :=
  W_of Tryz.func219 rfl (by kernel_rfl) rfl rfl rfl rfl rfl ha (by rw [Tryz.ntmps219]; exact hl) h

end Go.Vi
end
