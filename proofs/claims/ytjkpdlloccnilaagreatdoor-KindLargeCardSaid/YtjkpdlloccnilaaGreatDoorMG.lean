/- It is proved here what the heads and facts of the program's functions are to the evaluator; no condition. -/
import Derived.Test.YtjkpdlloccnilaaGreatDoorMF
set_option linter.unusedVariables false
set_option linter.unusedSimpArgs false

section
/- Vi: what the evaluator asks of the program's types; made by a program of ours (wip/tools/mkfacts2.py). No conditions. -/
namespace Go.Vi
open Go Go.Proofs
set_option maxRecDepth 100000
@[simp] theorem sz0 : szOf Tryz.prog 0 = some 1 := by kernel_rfl
@[simp] theorem ag0 : aggOf Tryz.prog 0 = some false := by kernel_rfl
@[simp] theorem by0 : byOf Tryz.prog 0 = some 0 := by kernel_rfl
@[simp] theorem sz3 : szOf Tryz.prog 3 = some 1 := by kernel_rfl
@[simp] theorem ag3 : aggOf Tryz.prog 3 = some false := by kernel_rfl
@[simp] theorem by3 : byOf Tryz.prog 3 = some 8 := by kernel_rfl
@[simp] theorem sz4 : szOf Tryz.prog 4 = some 1 := by kernel_rfl
@[simp] theorem ag4 : aggOf Tryz.prog 4 = some false := by kernel_rfl
@[simp] theorem by4 : byOf Tryz.prog 4 = some 1 := by kernel_rfl
@[simp] theorem sz5 : szOf Tryz.prog 5 = some 1 := by kernel_rfl
@[simp] theorem ag5 : aggOf Tryz.prog 5 = some false := by kernel_rfl
@[simp] theorem by5 : byOf Tryz.prog 5 = some 1 := by kernel_rfl
@[simp] theorem sz9 : szOf Tryz.prog 9 = some 1 := by kernel_rfl
@[simp] theorem ag9 : aggOf Tryz.prog 9 = some false := by kernel_rfl
@[simp] theorem by9 : byOf Tryz.prog 9 = some 16 := by kernel_rfl
@[simp] theorem sz21 : szOf Tryz.prog 21 = some 1 := by kernel_rfl
@[simp] theorem ag21 : aggOf Tryz.prog 21 = some false := by kernel_rfl
@[simp] theorem by21 : byOf Tryz.prog 21 = some 4 := by kernel_rfl
@[simp] theorem sz22 : szOf Tryz.prog 22 = some 1 := by kernel_rfl
@[simp] theorem ag22 : aggOf Tryz.prog 22 = some false := by kernel_rfl
@[simp] theorem by22 : byOf Tryz.prog 22 = some 8 := by kernel_rfl
@[simp] theorem sz23 : szOf Tryz.prog 23 = some 1 := by kernel_rfl
@[simp] theorem ag23 : aggOf Tryz.prog 23 = some false := by kernel_rfl
@[simp] theorem by23 : byOf Tryz.prog 23 = some 24 := by kernel_rfl
@[simp] theorem el23 : elemOf Tryz.prog 23 = some 25 := by kernel_rfl
@[simp] theorem un23 : Tryz.prog.underlying 23 = some (.slice 25) := by kernel_rfl
@[simp] theorem sz25 : szOf Tryz.prog 25 = some 5 := by kernel_rfl
@[simp] theorem ag25 : aggOf Tryz.prog 25 = some true := by kernel_rfl
@[simp] theorem by25 : byOf Tryz.prog 25 = some 56 := by kernel_rfl
@[simp] theorem fo25_0 : fieldOf Tryz.prog 25 0 = some (0, 1, false) := by kernel_rfl
@[simp] theorem fo25_1 : fieldOf Tryz.prog 25 1 = some (1, 1, false) := by kernel_rfl
@[simp] theorem fo25_2 : fieldOf Tryz.prog 25 2 = some (2, 1, false) := by kernel_rfl
@[simp] theorem fo25_3 : fieldOf Tryz.prog 25 3 = some (3, 1, false) := by kernel_rfl
@[simp] theorem fo25_4 : fieldOf Tryz.prog 25 4 = some (4, 1, false) := by kernel_rfl
@[simp] theorem sz26 : szOf Tryz.prog 26 = some 1 := by kernel_rfl
@[simp] theorem ag26 : aggOf Tryz.prog 26 = some false := by kernel_rfl
@[simp] theorem by26 : byOf Tryz.prog 26 = some 8 := by kernel_rfl
@[simp] theorem sz27 : szOf Tryz.prog 27 = some 1 := by kernel_rfl
@[simp] theorem ag27 : aggOf Tryz.prog 27 = some false := by kernel_rfl
@[simp] theorem by27 : byOf Tryz.prog 27 = some 24 := by kernel_rfl
@[simp] theorem el27 : elemOf Tryz.prog 27 = some 29 := by kernel_rfl
@[simp] theorem un27 : Tryz.prog.underlying 27 = some (.slice 29) := by kernel_rfl
@[simp] theorem sz29 : szOf Tryz.prog 29 = some 4 := by kernel_rfl
@[simp] theorem ag29 : aggOf Tryz.prog 29 = some true := by kernel_rfl
@[simp] theorem by29 : byOf Tryz.prog 29 = some 56 := by kernel_rfl
@[simp] theorem fo29_0 : fieldOf Tryz.prog 29 0 = some (0, 1, false) := by kernel_rfl
@[simp] theorem fo29_1 : fieldOf Tryz.prog 29 1 = some (1, 1, false) := by kernel_rfl
@[simp] theorem fo29_2 : fieldOf Tryz.prog 29 2 = some (2, 1, false) := by kernel_rfl
@[simp] theorem fo29_3 : fieldOf Tryz.prog 29 3 = some (3, 1, false) := by kernel_rfl
@[simp] theorem sz30 : szOf Tryz.prog 30 = some 1 := by kernel_rfl
@[simp] theorem ag30 : aggOf Tryz.prog 30 = some false := by kernel_rfl
@[simp] theorem by30 : byOf Tryz.prog 30 = some 8 := by kernel_rfl
@[simp] theorem sz31 : szOf Tryz.prog 31 = some 1 := by kernel_rfl
@[simp] theorem ag31 : aggOf Tryz.prog 31 = some false := by kernel_rfl
@[simp] theorem by31 : byOf Tryz.prog 31 = some 8 := by kernel_rfl
@[simp] theorem sz33 : szOf Tryz.prog 33 = some 1 := by kernel_rfl
@[simp] theorem ag33 : aggOf Tryz.prog 33 = some false := by kernel_rfl
@[simp] theorem by33 : byOf Tryz.prog 33 = some 8 := by kernel_rfl
@[simp] theorem sz34 : szOf Tryz.prog 34 = some 1 := by kernel_rfl
@[simp] theorem ag34 : aggOf Tryz.prog 34 = some false := by kernel_rfl
@[simp] theorem by34 : byOf Tryz.prog 34 = some 0 := by kernel_rfl
@[simp] theorem sz36 : szOf Tryz.prog 36 = some 1 := by kernel_rfl
@[simp] theorem ag36 : aggOf Tryz.prog 36 = some false := by kernel_rfl
@[simp] theorem by36 : byOf Tryz.prog 36 = some 0 := by kernel_rfl
@[simp] theorem sz38 : szOf Tryz.prog 38 = some 1 := by kernel_rfl
@[simp] theorem ag38 : aggOf Tryz.prog 38 = some false := by kernel_rfl
@[simp] theorem by38 : byOf Tryz.prog 38 = some 0 := by kernel_rfl
@[simp] theorem sz45 : szOf Tryz.prog 45 = some 1 := by kernel_rfl
@[simp] theorem ag45 : aggOf Tryz.prog 45 = some false := by kernel_rfl
@[simp] theorem by45 : byOf Tryz.prog 45 = some 0 := by kernel_rfl
@[simp] theorem sz48 : szOf Tryz.prog 48 = some 1 := by kernel_rfl
@[simp] theorem ag48 : aggOf Tryz.prog 48 = some false := by kernel_rfl
@[simp] theorem by48 : byOf Tryz.prog 48 = some 0 := by kernel_rfl
@[simp] theorem sz51 : szOf Tryz.prog 51 = some 1 := by kernel_rfl
@[simp] theorem ag51 : aggOf Tryz.prog 51 = some false := by kernel_rfl
@[simp] theorem by51 : byOf Tryz.prog 51 = some 0 := by kernel_rfl
@[simp] theorem sz71 : szOf Tryz.prog 71 = some 1 := by kernel_rfl
@[simp] theorem ag71 : aggOf Tryz.prog 71 = some false := by kernel_rfl
@[simp] theorem by71 : byOf Tryz.prog 71 = some 0 := by kernel_rfl
@[simp] theorem sz73 : szOf Tryz.prog 73 = some 1 := by kernel_rfl
@[simp] theorem ag73 : aggOf Tryz.prog 73 = some false := by kernel_rfl
@[simp] theorem by73 : byOf Tryz.prog 73 = some 0 := by kernel_rfl
@[simp] theorem sz124 : szOf Tryz.prog 124 = some 1 := by kernel_rfl
@[simp] theorem ag124 : aggOf Tryz.prog 124 = some false := by kernel_rfl
@[simp] theorem by124 : byOf Tryz.prog 124 = some 8 := by kernel_rfl
@[simp] theorem sz125 : szOf Tryz.prog 125 = some 1 := by kernel_rfl
@[simp] theorem ag125 : aggOf Tryz.prog 125 = some false := by kernel_rfl
@[simp] theorem by125 : byOf Tryz.prog 125 = some 24 := by kernel_rfl
@[simp] theorem el125 : elemOf Tryz.prog 125 = some 3 := by kernel_rfl
@[simp] theorem un125 : Tryz.prog.underlying 125 = some (.slice 3) := by kernel_rfl
@[simp] theorem sz193 : szOf Tryz.prog 193 = some 2 := by kernel_rfl
@[simp] theorem ag193 : aggOf Tryz.prog 193 = some true := by kernel_rfl
@[simp] theorem by193 : byOf Tryz.prog 193 = some 16 := by kernel_rfl
@[simp] theorem fo193_0 : fieldOf Tryz.prog 193 0 = some (0, 1, false) := by kernel_rfl
@[simp] theorem fo193_1 : fieldOf Tryz.prog 193 1 = some (1, 1, false) := by kernel_rfl
@[simp] theorem sz196 : szOf Tryz.prog 196 = some 1 := by kernel_rfl
@[simp] theorem ag196 : aggOf Tryz.prog 196 = some false := by kernel_rfl
@[simp] theorem by196 : byOf Tryz.prog 196 = some 16 := by kernel_rfl
@[simp] theorem sz200 : szOf Tryz.prog 200 = some 1 := by kernel_rfl
@[simp] theorem ag200 : aggOf Tryz.prog 200 = some true := by kernel_rfl
@[simp] theorem by200 : byOf Tryz.prog 200 = some 8 := by kernel_rfl
@[simp] theorem fo200_0 : fieldOf Tryz.prog 200 0 = some (0, 1, false) := by kernel_rfl
@[simp] theorem sz201 : szOf Tryz.prog 201 = some 1 := by kernel_rfl
@[simp] theorem ag201 : aggOf Tryz.prog 201 = some true := by kernel_rfl
@[simp] theorem by201 : byOf Tryz.prog 201 = some 8 := by kernel_rfl
@[simp] theorem fo201_0 : fieldOf Tryz.prog 201 0 = some (0, 1, false) := by kernel_rfl
@[simp] theorem sz203 : szOf Tryz.prog 203 = some 1 := by kernel_rfl
@[simp] theorem ag203 : aggOf Tryz.prog 203 = some true := by kernel_rfl
@[simp] theorem by203 : byOf Tryz.prog 203 = some 16 := by kernel_rfl
@[simp] theorem fo203_0 : fieldOf Tryz.prog 203 0 = some (0, 1, false) := by kernel_rfl
@[simp] theorem sz205 : szOf Tryz.prog 205 = some 1 := by kernel_rfl
@[simp] theorem ag205 : aggOf Tryz.prog 205 = some true := by kernel_rfl
@[simp] theorem by205 : byOf Tryz.prog 205 = some 24 := by kernel_rfl
@[simp] theorem fo205_0 : fieldOf Tryz.prog 205 0 = some (0, 1, false) := by kernel_rfl
@[simp] theorem sz206 : szOf Tryz.prog 206 = some 1 := by kernel_rfl
@[simp] theorem ag206 : aggOf Tryz.prog 206 = some true := by kernel_rfl
@[simp] theorem by206 : byOf Tryz.prog 206 = some 24 := by kernel_rfl
@[simp] theorem fo206_0 : fieldOf Tryz.prog 206 0 = some (0, 1, false) := by kernel_rfl
@[simp] theorem sz233 : szOf Tryz.prog 233 = some 0 := by kernel_rfl
@[simp] theorem ag233 : aggOf Tryz.prog 233 = some true := by kernel_rfl
@[simp] theorem by233 : byOf Tryz.prog 233 = some 0 := by kernel_rfl
@[simp] theorem sz235 : szOf Tryz.prog 235 = some 1 := by kernel_rfl
@[simp] theorem ag235 : aggOf Tryz.prog 235 = some false := by kernel_rfl
@[simp] theorem by235 : byOf Tryz.prog 235 = some 8 := by kernel_rfl
@[simp] theorem sz238 : szOf Tryz.prog 238 = some 8 := by kernel_rfl
@[simp] theorem ag238 : aggOf Tryz.prog 238 = some true := by kernel_rfl
@[simp] theorem by238 : byOf Tryz.prog 238 = some 112 := by kernel_rfl
@[simp] theorem fo238_0 : fieldOf Tryz.prog 238 0 = some (0, 4, true) := by kernel_rfl
@[simp] theorem fo238_1 : fieldOf Tryz.prog 238 1 = some (4, 4, true) := by kernel_rfl
@[simp] theorem sz239 : szOf Tryz.prog 239 = some 6 := by kernel_rfl
@[simp] theorem ag239 : aggOf Tryz.prog 239 = some true := by kernel_rfl
@[simp] theorem by239 : byOf Tryz.prog 239 = some 48 := by kernel_rfl
@[simp] theorem zz3 : zeroOf Tryz.prog 3 = some (.int .i64 0) := by kernel_rfl
@[simp] theorem zk3 : zOK Tryz.prog 3 1 = true := by kernel_rfl
@[simp] theorem zz4 : zeroOf Tryz.prog 4 = some (.bool false) := by kernel_rfl
@[simp] theorem zk4 : zOK Tryz.prog 4 1 = true := by kernel_rfl
@[simp] theorem zz5 : zeroOf Tryz.prog 5 = some (.int .u8 0) := by kernel_rfl
@[simp] theorem zk5 : zOK Tryz.prog 5 1 = true := by kernel_rfl
@[simp] theorem zz9 : zeroOf Tryz.prog 9 = some (.string ByteArray.empty) := by kernel_rfl
@[simp] theorem zk9 : zOK Tryz.prog 9 1 = true := by kernel_rfl
@[simp] theorem zz21 : zeroOf Tryz.prog 21 = some (.int .i32 0) := by kernel_rfl
@[simp] theorem zk21 : zOK Tryz.prog 21 1 = true := by kernel_rfl
@[simp] theorem zz22 : zeroOf Tryz.prog 22 = some (.int .i64 0) := by kernel_rfl
@[simp] theorem zk22 : zOK Tryz.prog 22 1 = true := by kernel_rfl
@[simp] theorem zz23 : zeroOf Tryz.prog 23 = some (.slice none 0 0) := by kernel_rfl
@[simp] theorem zk23 : zOK Tryz.prog 23 1 = true := by kernel_rfl
@[simp] theorem zz25 : zeroOf Tryz.prog 25 = some (.agg #[.int .i64 0, .int .i64 0, .int .i64 0, .int .i64 0, .slice none 0 0]) := by kernel_rfl
@[simp] theorem zz26 : zeroOf Tryz.prog 26 = some (.int .i64 0) := by kernel_rfl
@[simp] theorem zk26 : zOK Tryz.prog 26 1 = true := by kernel_rfl
@[simp] theorem zz27 : zeroOf Tryz.prog 27 = some (.slice none 0 0) := by kernel_rfl
@[simp] theorem zk27 : zOK Tryz.prog 27 1 = true := by kernel_rfl
@[simp] theorem zz29 : zeroOf Tryz.prog 29 = some (.agg #[.int .i64 0, .int .i64 0, .string ByteArray.empty, .slice none 0 0]) := by kernel_rfl
@[simp] theorem zz33 : zeroOf Tryz.prog 33 = some (.int .i64 0) := by kernel_rfl
@[simp] theorem zk33 : zOK Tryz.prog 33 1 = true := by kernel_rfl
@[simp] theorem zz125 : zeroOf Tryz.prog 125 = some (.slice none 0 0) := by kernel_rfl
@[simp] theorem zk125 : zOK Tryz.prog 125 1 = true := by kernel_rfl
@[simp] theorem zz193 : zeroOf Tryz.prog 193 = some (.agg #[.int .i64 0, .int .i64 0]) := by kernel_rfl
@[simp] theorem zz200 : zeroOf Tryz.prog 200 = some (.agg #[.int .i64 0]) := by kernel_rfl
@[simp] theorem zz201 : zeroOf Tryz.prog 201 = some (.agg #[.int .i64 0]) := by kernel_rfl
@[simp] theorem zz203 : zeroOf Tryz.prog 203 = some (.agg #[.string ByteArray.empty]) := by kernel_rfl
@[simp] theorem zz205 : zeroOf Tryz.prog 205 = some (.agg #[.slice none 0 0]) := by kernel_rfl
@[simp] theorem zz206 : zeroOf Tryz.prog 206 = some (.agg #[.slice none 0 0]) := by kernel_rfl
@[simp] theorem zz238 : zeroOf Tryz.prog 238 = some (.agg #[.int .i64 0, .int .i64 0, .string ByteArray.empty, .slice none 0 0, .int .i64 0, .int .i64 0, .string ByteArray.empty, .slice none 0 0]) := by kernel_rfl
@[simp] theorem un9 : Tryz.prog.underlying 9 = some .string := by kernel_rfl
end Go.Vi
end

section
/- Vi: layer 5: heads of functions, made by a program of ours (wip/tools/spec2.py). No conditions. -/
namespace Go.Vi
open Go Go.Proofs
set_option maxRecDepth 100000
/-! ### f5: sward/swardlaw05.KindLattice -/
@[simp] theorem k5_0 : ch.keep 5 0 = [4, 5, 6, 7] := by kernel_rfl
@[simp] theorem k5_1 : ch.keep 5 1 = [4, 5, 6, 7, 68] := by kernel_rfl
@[simp] theorem k5_2 : ch.keep 5 2 = [8] := by kernel_rfl
@[simp] theorem k5_3 : ch.keep 5 3 = [4, 5, 6, 7, 9, 10] := by kernel_rfl
@[simp] theorem k5_4 : ch.keep 5 4 = [4, 5, 6, 7, 9, 10, 11, 12] := by kernel_rfl
@[simp] theorem k5_5 : ch.keep 5 5 = [4, 5, 6, 7, 9, 10, 11, 12, 13, 14] := by kernel_rfl
@[simp] theorem k5_6 : ch.keep 5 6 = [4, 5, 6, 7, 9, 10, 11, 12, 13, 14, 15, 16] := by kernel_rfl
@[simp] theorem k5_7 : ch.keep 5 7 = [4, 5, 6, 7, 9, 10, 11, 12, 13, 14, 15, 16, 17, 18] := by kernel_rfl
@[simp] theorem k5_8 : ch.keep 5 8 = [4, 5, 6, 7, 9, 10, 11, 12, 13, 14, 15, 16, 17, 18, 19, 20] := by kernel_rfl
@[simp] theorem k5_9 : ch.keep 5 9 = [4, 5, 6, 7, 9, 11, 15, 17, 157] := by kernel_rfl
@[simp] theorem k5_10 : ch.keep 5 10 = [8] := by kernel_rfl
@[simp] theorem k5_11 : ch.keep 5 11 = [4, 5, 6, 7, 9, 11, 15, 17, 21, 22] := by kernel_rfl
@[simp] theorem k5_12 : ch.keep 5 12 = [4, 5, 6, 7, 9, 11, 15, 17, 21, 22, 165] := by kernel_rfl
@[simp] theorem k5_13 : ch.keep 5 13 = [8] := by kernel_rfl
@[simp] theorem k5_14 : ch.keep 5 14 = [4, 5, 6, 7, 9, 11, 15, 17, 21, 195] := by kernel_rfl
@[simp] theorem k5_15 : ch.keep 5 15 = [8] := by kernel_rfl
@[simp] theorem k5_16 : ch.keep 5 16 = [4, 5, 6, 7, 9, 11, 15, 17, 21, 23, 24] := by kernel_rfl
@[simp] theorem k5_17 : ch.keep 5 17 = [4, 5, 6, 7, 9, 11, 15, 17, 21, 23, 24, 25, 26] := by kernel_rfl
@[simp] theorem k5_18 : ch.keep 5 18 = [4, 5, 7, 9, 11, 15, 17, 21, 23, 24, 25, 26, 27, 28] := by kernel_rfl
@[simp] theorem k5_19 : ch.keep 5 19 = [4, 5, 9, 11, 15, 17, 23, 24, 25, 26, 27, 28, 29, 30] := by kernel_rfl
@[simp] theorem k5_20 : ch.keep 5 20 = [4, 5, 9, 11, 27, 251] := by kernel_rfl
@[simp] theorem k5_21 : ch.keep 5 21 = [8] := by kernel_rfl
@[simp] theorem k5_22 : ch.keep 5 22 = [8] := by kernel_rfl
noncomputable def code5 : Code := match Tryz.f5.body with | some c => c | none => .skip
theorem rs5 : Tryz.f5.results.toList = [.tmp 8] := rfl
theorem W5_of {args : List D} (ha : args.all (D.noRef 0 0) = true) (hl : args.length ≤ 274) {H : Hp} {o : Out × Hp}
    (h : alone H (fnOut Tryz.prog [.tmp 8] 0 0 (E false ⟨0, 0⟩ 5 code5 (mkF 0 args) H00)) = some o) : W 5 args H = some o :=
  W_of Tryz.func5 rfl (by kernel_rfl) rfl rfl rfl rfl rfl ha (by rw [Tryz.ntmps5]; exact hl) h
/-! ### f6: sward/swardlaw05.KindLarge -/
@[simp] theorem k6_0 : ch.keep 6 0 = [2, 3] := by kernel_rfl
@[simp] theorem k6_1 : ch.keep 6 1 = [2, 3, 35] := by kernel_rfl
@[simp] theorem k6_2 : ch.keep 6 2 = [4] := by kernel_rfl
@[simp] theorem k6_3 : ch.keep 6 3 = [2, 3, 5, 6, 7] := by kernel_rfl
@[simp] theorem k6_4 : ch.keep 6 4 = [2, 3, 5, 6, 7, 8, 9] := by kernel_rfl
@[simp] theorem k6_5 : ch.keep 6 5 = [2, 3, 5, 6, 7, 8, 9, 10, 11] := by kernel_rfl
@[simp] theorem k6_6 : ch.keep 6 6 = [2, 3, 8, 10, 11, 82] := by kernel_rfl
@[simp] theorem k6_7 : ch.keep 6 7 = [4] := by kernel_rfl
@[simp] theorem k6_8 : ch.keep 6 8 = [2, 3, 8, 10, 84] := by kernel_rfl
@[simp] theorem k6_9 : ch.keep 6 9 = [4] := by kernel_rfl
@[simp] theorem k6_10 : ch.keep 6 10 = [2, 8, 10, 12, 13] := by kernel_rfl
@[simp] theorem k6_11 : ch.keep 6 11 = [8, 10, 12, 13, 14, 15] := by kernel_rfl
@[simp] theorem k6_12 : ch.keep 6 12 = [8, 12, 13, 14, 15, 16, 17] := by kernel_rfl
@[simp] theorem k6_13 : ch.keep 6 13 = [4] := by kernel_rfl
noncomputable def code6 : Code := match Tryz.f6.body with | some c => c | none => .skip
theorem rs6 : Tryz.f6.results.toList = [.tmp 4] := rfl
theorem W6_of {args : List D} (ha : args.all (D.noRef 0 0) = true) (hl : args.length ≤ 131) {H : Hp} {o : Out × Hp}
    (h : alone H (fnOut Tryz.prog [.tmp 4] 0 0 (E false ⟨0, 0⟩ 6 code6 (mkF 0 args) H00)) = some o) : W 6 args H = some o :=
  W_of Tryz.func6 rfl (by kernel_rfl) rfl rfl rfl rfl rfl ha (by rw [Tryz.ntmps6]; exact hl) h
/-! ### f12: sward/swardref05.Small -/
@[simp] theorem k12_0 : ch.keep 12 0 = [1] := by kernel_rfl
@[simp] theorem k12_1 : ch.keep 12 1 = [2] := by kernel_rfl
noncomputable def code12 : Code := match Tryz.f12.body with | some c => c | none => .skip
theorem rs12 : Tryz.f12.results.toList = [.tmp 2] := rfl
theorem W12_of {args : List D} (ha : args.all (D.noRef 0 0) = true) (hl : args.length ≤ 6) {H : Hp} {o : Out × Hp}
    (h : alone H (fnOut Tryz.prog [.tmp 2] 0 0 (E false ⟨0, 0⟩ 12 code12 (mkF 0 args) H00)) = some o) : W 12 args H = some o :=
  W_of Tryz.func12 rfl (by kernel_rfl) rfl rfl rfl rfl rfl ha (by rw [Tryz.ntmps12]; exact hl) h
/-! ### f13: sward/swardref01.Small -/
@[simp] theorem k13_0 : ch.keep 13 0 = [1] := by kernel_rfl
@[simp] theorem k13_1 : ch.keep 13 1 = [2] := by kernel_rfl
noncomputable def code13 : Code := match Tryz.f13.body with | some c => c | none => .skip
theorem rs13 : Tryz.f13.results.toList = [.tmp 2] := rfl
theorem W13_of {args : List D} (ha : args.all (D.noRef 0 0) = true) (hl : args.length ≤ 10) {H : Hp} {o : Out × Hp}
    (h : alone H (fnOut Tryz.prog [.tmp 2] 0 0 (E false ⟨0, 0⟩ 13 code13 (mkF 0 args) H00)) = some o) : W 13 args H = some o :=
  W_of Tryz.func13 rfl (by kernel_rfl) rfl rfl rfl rfl rfl ha (by rw [Tryz.ntmps13]; exact hl) h
/-! ### f15: sward/kind.Is -/
@[simp] theorem k15_0 : ch.keep 15 0 = [2, 3] := by kernel_rfl
@[simp] theorem k15_1 : ch.keep 15 1 = [2, 3, 13] := by kernel_rfl
@[simp] theorem k15_2 : ch.keep 15 2 = [4, 5] := by kernel_rfl
@[simp] theorem k15_3 : ch.keep 15 3 = [4, 5] := by kernel_rfl
noncomputable def code15 : Code := match Tryz.f15.body with | some c => c | none => .skip
theorem rs15 : Tryz.f15.results.toList = [.tmp 4, .tmp 5] := rfl
theorem W15_of {args : List D} (ha : args.all (D.noRef 0 0) = true) (hl : args.length ≤ 17) {H : Hp} {o : Out × Hp}
    (h : alone H (fnOut Tryz.prog [.tmp 4, .tmp 5] 0 0 (E false ⟨0, 0⟩ 15 code15 (mkF 0 args) H00)) = some o) : W 15 args H = some o :=
  W_of Tryz.func15 rfl (by kernel_rfl) rfl rfl rfl rfl rfl ha (by rw [Tryz.ntmps15]; exact hl) h
/-! ### f16: sward/kind.Least -/
@[simp] theorem k16_0 : ch.keep 16 0 = [1, 2] := by kernel_rfl
@[simp] theorem k16_1 : ch.keep 16 1 = [1, 2, 8] := by kernel_rfl
@[simp] theorem k16_2 : ch.keep 16 2 = [2, 3] := by kernel_rfl
@[simp] theorem k16_3 : ch.keep 16 3 = [2, 4, 5] := by kernel_rfl
@[simp] theorem k16_4 : ch.keep 16 4 = [2, 4, 21] := by kernel_rfl
@[simp] theorem k16_5 : ch.keep 16 5 = [2, 3] := by kernel_rfl
@[simp] theorem k16_6 : ch.keep 16 6 = [2, 3] := by kernel_rfl
noncomputable def code16 : Code := match Tryz.f16.body with | some c => c | none => .skip
theorem rs16 : Tryz.f16.results.toList = [.cell 2 25, .tmp 3] := rfl
theorem W16_of {args : List D} (ha : args.all (D.noRef 0 0) = true) (hl : args.length ≤ 25) {H : Hp} {o : Out × Hp}
    (h : alone H (fnOut Tryz.prog [.cell 2 25, .tmp 3] 0 0 (E false ⟨0, 0⟩ 16 code16 (mkF 0 args) H00)) = some o) : W 16 args H = some o :=
  W_of Tryz.func16 rfl (by kernel_rfl) rfl rfl rfl rfl rfl ha (by rw [Tryz.ntmps16]; exact hl) h
/-! ### f17: sward/swardref01.Valid -/
@[simp] theorem k17_0 : ch.keep 17 0 = [1] := by kernel_rfl
@[simp] theorem k17_1 : ch.keep 17 1 = [2] := by kernel_rfl
noncomputable def code17 : Code := match Tryz.f17.body with | some c => c | none => .skip
theorem rs17 : Tryz.f17.results.toList = [.tmp 2] := rfl
theorem W17_of {args : List D} (ha : args.all (D.noRef 0 0) = true) (hl : args.length ≤ 10) {H : Hp} {o : Out × Hp}
    (h : alone H (fnOut Tryz.prog [.tmp 2] 0 0 (E false ⟨0, 0⟩ 17 code17 (mkF 0 args) H00)) = some o) : W 17 args H = some o :=
  W_of Tryz.func17 rfl (by kernel_rfl) rfl rfl rfl rfl rfl ha (by rw [Tryz.ntmps17]; exact hl) h
/-! ### f18: sward/swardlaw05.none -/
@[simp] theorem k18_0 : ch.keep 18 0 = [1] := by kernel_rfl
@[simp] theorem k18_1 : ch.keep 18 1 = [2] := by kernel_rfl
noncomputable def code18 : Code := match Tryz.f18.body with | some c => c | none => .skip
theorem rs18 : Tryz.f18.results.toList = [.tmp 2] := rfl
theorem W18_of {args : List D} (ha : args.all (D.noRef 0 0) = true) (hl : args.length ≤ 6) {H : Hp} {o : Out × Hp}
    (h : alone H (fnOut Tryz.prog [.tmp 2] 0 0 (E false ⟨0, 0⟩ 18 code18 (mkF 0 args) H00)) = some o) : W 18 args H = some o :=
  W_of Tryz.func18 rfl (by kernel_rfl) rfl rfl rfl rfl rfl ha (by rw [Tryz.ntmps18]; exact hl) h
/-! ### f19: sward/swardref05.Least -/
@[simp] theorem k19_0 : ch.keep 19 0 = [1, 2] := by kernel_rfl
@[simp] theorem k19_1 : ch.keep 19 1 = [2, 4, 5] := by kernel_rfl
@[simp] theorem k19_2 : ch.keep 19 2 = [2, 4, 17] := by kernel_rfl
@[simp] theorem k19_3 : ch.keep 19 3 = [2, 3] := by kernel_rfl
@[simp] theorem k19_4 : ch.keep 19 4 = [2, 3] := by kernel_rfl
noncomputable def code19 : Code := match Tryz.f19.body with | some c => c | none => .skip
theorem rs19 : Tryz.f19.results.toList = [.cell 2 25, .tmp 3] := rfl
theorem W19_of {args : List D} (ha : args.all (D.noRef 0 0) = true) (hl : args.length ≤ 20) {H : Hp} {o : Out × Hp}
    (h : alone H (fnOut Tryz.prog [.cell 2 25, .tmp 3] 0 0 (E false ⟨0, 0⟩ 19 code19 (mkF 0 args) H00)) = some o) : W 19 args H = some o :=
  W_of Tryz.func19 rfl (by kernel_rfl) rfl rfl rfl rfl rfl ha (by rw [Tryz.ntmps19]; exact hl) h
/-! ### f20: sward/swardref05.Equal -/
@[simp] theorem k20_0 : ch.keep 20 0 = [2, 3] := by kernel_rfl
@[simp] theorem k20_1 : ch.keep 20 1 = [2, 3, 40] := by kernel_rfl
@[simp] theorem k20_2 : ch.keep 20 2 = [4] := by kernel_rfl
@[simp] theorem k20_3 : ch.keep 20 3 = [2, 3, 5] := by kernel_rfl
@[simp] theorem k20_4 : ch.keep 20 4 = [2, 3, 5, 45] := by kernel_rfl
@[simp] theorem k20_5 : ch.keep 20 5 = [2, 3, 5] := by kernel_rfl
@[simp] theorem k20_6 : ch.keep 20 6 = [2, 3, 5, 59] := by kernel_rfl
@[simp] theorem k20_7 : ch.keep 20 7 = [4] := by kernel_rfl
@[simp] theorem k20_8 : ch.keep 20 8 = [4] := by kernel_rfl
@[simp] theorem fl20_6 : ch.fl 20 6 = [1, 1, 1, 1, 1, 1, 1, 1, 1, 1, 0, 0] := by kernel_rfl
noncomputable def code20 : Code := match Tryz.f20.body with | some c => c | none => .skip
noncomputable def lp20_0 : Code := match code20 with | .seq _ (.seq _ (.seq (.seq _ (.block _ (.loop c))) _)) => c | c => c
theorem hd20_0 : ch.head 20 (firstR lp20_0) = [2, 3, 5] := by kernel_rfl
theorem rs20 : Tryz.f20.results.toList = [.tmp 4] := rfl
theorem W20_of {args : List D} (ha : args.all (D.noRef 0 0) = true) (hl : args.length ≤ 60) {H : Hp} {o : Out × Hp}
    (h : alone H (fnOut Tryz.prog [.tmp 4] 0 0 (E false ⟨0, 0⟩ 20 code20 (mkF 0 args) H00)) = some o) : W 20 args H = some o :=
  W_of Tryz.func20 rfl (by kernel_rfl) rfl rfl rfl rfl rfl ha (by rw [Tryz.ntmps20]; exact hl) h
/-! ### f21: sward/swardref05.Valid -/
@[simp] theorem k21_0 : ch.keep 21 0 = [1] := by kernel_rfl
@[simp] theorem k21_1 : ch.keep 21 1 = [2] := by kernel_rfl
noncomputable def code21 : Code := match Tryz.f21.body with | some c => c | none => .skip
theorem rs21 : Tryz.f21.results.toList = [.tmp 2] := rfl
theorem W21_of {args : List D} (ha : args.all (D.noRef 0 0) = true) (hl : args.length ≤ 10) {H : Hp} {o : Out × Hp}
    (h : alone H (fnOut Tryz.prog [.tmp 2] 0 0 (E false ⟨0, 0⟩ 21 code21 (mkF 0 args) H00)) = some o) : W 21 args H = some o :=
  W_of Tryz.func21 rfl (by kernel_rfl) rfl rfl rfl rfl rfl ha (by rw [Tryz.ntmps21]; exact hl) h
/-! ### f22: sward/swardref05.Is -/
@[simp] theorem k22_0 : ch.keep 22 0 = [2, 3] := by kernel_rfl
@[simp] theorem k22_1 : ch.keep 22 1 = [2, 3, 8] := by kernel_rfl
@[simp] theorem k22_2 : ch.keep 22 2 = [2, 3, 8, 9] := by kernel_rfl
@[simp] theorem k22_3 : ch.keep 22 3 = [4] := by kernel_rfl
@[simp] theorem k22_4 : ch.keep 22 4 = [2, 3, 8, 23] := by kernel_rfl
@[simp] theorem k22_5 : ch.keep 22 5 = [4] := by kernel_rfl
@[simp] theorem k22_6 : ch.keep 22 6 = [2, 3, 8, 28] := by kernel_rfl
@[simp] theorem k22_7 : ch.keep 22 7 = [4] := by kernel_rfl
@[simp] theorem k22_8 : ch.keep 22 8 = [2, 3, 8, 33] := by kernel_rfl
@[simp] theorem k22_9 : ch.keep 22 9 = [2, 3, 46] := by kernel_rfl
@[simp] theorem k22_10 : ch.keep 22 10 = [4] := by kernel_rfl
@[simp] theorem k22_11 : ch.keep 22 11 = [2, 3, 5] := by kernel_rfl
@[simp] theorem k22_12 : ch.keep 22 12 = [2, 3, 5, 51] := by kernel_rfl
@[simp] theorem k22_13 : ch.keep 22 13 = [2, 3, 5] := by kernel_rfl
@[simp] theorem k22_14 : ch.keep 22 14 = [2, 3, 5, 65] := by kernel_rfl
@[simp] theorem k22_15 : ch.keep 22 15 = [4] := by kernel_rfl
@[simp] theorem k22_16 : ch.keep 22 16 = [4] := by kernel_rfl
@[simp] theorem k22_17 : ch.keep 22 17 = [2, 3, 66] := by kernel_rfl
@[simp] theorem k22_18 : ch.keep 22 18 = [2, 3, 78] := by kernel_rfl
@[simp] theorem k22_19 : ch.keep 22 19 = [4] := by kernel_rfl
@[simp] theorem k22_20 : ch.keep 22 20 = [2, 3, 6] := by kernel_rfl
@[simp] theorem k22_21 : ch.keep 22 21 = [2, 3, 6, 83] := by kernel_rfl
@[simp] theorem k22_22 : ch.keep 22 22 = [2, 3, 6] := by kernel_rfl
@[simp] theorem k22_23 : ch.keep 22 23 = [2, 3, 6, 96] := by kernel_rfl
@[simp] theorem k22_24 : ch.keep 22 24 = [4] := by kernel_rfl
@[simp] theorem k22_25 : ch.keep 22 25 = [4] := by kernel_rfl
@[simp] theorem k22_26 : ch.keep 22 26 = [4] := by kernel_rfl
@[simp] theorem fl22_14 : ch.fl 22 14 = [1, 1, 1, 1, 1, 1, 1, 1, 1, 1, 0, 0] := by kernel_rfl
@[simp] theorem fl22_23 : ch.fl 22 23 = [1, 1, 1, 1, 1, 1, 1, 1, 1, 0, 0] := by kernel_rfl
noncomputable def code22 : Code := match Tryz.f22.body with | some c => c | none => .skip
noncomputable def lp22_0 : Code := match code22 with | .seq _ (.seq (.seq _ (.block _ (.seq _ (.cond _ _ (.seq _ (.cond _ _ (.seq _ (.cond _ _ (.seq _ (.cond _ (.seq _ (.seq (.seq _ (.block _ (.loop c))) _)) _)))))))))) _) => c | c => c
theorem hd22_0 : ch.head 22 (firstR lp22_0) = [2, 3, 5] := by kernel_rfl
noncomputable def lp22_1 : Code := match code22 with | .seq _ (.seq (.seq _ (.block _ (.seq _ (.cond _ _ (.seq _ (.cond _ _ (.seq _ (.cond _ _ (.seq _ (.cond _ _ (.seq _ (.cond _ (.seq _ (.seq (.seq _ (.block _ (.loop c))) _)) _)))))))))))) _) => c | c => c
theorem hd22_1 : ch.head 22 (firstR lp22_1) = [2, 3, 6] := by kernel_rfl
theorem rs22 : Tryz.f22.results.toList = [.tmp 4] := rfl
theorem W22_of {args : List D} (ha : args.all (D.noRef 0 0) = true) (hl : args.length ≤ 97) {H : Hp} {o : Out × Hp}
    (h : alone H (fnOut Tryz.prog [.tmp 4] 0 0 (E false ⟨0, 0⟩ 22 code22 (mkF 0 args) H00)) = some o) : W 22 args H = some o :=
  W_of Tryz.func22 rfl (by kernel_rfl) rfl rfl rfl rfl rfl ha (by rw [Tryz.ntmps22]; exact hl) h
/-! ### f23: sward/kind.Within -/
@[simp] theorem k23_0 : ch.keep 23 0 = [2, 3] := by kernel_rfl
@[simp] theorem k23_1 : ch.keep 23 1 = [2, 3, 13] := by kernel_rfl
@[simp] theorem k23_2 : ch.keep 23 2 = [4, 5] := by kernel_rfl
@[simp] theorem k23_3 : ch.keep 23 3 = [4, 5] := by kernel_rfl
noncomputable def code23 : Code := match Tryz.f23.body with | some c => c | none => .skip
theorem rs23 : Tryz.f23.results.toList = [.tmp 4, .tmp 5] := rfl
theorem W23_of {args : List D} (ha : args.all (D.noRef 0 0) = true) (hl : args.length ≤ 17) {H : Hp} {o : Out × Hp}
    (h : alone H (fnOut Tryz.prog [.tmp 4, .tmp 5] 0 0 (E false ⟨0, 0⟩ 23 code23 (mkF 0 args) H00)) = some o) : W 23 args H = some o :=
  W_of Tryz.func23 rfl (by kernel_rfl) rfl rfl rfl rfl rfl ha (by rw [Tryz.ntmps23]; exact hl) h
/-! ### f24: sward/kind.Join -/
@[simp] theorem k24_0 : ch.keep 24 0 = [2, 3, 4] := by kernel_rfl
@[simp] theorem k24_1 : ch.keep 24 1 = [2, 3, 4, 15] := by kernel_rfl
@[simp] theorem k24_2 : ch.keep 24 2 = [4, 5] := by kernel_rfl
@[simp] theorem k24_3 : ch.keep 24 3 = [4, 6, 7] := by kernel_rfl
@[simp] theorem k24_4 : ch.keep 24 4 = [4, 6, 29] := by kernel_rfl
@[simp] theorem k24_5 : ch.keep 24 5 = [4, 5] := by kernel_rfl
@[simp] theorem k24_6 : ch.keep 24 6 = [4, 5] := by kernel_rfl
noncomputable def code24 : Code := match Tryz.f24.body with | some c => c | none => .skip
theorem rs24 : Tryz.f24.results.toList = [.cell 4 25, .tmp 5] := rfl
theorem W24_of {args : List D} (ha : args.all (D.noRef 0 0) = true) (hl : args.length ≤ 33) {H : Hp} {o : Out × Hp}
    (h : alone H (fnOut Tryz.prog [.cell 4 25, .tmp 5] 0 0 (E false ⟨0, 0⟩ 24 code24 (mkF 0 args) H00)) = some o) : W 24 args H = some o :=
  W_of Tryz.func24 rfl (by kernel_rfl) rfl rfl rfl rfl rfl ha (by rw [Tryz.ntmps24]; exact hl) h
/-! ### f25: sward/swardref05.Join -/
@[simp] theorem k25_0 : ch.keep 25 0 = [2, 3, 4] := by kernel_rfl
@[simp] theorem k25_1 : ch.keep 25 1 = [2, 3, 4, 12] := by kernel_rfl
@[simp] theorem k25_2 : ch.keep 25 2 = [4, 5] := by kernel_rfl
@[simp] theorem k25_3 : ch.keep 25 3 = [2, 3, 4, 16] := by kernel_rfl
@[simp] theorem k25_4 : ch.keep 25 4 = [4, 5] := by kernel_rfl
@[simp] theorem k25_5 : ch.keep 25 5 = [2, 3, 4, 31] := by kernel_rfl
@[simp] theorem k25_6 : ch.keep 25 6 = [4, 5] := by kernel_rfl
@[simp] theorem k25_7 : ch.keep 25 7 = [2, 3, 4, 6] := by kernel_rfl
@[simp] theorem k25_8 : ch.keep 25 8 = [2, 3, 4, 6, 7] := by kernel_rfl
@[simp] theorem k25_9 : ch.keep 25 9 = [2, 3, 4, 6, 7, 55] := by kernel_rfl
@[simp] theorem k25_10 : ch.keep 25 10 = [2, 3, 4, 6, 7] := by kernel_rfl
@[simp] theorem k25_11 : ch.keep 25 11 = [2, 3, 4, 6, 7, 8, 9] := by kernel_rfl
@[simp] theorem k25_12 : ch.keep 25 12 = [2, 3, 4, 6, 7, 8, 73] := by kernel_rfl
@[simp] theorem k25_13 : ch.keep 25 13 = [4, 5] := by kernel_rfl
@[simp] theorem k25_14 : ch.keep 25 14 = [2, 3, 4, 6, 7] := by kernel_rfl
@[simp] theorem k25_15 : ch.keep 25 15 = [4, 5] := by kernel_rfl
@[simp] theorem fl25_11 : ch.fl 25 11 = [1001, 1001, 6, 1001, 1001, 1001, 1001, 6, 1001, 1001, 1000, 6, 6, 6, 2000, 2000, 0] := by kernel_rfl
noncomputable def code25 : Code := match Tryz.f25.body with | some c => c | none => .skip
noncomputable def lp25_0 : Code := match code25 with | .seq _ (.seq _ (.seq _ (.seq _ (.seq _ (.seq (.seq _ (.block _ (.loop c))) _))))) => c | c => c
theorem hd25_0 : ch.head 25 (firstR lp25_0) = [2, 3, 4, 6, 7] := by kernel_rfl
theorem rs25 : Tryz.f25.results.toList = [.cell 4 25, .tmp 5] := rfl
theorem W25_of {args : List D} (ha : args.all (D.noRef 0 0) = true) (hl : args.length ≤ 82) {H : Hp} {o : Out × Hp}
    (h : alone H (fnOut Tryz.prog [.cell 4 25, .tmp 5] 0 0 (E false ⟨0, 0⟩ 25 code25 (mkF 0 args) H00)) = some o) : W 25 args H = some o :=
  W_of Tryz.func25 rfl (by kernel_rfl) rfl rfl rfl rfl rfl ha (by rw [Tryz.ntmps25]; exact hl) h
/-! ### f26: sward/swardref05.Within -/
@[simp] theorem k26_0 : ch.keep 26 0 = [2, 3] := by kernel_rfl
@[simp] theorem k26_1 : ch.keep 26 1 = [2, 3, 8] := by kernel_rfl
@[simp] theorem k26_2 : ch.keep 26 2 = [4] := by kernel_rfl
@[simp] theorem k26_3 : ch.keep 26 3 = [2, 3, 22] := by kernel_rfl
@[simp] theorem k26_4 : ch.keep 26 4 = [4] := by kernel_rfl
@[simp] theorem k26_5 : ch.keep 26 5 = [2, 3, 25] := by kernel_rfl
@[simp] theorem k26_6 : ch.keep 26 6 = [4] := by kernel_rfl
@[simp] theorem k26_7 : ch.keep 26 7 = [2, 3, 5] := by kernel_rfl
@[simp] theorem k26_8 : ch.keep 26 8 = [2, 3, 5, 51] := by kernel_rfl
@[simp] theorem k26_9 : ch.keep 26 9 = [2, 3, 5] := by kernel_rfl
@[simp] theorem k26_10 : ch.keep 26 10 = [2, 3, 5, 65] := by kernel_rfl
@[simp] theorem k26_11 : ch.keep 26 11 = [4] := by kernel_rfl
@[simp] theorem k26_12 : ch.keep 26 12 = [4] := by kernel_rfl
@[simp] theorem fl26_6 : ch.fl 26 6 = [1, 1, 1, 1, 0, 0, 0, 0, 0, 0, 1, 1, 1, 1, 1, 1, 1, 1, 0, 0, 0, 0] := by kernel_rfl
@[simp] theorem fl26_10 : ch.fl 26 10 = [1, 1, 1, 1, 1, 1, 1, 1, 1, 1, 0, 0] := by kernel_rfl
noncomputable def code26 : Code := match Tryz.f26.body with | some c => c | none => .skip
noncomputable def lp26_0 : Code := match code26 with | .seq _ (.seq _ (.seq _ (.seq _ (.seq (.seq _ (.block _ (.loop c))) _)))) => c | c => c
theorem hd26_0 : ch.head 26 (firstR lp26_0) = [2, 3, 5] := by kernel_rfl
theorem rs26 : Tryz.f26.results.toList = [.tmp 4] := rfl
theorem W26_of {args : List D} (ha : args.all (D.noRef 0 0) = true) (hl : args.length ≤ 78) {H : Hp} {o : Out × Hp}
    (h : alone H (fnOut Tryz.prog [.tmp 4] 0 0 (E false ⟨0, 0⟩ 26 code26 (mkF 0 args) H00)) = some o) : W 26 args H = some o :=
  W_of Tryz.func26 rfl (by kernel_rfl) rfl rfl rfl rfl rfl ha (by rw [Tryz.ntmps26]; exact hl) h
/-! ### f27: sward/swardlaw05.within -/
@[simp] theorem k27_0 : ch.keep 27 0 = [2, 3] := by kernel_rfl
@[simp] theorem k27_1 : ch.keep 27 1 = [6, 7] := by kernel_rfl
@[simp] theorem k27_2 : ch.keep 27 2 = [4, 5] := by kernel_rfl
noncomputable def code27 : Code := match Tryz.f27.body with | some c => c | none => .skip
theorem rs27 : Tryz.f27.results.toList = [.tmp 4, .tmp 5] := rfl
theorem W27_of {args : List D} (ha : args.all (D.noRef 0 0) = true) (hl : args.length ≤ 17) {H : Hp} {o : Out × Hp}
    (h : alone H (fnOut Tryz.prog [.tmp 4, .tmp 5] 0 0 (E false ⟨0, 0⟩ 27 code27 (mkF 0 args) H00)) = some o) : W 27 args H = some o :=
  W_of Tryz.func27 rfl (by kernel_rfl) rfl rfl rfl rfl rfl ha (by rw [Tryz.ntmps27]; exact hl) h
/-! ### f28: sward/swardlaw05.filled -/
@[simp] theorem k28_0 : ch.keep 28 0 = [1] := by kernel_rfl
@[simp] theorem k28_1 : ch.keep 28 1 = [1, 3] := by kernel_rfl
@[simp] theorem k28_2 : ch.keep 28 2 = [1, 3, 8] := by kernel_rfl
@[simp] theorem k28_3 : ch.keep 28 3 = [1, 3] := by kernel_rfl
@[simp] theorem k28_4 : ch.keep 28 4 = [1, 3, 17] := by kernel_rfl
@[simp] theorem k28_5 : ch.keep 28 5 = [2] := by kernel_rfl
@[simp] theorem k28_6 : ch.keep 28 6 = [2] := by kernel_rfl
noncomputable def code28 : Code := match Tryz.f28.body with | some c => c | none => .skip
noncomputable def lp28_0 : Code := match code28 with | .seq _ (.seq (.seq _ (.block _ (.loop c))) _) => c | c => c
theorem hd28_0 : ch.head 28 (firstR lp28_0) = [1, 3] := by kernel_rfl
theorem rs28 : Tryz.f28.results.toList = [.tmp 2] := rfl
theorem W28_of {args : List D} (ha : args.all (D.noRef 0 0) = true) (hl : args.length ≤ 26) {H : Hp} {o : Out × Hp}
    (h : alone H (fnOut Tryz.prog [.tmp 2] 0 0 (E false ⟨0, 0⟩ 28 code28 (mkF 0 args) H00)) = some o) : W 28 args H = some o :=
  W_of Tryz.func28 rfl (by kernel_rfl) rfl rfl rfl rfl rfl ha (by rw [Tryz.ntmps28]; exact hl) h
/-! ### f29: sward/kind.Size -/
@[simp] theorem k29_0 : ch.keep 29 0 = [1] := by kernel_rfl
@[simp] theorem k29_1 : ch.keep 29 1 = [1, 9] := by kernel_rfl
@[simp] theorem k29_2 : ch.keep 29 2 = [2, 3, 4] := by kernel_rfl
@[simp] theorem k29_3 : ch.keep 29 3 = [5, 6] := by kernel_rfl
@[simp] theorem k29_4 : ch.keep 29 4 = [2, 3, 4] := by kernel_rfl
noncomputable def code29 : Code := match Tryz.f29.body with | some c => c | none => .skip
theorem rs29 : Tryz.f29.results.toList = [.tmp 2, .tmp 3, .tmp 4] := rfl
theorem W29_of {args : List D} (ha : args.all (D.noRef 0 0) = true) (hl : args.length ≤ 18) {H : Hp} {o : Out × Hp}
    (h : alone H (fnOut Tryz.prog [.tmp 2, .tmp 3, .tmp 4] 0 0 (E false ⟨0, 0⟩ 29 code29 (mkF 0 args) H00)) = some o) : W 29 args H = some o :=
  W_of Tryz.func29 rfl (by kernel_rfl) rfl rfl rfl rfl rfl ha (by rw [Tryz.ntmps29]; exact hl) h
/-! ### f30: sward/swardref01.Nodes -/
@[simp] theorem k30_0 : ch.keep 30 0 = [1] := by kernel_rfl
@[simp] theorem k30_1 : ch.keep 30 1 = [1, 3] := by kernel_rfl
@[simp] theorem k30_2 : ch.keep 30 2 = [1, 3, 4] := by kernel_rfl
@[simp] theorem k30_3 : ch.keep 30 3 = [1, 3, 4, 9] := by kernel_rfl
@[simp] theorem k30_4 : ch.keep 30 4 = [1, 3, 4] := by kernel_rfl
@[simp] theorem k30_5 : ch.keep 30 5 = [1, 3, 4] := by kernel_rfl
@[simp] theorem k30_6 : ch.keep 30 6 = [2] := by kernel_rfl
noncomputable def code30 : Code := match Tryz.f30.body with | some c => c | none => .skip
noncomputable def lp30_0 : Code := match code30 with | .seq _ (.seq _ (.seq (.seq _ (.block _ (.loop c))) _)) => c | c => c
theorem hd30_0 : ch.head 30 (firstR lp30_0) = [1, 3, 4] := by kernel_rfl
theorem rs30 : Tryz.f30.results.toList = [.tmp 2] := rfl
theorem W30_of {args : List D} (ha : args.all (D.noRef 0 0) = true) (hl : args.length ≤ 21) {H : Hp} {o : Out × Hp}
    (h : alone H (fnOut Tryz.prog [.tmp 2] 0 0 (E false ⟨0, 0⟩ 30 code30 (mkF 0 args) H00)) = some o) : W 30 args H = some o :=
  W_of Tryz.func30 rfl (by kernel_rfl) rfl rfl rfl rfl rfl ha (by rw [Tryz.ntmps30]; exact hl) h
/-! ### f31: sward/swardref01.Depth -/
@[simp] theorem k31_0 : ch.keep 31 0 = [1] := by kernel_rfl
@[simp] theorem k31_1 : ch.keep 31 1 = [1, 3] := by kernel_rfl
@[simp] theorem k31_2 : ch.keep 31 2 = [1, 3, 4] := by kernel_rfl
@[simp] theorem k31_3 : ch.keep 31 3 = [1, 3, 4, 9] := by kernel_rfl
@[simp] theorem k31_4 : ch.keep 31 4 = [1, 3, 4] := by kernel_rfl
@[simp] theorem k31_5 : ch.keep 31 5 = [1, 3, 4] := by kernel_rfl
@[simp] theorem k31_6 : ch.keep 31 6 = [2] := by kernel_rfl
noncomputable def code31 : Code := match Tryz.f31.body with | some c => c | none => .skip
noncomputable def lp31_0 : Code := match code31 with | .seq _ (.seq _ (.seq (.seq _ (.block _ (.loop c))) _)) => c | c => c
theorem hd31_0 : ch.head 31 (firstR lp31_0) = [1, 3, 4] := by kernel_rfl
theorem rs31 : Tryz.f31.results.toList = [.tmp 2] := rfl
theorem W31_of {args : List D} (ha : args.all (D.noRef 0 0) = true) (hl : args.length ≤ 22) {H : Hp} {o : Out × Hp}
    (h : alone H (fnOut Tryz.prog [.tmp 2] 0 0 (E false ⟨0, 0⟩ 31 code31 (mkF 0 args) H00)) = some o) : W 31 args H = some o :=
  W_of Tryz.func31 rfl (by kernel_rfl) rfl rfl rfl rfl rfl ha (by rw [Tryz.ntmps31]; exact hl) h
/-! ### f32: sward/kind.Count -/
@[simp] theorem k32_0 : ch.keep 32 0 = [1] := by kernel_rfl
@[simp] theorem k32_1 : ch.keep 32 1 = [1, 7] := by kernel_rfl
@[simp] theorem k32_2 : ch.keep 32 2 = [2, 3] := by kernel_rfl
@[simp] theorem k32_3 : ch.keep 32 3 = [4] := by kernel_rfl
@[simp] theorem k32_4 : ch.keep 32 4 = [4, 11] := by kernel_rfl
@[simp] theorem k32_5 : ch.keep 32 5 = [2, 3] := by kernel_rfl
@[simp] theorem k32_6 : ch.keep 32 6 = [2, 3] := by kernel_rfl
noncomputable def code32 : Code := match Tryz.f32.body with | some c => c | none => .skip
theorem rs32 : Tryz.f32.results.toList = [.tmp 2, .tmp 3] := rfl
theorem W32_of {args : List D} (ha : args.all (D.noRef 0 0) = true) (hl : args.length ≤ 13) {H : Hp} {o : Out × Hp}
    (h : alone H (fnOut Tryz.prog [.tmp 2, .tmp 3] 0 0 (E false ⟨0, 0⟩ 32 code32 (mkF 0 args) H00)) = some o) : W 32 args H = some o :=
  W_of Tryz.func32 rfl (by kernel_rfl) rfl rfl rfl rfl rfl ha (by rw [Tryz.ntmps32]; exact hl) h
/-! ### f39: sward/swardref05.Int -/
@[simp] theorem k39_0 : ch.keep 39 0 = [0, 1, 4] := by kernel_rfl
@[simp] theorem k39_1 : ch.keep 39 1 = [4] := by kernel_rfl
noncomputable def code39 : Code := match Tryz.f39.body with | some c => c | none => .skip
theorem rs39 : Tryz.f39.results.toList = [.cell 4 25] := rfl
theorem W39_of {args : List D} (ha : args.all (D.noRef 0 0) = true) (hl : args.length ≤ 8) {H : Hp} {o : Out × Hp}
    (h : alone H (fnOut Tryz.prog [.cell 4 25] 0 0 (E false ⟨0, 0⟩ 39 code39 (mkF 0 args) H00)) = some o) : W 39 args H = some o :=
  W_of Tryz.func39 rfl (by kernel_rfl) rfl rfl rfl rfl rfl ha (by rw [Tryz.ntmps39]; exact hl) h
/-! ### f41: sward/kind.Check -/
@[simp] theorem k41_0 : ch.keep 41 0 = [1] := by kernel_rfl
@[simp] theorem k41_1 : ch.keep 41 1 = [5] := by kernel_rfl
@[simp] theorem k41_2 : ch.keep 41 2 = [2] := by kernel_rfl
@[simp] theorem k41_3 : ch.keep 41 3 = [2] := by kernel_rfl
noncomputable def code41 : Code := match Tryz.f41.body with | some c => c | none => .skip
theorem rs41 : Tryz.f41.results.toList = [.tmp 2] := rfl
theorem W41_of {args : List D} (ha : args.all (D.noRef 0 0) = true) (hl : args.length ≤ 6) {H : Hp} {o : Out × Hp}
    (h : alone H (fnOut Tryz.prog [.tmp 2] 0 0 (E false ⟨0, 0⟩ 41 code41 (mkF 0 args) H00)) = some o) : W 41 args H = some o :=
  W_of Tryz.func41 rfl (by kernel_rfl) rfl rfl rfl rfl rfl ha (by rw [Tryz.ntmps41]; exact hl) h
/-! ### f42: sward/swardref05.Size -/
@[simp] theorem k42_0 : ch.keep 42 0 = [1] := by kernel_rfl
@[simp] theorem k42_1 : ch.keep 42 1 = [1, 12] := by kernel_rfl
@[simp] theorem k42_2 : ch.keep 42 2 = [1, 12, 13] := by kernel_rfl
@[simp] theorem k42_3 : ch.keep 42 3 = [2, 3] := by kernel_rfl
@[simp] theorem k42_4 : ch.keep 42 4 = [1, 12, 15] := by kernel_rfl
@[simp] theorem k42_5 : ch.keep 42 5 = [1, 4, 5] := by kernel_rfl
@[simp] theorem k42_6 : ch.keep 42 6 = [1, 4, 5, 6] := by kernel_rfl
@[simp] theorem k42_7 : ch.keep 42 7 = [1, 4, 5, 6, 21] := by kernel_rfl
@[simp] theorem k42_8 : ch.keep 42 8 = [1, 4, 5, 6] := by kernel_rfl
@[simp] theorem k42_9 : ch.keep 42 9 = [1, 4, 5, 6, 7, 8] := by kernel_rfl
@[simp] theorem k42_10 : ch.keep 42 10 = [1, 4, 5, 6, 7, 8, 34] := by kernel_rfl
@[simp] theorem k42_11 : ch.keep 42 11 = [2, 3] := by kernel_rfl
@[simp] theorem k42_12 : ch.keep 42 12 = [1, 4, 5, 6] := by kernel_rfl
@[simp] theorem k42_13 : ch.keep 42 13 = [2, 3] := by kernel_rfl
@[simp] theorem k42_14 : ch.keep 42 14 = [1, 45] := by kernel_rfl
@[simp] theorem k42_15 : ch.keep 42 15 = [1, 9, 10] := by kernel_rfl
@[simp] theorem k42_16 : ch.keep 42 16 = [1, 9, 10, 61] := by kernel_rfl
@[simp] theorem k42_17 : ch.keep 42 17 = [2, 3] := by kernel_rfl
@[simp] theorem k42_18 : ch.keep 42 18 = [2, 3] := by kernel_rfl
@[simp] theorem k42_19 : ch.keep 42 19 = [2, 3] := by kernel_rfl
noncomputable def code42 : Code := match Tryz.f42.body with | some c => c | none => .skip
noncomputable def lp42_0 : Code := match code42 with | .seq _ (.seq (.seq _ (.block _ (.seq _ (.cond _ _ (.seq _ (.cond _ (.seq _ (.seq (.seq _ (.block _ (.loop c))) _)) _)))))) _) => c | c => c
theorem hd42_0 : ch.head 42 (firstR lp42_0) = [1, 4, 5, 6] := by kernel_rfl
theorem rs42 : Tryz.f42.results.toList = [.tmp 2, .tmp 3] := rfl
theorem W42_of {args : List D} (ha : args.all (D.noRef 0 0) = true) (hl : args.length ≤ 70) {H : Hp} {o : Out × Hp}
    (h : alone H (fnOut Tryz.prog [.tmp 2, .tmp 3] 0 0 (E false ⟨0, 0⟩ 42 code42 (mkF 0 args) H00)) = some o) : W 42 args H = some o :=
  W_of Tryz.func42 rfl (by kernel_rfl) rfl rfl rfl rfl rfl ha (by rw [Tryz.ntmps42]; exact hl) h
/-! ### f43: sward/swardref05.Count -/
@[simp] theorem k43_0 : ch.keep 43 0 = [1] := by kernel_rfl
@[simp] theorem k43_1 : ch.keep 43 1 = [1, 10] := by kernel_rfl
@[simp] theorem k43_2 : ch.keep 43 2 = [1, 10, 11] := by kernel_rfl
@[simp] theorem k43_3 : ch.keep 43 3 = [2, 3] := by kernel_rfl
@[simp] theorem k43_4 : ch.keep 43 4 = [1, 10, 13] := by kernel_rfl
@[simp] theorem k43_5 : ch.keep 43 5 = [2, 3] := by kernel_rfl
@[simp] theorem k43_6 : ch.keep 43 6 = [1, 10, 15] := by kernel_rfl
@[simp] theorem k43_7 : ch.keep 43 7 = [4] := by kernel_rfl
@[simp] theorem k43_8 : ch.keep 43 8 = [2, 3] := by kernel_rfl
@[simp] theorem k43_9 : ch.keep 43 9 = [1, 26] := by kernel_rfl
@[simp] theorem k43_10 : ch.keep 43 10 = [1, 5] := by kernel_rfl
@[simp] theorem k43_11 : ch.keep 43 11 = [1, 5, 6] := by kernel_rfl
@[simp] theorem k43_12 : ch.keep 43 12 = [1, 5, 6, 32] := by kernel_rfl
@[simp] theorem k43_13 : ch.keep 43 13 = [1, 5, 6] := by kernel_rfl
@[simp] theorem k43_14 : ch.keep 43 14 = [1, 5, 6, 7, 8] := by kernel_rfl
@[simp] theorem k43_15 : ch.keep 43 15 = [1, 5, 6, 7, 56] := by kernel_rfl
@[simp] theorem k43_16 : ch.keep 43 16 = [2, 3] := by kernel_rfl
@[simp] theorem k43_17 : ch.keep 43 17 = [1, 5, 6] := by kernel_rfl
@[simp] theorem k43_18 : ch.keep 43 18 = [2, 3] := by kernel_rfl
@[simp] theorem k43_19 : ch.keep 43 19 = [2, 3] := by kernel_rfl
noncomputable def code43 : Code := match Tryz.f43.body with | some c => c | none => .skip
noncomputable def lp43_0 : Code := match code43 with | .seq _ (.seq (.seq _ (.block _ (.seq _ (.cond _ _ (.seq _ (.cond _ _ (.seq _ (.cond _ _ (.seq _ (.cond _ (.seq _ (.seq (.seq _ (.block _ (.loop c))) _)) _)))))))))) _) => c | c => c
theorem hd43_0 : ch.head 43 (firstR lp43_0) = [1, 5, 6] := by kernel_rfl
theorem rs43 : Tryz.f43.results.toList = [.tmp 2, .tmp 3] := rfl
theorem W43_of {args : List D} (ha : args.all (D.noRef 0 0) = true) (hl : args.length ≤ 62) {H : Hp} {o : Out × Hp}
    (h : alone H (fnOut Tryz.prog [.tmp 2, .tmp 3] 0 0 (E false ⟨0, 0⟩ 43 code43 (mkF 0 args) H00)) = some o) : W 43 args H = some o :=
  W_of Tryz.func43 rfl (by kernel_rfl) rfl rfl rfl rfl rfl ha (by rw [Tryz.ntmps43]; exact hl) h
/-! ### f49: sward/swardref05.Weigh -/
@[simp] theorem k49_0 : ch.keep 49 0 = [1, 2, 3] := by kernel_rfl
@[simp] theorem k49_1 : ch.keep 49 1 = [1, 2, 3, 13] := by kernel_rfl
@[simp] theorem k49_2 : ch.keep 49 2 = [6] := by kernel_rfl
@[simp] theorem k49_3 : ch.keep 49 3 = [1, 2, 3] := by kernel_rfl
@[simp] theorem k49_4 : ch.keep 49 4 = [1, 2, 3, 7] := by kernel_rfl
@[simp] theorem k49_5 : ch.keep 49 5 = [1, 2, 3, 7, 24] := by kernel_rfl
@[simp] theorem k49_6 : ch.keep 49 6 = [1, 2, 3, 7] := by kernel_rfl
@[simp] theorem k49_7 : ch.keep 49 7 = [1, 2, 3, 7] := by kernel_rfl
@[simp] theorem k49_8 : ch.keep 49 8 = [6] := by kernel_rfl
noncomputable def code49 : Code := match Tryz.f49.body with | some c => c | none => .skip
noncomputable def lp49_0 : Code := match code49 with | .seq _ (.seq _ (.seq _ (.seq (.seq _ (.block _ (.loop c))) _))) => c | c => c
theorem hd49_0 : ch.head 49 (firstR lp49_0) = [1, 2, 3, 7] := by kernel_rfl
theorem rs49 : Tryz.f49.results.toList = [.tmp 6] := rfl
theorem W49_of {args : List D} (ha : args.all (D.noRef 0 0) = true) (hl : args.length ≤ 37) {H : Hp} {o : Out × Hp}
    (h : alone H (fnOut Tryz.prog [.tmp 6] 0 0 (E false ⟨0, 0⟩ 49 code49 (mkF 0 args) H00)) = some o) : W 49 args H = some o :=
  W_of Tryz.func49 rfl (by kernel_rfl) rfl rfl rfl rfl rfl ha (by rw [Tryz.ntmps49]; exact hl) h
/-! ### f50: sward/swardref01.Weigh -/
@[simp] theorem k50_0 : ch.keep 50 0 = [1, 2, 3] := by kernel_rfl
@[simp] theorem k50_1 : ch.keep 50 1 = [1, 2, 3, 13] := by kernel_rfl
@[simp] theorem k50_2 : ch.keep 50 2 = [6] := by kernel_rfl
@[simp] theorem k50_3 : ch.keep 50 3 = [1, 2, 3] := by kernel_rfl
@[simp] theorem k50_4 : ch.keep 50 4 = [1, 2, 3, 7] := by kernel_rfl
@[simp] theorem k50_5 : ch.keep 50 5 = [1, 2, 3, 7, 24] := by kernel_rfl
@[simp] theorem k50_6 : ch.keep 50 6 = [1, 2, 3, 7] := by kernel_rfl
@[simp] theorem k50_7 : ch.keep 50 7 = [1, 2, 3, 7] := by kernel_rfl
@[simp] theorem k50_8 : ch.keep 50 8 = [6] := by kernel_rfl
noncomputable def code50 : Code := match Tryz.f50.body with | some c => c | none => .skip
noncomputable def lp50_0 : Code := match code50 with | .seq _ (.seq _ (.seq _ (.seq (.seq _ (.block _ (.loop c))) _))) => c | c => c
theorem hd50_0 : ch.head 50 (firstR lp50_0) = [1, 2, 3, 7] := by kernel_rfl
theorem rs50 : Tryz.f50.results.toList = [.tmp 6] := rfl
theorem W50_of {args : List D} (ha : args.all (D.noRef 0 0) = true) (hl : args.length ≤ 37) {H : Hp} {o : Out × Hp}
    (h : alone H (fnOut Tryz.prog [.tmp 6] 0 0 (E false ⟨0, 0⟩ 50 code50 (mkF 0 args) H00)) = some o) : W 50 args H = some o :=
  W_of Tryz.func50 rfl (by kernel_rfl) rfl rfl rfl rfl rfl ha (by rw [Tryz.ntmps50]; exact hl) h
/-! ### f51: sward/swardref01.brief -/
@[simp] theorem k51_0 : ch.keep 51 0 = [1] := by kernel_rfl
@[simp] theorem k51_1 : ch.keep 51 1 = [1, 3] := by kernel_rfl
@[simp] theorem k51_2 : ch.keep 51 2 = [1, 3, 8] := by kernel_rfl
@[simp] theorem k51_3 : ch.keep 51 3 = [1, 3] := by kernel_rfl
@[simp] theorem k51_4 : ch.keep 51 4 = [1, 3, 17] := by kernel_rfl
@[simp] theorem k51_5 : ch.keep 51 5 = [2] := by kernel_rfl
@[simp] theorem k51_6 : ch.keep 51 6 = [2] := by kernel_rfl
noncomputable def code51 : Code := match Tryz.f51.body with | some c => c | none => .skip
noncomputable def lp51_0 : Code := match code51 with | .seq _ (.seq (.seq _ (.block _ (.loop c))) _) => c | c => c
theorem hd51_0 : ch.head 51 (firstR lp51_0) = [1, 3] := by kernel_rfl
theorem rs51 : Tryz.f51.results.toList = [.tmp 2] := rfl
theorem W51_of {args : List D} (ha : args.all (D.noRef 0 0) = true) (hl : args.length ≤ 22) {H : Hp} {o : Out × Hp}
    (h : alone H (fnOut Tryz.prog [.tmp 2] 0 0 (E false ⟨0, 0⟩ 51 code51 (mkF 0 args) H00)) = some o) : W 51 args H = some o :=
  W_of Tryz.func51 rfl (by kernel_rfl) rfl rfl rfl rfl rfl ha (by rw [Tryz.ntmps51]; exact hl) h
/-! ### f53: sward/swardref05.Set -/
@[simp] theorem k53_0 : ch.keep 53 0 = [0, 3, 4] := by kernel_rfl
@[simp] theorem k53_1 : ch.keep 53 1 = [4] := by kernel_rfl
noncomputable def code53 : Code := match Tryz.f53.body with | some c => c | none => .skip
theorem rs53 : Tryz.f53.results.toList = [.cell 4 25] := rfl
theorem W53_of {args : List D} (ha : args.all (D.noRef 0 0) = true) (hl : args.length ≤ 9) {H : Hp} {o : Out × Hp}
    (h : alone H (fnOut Tryz.prog [.cell 4 25] 0 0 (E false ⟨0, 0⟩ 53 code53 (mkF 0 args) H00)) = some o) : W 53 args H = some o :=
  W_of Tryz.func53 rfl (by kernel_rfl) rfl rfl rfl rfl rfl ha (by rw [Tryz.ntmps53]; exact hl) h
/-! ### f54: sward/swardref05.Bool -/
@[simp] theorem k54_0 : ch.keep 54 0 = [0] := by kernel_rfl
@[simp] theorem k54_1 : ch.keep 54 1 = [0] := by kernel_rfl
noncomputable def code54 : Code := match Tryz.f54.body with | some c => c | none => .skip
theorem rs54 : Tryz.f54.results.toList = [.cell 0 25] := rfl
theorem W54_of {args : List D} (ha : args.all (D.noRef 0 0) = true) (hl : args.length ≤ 2) {H : Hp} {o : Out × Hp}
    (h : alone H (fnOut Tryz.prog [.cell 0 25] 0 0 (E false ⟨0, 0⟩ 54 code54 (mkF 0 args) H00)) = some o) : W 54 args H = some o :=
  W_of Tryz.func54 rfl (by kernel_rfl) rfl rfl rfl rfl rfl ha (by rw [Tryz.ntmps54]; exact hl) h
/-! ### f60: sward/kind.valid -/
@[simp] theorem k60_0 : ch.keep 60 0 = [1] := by kernel_rfl
@[simp] theorem k60_1 : ch.keep 60 1 = [2] := by kernel_rfl
noncomputable def code60 : Code := match Tryz.f60.body with | some c => c | none => .skip
theorem rs60 : Tryz.f60.results.toList = [.tmp 2] := rfl
theorem W60_of {args : List D} (ha : args.all (D.noRef 0 0) = true) (hl : args.length ≤ 6) {H : Hp} {o : Out × Hp}
    (h : alone H (fnOut Tryz.prog [.tmp 2] 0 0 (E false ⟨0, 0⟩ 60 code60 (mkF 0 args) H00)) = some o) : W 60 args H = some o :=
  W_of Tryz.func60 rfl (by kernel_rfl) rfl rfl rfl rfl rfl ha (by rw [Tryz.ntmps60]; exact hl) h
/-! ### f61: sward/value.Check -/
@[simp] theorem k61_0 : ch.keep 61 0 = [1] := by kernel_rfl
@[simp] theorem k61_1 : ch.keep 61 1 = [5] := by kernel_rfl
@[simp] theorem k61_2 : ch.keep 61 2 = [2] := by kernel_rfl
@[simp] theorem k61_3 : ch.keep 61 3 = [2] := by kernel_rfl
noncomputable def code61 : Code := match Tryz.f61.body with | some c => c | none => .skip
theorem rs61 : Tryz.f61.results.toList = [.tmp 2] := rfl
theorem W61_of {args : List D} (ha : args.all (D.noRef 0 0) = true) (hl : args.length ≤ 6) {H : Hp} {o : Out × Hp}
    (h : alone H (fnOut Tryz.prog [.tmp 2] 0 0 (E false ⟨0, 0⟩ 61 code61 (mkF 0 args) H00)) = some o) : W 61 args H = some o :=
  W_of Tryz.func61 rfl (by kernel_rfl) rfl rfl rfl rfl rfl ha (by rw [Tryz.ntmps61]; exact hl) h
/-! ### f62: sward/kind.is -/
@[simp] theorem k62_0 : ch.keep 62 0 = [2, 3] := by kernel_rfl
@[simp] theorem k62_1 : ch.keep 62 1 = [2, 3, 8] := by kernel_rfl
@[simp] theorem k62_2 : ch.keep 62 2 = [2, 3, 8, 9] := by kernel_rfl
@[simp] theorem k62_3 : ch.keep 62 3 = [4] := by kernel_rfl
@[simp] theorem k62_4 : ch.keep 62 4 = [2, 3, 8, 28] := by kernel_rfl
@[simp] theorem k62_5 : ch.keep 62 5 = [4] := by kernel_rfl
@[simp] theorem k62_6 : ch.keep 62 6 = [2, 3, 8, 33] := by kernel_rfl
@[simp] theorem k62_7 : ch.keep 62 7 = [4] := by kernel_rfl
@[simp] theorem k62_8 : ch.keep 62 8 = [2, 3, 8, 38] := by kernel_rfl
@[simp] theorem k62_9 : ch.keep 62 9 = [2, 3, 51] := by kernel_rfl
@[simp] theorem k62_10 : ch.keep 62 10 = [4] := by kernel_rfl
@[simp] theorem k62_11 : ch.keep 62 11 = [2, 53, 54, 55] := by kernel_rfl
@[simp] theorem k62_12 : ch.keep 62 12 = [2, 53, 54, 55, 56] := by kernel_rfl
@[simp] theorem k62_13 : ch.keep 62 13 = [2, 5, 6, 53, 54, 55] := by kernel_rfl
@[simp] theorem k62_14 : ch.keep 62 14 = [2, 53, 54, 55, 67] := by kernel_rfl
@[simp] theorem k62_15 : ch.keep 62 15 = [4] := by kernel_rfl
@[simp] theorem k62_16 : ch.keep 62 16 = [2, 53, 54, 55] := by kernel_rfl
@[simp] theorem k62_17 : ch.keep 62 17 = [4] := by kernel_rfl
@[simp] theorem k62_18 : ch.keep 62 18 = [2, 3, 69] := by kernel_rfl
@[simp] theorem k62_19 : ch.keep 62 19 = [4] := by kernel_rfl
@[simp] theorem k62_20 : ch.keep 62 20 = [4] := by kernel_rfl
@[simp] theorem fl62_14 : ch.fl 62 14 = [1, 1, 1, 1, 1, 1, 0, 0] := by kernel_rfl
noncomputable def code62 : Code := match Tryz.f62.body with | some c => c | none => .skip
noncomputable def lp62_0 : Code := match code62 with | .seq _ (.seq (.seq _ (.block _ (.seq _ (.cond _ _ (.seq _ (.cond _ _ (.seq _ (.cond _ _ (.seq _ (.cond _ (.seq _ (.seq (.seq _ (.block _ (.loop c))) _)) _)))))))))) _) => c | c => c
theorem hd62_0 : ch.head 62 (firstR lp62_0) = [2, 53, 54, 55] := by kernel_rfl
theorem rs62 : Tryz.f62.results.toList = [.tmp 4] := rfl
theorem W62_of {args : List D} (ha : args.all (D.noRef 0 0) = true) (hl : args.length ≤ 89) {H : Hp} {o : Out × Hp}
    (h : alone H (fnOut Tryz.prog [.tmp 4] 0 0 (E false ⟨0, 0⟩ 62 code62 (mkF 0 args) H00)) = some o) : W 62 args H = some o :=
  W_of Tryz.func62 rfl (by kernel_rfl) rfl rfl rfl rfl rfl ha (by rw [Tryz.ntmps62]; exact hl) h
/-! ### f63: sward/kind.least -/
@[simp] theorem k63_0 : ch.keep 63 0 = [1, 2] := by kernel_rfl
@[simp] theorem k63_1 : ch.keep 63 1 = [1, 2, 11] := by kernel_rfl
@[simp] theorem k63_2 : ch.keep 63 2 = [1, 2, 11, 12] := by kernel_rfl
@[simp] theorem k63_3 : ch.keep 63 3 = [2, 3] := by kernel_rfl
@[simp] theorem k63_4 : ch.keep 63 4 = [1, 2, 11, 19] := by kernel_rfl
@[simp] theorem k63_5 : ch.keep 63 5 = [2, 3] := by kernel_rfl
@[simp] theorem k63_6 : ch.keep 63 6 = [1, 2, 22] := by kernel_rfl
@[simp] theorem k63_7 : ch.keep 63 7 = [2, 3] := by kernel_rfl
@[simp] theorem k63_8 : ch.keep 63 8 = [1, 2, 4] := by kernel_rfl
@[simp] theorem k63_9 : ch.keep 63 9 = [1, 2, 4, 5] := by kernel_rfl
@[simp] theorem k63_10 : ch.keep 63 10 = [1, 2, 4, 5, 28, 29, 30] := by kernel_rfl
@[simp] theorem k63_11 : ch.keep 63 11 = [1, 2, 4, 5, 28, 29, 30, 31] := by kernel_rfl
@[simp] theorem k63_12 : ch.keep 63 12 = [1, 2, 4, 5, 7, 28, 29, 30] := by kernel_rfl
@[simp] theorem k63_13 : ch.keep 63 13 = [1, 2, 4, 5, 8, 9, 28, 29, 30] := by kernel_rfl
@[simp] theorem k63_14 : ch.keep 63 14 = [1, 2, 4, 5, 8, 28, 29, 30, 40] := by kernel_rfl
@[simp] theorem k63_15 : ch.keep 63 15 = [2, 3] := by kernel_rfl
@[simp] theorem k63_16 : ch.keep 63 16 = [1, 2, 4, 5, 8, 28, 29, 30] := by kernel_rfl
@[simp] theorem k63_17 : ch.keep 63 17 = [1, 2, 4, 5, 8, 28, 29, 30, 50] := by kernel_rfl
@[simp] theorem k63_18 : ch.keep 63 18 = [1, 2, 4, 5, 9, 28, 29, 30] := by kernel_rfl
@[simp] theorem k63_19 : ch.keep 63 19 = [1, 2, 4, 5, 28, 29, 30, 58] := by kernel_rfl
@[simp] theorem k63_20 : ch.keep 63 20 = [2, 3] := by kernel_rfl
@[simp] theorem k63_21 : ch.keep 63 21 = [1, 2, 4, 5, 28, 29, 30] := by kernel_rfl
@[simp] theorem k63_22 : ch.keep 63 22 = [1, 2, 4, 5, 63] := by kernel_rfl
@[simp] theorem k63_23 : ch.keep 63 23 = [2, 3] := by kernel_rfl
@[simp] theorem k63_24 : ch.keep 63 24 = [2, 3] := by kernel_rfl
noncomputable def code63 : Code := match Tryz.f63.body with | some c => c | none => .skip
noncomputable def lp63_0 : Code := match code63 with | .seq _ (.seq _ (.seq _ (.seq _ (.seq (.seq _ (.block _ (.loop c))) _)))) => c | c => c
theorem hd63_0 : ch.head 63 (firstR lp63_0) = [1, 2, 4, 5, 28, 29, 30] := by kernel_rfl
theorem rs63 : Tryz.f63.results.toList = [.cell 2 25, .tmp 3] := rfl
theorem W63_of {args : List D} (ha : args.all (D.noRef 0 0) = true) (hl : args.length ≤ 70) {H : Hp} {o : Out × Hp}
    (h : alone H (fnOut Tryz.prog [.cell 2 25, .tmp 3] 0 0 (E false ⟨0, 0⟩ 63 code63 (mkF 0 args) H00)) = some o) : W 63 args H = some o :=
  W_of Tryz.func63 rfl (by kernel_rfl) rfl rfl rfl rfl rfl ha (by rw [Tryz.ntmps63]; exact hl) h
/-! ### f64: sward/kind.copied -/
@[simp] theorem k64_0 : ch.keep 64 0 = [1, 2] := by kernel_rfl
@[simp] theorem k64_1 : ch.keep 64 1 = [1, 2, 3] := by kernel_rfl
@[simp] theorem k64_2 : ch.keep 64 2 = [1, 2, 3, 7, 8, 9] := by kernel_rfl
@[simp] theorem k64_3 : ch.keep 64 3 = [1, 2, 3, 7, 8, 9, 10] := by kernel_rfl
@[simp] theorem k64_4 : ch.keep 64 4 = [1, 2, 3, 5, 7, 8, 9] := by kernel_rfl
@[simp] theorem k64_5 : ch.keep 64 5 = [1, 2, 3, 7, 8, 9] := by kernel_rfl
@[simp] theorem k64_6 : ch.keep 64 6 = [1, 2, 3, 7, 8, 9] := by kernel_rfl
@[simp] theorem k64_7 : ch.keep 64 7 = [1, 2] := by kernel_rfl
@[simp] theorem k64_8 : ch.keep 64 8 = [2] := by kernel_rfl
noncomputable def code64 : Code := match Tryz.f64.body with | some c => c | none => .skip
noncomputable def lp64_0 : Code := match code64 with | .seq _ (.seq _ (.seq (.seq _ (.block _ (.loop c))) _)) => c | c => c
theorem hd64_0 : ch.head 64 (firstR lp64_0) = [1, 2, 3, 7, 8, 9] := by kernel_rfl
theorem rs64 : Tryz.f64.results.toList = [.cell 2 25] := rfl
theorem W64_of {args : List D} (ha : args.all (D.noRef 0 0) = true) (hl : args.length ≤ 22) {H : Hp} {o : Out × Hp}
    (h : alone H (fnOut Tryz.prog [.cell 2 25] 0 0 (E false ⟨0, 0⟩ 64 code64 (mkF 0 args) H00)) = some o) : W 64 args H = some o :=
  W_of Tryz.func64 rfl (by kernel_rfl) rfl rfl rfl rfl rfl ha (by rw [Tryz.ntmps64]; exact hl) h
/-! ### f65: sward/swardref01.shaped -/
@[simp] theorem k65_0 : ch.keep 65 0 = [1] := by kernel_rfl
@[simp] theorem k65_1 : ch.keep 65 1 = [1, 3] := by kernel_rfl
@[simp] theorem k65_2 : ch.keep 65 2 = [1, 3, 9] := by kernel_rfl
@[simp] theorem k65_3 : ch.keep 65 3 = [1, 3] := by kernel_rfl
@[simp] theorem k65_4 : ch.keep 65 4 = [1, 3, 18] := by kernel_rfl
@[simp] theorem k65_5 : ch.keep 65 5 = [2] := by kernel_rfl
@[simp] theorem k65_6 : ch.keep 65 6 = [1, 20] := by kernel_rfl
@[simp] theorem k65_7 : ch.keep 65 7 = [1, 20, 21] := by kernel_rfl
@[simp] theorem k65_8 : ch.keep 65 8 = [2] := by kernel_rfl
@[simp] theorem k65_9 : ch.keep 65 9 = [1, 20, 37] := by kernel_rfl
@[simp] theorem k65_10 : ch.keep 65 10 = [2] := by kernel_rfl
@[simp] theorem k65_11 : ch.keep 65 11 = [1, 20, 53] := by kernel_rfl
@[simp] theorem k65_12 : ch.keep 65 12 = [2] := by kernel_rfl
@[simp] theorem k65_13 : ch.keep 65 13 = [1, 20, 69] := by kernel_rfl
@[simp] theorem k65_14 : ch.keep 65 14 = [2] := by kernel_rfl
@[simp] theorem k65_15 : ch.keep 65 15 = [1, 85] := by kernel_rfl
@[simp] theorem k65_16 : ch.keep 65 16 = [1, 4] := by kernel_rfl
@[simp] theorem k65_17 : ch.keep 65 17 = [1, 4, 91] := by kernel_rfl
@[simp] theorem k65_18 : ch.keep 65 18 = [1, 4] := by kernel_rfl
@[simp] theorem k65_19 : ch.keep 65 19 = [1, 4, 106] := by kernel_rfl
@[simp] theorem k65_20 : ch.keep 65 20 = [2] := by kernel_rfl
@[simp] theorem k65_21 : ch.keep 65 21 = [2] := by kernel_rfl
@[simp] theorem k65_22 : ch.keep 65 22 = [2] := by kernel_rfl
@[simp] theorem fl65_19 : ch.fl 65 19 = [1, 1, 1, 1, 1, 1, 1, 1, 1, 1, 1, 0, 0] := by kernel_rfl
noncomputable def code65 : Code := match Tryz.f65.body with | some c => c | none => .skip
noncomputable def lp65_0 : Code := match code65 with | .seq _ (.seq (.seq _ (.block _ (.loop c))) _) => c | c => c
theorem hd65_0 : ch.head 65 (firstR lp65_0) = [1, 3] := by kernel_rfl
noncomputable def lp65_1 : Code := match code65 with | .seq _ (.seq _ (.seq (.seq _ (.block _ (.seq _ (.cond _ _ (.seq _ (.cond _ _ (.seq _ (.cond _ _ (.seq _ (.cond _ _ (.seq _ (.cond _ (.seq (.seq _ (.block _ (.loop c))) _) _)))))))))))) _)) => c | c => c
theorem hd65_1 : ch.head 65 (firstR lp65_1) = [1, 4] := by kernel_rfl
theorem rs65 : Tryz.f65.results.toList = [.tmp 2] := rfl
theorem W65_of {args : List D} (ha : args.all (D.noRef 0 0) = true) (hl : args.length ≤ 115) {H : Hp} {o : Out × Hp}
    (h : alone H (fnOut Tryz.prog [.tmp 2] 0 0 (E false ⟨0, 0⟩ 65 code65 (mkF 0 args) H00)) = some o) : W 65 args H = some o :=
  W_of Tryz.func65 rfl (by kernel_rfl) rfl rfl rfl rfl rfl ha (by rw [Tryz.ntmps65]; exact hl) h
/-! ### f66: sward/swardref05.least -/
@[simp] theorem k66_0 : ch.keep 66 0 = [1, 2] := by kernel_rfl
@[simp] theorem k66_1 : ch.keep 66 1 = [1, 2, 10] := by kernel_rfl
@[simp] theorem k66_2 : ch.keep 66 2 = [1, 2, 10, 11] := by kernel_rfl
@[simp] theorem k66_3 : ch.keep 66 3 = [2, 3] := by kernel_rfl
@[simp] theorem k66_4 : ch.keep 66 4 = [1, 2, 10, 18] := by kernel_rfl
@[simp] theorem k66_5 : ch.keep 66 5 = [2, 3] := by kernel_rfl
@[simp] theorem k66_6 : ch.keep 66 6 = [1, 2, 21] := by kernel_rfl
@[simp] theorem k66_7 : ch.keep 66 7 = [2, 3] := by kernel_rfl
@[simp] theorem k66_8 : ch.keep 66 8 = [1, 2, 4] := by kernel_rfl
@[simp] theorem k66_9 : ch.keep 66 9 = [1, 2, 4, 5] := by kernel_rfl
@[simp] theorem k66_10 : ch.keep 66 10 = [1, 2, 4, 5, 6] := by kernel_rfl
@[simp] theorem k66_11 : ch.keep 66 11 = [1, 2, 4, 5, 6, 30] := by kernel_rfl
@[simp] theorem k66_12 : ch.keep 66 12 = [1, 2, 4, 5, 6] := by kernel_rfl
@[simp] theorem k66_13 : ch.keep 66 13 = [1, 2, 4, 5, 6, 7, 8] := by kernel_rfl
@[simp] theorem k66_14 : ch.keep 66 14 = [1, 2, 4, 5, 6, 7, 43] := by kernel_rfl
@[simp] theorem k66_15 : ch.keep 66 15 = [2, 3] := by kernel_rfl
@[simp] theorem k66_16 : ch.keep 66 16 = [1, 2, 4, 5, 6, 7] := by kernel_rfl
@[simp] theorem k66_17 : ch.keep 66 17 = [1, 2, 4, 5, 6, 7, 53] := by kernel_rfl
@[simp] theorem k66_18 : ch.keep 66 18 = [1, 2, 4, 5, 6, 8] := by kernel_rfl
@[simp] theorem k66_19 : ch.keep 66 19 = [1, 2, 4, 5, 6, 61] := by kernel_rfl
@[simp] theorem k66_20 : ch.keep 66 20 = [2, 3] := by kernel_rfl
@[simp] theorem k66_21 : ch.keep 66 21 = [1, 2, 4, 5, 65] := by kernel_rfl
@[simp] theorem k66_22 : ch.keep 66 22 = [2, 3] := by kernel_rfl
@[simp] theorem k66_23 : ch.keep 66 23 = [2, 3] := by kernel_rfl
noncomputable def code66 : Code := match Tryz.f66.body with | some c => c | none => .skip
noncomputable def lp66_0 : Code := match code66 with | .seq _ (.seq _ (.seq _ (.seq _ (.seq (.seq _ (.block _ (.loop c))) _)))) => c | c => c
theorem hd66_0 : ch.head 66 (firstR lp66_0) = [1, 2, 4, 5, 6] := by kernel_rfl
theorem rs66 : Tryz.f66.results.toList = [.cell 2 25, .tmp 3] := rfl
theorem W66_of {args : List D} (ha : args.all (D.noRef 0 0) = true) (hl : args.length ≤ 72) {H : Hp} {o : Out × Hp}
    (h : alone H (fnOut Tryz.prog [.cell 2 25, .tmp 3] 0 0 (E false ⟨0, 0⟩ 66 code66 (mkF 0 args) H00)) = some o) : W 66 args H = some o :=
  W_of Tryz.func66 rfl (by kernel_rfl) rfl rfl rfl rfl rfl ha (by rw [Tryz.ntmps66]; exact hl) h
/-! ### f67: sward/swardref05.shaped -/
@[simp] theorem k67_0 : ch.keep 67 0 = [1] := by kernel_rfl
@[simp] theorem k67_1 : ch.keep 67 1 = [1, 3] := by kernel_rfl
@[simp] theorem k67_2 : ch.keep 67 2 = [1, 3, 8] := by kernel_rfl
@[simp] theorem k67_3 : ch.keep 67 3 = [1, 3] := by kernel_rfl
@[simp] theorem k67_4 : ch.keep 67 4 = [1, 3, 17] := by kernel_rfl
@[simp] theorem k67_5 : ch.keep 67 5 = [2] := by kernel_rfl
@[simp] theorem k67_6 : ch.keep 67 6 = [1, 19] := by kernel_rfl
@[simp] theorem k67_7 : ch.keep 67 7 = [1, 19, 20] := by kernel_rfl
@[simp] theorem k67_8 : ch.keep 67 8 = [1, 19, 20] := by kernel_rfl
@[simp] theorem k67_9 : ch.keep 67 9 = [1, 19, 20] := by kernel_rfl
@[simp] theorem k67_10 : ch.keep 67 10 = [2] := by kernel_rfl
@[simp] theorem k67_11 : ch.keep 67 11 = [1, 19, 32] := by kernel_rfl
@[simp] theorem k67_12 : ch.keep 67 12 = [2] := by kernel_rfl
@[simp] theorem k67_13 : ch.keep 67 13 = [1, 19, 55] := by kernel_rfl
@[simp] theorem k67_14 : ch.keep 67 14 = [2] := by kernel_rfl
@[simp] theorem k67_15 : ch.keep 67 15 = [1, 65] := by kernel_rfl
@[simp] theorem k67_16 : ch.keep 67 16 = [2] := by kernel_rfl
@[simp] theorem k67_17 : ch.keep 67 17 = [2] := by kernel_rfl
noncomputable def code67 : Code := match Tryz.f67.body with | some c => c | none => .skip
noncomputable def lp67_0 : Code := match code67 with | .seq _ (.seq (.seq _ (.block _ (.loop c))) _) => c | c => c
theorem hd67_0 : ch.head 67 (firstR lp67_0) = [1, 3] := by kernel_rfl
theorem rs67 : Tryz.f67.results.toList = [.tmp 2] := rfl
theorem W67_of {args : List D} (ha : args.all (D.noRef 0 0) = true) (hl : args.length ≤ 86) {H : Hp} {o : Out × Hp}
    (h : alone H (fnOut Tryz.prog [.tmp 2] 0 0 (E false ⟨0, 0⟩ 67 code67 (mkF 0 args) H00)) = some o) : W 67 args H = some o :=
  W_of Tryz.func67 rfl (by kernel_rfl) rfl rfl rfl rfl rfl ha (by rw [Tryz.ntmps67]; exact hl) h
/-! ### f68: sward/swardref05.in -/
@[simp] theorem k68_0 : ch.keep 68 0 = [0, 1, 2] := by kernel_rfl
@[simp] theorem k68_1 : ch.keep 68 1 = [6] := by kernel_rfl
noncomputable def code68 : Code := match Tryz.f68.body with | some c => c | none => .skip
theorem rs68 : Tryz.f68.results.toList = [.tmp 6] := rfl
theorem W68_of {args : List D} (ha : args.all (D.noRef 0 0) = true) (hl : args.length ≤ 15) {H : Hp} {o : Out × Hp}
    (h : alone H (fnOut Tryz.prog [.tmp 6] 0 0 (E false ⟨0, 0⟩ 68 code68 (mkF 0 args) H00)) = some o) : W 68 args H = some o :=
  W_of Tryz.func68 rfl (by kernel_rfl) rfl rfl rfl rfl rfl ha (by rw [Tryz.ntmps68]; exact hl) h
/-! ### f69: sward/kind.within -/
@[simp] theorem k69_0 : ch.keep 69 0 = [2, 3] := by kernel_rfl
@[simp] theorem k69_1 : ch.keep 69 1 = [2, 3, 9] := by kernel_rfl
@[simp] theorem k69_2 : ch.keep 69 2 = [4] := by kernel_rfl
@[simp] theorem k69_3 : ch.keep 69 3 = [2, 3, 23] := by kernel_rfl
@[simp] theorem k69_4 : ch.keep 69 4 = [4] := by kernel_rfl
@[simp] theorem k69_5 : ch.keep 69 5 = [2, 3, 5] := by kernel_rfl
@[simp] theorem k69_6 : ch.keep 69 6 = [2, 3, 5, 26, 27] := by kernel_rfl
@[simp] theorem k69_7 : ch.keep 69 7 = [2, 3, 5, 26, 27, 28] := by kernel_rfl
@[simp] theorem k69_8 : ch.keep 69 8 = [2, 3, 5, 6, 26, 27] := by kernel_rfl
@[simp] theorem k69_9 : ch.keep 69 9 = [2, 3, 5, 26, 27] := by kernel_rfl
@[simp] theorem k69_10 : ch.keep 69 10 = [2, 3, 5, 26, 27] := by kernel_rfl
@[simp] theorem k69_11 : ch.keep 69 11 = [2, 3, 5, 46] := by kernel_rfl
@[simp] theorem k69_12 : ch.keep 69 12 = [2, 3, 5, 46, 47] := by kernel_rfl
@[simp] theorem k69_13 : ch.keep 69 13 = [4] := by kernel_rfl
@[simp] theorem k69_14 : ch.keep 69 14 = [2, 3, 5, 61] := by kernel_rfl
@[simp] theorem k69_15 : ch.keep 69 15 = [4] := by kernel_rfl
@[simp] theorem k69_16 : ch.keep 69 16 = [4] := by kernel_rfl
@[simp] theorem fl69_9 : ch.fl 69 9 = [0, 0, 1, 1, 1, 1, 1, 1, 1, 1, 1, 1, 0, 0, 0] := by kernel_rfl
noncomputable def code69 : Code := match Tryz.f69.body with | some c => c | none => .skip
noncomputable def lp69_0 : Code := match code69 with | .seq _ (.seq _ (.seq _ (.seq _ (.seq (.seq _ (.block _ (.loop c))) _)))) => c | c => c
theorem hd69_0 : ch.head 69 (firstR lp69_0) = [2, 3, 5, 26, 27] := by kernel_rfl
theorem rs69 : Tryz.f69.results.toList = [.tmp 4] := rfl
theorem W69_of {args : List D} (ha : args.all (D.noRef 0 0) = true) (hl : args.length ≤ 77) {H : Hp} {o : Out × Hp}
    (h : alone H (fnOut Tryz.prog [.tmp 4] 0 0 (E false ⟨0, 0⟩ 69 code69 (mkF 0 args) H00)) = some o) : W 69 args H = some o :=
  W_of Tryz.func69 rfl (by kernel_rfl) rfl rfl rfl rfl rfl ha (by rw [Tryz.ntmps69]; exact hl) h
/-! ### f70: sward/kind.join -/
@[simp] theorem k70_0 : ch.keep 70 0 = [2, 3, 4] := by kernel_rfl
@[simp] theorem k70_1 : ch.keep 70 1 = [2, 3, 4, 10] := by kernel_rfl
@[simp] theorem k70_2 : ch.keep 70 2 = [4, 5] := by kernel_rfl
@[simp] theorem k70_3 : ch.keep 70 3 = [2, 3, 4, 15] := by kernel_rfl
@[simp] theorem k70_4 : ch.keep 70 4 = [4, 5] := by kernel_rfl
@[simp] theorem k70_5 : ch.keep 70 5 = [2, 3, 4, 20] := by kernel_rfl
@[simp] theorem k70_6 : ch.keep 70 6 = [4, 5] := by kernel_rfl
@[simp] theorem k70_7 : ch.keep 70 7 = [2, 3, 4, 6] := by kernel_rfl
@[simp] theorem k70_8 : ch.keep 70 8 = [2, 3, 4, 6, 46] := by kernel_rfl
@[simp] theorem k70_9 : ch.keep 70 9 = [2, 3, 4, 6] := by kernel_rfl
@[simp] theorem k70_10 : ch.keep 70 10 = [2, 3, 4, 6, 61, 62] := by kernel_rfl
@[simp] theorem k70_11 : ch.keep 70 11 = [2, 3, 4, 6, 61, 62, 63] := by kernel_rfl
@[simp] theorem k70_12 : ch.keep 70 12 = [2, 3, 4, 6, 7, 61, 62] := by kernel_rfl
@[simp] theorem k70_13 : ch.keep 70 13 = [2, 3, 4, 6, 8, 9, 61, 62] := by kernel_rfl
@[simp] theorem k70_14 : ch.keep 70 14 = [2, 3, 4, 6, 8, 61, 62, 80] := by kernel_rfl
@[simp] theorem k70_15 : ch.keep 70 15 = [4, 5] := by kernel_rfl
@[simp] theorem k70_16 : ch.keep 70 16 = [2, 3, 4, 6, 61, 62] := by kernel_rfl
@[simp] theorem k70_17 : ch.keep 70 17 = [2, 3, 4, 6, 61, 62] := by kernel_rfl
@[simp] theorem k70_18 : ch.keep 70 18 = [4, 5] := by kernel_rfl
@[simp] theorem fl70_9 : ch.fl 70 9 = [1, 1, 1, 1, 1, 13, 13, 13, 13, 13, 1, 12, 0, 0] := by kernel_rfl
@[simp] theorem fl70_13 : ch.fl 70 13 = [1001, 1001, 6, 1001, 1001, 1001, 1001, 6, 1001, 1001, 1000, 6, 6, 6, 2000, 2000, 0] := by kernel_rfl
noncomputable def code70 : Code := match Tryz.f70.body with | some c => c | none => .skip
noncomputable def lp70_0 : Code := match code70 with | .seq _ (.seq _ (.seq _ (.seq _ (.seq (.seq _ (.block _ (.loop c))) _)))) => c | c => c
theorem hd70_0 : ch.head 70 (firstR lp70_0) = [2, 3, 4, 6, 61, 62] := by kernel_rfl
theorem rs70 : Tryz.f70.results.toList = [.cell 4 25, .tmp 5] := rfl
theorem W70_of {args : List D} (ha : args.all (D.noRef 0 0) = true) (hl : args.length ≤ 90) {H : Hp} {o : Out × Hp}
    (h : alone H (fnOut Tryz.prog [.cell 4 25, .tmp 5] 0 0 (E false ⟨0, 0⟩ 70 code70 (mkF 0 args) H00)) = some o) : W 70 args H = some o :=
  W_of Tryz.func70 rfl (by kernel_rfl) rfl rfl rfl rfl rfl ha (by rw [Tryz.ntmps70]; exact hl) h
/-! ### f71: sward/kind.size -/
@[simp] theorem k71_0 : ch.keep 71 0 = [1] := by kernel_rfl
@[simp] theorem k71_1 : ch.keep 71 1 = [1, 4, 5] := by kernel_rfl
@[simp] theorem k71_2 : ch.keep 71 2 = [1, 4, 5, 11, 12, 13] := by kernel_rfl
@[simp] theorem k71_3 : ch.keep 71 3 = [1, 4, 5, 11, 12, 13, 14] := by kernel_rfl
@[simp] theorem k71_4 : ch.keep 71 4 = [1, 4, 5, 7, 11, 12, 13] := by kernel_rfl
@[simp] theorem k71_5 : ch.keep 71 5 = [1, 4, 5, 8, 9, 11, 12, 13] := by kernel_rfl
@[simp] theorem k71_6 : ch.keep 71 6 = [1, 4, 5, 8, 9, 11, 12, 13, 28] := by kernel_rfl
@[simp] theorem k71_7 : ch.keep 71 7 = [2, 3] := by kernel_rfl
@[simp] theorem k71_8 : ch.keep 71 8 = [1, 4, 5, 11, 12, 13] := by kernel_rfl
@[simp] theorem k71_9 : ch.keep 71 9 = [1, 4, 5, 11, 12, 13] := by kernel_rfl
@[simp] theorem k71_10 : ch.keep 71 10 = [1, 4, 5, 37] := by kernel_rfl
@[simp] theorem k71_11 : ch.keep 71 11 = [1, 4, 5, 37, 38] := by kernel_rfl
@[simp] theorem k71_12 : ch.keep 71 12 = [2, 3] := by kernel_rfl
@[simp] theorem k71_13 : ch.keep 71 13 = [1, 4, 5, 37, 40] := by kernel_rfl
@[simp] theorem k71_14 : ch.keep 71 14 = [2, 3] := by kernel_rfl
@[simp] theorem k71_15 : ch.keep 71 15 = [1, 4, 5, 46] := by kernel_rfl
@[simp] theorem k71_16 : ch.keep 71 16 = [1, 4, 5, 54] := by kernel_rfl
@[simp] theorem k71_17 : ch.keep 71 17 = [2, 3] := by kernel_rfl
@[simp] theorem k71_18 : ch.keep 71 18 = [2, 3] := by kernel_rfl
@[simp] theorem k71_19 : ch.keep 71 19 = [2, 3] := by kernel_rfl
noncomputable def code71 : Code := match Tryz.f71.body with | some c => c | none => .skip
noncomputable def lp71_0 : Code := match code71 with | .seq _ (.seq _ (.seq (.seq _ (.block _ (.loop c))) _)) => c | c => c
theorem hd71_0 : ch.head 71 (firstR lp71_0) = [1, 4, 5, 11, 12, 13] := by kernel_rfl
theorem rs71 : Tryz.f71.results.toList = [.tmp 2, .tmp 3] := rfl
theorem W71_of {args : List D} (ha : args.all (D.noRef 0 0) = true) (hl : args.length ≤ 63) {H : Hp} {o : Out × Hp}
    (h : alone H (fnOut Tryz.prog [.tmp 2, .tmp 3] 0 0 (E false ⟨0, 0⟩ 71 code71 (mkF 0 args) H00)) = some o) : W 71 args H = some o :=
  W_of Tryz.func71 rfl (by kernel_rfl) rfl rfl rfl rfl rfl ha (by rw [Tryz.ntmps71]; exact hl) h
/-! ### f72: sward/kind.count -/
@[simp] theorem k72_0 : ch.keep 72 0 = [1] := by kernel_rfl
@[simp] theorem k72_1 : ch.keep 72 1 = [1, 9] := by kernel_rfl
@[simp] theorem k72_2 : ch.keep 72 2 = [1, 9, 10] := by kernel_rfl
@[simp] theorem k72_3 : ch.keep 72 3 = [2] := by kernel_rfl
@[simp] theorem k72_4 : ch.keep 72 4 = [1, 9, 12] := by kernel_rfl
@[simp] theorem k72_5 : ch.keep 72 5 = [3] := by kernel_rfl
@[simp] theorem k72_6 : ch.keep 72 6 = [3, 21] := by kernel_rfl
@[simp] theorem k72_7 : ch.keep 72 7 = [2] := by kernel_rfl
@[simp] theorem k72_8 : ch.keep 72 8 = [2] := by kernel_rfl
@[simp] theorem k72_9 : ch.keep 72 9 = [1, 9, 23] := by kernel_rfl
@[simp] theorem k72_10 : ch.keep 72 10 = [2] := by kernel_rfl
@[simp] theorem k72_11 : ch.keep 72 11 = [1, 25] := by kernel_rfl
@[simp] theorem k72_12 : ch.keep 72 12 = [1, 4] := by kernel_rfl
@[simp] theorem k72_13 : ch.keep 72 13 = [4, 28, 29, 30] := by kernel_rfl
@[simp] theorem k72_14 : ch.keep 72 14 = [4, 28, 29, 30, 31] := by kernel_rfl
@[simp] theorem k72_15 : ch.keep 72 15 = [4, 6, 28, 29, 30] := by kernel_rfl
@[simp] theorem k72_16 : ch.keep 72 16 = [4, 7, 28, 29, 30] := by kernel_rfl
@[simp] theorem k72_17 : ch.keep 72 17 = [4, 7, 28, 29, 30, 37] := by kernel_rfl
@[simp] theorem k72_18 : ch.keep 72 18 = [2] := by kernel_rfl
@[simp] theorem k72_19 : ch.keep 72 19 = [4, 28, 29, 30] := by kernel_rfl
@[simp] theorem k72_20 : ch.keep 72 20 = [4, 28, 29, 30] := by kernel_rfl
@[simp] theorem k72_21 : ch.keep 72 21 = [2] := by kernel_rfl
@[simp] theorem k72_22 : ch.keep 72 22 = [2] := by kernel_rfl
noncomputable def code72 : Code := match Tryz.f72.body with | some c => c | none => .skip
noncomputable def lp72_0 : Code := match code72 with | .seq _ (.seq (.seq _ (.block _ (.seq _ (.cond _ _ (.seq _ (.cond _ _ (.seq _ (.cond _ _ (.seq _ (.cond _ (.seq _ (.seq (.seq _ (.block _ (.loop c))) _)) _)))))))))) _) => c | c => c
theorem hd72_0 : ch.head 72 (firstR lp72_0) = [4, 28, 29, 30] := by kernel_rfl
theorem rs72 : Tryz.f72.results.toList = [.tmp 2] := rfl
theorem W72_of {args : List D} (ha : args.all (D.noRef 0 0) = true) (hl : args.length ≤ 45) {H : Hp} {o : Out × Hp}
    (h : alone H (fnOut Tryz.prog [.tmp 2] 0 0 (E false ⟨0, 0⟩ 72 code72 (mkF 0 args) H00)) = some o) : W 72 args H = some o :=
  W_of Tryz.func72 rfl (by kernel_rfl) rfl rfl rfl rfl rfl ha (by rw [Tryz.ntmps72]; exact hl) h
/-! ### f82: sward/swardref05.empty -/
@[simp] theorem k82_0 : ch.keep 82 0 = [1] := by kernel_rfl
@[simp] theorem k82_1 : ch.keep 82 1 = [1, 3] := by kernel_rfl
@[simp] theorem k82_2 : ch.keep 82 2 = [1, 3, 10] := by kernel_rfl
@[simp] theorem k82_3 : ch.keep 82 3 = [1, 3] := by kernel_rfl
@[simp] theorem k82_4 : ch.keep 82 4 = [1, 3, 4, 5] := by kernel_rfl
@[simp] theorem k82_5 : ch.keep 82 5 = [1, 3, 26] := by kernel_rfl
@[simp] theorem k82_6 : ch.keep 82 6 = [2] := by kernel_rfl
@[simp] theorem k82_7 : ch.keep 82 7 = [2] := by kernel_rfl
noncomputable def code82 : Code := match Tryz.f82.body with | some c => c | none => .skip
noncomputable def lp82_0 : Code := match code82 with | .seq _ (.seq (.seq _ (.block _ (.loop c))) _) => c | c => c
theorem hd82_0 : ch.head 82 (firstR lp82_0) = [1, 3] := by kernel_rfl
theorem rs82 : Tryz.f82.results.toList = [.tmp 2] := rfl
theorem W82_of {args : List D} (ha : args.all (D.noRef 0 0) = true) (hl : args.length ≤ 27) {H : Hp} {o : Out × Hp}
    (h : alone H (fnOut Tryz.prog [.tmp 2] 0 0 (E false ⟨0, 0⟩ 82 code82 (mkF 0 args) H00)) = some o) : W 82 args H = some o :=
  W_of Tryz.func82 rfl (by kernel_rfl) rfl rfl rfl rfl rfl ha (by rw [Tryz.ntmps82]; exact hl) h
/-! ### f94: sward/syntax.CheckKind -/
@[simp] theorem k94_0 : ch.keep 94 0 = [1] := by kernel_rfl
@[simp] theorem k94_1 : ch.keep 94 1 = [2] := by kernel_rfl
noncomputable def code94 : Code := match Tryz.f94.body with | some c => c | none => .skip
theorem rs94 : Tryz.f94.results.toList = [.tmp 2] := rfl
theorem W94_of {args : List D} (ha : args.all (D.noRef 0 0) = true) (hl : args.length ≤ 6) {H : Hp} {o : Out × Hp}
    (h : alone H (fnOut Tryz.prog [.tmp 2] 0 0 (E false ⟨0, 0⟩ 94 code94 (mkF 0 args) H00)) = some o) : W 94 args H = some o :=
  W_of Tryz.func94 rfl (by kernel_rfl) rfl rfl rfl rfl rfl ha (by rw [Tryz.ntmps94]; exact hl) h
/-! ### f95: sward/value.valid -/
@[simp] theorem k95_0 : ch.keep 95 0 = [1] := by kernel_rfl
@[simp] theorem k95_1 : ch.keep 95 1 = [2] := by kernel_rfl
noncomputable def code95 : Code := match Tryz.f95.body with | some c => c | none => .skip
theorem rs95 : Tryz.f95.results.toList = [.tmp 2] := rfl
theorem W95_of {args : List D} (ha : args.all (D.noRef 0 0) = true) (hl : args.length ≤ 9) {H : Hp} {o : Out × Hp}
    (h : alone H (fnOut Tryz.prog [.tmp 2] 0 0 (E false ⟨0, 0⟩ 95 code95 (mkF 0 args) H00)) = some o) : W 95 args H = some o :=
  W_of Tryz.func95 rfl (by kernel_rfl) rfl rfl rfl rfl rfl ha (by rw [Tryz.ntmps95]; exact hl) h
/-! ### f96: slices.ContainsFunc[[]sward/api.Value,sward/api.Value] -/
@[simp] theorem k96_0 : ch.keep 96 0 = [0, 1] := by kernel_rfl
@[simp] theorem k96_1 : ch.keep 96 1 = [4] := by kernel_rfl
noncomputable def code96 : Code := match Tryz.f96.body with | some c => c | none => .skip
theorem rs96 : Tryz.f96.results.toList = [.tmp 4] := rfl
theorem W96_of {args : List D} (ha : args.all (D.noRef 0 0) = true) (hl : args.length ≤ 9) {H : Hp} {o : Out × Hp}
    (h : alone H (fnOut Tryz.prog [.tmp 4] 0 0 (E false ⟨0, 0⟩ 96 code96 (mkF 0 args) H00)) = some o) : W 96 args H = some o :=
  W_of Tryz.func96 rfl (by kernel_rfl) rfl rfl rfl rfl rfl ha (by rw [Tryz.ntmps96]; exact hl) h
/-! ### f97: sward/kind.is$1 -/
@[simp] theorem k97_0 : ch.keep 97 0 = [1, 2] := by kernel_rfl
@[simp] theorem k97_1 : ch.keep 97 1 = [3] := by kernel_rfl
@[simp] theorem fl97_1 : ch.fl 97 1 = [1, 1, 1, 1, 1, 0, 0, 0] := by kernel_rfl
noncomputable def code97 : Code := match Tryz.f97.body with | some c => c | none => .skip
theorem rs97 : Tryz.f97.results.toList = [.tmp 3] := rfl
theorem W97_of {args : List D} (ha : args.all (D.noRef 0 0) = true) (hl : args.length ≤ 11) {H : Hp} {o : Out × Hp}
    (h : alone H (fnOut Tryz.prog [.tmp 3] 0 0 (E false ⟨0, 0⟩ 97 code97 (mkF 0 args) H00)) = some o) : W 97 args H = some o :=
  W_of Tryz.func97 rfl (by kernel_rfl) rfl rfl rfl rfl rfl ha (by rw [Tryz.ntmps97]; exact hl) h
/-! ### f98: sward/kind.whole -/
@[simp] theorem k98_0 : ch.keep 98 0 = [0, 1, 4] := by kernel_rfl
@[simp] theorem k98_1 : ch.keep 98 1 = [4] := by kernel_rfl
noncomputable def code98 : Code := match Tryz.f98.body with | some c => c | none => .skip
theorem rs98 : Tryz.f98.results.toList = [.cell 4 25] := rfl
theorem W98_of {args : List D} (ha : args.all (D.noRef 0 0) = true) (hl : args.length ≤ 8) {H : Hp} {o : Out × Hp}
    (h : alone H (fnOut Tryz.prog [.cell 4 25] 0 0 (E false ⟨0, 0⟩ 98 code98 (mkF 0 args) H00)) = some o) : W 98 args H = some o :=
  W_of Tryz.func98 rfl (by kernel_rfl) rfl rfl rfl rfl rfl ha (by rw [Tryz.ntmps98]; exact hl) h
/-! ### f99: sward/kind.truth -/
@[simp] theorem k99_0 : ch.keep 99 0 = [0] := by kernel_rfl
@[simp] theorem k99_1 : ch.keep 99 1 = [0] := by kernel_rfl
noncomputable def code99 : Code := match Tryz.f99.body with | some c => c | none => .skip
theorem rs99 : Tryz.f99.results.toList = [.cell 0 25] := rfl
theorem W99_of {args : List D} (ha : args.all (D.noRef 0 0) = true) (hl : args.length ≤ 2) {H : Hp} {o : Out × Hp}
    (h : alone H (fnOut Tryz.prog [.cell 0 25] 0 0 (E false ⟨0, 0⟩ 99 code99 (mkF 0 args) H00)) = some o) : W 99 args H = some o :=
  W_of Tryz.func99 rfl (by kernel_rfl) rfl rfl rfl rfl rfl ha (by rw [Tryz.ntmps99]; exact hl) h
/-! ### f100: sward/kind.none -/
@[simp] theorem k100_0 : ch.keep 100 0 = [0] := by kernel_rfl
@[simp] theorem k100_1 : ch.keep 100 1 = [0] := by kernel_rfl
noncomputable def code100 : Code := match Tryz.f100.body with | some c => c | none => .skip
theorem rs100 : Tryz.f100.results.toList = [.cell 0 25] := rfl
theorem W100_of {args : List D} (ha : args.all (D.noRef 0 0) = true) (hl : args.length ≤ 2) {H : Hp} {o : Out × Hp}
    (h : alone H (fnOut Tryz.prog [.cell 0 25] 0 0 (E false ⟨0, 0⟩ 100 code100 (mkF 0 args) H00)) = some o) : W 100 args H = some o :=
  W_of Tryz.func100 rfl (by kernel_rfl) rfl rfl rfl rfl rfl ha (by rw [Tryz.ntmps100]; exact hl) h
/-! ### f101: sward/kind.setOf -/
@[simp] theorem k101_0 : ch.keep 101 0 = [0, 3, 4] := by kernel_rfl
@[simp] theorem k101_1 : ch.keep 101 1 = [4] := by kernel_rfl
noncomputable def code101 : Code := match Tryz.f101.body with | some c => c | none => .skip
theorem rs101 : Tryz.f101.results.toList = [.cell 4 25] := rfl
theorem W101_of {args : List D} (ha : args.all (D.noRef 0 0) = true) (hl : args.length ≤ 9) {H : Hp} {o : Out × Hp}
    (h : alone H (fnOut Tryz.prog [.cell 4 25] 0 0 (E false ⟨0, 0⟩ 101 code101 (mkF 0 args) H00)) = some o) : W 101 args H = some o :=
  W_of Tryz.func101 rfl (by kernel_rfl) rfl rfl rfl rfl rfl ha (by rw [Tryz.ntmps101]; exact hl) h
/-! ### f102: sward/swardref01.in -/
@[simp] theorem k102_0 : ch.keep 102 0 = [0, 1, 2] := by kernel_rfl
@[simp] theorem k102_1 : ch.keep 102 1 = [6] := by kernel_rfl
noncomputable def code102 : Code := match Tryz.f102.body with | some c => c | none => .skip
theorem rs102 : Tryz.f102.results.toList = [.tmp 6] := rfl
theorem W102_of {args : List D} (ha : args.all (D.noRef 0 0) = true) (hl : args.length ≤ 15) {H : Hp} {o : Out × Hp}
    (h : alone H (fnOut Tryz.prog [.tmp 6] 0 0 (E false ⟨0, 0⟩ 102 code102 (mkF 0 args) H00)) = some o) : W 102 args H = some o :=
  W_of Tryz.func102 rfl (by kernel_rfl) rfl rfl rfl rfl rfl ha (by rw [Tryz.ntmps102]; exact hl) h
/-! ### f103: sward/swardref01.letters -/
@[simp] theorem k103_0 : ch.keep 103 0 = [0] := by kernel_rfl
@[simp] theorem k103_1 : ch.keep 103 1 = [0, 3] := by kernel_rfl
@[simp] theorem k103_2 : ch.keep 103 2 = [0, 3, 7] := by kernel_rfl
@[simp] theorem k103_3 : ch.keep 103 3 = [0, 3] := by kernel_rfl
@[simp] theorem k103_4 : ch.keep 103 4 = [0, 3, 31] := by kernel_rfl
@[simp] theorem k103_5 : ch.keep 103 5 = [2] := by kernel_rfl
@[simp] theorem k103_6 : ch.keep 103 6 = [2] := by kernel_rfl
noncomputable def code103 : Code := match Tryz.f103.body with | some c => c | none => .skip
noncomputable def lp103_0 : Code := match code103 with | .seq _ (.seq (.seq _ (.block _ (.loop c))) _) => c | c => c
theorem hd103_0 : ch.head 103 (firstR lp103_0) = [0, 3] := by kernel_rfl
theorem rs103 : Tryz.f103.results.toList = [.tmp 2] := rfl
theorem W103_of {args : List D} (ha : args.all (D.noRef 0 0) = true) (hl : args.length ≤ 35) {H : Hp} {o : Out × Hp}
    (h : alone H (fnOut Tryz.prog [.tmp 2] 0 0 (E false ⟨0, 0⟩ 103 code103 (mkF 0 args) H00)) = some o) : W 103 args H = some o :=
  W_of Tryz.func103 rfl (by kernel_rfl) rfl rfl rfl rfl rfl ha (by rw [Tryz.ntmps103]; exact hl) h
/-! ### f104: sward/swardref01.Compare -/
@[simp] theorem k104_0 : ch.keep 104 0 = [2, 3] := by kernel_rfl
@[simp] theorem k104_1 : ch.keep 104 1 = [2, 3, 11] := by kernel_rfl
@[simp] theorem k104_2 : ch.keep 104 2 = [4] := by kernel_rfl
@[simp] theorem k104_3 : ch.keep 104 3 = [2, 3, 19] := by kernel_rfl
@[simp] theorem k104_4 : ch.keep 104 4 = [2, 3, 24] := by kernel_rfl
@[simp] theorem k104_5 : ch.keep 104 5 = [4] := by kernel_rfl
@[simp] theorem k104_6 : ch.keep 104 6 = [29] := by kernel_rfl
@[simp] theorem k104_7 : ch.keep 104 7 = [4] := by kernel_rfl
@[simp] theorem k104_8 : ch.keep 104 8 = [4] := by kernel_rfl
@[simp] theorem k104_9 : ch.keep 104 9 = [2, 3, 46] := by kernel_rfl
@[simp] theorem k104_10 : ch.keep 104 10 = [4] := by kernel_rfl
@[simp] theorem k104_11 : ch.keep 104 11 = [2, 3, 5] := by kernel_rfl
@[simp] theorem k104_12 : ch.keep 104 12 = [2, 3, 5, 64] := by kernel_rfl
@[simp] theorem k104_13 : ch.keep 104 13 = [2, 3, 5] := by kernel_rfl
@[simp] theorem k104_14 : ch.keep 104 14 = [2, 3, 5, 6] := by kernel_rfl
@[simp] theorem k104_15 : ch.keep 104 15 = [2, 3, 5, 6, 79] := by kernel_rfl
@[simp] theorem k104_16 : ch.keep 104 16 = [4] := by kernel_rfl
@[simp] theorem k104_17 : ch.keep 104 17 = [4] := by kernel_rfl
@[simp] theorem fl104_10 : ch.fl 104 10 = [1, 1, 1, 1, 1, 1, 1, 1, 1, 1, 1, 0, 0, 0] := by kernel_rfl
@[simp] theorem fl104_14 : ch.fl 104 14 = [1, 1, 1, 1, 1, 1, 1, 1, 1, 1, 0, 0] := by kernel_rfl
noncomputable def code104 : Code := match Tryz.f104.body with | some c => c | none => .skip
noncomputable def lp104_0 : Code := match code104 with | .seq _ (.seq _ (.seq _ (.seq _ (.seq (.seq _ (.block _ (.loop c))) _)))) => c | c => c
theorem hd104_0 : ch.head 104 (firstR lp104_0) = [2, 3, 5] := by kernel_rfl
theorem rs104 : Tryz.f104.results.toList = [.tmp 4] := rfl
theorem W104_of {args : List D} (ha : args.all (D.noRef 0 0) = true) (hl : args.length ≤ 81) {H : Hp} {o : Out × Hp}
    (h : alone H (fnOut Tryz.prog [.tmp 4] 0 0 (E false ⟨0, 0⟩ 104 code104 (mkF 0 args) H00)) = some o) : W 104 args H = some o :=
  W_of Tryz.func104 rfl (by kernel_rfl) rfl rfl rfl rfl rfl ha (by rw [Tryz.ntmps104]; exact hl) h
/-! ### f105: sward/swardref05.None -/
@[simp] theorem k105_0 : ch.keep 105 0 = [0] := by kernel_rfl
@[simp] theorem k105_1 : ch.keep 105 1 = [0] := by kernel_rfl
noncomputable def code105 : Code := match Tryz.f105.body with | some c => c | none => .skip
theorem rs105 : Tryz.f105.results.toList = [.cell 0 25] := rfl
theorem W105_of {args : List D} (ha : args.all (D.noRef 0 0) = true) (hl : args.length ≤ 2) {H : Hp} {o : Out × Hp}
    (h : alone H (fnOut Tryz.prog [.cell 0 25] 0 0 (E false ⟨0, 0⟩ 105 code105 (mkF 0 args) H00)) = some o) : W 105 args H = some o :=
  W_of Tryz.func105 rfl (by kernel_rfl) rfl rfl rfl rfl rfl ha (by rw [Tryz.ntmps105]; exact hl) h
/-! ### f106: sward/swardref05.plain -/
@[simp] theorem k106_0 : ch.keep 106 0 = [1] := by kernel_rfl
@[simp] theorem k106_1 : ch.keep 106 1 = [2] := by kernel_rfl
noncomputable def code106 : Code := match Tryz.f106.body with | some c => c | none => .skip
theorem rs106 : Tryz.f106.results.toList = [.tmp 2] := rfl
theorem W106_of {args : List D} (ha : args.all (D.noRef 0 0) = true) (hl : args.length ≤ 16) {H : Hp} {o : Out × Hp}
    (h : alone H (fnOut Tryz.prog [.tmp 2] 0 0 (E false ⟨0, 0⟩ 106 code106 (mkF 0 args) H00)) = some o) : W 106 args H = some o :=
  W_of Tryz.func106 rfl (by kernel_rfl) rfl rfl rfl rfl rfl ha (by rw [Tryz.ntmps106]; exact hl) h
/-! ### f107: sward/kind.product -/
@[simp] theorem k107_0 : ch.keep 107 0 = [0] := by kernel_rfl
@[simp] theorem k107_1 : ch.keep 107 1 = [0, 7] := by kernel_rfl
@[simp] theorem k107_2 : ch.keep 107 2 = [2] := by kernel_rfl
@[simp] theorem k107_3 : ch.keep 107 3 = [0, 3] := by kernel_rfl
@[simp] theorem k107_4 : ch.keep 107 4 = [3, 8, 9, 10] := by kernel_rfl
@[simp] theorem k107_5 : ch.keep 107 5 = [3, 8, 9, 10, 11] := by kernel_rfl
@[simp] theorem k107_6 : ch.keep 107 6 = [3, 5, 8, 9, 10] := by kernel_rfl
@[simp] theorem k107_7 : ch.keep 107 7 = [3, 5, 8, 9, 10, 17] := by kernel_rfl
@[simp] theorem k107_8 : ch.keep 107 8 = [2] := by kernel_rfl
@[simp] theorem k107_9 : ch.keep 107 9 = [3, 8, 9, 10] := by kernel_rfl
@[simp] theorem k107_10 : ch.keep 107 10 = [3, 8, 9, 10] := by kernel_rfl
@[simp] theorem k107_11 : ch.keep 107 11 = [2] := by kernel_rfl
noncomputable def code107 : Code := match Tryz.f107.body with | some c => c | none => .skip
noncomputable def lp107_0 : Code := match code107 with | .seq _ (.seq _ (.seq _ (.seq (.seq _ (.block _ (.loop c))) _))) => c | c => c
theorem hd107_0 : ch.head 107 (firstR lp107_0) = [3, 8, 9, 10] := by kernel_rfl
theorem rs107 : Tryz.f107.results.toList = [.tmp 2] := rfl
theorem W107_of {args : List D} (ha : args.all (D.noRef 0 0) = true) (hl : args.length ≤ 23) {H : Hp} {o : Out × Hp}
    (h : alone H (fnOut Tryz.prog [.tmp 2] 0 0 (E false ⟨0, 0⟩ 107 code107 (mkF 0 args) H00)) = some o) : W 107 args H = some o :=
  W_of Tryz.func107 rfl (by kernel_rfl) rfl rfl rfl rfl rfl ha (by rw [Tryz.ntmps107]; exact hl) h
/-! ### f108: sward/syntax.refused -/
@[simp] theorem k108_0 : ch.keep 108 0 = [0] := by kernel_rfl
@[simp] theorem k108_1 : ch.keep 108 1 = [3] := by kernel_rfl
@[simp] theorem k108_2 : ch.keep 108 2 = [2] := by kernel_rfl
@[simp] theorem k108_3 : ch.keep 108 3 = [2] := by kernel_rfl
noncomputable def code108 : Code := match Tryz.f108.body with | some c => c | none => .skip
theorem rs108 : Tryz.f108.results.toList = [.tmp 2] := rfl
theorem W108_of {args : List D} (ha : args.all (D.noRef 0 0) = true) (hl : args.length ≤ 4) {H : Hp} {o : Out × Hp}
    (h : alone H (fnOut Tryz.prog [.tmp 2] 0 0 (E false ⟨0, 0⟩ 108 code108 (mkF 0 args) H00)) = some o) : W 108 args H = some o :=
  W_of Tryz.func108 rfl (by kernel_rfl) rfl rfl rfl rfl rfl ha (by rw [Tryz.ntmps108]; exact hl) h
/-! ### f141: sward/syntax.isKind -/
@[simp] theorem k141_0 : ch.keep 141 0 = [1] := by kernel_rfl
@[simp] theorem k141_1 : ch.keep 141 1 = [2] := by kernel_rfl
noncomputable def code141 : Code := match Tryz.f141.body with | some c => c | none => .skip
theorem rs141 : Tryz.f141.results.toList = [.tmp 2] := rfl
theorem W141_of {args : List D} (ha : args.all (D.noRef 0 0) = true) (hl : args.length ≤ 10) {H : Hp} {o : Out × Hp}
    (h : alone H (fnOut Tryz.prog [.tmp 2] 0 0 (E false ⟨0, 0⟩ 141 code141 (mkF 0 args) H00)) = some o) : W 141 args H = some o :=
  W_of Tryz.func141 rfl (by kernel_rfl) rfl rfl rfl rfl rfl ha (by rw [Tryz.ntmps141]; exact hl) h
/-! ### f142: sward/value.fits -/
@[simp] theorem k142_0 : ch.keep 142 0 = [1] := by kernel_rfl
@[simp] theorem k142_1 : ch.keep 142 1 = [3] := by kernel_rfl
@[simp] theorem k142_2 : ch.keep 142 2 = [2] := by kernel_rfl
noncomputable def code142 : Code := match Tryz.f142.body with | some c => c | none => .skip
theorem rs142 : Tryz.f142.results.toList = [.tmp 2] := rfl
theorem W142_of {args : List D} (ha : args.all (D.noRef 0 0) = true) (hl : args.length ≤ 14) {H : Hp} {o : Out × Hp}
    (h : alone H (fnOut Tryz.prog [.tmp 2] 0 0 (E false ⟨0, 0⟩ 142 code142 (mkF 0 args) H00)) = some o) : W 142 args H = some o :=
  W_of Tryz.func142 rfl (by kernel_rfl) rfl rfl rfl rfl rfl ha (by rw [Tryz.ntmps142]; exact hl) h
/-! ### f143: sward/value.shaped -/
@[simp] theorem k143_0 : ch.keep 143 0 = [1] := by kernel_rfl
@[simp] theorem k143_1 : ch.keep 143 1 = [3] := by kernel_rfl
@[simp] theorem k143_2 : ch.keep 143 2 = [3, 14] := by kernel_rfl
@[simp] theorem k143_3 : ch.keep 143 3 = [2] := by kernel_rfl
@[simp] theorem k143_4 : ch.keep 143 4 = [15] := by kernel_rfl
@[simp] theorem k143_5 : ch.keep 143 5 = [15, 17, 18] := by kernel_rfl
@[simp] theorem k143_6 : ch.keep 143 6 = [4] := by kernel_rfl
@[simp] theorem k143_7 : ch.keep 143 7 = [2] := by kernel_rfl
@[simp] theorem k143_8 : ch.keep 143 8 = [15, 23, 24] := by kernel_rfl
@[simp] theorem k143_9 : ch.keep 143 9 = [5] := by kernel_rfl
@[simp] theorem k143_10 : ch.keep 143 10 = [2] := by kernel_rfl
@[simp] theorem k143_11 : ch.keep 143 11 = [15, 29, 30] := by kernel_rfl
@[simp] theorem k143_12 : ch.keep 143 12 = [6] := by kernel_rfl
@[simp] theorem k143_13 : ch.keep 143 13 = [2] := by kernel_rfl
@[simp] theorem k143_14 : ch.keep 143 14 = [15, 35, 36] := by kernel_rfl
@[simp] theorem k143_15 : ch.keep 143 15 = [7] := by kernel_rfl
@[simp] theorem k143_16 : ch.keep 143 16 = [2] := by kernel_rfl
@[simp] theorem k143_17 : ch.keep 143 17 = [42, 43] := by kernel_rfl
@[simp] theorem k143_18 : ch.keep 143 18 = [8] := by kernel_rfl
@[simp] theorem k143_19 : ch.keep 143 19 = [8, 9] := by kernel_rfl
@[simp] theorem k143_20 : ch.keep 143 20 = [8, 9, 48] := by kernel_rfl
@[simp] theorem k143_21 : ch.keep 143 21 = [8, 9] := by kernel_rfl
@[simp] theorem k143_22 : ch.keep 143 22 = [8, 9, 63] := by kernel_rfl
@[simp] theorem k143_23 : ch.keep 143 23 = [2] := by kernel_rfl
@[simp] theorem k143_24 : ch.keep 143 24 = [2] := by kernel_rfl
@[simp] theorem k143_25 : ch.keep 143 25 = [2] := by kernel_rfl
@[simp] theorem fl143_22 : ch.fl 143 22 = [1, 1, 1, 1, 1, 1, 1, 1, 1, 1, 1, 0, 0] := by kernel_rfl
noncomputable def code143 : Code := match Tryz.f143.body with | some c => c | none => .skip
noncomputable def lp143_0 : Code := match code143 with | .seq _ (.seq _ (.seq _ (.seq (.seq _ (.block _ (.seq _ (.cond _ _ (.seq _ (.cond _ _ (.seq _ (.cond _ _ (.seq _ (.cond _ _ (.seq _ (.cond _ (.seq _ (.seq (.seq _ (.block _ (.loop c))) _)) _)))))))))))) _))) => c | c => c
theorem hd143_0 : ch.head 143 (firstR lp143_0) = [8, 9] := by kernel_rfl
theorem rs143 : Tryz.f143.results.toList = [.tmp 2] := rfl
theorem W143_of {args : List D} (ha : args.all (D.noRef 0 0) = true) (hl : args.length ≤ 64) {H : Hp} {o : Out × Hp}
    (h : alone H (fnOut Tryz.prog [.tmp 2] 0 0 (E false ⟨0, 0⟩ 143 code143 (mkF 0 args) H00)) = some o) : W 143 args H = some o :=
  W_of Tryz.func143 rfl (by kernel_rfl) rfl rfl rfl rfl rfl ha (by rw [Tryz.ntmps143]; exact hl) h
/-! ### f144: slices.IndexFunc[[]sward/api.Value,sward/api.Value] -/
@[simp] theorem k144_0 : ch.keep 144 0 = [0, 1] := by kernel_rfl
@[simp] theorem k144_1 : ch.keep 144 1 = [0, 1, 7, 8] := by kernel_rfl
@[simp] theorem k144_2 : ch.keep 144 2 = [0, 1, 7, 8, 9] := by kernel_rfl
@[simp] theorem k144_3 : ch.keep 144 3 = [0, 1, 5, 7, 8] := by kernel_rfl
@[simp] theorem k144_4 : ch.keep 144 4 = [0, 1, 5, 7, 8, 16] := by kernel_rfl
@[simp] theorem k144_5 : ch.keep 144 5 = [4] := by kernel_rfl
@[simp] theorem k144_6 : ch.keep 144 6 = [0, 1, 7, 8] := by kernel_rfl
@[simp] theorem k144_7 : ch.keep 144 7 = [4] := by kernel_rfl
noncomputable def code144 : Code := match Tryz.f144.body with | some c => c | none => .skip
noncomputable def lp144_0 : Code := match code144 with | .seq _ (.seq (.seq _ (.block _ (.loop c))) _) => c | c => c
theorem hd144_0 : ch.head 144 (firstR lp144_0) = [0, 1, 7, 8] := by kernel_rfl
theorem rs144 : Tryz.f144.results.toList = [.tmp 4] := rfl
theorem W144_of {args : List D} (ha : args.all (D.noRef 0 0) = true) (hl : args.length ≤ 19) {H : Hp} {o : Out × Hp}
    (h : alone H (fnOut Tryz.prog [.tmp 4] 0 0 (E false ⟨0, 0⟩ 144 code144 (mkF 0 args) H00)) = some o) : W 144 args H = some o :=
  W_of Tryz.func144 rfl (by kernel_rfl) rfl rfl rfl rfl rfl ha (by rw [Tryz.ntmps144]; exact hl) h
/-! ### f145: sward/swardref01.order -/
@[simp] theorem k145_0 : ch.keep 145 0 = [0, 1] := by kernel_rfl
@[simp] theorem k145_1 : ch.keep 145 1 = [0, 1, 7] := by kernel_rfl
@[simp] theorem k145_2 : ch.keep 145 2 = [4] := by kernel_rfl
@[simp] theorem k145_3 : ch.keep 145 3 = [10] := by kernel_rfl
@[simp] theorem k145_4 : ch.keep 145 4 = [4] := by kernel_rfl
@[simp] theorem k145_5 : ch.keep 145 5 = [4] := by kernel_rfl
noncomputable def code145 : Code := match Tryz.f145.body with | some c => c | none => .skip
theorem rs145 : Tryz.f145.results.toList = [.tmp 4] := rfl
theorem W145_of {args : List D} (ha : args.all (D.noRef 0 0) = true) (hl : args.length ≤ 11) {H : Hp} {o : Out × Hp}
    (h : alone H (fnOut Tryz.prog [.tmp 4] 0 0 (E false ⟨0, 0⟩ 145 code145 (mkF 0 args) H00)) = some o) : W 145 args H = some o :=
  W_of Tryz.func145 rfl (by kernel_rfl) rfl rfl rfl rfl rfl ha (by rw [Tryz.ntmps145]; exact hl) h
/-! ### f146: slices.Contains[[]int,int] -/
@[simp] theorem k146_0 : ch.keep 146 0 = [0, 1] := by kernel_rfl
@[simp] theorem k146_1 : ch.keep 146 1 = [4] := by kernel_rfl
noncomputable def code146 : Code := match Tryz.f146.body with | some c => c | none => .skip
theorem rs146 : Tryz.f146.results.toList = [.tmp 4] := rfl
theorem W146_of {args : List D} (ha : args.all (D.noRef 0 0) = true) (hl : args.length ≤ 9) {H : Hp} {o : Out × Hp}
    (h : alone H (fnOut Tryz.prog [.tmp 4] 0 0 (E false ⟨0, 0⟩ 146 code146 (mkF 0 args) H00)) = some o) : W 146 args H = some o :=
  W_of Tryz.func146 rfl (by kernel_rfl) rfl rfl rfl rfl rfl ha (by rw [Tryz.ntmps146]; exact hl) h
/-! ### f176: sward/syntax.kindNodes -/
@[simp] theorem k176_0 : ch.keep 176 0 = [1, 2, 3] := by kernel_rfl
@[simp] theorem k176_1 : ch.keep 176 1 = [1, 2, 3, 14] := by kernel_rfl
@[simp] theorem k176_2 : ch.keep 176 2 = [6] := by kernel_rfl
@[simp] theorem k176_3 : ch.keep 176 3 = [1, 2, 3] := by kernel_rfl
@[simp] theorem k176_4 : ch.keep 176 4 = [1, 2, 18, 19, 20] := by kernel_rfl
@[simp] theorem k176_5 : ch.keep 176 5 = [1, 2, 18, 19, 20, 21] := by kernel_rfl
@[simp] theorem k176_6 : ch.keep 176 6 = [1, 2, 8, 18, 19, 20] := by kernel_rfl
@[simp] theorem k176_7 : ch.keep 176 7 = [1, 2, 18, 19, 20] := by kernel_rfl
@[simp] theorem k176_8 : ch.keep 176 8 = [1, 2, 18, 19, 20, 30] := by kernel_rfl
@[simp] theorem k176_9 : ch.keep 176 9 = [6] := by kernel_rfl
@[simp] theorem k176_10 : ch.keep 176 10 = [1, 2, 18, 19, 20] := by kernel_rfl
@[simp] theorem k176_11 : ch.keep 176 11 = [6] := by kernel_rfl
noncomputable def code176 : Code := match Tryz.f176.body with | some c => c | none => .skip
noncomputable def lp176_0 : Code := match code176 with | .seq _ (.seq _ (.seq _ (.seq (.seq _ (.block _ (.loop c))) _))) => c | c => c
theorem hd176_0 : ch.head 176 (firstR lp176_0) = [1, 2, 18, 19, 20] := by kernel_rfl
theorem rs176 : Tryz.f176.results.toList = [.tmp 6] := rfl
theorem W176_of {args : List D} (ha : args.all (D.noRef 0 0) = true) (hl : args.length ≤ 33) {H : Hp} {o : Out × Hp}
    (h : alone H (fnOut Tryz.prog [.tmp 6] 0 0 (E false ⟨0, 0⟩ 176 code176 (mkF 0 args) H00)) = some o) : W 176 args H = some o :=
  W_of Tryz.func176 rfl (by kernel_rfl) rfl rfl rfl rfl rfl ha (by rw [Tryz.ntmps176]; exact hl) h
/-! ### f177: sward/syntax.isForm -/
@[simp] theorem k177_0 : ch.keep 177 0 = [1] := by kernel_rfl
@[simp] theorem k177_1 : ch.keep 177 1 = [1, 3] := by kernel_rfl
@[simp] theorem k177_2 : ch.keep 177 2 = [1, 3, 19] := by kernel_rfl
@[simp] theorem k177_3 : ch.keep 177 3 = [2] := by kernel_rfl
@[simp] theorem k177_4 : ch.keep 177 4 = [1, 3, 21] := by kernel_rfl
@[simp] theorem k177_5 : ch.keep 177 5 = [1, 3, 21, 22] := by kernel_rfl
@[simp] theorem k177_6 : ch.keep 177 6 = [1, 3, 21, 22] := by kernel_rfl
@[simp] theorem k177_7 : ch.keep 177 7 = [1, 3, 21, 22] := by kernel_rfl
@[simp] theorem k177_8 : ch.keep 177 8 = [2] := by kernel_rfl
@[simp] theorem k177_9 : ch.keep 177 9 = [1, 3, 21, 33] := by kernel_rfl
@[simp] theorem k177_10 : ch.keep 177 10 = [2] := by kernel_rfl
@[simp] theorem k177_11 : ch.keep 177 11 = [1, 3, 21, 61] := by kernel_rfl
@[simp] theorem k177_12 : ch.keep 177 12 = [2] := by kernel_rfl
@[simp] theorem k177_13 : ch.keep 177 13 = [1, 70] := by kernel_rfl
@[simp] theorem k177_14 : ch.keep 177 14 = [2] := by kernel_rfl
@[simp] theorem k177_15 : ch.keep 177 15 = [2] := by kernel_rfl
noncomputable def code177 : Code := match Tryz.f177.body with | some c => c | none => .skip
theorem rs177 : Tryz.f177.results.toList = [.tmp 2] := rfl
theorem W177_of {args : List D} (ha : args.all (D.noRef 0 0) = true) (hl : args.length ≤ 91) {H : Hp} {o : Out × Hp}
    (h : alone H (fnOut Tryz.prog [.tmp 2] 0 0 (E false ⟨0, 0⟩ 177 code177 (mkF 0 args) H00)) = some o) : W 177 args H = some o :=
  W_of Tryz.func177 rfl (by kernel_rfl) rfl rfl rfl rfl rfl ha (by rw [Tryz.ntmps177]; exact hl) h
/-! ### f178: sward/value.weigh -/
@[simp] theorem k178_0 : ch.keep 178 0 = [1, 2, 3, 6] := by kernel_rfl
@[simp] theorem k178_1 : ch.keep 178 1 = [1, 2, 3, 6, 7] := by kernel_rfl
@[simp] theorem k178_2 : ch.keep 178 2 = [1, 2, 3, 6, 7, 17] := by kernel_rfl
@[simp] theorem k178_3 : ch.keep 178 3 = [6] := by kernel_rfl
@[simp] theorem k178_4 : ch.keep 178 4 = [1, 2, 6, 7, 24, 25, 26] := by kernel_rfl
@[simp] theorem k178_5 : ch.keep 178 5 = [1, 2, 6, 7, 24, 25, 26, 27] := by kernel_rfl
@[simp] theorem k178_6 : ch.keep 178 6 = [1, 2, 6, 7, 9, 24, 25, 26] := by kernel_rfl
@[simp] theorem k178_7 : ch.keep 178 7 = [1, 2, 6, 7, 10, 24, 25, 26] := by kernel_rfl
@[simp] theorem k178_8 : ch.keep 178 8 = [1, 2, 6, 7, 24, 25, 26] := by kernel_rfl
@[simp] theorem k178_9 : ch.keep 178 9 = [1, 2, 6, 7, 24, 25, 26, 52] := by kernel_rfl
@[simp] theorem k178_10 : ch.keep 178 10 = [6] := by kernel_rfl
@[simp] theorem k178_11 : ch.keep 178 11 = [1, 2, 6, 7, 24, 25, 26] := by kernel_rfl
@[simp] theorem k178_12 : ch.keep 178 12 = [6] := by kernel_rfl
noncomputable def code178 : Code := match Tryz.f178.body with | some c => c | none => .skip
noncomputable def lp178_0 : Code := match code178 with | .seq _ (.seq _ (.seq _ (.seq (.seq _ (.block _ (.loop c))) _))) => c | c => c
theorem hd178_0 : ch.head 178 (firstR lp178_0) = [1, 2, 6, 7, 24, 25, 26] := by kernel_rfl
theorem rs178 : Tryz.f178.results.toList = [.cell 6 193] := rfl
theorem W178_of {args : List D} (ha : args.all (D.noRef 0 0) = true) (hl : args.length ≤ 65) {H : Hp} {o : Out × Hp}
    (h : alone H (fnOut Tryz.prog [.cell 6 193] 0 0 (E false ⟨0, 0⟩ 178 code178 (mkF 0 args) H00)) = some o) : W 178 args H = some o :=
  W_of Tryz.func178 rfl (by kernel_rfl) rfl rfl rfl rfl rfl ha (by rw [Tryz.ntmps178]; exact hl) h
/-! ### f179: sward/value.of -/
@[simp] theorem k179_0 : ch.keep 179 0 = [1] := by kernel_rfl
@[simp] theorem k179_1 : ch.keep 179 1 = [1, 3] := by kernel_rfl
@[simp] theorem k179_2 : ch.keep 179 2 = [2] := by kernel_rfl
@[simp] theorem k179_3 : ch.keep 179 3 = [1, 22] := by kernel_rfl
@[simp] theorem k179_4 : ch.keep 179 4 = [2] := by kernel_rfl
@[simp] theorem k179_5 : ch.keep 179 5 = [1, 41] := by kernel_rfl
@[simp] theorem k179_6 : ch.keep 179 6 = [2] := by kernel_rfl
@[simp] theorem k179_7 : ch.keep 179 7 = [1, 60] := by kernel_rfl
@[simp] theorem k179_8 : ch.keep 179 8 = [2] := by kernel_rfl
@[simp] theorem k179_9 : ch.keep 179 9 = [1, 78] := by kernel_rfl
@[simp] theorem k179_10 : ch.keep 179 10 = [2] := by kernel_rfl
@[simp] theorem k179_11 : ch.keep 179 11 = [2] := by kernel_rfl
noncomputable def code179 : Code := match Tryz.f179.body with | some c => c | none => .skip
theorem rs179 : Tryz.f179.results.toList = [.tmp 2] := rfl
theorem W179_of {args : List D} (ha : args.all (D.noRef 0 0) = true) (hl : args.length ≤ 98) {H : Hp} {o : Out × Hp}
    (h : alone H (fnOut Tryz.prog [.tmp 2] 0 0 (E false ⟨0, 0⟩ 179 code179 (mkF 0 args) H00)) = some o) : W 179 args H = some o :=
  W_of Tryz.func179 rfl (by kernel_rfl) rfl rfl rfl rfl rfl ha (by rw [Tryz.ntmps179]; exact hl) h
/-! ### f180: sward/value.shaped$1 -/
@[simp] theorem k180_0 : ch.keep 180 0 = [1] := by kernel_rfl
@[simp] theorem k180_1 : ch.keep 180 1 = [2] := by kernel_rfl
noncomputable def code180 : Code := match Tryz.f180.body with | some c => c | none => .skip
theorem rs180 : Tryz.f180.results.toList = [.tmp 2] := rfl
theorem W180_of {args : List D} (ha : args.all (D.noRef 0 0) = true) (hl : args.length ≤ 6) {H : Hp} {o : Out × Hp}
    (h : alone H (fnOut Tryz.prog [.tmp 2] 0 0 (E false ⟨0, 0⟩ 180 code180 (mkF 0 args) H00)) = some o) : W 180 args H = some o :=
  W_of Tryz.func180 rfl (by kernel_rfl) rfl rfl rfl rfl rfl ha (by rw [Tryz.ntmps180]; exact hl) h
/-! ### f181: sward/value.in -/
@[simp] theorem k181_0 : ch.keep 181 0 = [0, 1, 2] := by kernel_rfl
@[simp] theorem k181_1 : ch.keep 181 1 = [6] := by kernel_rfl
noncomputable def code181 : Code := match Tryz.f181.body with | some c => c | none => .skip
theorem rs181 : Tryz.f181.results.toList = [.tmp 6] := rfl
theorem W181_of {args : List D} (ha : args.all (D.noRef 0 0) = true) (hl : args.length ≤ 15) {H : Hp} {o : Out × Hp}
    (h : alone H (fnOut Tryz.prog [.tmp 6] 0 0 (E false ⟨0, 0⟩ 181 code181 (mkF 0 args) H00)) = some o) : W 181 args H = some o :=
  W_of Tryz.func181 rfl (by kernel_rfl) rfl rfl rfl rfl rfl ha (by rw [Tryz.ntmps181]; exact hl) h
/-! ### f182: sward/value.spelled -/
@[simp] theorem k182_0 : ch.keep 182 0 = [0] := by kernel_rfl
@[simp] theorem k182_1 : ch.keep 182 1 = [0, 6] := by kernel_rfl
@[simp] theorem k182_2 : ch.keep 182 2 = [0, 6, 7, 8] := by kernel_rfl
@[simp] theorem k182_3 : ch.keep 182 3 = [0, 4, 6] := by kernel_rfl
@[simp] theorem k182_4 : ch.keep 182 4 = [0, 6, 23] := by kernel_rfl
@[simp] theorem k182_5 : ch.keep 182 5 = [2] := by kernel_rfl
@[simp] theorem k182_6 : ch.keep 182 6 = [2] := by kernel_rfl
noncomputable def code182 : Code := match Tryz.f182.body with | some c => c | none => .skip
noncomputable def lp182_0 : Code := match code182 with | .seq _ (.seq (.seq _ (.block _ (.loop c))) _) => c | c => c
theorem hd182_0 : ch.head 182 (firstR lp182_0) = [0, 6] := by kernel_rfl
theorem rs182 : Tryz.f182.results.toList = [.tmp 2] := rfl
theorem W182_of {args : List D} (ha : args.all (D.noRef 0 0) = true) (hl : args.length ≤ 27) {H : Hp} {o : Out × Hp}
    (h : alone H (fnOut Tryz.prog [.tmp 2] 0 0 (E false ⟨0, 0⟩ 182 code182 (mkF 0 args) H00)) = some o) : W 182 args H = some o :=
  W_of Tryz.func182 rfl (by kernel_rfl) rfl rfl rfl rfl rfl ha (by rw [Tryz.ntmps182]; exact hl) h
/-! ### f183: sward/value.compare -/
@[simp] theorem k183_0 : ch.keep 183 0 = [2, 3] := by kernel_rfl
@[simp] theorem k183_1 : ch.keep 183 1 = [2, 3, 5] := by kernel_rfl
@[simp] theorem k183_2 : ch.keep 183 2 = [2, 3, 5, 13] := by kernel_rfl
@[simp] theorem k183_3 : ch.keep 183 3 = [4] := by kernel_rfl
@[simp] theorem k183_4 : ch.keep 183 4 = [2, 3, 6] := by kernel_rfl
@[simp] theorem k183_5 : ch.keep 183 5 = [2, 3, 6, 23] := by kernel_rfl
@[simp] theorem k183_6 : ch.keep 183 6 = [4] := by kernel_rfl
@[simp] theorem k183_7 : ch.keep 183 7 = [4] := by kernel_rfl
@[simp] theorem fl183_7 : ch.fl 183 7 = [1, 1, 1, 1, 1, 1, 1, 0, 0] := by kernel_rfl
noncomputable def code183 : Code := match Tryz.f183.body with | some c => c | none => .skip
theorem rs183 : Tryz.f183.results.toList = [.tmp 4] := rfl
theorem W183_of {args : List D} (ha : args.all (D.noRef 0 0) = true) (hl : args.length ≤ 32) {H : Hp} {o : Out × Hp}
    (h : alone H (fnOut Tryz.prog [.tmp 4] 0 0 (E false ⟨0, 0⟩ 183 code183 (mkF 0 args) H00)) = some o) : W 183 args H = some o :=
  W_of Tryz.func183 rfl (by kernel_rfl) rfl rfl rfl rfl rfl ha (by rw [Tryz.ntmps183]; exact hl) h
/-! ### f184: slices.Index[[]int,int] -/
@[simp] theorem k184_0 : ch.keep 184 0 = [0, 1] := by kernel_rfl
@[simp] theorem k184_1 : ch.keep 184 1 = [0, 1, 7, 8] := by kernel_rfl
@[simp] theorem k184_2 : ch.keep 184 2 = [0, 1, 7, 8, 9] := by kernel_rfl
@[simp] theorem k184_3 : ch.keep 184 3 = [0, 1, 5, 7, 8] := by kernel_rfl
@[simp] theorem k184_4 : ch.keep 184 4 = [0, 1, 5, 7, 8, 16] := by kernel_rfl
@[simp] theorem k184_5 : ch.keep 184 5 = [4] := by kernel_rfl
@[simp] theorem k184_6 : ch.keep 184 6 = [0, 1, 7, 8] := by kernel_rfl
@[simp] theorem k184_7 : ch.keep 184 7 = [4] := by kernel_rfl
noncomputable def code184 : Code := match Tryz.f184.body with | some c => c | none => .skip
noncomputable def lp184_0 : Code := match code184 with | .seq _ (.seq (.seq _ (.block _ (.loop c))) _) => c | c => c
theorem hd184_0 : ch.head 184 (firstR lp184_0) = [0, 1, 7, 8] := by kernel_rfl
theorem rs184 : Tryz.f184.results.toList = [.tmp 4] := rfl
theorem W184_of {args : List D} (ha : args.all (D.noRef 0 0) = true) (hl : args.length ≤ 19) {H : Hp} {o : Out × Hp}
    (h : alone H (fnOut Tryz.prog [.tmp 4] 0 0 (E false ⟨0, 0⟩ 184 code184 (mkF 0 args) H00)) = some o) : W 184 args H = some o :=
  W_of Tryz.func184 rfl (by kernel_rfl) rfl rfl rfl rfl rfl ha (by rw [Tryz.ntmps184]; exact hl) h
/-! ### f187: sward/syntax.isInt -/
@[simp] theorem k187_0 : ch.keep 187 0 = [0] := by kernel_rfl
@[simp] theorem k187_1 : ch.keep 187 1 = [2] := by kernel_rfl
noncomputable def code187 : Code := match Tryz.f187.body with | some c => c | none => .skip
theorem rs187 : Tryz.f187.results.toList = [.tmp 2] := rfl
theorem W187_of {args : List D} (ha : args.all (D.noRef 0 0) = true) (hl : args.length ≤ 5) {H : Hp} {o : Out × Hp}
    (h : alone H (fnOut Tryz.prog [.tmp 2] 0 0 (E false ⟨0, 0⟩ 187 code187 (mkF 0 args) H00)) = some o) : W 187 args H = some o :=
  W_of Tryz.func187 rfl (by kernel_rfl) rfl rfl rfl rfl rfl ha (by rw [Tryz.ntmps187]; exact hl) h
/-! ### f188: sward/syntax.in -/
@[simp] theorem k188_0 : ch.keep 188 0 = [0, 1, 2] := by kernel_rfl
@[simp] theorem k188_1 : ch.keep 188 1 = [6] := by kernel_rfl
noncomputable def code188 : Code := match Tryz.f188.body with | some c => c | none => .skip
theorem rs188 : Tryz.f188.results.toList = [.tmp 6] := rfl
theorem W188_of {args : List D} (ha : args.all (D.noRef 0 0) = true) (hl : args.length ≤ 15) {H : Hp} {o : Out × Hp}
    (h : alone H (fnOut Tryz.prog [.tmp 6] 0 0 (E false ⟨0, 0⟩ 188 code188 (mkF 0 args) H00)) = some o) : W 188 args H = some o :=
  W_of Tryz.func188 rfl (by kernel_rfl) rfl rfl rfl rfl rfl ha (by rw [Tryz.ntmps188]; exact hl) h
/-! ### f206: slices.ContainsFunc[[]sward/api.Kind,sward/api.Kind] -/
@[simp] theorem k206_0 : ch.keep 206 0 = [0, 1] := by kernel_rfl
@[simp] theorem k206_1 : ch.keep 206 1 = [4] := by kernel_rfl
noncomputable def code206 : Code := match Tryz.f206.body with | some c => c | none => .skip
theorem rs206 : Tryz.f206.results.toList = [.tmp 4] := rfl
theorem W206_of {args : List D} (ha : args.all (D.noRef 0 0) = true) (hl : args.length ≤ 9) {H : Hp} {o : Out × Hp}
    (h : alone H (fnOut Tryz.prog [.tmp 4] 0 0 (E false ⟨0, 0⟩ 206 code206 (mkF 0 args) H00)) = some o) : W 206 args H = some o :=
  W_of Tryz.func206 rfl (by kernel_rfl) rfl rfl rfl rfl rfl ha (by rw [Tryz.ntmps206]; exact hl) h
/-! ### f207: sward/syntax.isForm$1 -/
@[simp] theorem k207_0 : ch.keep 207 0 = [1] := by kernel_rfl
@[simp] theorem k207_1 : ch.keep 207 1 = [2] := by kernel_rfl
noncomputable def code207 : Code := match Tryz.f207.body with | some c => c | none => .skip
theorem rs207 : Tryz.f207.results.toList = [.tmp 2] := rfl
theorem W207_of {args : List D} (ha : args.all (D.noRef 0 0) = true) (hl : args.length ≤ 6) {H : Hp} {o : Out × Hp}
    (h : alone H (fnOut Tryz.prog [.tmp 2] 0 0 (E false ⟨0, 0⟩ 207 code207 (mkF 0 args) H00)) = some o) : W 207 args H = some o :=
  W_of Tryz.func207 rfl (by kernel_rfl) rfl rfl rfl rfl rfl ha (by rw [Tryz.ntmps207]; exact hl) h
/-! ### f208: cmp.Compare[sward/api.ValueKind] -/
@[simp] theorem k208_0 : ch.keep 208 0 = [0, 1] := by kernel_rfl
@[simp] theorem k208_1 : ch.keep 208 1 = [0, 1, 5] := by kernel_rfl
@[simp] theorem k208_2 : ch.keep 208 2 = [0, 1, 5, 6] := by kernel_rfl
@[simp] theorem k208_3 : ch.keep 208 3 = [0, 1, 6, 11] := by kernel_rfl
@[simp] theorem k208_4 : ch.keep 208 4 = [12] := by kernel_rfl
@[simp] theorem k208_5 : ch.keep 208 5 = [4] := by kernel_rfl
@[simp] theorem k208_6 : ch.keep 208 6 = [4] := by kernel_rfl
@[simp] theorem k208_7 : ch.keep 208 7 = [0, 1, 13] := by kernel_rfl
@[simp] theorem k208_8 : ch.keep 208 8 = [4] := by kernel_rfl
@[simp] theorem k208_9 : ch.keep 208 9 = [0, 1, 16] := by kernel_rfl
@[simp] theorem k208_10 : ch.keep 208 10 = [4] := by kernel_rfl
@[simp] theorem k208_11 : ch.keep 208 11 = [19] := by kernel_rfl
@[simp] theorem k208_12 : ch.keep 208 12 = [4] := by kernel_rfl
@[simp] theorem k208_13 : ch.keep 208 13 = [4] := by kernel_rfl
noncomputable def code208 : Code := match Tryz.f208.body with | some c => c | none => .skip
theorem rs208 : Tryz.f208.results.toList = [.tmp 4] := rfl
theorem W208_of {args : List D} (ha : args.all (D.noRef 0 0) = true) (hl : args.length ≤ 20) {H : Hp} {o : Out × Hp}
    (h : alone H (fnOut Tryz.prog [.tmp 4] 0 0 (E false ⟨0, 0⟩ 208 code208 (mkF 0 args) H00)) = some o) : W 208 args H = some o :=
  W_of Tryz.func208 rfl (by kernel_rfl) rfl rfl rfl rfl rfl ha (by rw [Tryz.ntmps208]; exact hl) h
/-! ### f209: (sward/value.pair).numbers -/
@[simp] theorem k209_0 : ch.keep 209 0 = [1] := by kernel_rfl
@[simp] theorem k209_1 : ch.keep 209 1 = [2] := by kernel_rfl
noncomputable def code209 : Code := match Tryz.f209.body with | some c => c | none => .skip
theorem rs209 : Tryz.f209.results.toList = [.tmp 2] := rfl
theorem W209_of {args : List D} (ha : args.all (D.noRef 0 0) = true) (hl : args.length ≤ 10) {H : Hp} {o : Out × Hp}
    (h : alone H (fnOut Tryz.prog [.tmp 2] 0 0 (E false ⟨0, 0⟩ 209 code209 (mkF 0 args) H00)) = some o) : W 209 args H = some o :=
  W_of Tryz.func209 rfl (by kernel_rfl) rfl rfl rfl rfl rfl ha (by rw [Tryz.ntmps209]; exact hl) h
/-! ### f210: (sward/value.pair).words -/
@[simp] theorem k210_0 : ch.keep 210 0 = [1] := by kernel_rfl
@[simp] theorem k210_1 : ch.keep 210 1 = [2] := by kernel_rfl
noncomputable def code210 : Code := match Tryz.f210.body with | some c => c | none => .skip
theorem rs210 : Tryz.f210.results.toList = [.tmp 2] := rfl
theorem W210_of {args : List D} (ha : args.all (D.noRef 0 0) = true) (hl : args.length ≤ 10) {H : Hp} {o : Out × Hp}
    (h : alone H (fnOut Tryz.prog [.tmp 2] 0 0 (E false ⟨0, 0⟩ 210 code210 (mkF 0 args) H00)) = some o) : W 210 args H = some o :=
  W_of Tryz.func210 rfl (by kernel_rfl) rfl rfl rfl rfl rfl ha (by rw [Tryz.ntmps210]; exact hl) h
/-! ### f211: (sward/value.pair).lists -/
@[simp] theorem k211_0 : ch.keep 211 0 = [1] := by kernel_rfl
@[simp] theorem k211_1 : ch.keep 211 1 = [1, 3] := by kernel_rfl
@[simp] theorem k211_2 : ch.keep 211 2 = [1, 3, 14] := by kernel_rfl
@[simp] theorem k211_3 : ch.keep 211 3 = [2] := by kernel_rfl
@[simp] theorem k211_4 : ch.keep 211 4 = [2] := by kernel_rfl
noncomputable def code211 : Code := match Tryz.f211.body with | some c => c | none => .skip
theorem rs211 : Tryz.f211.results.toList = [.tmp 2] := rfl
theorem W211_of {args : List D} (ha : args.all (D.noRef 0 0) = true) (hl : args.length ≤ 23) {H : Hp} {o : Out × Hp}
    (h : alone H (fnOut Tryz.prog [.tmp 2] 0 0 (E false ⟨0, 0⟩ 211 code211 (mkF 0 args) H00)) = some o) : W 211 args H = some o :=
  W_of Tryz.func211 rfl (by kernel_rfl) rfl rfl rfl rfl rfl ha (by rw [Tryz.ntmps211]; exact hl) h
/-! ### f219: slices.IndexFunc[[]sward/api.Kind,sward/api.Kind] -/
@[simp] theorem k219_0 : ch.keep 219 0 = [0, 1] := by kernel_rfl
@[simp] theorem k219_1 : ch.keep 219 1 = [0, 1, 7, 8] := by kernel_rfl
@[simp] theorem k219_2 : ch.keep 219 2 = [0, 1, 7, 8, 9] := by kernel_rfl
@[simp] theorem k219_3 : ch.keep 219 3 = [0, 1, 5, 7, 8] := by kernel_rfl
@[simp] theorem k219_4 : ch.keep 219 4 = [0, 1, 5, 7, 8, 16] := by kernel_rfl
@[simp] theorem k219_5 : ch.keep 219 5 = [4] := by kernel_rfl
@[simp] theorem k219_6 : ch.keep 219 6 = [0, 1, 7, 8] := by kernel_rfl
@[simp] theorem k219_7 : ch.keep 219 7 = [4] := by kernel_rfl
noncomputable def code219 : Code := match Tryz.f219.body with | some c => c | none => .skip
noncomputable def lp219_0 : Code := match code219 with | .seq _ (.seq (.seq _ (.block _ (.loop c))) _) => c | c => c
theorem hd219_0 : ch.head 219 (firstR lp219_0) = [0, 1, 7, 8] := by kernel_rfl
theorem rs219 : Tryz.f219.results.toList = [.tmp 4] := rfl
theorem W219_of {args : List D} (ha : args.all (D.noRef 0 0) = true) (hl : args.length ≤ 19) {H : Hp} {o : Out × Hp}
    (h : alone H (fnOut Tryz.prog [.tmp 4] 0 0 (E false ⟨0, 0⟩ 219 code219 (mkF 0 args) H00)) = some o) : W 219 args H = some o :=
  W_of Tryz.func219 rfl (by kernel_rfl) rfl rfl rfl rfl rfl ha (by rw [Tryz.ntmps219]; exact hl) h
/-! ### f220: cmp.isNaN[sward/api.ValueKind] -/
@[simp] theorem k220_0 : ch.keep 220 0 = [0] := by kernel_rfl
@[simp] theorem k220_1 : ch.keep 220 1 = [2] := by kernel_rfl
noncomputable def code220 : Code := match Tryz.f220.body with | some c => c | none => .skip
theorem rs220 : Tryz.f220.results.toList = [.tmp 2] := rfl
theorem W220_of {args : List D} (ha : args.all (D.noRef 0 0) = true) (hl : args.length ≤ 6) {H : Hp} {o : Out × Hp}
    (h : alone H (fnOut Tryz.prog [.tmp 2] 0 0 (E false ⟨0, 0⟩ 220 code220 (mkF 0 args) H00)) = some o) : W 220 args H = some o :=
  W_of Tryz.func220 rfl (by kernel_rfl) rfl rfl rfl rfl rfl ha (by rw [Tryz.ntmps220]; exact hl) h
/-! ### f221: cmp.Compare[int] -/
@[simp] theorem k221_0 : ch.keep 221 0 = [0, 1] := by kernel_rfl
@[simp] theorem k221_1 : ch.keep 221 1 = [0, 1, 5] := by kernel_rfl
@[simp] theorem k221_2 : ch.keep 221 2 = [0, 1, 5, 6] := by kernel_rfl
@[simp] theorem k221_3 : ch.keep 221 3 = [0, 1, 6, 11] := by kernel_rfl
@[simp] theorem k221_4 : ch.keep 221 4 = [12] := by kernel_rfl
@[simp] theorem k221_5 : ch.keep 221 5 = [4] := by kernel_rfl
@[simp] theorem k221_6 : ch.keep 221 6 = [4] := by kernel_rfl
@[simp] theorem k221_7 : ch.keep 221 7 = [0, 1, 13] := by kernel_rfl
@[simp] theorem k221_8 : ch.keep 221 8 = [4] := by kernel_rfl
@[simp] theorem k221_9 : ch.keep 221 9 = [0, 1, 16] := by kernel_rfl
@[simp] theorem k221_10 : ch.keep 221 10 = [4] := by kernel_rfl
@[simp] theorem k221_11 : ch.keep 221 11 = [19] := by kernel_rfl
@[simp] theorem k221_12 : ch.keep 221 12 = [4] := by kernel_rfl
@[simp] theorem k221_13 : ch.keep 221 13 = [4] := by kernel_rfl
noncomputable def code221 : Code := match Tryz.f221.body with | some c => c | none => .skip
theorem rs221 : Tryz.f221.results.toList = [.tmp 4] := rfl
theorem W221_of {args : List D} (ha : args.all (D.noRef 0 0) = true) (hl : args.length ≤ 20) {H : Hp} {o : Out × Hp}
    (h : alone H (fnOut Tryz.prog [.tmp 4] 0 0 (E false ⟨0, 0⟩ 221 code221 (mkF 0 args) H00)) = some o) : W 221 args H = some o :=
  W_of Tryz.func221 rfl (by kernel_rfl) rfl rfl rfl rfl rfl ha (by rw [Tryz.ntmps221]; exact hl) h
/-! ### f222: strings.Compare -/
@[simp] theorem k222_0 : ch.keep 222 0 = [0, 1] := by kernel_rfl
@[simp] theorem k222_1 : ch.keep 222 1 = [4] := by kernel_rfl
noncomputable def code222 : Code := match Tryz.f222.body with | some c => c | none => .skip
theorem rs222 : Tryz.f222.results.toList = [.tmp 4] := rfl
theorem W222_of {args : List D} (ha : args.all (D.noRef 0 0) = true) (hl : args.length ≤ 8) {H : Hp} {o : Out × Hp}
    (h : alone H (fnOut Tryz.prog [.tmp 4] 0 0 (E false ⟨0, 0⟩ 222 code222 (mkF 0 args) H00)) = some o) : W 222 args H = some o :=
  W_of Tryz.func222 rfl (by kernel_rfl) rfl rfl rfl rfl rfl ha (by rw [Tryz.ntmps222]; exact hl) h
/-! ### f223: slices.CompareFunc[[]sward/api.Value,[]sward/api.Value,sward/api.Value,sward/api.Value] -/
@[simp] theorem k223_0 : ch.keep 223 0 = [0, 1, 2] := by kernel_rfl
@[simp] theorem k223_1 : ch.keep 223 1 = [0, 1, 2, 11, 12, 13] := by kernel_rfl
@[simp] theorem k223_2 : ch.keep 223 2 = [0, 1, 2, 11, 12, 13, 14] := by kernel_rfl
@[simp] theorem k223_3 : ch.keep 223 3 = [0, 1, 2, 7, 8, 11, 12, 13] := by kernel_rfl
@[simp] theorem k223_4 : ch.keep 223 4 = [0, 1, 2, 7, 8, 11, 12, 13, 21] := by kernel_rfl
@[simp] theorem k223_5 : ch.keep 223 5 = [6] := by kernel_rfl
@[simp] theorem k223_6 : ch.keep 223 6 = [0, 1, 2, 8, 9, 11, 12, 13] := by kernel_rfl
@[simp] theorem k223_7 : ch.keep 223 7 = [0, 1, 2, 10, 11, 12, 13] := by kernel_rfl
@[simp] theorem k223_8 : ch.keep 223 8 = [0, 1, 2, 10, 11, 12, 13, 31] := by kernel_rfl
@[simp] theorem k223_9 : ch.keep 223 9 = [6] := by kernel_rfl
@[simp] theorem k223_10 : ch.keep 223 10 = [0, 1, 2, 11, 12, 13] := by kernel_rfl
@[simp] theorem k223_11 : ch.keep 223 11 = [38] := by kernel_rfl
@[simp] theorem k223_12 : ch.keep 223 12 = [6] := by kernel_rfl
@[simp] theorem k223_13 : ch.keep 223 13 = [6] := by kernel_rfl
noncomputable def code223 : Code := match Tryz.f223.body with | some c => c | none => .skip
noncomputable def lp223_0 : Code := match code223 with | .seq _ (.seq (.seq _ (.block _ (.loop c))) _) => c | c => c
theorem hd223_0 : ch.head 223 (firstR lp223_0) = [0, 1, 2, 11, 12, 13] := by kernel_rfl
theorem rs223 : Tryz.f223.results.toList = [.tmp 6] := rfl
theorem W223_of {args : List D} (ha : args.all (D.noRef 0 0) = true) (hl : args.length ≤ 39) {H : Hp} {o : Out × Hp}
    (h : alone H (fnOut Tryz.prog [.tmp 6] 0 0 (E false ⟨0, 0⟩ 223 code223 (mkF 0 args) H00)) = some o) : W 223 args H = some o :=
  W_of Tryz.func223 rfl (by kernel_rfl) rfl rfl rfl rfl rfl ha (by rw [Tryz.ntmps223]; exact hl) h
/-! ### f229: cmp.isNaN[int] -/
@[simp] theorem k229_0 : ch.keep 229 0 = [0] := by kernel_rfl
@[simp] theorem k229_1 : ch.keep 229 1 = [2] := by kernel_rfl
noncomputable def code229 : Code := match Tryz.f229.body with | some c => c | none => .skip
theorem rs229 : Tryz.f229.results.toList = [.tmp 2] := rfl
theorem W229_of {args : List D} (ha : args.all (D.noRef 0 0) = true) (hl : args.length ≤ 6) {H : Hp} {o : Out × Hp}
    (h : alone H (fnOut Tryz.prog [.tmp 2] 0 0 (E false ⟨0, 0⟩ 229 code229 (mkF 0 args) H00)) = some o) : W 229 args H = some o :=
  W_of Tryz.func229 rfl (by kernel_rfl) rfl rfl rfl rfl rfl ha (by rw [Tryz.ntmps229]; exact hl) h
/-! ### f265: (sward/value.integer).parts -/
@[simp] theorem k265_0 : ch.keep 265 0 = [] := by kernel_rfl
@[simp] theorem k265_1 : ch.keep 265 1 = [2] := by kernel_rfl
noncomputable def code265 : Code := match Tryz.f265.body with | some c => c | none => .skip
theorem rs265 : Tryz.f265.results.toList = [.tmp 2] := rfl
theorem W265_of {args : List D} (ha : args.all (D.noRef 0 0) = true) (hl : args.length ≤ 3) {H : Hp} {o : Out × Hp}
    (h : alone H (fnOut Tryz.prog [.tmp 2] 0 0 (E false ⟨0, 0⟩ 265 code265 (mkF 0 args) H00)) = some o) : W 265 args H = some o :=
  W_of Tryz.func265 rfl (by kernel_rfl) rfl rfl rfl rfl rfl ha (by rw [Tryz.ntmps265]; exact hl) h
/-! ### f266: (sward/value.truth).parts -/
@[simp] theorem k266_0 : ch.keep 266 0 = [] := by kernel_rfl
@[simp] theorem k266_1 : ch.keep 266 1 = [2] := by kernel_rfl
noncomputable def code266 : Code := match Tryz.f266.body with | some c => c | none => .skip
theorem rs266 : Tryz.f266.results.toList = [.tmp 2] := rfl
theorem W266_of {args : List D} (ha : args.all (D.noRef 0 0) = true) (hl : args.length ≤ 3) {H : Hp} {o : Out × Hp}
    (h : alone H (fnOut Tryz.prog [.tmp 2] 0 0 (E false ⟨0, 0⟩ 266 code266 (mkF 0 args) H00)) = some o) : W 266 args H = some o :=
  W_of Tryz.func266 rfl (by kernel_rfl) rfl rfl rfl rfl rfl ha (by rw [Tryz.ntmps266]; exact hl) h
/-! ### f267: (sward/value.word).parts -/
@[simp] theorem k267_0 : ch.keep 267 0 = [] := by kernel_rfl
@[simp] theorem k267_1 : ch.keep 267 1 = [2] := by kernel_rfl
noncomputable def code267 : Code := match Tryz.f267.body with | some c => c | none => .skip
theorem rs267 : Tryz.f267.results.toList = [.tmp 2] := rfl
theorem W267_of {args : List D} (ha : args.all (D.noRef 0 0) = true) (hl : args.length ≤ 3) {H : Hp} {o : Out × Hp}
    (h : alone H (fnOut Tryz.prog [.tmp 2] 0 0 (E false ⟨0, 0⟩ 267 code267 (mkF 0 args) H00)) = some o) : W 267 args H = some o :=
  W_of Tryz.func267 rfl (by kernel_rfl) rfl rfl rfl rfl rfl ha (by rw [Tryz.ntmps267]; exact hl) h
/-! ### f268: (sward/value.tuple).parts -/
@[simp] theorem k268_0 : ch.keep 268 0 = [1] := by kernel_rfl
@[simp] theorem k268_1 : ch.keep 268 1 = [2] := by kernel_rfl
noncomputable def code268 : Code := match Tryz.f268.body with | some c => c | none => .skip
theorem rs268 : Tryz.f268.results.toList = [.tmp 2] := rfl
theorem W268_of {args : List D} (ha : args.all (D.noRef 0 0) = true) (hl : args.length ≤ 5) {H : Hp} {o : Out × Hp}
    (h : alone H (fnOut Tryz.prog [.tmp 2] 0 0 (E false ⟨0, 0⟩ 268 code268 (mkF 0 args) H00)) = some o) : W 268 args H = some o :=
  W_of Tryz.func268 rfl (by kernel_rfl) rfl rfl rfl rfl rfl ha (by rw [Tryz.ntmps268]; exact hl) h
/-! ### f269: (sward/value.set).parts -/
@[simp] theorem k269_0 : ch.keep 269 0 = [1] := by kernel_rfl
@[simp] theorem k269_1 : ch.keep 269 1 = [2] := by kernel_rfl
noncomputable def code269 : Code := match Tryz.f269.body with | some c => c | none => .skip
theorem rs269 : Tryz.f269.results.toList = [.tmp 2] := rfl
theorem W269_of {args : List D} (ha : args.all (D.noRef 0 0) = true) (hl : args.length ≤ 5) {H : Hp} {o : Out × Hp}
    (h : alone H (fnOut Tryz.prog [.tmp 2] 0 0 (E false ⟨0, 0⟩ 269 code269 (mkF 0 args) H00)) = some o) : W 269 args H = some o :=
  W_of Tryz.func269 rfl (by kernel_rfl) rfl rfl rfl rfl rfl ha (by rw [Tryz.ntmps269]; exact hl) h
/-! ### f289: (sward/value.nothing).parts -/
@[simp] theorem k289_0 : ch.keep 289 0 = [] := by kernel_rfl
@[simp] theorem k289_1 : ch.keep 289 1 = [2] := by kernel_rfl
noncomputable def code289 : Code := match Tryz.f289.body with | some c => c | none => .skip
theorem rs289 : Tryz.f289.results.toList = [.tmp 2] := rfl
theorem W289_of {args : List D} (ha : args.all (D.noRef 0 0) = true) (hl : args.length ≤ 3) {H : Hp} {o : Out × Hp}
    (h : alone H (fnOut Tryz.prog [.tmp 2] 0 0 (E false ⟨0, 0⟩ 289 code289 (mkF 0 args) H00)) = some o) : W 289 args H = some o :=
  W_of Tryz.func289 rfl (by kernel_rfl) rfl rfl rfl rfl rfl ha (by rw [Tryz.ntmps289]; exact hl) h
end Go.Vi
end
