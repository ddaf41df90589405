/- It is proved here what the heads and facts of the program's functions are to the evaluator; no condition. -/
import Derived.Test.YtodgddpkbmanoaaGreatDoorMF
set_option linter.unusedVariables false
set_option linter.unusedSimpArgs false

section
/- Vi: what the evaluator asks of the program's types; made by a program of ours (wip/tools/mkfacts2.py). No conditions. -/
namespace Go.Vi
open Go Go.Proofs
set_option maxRecDepth 100000
@[simp] theorem sz0 : szOf Tryz.prog 0 = some 1 := by kernel_rfl
@[simp] theorem ag0 : aggOf Tryz.prog 0 = some false := by kernel_rfl
@[simp] theorem by0 : byOf Tryz.prog 0 = some 0 := by kernel_rfl
@[simp] theorem sz3 : szOf Tryz.prog 3 = some 1 := by kernel_rfl
@[simp] theorem ag3 : aggOf Tryz.prog 3 = some false := by kernel_rfl
@[simp] theorem by3 : byOf Tryz.prog 3 = some 8 := by kernel_rfl
@[simp] theorem sz4 : szOf Tryz.prog 4 = some 1 := by kernel_rfl
@[simp] theorem ag4 : aggOf Tryz.prog 4 = some false := by kernel_rfl
@[simp] theorem by4 : byOf Tryz.prog 4 = some 1 := by kernel_rfl
@[simp] theorem sz5 : szOf Tryz.prog 5 = some 1 := by kernel_rfl
@[simp] theorem ag5 : aggOf Tryz.prog 5 = some false := by kernel_rfl
@[simp] theorem by5 : byOf Tryz.prog 5 = some 1 := by kernel_rfl
@[simp] theorem sz9 : szOf Tryz.prog 9 = some 1 := by kernel_rfl
@[simp] theorem ag9 : aggOf Tryz.prog 9 = some false := by kernel_rfl
@[simp] theorem by9 : byOf Tryz.prog 9 = some 16 := by kernel_rfl
@[simp] theorem sz22 : szOf Tryz.prog 22 = some 1 := by kernel_rfl
@[simp] theorem ag22 : aggOf Tryz.prog 22 = some false := by kernel_rfl
@[simp] theorem by22 : byOf Tryz.prog 22 = some 24 := by kernel_rfl
@[simp] theorem el22 : elemOf Tryz.prog 22 = some 90 := by kernel_rfl
@[simp] theorem un22 : Tryz.prog.underlying 22 = some (.slice 90) := by kernel_rfl
@[simp] theorem sz23 : szOf Tryz.prog 23 = some 1 := by kernel_rfl
@[simp] theorem ag23 : aggOf Tryz.prog 23 = some false := by kernel_rfl
@[simp] theorem by23 : byOf Tryz.prog 23 = some 24 := by kernel_rfl
@[simp] theorem el23 : elemOf Tryz.prog 23 = some 96 := by kernel_rfl
@[simp] theorem un23 : Tryz.prog.underlying 23 = some (.slice 96) := by kernel_rfl
@[simp] theorem sz24 : szOf Tryz.prog 24 = some 1 := by kernel_rfl
@[simp] theorem ag24 : aggOf Tryz.prog 24 = some false := by kernel_rfl
@[simp] theorem by24 : byOf Tryz.prog 24 = some 24 := by kernel_rfl
@[simp] theorem el24 : elemOf Tryz.prog 24 = some 101 := by kernel_rfl
@[simp] theorem un24 : Tryz.prog.underlying 24 = some (.slice 101) := by kernel_rfl
@[simp] theorem sz26 : szOf Tryz.prog 26 = some 4 := by kernel_rfl
@[simp] theorem ag26 : aggOf Tryz.prog 26 = some true := by kernel_rfl
@[simp] theorem by26 : byOf Tryz.prog 26 = some 88 := by kernel_rfl
@[simp] theorem fo26_0 : fieldOf Tryz.prog 26 0 = some (0, 1, false) := by kernel_rfl
@[simp] theorem fo26_1 : fieldOf Tryz.prog 26 1 = some (1, 1, false) := by kernel_rfl
@[simp] theorem fo26_2 : fieldOf Tryz.prog 26 2 = some (2, 1, false) := by kernel_rfl
@[simp] theorem fo26_3 : fieldOf Tryz.prog 26 3 = some (3, 1, false) := by kernel_rfl
@[simp] theorem sz29 : szOf Tryz.prog 29 = some 1 := by kernel_rfl
@[simp] theorem ag29 : aggOf Tryz.prog 29 = some false := by kernel_rfl
@[simp] theorem by29 : byOf Tryz.prog 29 = some 24 := by kernel_rfl
@[simp] theorem el29 : elemOf Tryz.prog 29 = some 61 := by kernel_rfl
@[simp] theorem un29 : Tryz.prog.underlying 29 = some (.slice 61) := by kernel_rfl
@[simp] theorem sz30 : szOf Tryz.prog 30 = some 1 := by kernel_rfl
@[simp] theorem ag30 : aggOf Tryz.prog 30 = some false := by kernel_rfl
@[simp] theorem by30 : byOf Tryz.prog 30 = some 24 := by kernel_rfl
@[simp] theorem el30 : elemOf Tryz.prog 30 = some 78 := by kernel_rfl
@[simp] theorem un30 : Tryz.prog.underlying 30 = some (.slice 78) := by kernel_rfl
@[simp] theorem sz31 : szOf Tryz.prog 31 = some 1 := by kernel_rfl
@[simp] theorem ag31 : aggOf Tryz.prog 31 = some false := by kernel_rfl
@[simp] theorem by31 : byOf Tryz.prog 31 = some 24 := by kernel_rfl
@[simp] theorem el31 : elemOf Tryz.prog 31 = some 70 := by kernel_rfl
@[simp] theorem un31 : Tryz.prog.underlying 31 = some (.slice 70) := by kernel_rfl
@[simp] theorem sz33 : szOf Tryz.prog 33 = some 3 := by kernel_rfl
@[simp] theorem ag33 : aggOf Tryz.prog 33 = some true := by kernel_rfl
@[simp] theorem by33 : byOf Tryz.prog 33 = some 72 := by kernel_rfl
@[simp] theorem fo33_0 : fieldOf Tryz.prog 33 0 = some (0, 1, false) := by kernel_rfl
@[simp] theorem fo33_1 : fieldOf Tryz.prog 33 1 = some (1, 1, false) := by kernel_rfl
@[simp] theorem fo33_2 : fieldOf Tryz.prog 33 2 = some (2, 1, false) := by kernel_rfl
@[simp] theorem sz34 : szOf Tryz.prog 34 = some 1 := by kernel_rfl
@[simp] theorem ag34 : aggOf Tryz.prog 34 = some false := by kernel_rfl
@[simp] theorem by34 : byOf Tryz.prog 34 = some 8 := by kernel_rfl
@[simp] theorem sz35 : szOf Tryz.prog 35 = some 1 := by kernel_rfl
@[simp] theorem ag35 : aggOf Tryz.prog 35 = some false := by kernel_rfl
@[simp] theorem by35 : byOf Tryz.prog 35 = some 0 := by kernel_rfl
@[simp] theorem sz39 : szOf Tryz.prog 39 = some 1 := by kernel_rfl
@[simp] theorem ag39 : aggOf Tryz.prog 39 = some false := by kernel_rfl
@[simp] theorem by39 : byOf Tryz.prog 39 = some 2 := by kernel_rfl
@[simp] theorem sz40 : szOf Tryz.prog 40 = some 4 := by kernel_rfl
@[simp] theorem ag40 : aggOf Tryz.prog 40 = some true := by kernel_rfl
@[simp] theorem by40 : byOf Tryz.prog 40 = some 8 := by kernel_rfl
@[simp] theorem sz41 : szOf Tryz.prog 41 = some 4 := by kernel_rfl
@[simp] theorem ag41 : aggOf Tryz.prog 41 = some true := by kernel_rfl
@[simp] theorem by41 : byOf Tryz.prog 41 = some 4 := by kernel_rfl
@[simp] theorem sz42 : szOf Tryz.prog 42 = some 1 := by kernel_rfl
@[simp] theorem ag42 : aggOf Tryz.prog 42 = some false := by kernel_rfl
@[simp] theorem by42 : byOf Tryz.prog 42 = some 24 := by kernel_rfl
@[simp] theorem el42 : elemOf Tryz.prog 42 = some 41 := by kernel_rfl
@[simp] theorem un42 : Tryz.prog.underlying 42 = some (.slice 41) := by kernel_rfl
@[simp] theorem sz43 : szOf Tryz.prog 43 = some 2 := by kernel_rfl
@[simp] theorem ag43 : aggOf Tryz.prog 43 = some true := by kernel_rfl
@[simp] theorem by43 : byOf Tryz.prog 43 = some 2 := by kernel_rfl
@[simp] theorem sz44 : szOf Tryz.prog 44 = some 4 := by kernel_rfl
@[simp] theorem ag44 : aggOf Tryz.prog 44 = some true := by kernel_rfl
@[simp] theorem by44 : byOf Tryz.prog 44 = some 4 := by kernel_rfl
@[simp] theorem sz46 : szOf Tryz.prog 46 = some 15 := by kernel_rfl
@[simp] theorem ag46 : aggOf Tryz.prog 46 = some true := by kernel_rfl
@[simp] theorem by46 : byOf Tryz.prog 46 = some 48 := by kernel_rfl
@[simp] theorem fo46_0 : fieldOf Tryz.prog 46 0 = some (0, 1, false) := by kernel_rfl
@[simp] theorem fo46_1 : fieldOf Tryz.prog 46 1 = some (1, 4, true) := by kernel_rfl
@[simp] theorem fo46_2 : fieldOf Tryz.prog 46 2 = some (5, 4, true) := by kernel_rfl
@[simp] theorem fo46_3 : fieldOf Tryz.prog 46 3 = some (9, 1, false) := by kernel_rfl
@[simp] theorem fo46_4 : fieldOf Tryz.prog 46 4 = some (10, 4, true) := by kernel_rfl
@[simp] theorem fo46_5 : fieldOf Tryz.prog 46 5 = some (14, 1, false) := by kernel_rfl
@[simp] theorem sz47 : szOf Tryz.prog 47 = some 1 := by kernel_rfl
@[simp] theorem ag47 : aggOf Tryz.prog 47 = some false := by kernel_rfl
@[simp] theorem by47 : byOf Tryz.prog 47 = some 24 := by kernel_rfl
@[simp] theorem el47 : elemOf Tryz.prog 47 = some 5 := by kernel_rfl
@[simp] theorem un47 : Tryz.prog.underlying 47 = some (.slice 5) := by kernel_rfl
@[simp] theorem sz49 : szOf Tryz.prog 49 = some 1 := by kernel_rfl
@[simp] theorem ag49 : aggOf Tryz.prog 49 = some false := by kernel_rfl
@[simp] theorem by49 : byOf Tryz.prog 49 = some 24 := by kernel_rfl
@[simp] theorem el49 : elemOf Tryz.prog 49 = some 3 := by kernel_rfl
@[simp] theorem un49 : Tryz.prog.underlying 49 = some (.slice 3) := by kernel_rfl
@[simp] theorem sz51 : szOf Tryz.prog 51 = some 1 := by kernel_rfl
@[simp] theorem ag51 : aggOf Tryz.prog 51 = some false := by kernel_rfl
@[simp] theorem by51 : byOf Tryz.prog 51 = some 8 := by kernel_rfl
@[simp] theorem sz52 : szOf Tryz.prog 52 = some 1 := by kernel_rfl
@[simp] theorem ag52 : aggOf Tryz.prog 52 = some false := by kernel_rfl
@[simp] theorem by52 : byOf Tryz.prog 52 = some 24 := by kernel_rfl
@[simp] theorem el52 : elemOf Tryz.prog 52 = some 4 := by kernel_rfl
@[simp] theorem un52 : Tryz.prog.underlying 52 = some (.slice 4) := by kernel_rfl
@[simp] theorem sz53 : szOf Tryz.prog 53 = some 1 := by kernel_rfl
@[simp] theorem ag53 : aggOf Tryz.prog 53 = some false := by kernel_rfl
@[simp] theorem by53 : byOf Tryz.prog 53 = some 24 := by kernel_rfl
@[simp] theorem el53 : elemOf Tryz.prog 53 = some 62 := by kernel_rfl
@[simp] theorem un53 : Tryz.prog.underlying 53 = some (.slice 62) := by kernel_rfl
@[simp] theorem sz54 : szOf Tryz.prog 54 = some 1 := by kernel_rfl
@[simp] theorem ag54 : aggOf Tryz.prog 54 = some false := by kernel_rfl
@[simp] theorem by54 : byOf Tryz.prog 54 = some 0 := by kernel_rfl
@[simp] theorem sz56 : szOf Tryz.prog 56 = some 1 := by kernel_rfl
@[simp] theorem ag56 : aggOf Tryz.prog 56 = some false := by kernel_rfl
@[simp] theorem by56 : byOf Tryz.prog 56 = some 24 := by kernel_rfl
@[simp] theorem el56 : elemOf Tryz.prog 56 = some 53 := by kernel_rfl
@[simp] theorem un56 : Tryz.prog.underlying 56 = some (.slice 53) := by kernel_rfl
@[simp] theorem sz58 : szOf Tryz.prog 58 = some 1 := by kernel_rfl
@[simp] theorem ag58 : aggOf Tryz.prog 58 = some false := by kernel_rfl
@[simp] theorem by58 : byOf Tryz.prog 58 = some 0 := by kernel_rfl
@[simp] theorem sz61 : szOf Tryz.prog 61 = some 2 := by kernel_rfl
@[simp] theorem ag61 : aggOf Tryz.prog 61 = some true := by kernel_rfl
@[simp] theorem by61 : byOf Tryz.prog 61 = some 32 := by kernel_rfl
@[simp] theorem fo61_0 : fieldOf Tryz.prog 61 0 = some (0, 1, false) := by kernel_rfl
@[simp] theorem fo61_1 : fieldOf Tryz.prog 61 1 = some (1, 1, false) := by kernel_rfl
@[simp] theorem sz62 : szOf Tryz.prog 62 = some 1 := by kernel_rfl
@[simp] theorem ag62 : aggOf Tryz.prog 62 = some false := by kernel_rfl
@[simp] theorem by62 : byOf Tryz.prog 62 = some 8 := by kernel_rfl
@[simp] theorem sz66 : szOf Tryz.prog 66 = some 1 := by kernel_rfl
@[simp] theorem ag66 : aggOf Tryz.prog 66 = some false := by kernel_rfl
@[simp] theorem by66 : byOf Tryz.prog 66 = some 0 := by kernel_rfl
@[simp] theorem sz70 : szOf Tryz.prog 70 = some 2 := by kernel_rfl
@[simp] theorem ag70 : aggOf Tryz.prog 70 = some true := by kernel_rfl
@[simp] theorem by70 : byOf Tryz.prog 70 = some 16 := by kernel_rfl
@[simp] theorem sz76 : szOf Tryz.prog 76 = some 1 := by kernel_rfl
@[simp] theorem ag76 : aggOf Tryz.prog 76 = some false := by kernel_rfl
@[simp] theorem by76 : byOf Tryz.prog 76 = some 8 := by kernel_rfl
@[simp] theorem sz78 : szOf Tryz.prog 78 = some 4 := by kernel_rfl
@[simp] theorem ag78 : aggOf Tryz.prog 78 = some true := by kernel_rfl
@[simp] theorem by78 : byOf Tryz.prog 78 = some 32 := by kernel_rfl
@[simp] theorem fo78_0 : fieldOf Tryz.prog 78 0 = some (0, 1, false) := by kernel_rfl
@[simp] theorem fo78_1 : fieldOf Tryz.prog 78 1 = some (1, 1, false) := by kernel_rfl
@[simp] theorem fo78_2 : fieldOf Tryz.prog 78 2 = some (2, 1, false) := by kernel_rfl
@[simp] theorem fo78_3 : fieldOf Tryz.prog 78 3 = some (3, 1, false) := by kernel_rfl
@[simp] theorem sz80 : szOf Tryz.prog 80 = some 1 := by kernel_rfl
@[simp] theorem ag80 : aggOf Tryz.prog 80 = some false := by kernel_rfl
@[simp] theorem by80 : byOf Tryz.prog 80 = some 8 := by kernel_rfl
@[simp] theorem sz81 : szOf Tryz.prog 81 = some 1 := by kernel_rfl
@[simp] theorem ag81 : aggOf Tryz.prog 81 = some false := by kernel_rfl
@[simp] theorem by81 : byOf Tryz.prog 81 = some 24 := by kernel_rfl
@[simp] theorem el81 : elemOf Tryz.prog 81 = some 83 := by kernel_rfl
@[simp] theorem un81 : Tryz.prog.underlying 81 = some (.slice 83) := by kernel_rfl
@[simp] theorem sz83 : szOf Tryz.prog 83 = some 5 := by kernel_rfl
@[simp] theorem ag83 : aggOf Tryz.prog 83 = some true := by kernel_rfl
@[simp] theorem by83 : byOf Tryz.prog 83 = some 56 := by kernel_rfl
@[simp] theorem fo83_0 : fieldOf Tryz.prog 83 0 = some (0, 1, false) := by kernel_rfl
@[simp] theorem fo83_1 : fieldOf Tryz.prog 83 1 = some (1, 1, false) := by kernel_rfl
@[simp] theorem fo83_2 : fieldOf Tryz.prog 83 2 = some (2, 1, false) := by kernel_rfl
@[simp] theorem fo83_3 : fieldOf Tryz.prog 83 3 = some (3, 1, false) := by kernel_rfl
@[simp] theorem fo83_4 : fieldOf Tryz.prog 83 4 = some (4, 1, false) := by kernel_rfl
@[simp] theorem sz84 : szOf Tryz.prog 84 = some 1 := by kernel_rfl
@[simp] theorem ag84 : aggOf Tryz.prog 84 = some false := by kernel_rfl
@[simp] theorem by84 : byOf Tryz.prog 84 = some 8 := by kernel_rfl
@[simp] theorem sz85 : szOf Tryz.prog 85 = some 1 := by kernel_rfl
@[simp] theorem ag85 : aggOf Tryz.prog 85 = some false := by kernel_rfl
@[simp] theorem by85 : byOf Tryz.prog 85 = some 24 := by kernel_rfl
@[simp] theorem el85 : elemOf Tryz.prog 85 = some 9 := by kernel_rfl
@[simp] theorem un85 : Tryz.prog.underlying 85 = some (.slice 9) := by kernel_rfl
@[simp] theorem sz86 : szOf Tryz.prog 86 = some 1 := by kernel_rfl
@[simp] theorem ag86 : aggOf Tryz.prog 86 = some false := by kernel_rfl
@[simp] theorem by86 : byOf Tryz.prog 86 = some 24 := by kernel_rfl
@[simp] theorem el86 : elemOf Tryz.prog 86 = some 88 := by kernel_rfl
@[simp] theorem un86 : Tryz.prog.underlying 86 = some (.slice 88) := by kernel_rfl
@[simp] theorem sz88 : szOf Tryz.prog 88 = some 5 := by kernel_rfl
@[simp] theorem ag88 : aggOf Tryz.prog 88 = some true := by kernel_rfl
@[simp] theorem by88 : byOf Tryz.prog 88 = some 80 := by kernel_rfl
@[simp] theorem fo88_0 : fieldOf Tryz.prog 88 0 = some (0, 1, false) := by kernel_rfl
@[simp] theorem fo88_1 : fieldOf Tryz.prog 88 1 = some (1, 1, false) := by kernel_rfl
@[simp] theorem fo88_2 : fieldOf Tryz.prog 88 2 = some (2, 1, false) := by kernel_rfl
@[simp] theorem fo88_3 : fieldOf Tryz.prog 88 3 = some (3, 1, false) := by kernel_rfl
@[simp] theorem fo88_4 : fieldOf Tryz.prog 88 4 = some (4, 1, false) := by kernel_rfl
@[simp] theorem sz90 : szOf Tryz.prog 90 = some 11 := by kernel_rfl
@[simp] theorem ag90 : aggOf Tryz.prog 90 = some true := by kernel_rfl
@[simp] theorem by90 : byOf Tryz.prog 90 = some 152 := by kernel_rfl
@[simp] theorem fo90_0 : fieldOf Tryz.prog 90 0 = some (0, 1, false) := by kernel_rfl
@[simp] theorem fo90_1 : fieldOf Tryz.prog 90 1 = some (1, 5, true) := by kernel_rfl
@[simp] theorem fo90_2 : fieldOf Tryz.prog 90 2 = some (6, 5, true) := by kernel_rfl
@[simp] theorem sz93 : szOf Tryz.prog 93 = some 1 := by kernel_rfl
@[simp] theorem ag93 : aggOf Tryz.prog 93 = some false := by kernel_rfl
@[simp] theorem by93 : byOf Tryz.prog 93 = some 24 := by kernel_rfl
@[simp] theorem el93 : elemOf Tryz.prog 93 = some 99 := by kernel_rfl
@[simp] theorem un93 : Tryz.prog.underlying 93 = some (.slice 99) := by kernel_rfl
@[simp] theorem sz94 : szOf Tryz.prog 94 = some 1 := by kernel_rfl
@[simp] theorem ag94 : aggOf Tryz.prog 94 = some false := by kernel_rfl
@[simp] theorem by94 : byOf Tryz.prog 94 = some 24 := by kernel_rfl
@[simp] theorem el94 : elemOf Tryz.prog 94 = some 163 := by kernel_rfl
@[simp] theorem un94 : Tryz.prog.underlying 94 = some (.slice 163) := by kernel_rfl
@[simp] theorem sz96 : szOf Tryz.prog 96 = some 3 := by kernel_rfl
@[simp] theorem ag96 : aggOf Tryz.prog 96 = some true := by kernel_rfl
@[simp] theorem by96 : byOf Tryz.prog 96 = some 64 := by kernel_rfl
@[simp] theorem fo96_0 : fieldOf Tryz.prog 96 0 = some (0, 1, false) := by kernel_rfl
@[simp] theorem fo96_1 : fieldOf Tryz.prog 96 1 = some (1, 1, false) := by kernel_rfl
@[simp] theorem fo96_2 : fieldOf Tryz.prog 96 2 = some (2, 1, false) := by kernel_rfl
@[simp] theorem sz99 : szOf Tryz.prog 99 = some 6 := by kernel_rfl
@[simp] theorem ag99 : aggOf Tryz.prog 99 = some true := by kernel_rfl
@[simp] theorem by99 : byOf Tryz.prog 99 = some 72 := by kernel_rfl
@[simp] theorem fo99_0 : fieldOf Tryz.prog 99 0 = some (0, 1, false) := by kernel_rfl
@[simp] theorem fo99_1 : fieldOf Tryz.prog 99 1 = some (1, 5, true) := by kernel_rfl
@[simp] theorem sz101 : szOf Tryz.prog 101 = some 6 := by kernel_rfl
@[simp] theorem ag101 : aggOf Tryz.prog 101 = some true := by kernel_rfl
@[simp] theorem by101 : byOf Tryz.prog 101 = some 96 := by kernel_rfl
@[simp] theorem fo101_0 : fieldOf Tryz.prog 101 0 = some (0, 1, false) := by kernel_rfl
@[simp] theorem fo101_1 : fieldOf Tryz.prog 101 1 = some (1, 5, true) := by kernel_rfl
@[simp] theorem sz105 : szOf Tryz.prog 105 = some 1 := by kernel_rfl
@[simp] theorem ag105 : aggOf Tryz.prog 105 = some false := by kernel_rfl
@[simp] theorem by105 : byOf Tryz.prog 105 = some 0 := by kernel_rfl
@[simp] theorem sz124 : szOf Tryz.prog 124 = some 1 := by kernel_rfl
@[simp] theorem ag124 : aggOf Tryz.prog 124 = some false := by kernel_rfl
@[simp] theorem by124 : byOf Tryz.prog 124 = some 8 := by kernel_rfl
@[simp] theorem sz126 : szOf Tryz.prog 126 = some 1 := by kernel_rfl
@[simp] theorem ag126 : aggOf Tryz.prog 126 = some false := by kernel_rfl
@[simp] theorem by126 : byOf Tryz.prog 126 = some 24 := by kernel_rfl
@[simp] theorem el126 : elemOf Tryz.prog 126 = some 43 := by kernel_rfl
@[simp] theorem un126 : Tryz.prog.underlying 126 = some (.slice 43) := by kernel_rfl
@[simp] theorem sz128 : szOf Tryz.prog 128 = some 1 := by kernel_rfl
@[simp] theorem ag128 : aggOf Tryz.prog 128 = some false := by kernel_rfl
@[simp] theorem by128 : byOf Tryz.prog 128 = some 0 := by kernel_rfl
@[simp] theorem sz130 : szOf Tryz.prog 130 = some 3 := by kernel_rfl
@[simp] theorem ag130 : aggOf Tryz.prog 130 = some true := by kernel_rfl
@[simp] theorem by130 : byOf Tryz.prog 130 = some 72 := by kernel_rfl
@[simp] theorem fo130_0 : fieldOf Tryz.prog 130 0 = some (0, 3, true) := by kernel_rfl
@[simp] theorem sz134 : szOf Tryz.prog 134 = some 1 := by kernel_rfl
@[simp] theorem ag134 : aggOf Tryz.prog 134 = some false := by kernel_rfl
@[simp] theorem by134 : byOf Tryz.prog 134 = some 8 := by kernel_rfl
@[simp] theorem sz135 : szOf Tryz.prog 135 = some 1 := by kernel_rfl
@[simp] theorem ag135 : aggOf Tryz.prog 135 = some false := by kernel_rfl
@[simp] theorem by135 : byOf Tryz.prog 135 = some 8 := by kernel_rfl
@[simp] theorem sz137 : szOf Tryz.prog 137 = some 7 := by kernel_rfl
@[simp] theorem ag137 : aggOf Tryz.prog 137 = some true := by kernel_rfl
@[simp] theorem by137 : byOf Tryz.prog 137 = some 120 := by kernel_rfl
@[simp] theorem fo137_0 : fieldOf Tryz.prog 137 0 = some (0, 3, true) := by kernel_rfl
@[simp] theorem fo137_1 : fieldOf Tryz.prog 137 1 = some (3, 1, false) := by kernel_rfl
@[simp] theorem fo137_2 : fieldOf Tryz.prog 137 2 = some (4, 1, false) := by kernel_rfl
@[simp] theorem fo137_3 : fieldOf Tryz.prog 137 3 = some (5, 1, false) := by kernel_rfl
@[simp] theorem fo137_4 : fieldOf Tryz.prog 137 4 = some (6, 1, false) := by kernel_rfl
@[simp] theorem sz140 : szOf Tryz.prog 140 = some 1 := by kernel_rfl
@[simp] theorem ag140 : aggOf Tryz.prog 140 = some false := by kernel_rfl
@[simp] theorem by140 : byOf Tryz.prog 140 = some 8 := by kernel_rfl
@[simp] theorem sz142 : szOf Tryz.prog 142 = some 5 := by kernel_rfl
@[simp] theorem ag142 : aggOf Tryz.prog 142 = some true := by kernel_rfl
@[simp] theorem by142 : byOf Tryz.prog 142 = some 104 := by kernel_rfl
@[simp] theorem fo142_0 : fieldOf Tryz.prog 142 0 = some (0, 3, true) := by kernel_rfl
@[simp] theorem fo142_1 : fieldOf Tryz.prog 142 1 = some (3, 1, false) := by kernel_rfl
@[simp] theorem fo142_2 : fieldOf Tryz.prog 142 2 = some (4, 1, false) := by kernel_rfl
@[simp] theorem sz145 : szOf Tryz.prog 145 = some 1 := by kernel_rfl
@[simp] theorem ag145 : aggOf Tryz.prog 145 = some false := by kernel_rfl
@[simp] theorem by145 : byOf Tryz.prog 145 = some 8 := by kernel_rfl
@[simp] theorem sz151 : szOf Tryz.prog 151 = some 1 := by kernel_rfl
@[simp] theorem ag151 : aggOf Tryz.prog 151 = some false := by kernel_rfl
@[simp] theorem by151 : byOf Tryz.prog 151 = some 0 := by kernel_rfl
@[simp] theorem sz161 : szOf Tryz.prog 161 = some 1 := by kernel_rfl
@[simp] theorem ag161 : aggOf Tryz.prog 161 = some false := by kernel_rfl
@[simp] theorem by161 : byOf Tryz.prog 161 = some 8 := by kernel_rfl
@[simp] theorem sz163 : szOf Tryz.prog 163 = some 9 := by kernel_rfl
@[simp] theorem ag163 : aggOf Tryz.prog 163 = some true := by kernel_rfl
@[simp] theorem by163 : byOf Tryz.prog 163 = some 152 := by kernel_rfl
@[simp] theorem fo163_0 : fieldOf Tryz.prog 163 0 = some (0, 1, false) := by kernel_rfl
@[simp] theorem fo163_1 : fieldOf Tryz.prog 163 1 = some (1, 1, false) := by kernel_rfl
@[simp] theorem fo163_2 : fieldOf Tryz.prog 163 2 = some (2, 5, true) := by kernel_rfl
@[simp] theorem fo163_3 : fieldOf Tryz.prog 163 3 = some (7, 1, false) := by kernel_rfl
@[simp] theorem fo163_4 : fieldOf Tryz.prog 163 4 = some (8, 1, false) := by kernel_rfl
@[simp] theorem sz226 : szOf Tryz.prog 226 = some 1 := by kernel_rfl
@[simp] theorem ag226 : aggOf Tryz.prog 226 = some false := by kernel_rfl
@[simp] theorem by226 : byOf Tryz.prog 226 = some 8 := by kernel_rfl
@[simp] theorem sz245 : szOf Tryz.prog 245 = some 5 := by kernel_rfl
@[simp] theorem ag245 : aggOf Tryz.prog 245 = some true := by kernel_rfl
@[simp] theorem by245 : byOf Tryz.prog 245 = some 40 := by kernel_rfl
@[simp] theorem sz246 : szOf Tryz.prog 246 = some 20 := by kernel_rfl
@[simp] theorem ag246 : aggOf Tryz.prog 246 = some true := by kernel_rfl
@[simp] theorem by246 : byOf Tryz.prog 246 = some 160 := by kernel_rfl
@[simp] theorem sz275 : szOf Tryz.prog 275 = some 1 := by kernel_rfl
@[simp] theorem ag275 : aggOf Tryz.prog 275 = some false := by kernel_rfl
@[simp] theorem by275 : byOf Tryz.prog 275 = some 8 := by kernel_rfl
@[simp] theorem sz281 : szOf Tryz.prog 281 = some 1 := by kernel_rfl
@[simp] theorem ag281 : aggOf Tryz.prog 281 = some false := by kernel_rfl
@[simp] theorem by281 : byOf Tryz.prog 281 = some 4 := by kernel_rfl
@[simp] theorem sz290 : szOf Tryz.prog 290 = some 1 := by kernel_rfl
@[simp] theorem ag290 : aggOf Tryz.prog 290 = some false := by kernel_rfl
@[simp] theorem by290 : byOf Tryz.prog 290 = some 8 := by kernel_rfl
@[simp] theorem zz3 : zeroOf Tryz.prog 3 = some (.int .i64 0) := by kernel_rfl
@[simp] theorem zk3 : zOK Tryz.prog 3 1 = true := by kernel_rfl
@[simp] theorem zz4 : zeroOf Tryz.prog 4 = some (.bool false) := by kernel_rfl
@[simp] theorem zk4 : zOK Tryz.prog 4 1 = true := by kernel_rfl
@[simp] theorem zz5 : zeroOf Tryz.prog 5 = some (.int .u8 0) := by kernel_rfl
@[simp] theorem zk5 : zOK Tryz.prog 5 1 = true := by kernel_rfl
@[simp] theorem zz9 : zeroOf Tryz.prog 9 = some (.string ByteArray.empty) := by kernel_rfl
@[simp] theorem zk9 : zOK Tryz.prog 9 1 = true := by kernel_rfl
@[simp] theorem zz22 : zeroOf Tryz.prog 22 = some (.slice none 0 0) := by kernel_rfl
@[simp] theorem zk22 : zOK Tryz.prog 22 1 = true := by kernel_rfl
@[simp] theorem zz23 : zeroOf Tryz.prog 23 = some (.slice none 0 0) := by kernel_rfl
@[simp] theorem zk23 : zOK Tryz.prog 23 1 = true := by kernel_rfl
@[simp] theorem zz24 : zeroOf Tryz.prog 24 = some (.slice none 0 0) := by kernel_rfl
@[simp] theorem zk24 : zOK Tryz.prog 24 1 = true := by kernel_rfl
@[simp] theorem zz26 : zeroOf Tryz.prog 26 = some (.agg #[.string ByteArray.empty, .slice none 0 0, .slice none 0 0, .slice none 0 0]) := by kernel_rfl
@[simp] theorem zz29 : zeroOf Tryz.prog 29 = some (.slice none 0 0) := by kernel_rfl
@[simp] theorem zk29 : zOK Tryz.prog 29 1 = true := by kernel_rfl
@[simp] theorem zz30 : zeroOf Tryz.prog 30 = some (.slice none 0 0) := by kernel_rfl
@[simp] theorem zk30 : zOK Tryz.prog 30 1 = true := by kernel_rfl
@[simp] theorem zz31 : zeroOf Tryz.prog 31 = some (.slice none 0 0) := by kernel_rfl
@[simp] theorem zk31 : zOK Tryz.prog 31 1 = true := by kernel_rfl
@[simp] theorem zz33 : zeroOf Tryz.prog 33 = some (.agg #[.slice none 0 0, .slice none 0 0, .slice none 0 0]) := by kernel_rfl
@[simp] theorem zz34 : zeroOf Tryz.prog 34 = some (.int .i64 0) := by kernel_rfl
@[simp] theorem zk34 : zOK Tryz.prog 34 1 = true := by kernel_rfl
@[simp] theorem zz39 : zeroOf Tryz.prog 39 = some (.int .u16 0) := by kernel_rfl
@[simp] theorem zk39 : zOK Tryz.prog 39 1 = true := by kernel_rfl
@[simp] theorem zz40 : zeroOf Tryz.prog 40 = some (.agg #[.int .u16 0, .int .u16 0, .int .u16 0, .int .u16 0]) := by kernel_rfl
@[simp] theorem zz41 : zeroOf Tryz.prog 41 = some (.agg #[.int .u8 0, .int .u8 0, .int .u8 0, .int .u8 0]) := by kernel_rfl
@[simp] theorem zz42 : zeroOf Tryz.prog 42 = some (.slice none 0 0) := by kernel_rfl
@[simp] theorem zk42 : zOK Tryz.prog 42 1 = true := by kernel_rfl
@[simp] theorem zz43 : zeroOf Tryz.prog 43 = some (.agg #[.int .u8 0, .int .u8 0]) := by kernel_rfl
@[simp] theorem zz44 : zeroOf Tryz.prog 44 = some (.agg #[.int .u8 0, .int .u8 0, .int .u8 0, .int .u8 0]) := by kernel_rfl
@[simp] theorem zz47 : zeroOf Tryz.prog 47 = some (.slice none 0 0) := by kernel_rfl
@[simp] theorem zk47 : zOK Tryz.prog 47 1 = true := by kernel_rfl
@[simp] theorem zz49 : zeroOf Tryz.prog 49 = some (.slice none 0 0) := by kernel_rfl
@[simp] theorem zk49 : zOK Tryz.prog 49 1 = true := by kernel_rfl
@[simp] theorem zz52 : zeroOf Tryz.prog 52 = some (.slice none 0 0) := by kernel_rfl
@[simp] theorem zk52 : zOK Tryz.prog 52 1 = true := by kernel_rfl
@[simp] theorem zz53 : zeroOf Tryz.prog 53 = some (.slice none 0 0) := by kernel_rfl
@[simp] theorem zk53 : zOK Tryz.prog 53 1 = true := by kernel_rfl
@[simp] theorem zz56 : zeroOf Tryz.prog 56 = some (.slice none 0 0) := by kernel_rfl
@[simp] theorem zk56 : zOK Tryz.prog 56 1 = true := by kernel_rfl
@[simp] theorem zz61 : zeroOf Tryz.prog 61 = some (.agg #[.int .i64 0, .slice none 0 0]) := by kernel_rfl
@[simp] theorem zz62 : zeroOf Tryz.prog 62 = some (.int .i64 0) := by kernel_rfl
@[simp] theorem zk62 : zOK Tryz.prog 62 1 = true := by kernel_rfl
@[simp] theorem zz70 : zeroOf Tryz.prog 70 = some (.agg #[.int .i64 0, .int .i64 0]) := by kernel_rfl
@[simp] theorem zz76 : zeroOf Tryz.prog 76 = some (.int .i64 0) := by kernel_rfl
@[simp] theorem zk76 : zOK Tryz.prog 76 1 = true := by kernel_rfl
@[simp] theorem zz78 : zeroOf Tryz.prog 78 = some (.agg #[.int .i64 0, .int .i64 0, .int .i64 0, .int .i64 0]) := by kernel_rfl
@[simp] theorem zz80 : zeroOf Tryz.prog 80 = some (.int .i64 0) := by kernel_rfl
@[simp] theorem zk80 : zOK Tryz.prog 80 1 = true := by kernel_rfl
@[simp] theorem zz81 : zeroOf Tryz.prog 81 = some (.slice none 0 0) := by kernel_rfl
@[simp] theorem zk81 : zOK Tryz.prog 81 1 = true := by kernel_rfl
@[simp] theorem zz83 : zeroOf Tryz.prog 83 = some (.agg #[.int .i64 0, .int .i64 0, .int .i64 0, .int .i64 0, .slice none 0 0]) := by kernel_rfl
@[simp] theorem zz84 : zeroOf Tryz.prog 84 = some (.int .i64 0) := by kernel_rfl
@[simp] theorem zk84 : zOK Tryz.prog 84 1 = true := by kernel_rfl
@[simp] theorem zz85 : zeroOf Tryz.prog 85 = some (.slice none 0 0) := by kernel_rfl
@[simp] theorem zk85 : zOK Tryz.prog 85 1 = true := by kernel_rfl
@[simp] theorem zz86 : zeroOf Tryz.prog 86 = some (.slice none 0 0) := by kernel_rfl
@[simp] theorem zk86 : zOK Tryz.prog 86 1 = true := by kernel_rfl
@[simp] theorem zz88 : zeroOf Tryz.prog 88 = some (.agg #[.int .i64 0, .int .i64 0, .string ByteArray.empty, .slice none 0 0, .slice none 0 0]) := by kernel_rfl
@[simp] theorem zz93 : zeroOf Tryz.prog 93 = some (.slice none 0 0) := by kernel_rfl
@[simp] theorem zk93 : zOK Tryz.prog 93 1 = true := by kernel_rfl
@[simp] theorem zz94 : zeroOf Tryz.prog 94 = some (.slice none 0 0) := by kernel_rfl
@[simp] theorem zk94 : zOK Tryz.prog 94 1 = true := by kernel_rfl
@[simp] theorem zz96 : zeroOf Tryz.prog 96 = some (.agg #[.string ByteArray.empty, .slice none 0 0, .slice none 0 0]) := by kernel_rfl
@[simp] theorem zz99 : zeroOf Tryz.prog 99 = some (.agg #[.string ByteArray.empty, .int .i64 0, .int .i64 0, .int .i64 0, .int .i64 0, .slice none 0 0]) := by kernel_rfl
@[simp] theorem zz101 : zeroOf Tryz.prog 101 = some (.agg #[.string ByteArray.empty, .int .i64 0, .int .i64 0, .string ByteArray.empty, .slice none 0 0, .slice none 0 0]) := by kernel_rfl
@[simp] theorem zz126 : zeroOf Tryz.prog 126 = some (.slice none 0 0) := by kernel_rfl
@[simp] theorem zk126 : zOK Tryz.prog 126 1 = true := by kernel_rfl
@[simp] theorem zz130 : zeroOf Tryz.prog 130 = some (.agg #[.slice none 0 0, .slice none 0 0, .slice none 0 0]) := by kernel_rfl
@[simp] theorem zz137 : zeroOf Tryz.prog 137 = some (.agg #[.slice none 0 0, .slice none 0 0, .slice none 0 0, .int .i64 0, .slice none 0 0, .int .i64 0, .int .i64 0]) := by kernel_rfl
@[simp] theorem zz142 : zeroOf Tryz.prog 142 = some (.agg #[.slice none 0 0, .slice none 0 0, .slice none 0 0, .int .i64 0, .slice none 0 0]) := by kernel_rfl
@[simp] theorem zz161 : zeroOf Tryz.prog 161 = some (.int .i64 0) := by kernel_rfl
@[simp] theorem zk161 : zOK Tryz.prog 161 1 = true := by kernel_rfl
@[simp] theorem zz275 : zeroOf Tryz.prog 275 = some (.int .u64 0) := by kernel_rfl
@[simp] theorem zk275 : zOK Tryz.prog 275 1 = true := by kernel_rfl
@[simp] theorem zz281 : zeroOf Tryz.prog 281 = some (.int .u32 0) := by kernel_rfl
@[simp] theorem zk281 : zOK Tryz.prog 281 1 = true := by kernel_rfl
@[simp] theorem zz290 : zeroOf Tryz.prog 290 = some (.int .u64 0) := by kernel_rfl
@[simp] theorem zk290 : zOK Tryz.prog 290 1 = true := by kernel_rfl
@[simp] theorem un9 : Tryz.prog.underlying 9 = some .string := by kernel_rfl
end Go.Vi
end

section
/- Vi: heads of the functions of layer 11; made by a program of ours (wip/tools/spec2.py). No conditions. -/
namespace Go.Vi
open Go Go.Proofs
set_option maxRecDepth 100000
/-! ### f8: sward/swardlaw11.works -/
@[simp] theorem k8_0 : ch.keep 8 0 = [] := by kernel_rfl
@[simp] theorem k8_1 : ch.keep 8 1 = [1, 2] := by kernel_rfl
@[simp] theorem k8_2 : ch.keep 8 2 = [1, 2, 3, 4] := by kernel_rfl
@[simp] theorem k8_3 : ch.keep 8 3 = [1, 2, 3, 4, 5, 6, 7] := by kernel_rfl
@[simp] theorem k8_4 : ch.keep 8 4 = [1, 2, 3, 4, 5, 6, 7, 8, 9] := by kernel_rfl
@[simp] theorem k8_5 : ch.keep 8 5 = [1, 2, 3, 4, 5, 6, 7, 8, 9, 10, 11] := by kernel_rfl
@[simp] theorem k8_6 : ch.keep 8 6 = [1, 2, 3, 4, 5, 6, 7, 8, 9, 11, 13] := by kernel_rfl
@[simp] theorem k8_7 : ch.keep 8 7 = [98] := by kernel_rfl
@[simp] theorem k8_8 : ch.keep 8 8 = [0] := by kernel_rfl
@[simp] theorem k8_9 : ch.keep 8 9 = [2, 14] := by kernel_rfl
@[simp] theorem k8_10 : ch.keep 8 10 = [2, 4, 14] := by kernel_rfl
@[simp] theorem k8_11 : ch.keep 8 11 = [2, 4, 14, 15, 16] := by kernel_rfl
@[simp] theorem k8_12 : ch.keep 8 12 = [2, 4, 7, 14, 16, 17] := by kernel_rfl
@[simp] theorem k8_13 : ch.keep 8 13 = [0] := by kernel_rfl
@[simp] theorem fl8_13 : ch.fl 8 13 = [0, 0, 0, 0, 0, 0, 0, 0, 0, 0, 0, 0, 0, 0, 0, 0, 0, 0, 1, 1, 0, 0, 0] := by kernel_rfl
noncomputable def code8 : Code := match Tryz.f8.body with | some c => c | none => .skip
theorem rs8 : Tryz.f8.results.toList = [.tmp 0] := rfl
theorem W8_of {args : List D} (ha : args.all (D.noRef 0 0) = true) (hl : args.length ≤ 144) {H : Hp} {o : Out × Hp}
    (h : alone H (fnOut Tryz.prog [.tmp 0] 0 0 (E false ⟨0, 0⟩ 8 code8 (mkF 0 args) H00)) = some o) : W 8 args H = some o :=
  W_of Tryz.func8 rfl (by kernel_rfl) rfl rfl rfl rfl rfl ha (by rw [Tryz.ntmps8]; exact hl) h
/-! ### f19: sward/repr.Cost -/
@[simp] theorem k19_0 : ch.keep 19 0 = [1, 2] := by kernel_rfl
@[simp] theorem k19_1 : ch.keep 19 1 = [1, 2, 6] := by kernel_rfl
@[simp] theorem k19_2 : ch.keep 19 2 = [1, 2, 6, 11] := by kernel_rfl
@[simp] theorem k19_3 : ch.keep 19 3 = [4, 5] := by kernel_rfl
@[simp] theorem k19_4 : ch.keep 19 4 = [4, 5] := by kernel_rfl
noncomputable def code19 : Code := match Tryz.f19.body with | some c => c | none => .skip
theorem rs19 : Tryz.f19.results.toList = [.tmp 4, .tmp 5] := rfl
theorem W19_of {args : List D} (ha : args.all (D.noRef 0 0) = true) (hl : args.length ≤ 17) {H : Hp} {o : Out × Hp}
    (h : alone H (fnOut Tryz.prog [.tmp 4, .tmp 5] 0 0 (E false ⟨0, 0⟩ 19 code19 (mkF 0 args) H00)) = some o) : W 19 args H = some o :=
  W_of Tryz.func19 rfl (by kernel_rfl) rfl rfl rfl rfl rfl ha (by rw [Tryz.ntmps19]; exact hl) h
/-! ### f18: sward/repr.Floor -/
@[simp] theorem k18_0 : ch.keep 18 0 = [1, 2] := by kernel_rfl
@[simp] theorem k18_1 : ch.keep 18 1 = [1, 2, 6] := by kernel_rfl
@[simp] theorem k18_2 : ch.keep 18 2 = [1, 2, 6, 11] := by kernel_rfl
@[simp] theorem k18_3 : ch.keep 18 3 = [4, 5] := by kernel_rfl
@[simp] theorem k18_4 : ch.keep 18 4 = [4, 5] := by kernel_rfl
noncomputable def code18 : Code := match Tryz.f18.body with | some c => c | none => .skip
theorem rs18 : Tryz.f18.results.toList = [.tmp 4, .tmp 5] := rfl
theorem W18_of {args : List D} (ha : args.all (D.noRef 0 0) = true) (hl : args.length ≤ 17) {H : Hp} {o : Out × Hp}
    (h : alone H (fnOut Tryz.prog [.tmp 4, .tmp 5] 0 0 (E false ⟨0, 0⟩ 18 code18 (mkF 0 args) H00)) = some o) : W 18 args H = some o :=
  W_of Tryz.func18 rfl (by kernel_rfl) rfl rfl rfl rfl rfl ha (by rw [Tryz.ntmps18]; exact hl) h
/-! ### f22: sward/repr.Check -/
@[simp] theorem k22_0 : ch.keep 22 0 = [1] := by kernel_rfl
@[simp] theorem k22_1 : ch.keep 22 1 = [1, 3] := by kernel_rfl
@[simp] theorem k22_2 : ch.keep 22 2 = [1, 3, 27] := by kernel_rfl
@[simp] theorem k22_3 : ch.keep 22 3 = [2] := by kernel_rfl
@[simp] theorem k22_4 : ch.keep 22 4 = [1, 3, 29, 30, 31] := by kernel_rfl
@[simp] theorem k22_5 : ch.keep 22 5 = [1, 3, 29, 30, 31, 32] := by kernel_rfl
@[simp] theorem k22_6 : ch.keep 22 6 = [1, 3, 5, 29, 30, 31] := by kernel_rfl
@[simp] theorem k22_7 : ch.keep 22 7 = [1, 3, 29, 30, 31, 48] := by kernel_rfl
@[simp] theorem k22_8 : ch.keep 22 8 = [2] := by kernel_rfl
@[simp] theorem k22_9 : ch.keep 22 9 = [1, 3, 29, 30, 31] := by kernel_rfl
@[simp] theorem k22_10 : ch.keep 22 10 = [1, 3, 51, 52, 53] := by kernel_rfl
@[simp] theorem k22_11 : ch.keep 22 11 = [1, 3, 51, 52, 53, 54] := by kernel_rfl
@[simp] theorem k22_12 : ch.keep 22 12 = [1, 3, 7, 51, 52, 53] := by kernel_rfl
@[simp] theorem k22_13 : ch.keep 22 13 = [1, 3, 7, 8, 51, 52, 53] := by kernel_rfl
@[simp] theorem k22_14 : ch.keep 22 14 = [1, 3, 7, 8, 51, 52, 53, 62] := by kernel_rfl
@[simp] theorem k22_15 : ch.keep 22 15 = [1, 3, 7, 8, 51, 52, 53] := by kernel_rfl
@[simp] theorem k22_16 : ch.keep 22 16 = [1, 3, 51, 52, 53, 104] := by kernel_rfl
@[simp] theorem k22_17 : ch.keep 22 17 = [2] := by kernel_rfl
@[simp] theorem k22_18 : ch.keep 22 18 = [1, 3, 51, 52, 53] := by kernel_rfl
@[simp] theorem k22_19 : ch.keep 22 19 = [3, 107, 108, 109] := by kernel_rfl
@[simp] theorem k22_20 : ch.keep 22 20 = [3, 107, 108, 109, 110] := by kernel_rfl
@[simp] theorem k22_21 : ch.keep 22 21 = [3, 10, 107, 108, 109] := by kernel_rfl
@[simp] theorem k22_22 : ch.keep 22 22 = [3, 107, 108, 109, 134] := by kernel_rfl
@[simp] theorem k22_23 : ch.keep 22 23 = [2] := by kernel_rfl
@[simp] theorem k22_24 : ch.keep 22 24 = [3, 107, 108, 109] := by kernel_rfl
@[simp] theorem k22_25 : ch.keep 22 25 = [2] := by kernel_rfl
noncomputable def code22 : Code := match Tryz.f22.body with | some c => c | none => .skip
noncomputable def lp22_0 : Code := match code22 with | .seq _ (.seq _ (.seq _ (.seq (.seq _ (.block _ (.loop c))) _))) => c | c => c
theorem hd22_0 : ch.head 22 (firstR lp22_0) = [1, 3, 29, 30, 31] := by kernel_rfl
noncomputable def lp22_1 : Code := match code22 with | .seq _ (.seq _ (.seq _ (.seq _ (.seq (.seq _ (.block _ (.loop c))) _)))) => c | c => c
theorem hd22_1 : ch.head 22 (firstR lp22_1) = [1, 3, 51, 52, 53] := by kernel_rfl
noncomputable def lp22_2 : Code := match code22 with | .seq _ (.seq _ (.seq _ (.seq _ (.seq _ (.seq (.seq _ (.block _ (.loop c))) _))))) => c | c => c
theorem hd22_2 : ch.head 22 (firstR lp22_2) = [3, 107, 108, 109] := by kernel_rfl
theorem rs22 : Tryz.f22.results.toList = [.tmp 2] := rfl
theorem W22_of {args : List D} (ha : args.all (D.noRef 0 0) = true) (hl : args.length ≤ 136) {H : Hp} {o : Out × Hp}
    (h : alone H (fnOut Tryz.prog [.tmp 2] 0 0 (E false ⟨0, 0⟩ 22 code22 (mkF 0 args) H00)) = some o) : W 22 args H = some o :=
  W_of Tryz.func22 rfl (by kernel_rfl) rfl rfl rfl rfl rfl ha (by rw [Tryz.ntmps22]; exact hl) h
/-! ### f15: sward/repr.Best -/
@[simp] theorem k15_0 : ch.keep 15 0 = [1] := by kernel_rfl
@[simp] theorem k15_1 : ch.keep 15 1 = [1, 5] := by kernel_rfl
@[simp] theorem k15_2 : ch.keep 15 2 = [1, 5, 11] := by kernel_rfl
@[simp] theorem k15_3 : ch.keep 15 3 = [2, 3, 4] := by kernel_rfl
@[simp] theorem k15_4 : ch.keep 15 4 = [6, 7] := by kernel_rfl
@[simp] theorem k15_5 : ch.keep 15 5 = [6, 7, 24] := by kernel_rfl
@[simp] theorem k15_6 : ch.keep 15 6 = [2, 3, 4] := by kernel_rfl
@[simp] theorem k15_7 : ch.keep 15 7 = [2, 3, 4] := by kernel_rfl
@[simp] theorem fl15_4 : ch.fl 15 4 = [2, 2, 1, 1, 1, 3, 0, 0, 1, 1, 1, 0] := by kernel_rfl
noncomputable def code15 : Code := match Tryz.f15.body with | some c => c | none => .skip
theorem rs15 : Tryz.f15.results.toList = [.tmp 2, .tmp 3, .tmp 4] := rfl
theorem W15_of {args : List D} (ha : args.all (D.noRef 0 0) = true) (hl : args.length ≤ 27) {H : Hp} {o : Out × Hp}
    (h : alone H (fnOut Tryz.prog [.tmp 2, .tmp 3, .tmp 4] 0 0 (E false ⟨0, 0⟩ 15 code15 (mkF 0 args) H00)) = some o)
    (hr : retsD 0 H.A args = some (args, H.A) := by simp [retsD, retD, argD, D.nf, D.pd?]) : W 15 args H = some o :=
  W_ofG Tryz.func15 rfl (by kernel_rfl) rfl (by decide) (by decide) rfl rfl hr ha (by rw [Tryz.ntmps15]; exact hl) h
/-! ### f24: sward/repr.Least -/
@[simp] theorem k24_0 : ch.keep 24 0 = [1, 2, 3] := by kernel_rfl
@[simp] theorem k24_1 : ch.keep 24 1 = [1, 2, 3, 29] := by kernel_rfl
@[simp] theorem k24_2 : ch.keep 24 2 = [6, 7] := by kernel_rfl
@[simp] theorem k24_3 : ch.keep 24 3 = [1, 2, 3, 8] := by kernel_rfl
@[simp] theorem k24_4 : ch.keep 24 4 = [3, 8] := by kernel_rfl
@[simp] theorem k24_5 : ch.keep 24 5 = [9, 10] := by kernel_rfl
@[simp] theorem k24_6 : ch.keep 24 6 = [10, 46] := by kernel_rfl
@[simp] theorem k24_7 : ch.keep 24 7 = [6, 7] := by kernel_rfl
@[simp] theorem k24_8 : ch.keep 24 8 = [6, 7] := by kernel_rfl
noncomputable def code24 : Code := match Tryz.f24.body with | some c => c | none => .skip
theorem rs24 : Tryz.f24.results.toList = [.tmp 6, .tmp 7] := rfl
theorem W24_of {args : List D} (ha : args.all (D.noRef 0 0) = true) (hl : args.length ≤ 48) {H : Hp} {o : Out × Hp}
    (h : alone H (fnOut Tryz.prog [.tmp 6, .tmp 7] 0 0 (E false ⟨0, 0⟩ 24 code24 (mkF 0 args) H00)) = some o)
    (hr : retsD 0 H.A args = some (args, H.A) := by simp [retsD, retD, argD, D.nf, D.pd?]) : W 24 args H = some o :=
  W_ofG Tryz.func24 rfl (by kernel_rfl) rfl (by decide) (by decide) rfl rfl hr ha (by rw [Tryz.ntmps24]; exact hl) h
/-! ### f32: sward/swardref11.Alike -/
@[simp] theorem k32_0 : ch.keep 32 0 = [0, 1] := by kernel_rfl
@[simp] theorem k32_1 : ch.keep 32 1 = [0, 1, 10] := by kernel_rfl
@[simp] theorem k32_2 : ch.keep 32 2 = [4] := by kernel_rfl
@[simp] theorem k32_3 : ch.keep 32 3 = [0, 1, 5] := by kernel_rfl
@[simp] theorem k32_4 : ch.keep 32 4 = [0, 1, 5, 14] := by kernel_rfl
@[simp] theorem k32_5 : ch.keep 32 5 = [0, 1, 5] := by kernel_rfl
@[simp] theorem k32_6 : ch.keep 32 6 = [0, 1, 5, 25] := by kernel_rfl
@[simp] theorem k32_7 : ch.keep 32 7 = [4] := by kernel_rfl
@[simp] theorem k32_8 : ch.keep 32 8 = [4] := by kernel_rfl
@[simp] theorem fl32_6 : ch.fl 32 6 = [1, 1, 1, 1, 1, 1, 1, 1, 0] := by kernel_rfl
noncomputable def code32 : Code := match Tryz.f32.body with | some c => c | none => .skip
noncomputable def lp32_0 : Code := match code32 with | .seq _ (.seq _ (.seq (.seq _ (.block _ (.loop c))) _)) => c | c => c
theorem hd32_0 : ch.head 32 (firstR lp32_0) = [0, 1, 5] := by kernel_rfl
theorem rs32 : Tryz.f32.results.toList = [.tmp 4] := rfl
theorem W32_of {args : List D} (ha : args.all (D.noRef 0 0) = true) (hl : args.length ≤ 26) {H : Hp} {o : Out × Hp}
    (h : alone H (fnOut Tryz.prog [.tmp 4] 0 0 (E false ⟨0, 0⟩ 32 code32 (mkF 0 args) H00)) = some o) : W 32 args H = some o :=
  W_of Tryz.func32 rfl (by kernel_rfl) rfl rfl rfl rfl rfl ha (by rw [Tryz.ntmps32]; exact hl) h
/-! ### f21: sward/repr.Prove -/
@[simp] theorem k21_0 : ch.keep 21 0 = [1] := by kernel_rfl
@[simp] theorem k21_1 : ch.keep 21 1 = [1, 5, 6] := by kernel_rfl
@[simp] theorem k21_2 : ch.keep 21 2 = [1, 5, 6, 15] := by kernel_rfl
@[simp] theorem k21_3 : ch.keep 21 3 = [2, 3] := by kernel_rfl
@[simp] theorem k21_4 : ch.keep 21 4 = [1, 7] := by kernel_rfl
@[simp] theorem k21_5 : ch.keep 21 5 = [7] := by kernel_rfl
@[simp] theorem k21_6 : ch.keep 21 6 = [2, 3] := by kernel_rfl
noncomputable def code21 : Code := match Tryz.f21.body with | some c => c | none => .skip
theorem rs21 : Tryz.f21.results.toList = [.tmp 2, .tmp 3] := rfl
theorem W21_of {args : List D} (ha : args.all (D.noRef 0 0) = true) (hl : args.length ≤ 32) {H : Hp} {o : Out × Hp}
    (h : alone H (fnOut Tryz.prog [.tmp 2, .tmp 3] 0 0 (E true ⟨0, 0⟩ 21 code21 (mkF 0 args) H00)) = some o) : W 21 args H = some o :=
  W_of Tryz.func21 rfl (by kernel_rfl) rfl rfl rfl rfl rfl ha (by rw [Tryz.ntmps21]; exact hl) h
/-! ### f31: sward/swardref11.Accept -/
@[simp] theorem k31_0 : ch.keep 31 0 = [1, 2, 3] := by kernel_rfl
@[simp] theorem k31_1 : ch.keep 31 1 = [1, 2, 3, 12] := by kernel_rfl
@[simp] theorem k31_2 : ch.keep 31 2 = [6, 7] := by kernel_rfl
@[simp] theorem k31_3 : ch.keep 31 3 = [1, 2, 3, 15] := by kernel_rfl
@[simp] theorem k31_4 : ch.keep 31 4 = [6, 7] := by kernel_rfl
@[simp] theorem k31_5 : ch.keep 31 5 = [2, 8, 9] := by kernel_rfl
@[simp] theorem k31_6 : ch.keep 31 6 = [9, 30] := by kernel_rfl
@[simp] theorem k31_7 : ch.keep 31 7 = [6, 7] := by kernel_rfl
@[simp] theorem k31_8 : ch.keep 31 8 = [9, 32] := by kernel_rfl
@[simp] theorem k31_9 : ch.keep 31 9 = [6, 7] := by kernel_rfl
@[simp] theorem k31_10 : ch.keep 31 10 = [6, 7] := by kernel_rfl
@[simp] theorem fl31_5 : ch.fl 31 5 = [2, 2, 2, 1, 1, 1, 3, 0, 0, 1, 1, 1, 0] := by kernel_rfl
noncomputable def code31 : Code := match Tryz.f31.body with | some c => c | none => .skip
theorem rs31 : Tryz.f31.results.toList = [.tmp 6, .tmp 7] := rfl
theorem W31_of {args : List D} (ha : args.all (D.noRef 0 0) = true) (hl : args.length ≤ 34) {H : Hp} {o : Out × Hp}
    (h : alone H (fnOut Tryz.prog [.tmp 6, .tmp 7] 0 0 (E false ⟨0, 0⟩ 31 code31 (mkF 0 args) H00)) = some o) : W 31 args H = some o :=
  W_of Tryz.func31 rfl (by kernel_rfl) rfl rfl rfl rfl rfl ha (by rw [Tryz.ntmps31]; exact hl) h
/-! ### f17: sward/repr.Accept -/
@[simp] theorem k17_0 : ch.keep 17 0 = [1, 2, 3] := by kernel_rfl
@[simp] theorem k17_1 : ch.keep 17 1 = [1, 2, 3, 9] := by kernel_rfl
@[simp] theorem k17_2 : ch.keep 17 2 = [6, 7] := by kernel_rfl
@[simp] theorem k17_3 : ch.keep 17 3 = [1, 2, 3, 13] := by kernel_rfl
@[simp] theorem k17_4 : ch.keep 17 4 = [6, 7] := by kernel_rfl
@[simp] theorem k17_5 : ch.keep 17 5 = [2, 3, 8] := by kernel_rfl
@[simp] theorem k17_6 : ch.keep 17 6 = [8, 23] := by kernel_rfl
@[simp] theorem k17_7 : ch.keep 17 7 = [6, 7] := by kernel_rfl
@[simp] theorem k17_8 : ch.keep 17 8 = [8, 40] := by kernel_rfl
@[simp] theorem k17_9 : ch.keep 17 9 = [6, 7] := by kernel_rfl
@[simp] theorem k17_10 : ch.keep 17 10 = [6, 7] := by kernel_rfl
noncomputable def code17 : Code := match Tryz.f17.body with | some c => c | none => .skip
theorem rs17 : Tryz.f17.results.toList = [.tmp 6, .tmp 7] := rfl
theorem W17_of {args : List D} (ha : args.all (D.noRef 0 0) = true) (hl : args.length ≤ 50) {H : Hp} {o : Out × Hp}
    (h : alone H (fnOut Tryz.prog [.tmp 6, .tmp 7] 0 0 (E false ⟨0, 0⟩ 17 code17 (mkF 0 args) H00)) = some o) : W 17 args H = some o :=
  W_of Tryz.func17 rfl (by kernel_rfl) rfl rfl rfl rfl rfl ha (by rw [Tryz.ntmps17]; exact hl) h
/-! ### f30: sward/swardlaw11.forms -/
@[simp] theorem k30_0 : ch.keep 30 0 = [0] := by kernel_rfl
@[simp] theorem k30_1 : ch.keep 30 1 = [2] := by kernel_rfl
noncomputable def code30 : Code := match Tryz.f30.body with | some c => c | none => .skip
theorem rs30 : Tryz.f30.results.toList = [.tmp 2] := rfl
theorem W30_of {args : List D} (ha : args.all (D.noRef 0 0) = true) (hl : args.length ≤ 4) {H : Hp} {o : Out × Hp}
    (h : alone H (fnOut Tryz.prog [.tmp 2] 0 0 (E false ⟨0, 0⟩ 30 code30 (mkF 0 args) H00)) = some o) : W 30 args H = some o :=
  W_of Tryz.func30 rfl (by kernel_rfl) rfl rfl rfl rfl rfl ha (by rw [Tryz.ntmps30]; exact hl) h
/-! ### f29: sward/swardlaw11.P -/
@[simp] theorem k29_0 : ch.keep 29 0 = [0, 2] := by kernel_rfl
@[simp] theorem k29_1 : ch.keep 29 1 = [0, 2, 3] := by kernel_rfl
@[simp] theorem k29_2 : ch.keep 29 2 = [0, 2, 3, 4] := by kernel_rfl
@[simp] theorem k29_3 : ch.keep 29 3 = [2] := by kernel_rfl
noncomputable def code29 : Code := match Tryz.f29.body with | some c => c | none => .skip
theorem rs29 : Tryz.f29.results.toList = [.cell 2 33] := rfl
theorem W29_of {args : List D} (ha : args.all (D.noRef 0 0) = true) (hl : args.length ≤ 24) {H : Hp} {o : Out × Hp}
    (h : alone H (fnOut Tryz.prog [.cell 2 33] 0 0 (E false ⟨0, 0⟩ 29 code29 (mkF 0 args) H00)) = some o) : W 29 args H = some o :=
  W_of Tryz.func29 rfl (by kernel_rfl) rfl rfl rfl rfl rfl ha (by rw [Tryz.ntmps29]; exact hl) h
/-! ### f33: sward/swardlaw11.numbers -/
@[simp] theorem k33_0 : ch.keep 33 0 = [0] := by kernel_rfl
@[simp] theorem k33_1 : ch.keep 33 1 = [2] := by kernel_rfl
noncomputable def code33 : Code := match Tryz.f33.body with | some c => c | none => .skip
theorem rs33 : Tryz.f33.results.toList = [.tmp 2] := rfl
theorem W33_ofN {args : List D} {H : Hp} (hp : ¬ (ch.pure 33 = true ∧ args.all (D.noRef 0 0) = true)) (hl : args.length ≤ 4) {o : Out × Hp}
    (h : fnOutN Tryz.prog [.tmp 2] H.B.length H.A.length (E false ⟨0, 0⟩ 33 code33 (mkF 0 args) H) = some o) : W 33 args H = some o :=
  W_ofN Tryz.func33 rfl (by kernel_rfl) rfl rfl rfl rfl hp (by rw [Tryz.ntmps33]; exact hl) h
/-! ### f58: sward/repr.parted -/
@[simp] theorem k58_0 : ch.keep 58 0 = [1, 3, 5] := by kernel_rfl
@[simp] theorem k58_1 : ch.keep 58 1 = [1, 3, 5, 7] := by kernel_rfl
@[simp] theorem k58_2 : ch.keep 58 2 = [6] := by kernel_rfl
@[simp] theorem k58_3 : ch.keep 58 3 = [1, 3, 19] := by kernel_rfl
@[simp] theorem k58_4 : ch.keep 58 4 = [6] := by kernel_rfl
@[simp] theorem k58_5 : ch.keep 58 5 = [23] := by kernel_rfl
@[simp] theorem k58_6 : ch.keep 58 6 = [6] := by kernel_rfl
@[simp] theorem k58_7 : ch.keep 58 7 = [6] := by kernel_rfl
noncomputable def code58 : Code := match Tryz.f58.body with | some c => c | none => .skip
theorem rs58 : Tryz.f58.results.toList = [.tmp 6] := rfl
theorem W58_of {args : List D} (ha : args.all (D.noRef 0 0) = true) (hl : args.length ≤ 29) {H : Hp} {o : Out × Hp}
    (h : alone H (fnOut Tryz.prog [.tmp 6] 0 0 (E false ⟨0, 0⟩ 58 code58 (mkF 0 args) H00)) = some o) : W 58 args H = some o :=
  W_of Tryz.func58 rfl (by kernel_rfl) rfl rfl rfl rfl rfl ha (by rw [Tryz.ntmps58]; exact hl) h
/-! ### f59: (sward/repr.problem).floor -/
@[simp] theorem k59_0 : ch.keep 59 0 = [1, 2] := by kernel_rfl
@[simp] theorem k59_1 : ch.keep 59 1 = [1, 2, 5] := by kernel_rfl
@[simp] theorem k59_2 : ch.keep 59 2 = [1, 2, 5, 17, 18, 19] := by kernel_rfl
@[simp] theorem k59_3 : ch.keep 59 3 = [1, 2, 5, 17, 18, 19, 20] := by kernel_rfl
@[simp] theorem k59_4 : ch.keep 59 4 = [1, 2, 5, 7, 17, 18, 19] := by kernel_rfl
@[simp] theorem k59_5 : ch.keep 59 5 = [1, 2, 5, 7, 8, 17, 18, 19] := by kernel_rfl
@[simp] theorem k59_6 : ch.keep 59 6 = [1, 2, 5, 7, 8, 17, 18, 19, 27, 28, 29] := by kernel_rfl
@[simp] theorem k59_7 : ch.keep 59 7 = [1, 2, 5, 7, 8, 17, 18, 19, 27, 28, 29, 30] := by kernel_rfl
@[simp] theorem k59_8 : ch.keep 59 8 = [1, 2, 5, 7, 8, 10, 17, 18, 19, 27, 28, 29] := by kernel_rfl
@[simp] theorem k59_9 : ch.keep 59 9 = [1, 2, 5, 7, 8, 10, 11, 17, 18, 19, 27, 28, 29] := by kernel_rfl
@[simp] theorem k59_10 : ch.keep 59 10 = [1, 2, 5, 7, 8, 10, 11, 17, 18, 19, 27, 28, 29, 44] := by kernel_rfl
@[simp] theorem k59_11 : ch.keep 59 11 = [1, 2, 5, 7, 8, 10, 11, 17, 18, 19, 27, 28, 29] := by kernel_rfl
@[simp] theorem k59_12 : ch.keep 59 12 = [1, 2, 5, 7, 8, 10, 17, 18, 19, 27, 28, 29, 50, 51, 52] := by kernel_rfl
@[simp] theorem k59_13 : ch.keep 59 13 = [1, 2, 5, 7, 8, 10, 17, 18, 19, 27, 28, 29, 50, 51, 52, 53] := by kernel_rfl
@[simp] theorem k59_14 : ch.keep 59 14 = [1, 2, 5, 7, 8, 10, 13, 17, 18, 19, 27, 28, 29, 50, 51, 52] := by kernel_rfl
@[simp] theorem k59_15 : ch.keep 59 15 = [1, 2, 5, 7, 8, 10, 14, 17, 18, 19, 27, 28, 29, 50, 51, 52] := by kernel_rfl
@[simp] theorem k59_16 : ch.keep 59 16 = [1, 2, 5, 7, 8, 10, 14, 17, 18, 19, 27, 28, 29, 50, 51, 52, 67] := by kernel_rfl
@[simp] theorem k59_17 : ch.keep 59 17 = [1, 2, 5, 7, 8, 10, 17, 18, 19, 27, 28, 29, 50, 51, 52] := by kernel_rfl
@[simp] theorem k59_18 : ch.keep 59 18 = [1, 2, 5, 7, 8, 10, 17, 18, 19, 27, 28, 29, 50, 51, 52] := by kernel_rfl
@[simp] theorem k59_19 : ch.keep 59 19 = [1, 2, 5, 7, 8, 17, 18, 19, 27, 28, 29] := by kernel_rfl
@[simp] theorem k59_20 : ch.keep 59 20 = [1, 2, 5, 17, 18, 19] := by kernel_rfl
@[simp] theorem k59_21 : ch.keep 59 21 = [1, 2, 5, 17, 18, 19] := by kernel_rfl
@[simp] theorem k59_22 : ch.keep 59 22 = [4] := by kernel_rfl
noncomputable def code59 : Code := match Tryz.f59.body with | some c => c | none => .skip
noncomputable def lp59_0 : Code := match code59 with | .seq _ (.seq _ (.seq (.seq _ (.block _ (.loop c))) _)) => c | c => c
theorem hd59_0 : ch.head 59 (firstR lp59_0) = [1, 2, 5, 17, 18, 19] := by kernel_rfl
noncomputable def lp59_1 : Code := match code59 with | .seq _ (.seq _ (.seq (.seq _ (.block _ (.loop (.seq _ (.seq _ (.seq (.block _ (.seq _ (.seq _ (.seq (.seq _ (.block _ (.loop c))) _)))) _)))))) _)) => c | c => c
theorem hd59_1 : ch.head 59 (firstR lp59_1) = [1, 2, 5, 7, 8, 17, 18, 19, 27, 28, 29] := by kernel_rfl
noncomputable def lp59_2 : Code := match code59 with | .seq _ (.seq _ (.seq (.seq _ (.block _ (.loop (.seq _ (.seq _ (.seq (.block _ (.seq _ (.seq _ (.seq (.seq _ (.block _ (.loop (.seq _ (.seq _ (.seq (.block _ (.seq _ (.seq _ (.seq _ (.seq _ (.block _ (.loop c))))))) _)))))) _)))) _)))))) _)) => c | c => c
theorem hd59_2 : ch.head 59 (firstR lp59_2) = [1, 2, 5, 7, 8, 10, 17, 18, 19, 27, 28, 29, 50, 51, 52] := by kernel_rfl
theorem rs59 : Tryz.f59.results.toList = [.tmp 4] := rfl
theorem W59_lend {args xs : List D} {A1 : List Arr} {H : Hp} (hargs : argsD false H.A args = some (xs, A1)) (ha : xs.all (D.noRef 0 0) = true) (hl : xs.length ≤ 79) {o : Out × Hp}
    (h : lent H (fnOut Tryz.prog [.tmp 4] 0 0 (E false ⟨0, 0⟩ 59 code59 (mkF 0 xs) H00)) = some o) : W 59 args H = some o :=
  W_lend Tryz.func59 rfl (by kernel_rfl) rfl rfl rfl rfl hargs ha (by rw [Tryz.ntmps59]; exact hl) h
/-! ### f102: sward/swardref11.Bound -/
@[simp] theorem k102_0 : ch.keep 102 0 = [1, 2] := by kernel_rfl
@[simp] theorem k102_1 : ch.keep 102 1 = [1, 2, 5] := by kernel_rfl
@[simp] theorem k102_2 : ch.keep 102 2 = [1, 2, 5, 6] := by kernel_rfl
@[simp] theorem k102_3 : ch.keep 102 3 = [1, 2, 5, 6, 11] := by kernel_rfl
@[simp] theorem k102_4 : ch.keep 102 4 = [1, 2, 5, 6] := by kernel_rfl
@[simp] theorem k102_5 : ch.keep 102 5 = [1, 2, 5, 6] := by kernel_rfl
@[simp] theorem k102_6 : ch.keep 102 6 = [4] := by kernel_rfl
@[simp] theorem fl102_5 : ch.fl 102 5 = [1, 1, 1, 1, 1, 1, 1, 1, 1, 1, 1, 1, 1, 1, 1, 1, 0, 0] := by kernel_rfl
noncomputable def code102 : Code := match Tryz.f102.body with | some c => c | none => .skip
noncomputable def lp102_0 : Code := match code102 with | .seq _ (.seq _ (.seq (.seq _ (.block _ (.loop c))) _)) => c | c => c
theorem hd102_0 : ch.head 102 (firstR lp102_0) = [1, 2, 5, 6] := by kernel_rfl
theorem rs102 : Tryz.f102.results.toList = [.tmp 4] := rfl
theorem W102_of {args : List D} (ha : args.all (D.noRef 0 0) = true) (hl : args.length ≤ 32) {H : Hp} {o : Out × Hp}
    (h : alone H (fnOut Tryz.prog [.tmp 4] 0 0 (E false ⟨0, 0⟩ 102 code102 (mkF 0 args) H00)) = some o) : W 102 args H = some o :=
  W_of Tryz.func102 rfl (by kernel_rfl) rfl rfl rfl rfl rfl ha (by rw [Tryz.ntmps102]; exact hl) h
/-! ### f61: sward/repr.formed -/
@[simp] theorem k61_0 : ch.keep 61 0 = [0] := by kernel_rfl
@[simp] theorem k61_1 : ch.keep 61 1 = [0, 5, 6, 7] := by kernel_rfl
@[simp] theorem k61_2 : ch.keep 61 2 = [0, 5, 6, 7, 8] := by kernel_rfl
@[simp] theorem k61_3 : ch.keep 61 3 = [0, 3, 4, 5, 6, 7] := by kernel_rfl
@[simp] theorem k61_4 : ch.keep 61 4 = [0, 5, 6, 7, 27] := by kernel_rfl
@[simp] theorem k61_5 : ch.keep 61 5 = [2] := by kernel_rfl
@[simp] theorem k61_6 : ch.keep 61 6 = [0, 5, 6, 7] := by kernel_rfl
@[simp] theorem k61_7 : ch.keep 61 7 = [2] := by kernel_rfl
noncomputable def code61 : Code := match Tryz.f61.body with | some c => c | none => .skip
noncomputable def lp61_0 : Code := match code61 with | .seq _ (.seq (.seq _ (.block _ (.loop c))) _) => c | c => c
theorem hd61_0 : ch.head 61 (firstR lp61_0) = [0, 5, 6, 7] := by kernel_rfl
theorem rs61 : Tryz.f61.results.toList = [.tmp 2] := rfl
theorem W61_of {args : List D} (ha : args.all (D.noRef 0 0) = true) (hl : args.length ≤ 32) {H : Hp} {o : Out × Hp}
    (h : alone H (fnOut Tryz.prog [.tmp 2] 0 0 (E false ⟨0, 0⟩ 61 code61 (mkF 0 args) H00)) = some o) : W 61 args H = some o :=
  W_of Tryz.func61 rfl (by kernel_rfl) rfl rfl rfl rfl rfl ha (by rw [Tryz.ntmps61]; exact hl) h
/-! ### f62: sward/repr.two -/
@[simp] theorem k62_0 : ch.keep 62 0 = [0] := by kernel_rfl
@[simp] theorem k62_1 : ch.keep 62 1 = [2] := by kernel_rfl
noncomputable def code62 : Code := match Tryz.f62.body with | some c => c | none => .skip
theorem rs62 : Tryz.f62.results.toList = [.tmp 2] := rfl
theorem W62_of {args : List D} (ha : args.all (D.noRef 0 0) = true) (hl : args.length ≤ 9) {H : Hp} {o : Out × Hp}
    (h : alone H (fnOut Tryz.prog [.tmp 2] 0 0 (E false ⟨0, 0⟩ 62 code62 (mkF 0 args) H00)) = some o) : W 62 args H = some o :=
  W_of Tryz.func62 rfl (by kernel_rfl) rfl rfl rfl rfl rfl ha (by rw [Tryz.ntmps62]; exact hl) h
/-! ### f12: sward/swardref11.Formed -/
@[simp] theorem k12_0 : ch.keep 12 0 = [1] := by kernel_rfl
@[simp] theorem k12_1 : ch.keep 12 1 = [1, 3] := by kernel_rfl
@[simp] theorem k12_2 : ch.keep 12 2 = [1, 3, 25] := by kernel_rfl
@[simp] theorem k12_3 : ch.keep 12 3 = [2] := by kernel_rfl
@[simp] theorem k12_4 : ch.keep 12 4 = [1, 3, 4] := by kernel_rfl
@[simp] theorem k12_5 : ch.keep 12 5 = [1, 3, 4, 28] := by kernel_rfl
@[simp] theorem k12_6 : ch.keep 12 6 = [1, 3, 4] := by kernel_rfl
@[simp] theorem k12_7 : ch.keep 12 7 = [1, 3, 4, 48] := by kernel_rfl
@[simp] theorem k12_8 : ch.keep 12 8 = [2] := by kernel_rfl
@[simp] theorem k12_9 : ch.keep 12 9 = [1, 3, 5] := by kernel_rfl
@[simp] theorem k12_10 : ch.keep 12 10 = [1, 3, 5, 53] := by kernel_rfl
@[simp] theorem k12_11 : ch.keep 12 11 = [1, 3, 5] := by kernel_rfl
@[simp] theorem k12_12 : ch.keep 12 12 = [1, 3, 5, 63] := by kernel_rfl
@[simp] theorem k12_13 : ch.keep 12 13 = [2] := by kernel_rfl
@[simp] theorem k12_14 : ch.keep 12 14 = [1, 3, 6] := by kernel_rfl
@[simp] theorem k12_15 : ch.keep 12 15 = [1, 3, 6, 68] := by kernel_rfl
@[simp] theorem k12_16 : ch.keep 12 16 = [1, 3, 6] := by kernel_rfl
@[simp] theorem k12_17 : ch.keep 12 17 = [1, 3, 6, 7, 8] := by kernel_rfl
@[simp] theorem k12_18 : ch.keep 12 18 = [1, 3, 6, 99] := by kernel_rfl
@[simp] theorem k12_19 : ch.keep 12 19 = [2] := by kernel_rfl
@[simp] theorem k12_20 : ch.keep 12 20 = [2] := by kernel_rfl
@[simp] theorem fl12_17 : ch.fl 12 17 = [1, 1, 1, 1, 1, 1, 1, 1, 1, 1, 1, 1, 1, 0] := by kernel_rfl
noncomputable def code12 : Code := match Tryz.f12.body with | some c => c | none => .skip
noncomputable def lp12_0 : Code := match code12 with | .seq _ (.seq _ (.seq _ (.seq (.seq _ (.block _ (.loop c))) _))) => c | c => c
theorem hd12_0 : ch.head 12 (firstR lp12_0) = [1, 3, 4] := by kernel_rfl
noncomputable def lp12_1 : Code := match code12 with | .seq _ (.seq _ (.seq _ (.seq _ (.seq (.seq _ (.block _ (.loop c))) _)))) => c | c => c
theorem hd12_1 : ch.head 12 (firstR lp12_1) = [1, 3, 5] := by kernel_rfl
noncomputable def lp12_2 : Code := match code12 with | .seq _ (.seq _ (.seq _ (.seq _ (.seq _ (.seq (.seq _ (.block _ (.loop c))) _))))) => c | c => c
theorem hd12_2 : ch.head 12 (firstR lp12_2) = [1, 3, 6] := by kernel_rfl
theorem rs12 : Tryz.f12.results.toList = [.tmp 2] := rfl
theorem W12_of {args : List D} (ha : args.all (D.noRef 0 0) = true) (hl : args.length ≤ 100) {H : Hp} {o : Out × Hp}
    (h : alone H (fnOut Tryz.prog [.tmp 2] 0 0 (E false ⟨0, 0⟩ 12 code12 (mkF 0 args) H00)) = some o) : W 12 args H = some o :=
  W_of Tryz.func12 rfl (by kernel_rfl) rfl rfl rfl rfl rfl ha (by rw [Tryz.ntmps12]; exact hl) h
/-! ### f51: (sward/repr.problem).cheapest -/
@[simp] theorem k51_0 : ch.keep 51 0 = [1, 2] := by kernel_rfl
@[simp] theorem k51_1 : ch.keep 51 1 = [4, 5] := by kernel_rfl
@[simp] theorem fl51_1 : ch.fl 51 1 = [2, 1, 3, 0, 1, 1, 0, 0] := by kernel_rfl
noncomputable def code51 : Code := match Tryz.f51.body with | some c => c | none => .skip
theorem rs51 : Tryz.f51.results.toList = [.tmp 4, .tmp 5] := rfl
theorem W51_ofN {args : List D} {H : Hp} (hp : ¬ (ch.pure 51 = true ∧ args.all (D.noRef 0 0) = true)) (hl : args.length ≤ 12) {o : Out × Hp}
    (h : fnOutN Tryz.prog [.tmp 4, .tmp 5] H.B.length H.A.length (E false ⟨0, 0⟩ 51 code51 (mkF 0 args) H) = some o) : W 51 args H = some o :=
  W_ofN Tryz.func51 rfl (by kernel_rfl) rfl rfl rfl rfl hp (by rw [Tryz.ntmps51]; exact hl) h
/-! ### f63: sward/repr.form -/
@[simp] theorem k63_0 : ch.keep 63 0 = [0] := by kernel_rfl
@[simp] theorem k63_1 : ch.keep 63 1 = [2] := by kernel_rfl
noncomputable def code63 : Code := match Tryz.f63.body with | some c => c | none => .skip
theorem rs63 : Tryz.f63.results.toList = [.tmp 2] := rfl
theorem W63_of {args : List D} (ha : args.all (D.noRef 0 0) = true) (hl : args.length ≤ 9) {H : Hp} {o : Out × Hp}
    (h : alone H (fnOut Tryz.prog [.tmp 2] 0 0 (E false ⟨0, 0⟩ 63 code63 (mkF 0 args) H00)) = some o) : W 63 args H = some o :=
  W_of Tryz.func63 rfl (by kernel_rfl) rfl rfl rfl rfl rfl ha (by rw [Tryz.ntmps63]; exact hl) h
/-! ### f47: sward/swardref11.in -/
@[simp] theorem k47_0 : ch.keep 47 0 = [0, 1, 2] := by kernel_rfl
@[simp] theorem k47_1 : ch.keep 47 1 = [6] := by kernel_rfl
noncomputable def code47 : Code := match Tryz.f47.body with | some c => c | none => .skip
theorem rs47 : Tryz.f47.results.toList = [.tmp 6] := rfl
theorem W47_of {args : List D} (ha : args.all (D.noRef 0 0) = true) (hl : args.length ≤ 15) {H : Hp} {o : Out × Hp}
    (h : alone H (fnOut Tryz.prog [.tmp 6] 0 0 (E false ⟨0, 0⟩ 47 code47 (mkF 0 args) H00)) = some o) : W 47 args H = some o :=
  W_of Tryz.func47 rfl (by kernel_rfl) rfl rfl rfl rfl rfl ha (by rw [Tryz.ntmps47]; exact hl) h
/-! ### f90: sward/swardref11.five -/
@[simp] theorem k90_0 : ch.keep 90 0 = [0] := by kernel_rfl
@[simp] theorem k90_1 : ch.keep 90 1 = [2] := by kernel_rfl
noncomputable def code90 : Code := match Tryz.f90.body with | some c => c | none => .skip
theorem rs90 : Tryz.f90.results.toList = [.tmp 2] := rfl
theorem W90_of {args : List D} (ha : args.all (D.noRef 0 0) = true) (hl : args.length ≤ 9) {H : Hp} {o : Out × Hp}
    (h : alone H (fnOut Tryz.prog [.tmp 2] 0 0 (E false ⟨0, 0⟩ 90 code90 (mkF 0 args) H00)) = some o) : W 90 args H = some o :=
  W_of Tryz.func90 rfl (by kernel_rfl) rfl rfl rfl rfl rfl ha (by rw [Tryz.ntmps90]; exact hl) h
/-! ### f60: (*sward/repr.proof).grow -/
@[simp] theorem k60_0 : ch.keep 60 0 = [0, 1, 4] := by kernel_rfl
@[simp] theorem k60_1 : ch.keep 60 1 = [0, 1, 4, 32] := by kernel_rfl
@[simp] theorem k60_2 : ch.keep 60 2 = [] := by kernel_rfl
@[simp] theorem k60_3 : ch.keep 60 3 = [0, 1, 4] := by kernel_rfl
@[simp] theorem k60_4 : ch.keep 60 4 = [0, 1, 4, 61, 62, 63] := by kernel_rfl
@[simp] theorem k60_5 : ch.keep 60 5 = [0, 1, 4, 61, 62, 63, 64] := by kernel_rfl
@[simp] theorem k60_6 : ch.keep 60 6 = [0, 1, 4, 6, 61, 62, 63] := by kernel_rfl
@[simp] theorem k60_7 : ch.keep 60 7 = [0, 1, 4, 61, 62, 63] := by kernel_rfl
@[simp] theorem k60_8 : ch.keep 60 8 = [0, 1, 4, 61, 62, 63] := by kernel_rfl
@[simp] theorem k60_9 : ch.keep 60 9 = [0, 1, 4, 61, 62, 63] := by kernel_rfl
@[simp] theorem k60_10 : ch.keep 60 10 = [] := by kernel_rfl
@[simp] theorem fl60_1 : ch.fl 60 1 = [0, 0, 0, 1, 1, 1, 1, 1, 0, 0, 0, 0, 1, 1, 1, 1, 1, 1, 1, 1, 1, 1, 0, 0] := by kernel_rfl
noncomputable def code60 : Code := match Tryz.f60.body with | some c => c | none => .skip
noncomputable def lp60_0 : Code := match code60 with | .seq _ (.seq _ (.seq _ (.seq (.seq _ (.block _ (.loop c))) _))) => c | c => c
theorem hd60_0 : ch.head 60 (firstR lp60_0) = [0, 1, 4, 61, 62, 63] := by kernel_rfl
theorem rs60 : Tryz.f60.results.toList = [] := rfl
theorem W60_of {args : List D} (ha : args.all (D.noRef 0 0) = true) (hl : args.length ≤ 78) {H : Hp} {o : Out × Hp}
    (h : alone H (fnOut Tryz.prog [] 0 0 (E true ⟨0, 0⟩ 60 code60 (mkF 0 args) H00)) = some o) : W 60 args H = some o :=
  W_of Tryz.func60 rfl (by kernel_rfl) rfl rfl rfl rfl rfl ha (by rw [Tryz.ntmps60]; exact hl) h
/-! ### f71: sward/swardref11.tree -/
@[simp] theorem k71_0 : ch.keep 71 0 = [1, 2, 3, 4, 5] := by kernel_rfl
@[simp] theorem k71_1 : ch.keep 71 1 = [1, 2, 3, 4, 5, 35] := by kernel_rfl
@[simp] theorem k71_2 : ch.keep 71 2 = [10, 11] := by kernel_rfl
@[simp] theorem k71_3 : ch.keep 71 3 = [1, 2, 3, 4, 5, 12] := by kernel_rfl
@[simp] theorem k71_4 : ch.keep 71 4 = [1, 2, 3, 4, 5, 12, 41] := by kernel_rfl
@[simp] theorem k71_5 : ch.keep 71 5 = [3, 51] := by kernel_rfl
@[simp] theorem k71_6 : ch.keep 71 6 = [10, 11] := by kernel_rfl
@[simp] theorem k71_7 : ch.keep 71 7 = [10, 11] := by kernel_rfl
@[simp] theorem k71_8 : ch.keep 71 8 = [1, 2, 3, 4, 5, 12, 61] := by kernel_rfl
@[simp] theorem k71_9 : ch.keep 71 9 = [10, 11] := by kernel_rfl
@[simp] theorem k71_10 : ch.keep 71 10 = [1, 2, 4, 5, 12, 13, 14] := by kernel_rfl
@[simp] theorem k71_11 : ch.keep 71 11 = [1, 2, 4, 5, 12, 13, 14, 15] := by kernel_rfl
@[simp] theorem k71_12 : ch.keep 71 12 = [1, 2, 4, 5, 12, 13, 14, 15, 16] := by kernel_rfl
@[simp] theorem k71_13 : ch.keep 71 13 = [1, 2, 4, 5, 12, 13, 14, 15, 16, 73] := by kernel_rfl
@[simp] theorem k71_14 : ch.keep 71 14 = [1, 2, 4, 5, 12, 13, 14, 15, 16] := by kernel_rfl
@[simp] theorem k71_15 : ch.keep 71 15 = [1, 2, 4, 5, 12, 13, 14, 15, 16, 17] := by kernel_rfl
@[simp] theorem k71_16 : ch.keep 71 16 = [1, 2, 4, 5, 12, 13, 14, 15, 16, 17] := by kernel_rfl
@[simp] theorem k71_17 : ch.keep 71 17 = [1, 2, 4, 5, 12, 14, 15, 16, 18, 19] := by kernel_rfl
@[simp] theorem k71_18 : ch.keep 71 18 = [1, 2, 4, 5, 12, 14, 15, 16, 18, 19, 95] := by kernel_rfl
@[simp] theorem k71_19 : ch.keep 71 19 = [10, 11] := by kernel_rfl
@[simp] theorem k71_20 : ch.keep 71 20 = [1, 2, 4, 5, 12, 14, 15, 16, 18, 19, 97] := by kernel_rfl
@[simp] theorem k71_21 : ch.keep 71 21 = [1, 2, 4, 5, 12, 14, 15, 16, 18] := by kernel_rfl
@[simp] theorem k71_22 : ch.keep 71 22 = [1, 2, 4, 5, 12, 13, 14, 15, 16] := by kernel_rfl
@[simp] theorem k71_23 : ch.keep 71 23 = [10, 11] := by kernel_rfl
@[simp] theorem fl71_1 : ch.fl 71 1 = [1, 1, 1, 0, 0, 1, 1, 1, 1, 1, 1, 1, 1, 0, 0, 0] := by kernel_rfl
noncomputable def code71 : Code := match Tryz.f71.body with | some c => c | none => .skip
noncomputable def lp71_0 : Code := match code71 with | .seq _ (.seq _ (.seq _ (.seq _ (.seq _ (.seq _ (.seq _ (.seq (.seq _ (.block _ (.loop c))) _))))))) => c | c => c
theorem hd71_0 : ch.head 71 (firstR lp71_0) = [1, 2, 4, 5, 12, 13, 14, 15, 16] := by kernel_rfl
theorem rs71 : Tryz.f71.results.toList = [.tmp 10, .tmp 11] := rfl
theorem W71_of {args : List D} (ha : args.all (D.noRef 0 0) = true) (hl : args.length ≤ 102) {H : Hp} {o : Out × Hp}
    (h : alone H (fnOut Tryz.prog [.tmp 10, .tmp 11] 0 0 (E true ⟨0, 0⟩ 71 code71 (mkF 0 args) H00)) = some o) : W 71 args H = some o :=
  W_of Tryz.func71 rfl (by kernel_rfl) rfl rfl rfl rfl rfl ha (by rw [Tryz.ntmps71]; exact hl) h
/-! ### f57: (*sward/repr.reader).tree -/
@[simp] theorem k57_0 : ch.keep 57 0 = [0, 1] := by kernel_rfl
@[simp] theorem k57_1 : ch.keep 57 1 = [0, 1, 19] := by kernel_rfl
@[simp] theorem k57_2 : ch.keep 57 2 = [4] := by kernel_rfl
@[simp] theorem k57_3 : ch.keep 57 3 = [0, 1, 5] := by kernel_rfl
@[simp] theorem k57_4 : ch.keep 57 4 = [0, 1, 5] := by kernel_rfl
@[simp] theorem k57_5 : ch.keep 57 5 = [0, 1, 5, 37] := by kernel_rfl
@[simp] theorem k57_6 : ch.keep 57 6 = [0, 65] := by kernel_rfl
@[simp] theorem k57_7 : ch.keep 57 7 = [] := by kernel_rfl
@[simp] theorem k57_8 : ch.keep 57 8 = [4] := by kernel_rfl
@[simp] theorem k57_9 : ch.keep 57 9 = [0, 1, 5, 74] := by kernel_rfl
@[simp] theorem k57_10 : ch.keep 57 10 = [4] := by kernel_rfl
@[simp] theorem k57_11 : ch.keep 57 11 = [0, 1, 5, 6] := by kernel_rfl
@[simp] theorem k57_12 : ch.keep 57 12 = [0, 1, 5, 6, 7] := by kernel_rfl
@[simp] theorem k57_13 : ch.keep 57 13 = [1, 5, 6, 7, 101, 102, 103] := by kernel_rfl
@[simp] theorem k57_14 : ch.keep 57 14 = [1, 5, 6, 7, 101, 102, 103, 104] := by kernel_rfl
@[simp] theorem k57_15 : ch.keep 57 15 = [1, 5, 6, 9, 101, 102, 103] := by kernel_rfl
@[simp] theorem k57_16 : ch.keep 57 16 = [1, 5, 6, 101, 102, 103] := by kernel_rfl
@[simp] theorem k57_17 : ch.keep 57 17 = [1, 5, 6, 7, 101, 102, 103] := by kernel_rfl
@[simp] theorem k57_18 : ch.keep 57 18 = [1, 5, 6, 7, 101, 102, 103, 115] := by kernel_rfl
@[simp] theorem k57_19 : ch.keep 57 19 = [1, 5, 6, 7, 101, 102, 103] := by kernel_rfl
@[simp] theorem k57_20 : ch.keep 57 20 = [7] := by kernel_rfl
@[simp] theorem k57_21 : ch.keep 57 21 = [4] := by kernel_rfl
@[simp] theorem fl57_1 : ch.fl 57 1 = [1, 1, 1, 1, 1, 1, 1, 1, 1, 0] := by kernel_rfl
@[simp] theorem fl57_3 : ch.fl 57 3 = [1, 1, 1, 1, 1, 1, 1, 1, 0, 0, 0] := by kernel_rfl
@[simp] theorem fl57_6 : ch.fl 57 6 = [0, 0, 0, 0, 0, 0, 1, 1, 1, 1, 1, 0, 0, 0, 1, 1, 1, 1, 1, 1, 1, 1, 1, 1, 0, 0] := by kernel_rfl
noncomputable def code57 : Code := match Tryz.f57.body with | some c => c | none => .skip
noncomputable def lp57_0 : Code := match code57 with | .seq _ (.scope (.seq _ (.seq _ (.seq _ (.seq _ (.seq _ (.seq _ (.seq _ (.seq (.seq _ (.block _ (.loop c))) _))))))))) => c | c => c
theorem hd57_0 : ch.head 57 (firstR lp57_0) = [1, 5, 6, 7, 101, 102, 103] := by kernel_rfl
theorem rs57 : Tryz.f57.results.toList = [.tmp 4] := rfl
theorem W57_of {args : List D} (ha : args.all (D.noRef 0 0) = true) (hl : args.length ≤ 121) {H : Hp} {o : Out × Hp}
    (h : alone H (fnOut Tryz.prog [.tmp 4] 0 0 (E false ⟨0, 0⟩ 57 code57 (mkF 0 args) H00)) = some o) : W 57 args H = some o :=
  W_of Tryz.func57 rfl (by kernel_rfl) rfl rfl rfl rfl rfl ha (by rw [Tryz.ntmps57]; exact hl) h
/-! ### f95: slices.ContainsFunc[[]sward/api.ShapeForm,sward/api.ShapeForm] -/
@[simp] theorem k95_0 : ch.keep 95 0 = [0, 1] := by kernel_rfl
@[simp] theorem k95_1 : ch.keep 95 1 = [4] := by kernel_rfl
noncomputable def code95 : Code := match Tryz.f95.body with | some c => c | none => .skip
theorem rs95 : Tryz.f95.results.toList = [.tmp 4] := rfl
theorem W95_of {args : List D} (ha : args.all (D.noRef 0 0) = true) (hl : args.length ≤ 9) {H : Hp} {o : Out × Hp}
    (h : alone H (fnOut Tryz.prog [.tmp 4] 0 0 (E false ⟨0, 0⟩ 95 code95 (mkF 0 args) H00)) = some o) : W 95 args H = some o :=
  W_of Tryz.func95 rfl (by kernel_rfl) rfl rfl rfl rfl rfl ha (by rw [Tryz.ntmps95]; exact hl) h
/-! ### f96: sward/repr.parted$1 -/
@[simp] theorem k96_0 : ch.keep 96 0 = [0, 1] := by kernel_rfl
@[simp] theorem k96_1 : ch.keep 96 1 = [3] := by kernel_rfl
noncomputable def code96 : Code := match Tryz.f96.body with | some c => c | none => .skip
theorem rs96 : Tryz.f96.results.toList = [.tmp 3] := rfl
theorem W96_of {args : List D} (ha : args.all (D.noRef 0 0) = true) (hl : args.length ≤ 15) {H : Hp} {o : Out × Hp}
    (h : alone H (fnOut Tryz.prog [.tmp 3] 0 0 (E false ⟨0, 0⟩ 96 code96 (mkF 0 args) H00)) = some o) : W 96 args H = some o :=
  W_of Tryz.func96 rfl (by kernel_rfl) rfl rfl rfl rfl rfl ha (by rw [Tryz.ntmps96]; exact hl) h
/-! ### f94: (sward/repr.problem).allowed -/
@[simp] theorem k94_0 : ch.keep 94 0 = [2, 3] := by kernel_rfl
@[simp] theorem k94_1 : ch.keep 94 1 = [2, 3, 7, 8, 9] := by kernel_rfl
@[simp] theorem k94_2 : ch.keep 94 2 = [2, 3, 7, 8, 9, 10] := by kernel_rfl
@[simp] theorem k94_3 : ch.keep 94 3 = [2, 3, 5, 6, 7, 8, 9] := by kernel_rfl
@[simp] theorem k94_4 : ch.keep 94 4 = [2, 3, 7, 8, 9, 27] := by kernel_rfl
@[simp] theorem k94_5 : ch.keep 94 5 = [4] := by kernel_rfl
@[simp] theorem k94_6 : ch.keep 94 6 = [2, 3, 7, 8, 9] := by kernel_rfl
@[simp] theorem k94_7 : ch.keep 94 7 = [4] := by kernel_rfl
noncomputable def code94 : Code := match Tryz.f94.body with | some c => c | none => .skip
noncomputable def lp94_0 : Code := match code94 with | .seq _ (.seq (.seq _ (.block _ (.loop c))) _) => c | c => c
theorem hd94_0 : ch.head 94 (firstR lp94_0) = [2, 3, 7, 8, 9] := by kernel_rfl
theorem rs94 : Tryz.f94.results.toList = [.tmp 4] := rfl
theorem W94_lend {args xs : List D} {A1 : List Arr} {H : Hp} (hargs : argsD false H.A args = some (xs, A1)) (ha : xs.all (D.noRef 0 0) = true) (hl : xs.length ≤ 35) {o : Out × Hp}
    (h : lent H (fnOut Tryz.prog [.tmp 4] 0 0 (E false ⟨0, 0⟩ 94 code94 (mkF 0 xs) H00)) = some o) : W 94 args H = some o :=
  W_lend Tryz.func94 rfl (by kernel_rfl) rfl rfl rfl rfl hargs ha (by rw [Tryz.ntmps94]; exact hl) h
/-! ### f97: (sward/repr.problem).forms -/
@[simp] theorem k97_0 : ch.keep 97 0 = [1, 2, 3] := by kernel_rfl
@[simp] theorem k97_1 : ch.keep 97 1 = [1, 2, 3, 11] := by kernel_rfl
@[simp] theorem k97_2 : ch.keep 97 2 = [6] := by kernel_rfl
@[simp] theorem k97_3 : ch.keep 97 3 = [6] := by kernel_rfl
noncomputable def code97 : Code := match Tryz.f97.body with | some c => c | none => .skip
theorem rs97 : Tryz.f97.results.toList = [.tmp 6] := rfl
theorem W97_of {args : List D} (ha : args.all (D.noRef 0 0) = true) (hl : args.length ≤ 24) {H : Hp} {o : Out × Hp}
    (h : alone H (fnOut Tryz.prog [.tmp 6] 0 0 (E false ⟨0, 0⟩ 97 code97 (mkF 0 args) H00)) = some o) : W 97 args H = some o :=
  W_of Tryz.func97 rfl (by kernel_rfl) rfl rfl rfl rfl rfl ha (by rw [Tryz.ntmps97]; exact hl) h
/-! ### f98: (sward/repr.problem).once -/
@[simp] theorem k98_0 : ch.keep 98 0 = [2, 3, 4, 5] := by kernel_rfl
@[simp] theorem k98_1 : ch.keep 98 1 = [2, 3, 5, 9, 10] := by kernel_rfl
@[simp] theorem k98_2 : ch.keep 98 2 = [2, 3, 5, 9, 10, 27] := by kernel_rfl
@[simp] theorem k98_3 : ch.keep 98 3 = [8] := by kernel_rfl
@[simp] theorem k98_4 : ch.keep 98 4 = [2, 3, 5, 9, 10, 37] := by kernel_rfl
@[simp] theorem k98_5 : ch.keep 98 5 = [8] := by kernel_rfl
@[simp] theorem k98_6 : ch.keep 98 6 = [2, 9, 10, 50] := by kernel_rfl
@[simp] theorem k98_7 : ch.keep 98 7 = [8] := by kernel_rfl
@[simp] theorem k98_8 : ch.keep 98 8 = [9, 10, 54] := by kernel_rfl
@[simp] theorem k98_9 : ch.keep 98 9 = [8] := by kernel_rfl
@[simp] theorem k98_10 : ch.keep 98 10 = [8] := by kernel_rfl
@[simp] theorem fl98_1 : ch.fl 98 1 = [1, 1, 1, 1, 1, 1, 1, 1, 1, 1, 1, 1, 1, 1, 1, 1, 1, 0] := by kernel_rfl
noncomputable def code98 : Code := match Tryz.f98.body with | some c => c | none => .skip
theorem rs98 : Tryz.f98.results.toList = [.tmp 8] := rfl
theorem W98_of {args : List D} (ha : args.all (D.noRef 0 0) = true) (hl : args.length ≤ 60) {H : Hp} {o : Out × Hp}
    (h : alone H (fnOut Tryz.prog [.tmp 8] 0 0 (E false ⟨0, 0⟩ 98 code98 (mkF 0 args) H00)) = some o) : W 98 args H = some o :=
  W_of Tryz.func98 rfl (by kernel_rfl) rfl rfl rfl rfl rfl ha (by rw [Tryz.ntmps98]; exact hl) h
/-! ### f101: sward/swardref11.Allowed -/
@[simp] theorem k101_0 : ch.keep 101 0 = [1, 2] := by kernel_rfl
@[simp] theorem k101_1 : ch.keep 101 1 = [1, 2, 5] := by kernel_rfl
@[simp] theorem k101_2 : ch.keep 101 2 = [1, 2, 5, 12] := by kernel_rfl
@[simp] theorem k101_3 : ch.keep 101 3 = [1, 2, 5] := by kernel_rfl
@[simp] theorem k101_4 : ch.keep 101 4 = [1, 2, 5, 33] := by kernel_rfl
@[simp] theorem k101_5 : ch.keep 101 5 = [4] := by kernel_rfl
@[simp] theorem k101_6 : ch.keep 101 6 = [1, 2, 6] := by kernel_rfl
@[simp] theorem k101_7 : ch.keep 101 7 = [1, 2, 6, 38] := by kernel_rfl
@[simp] theorem k101_8 : ch.keep 101 8 = [1, 2, 6] := by kernel_rfl
@[simp] theorem k101_9 : ch.keep 101 9 = [1, 2, 6, 7, 8] := by kernel_rfl
@[simp] theorem k101_10 : ch.keep 101 10 = [1, 2, 6, 69] := by kernel_rfl
@[simp] theorem k101_11 : ch.keep 101 11 = [4] := by kernel_rfl
@[simp] theorem k101_12 : ch.keep 101 12 = [4] := by kernel_rfl
@[simp] theorem fl101_4 : ch.fl 101 4 = [1, 1, 0, 0, 0, 0, 1, 1, 1, 1, 1, 1, 1, 1, 1, 1, 0, 0, 0] := by kernel_rfl
@[simp] theorem fl101_9 : ch.fl 101 9 = [1, 1, 1, 1, 1, 1, 1, 1, 1, 1, 1, 1, 1, 1, 1, 1, 1, 1, 1, 0] := by kernel_rfl
noncomputable def code101 : Code := match Tryz.f101.body with | some c => c | none => .skip
noncomputable def lp101_0 : Code := match code101 with | .seq _ (.seq (.seq _ (.block _ (.loop c))) _) => c | c => c
theorem hd101_0 : ch.head 101 (firstR lp101_0) = [1, 2, 5] := by kernel_rfl
noncomputable def lp101_1 : Code := match code101 with | .seq _ (.seq _ (.seq (.seq _ (.block _ (.loop c))) _)) => c | c => c
theorem hd101_1 : ch.head 101 (firstR lp101_1) = [1, 2, 6] := by kernel_rfl
theorem rs101 : Tryz.f101.results.toList = [.tmp 4] := rfl
theorem W101_of {args : List D} (ha : args.all (D.noRef 0 0) = true) (hl : args.length ≤ 70) {H : Hp} {o : Out × Hp}
    (h : alone H (fnOut Tryz.prog [.tmp 4] 0 0 (E false ⟨0, 0⟩ 101 code101 (mkF 0 args) H00)) = some o) : W 101 args H = some o :=
  W_of Tryz.func101 rfl (by kernel_rfl) rfl rfl rfl rfl rfl ha (by rw [Tryz.ntmps101]; exact hl) h
/-! ### f182: sward/swardref11.Once -/
@[simp] theorem k182_0 : ch.keep 182 0 = [2, 3, 4, 5] := by kernel_rfl
@[simp] theorem k182_1 : ch.keep 182 1 = [2, 3, 4, 5, 9] := by kernel_rfl
@[simp] theorem k182_2 : ch.keep 182 2 = [2, 3, 4, 5, 9, 21] := by kernel_rfl
@[simp] theorem k182_3 : ch.keep 182 3 = [8] := by kernel_rfl
@[simp] theorem k182_4 : ch.keep 182 4 = [2, 3, 5, 9, 10] := by kernel_rfl
@[simp] theorem k182_5 : ch.keep 182 5 = [2, 3, 5, 9, 10, 36] := by kernel_rfl
@[simp] theorem k182_6 : ch.keep 182 6 = [8] := by kernel_rfl
@[simp] theorem k182_7 : ch.keep 182 7 = [2, 9, 10, 48] := by kernel_rfl
@[simp] theorem k182_8 : ch.keep 182 8 = [8] := by kernel_rfl
@[simp] theorem k182_9 : ch.keep 182 9 = [9, 10, 50] := by kernel_rfl
@[simp] theorem k182_10 : ch.keep 182 10 = [8] := by kernel_rfl
@[simp] theorem k182_11 : ch.keep 182 11 = [8] := by kernel_rfl
noncomputable def code182 : Code := match Tryz.f182.body with | some c => c | none => .skip
theorem rs182 : Tryz.f182.results.toList = [.tmp 8] := rfl
theorem W182_of {args : List D} (ha : args.all (D.noRef 0 0) = true) (hl : args.length ≤ 54) {H : Hp} {o : Out × Hp}
    (h : alone H (fnOut Tryz.prog [.tmp 8] 0 0 (E false ⟨0, 0⟩ 182 code182 (mkF 0 args) H00)) = some o) : W 182 args H = some o :=
  W_of Tryz.func182 rfl (by kernel_rfl) rfl rfl rfl rfl rfl ha (by rw [Tryz.ntmps182]; exact hl) h
/-! ### f142: sward/swardref11.low -/
@[simp] theorem k142_0 : ch.keep 142 0 = [2, 3, 4] := by kernel_rfl
@[simp] theorem k142_1 : ch.keep 142 1 = [3, 4, 7, 8] := by kernel_rfl
@[simp] theorem k142_2 : ch.keep 142 2 = [3, 4, 7, 8, 9] := by kernel_rfl
@[simp] theorem k142_3 : ch.keep 142 3 = [3, 4, 7, 8, 9, 10] := by kernel_rfl
@[simp] theorem k142_4 : ch.keep 142 4 = [3, 4, 7, 8, 9, 10, 26] := by kernel_rfl
@[simp] theorem k142_5 : ch.keep 142 5 = [3, 4, 7, 8, 9, 10] := by kernel_rfl
@[simp] theorem k142_6 : ch.keep 142 6 = [3, 4, 7, 8, 9, 10, 11] := by kernel_rfl
@[simp] theorem k142_7 : ch.keep 142 7 = [3, 4, 7, 8, 9, 10, 11, 32] := by kernel_rfl
@[simp] theorem k142_8 : ch.keep 142 8 = [3, 4, 7, 8, 9, 10, 11] := by kernel_rfl
@[simp] theorem k142_9 : ch.keep 142 9 = [3, 4, 7, 8, 9, 10, 11, 49] := by kernel_rfl
@[simp] theorem k142_10 : ch.keep 142 10 = [3, 4, 7, 8, 9, 10, 11, 12] := by kernel_rfl
@[simp] theorem k142_11 : ch.keep 142 11 = [3, 4, 7, 8, 9, 10, 11, 12, 67] := by kernel_rfl
@[simp] theorem k142_12 : ch.keep 142 12 = [3, 4, 7, 8, 9, 10, 11] := by kernel_rfl
@[simp] theorem k142_13 : ch.keep 142 13 = [6] := by kernel_rfl
@[simp] theorem fl142_1 : ch.fl 142 1 = [1, 1, 1, 1, 1, 1, 1, 1, 1, 0, 0, 0] := by kernel_rfl
@[simp] theorem fl142_10 : ch.fl 142 10 = [1, 1, 1, 1, 1, 1, 1, 1, 1, 1, 0, 0] := by kernel_rfl
noncomputable def code142 : Code := match Tryz.f142.body with | some c => c | none => .skip
noncomputable def lp142_0 : Code := match code142 with | .seq _ (.seq _ (.seq _ (.seq (.seq _ (.block _ (.loop c))) _))) => c | c => c
theorem hd142_0 : ch.head 142 (firstR lp142_0) = [3, 4, 7, 8, 9, 10] := by kernel_rfl
noncomputable def lp142_1 : Code := match code142 with | .seq _ (.seq _ (.seq _ (.seq (.seq _ (.block _ (.loop (.seq _ (.seq (.block _ (.seq _ (.block _ (.loop c)))) _))))) _))) => c | c => c
theorem hd142_1 : ch.head 142 (firstR lp142_1) = [3, 4, 7, 8, 9, 10, 11] := by kernel_rfl
theorem rs142 : Tryz.f142.results.toList = [.tmp 6] := rfl
theorem W142_of {args : List D} (ha : args.all (D.noRef 0 0) = true) (hl : args.length ≤ 70) {H : Hp} {o : Out × Hp}
    (h : alone H (fnOut Tryz.prog [.tmp 6] 0 0 (E false ⟨0, 0⟩ 142 code142 (mkF 0 args) H00)) = some o) : W 142 args H = some o :=
  W_of Tryz.func142 rfl (by kernel_rfl) rfl rfl rfl rfl rfl ha (by rw [Tryz.ntmps142]; exact hl) h
/-! ### f48: sward/swardref11.forms -/
@[simp] theorem k48_0 : ch.keep 48 0 = [0] := by kernel_rfl
@[simp] theorem k48_1 : ch.keep 48 1 = [0, 3] := by kernel_rfl
@[simp] theorem k48_2 : ch.keep 48 2 = [0, 3, 7] := by kernel_rfl
@[simp] theorem k48_3 : ch.keep 48 3 = [0, 3] := by kernel_rfl
@[simp] theorem k48_4 : ch.keep 48 4 = [0, 3, 31] := by kernel_rfl
@[simp] theorem k48_5 : ch.keep 48 5 = [2] := by kernel_rfl
@[simp] theorem k48_6 : ch.keep 48 6 = [2] := by kernel_rfl
@[simp] theorem fl48_4 : ch.fl 48 4 = [1, 1, 0, 0, 0, 0, 0, 0, 0, 0, 1, 1, 1, 1, 1, 1, 1, 1, 1, 0, 0, 0] := by kernel_rfl
noncomputable def code48 : Code := match Tryz.f48.body with | some c => c | none => .skip
noncomputable def lp48_0 : Code := match code48 with | .seq _ (.seq (.seq _ (.block _ (.loop c))) _) => c | c => c
theorem hd48_0 : ch.head 48 (firstR lp48_0) = [0, 3] := by kernel_rfl
theorem rs48 : Tryz.f48.results.toList = [.tmp 2] := rfl
theorem W48_of {args : List D} (ha : args.all (D.noRef 0 0) = true) (hl : args.length ≤ 35) {H : Hp} {o : Out × Hp}
    (h : alone H (fnOut Tryz.prog [.tmp 2] 0 0 (E false ⟨0, 0⟩ 48 code48 (mkF 0 args) H00)) = some o) : W 48 args H = some o :=
  W_of Tryz.func48 rfl (by kernel_rfl) rfl rfl rfl rfl rfl ha (by rw [Tryz.ntmps48]; exact hl) h
/-! ### f49: sward/swardref11.used -/
@[simp] theorem k49_0 : ch.keep 49 0 = [1, 2] := by kernel_rfl
@[simp] theorem k49_1 : ch.keep 49 1 = [1, 2, 16] := by kernel_rfl
@[simp] theorem k49_2 : ch.keep 49 2 = [4] := by kernel_rfl
@[simp] theorem k49_3 : ch.keep 49 3 = [1, 2, 18] := by kernel_rfl
@[simp] theorem k49_4 : ch.keep 49 4 = [1, 2, 18, 19] := by kernel_rfl
@[simp] theorem k49_5 : ch.keep 49 5 = [1, 2, 18, 19] := by kernel_rfl
@[simp] theorem k49_6 : ch.keep 49 6 = [1, 2, 18, 19] := by kernel_rfl
@[simp] theorem k49_7 : ch.keep 49 7 = [1, 2, 18, 19] := by kernel_rfl
@[simp] theorem k49_8 : ch.keep 49 8 = [4] := by kernel_rfl
@[simp] theorem k49_9 : ch.keep 49 9 = [1, 2, 18, 27] := by kernel_rfl
@[simp] theorem k49_10 : ch.keep 49 10 = [1, 2, 27] := by kernel_rfl
@[simp] theorem k49_11 : ch.keep 49 11 = [4] := by kernel_rfl
@[simp] theorem k49_12 : ch.keep 49 12 = [4] := by kernel_rfl
noncomputable def code49 : Code := match Tryz.f49.body with | some c => c | none => .skip
theorem rs49 : Tryz.f49.results.toList = [.tmp 4] := rfl
theorem W49_of {args : List D} (ha : args.all (D.noRef 0 0) = true) (hl : args.length ≤ 35) {H : Hp} {o : Out × Hp}
    (h : alone H (fnOut Tryz.prog [.tmp 4] 0 0 (E false ⟨0, 0⟩ 49 code49 (mkF 0 args) H00)) = some o) : W 49 args H = some o :=
  W_of Tryz.func49 rfl (by kernel_rfl) rfl rfl rfl rfl rfl ha (by rw [Tryz.ntmps49]; exact hl) h
/-! ### f91: (sward/repr.problem).search -/
@[simp] theorem k91_0 : ch.keep 91 0 = [1, 2, 3, 4, 5] := by kernel_rfl
@[simp] theorem k91_1 : ch.keep 91 1 = [1, 2, 3, 4, 5, 18] := by kernel_rfl
@[simp] theorem k91_2 : ch.keep 91 2 = [10, 11] := by kernel_rfl
@[simp] theorem k91_3 : ch.keep 91 3 = [1, 2, 3, 4, 5, 12] := by kernel_rfl
@[simp] theorem k91_4 : ch.keep 91 4 = [1, 2, 3, 4, 5, 12, 30] := by kernel_rfl
@[simp] theorem k91_5 : ch.keep 91 5 = [10, 11] := by kernel_rfl
@[simp] theorem k91_6 : ch.keep 91 6 = [1, 2, 3, 4, 5, 12, 36] := by kernel_rfl
@[simp] theorem k91_7 : ch.keep 91 7 = [10, 11] := by kernel_rfl
@[simp] theorem k91_8 : ch.keep 91 8 = [1, 2, 3, 4, 5, 44] := by kernel_rfl
@[simp] theorem k91_9 : ch.keep 91 9 = [10, 11] := by kernel_rfl
@[simp] theorem k91_10 : ch.keep 91 10 = [1, 2, 3, 4, 5, 60, 61, 62] := by kernel_rfl
@[simp] theorem k91_11 : ch.keep 91 11 = [1, 2, 3, 4, 5, 60, 61, 62, 63] := by kernel_rfl
@[simp] theorem k91_12 : ch.keep 91 12 = [1, 2, 3, 4, 5, 14, 60, 61, 62] := by kernel_rfl
@[simp] theorem k91_13 : ch.keep 91 13 = [1, 2, 3, 4, 5, 60, 61, 62] := by kernel_rfl
@[simp] theorem k91_14 : ch.keep 91 14 = [1, 2, 3, 4, 5, 60, 61, 62] := by kernel_rfl
@[simp] theorem k91_15 : ch.keep 91 15 = [1, 2, 3, 4, 5, 60, 61, 62] := by kernel_rfl
@[simp] theorem k91_16 : ch.keep 91 16 = [3, 4] := by kernel_rfl
@[simp] theorem k91_17 : ch.keep 91 17 = [10, 11] := by kernel_rfl
noncomputable def code91 : Code := match Tryz.f91.body with | some c => c | none => .skip
noncomputable def lp91_0 : Code := match code91 with | .seq _ (.seq _ (.seq _ (.seq _ (.seq (.seq _ (.block _ (.loop c))) _)))) => c | c => c
theorem hd91_0 : ch.head 91 (firstR lp91_0) = [1, 2, 3, 4, 5, 60, 61, 62] := by kernel_rfl
theorem rs91 : Tryz.f91.results.toList = [.tmp 10, .tmp 11] := rfl
theorem W91_ofN {args : List D} {H : Hp} (hp : ¬ (ch.pure 91 = true ∧ args.all (D.noRef 0 0) = true)) (hl : args.length ≤ 86) {o : Out × Hp}
    (h : fnOutN Tryz.prog [.tmp 10, .tmp 11] H.B.length H.A.length (E false ⟨0, 0⟩ 91 code91 (mkF 0 args) H) = some o) : W 91 args H = some o :=
  W_ofN Tryz.func91 rfl (by kernel_rfl) rfl rfl rfl rfl hp (by rw [Tryz.ntmps91]; exact hl) h
/-! ### f20: slices.Clone[[]sward/api.ShapeForm,sward/api.ShapeForm] -/
@[simp] theorem k20_0 : ch.keep 20 0 = [0] := by kernel_rfl
@[simp] theorem k20_1 : ch.keep 20 1 = [0, 4] := by kernel_rfl
@[simp] theorem k20_2 : ch.keep 20 2 = [2] := by kernel_rfl
@[simp] theorem k20_3 : ch.keep 20 3 = [2] := by kernel_rfl
noncomputable def code20 : Code := match Tryz.f20.body with | some c => c | none => .skip
theorem rs20 : Tryz.f20.results.toList = [.tmp 2] := rfl
theorem W20_ofO {args : List D} {H : Hp} (hp : ¬ (ch.pure 20 = true ∧ args.all (D.noRef 0 0) = true)) (hl : args.length ≤ 8) {o : Out × Hp}
    (h : fnOutO Tryz.prog [.tmp 2] (E true ⟨0, 0⟩ 20 code20 (mkF 0 args) H) = some o) : W 20 args H = some o :=
  W_ofO Tryz.func20 rfl (by kernel_rfl) rfl rfl rfl hp (by rw [Tryz.ntmps20]; exact hl) h
/-! ### f99: slices.Index[[]sward/api.ShapeForm,sward/api.ShapeForm] -/
@[simp] theorem k99_0 : ch.keep 99 0 = [0, 1] := by kernel_rfl
@[simp] theorem k99_1 : ch.keep 99 1 = [0, 1, 7, 8] := by kernel_rfl
@[simp] theorem k99_2 : ch.keep 99 2 = [0, 1, 7, 8, 9] := by kernel_rfl
@[simp] theorem k99_3 : ch.keep 99 3 = [0, 1, 5, 7, 8] := by kernel_rfl
@[simp] theorem k99_4 : ch.keep 99 4 = [0, 1, 5, 7, 8, 16] := by kernel_rfl
@[simp] theorem k99_5 : ch.keep 99 5 = [4] := by kernel_rfl
@[simp] theorem k99_6 : ch.keep 99 6 = [0, 1, 7, 8] := by kernel_rfl
@[simp] theorem k99_7 : ch.keep 99 7 = [4] := by kernel_rfl
noncomputable def code99 : Code := match Tryz.f99.body with | some c => c | none => .skip
noncomputable def lp99_0 : Code := match code99 with | .seq _ (.seq (.seq _ (.block _ (.loop c))) _) => c | c => c
theorem hd99_0 : ch.head 99 (firstR lp99_0) = [0, 1, 7, 8] := by kernel_rfl
theorem rs99 : Tryz.f99.results.toList = [.tmp 4] := rfl
theorem W99_lend {args xs : List D} {A1 : List Arr} {H : Hp} (hargs : argsD false H.A args = some (xs, A1)) (ha : xs.all (D.noRef 0 0) = true) (hl : xs.length ≤ 19) {o : Out × Hp}
    (h : lent H (fnOut Tryz.prog [.tmp 4] 0 0 (E false ⟨0, 0⟩ 99 code99 (mkF 0 xs) H00)) = some o) : W 99 args H = some o :=
  W_lend Tryz.func99 rfl (by kernel_rfl) rfl rfl rfl rfl hargs ha (by rw [Tryz.ntmps99]; exact hl) h
/-! ### f138: slices.IndexFunc[[]sward/api.ShapeForm,sward/api.ShapeForm] -/
@[simp] theorem k138_0 : ch.keep 138 0 = [0, 1] := by kernel_rfl
@[simp] theorem k138_1 : ch.keep 138 1 = [0, 1, 7, 8] := by kernel_rfl
@[simp] theorem k138_2 : ch.keep 138 2 = [0, 1, 7, 8, 9] := by kernel_rfl
@[simp] theorem k138_3 : ch.keep 138 3 = [0, 1, 5, 7, 8] := by kernel_rfl
@[simp] theorem k138_4 : ch.keep 138 4 = [0, 1, 5, 7, 8, 16] := by kernel_rfl
@[simp] theorem k138_5 : ch.keep 138 5 = [4] := by kernel_rfl
@[simp] theorem k138_6 : ch.keep 138 6 = [0, 1, 7, 8] := by kernel_rfl
@[simp] theorem k138_7 : ch.keep 138 7 = [4] := by kernel_rfl
noncomputable def code138 : Code := match Tryz.f138.body with | some c => c | none => .skip
noncomputable def lp138_0 : Code := match code138 with | .seq _ (.seq (.seq _ (.block _ (.loop c))) _) => c | c => c
theorem hd138_0 : ch.head 138 (firstR lp138_0) = [0, 1, 7, 8] := by kernel_rfl
theorem rs138 : Tryz.f138.results.toList = [.tmp 4] := rfl
theorem W138_of {args : List D} (ha : args.all (D.noRef 0 0) = true) (hl : args.length ≤ 19) {H : Hp} {o : Out × Hp}
    (h : alone H (fnOut Tryz.prog [.tmp 4] 0 0 (E false ⟨0, 0⟩ 138 code138 (mkF 0 args) H00)) = some o) : W 138 args H = some o :=
  W_of Tryz.func138 rfl (by kernel_rfl) rfl rfl rfl rfl rfl ha (by rw [Tryz.ntmps138]; exact hl) h
/-! ### f136: slices.Contains[[]sward/api.ShapeForm,sward/api.ShapeForm] -/
@[simp] theorem k136_0 : ch.keep 136 0 = [0, 1] := by kernel_rfl
@[simp] theorem k136_1 : ch.keep 136 1 = [4] := by kernel_rfl
noncomputable def code136 : Code := match Tryz.f136.body with | some c => c | none => .skip
theorem rs136 : Tryz.f136.results.toList = [.tmp 4] := rfl
theorem W136_of {args : List D} (ha : args.all (D.noRef 0 0) = true) (hl : args.length ≤ 9) {H : Hp} {o : Out × Hp}
    (h : alone H (fnOut Tryz.prog [.tmp 4] 0 0 (E false ⟨0, 0⟩ 136 code136 (mkF 0 args) H00)) = some o) : W 136 args H = some o :=
  W_of Tryz.func136 rfl (by kernel_rfl) rfl rfl rfl rfl rfl ha (by rw [Tryz.ntmps136]; exact hl) h
/-! ### f55: slices.ContainsFunc[[][2]int,[2]int] -/
@[simp] theorem k55_0 : ch.keep 55 0 = [0, 1] := by kernel_rfl
@[simp] theorem k55_1 : ch.keep 55 1 = [4] := by kernel_rfl
noncomputable def code55 : Code := match Tryz.f55.body with | some c => c | none => .skip
theorem rs55 : Tryz.f55.results.toList = [.tmp 4] := rfl
theorem W55_of {args : List D} (ha : args.all (D.noRef 0 0) = true) (hl : args.length ≤ 9) {H : Hp} {o : Out × Hp}
    (h : alone H (fnOut Tryz.prog [.tmp 4] 0 0 (E false ⟨0, 0⟩ 55 code55 (mkF 0 args) H00)) = some o) : W 55 args H = some o :=
  W_of Tryz.func55 rfl (by kernel_rfl) rfl rfl rfl rfl rfl ha (by rw [Tryz.ntmps55]; exact hl) h
/-! ### f137: (sward/repr.problem).allowed$1 -/
@[simp] theorem k137_0 : ch.keep 137 0 = [1, 2] := by kernel_rfl
@[simp] theorem k137_1 : ch.keep 137 1 = [4, 5] := by kernel_rfl
@[simp] theorem k137_2 : ch.keep 137 2 = [3] := by kernel_rfl
@[simp] theorem fl137_1 : ch.fl 137 1 = [1, 1, 1, 1, 1, 1, 1, 1, 1, 1, 1, 0] := by kernel_rfl
noncomputable def code137 : Code := match Tryz.f137.body with | some c => c | none => .skip
theorem rs137 : Tryz.f137.results.toList = [.tmp 3] := rfl
theorem W137_of {args : List D} (ha : args.all (D.noRef 0 0) = true) (hl : args.length ≤ 27) {H : Hp} {o : Out × Hp}
    (h : alone H (fnOut Tryz.prog [.tmp 3] 0 0 (E false ⟨0, 0⟩ 137 code137 (mkF 0 args) H00)) = some o) : W 137 args H = some o :=
  W_of Tryz.func137 rfl (by kernel_rfl) rfl rfl rfl rfl rfl ha (by rw [Tryz.ntmps137]; exact hl) h
/-! ### f139: sward/repr.one -/
@[simp] theorem k139_0 : ch.keep 139 0 = [0, 1, 2] := by kernel_rfl
@[simp] theorem k139_1 : ch.keep 139 1 = [6] := by kernel_rfl
noncomputable def code139 : Code := match Tryz.f139.body with | some c => c | none => .skip
theorem rs139 : Tryz.f139.results.toList = [.tmp 6] := rfl
theorem W139_of {args : List D} (ha : args.all (D.noRef 0 0) = true) (hl : args.length ≤ 16) {H : Hp} {o : Out × Hp}
    (h : alone H (fnOut Tryz.prog [.tmp 6] 0 0 (E false ⟨0, 0⟩ 139 code139 (mkF 0 args) H00)) = some o) : W 139 args H = some o :=
  W_of Tryz.func139 rfl (by kernel_rfl) rfl rfl rfl rfl rfl ha (by rw [Tryz.ntmps139]; exact hl) h
/-! ### f141: sward/swardref11.has -/
@[simp] theorem k141_0 : ch.keep 141 0 = [0, 1] := by kernel_rfl
@[simp] theorem k141_1 : ch.keep 141 1 = [0, 1, 5] := by kernel_rfl
@[simp] theorem k141_2 : ch.keep 141 2 = [0, 1, 5, 9] := by kernel_rfl
@[simp] theorem k141_3 : ch.keep 141 3 = [0, 1, 5] := by kernel_rfl
@[simp] theorem k141_4 : ch.keep 141 4 = [0, 1, 5, 17] := by kernel_rfl
@[simp] theorem k141_5 : ch.keep 141 5 = [4] := by kernel_rfl
@[simp] theorem k141_6 : ch.keep 141 6 = [4] := by kernel_rfl
noncomputable def code141 : Code := match Tryz.f141.body with | some c => c | none => .skip
noncomputable def lp141_0 : Code := match code141 with | .seq _ (.seq (.seq _ (.block _ (.loop c))) _) => c | c => c
theorem hd141_0 : ch.head 141 (firstR lp141_0) = [0, 1, 5] := by kernel_rfl
theorem rs141 : Tryz.f141.results.toList = [.tmp 4] := rfl
theorem W141_of {args : List D} (ha : args.all (D.noRef 0 0) = true) (hl : args.length ≤ 18) {H : Hp} {o : Out × Hp}
    (h : alone H (fnOut Tryz.prog [.tmp 4] 0 0 (E false ⟨0, 0⟩ 141 code141 (mkF 0 args) H00)) = some o) : W 141 args H = some o :=
  W_of Tryz.func141 rfl (by kernel_rfl) rfl rfl rfl rfl rfl ha (by rw [Tryz.ntmps141]; exact hl) h
/-! ### f181: sward/swardref11.double -/
@[simp] theorem k181_0 : ch.keep 181 0 = [0] := by kernel_rfl
@[simp] theorem k181_1 : ch.keep 181 1 = [2] := by kernel_rfl
noncomputable def code181 : Code := match Tryz.f181.body with | some c => c | none => .skip
theorem rs181 : Tryz.f181.results.toList = [.tmp 2] := rfl
theorem W181_of {args : List D} (ha : args.all (D.noRef 0 0) = true) (hl : args.length ≤ 9) {H : Hp} {o : Out × Hp}
    (h : alone H (fnOut Tryz.prog [.tmp 2] 0 0 (E false ⟨0, 0⟩ 181 code181 (mkF 0 args) H00)) = some o) : W 181 args H = some o :=
  W_of Tryz.func181 rfl (by kernel_rfl) rfl rfl rfl rfl rfl ha (by rw [Tryz.ntmps181]; exact hl) h
/-! ### f219: sward/swardref11.single -/
@[simp] theorem k219_0 : ch.keep 219 0 = [0, 1, 2] := by kernel_rfl
@[simp] theorem k219_1 : ch.keep 219 1 = [0, 1, 7] := by kernel_rfl
@[simp] theorem k219_2 : ch.keep 219 2 = [1, 7, 10] := by kernel_rfl
@[simp] theorem k219_3 : ch.keep 219 3 = [1, 7, 10, 11] := by kernel_rfl
@[simp] theorem k219_4 : ch.keep 219 4 = [6] := by kernel_rfl
@[simp] theorem k219_5 : ch.keep 219 5 = [1, 7, 10, 22] := by kernel_rfl
@[simp] theorem k219_6 : ch.keep 219 6 = [6] := by kernel_rfl
@[simp] theorem k219_7 : ch.keep 219 7 = [1, 7, 34] := by kernel_rfl
@[simp] theorem k219_8 : ch.keep 219 8 = [6] := by kernel_rfl
@[simp] theorem k219_9 : ch.keep 219 9 = [6] := by kernel_rfl
noncomputable def code219 : Code := match Tryz.f219.body with | some c => c | none => .skip
theorem rs219 : Tryz.f219.results.toList = [.tmp 6] := rfl
theorem W219_of {args : List D} (ha : args.all (D.noRef 0 0) = true) (hl : args.length ≤ 60) {H : Hp} {o : Out × Hp}
    (h : alone H (fnOut Tryz.prog [.tmp 6] 0 0 (E false ⟨0, 0⟩ 219 code219 (mkF 0 args) H00)) = some o) : W 219 args H = some o :=
  W_of Tryz.func219 rfl (by kernel_rfl) rfl rfl rfl rfl rfl ha (by rw [Tryz.ntmps219]; exact hl) h
/-! ### f180: sward/swardref11.open -/
@[simp] theorem k180_0 : ch.keep 180 0 = [1, 2, 3] := by kernel_rfl
@[simp] theorem k180_1 : ch.keep 180 1 = [1, 2, 3, 11] := by kernel_rfl
@[simp] theorem k180_2 : ch.keep 180 2 = [6] := by kernel_rfl
@[simp] theorem k180_3 : ch.keep 180 3 = [6] := by kernel_rfl
noncomputable def code180 : Code := match Tryz.f180.body with | some c => c | none => .skip
theorem rs180 : Tryz.f180.results.toList = [.tmp 6] := rfl
theorem W180_of {args : List D} (ha : args.all (D.noRef 0 0) = true) (hl : args.length ≤ 23) {H : Hp} {o : Out × Hp}
    (h : alone H (fnOut Tryz.prog [.tmp 6] 0 0 (E false ⟨0, 0⟩ 180 code180 (mkF 0 args) H00)) = some o) : W 180 args H = some o :=
  W_of Tryz.func180 rfl (by kernel_rfl) rfl rfl rfl rfl rfl ha (by rw [Tryz.ntmps180]; exact hl) h
/-! ### f93: slices.IndexFunc[[][2]int,[2]int] -/
@[simp] theorem k93_0 : ch.keep 93 0 = [0, 1] := by kernel_rfl
@[simp] theorem k93_1 : ch.keep 93 1 = [0, 1, 7, 8] := by kernel_rfl
@[simp] theorem k93_2 : ch.keep 93 2 = [0, 1, 7, 8, 9] := by kernel_rfl
@[simp] theorem k93_3 : ch.keep 93 3 = [0, 1, 5, 7, 8] := by kernel_rfl
@[simp] theorem k93_4 : ch.keep 93 4 = [0, 1, 5, 7, 8, 16] := by kernel_rfl
@[simp] theorem k93_5 : ch.keep 93 5 = [4] := by kernel_rfl
@[simp] theorem k93_6 : ch.keep 93 6 = [0, 1, 7, 8] := by kernel_rfl
@[simp] theorem k93_7 : ch.keep 93 7 = [4] := by kernel_rfl
noncomputable def code93 : Code := match Tryz.f93.body with | some c => c | none => .skip
noncomputable def lp93_0 : Code := match code93 with | .seq _ (.seq (.seq _ (.block _ (.loop c))) _) => c | c => c
theorem hd93_0 : ch.head 93 (firstR lp93_0) = [0, 1, 7, 8] := by kernel_rfl
theorem rs93 : Tryz.f93.results.toList = [.tmp 4] := rfl
theorem W93_of {args : List D} (ha : args.all (D.noRef 0 0) = true) (hl : args.length ≤ 19) {H : Hp} {o : Out × Hp}
    (h : alone H (fnOut Tryz.prog [.tmp 4] 0 0 (E false ⟨0, 0⟩ 93 code93 (mkF 0 args) H00)) = some o) : W 93 args H = some o :=
  W_of Tryz.func93 rfl (by kernel_rfl) rfl rfl rfl rfl rfl ha (by rw [Tryz.ntmps93]; exact hl) h
/-! ### f179: sward/repr.costs -/
@[simp] theorem k179_0 : ch.keep 179 0 = [0] := by kernel_rfl
@[simp] theorem k179_1 : ch.keep 179 1 = [0] := by kernel_rfl
noncomputable def code179 : Code := match Tryz.f179.body with | some c => c | none => .skip
theorem rs179 : Tryz.f179.results.toList = [.cell 0 246] := rfl
theorem W179_ofO {args : List D} {H : Hp} (hp : ¬ (ch.pure 179 = true ∧ args.all (D.noRef 0 0) = true)) (hl : args.length ≤ 15) {o : Out × Hp}
    (h : fnOutO Tryz.prog [.cell 0 246] (E false ⟨0, 0⟩ 179 code179 (mkF 0 args) H) = some o) : W 179 args H = some o :=
  W_ofO Tryz.func179 rfl (by kernel_rfl) rfl rfl rfl hp (by rw [Tryz.ntmps179]; exact hl) h
/-! ### f233: sward/swardref11.digits -/
@[simp] theorem k233_0 : ch.keep 233 0 = [0] := by kernel_rfl
@[simp] theorem k233_1 : ch.keep 233 1 = [0, 3] := by kernel_rfl
@[simp] theorem k233_2 : ch.keep 233 2 = [0, 3, 5] := by kernel_rfl
@[simp] theorem k233_3 : ch.keep 233 3 = [0, 3] := by kernel_rfl
@[simp] theorem k233_4 : ch.keep 233 4 = [0, 3] := by kernel_rfl
@[simp] theorem k233_5 : ch.keep 233 5 = [2] := by kernel_rfl
noncomputable def code233 : Code := match Tryz.f233.body with | some c => c | none => .skip
noncomputable def lp233_0 : Code := match code233 with | .seq _ (.seq _ (.seq (.block _ (.loop c)) _)) => c | c => c
theorem hd233_0 : ch.head 233 (firstR lp233_0) = [0, 3] := by kernel_rfl
theorem rs233 : Tryz.f233.results.toList = [.tmp 2] := rfl
theorem W233_of {args : List D} (ha : args.all (D.noRef 0 0) = true) (hl : args.length ≤ 11) {H : Hp} {o : Out × Hp}
    (h : alone H (fnOut Tryz.prog [.tmp 2] 0 0 (E false ⟨0, 0⟩ 233 code233 (mkF 0 args) H00)) = some o) : W 233 args H = some o :=
  W_of Tryz.func233 rfl (by kernel_rfl) rfl rfl rfl rfl rfl ha (by rw [Tryz.ntmps233]; exact hl) h
/-! ### f208: sward/repr.digits -/
@[simp] theorem k208_0 : ch.keep 208 0 = [0] := by kernel_rfl
@[simp] theorem k208_1 : ch.keep 208 1 = [2] := by kernel_rfl
noncomputable def code208 : Code := match Tryz.f208.body with | some c => c | none => .skip
theorem rs208 : Tryz.f208.results.toList = [.tmp 2] := rfl
theorem W208_of {args : List D} (ha : args.all (D.noRef 0 0) = true) (hl : args.length ≤ 6) {H : Hp} {o : Out × Hp}
    (h : alone H (fnOut Tryz.prog [.tmp 2] 0 0 (E false ⟨0, 0⟩ 208 code208 (mkF 0 args) H00)) = some o) : W 208 args H = some o :=
  W_of Tryz.func208 rfl (by kernel_rfl) rfl rfl rfl rfl rfl ha (by rw [Tryz.ntmps208]; exact hl) h
/-! ### f209: sward/repr.always -/
@[simp] theorem k209_0 : ch.keep 209 0 = [1] := by kernel_rfl
@[simp] theorem k209_1 : ch.keep 209 1 = [2] := by kernel_rfl
noncomputable def code209 : Code := match Tryz.f209.body with | some c => c | none => .skip
theorem rs209 : Tryz.f209.results.toList = [.tmp 2] := rfl
theorem W209_ofO {args : List D} {H : Hp} (hp : ¬ (ch.pure 209 = true ∧ args.all (D.noRef 0 0) = true)) (hl : args.length ≤ 4) {o : Out × Hp}
    (h : fnOutO Tryz.prog [.tmp 2] (E false ⟨0, 0⟩ 209 code209 (mkF 0 args) H) = some o) : W 209 args H = some o :=
  W_ofO Tryz.func209 rfl (by kernel_rfl) rfl rfl rfl hp (by rw [Tryz.ntmps209]; exact hl) h
/-! ### f210: sward/repr.costs$1 -/
@[simp] theorem k210_0 : ch.keep 210 0 = [0] := by kernel_rfl
@[simp] theorem k210_1 : ch.keep 210 1 = [2] := by kernel_rfl
noncomputable def code210 : Code := match Tryz.f210.body with | some c => c | none => .skip
theorem rs210 : Tryz.f210.results.toList = [.tmp 2] := rfl
theorem W210_of {args : List D} (ha : args.all (D.noRef 0 0) = true) (hl : args.length ≤ 6) {H : Hp} {o : Out × Hp}
    (h : alone H (fnOut Tryz.prog [.tmp 2] 0 0 (E false ⟨0, 0⟩ 210 code210 (mkF 0 args) H00)) = some o) : W 210 args H = some o :=
  W_of Tryz.func210 rfl (by kernel_rfl) rfl rfl rfl rfl rfl ha (by rw [Tryz.ntmps210]; exact hl) h
/-! ### f211: sward/repr.costs$2 -/
@[simp] theorem k211_0 : ch.keep 211 0 = [0] := by kernel_rfl
@[simp] theorem k211_1 : ch.keep 211 1 = [2] := by kernel_rfl
noncomputable def code211 : Code := match Tryz.f211.body with | some c => c | none => .skip
theorem rs211 : Tryz.f211.results.toList = [.tmp 2] := rfl
theorem W211_of {args : List D} (ha : args.all (D.noRef 0 0) = true) (hl : args.length ≤ 5) {H : Hp} {o : Out × Hp}
    (h : alone H (fnOut Tryz.prog [.tmp 2] 0 0 (E false ⟨0, 0⟩ 211 code211 (mkF 0 args) H00)) = some o) : W 211 args H = some o :=
  W_of Tryz.func211 rfl (by kernel_rfl) rfl rfl rfl rfl rfl ha (by rw [Tryz.ntmps211]; exact hl) h
/-! ### f212: sward/repr.costs$3 -/
@[simp] theorem k212_0 : ch.keep 212 0 = [0] := by kernel_rfl
@[simp] theorem k212_1 : ch.keep 212 1 = [2] := by kernel_rfl
noncomputable def code212 : Code := match Tryz.f212.body with | some c => c | none => .skip
theorem rs212 : Tryz.f212.results.toList = [.tmp 2] := rfl
theorem W212_of {args : List D} (ha : args.all (D.noRef 0 0) = true) (hl : args.length ≤ 7) {H : Hp} {o : Out × Hp}
    (h : alone H (fnOut Tryz.prog [.tmp 2] 0 0 (E false ⟨0, 0⟩ 212 code212 (mkF 0 args) H00)) = some o) : W 212 args H = some o :=
  W_of Tryz.func212 rfl (by kernel_rfl) rfl rfl rfl rfl rfl ha (by rw [Tryz.ntmps212]; exact hl) h
/-! ### f213: sward/repr.costs$4 -/
@[simp] theorem k213_0 : ch.keep 213 0 = [0] := by kernel_rfl
@[simp] theorem k213_1 : ch.keep 213 1 = [2] := by kernel_rfl
noncomputable def code213 : Code := match Tryz.f213.body with | some c => c | none => .skip
theorem rs213 : Tryz.f213.results.toList = [.tmp 2] := rfl
theorem W213_of {args : List D} (ha : args.all (D.noRef 0 0) = true) (hl : args.length ≤ 4) {H : Hp} {o : Out × Hp}
    (h : alone H (fnOut Tryz.prog [.tmp 2] 0 0 (E false ⟨0, 0⟩ 213 code213 (mkF 0 args) H00)) = some o) : W 213 args H = some o :=
  W_of Tryz.func213 rfl (by kernel_rfl) rfl rfl rfl rfl rfl ha (by rw [Tryz.ntmps213]; exact hl) h
/-! ### f214: sward/repr.costs$5 -/
@[simp] theorem k214_0 : ch.keep 214 0 = [0] := by kernel_rfl
@[simp] theorem k214_1 : ch.keep 214 1 = [2] := by kernel_rfl
noncomputable def code214 : Code := match Tryz.f214.body with | some c => c | none => .skip
theorem rs214 : Tryz.f214.results.toList = [.tmp 2] := rfl
theorem W214_of {args : List D} (ha : args.all (D.noRef 0 0) = true) (hl : args.length ≤ 5) {H : Hp} {o : Out × Hp}
    (h : alone H (fnOut Tryz.prog [.tmp 2] 0 0 (E false ⟨0, 0⟩ 214 code214 (mkF 0 args) H00)) = some o) : W 214 args H = some o :=
  W_of Tryz.func214 rfl (by kernel_rfl) rfl rfl rfl rfl rfl ha (by rw [Tryz.ntmps214]; exact hl) h
/-! ### f215: sward/repr.costs$6 -/
@[simp] theorem k215_0 : ch.keep 215 0 = [0] := by kernel_rfl
@[simp] theorem k215_1 : ch.keep 215 1 = [2] := by kernel_rfl
noncomputable def code215 : Code := match Tryz.f215.body with | some c => c | none => .skip
theorem rs215 : Tryz.f215.results.toList = [.tmp 2] := rfl
theorem W215_of {args : List D} (ha : args.all (D.noRef 0 0) = true) (hl : args.length ≤ 5) {H : Hp} {o : Out × Hp}
    (h : alone H (fnOut Tryz.prog [.tmp 2] 0 0 (E false ⟨0, 0⟩ 215 code215 (mkF 0 args) H00)) = some o) : W 215 args H = some o :=
  W_of Tryz.func215 rfl (by kernel_rfl) rfl rfl rfl rfl rfl ha (by rw [Tryz.ntmps215]; exact hl) h
/-! ### f216: sward/repr.costs$7 -/
@[simp] theorem k216_0 : ch.keep 216 0 = [0] := by kernel_rfl
@[simp] theorem k216_1 : ch.keep 216 1 = [2] := by kernel_rfl
noncomputable def code216 : Code := match Tryz.f216.body with | some c => c | none => .skip
theorem rs216 : Tryz.f216.results.toList = [.tmp 2] := rfl
theorem W216_of {args : List D} (ha : args.all (D.noRef 0 0) = true) (hl : args.length ≤ 6) {H : Hp} {o : Out × Hp}
    (h : alone H (fnOut Tryz.prog [.tmp 2] 0 0 (E false ⟨0, 0⟩ 216 code216 (mkF 0 args) H00)) = some o) : W 216 args H = some o :=
  W_of Tryz.func216 rfl (by kernel_rfl) rfl rfl rfl rfl rfl ha (by rw [Tryz.ntmps216]; exact hl) h
/-! ### f217: sward/repr.costs$8 -/
@[simp] theorem k217_0 : ch.keep 217 0 = [0] := by kernel_rfl
@[simp] theorem k217_1 : ch.keep 217 1 = [2] := by kernel_rfl
noncomputable def code217 : Code := match Tryz.f217.body with | some c => c | none => .skip
theorem rs217 : Tryz.f217.results.toList = [.tmp 2] := rfl
theorem W217_of {args : List D} (ha : args.all (D.noRef 0 0) = true) (hl : args.length ≤ 6) {H : Hp} {o : Out × Hp}
    (h : alone H (fnOut Tryz.prog [.tmp 2] 0 0 (E false ⟨0, 0⟩ 217 code217 (mkF 0 args) H00)) = some o) : W 217 args H = some o :=
  W_of Tryz.func217 rfl (by kernel_rfl) rfl rfl rfl rfl rfl ha (by rw [Tryz.ntmps217]; exact hl) h
/-! ### f218: sward/repr.costs$9 -/
@[simp] theorem k218_0 : ch.keep 218 0 = [0] := by kernel_rfl
@[simp] theorem k218_1 : ch.keep 218 1 = [2] := by kernel_rfl
noncomputable def code218 : Code := match Tryz.f218.body with | some c => c | none => .skip
theorem rs218 : Tryz.f218.results.toList = [.tmp 2] := rfl
theorem W218_of {args : List D} (ha : args.all (D.noRef 0 0) = true) (hl : args.length ≤ 6) {H : Hp} {o : Out × Hp}
    (h : alone H (fnOut Tryz.prog [.tmp 2] 0 0 (E false ⟨0, 0⟩ 218 code218 (mkF 0 args) H00)) = some o) : W 218 args H = some o :=
  W_of Tryz.func218 rfl (by kernel_rfl) rfl rfl rfl rfl rfl ha (by rw [Tryz.ntmps218]; exact hl) h
/-! ### f231: math/bits.Len -/
@[simp] theorem k231_0 : ch.keep 231 0 = [0] := by kernel_rfl
@[simp] theorem k231_1 : ch.keep 231 1 = [2] := by kernel_rfl
@[simp] theorem k231_2 : ch.keep 231 2 = [2] := by kernel_rfl
noncomputable def code231 : Code := match Tryz.f231.body with | some c => c | none => .skip
theorem rs231 : Tryz.f231.results.toList = [.tmp 2] := rfl
theorem W231_of {args : List D} (ha : args.all (D.noRef 0 0) = true) (hl : args.length ≤ 8) {H : Hp} {o : Out × Hp}
    (h : alone H (fnOut Tryz.prog [.tmp 2] 0 0 (E false ⟨0, 0⟩ 231 code231 (mkF 0 args) H00)) = some o) : W 231 args H = some o :=
  W_of Tryz.func231 rfl (by kernel_rfl) rfl rfl rfl rfl rfl ha (by rw [Tryz.ntmps231]; exact hl) h
/-! ### f232: sward/repr.always$1 -/
@[simp] theorem k232_0 : ch.keep 232 0 = [1] := by kernel_rfl
@[simp] theorem k232_1 : ch.keep 232 1 = [3] := by kernel_rfl
noncomputable def code232 : Code := match Tryz.f232.body with | some c => c | none => .skip
theorem rs232 : Tryz.f232.results.toList = [.tmp 3] := rfl
theorem W232_of {args : List D} (ha : args.all (D.noRef 0 0) = true) (hl : args.length ≤ 5) {H : Hp} {o : Out × Hp}
    (h : alone H (fnOut Tryz.prog [.tmp 3] 0 0 (E false ⟨0, 0⟩ 232 code232 (mkF 0 args) H00)) = some o) : W 232 args H = some o :=
  W_of Tryz.func232 rfl (by kernel_rfl) rfl rfl rfl rfl rfl ha (by rw [Tryz.ntmps232]; exact hl) h
/-! ### f238: math/bits.Len32 -/
@[simp] theorem k238_0 : ch.keep 238 0 = [0, 2] := by kernel_rfl
@[simp] theorem k238_1 : ch.keep 238 1 = [0, 2, 4] := by kernel_rfl
@[simp] theorem k238_2 : ch.keep 238 2 = [0] := by kernel_rfl
@[simp] theorem k238_3 : ch.keep 238 3 = [0, 2] := by kernel_rfl
@[simp] theorem k238_4 : ch.keep 238 4 = [0, 2, 8] := by kernel_rfl
@[simp] theorem k238_5 : ch.keep 238 5 = [0, 2] := by kernel_rfl
@[simp] theorem k238_6 : ch.keep 238 6 = [0, 2] := by kernel_rfl
@[simp] theorem k238_7 : ch.keep 238 7 = [2] := by kernel_rfl
noncomputable def code238 : Code := match Tryz.f238.body with | some c => c | none => .skip
theorem rs238 : Tryz.f238.results.toList = [.tmp 2] := rfl
theorem W238_of {args : List D} (ha : args.all (D.noRef 0 0) = true) (hl : args.length ≤ 19) {H : Hp} {o : Out × Hp}
    (h : alone H (fnOut Tryz.prog [.tmp 2] 0 0 (E false ⟨0, 0⟩ 238 code238 (mkF 0 args) H00)) = some o) : W 238 args H = some o :=
  W_of Tryz.func238 rfl (by kernel_rfl) rfl rfl rfl rfl rfl ha (by rw [Tryz.ntmps238]; exact hl) h
/-! ### f239: math/bits.Len64 -/
@[simp] theorem k239_0 : ch.keep 239 0 = [0, 2] := by kernel_rfl
@[simp] theorem k239_1 : ch.keep 239 1 = [0, 2, 4] := by kernel_rfl
@[simp] theorem k239_2 : ch.keep 239 2 = [0] := by kernel_rfl
@[simp] theorem k239_3 : ch.keep 239 3 = [0, 2] := by kernel_rfl
@[simp] theorem k239_4 : ch.keep 239 4 = [0, 2, 8] := by kernel_rfl
@[simp] theorem k239_5 : ch.keep 239 5 = [0, 2] := by kernel_rfl
@[simp] theorem k239_6 : ch.keep 239 6 = [0, 2] := by kernel_rfl
@[simp] theorem k239_7 : ch.keep 239 7 = [0, 2, 14] := by kernel_rfl
@[simp] theorem k239_8 : ch.keep 239 8 = [0, 2] := by kernel_rfl
@[simp] theorem k239_9 : ch.keep 239 9 = [0, 2] := by kernel_rfl
@[simp] theorem k239_10 : ch.keep 239 10 = [2] := by kernel_rfl
noncomputable def code239 : Code := match Tryz.f239.body with | some c => c | none => .skip
theorem rs239 : Tryz.f239.results.toList = [.tmp 2] := rfl
theorem W239_of {args : List D} (ha : args.all (D.noRef 0 0) = true) (hl : args.length ≤ 25) {H : Hp} {o : Out × Hp}
    (h : alone H (fnOut Tryz.prog [.tmp 2] 0 0 (E false ⟨0, 0⟩ 239 code239 (mkF 0 args) H00)) = some o) : W 239 args H = some o :=
  W_of Tryz.func239 rfl (by kernel_rfl) rfl rfl rfl rfl rfl ha (by rw [Tryz.ntmps239]; exact hl) h
/-! ### f13: (sward/swardlaw11.Yard).made -/
@[simp] theorem k13_0 : ch.keep 13 0 = [1, 2] := by kernel_rfl
@[simp] theorem k13_1 : ch.keep 13 1 = [1, 2, 3] := by kernel_rfl
@[simp] theorem k13_2 : ch.keep 13 2 = [1, 2, 3, 4] := by kernel_rfl
@[simp] theorem k13_3 : ch.keep 13 3 = [1, 2, 3, 4, 20, 21] := by kernel_rfl
@[simp] theorem k13_4 : ch.keep 13 4 = [1, 2, 3, 4, 20, 21, 22] := by kernel_rfl
@[simp] theorem k13_5 : ch.keep 13 5 = [1, 2, 3, 4, 5, 20, 21] := by kernel_rfl
@[simp] theorem k13_6 : ch.keep 13 6 = [1, 2, 3, 4, 5, 6, 20, 21] := by kernel_rfl
@[simp] theorem k13_7 : ch.keep 13 7 = [1, 2, 3, 4, 5, 6, 7, 20, 21] := by kernel_rfl
@[simp] theorem k13_8 : ch.keep 13 8 = [1, 2, 3, 4, 5, 6, 7, 20, 21, 32] := by kernel_rfl
@[simp] theorem k13_9 : ch.keep 13 9 = [1, 2, 3, 4, 5, 6, 7, 20, 21] := by kernel_rfl
@[simp] theorem k13_10 : ch.keep 13 10 = [1, 2, 3, 4, 5, 6, 7, 20, 21, 42] := by kernel_rfl
@[simp] theorem k13_11 : ch.keep 13 11 = [1, 2, 3, 4, 5, 6, 7, 20, 21] := by kernel_rfl
@[simp] theorem k13_12 : ch.keep 13 12 = [1, 2, 3, 4, 6, 20, 21, 52] := by kernel_rfl
@[simp] theorem k13_13 : ch.keep 13 13 = [1, 2, 3, 4, 6, 20, 21] := by kernel_rfl
@[simp] theorem k13_14 : ch.keep 13 14 = [1, 2, 3, 4, 20, 21] := by kernel_rfl
@[simp] theorem k13_15 : ch.keep 13 15 = [1, 2, 3, 4, 20, 21] := by kernel_rfl
@[simp] theorem k13_16 : ch.keep 13 16 = [1, 2, 3, 4, 69, 70, 71] := by kernel_rfl
@[simp] theorem k13_17 : ch.keep 13 17 = [1, 2, 3, 4, 69, 70, 71, 72] := by kernel_rfl
@[simp] theorem k13_18 : ch.keep 13 18 = [1, 2, 3, 4, 9, 69, 70, 71] := by kernel_rfl
@[simp] theorem k13_19 : ch.keep 13 19 = [1, 2, 3, 4, 9, 10, 69, 70, 71] := by kernel_rfl
@[simp] theorem k13_20 : ch.keep 13 20 = [1, 2, 3, 4, 9, 10, 69, 70, 71, 92] := by kernel_rfl
@[simp] theorem k13_21 : ch.keep 13 21 = [1, 2, 3, 4, 10, 69, 70, 71] := by kernel_rfl
@[simp] theorem k13_22 : ch.keep 13 22 = [1, 2, 3, 4, 69, 70, 71] := by kernel_rfl
@[simp] theorem k13_23 : ch.keep 13 23 = [1, 2, 3, 4, 69, 70, 71] := by kernel_rfl
@[simp] theorem k13_24 : ch.keep 13 24 = [2, 3, 4, 111, 112, 113] := by kernel_rfl
@[simp] theorem k13_25 : ch.keep 13 25 = [2, 3, 4, 111, 112, 113, 114] := by kernel_rfl
@[simp] theorem k13_26 : ch.keep 13 26 = [2, 3, 4, 12, 111, 112, 113] := by kernel_rfl
@[simp] theorem k13_27 : ch.keep 13 27 = [2, 3, 4, 13, 14, 111, 112, 113] := by kernel_rfl
@[simp] theorem k13_28 : ch.keep 13 28 = [2, 3, 4, 13, 14, 111, 112, 113, 129] := by kernel_rfl
@[simp] theorem k13_29 : ch.keep 13 29 = [2, 3, 4, 111, 112, 113] := by kernel_rfl
@[simp] theorem k13_30 : ch.keep 13 30 = [2, 3, 4, 111, 112, 113] := by kernel_rfl
@[simp] theorem k13_31 : ch.keep 13 31 = [2] := by kernel_rfl
@[simp] theorem fl13_19 : ch.fl 13 19 = [9, 9, 9, 9, 9, 9, 9, 9, 6, 9, 9, 9, 9, 9, 6, 8, 0] := by kernel_rfl
@[simp] theorem fl13_27 : ch.fl 13 27 = [1, 1, 1, 1, 1, 1, 1, 1, 1, 1, 1, 0] := by kernel_rfl
noncomputable def code13 : Code := match Tryz.f13.body with | some c => c | none => .skip
noncomputable def lp13_0 : Code := match code13 with | .seq _ (.seq _ (.seq _ (.seq (.seq _ (.block _ (.loop c))) _))) => c | c => c
theorem hd13_0 : ch.head 13 (firstR lp13_0) = [1, 2, 3, 4, 20, 21] := by kernel_rfl
noncomputable def lp13_1 : Code := match code13 with | .seq _ (.seq _ (.seq _ (.seq (.seq _ (.block _ (.loop (.seq _ (.seq _ (.seq (.block _ (.seq _ (.seq _ (.seq (.seq _ (.block _ (.loop c))) _)))) _)))))) _))) => c | c => c
theorem hd13_1 : ch.head 13 (firstR lp13_1) = [1, 2, 3, 4, 5, 6, 7, 20, 21] := by kernel_rfl
noncomputable def lp13_2 : Code := match code13 with | .seq _ (.seq _ (.seq _ (.seq _ (.seq (.seq _ (.block _ (.loop c))) _)))) => c | c => c
theorem hd13_2 : ch.head 13 (firstR lp13_2) = [1, 2, 3, 4, 69, 70, 71] := by kernel_rfl
noncomputable def lp13_3 : Code := match code13 with | .seq _ (.seq _ (.seq _ (.seq _ (.seq _ (.seq (.seq _ (.block _ (.loop c))) _))))) => c | c => c
theorem hd13_3 : ch.head 13 (firstR lp13_3) = [2, 3, 4, 111, 112, 113] := by kernel_rfl
theorem rs13 : Tryz.f13.results.toList = [.cell 2 33] := rfl
theorem W13_of {args : List D} (ha : args.all (D.noRef 0 0) = true) (hl : args.length ≤ 140) {H : Hp} {o : Out × Hp}
    (h : alone H (fnOut Tryz.prog [.cell 2 33] 0 0 (E false ⟨0, 0⟩ 13 code13 (mkF 0 args) H00)) = some o) : W 13 args H = some o :=
  W_of Tryz.func13 rfl (by kernel_rfl) rfl rfl rfl rfl rfl ha (by rw [Tryz.ntmps13]; exact hl) h
/-! ### f14: sward/swardlaw11.proof -/
@[simp] theorem k14_0 : ch.keep 14 0 = [1, 2, 3, 4] := by kernel_rfl
@[simp] theorem k14_1 : ch.keep 14 1 = [1, 2, 3, 4, 9] := by kernel_rfl
@[simp] theorem k14_2 : ch.keep 14 2 = [1, 2, 3, 4, 9, 17] := by kernel_rfl
@[simp] theorem k14_3 : ch.keep 14 3 = [1, 2, 3, 4, 9] := by kernel_rfl
@[simp] theorem k14_4 : ch.keep 14 4 = [1, 2, 3, 4, 9] := by kernel_rfl
@[simp] theorem k14_5 : ch.keep 14 5 = [1, 2, 3, 4, 9, 10] := by kernel_rfl
@[simp] theorem k14_6 : ch.keep 14 6 = [1, 2, 3, 4, 10, 50] := by kernel_rfl
@[simp] theorem k14_7 : ch.keep 14 7 = [8] := by kernel_rfl
@[simp] theorem k14_8 : ch.keep 14 8 = [1, 2, 3, 4, 10, 11] := by kernel_rfl
@[simp] theorem k14_9 : ch.keep 14 9 = [1, 2, 3, 4, 10, 11] := by kernel_rfl
@[simp] theorem k14_10 : ch.keep 14 10 = [1, 2, 3, 4, 10, 11] := by kernel_rfl
@[simp] theorem k14_11 : ch.keep 14 11 = [1, 2, 3, 4, 11, 67, 68] := by kernel_rfl
@[simp] theorem k14_12 : ch.keep 14 12 = [1, 2, 3, 4, 11, 67, 68, 69] := by kernel_rfl
@[simp] theorem k14_13 : ch.keep 14 13 = [1, 2, 3, 4, 11, 67, 68] := by kernel_rfl
@[simp] theorem k14_14 : ch.keep 14 14 = [1, 2, 3, 4, 11, 67, 68] := by kernel_rfl
@[simp] theorem k14_15 : ch.keep 14 15 = [8] := by kernel_rfl
noncomputable def code14 : Code := match Tryz.f14.body with | some c => c | none => .skip
noncomputable def lp14_0 : Code := match code14 with | .seq _ (.seq _ (.seq _ (.seq _ (.seq _ (.seq _ (.seq _ (.seq _ (.seq (.seq _ (.block _ (.loop c))) _)))))))) => c | c => c
theorem hd14_0 : ch.head 14 (firstR lp14_0) = [1, 2, 3, 4, 11, 67, 68] := by kernel_rfl
theorem rs14 : Tryz.f14.results.toList = [.tmp 8] := rfl
theorem W14_of {args : List D} (ha : args.all (D.noRef 0 0) = true) (hl : args.length ≤ 79) {H : Hp} {o : Out × Hp}
    (h : alone H (fnOut Tryz.prog [.tmp 8] 0 0 (E false ⟨0, 0⟩ 14 code14 (mkF 0 args) H00)) = some o) : W 14 args H = some o :=
  W_of Tryz.func14 rfl (by kernel_rfl) rfl rfl rfl rfl rfl ha (by rw [Tryz.ntmps14]; exact hl) h
/-! ### f16: sward/swardlaw11.all -/
@[simp] theorem k16_0 : ch.keep 16 0 = [1] := by kernel_rfl
@[simp] theorem k16_1 : ch.keep 16 1 = [1, 3] := by kernel_rfl
@[simp] theorem k16_2 : ch.keep 16 2 = [1, 3, 13, 14, 15] := by kernel_rfl
@[simp] theorem k16_3 : ch.keep 16 3 = [1, 3, 13, 14, 15, 16] := by kernel_rfl
@[simp] theorem k16_4 : ch.keep 16 4 = [1, 3, 5, 13, 14, 15] := by kernel_rfl
@[simp] theorem k16_5 : ch.keep 16 5 = [1, 3, 5, 6, 13, 14, 15] := by kernel_rfl
@[simp] theorem k16_6 : ch.keep 16 6 = [1, 5, 6, 13, 14, 15, 19, 20, 21] := by kernel_rfl
@[simp] theorem k16_7 : ch.keep 16 7 = [1, 5, 6, 13, 14, 15, 19, 20, 21, 22] := by kernel_rfl
@[simp] theorem k16_8 : ch.keep 16 8 = [1, 5, 6, 8, 13, 14, 15, 19, 20, 21] := by kernel_rfl
@[simp] theorem k16_9 : ch.keep 16 9 = [1, 5, 6, 8, 13, 14, 15, 19, 20, 21, 26, 27, 28] := by kernel_rfl
@[simp] theorem k16_10 : ch.keep 16 10 = [1, 5, 6, 8, 13, 14, 15, 19, 20, 21, 26, 27, 28, 29] := by kernel_rfl
@[simp] theorem k16_11 : ch.keep 16 11 = [1, 5, 6, 8, 10, 13, 14, 15, 19, 20, 21, 26, 27, 28] := by kernel_rfl
@[simp] theorem k16_12 : ch.keep 16 12 = [1, 5, 6, 8, 13, 14, 15, 19, 20, 21, 26, 27, 28] := by kernel_rfl
@[simp] theorem k16_13 : ch.keep 16 13 = [1, 5, 6, 8, 13, 14, 15, 19, 20, 21, 26, 27, 28] := by kernel_rfl
@[simp] theorem k16_14 : ch.keep 16 14 = [1, 5, 6, 13, 14, 15, 19, 20, 21] := by kernel_rfl
@[simp] theorem k16_15 : ch.keep 16 15 = [1, 3, 13, 14, 15] := by kernel_rfl
@[simp] theorem k16_16 : ch.keep 16 16 = [1, 3, 13, 14, 15] := by kernel_rfl
@[simp] theorem k16_17 : ch.keep 16 17 = [2] := by kernel_rfl
noncomputable def code16 : Code := match Tryz.f16.body with | some c => c | none => .skip
noncomputable def lp16_0 : Code := match code16 with | .seq _ (.seq _ (.seq (.seq _ (.block _ (.loop c))) _)) => c | c => c
theorem hd16_0 : ch.head 16 (firstR lp16_0) = [1, 3, 13, 14, 15] := by kernel_rfl
noncomputable def lp16_1 : Code := match code16 with | .seq _ (.seq _ (.seq (.seq _ (.block _ (.loop (.seq _ (.seq _ (.seq (.block _ (.seq _ (.seq _ (.seq (.seq _ (.block _ (.loop c))) _)))) _)))))) _)) => c | c => c
theorem hd16_1 : ch.head 16 (firstR lp16_1) = [1, 5, 6, 13, 14, 15, 19, 20, 21] := by kernel_rfl
noncomputable def lp16_2 : Code := match code16 with | .seq _ (.seq _ (.seq (.seq _ (.block _ (.loop (.seq _ (.seq _ (.seq (.block _ (.seq _ (.seq _ (.seq (.seq _ (.block _ (.loop (.seq _ (.seq _ (.seq (.block _ (.seq _ (.seq _ (.block _ (.loop c))))) _)))))) _)))) _)))))) _)) => c | c => c
theorem hd16_2 : ch.head 16 (firstR lp16_2) = [1, 5, 6, 8, 13, 14, 15, 19, 20, 21, 26, 27, 28] := by kernel_rfl
theorem rs16 : Tryz.f16.results.toList = [.tmp 2] := rfl
theorem W16_of {args : List D} (ha : args.all (D.noRef 0 0) = true) (hl : args.length ≤ 47) {H : Hp} {o : Out × Hp}
    (h : alone H (fnOut Tryz.prog [.tmp 2] 0 0 (E false ⟨0, 0⟩ 16 code16 (mkF 0 args) H00)) = some o) : W 16 args H = some o :=
  W_of Tryz.func16 rfl (by kernel_rfl) rfl rfl rfl rfl rfl ha (by rw [Tryz.ntmps16]; exact hl) h
/-! ### f54: sward/swardlaw11.all$1 -/
@[simp] theorem k54_0 : ch.keep 54 0 = [1, 2] := by kernel_rfl
@[simp] theorem k54_1 : ch.keep 54 1 = [3] := by kernel_rfl
noncomputable def code54 : Code := match Tryz.f54.body with | some c => c | none => .skip
theorem rs54 : Tryz.f54.results.toList = [.tmp 3] := rfl
theorem W54_of {args : List D} (ha : args.all (D.noRef 0 0) = true) (hl : args.length ≤ 8) {H : Hp} {o : Out × Hp}
    (h : alone H (fnOut Tryz.prog [.tmp 3] 0 0 (E false ⟨0, 0⟩ 54 code54 (mkF 0 args) H00)) = some o) : W 54 args H = some o :=
  W_of Tryz.func54 rfl (by kernel_rfl) rfl rfl rfl rfl rfl ha (by rw [Tryz.ntmps54]; exact hl) h
/-! ### f56: sward/swardlaw11.all$1$1 -/
@[simp] theorem k56_0 : ch.keep 56 0 = [1, 2] := by kernel_rfl
@[simp] theorem k56_1 : ch.keep 56 1 = [3] := by kernel_rfl
@[simp] theorem fl56_1 : ch.fl 56 1 = [1, 1, 1, 1, 1, 1, 1, 1, 1, 1, 0, 0] := by kernel_rfl
noncomputable def code56 : Code := match Tryz.f56.body with | some c => c | none => .skip
theorem rs56 : Tryz.f56.results.toList = [.tmp 3] := rfl
theorem W56_of {args : List D} (ha : args.all (D.noRef 0 0) = true) (hl : args.length ≤ 15) {H : Hp} {o : Out × Hp}
    (h : alone H (fnOut Tryz.prog [.tmp 3] 0 0 (E false ⟨0, 0⟩ 56 code56 (mkF 0 args) H00)) = some o) : W 56 args H = some o :=
  W_of Tryz.func56 rfl (by kernel_rfl) rfl rfl rfl rfl rfl ha (by rw [Tryz.ntmps56]; exact hl) h
/-! ### f52: slices.Clip[[]sward/api.ShapeForm,sward/api.ShapeForm] -/
@[simp] theorem k52_0 : ch.keep 52 0 = [0] := by kernel_rfl
@[simp] theorem k52_1 : ch.keep 52 1 = [2] := by kernel_rfl
noncomputable def code52 : Code := match Tryz.f52.body with | some c => c | none => .skip
theorem rs52 : Tryz.f52.results.toList = [.tmp 2] := rfl
theorem W52_ofO {args : List D} {H : Hp} (hp : ¬ (ch.pure 52 = true ∧ args.all (D.noRef 0 0) = true)) (hl : args.length ≤ 9) {o : Out × Hp}
    (h : fnOutO Tryz.prog [.tmp 2] (E false ⟨0, 0⟩ 52 code52 (mkF 0 args) H) = some o) : W 52 args H = some o :=
  W_ofO Tryz.func52 rfl (by kernel_rfl) rfl rfl rfl hp (by rw [Tryz.ntmps52]; exact hl) h
/-! ### f50: slices.Clone[[]bool,bool] -/
@[simp] theorem k50_0 : ch.keep 50 0 = [0] := by kernel_rfl
@[simp] theorem k50_1 : ch.keep 50 1 = [0, 4] := by kernel_rfl
@[simp] theorem k50_2 : ch.keep 50 2 = [2] := by kernel_rfl
@[simp] theorem k50_3 : ch.keep 50 3 = [2] := by kernel_rfl
noncomputable def code50 : Code := match Tryz.f50.body with | some c => c | none => .skip
theorem rs50 : Tryz.f50.results.toList = [.tmp 2] := rfl
theorem W50_ofO {args : List D} {H : Hp} (hp : ¬ (ch.pure 50 = true ∧ args.all (D.noRef 0 0) = true)) (hl : args.length ≤ 8) {o : Out × Hp}
    (h : fnOutO Tryz.prog [.tmp 2] (E true ⟨0, 0⟩ 50 code50 (mkF 0 args) H) = some o) : W 50 args H = some o :=
  W_ofO Tryz.func50 rfl (by kernel_rfl) rfl rfl rfl hp (by rw [Tryz.ntmps50]; exact hl) h
/-! ### f92: slices.IndexFunc[[][]sward/api.ShapeForm,[]sward/api.ShapeForm] -/
@[simp] theorem k92_0 : ch.keep 92 0 = [0, 1] := by kernel_rfl
@[simp] theorem k92_1 : ch.keep 92 1 = [0, 1, 7, 8] := by kernel_rfl
@[simp] theorem k92_2 : ch.keep 92 2 = [0, 1, 7, 8, 9] := by kernel_rfl
@[simp] theorem k92_3 : ch.keep 92 3 = [0, 1, 5, 7, 8] := by kernel_rfl
@[simp] theorem k92_4 : ch.keep 92 4 = [0, 1, 5, 7, 8, 16] := by kernel_rfl
@[simp] theorem k92_5 : ch.keep 92 5 = [4] := by kernel_rfl
@[simp] theorem k92_6 : ch.keep 92 6 = [0, 1, 7, 8] := by kernel_rfl
@[simp] theorem k92_7 : ch.keep 92 7 = [4] := by kernel_rfl
noncomputable def code92 : Code := match Tryz.f92.body with | some c => c | none => .skip
noncomputable def lp92_0 : Code := match code92 with | .seq _ (.seq (.seq _ (.block _ (.loop c))) _) => c | c => c
theorem hd92_0 : ch.head 92 (firstR lp92_0) = [0, 1, 7, 8] := by kernel_rfl
theorem rs92 : Tryz.f92.results.toList = [.tmp 4] := rfl
theorem W92_of {args : List D} (ha : args.all (D.noRef 0 0) = true) (hl : args.length ≤ 19) {H : Hp} {o : Out × Hp}
    (h : alone H (fnOut Tryz.prog [.tmp 4] 0 0 (E false ⟨0, 0⟩ 92 code92 (mkF 0 args) H00)) = some o) : W 92 args H = some o :=
  W_of Tryz.func92 rfl (by kernel_rfl) rfl rfl rfl rfl rfl ha (by rw [Tryz.ntmps92]; exact hl) h
/-! ### f6: sward/swardlaw11.ReprNumbers -/
@[simp] theorem k6_0 : ch.keep 6 0 = [2, 3] := by kernel_rfl
@[simp] theorem k6_1 : ch.keep 6 1 = [3, 5] := by kernel_rfl
@[simp] theorem k6_2 : ch.keep 6 2 = [3, 5, 6] := by kernel_rfl
@[simp] theorem k6_3 : ch.keep 6 3 = [3, 5, 6, 7] := by kernel_rfl
@[simp] theorem k6_4 : ch.keep 6 4 = [3, 5, 6, 7, 33, 34] := by kernel_rfl
@[simp] theorem k6_5 : ch.keep 6 5 = [3, 5, 6, 7, 33, 34, 35] := by kernel_rfl
@[simp] theorem k6_6 : ch.keep 6 6 = [3, 5, 6, 7, 8, 33, 34] := by kernel_rfl
@[simp] theorem k6_7 : ch.keep 6 7 = [3, 5, 6, 7, 33, 34] := by kernel_rfl
@[simp] theorem k6_8 : ch.keep 6 8 = [3, 5, 6, 7, 33, 34] := by kernel_rfl
@[simp] theorem k6_9 : ch.keep 6 9 = [5, 6, 7, 9] := by kernel_rfl
@[simp] theorem k6_10 : ch.keep 6 10 = [5, 6, 7, 9, 53, 54, 55] := by kernel_rfl
@[simp] theorem k6_11 : ch.keep 6 11 = [5, 6, 7, 9, 53, 54, 55, 56] := by kernel_rfl
@[simp] theorem k6_12 : ch.keep 6 12 = [5, 6, 7, 9, 10, 11, 53, 54, 55] := by kernel_rfl
@[simp] theorem k6_13 : ch.keep 6 13 = [5, 6, 7, 9, 53, 54, 55] := by kernel_rfl
@[simp] theorem k6_14 : ch.keep 6 14 = [5, 6, 7, 9, 53, 54, 55] := by kernel_rfl
@[simp] theorem k6_15 : ch.keep 6 15 = [5, 6, 7, 9, 70, 71, 72] := by kernel_rfl
@[simp] theorem k6_16 : ch.keep 6 16 = [5, 6, 7, 9, 70, 71, 72, 73] := by kernel_rfl
@[simp] theorem k6_17 : ch.keep 6 17 = [5, 6, 7, 9, 13, 70, 71, 72] := by kernel_rfl
@[simp] theorem k6_18 : ch.keep 6 18 = [5, 6, 7, 9, 13, 70, 71, 72] := by kernel_rfl
@[simp] theorem k6_19 : ch.keep 6 19 = [5, 6, 7, 9, 13, 70, 71, 72, 84] := by kernel_rfl
@[simp] theorem k6_20 : ch.keep 6 20 = [5, 6, 7, 9, 13, 70, 71, 72] := by kernel_rfl
@[simp] theorem k6_21 : ch.keep 6 21 = [5, 6, 7, 9, 70, 71, 72] := by kernel_rfl
@[simp] theorem k6_22 : ch.keep 6 22 = [5, 6, 7, 9, 70, 71, 72] := by kernel_rfl
@[simp] theorem k6_23 : ch.keep 6 23 = [5, 6, 7, 9, 99, 100, 101] := by kernel_rfl
@[simp] theorem k6_24 : ch.keep 6 24 = [5, 6, 7, 9, 99, 100, 101, 102] := by kernel_rfl
@[simp] theorem k6_25 : ch.keep 6 25 = [5, 6, 7, 9, 15, 99, 100, 101] := by kernel_rfl
@[simp] theorem k6_26 : ch.keep 6 26 = [5, 6, 7, 9, 99, 100, 101] := by kernel_rfl
@[simp] theorem k6_27 : ch.keep 6 27 = [5, 6, 7, 9, 99, 100, 101] := by kernel_rfl
@[simp] theorem k6_28 : ch.keep 6 28 = [5, 6, 7, 9, 17, 18] := by kernel_rfl
@[simp] theorem k6_29 : ch.keep 6 29 = [5, 6, 7, 9, 17, 18, 20, 21] := by kernel_rfl
@[simp] theorem k6_30 : ch.keep 6 30 = [5, 6, 7, 9, 141] := by kernel_rfl
@[simp] theorem k6_31 : ch.keep 6 31 = [4] := by kernel_rfl
@[simp] theorem k6_32 : ch.keep 6 32 = [5, 7, 9, 142, 143] := by kernel_rfl
@[simp] theorem k6_33 : ch.keep 6 33 = [5, 7, 9, 142, 143, 144] := by kernel_rfl
@[simp] theorem k6_34 : ch.keep 6 34 = [5, 7, 9, 22, 142, 143] := by kernel_rfl
@[simp] theorem k6_35 : ch.keep 6 35 = [5, 7, 9, 22, 23, 142, 143] := by kernel_rfl
@[simp] theorem k6_36 : ch.keep 6 36 = [5, 7, 9, 22, 23, 142, 143, 147] := by kernel_rfl
@[simp] theorem k6_37 : ch.keep 6 37 = [5, 7, 9, 22, 23, 142, 143] := by kernel_rfl
@[simp] theorem k6_38 : ch.keep 6 38 = [5, 7, 9, 22, 23, 24, 25, 142, 143] := by kernel_rfl
@[simp] theorem k6_39 : ch.keep 6 39 = [5, 7, 9, 22, 23, 24, 25, 26, 27, 142, 143] := by kernel_rfl
@[simp] theorem k6_40 : ch.keep 6 40 = [5, 7, 9, 22, 23, 142, 143, 174] := by kernel_rfl
@[simp] theorem k6_41 : ch.keep 6 41 = [4] := by kernel_rfl
@[simp] theorem k6_42 : ch.keep 6 42 = [5, 7, 9, 142, 143] := by kernel_rfl
@[simp] theorem k6_43 : ch.keep 6 43 = [4] := by kernel_rfl
@[simp] theorem fl6_13 : ch.fl 6 13 = [1, 1, 1, 1, 1, 1, 1, 0, 0] := by kernel_rfl
@[simp] theorem fl6_26 : ch.fl 6 26 = [1, 1, 1, 1, 1, 1, 1, 1, 1, 1, 1, 1, 1, 1, 0, 0, 0] := by kernel_rfl
@[simp] theorem fl6_39 : ch.fl 6 39 = [1, 1, 1, 1, 1, 1, 0, 0, 1, 1, 1, 0] := by kernel_rfl
noncomputable def code6 : Code := match Tryz.f6.body with | some c => c | none => .skip
noncomputable def lp6_0 : Code := match code6 with | .seq _ (.seq _ (.seq _ (.seq _ (.seq (.seq _ (.block _ (.loop c))) _)))) => c | c => c
theorem hd6_0 : ch.head 6 (firstR lp6_0) = [3, 5, 6, 7, 33, 34] := by kernel_rfl
noncomputable def lp6_1 : Code := match code6 with | .seq _ (.seq _ (.seq _ (.seq _ (.seq _ (.seq _ (.seq (.seq _ (.block _ (.loop c))) _)))))) => c | c => c
theorem hd6_1 : ch.head 6 (firstR lp6_1) = [5, 6, 7, 9, 53, 54, 55] := by kernel_rfl
noncomputable def lp6_2 : Code := match code6 with | .seq _ (.seq _ (.seq _ (.seq _ (.seq _ (.seq _ (.seq _ (.seq (.seq _ (.block _ (.loop c))) _))))))) => c | c => c
theorem hd6_2 : ch.head 6 (firstR lp6_2) = [5, 6, 7, 9, 70, 71, 72] := by kernel_rfl
noncomputable def lp6_3 : Code := match code6 with | .seq _ (.seq _ (.seq _ (.seq _ (.seq _ (.seq _ (.seq _ (.seq _ (.seq (.seq _ (.block _ (.loop c))) _)))))))) => c | c => c
theorem hd6_3 : ch.head 6 (firstR lp6_3) = [5, 6, 7, 9, 99, 100, 101] := by kernel_rfl
noncomputable def lp6_4 : Code := match code6 with | .seq _ (.seq _ (.seq _ (.seq _ (.seq _ (.seq _ (.seq _ (.seq _ (.seq _ (.seq _ (.seq _ (.seq _ (.seq (.seq _ (.block _ (.loop c))) _)))))))))))) => c | c => c
theorem hd6_4 : ch.head 6 (firstR lp6_4) = [5, 7, 9, 142, 143] := by kernel_rfl
noncomputable def lp6_5 : Code := match code6 with | .seq _ (.seq _ (.seq _ (.seq _ (.seq _ (.seq _ (.seq _ (.seq _ (.seq _ (.seq _ (.seq _ (.seq _ (.seq (.seq _ (.block _ (.loop (.seq _ (.seq _ (.seq (.block _ (.seq _ (.seq _ (.block _ (.loop c))))) _)))))) _)))))))))))) => c | c => c
theorem hd6_5 : ch.head 6 (firstR lp6_5) = [5, 7, 9, 22, 23, 142, 143] := by kernel_rfl
theorem rs6 : Tryz.f6.results.toList = [.tmp 4] := rfl
theorem W6_of {args : List D} (ha : args.all (D.noRef 0 0) = true) (hl : args.length ≤ 177) {H : Hp} {o : Out × Hp}
    (h : alone H (fnOut Tryz.prog [.tmp 4] 0 0 (E true ⟨0, 0⟩ 6 code6 (mkF 0 args) H00)) = some o) : W 6 args H = some o :=
  W_of Tryz.func6 rfl (by kernel_rfl) rfl rfl rfl rfl rfl ha (by rw [Tryz.ntmps6]; exact hl) h
/-! ### f23: slices.Equal[[]sward/api.ShapeForm,sward/api.ShapeForm] -/
@[simp] theorem k23_0 : ch.keep 23 0 = [0, 1] := by kernel_rfl
@[simp] theorem k23_1 : ch.keep 23 1 = [0, 1, 10] := by kernel_rfl
@[simp] theorem k23_2 : ch.keep 23 2 = [4] := by kernel_rfl
@[simp] theorem k23_3 : ch.keep 23 3 = [0, 1, 12, 13] := by kernel_rfl
@[simp] theorem k23_4 : ch.keep 23 4 = [0, 1, 12, 13, 14] := by kernel_rfl
@[simp] theorem k23_5 : ch.keep 23 5 = [0, 1, 5, 12, 13] := by kernel_rfl
@[simp] theorem k23_6 : ch.keep 23 6 = [0, 1, 12, 13, 24] := by kernel_rfl
@[simp] theorem k23_7 : ch.keep 23 7 = [4] := by kernel_rfl
@[simp] theorem k23_8 : ch.keep 23 8 = [0, 1, 12, 13] := by kernel_rfl
@[simp] theorem k23_9 : ch.keep 23 9 = [4] := by kernel_rfl
@[simp] theorem fl23_6 : ch.fl 23 6 = [1, 1, 1, 1, 1, 1, 1, 1, 0] := by kernel_rfl
noncomputable def code23 : Code := match Tryz.f23.body with | some c => c | none => .skip
noncomputable def lp23_0 : Code := match code23 with | .seq _ (.seq _ (.seq (.seq _ (.block _ (.loop c))) _)) => c | c => c
theorem hd23_0 : ch.head 23 (firstR lp23_0) = [0, 1, 12, 13] := by kernel_rfl
theorem rs23 : Tryz.f23.results.toList = [.tmp 4] := rfl
theorem W23_of {args : List D} (ha : args.all (D.noRef 0 0) = true) (hl : args.length ≤ 26) {H : Hp} {o : Out × Hp}
    (h : alone H (fnOut Tryz.prog [.tmp 4] 0 0 (E false ⟨0, 0⟩ 23 code23 (mkF 0 args) H00)) = some o) : W 23 args H = some o :=
  W_of Tryz.func23 rfl (by kernel_rfl) rfl rfl rfl rfl rfl ha (by rw [Tryz.ntmps23]; exact hl) h

end Go.Vi
end

section
/- Vi: heads of slices.DeleteFunc. No conditions. -/
namespace Go.Vi
open Go Go.Proofs
set_option maxRecDepth 100000
/-! ### f53: slices.DeleteFunc[[][]sward/api.ShapeForm,[]sward/api.ShapeForm] -/
@[simp] theorem k53_0 : ch.keep 53 0 = [0, 1] := by kernel_rfl
@[simp] theorem k53_1 : ch.keep 53 1 = [0, 1, 5] := by kernel_rfl
@[simp] theorem k53_2 : ch.keep 53 2 = [0, 1, 5, 12] := by kernel_rfl
@[simp] theorem k53_3 : ch.keep 53 3 = [4] := by kernel_rfl
@[simp] theorem k53_4 : ch.keep 53 4 = [0, 1, 5, 6] := by kernel_rfl
@[simp] theorem k53_5 : ch.keep 53 5 = [0, 1, 5, 6, 19] := by kernel_rfl
@[simp] theorem k53_6 : ch.keep 53 6 = [0, 1, 5, 6] := by kernel_rfl
@[simp] theorem k53_7 : ch.keep 53 7 = [0, 1, 5, 6, 7] := by kernel_rfl
@[simp] theorem k53_8 : ch.keep 53 8 = [0, 1, 5, 6, 7, 29] := by kernel_rfl
@[simp] theorem k53_9 : ch.keep 53 9 = [0, 1, 5, 6] := by kernel_rfl
@[simp] theorem k53_10 : ch.keep 53 10 = [0, 1, 5, 6] := by kernel_rfl
@[simp] theorem k53_11 : ch.keep 53 11 = [0, 5] := by kernel_rfl
@[simp] theorem k53_12 : ch.keep 53 12 = [4] := by kernel_rfl
noncomputable def code53 : Code := match Tryz.f53.body with | some c => c | none => .skip
noncomputable def lp53_0 : Code := match code53 with | .seq _ (.seq _ (.seq _ (.seq (.seq _ (.block _ (.loop c))) _))) => c | c => c
theorem hd53_0 : ch.head 53 (firstR lp53_0) = [0, 1, 5, 6] := by kernel_rfl
theorem rs53 : Tryz.f53.results.toList = [.tmp 4] := rfl

end Go.Vi
end
