/- It is proved here what the heads and facts of the program's functions are to the evaluator; no condition. -/
import Derived.Test.YtojkbmepcbgbhaaGreatDoorMF
set_option linter.unusedVariables false
set_option linter.unusedSimpArgs false

section
/- Vi: what the evaluator asks of the program's types; made by a program of ours (wip/tools/mkfacts.py). No conditions. -/
namespace Go.Vi
open Go Go.Proofs
set_option maxRecDepth 100000
@[simp] theorem sz0 : szOf Tryz.prog 0 = some 1 := by kernel_rfl
@[simp] theorem ag0 : aggOf Tryz.prog 0 = some false := by kernel_rfl
@[simp] theorem by0 : byOf Tryz.prog 0 = some 0 := by kernel_rfl
@[simp] theorem sz1 : szOf Tryz.prog 1 = some 1 := by kernel_rfl
@[simp] theorem ag1 : aggOf Tryz.prog 1 = some false := by kernel_rfl
@[simp] theorem by1 : byOf Tryz.prog 1 = some 8 := by kernel_rfl
@[simp] theorem sz2 : szOf Tryz.prog 2 = some 1 := by kernel_rfl
@[simp] theorem ag2 : aggOf Tryz.prog 2 = some false := by kernel_rfl
@[simp] theorem by2 : byOf Tryz.prog 2 = some 8 := by kernel_rfl
@[simp] theorem sz3 : szOf Tryz.prog 3 = some 1 := by kernel_rfl
@[simp] theorem ag3 : aggOf Tryz.prog 3 = some false := by kernel_rfl
@[simp] theorem by3 : byOf Tryz.prog 3 = some 8 := by kernel_rfl
@[simp] theorem sz4 : szOf Tryz.prog 4 = some 1 := by kernel_rfl
@[simp] theorem ag4 : aggOf Tryz.prog 4 = some false := by kernel_rfl
@[simp] theorem by4 : byOf Tryz.prog 4 = some 1 := by kernel_rfl
@[simp] theorem sz5 : szOf Tryz.prog 5 = some 1 := by kernel_rfl
@[simp] theorem ag5 : aggOf Tryz.prog 5 = some false := by kernel_rfl
@[simp] theorem by5 : byOf Tryz.prog 5 = some 1 := by kernel_rfl
@[simp] theorem sz6 : szOf Tryz.prog 6 = some 1 := by kernel_rfl
@[simp] theorem ag6 : aggOf Tryz.prog 6 = some false := by kernel_rfl
@[simp] theorem by6 : byOf Tryz.prog 6 = some 1 := by kernel_rfl
@[simp] theorem sz7 : szOf Tryz.prog 7 = some 4 := by kernel_rfl
@[simp] theorem ag7 : aggOf Tryz.prog 7 = some true := by kernel_rfl
@[simp] theorem by7 : byOf Tryz.prog 7 = some 24 := by kernel_rfl
@[simp] theorem sz8 : szOf Tryz.prog 8 = some 4 := by kernel_rfl
@[simp] theorem ag8 : aggOf Tryz.prog 8 = some true := by kernel_rfl
@[simp] theorem by8 : byOf Tryz.prog 8 = some 24 := by kernel_rfl
@[simp] theorem sz9 : szOf Tryz.prog 9 = some 1 := by kernel_rfl
@[simp] theorem ag9 : aggOf Tryz.prog 9 = some false := by kernel_rfl
@[simp] theorem by9 : byOf Tryz.prog 9 = some 16 := by kernel_rfl
@[simp] theorem sz10 : szOf Tryz.prog 10 = some 1 := by kernel_rfl
@[simp] theorem ag10 : aggOf Tryz.prog 10 = some false := by kernel_rfl
@[simp] theorem by10 : byOf Tryz.prog 10 = some 16 := by kernel_rfl
@[simp] theorem sz11 : szOf Tryz.prog 11 = some 1 := by kernel_rfl
@[simp] theorem ag11 : aggOf Tryz.prog 11 = some false := by kernel_rfl
@[simp] theorem by11 : byOf Tryz.prog 11 = some 16 := by kernel_rfl
@[simp] theorem sz12 : szOf Tryz.prog 12 = some 1 := by kernel_rfl
@[simp] theorem ag12 : aggOf Tryz.prog 12 = some false := by kernel_rfl
@[simp] theorem by12 : byOf Tryz.prog 12 = some 8 := by kernel_rfl
@[simp] theorem sz13 : szOf Tryz.prog 13 = some 2 := by kernel_rfl
@[simp] theorem ag13 : aggOf Tryz.prog 13 = some true := by kernel_rfl
@[simp] theorem by13 : byOf Tryz.prog 13 = some 24 := by kernel_rfl
@[simp] theorem sz14 : szOf Tryz.prog 14 = some 2 := by kernel_rfl
@[simp] theorem ag14 : aggOf Tryz.prog 14 = some true := by kernel_rfl
@[simp] theorem by14 : byOf Tryz.prog 14 = some 24 := by kernel_rfl
@[simp] theorem sz15 : szOf Tryz.prog 15 = some 1 := by kernel_rfl
@[simp] theorem ag15 : aggOf Tryz.prog 15 = some false := by kernel_rfl
@[simp] theorem by15 : byOf Tryz.prog 15 = some 8 := by kernel_rfl
@[simp] theorem sz16 : szOf Tryz.prog 16 = some 1 := by kernel_rfl
@[simp] theorem ag16 : aggOf Tryz.prog 16 = some false := by kernel_rfl
@[simp] theorem by16 : byOf Tryz.prog 16 = some 8 := by kernel_rfl
@[simp] theorem sz17 : szOf Tryz.prog 17 = some 1 := by kernel_rfl
@[simp] theorem ag17 : aggOf Tryz.prog 17 = some false := by kernel_rfl
@[simp] theorem by17 : byOf Tryz.prog 17 = some 8 := by kernel_rfl
@[simp] theorem sz18 : szOf Tryz.prog 18 = some 1 := by kernel_rfl
@[simp] theorem ag18 : aggOf Tryz.prog 18 = some true := by kernel_rfl
@[simp] theorem by18 : byOf Tryz.prog 18 = some 8 := by kernel_rfl
@[simp] theorem sz19 : szOf Tryz.prog 19 = some 1 := by kernel_rfl
@[simp] theorem ag19 : aggOf Tryz.prog 19 = some true := by kernel_rfl
@[simp] theorem by19 : byOf Tryz.prog 19 = some 8 := by kernel_rfl
@[simp] theorem sz20 : szOf Tryz.prog 20 = some 1 := by kernel_rfl
@[simp] theorem ag20 : aggOf Tryz.prog 20 = some false := by kernel_rfl
@[simp] theorem by20 : byOf Tryz.prog 20 = some 16 := by kernel_rfl
@[simp] theorem sz21 : szOf Tryz.prog 21 = some 1 := by kernel_rfl
@[simp] theorem ag21 : aggOf Tryz.prog 21 = some false := by kernel_rfl
@[simp] theorem by21 : byOf Tryz.prog 21 = some 4 := by kernel_rfl
@[simp] theorem sz22 : szOf Tryz.prog 22 = some 1 := by kernel_rfl
@[simp] theorem ag22 : aggOf Tryz.prog 22 = some false := by kernel_rfl
@[simp] theorem by22 : byOf Tryz.prog 22 = some 8 := by kernel_rfl
@[simp] theorem sz23 : szOf Tryz.prog 23 = some 1 := by kernel_rfl
@[simp] theorem ag23 : aggOf Tryz.prog 23 = some false := by kernel_rfl
@[simp] theorem by23 : byOf Tryz.prog 23 = some 24 := by kernel_rfl
@[simp] theorem el23 : elemOf Tryz.prog 23 = some 25 := by kernel_rfl
@[simp] theorem un23 : Tryz.prog.underlying 23 = some (.slice 25) := by kernel_rfl
@[simp] theorem sz24 : szOf Tryz.prog 24 = some 4 := by kernel_rfl
@[simp] theorem ag24 : aggOf Tryz.prog 24 = some true := by kernel_rfl
@[simp] theorem by24 : byOf Tryz.prog 24 = some 56 := by kernel_rfl
@[simp] theorem sz25 : szOf Tryz.prog 25 = some 4 := by kernel_rfl
@[simp] theorem ag25 : aggOf Tryz.prog 25 = some true := by kernel_rfl
@[simp] theorem by25 : byOf Tryz.prog 25 = some 56 := by kernel_rfl
@[simp] theorem sz26 : szOf Tryz.prog 26 = some 1 := by kernel_rfl
@[simp] theorem ag26 : aggOf Tryz.prog 26 = some false := by kernel_rfl
@[simp] theorem by26 : byOf Tryz.prog 26 = some 24 := by kernel_rfl
@[simp] theorem el26 : elemOf Tryz.prog 26 = some 3 := by kernel_rfl
@[simp] theorem un26 : Tryz.prog.underlying 26 = some (.slice 3) := by kernel_rfl
@[simp] theorem sz27 : szOf Tryz.prog 27 = some 1 := by kernel_rfl
@[simp] theorem ag27 : aggOf Tryz.prog 27 = some false := by kernel_rfl
@[simp] theorem by27 : byOf Tryz.prog 27 = some 8 := by kernel_rfl
@[simp] theorem sz28 : szOf Tryz.prog 28 = some 1 := by kernel_rfl
@[simp] theorem ag28 : aggOf Tryz.prog 28 = some false := by kernel_rfl
@[simp] theorem by28 : byOf Tryz.prog 28 = some 8 := by kernel_rfl
@[simp] theorem sz29 : szOf Tryz.prog 29 = some 1 := by kernel_rfl
@[simp] theorem ag29 : aggOf Tryz.prog 29 = some false := by kernel_rfl
@[simp] theorem by29 : byOf Tryz.prog 29 = some 8 := by kernel_rfl
@[simp] theorem sz30 : szOf Tryz.prog 30 = some 1 := by kernel_rfl
@[simp] theorem ag30 : aggOf Tryz.prog 30 = some false := by kernel_rfl
@[simp] theorem by30 : byOf Tryz.prog 30 = some 0 := by kernel_rfl
@[simp] theorem sz31 : szOf Tryz.prog 31 = some 1 := by kernel_rfl
@[simp] theorem ag31 : aggOf Tryz.prog 31 = some false := by kernel_rfl
@[simp] theorem by31 : byOf Tryz.prog 31 = some 8 := by kernel_rfl
@[simp] theorem sz32 : szOf Tryz.prog 32 = some 1 := by kernel_rfl
@[simp] theorem ag32 : aggOf Tryz.prog 32 = some false := by kernel_rfl
@[simp] theorem by32 : byOf Tryz.prog 32 = some 0 := by kernel_rfl
@[simp] theorem sz33 : szOf Tryz.prog 33 = some 1 := by kernel_rfl
@[simp] theorem ag33 : aggOf Tryz.prog 33 = some false := by kernel_rfl
@[simp] theorem by33 : byOf Tryz.prog 33 = some 8 := by kernel_rfl
@[simp] theorem sz34 : szOf Tryz.prog 34 = some 1 := by kernel_rfl
@[simp] theorem ag34 : aggOf Tryz.prog 34 = some false := by kernel_rfl
@[simp] theorem by34 : byOf Tryz.prog 34 = some 0 := by kernel_rfl
@[simp] theorem sz35 : szOf Tryz.prog 35 = some 1 := by kernel_rfl
@[simp] theorem ag35 : aggOf Tryz.prog 35 = some false := by kernel_rfl
@[simp] theorem by35 : byOf Tryz.prog 35 = some 8 := by kernel_rfl
@[simp] theorem sz36 : szOf Tryz.prog 36 = some 1 := by kernel_rfl
@[simp] theorem ag36 : aggOf Tryz.prog 36 = some false := by kernel_rfl
@[simp] theorem by36 : byOf Tryz.prog 36 = some 8 := by kernel_rfl
@[simp] theorem sz37 : szOf Tryz.prog 37 = some 1 := by kernel_rfl
@[simp] theorem ag37 : aggOf Tryz.prog 37 = some false := by kernel_rfl
@[simp] theorem by37 : byOf Tryz.prog 37 = some 8 := by kernel_rfl
@[simp] theorem sz38 : szOf Tryz.prog 38 = some 1 := by kernel_rfl
@[simp] theorem ag38 : aggOf Tryz.prog 38 = some false := by kernel_rfl
@[simp] theorem by38 : byOf Tryz.prog 38 = some 8 := by kernel_rfl
@[simp] theorem sz39 : szOf Tryz.prog 39 = some 1 := by kernel_rfl
@[simp] theorem ag39 : aggOf Tryz.prog 39 = some false := by kernel_rfl
@[simp] theorem by39 : byOf Tryz.prog 39 = some 0 := by kernel_rfl
@[simp] theorem sz40 : szOf Tryz.prog 40 = some 1 := by kernel_rfl
@[simp] theorem ag40 : aggOf Tryz.prog 40 = some false := by kernel_rfl
@[simp] theorem by40 : byOf Tryz.prog 40 = some 8 := by kernel_rfl
@[simp] theorem sz41 : szOf Tryz.prog 41 = some 1 := by kernel_rfl
@[simp] theorem ag41 : aggOf Tryz.prog 41 = some false := by kernel_rfl
@[simp] theorem by41 : byOf Tryz.prog 41 = some 8 := by kernel_rfl
@[simp] theorem sz42 : szOf Tryz.prog 42 = some 1 := by kernel_rfl
@[simp] theorem ag42 : aggOf Tryz.prog 42 = some false := by kernel_rfl
@[simp] theorem by42 : byOf Tryz.prog 42 = some 8 := by kernel_rfl
@[simp] theorem sz43 : szOf Tryz.prog 43 = some 1 := by kernel_rfl
@[simp] theorem ag43 : aggOf Tryz.prog 43 = some false := by kernel_rfl
@[simp] theorem by43 : byOf Tryz.prog 43 = some 8 := by kernel_rfl
@[simp] theorem sz44 : szOf Tryz.prog 44 = some 1 := by kernel_rfl
@[simp] theorem ag44 : aggOf Tryz.prog 44 = some false := by kernel_rfl
@[simp] theorem by44 : byOf Tryz.prog 44 = some 0 := by kernel_rfl
@[simp] theorem sz45 : szOf Tryz.prog 45 = some 1 := by kernel_rfl
@[simp] theorem ag45 : aggOf Tryz.prog 45 = some false := by kernel_rfl
@[simp] theorem by45 : byOf Tryz.prog 45 = some 8 := by kernel_rfl
@[simp] theorem sz46 : szOf Tryz.prog 46 = some 1 := by kernel_rfl
@[simp] theorem ag46 : aggOf Tryz.prog 46 = some false := by kernel_rfl
@[simp] theorem by46 : byOf Tryz.prog 46 = some 8 := by kernel_rfl
@[simp] theorem sz47 : szOf Tryz.prog 47 = some 1 := by kernel_rfl
@[simp] theorem ag47 : aggOf Tryz.prog 47 = some false := by kernel_rfl
@[simp] theorem by47 : byOf Tryz.prog 47 = some 8 := by kernel_rfl
@[simp] theorem sz48 : szOf Tryz.prog 48 = some 1 := by kernel_rfl
@[simp] theorem ag48 : aggOf Tryz.prog 48 = some false := by kernel_rfl
@[simp] theorem by48 : byOf Tryz.prog 48 = some 0 := by kernel_rfl
@[simp] theorem sz49 : szOf Tryz.prog 49 = some 1 := by kernel_rfl
@[simp] theorem ag49 : aggOf Tryz.prog 49 = some false := by kernel_rfl
@[simp] theorem by49 : byOf Tryz.prog 49 = some 8 := by kernel_rfl
@[simp] theorem sz50 : szOf Tryz.prog 50 = some 1 := by kernel_rfl
@[simp] theorem ag50 : aggOf Tryz.prog 50 = some false := by kernel_rfl
@[simp] theorem by50 : byOf Tryz.prog 50 = some 0 := by kernel_rfl
@[simp] theorem sz51 : szOf Tryz.prog 51 = some 1 := by kernel_rfl
@[simp] theorem ag51 : aggOf Tryz.prog 51 = some false := by kernel_rfl
@[simp] theorem by51 : byOf Tryz.prog 51 = some 8 := by kernel_rfl
@[simp] theorem sz52 : szOf Tryz.prog 52 = some 1 := by kernel_rfl
@[simp] theorem ag52 : aggOf Tryz.prog 52 = some false := by kernel_rfl
@[simp] theorem by52 : byOf Tryz.prog 52 = some 8 := by kernel_rfl
@[simp] theorem sz53 : szOf Tryz.prog 53 = some 1 := by kernel_rfl
@[simp] theorem ag53 : aggOf Tryz.prog 53 = some false := by kernel_rfl
@[simp] theorem by53 : byOf Tryz.prog 53 = some 8 := by kernel_rfl
@[simp] theorem sz54 : szOf Tryz.prog 54 = some 1 := by kernel_rfl
@[simp] theorem ag54 : aggOf Tryz.prog 54 = some false := by kernel_rfl
@[simp] theorem by54 : byOf Tryz.prog 54 = some 8 := by kernel_rfl
@[simp] theorem sz55 : szOf Tryz.prog 55 = some 1 := by kernel_rfl
@[simp] theorem ag55 : aggOf Tryz.prog 55 = some false := by kernel_rfl
@[simp] theorem by55 : byOf Tryz.prog 55 = some 8 := by kernel_rfl
@[simp] theorem sz56 : szOf Tryz.prog 56 = some 1 := by kernel_rfl
@[simp] theorem ag56 : aggOf Tryz.prog 56 = some false := by kernel_rfl
@[simp] theorem by56 : byOf Tryz.prog 56 = some 24 := by kernel_rfl
@[simp] theorem el56 : elemOf Tryz.prog 56 = some 5 := by kernel_rfl
@[simp] theorem un56 : Tryz.prog.underlying 56 = some (.slice 5) := by kernel_rfl
@[simp] theorem sz57 : szOf Tryz.prog 57 = some 1 := by kernel_rfl
@[simp] theorem ag57 : aggOf Tryz.prog 57 = some false := by kernel_rfl
@[simp] theorem by57 : byOf Tryz.prog 57 = some 0 := by kernel_rfl
@[simp] theorem sz58 : szOf Tryz.prog 58 = some 1 := by kernel_rfl
@[simp] theorem ag58 : aggOf Tryz.prog 58 = some false := by kernel_rfl
@[simp] theorem by58 : byOf Tryz.prog 58 = some 8 := by kernel_rfl
@[simp] theorem sz59 : szOf Tryz.prog 59 = some 1 := by kernel_rfl
@[simp] theorem ag59 : aggOf Tryz.prog 59 = some false := by kernel_rfl
@[simp] theorem by59 : byOf Tryz.prog 59 = some 8 := by kernel_rfl
@[simp] theorem sz60 : szOf Tryz.prog 60 = some 1 := by kernel_rfl
@[simp] theorem ag60 : aggOf Tryz.prog 60 = some false := by kernel_rfl
@[simp] theorem by60 : byOf Tryz.prog 60 = some 8 := by kernel_rfl
@[simp] theorem sz61 : szOf Tryz.prog 61 = some 1 := by kernel_rfl
@[simp] theorem ag61 : aggOf Tryz.prog 61 = some false := by kernel_rfl
@[simp] theorem by61 : byOf Tryz.prog 61 = some 8 := by kernel_rfl
@[simp] theorem sz62 : szOf Tryz.prog 62 = some 1 := by kernel_rfl
@[simp] theorem ag62 : aggOf Tryz.prog 62 = some false := by kernel_rfl
@[simp] theorem by62 : byOf Tryz.prog 62 = some 8 := by kernel_rfl
@[simp] theorem sz63 : szOf Tryz.prog 63 = some 1 := by kernel_rfl
@[simp] theorem ag63 : aggOf Tryz.prog 63 = some false := by kernel_rfl
@[simp] theorem by63 : byOf Tryz.prog 63 = some 8 := by kernel_rfl
@[simp] theorem sz64 : szOf Tryz.prog 64 = some 1 := by kernel_rfl
@[simp] theorem ag64 : aggOf Tryz.prog 64 = some false := by kernel_rfl
@[simp] theorem by64 : byOf Tryz.prog 64 = some 8 := by kernel_rfl
@[simp] theorem sz65 : szOf Tryz.prog 65 = some 1 := by kernel_rfl
@[simp] theorem ag65 : aggOf Tryz.prog 65 = some false := by kernel_rfl
@[simp] theorem by65 : byOf Tryz.prog 65 = some 8 := by kernel_rfl
@[simp] theorem sz66 : szOf Tryz.prog 66 = some 1 := by kernel_rfl
@[simp] theorem ag66 : aggOf Tryz.prog 66 = some false := by kernel_rfl
@[simp] theorem by66 : byOf Tryz.prog 66 = some 8 := by kernel_rfl
@[simp] theorem sz67 : szOf Tryz.prog 67 = some 1 := by kernel_rfl
@[simp] theorem ag67 : aggOf Tryz.prog 67 = some false := by kernel_rfl
@[simp] theorem by67 : byOf Tryz.prog 67 = some 8 := by kernel_rfl
@[simp] theorem sz68 : szOf Tryz.prog 68 = some 1 := by kernel_rfl
@[simp] theorem ag68 : aggOf Tryz.prog 68 = some false := by kernel_rfl
@[simp] theorem by68 : byOf Tryz.prog 68 = some 8 := by kernel_rfl
@[simp] theorem sz69 : szOf Tryz.prog 69 = some 1 := by kernel_rfl
@[simp] theorem ag69 : aggOf Tryz.prog 69 = some false := by kernel_rfl
@[simp] theorem by69 : byOf Tryz.prog 69 = some 8 := by kernel_rfl
@[simp] theorem sz70 : szOf Tryz.prog 70 = some 1 := by kernel_rfl
@[simp] theorem ag70 : aggOf Tryz.prog 70 = some false := by kernel_rfl
@[simp] theorem by70 : byOf Tryz.prog 70 = some 8 := by kernel_rfl
@[simp] theorem sz71 : szOf Tryz.prog 71 = some 1 := by kernel_rfl
@[simp] theorem ag71 : aggOf Tryz.prog 71 = some false := by kernel_rfl
@[simp] theorem by71 : byOf Tryz.prog 71 = some 8 := by kernel_rfl
@[simp] theorem sz72 : szOf Tryz.prog 72 = some 1 := by kernel_rfl
@[simp] theorem ag72 : aggOf Tryz.prog 72 = some false := by kernel_rfl
@[simp] theorem by72 : byOf Tryz.prog 72 = some 8 := by kernel_rfl
@[simp] theorem sz73 : szOf Tryz.prog 73 = some 1 := by kernel_rfl
@[simp] theorem ag73 : aggOf Tryz.prog 73 = some false := by kernel_rfl
@[simp] theorem by73 : byOf Tryz.prog 73 = some 8 := by kernel_rfl
@[simp] theorem sz75 : szOf Tryz.prog 75 = some 1 := by kernel_rfl
@[simp] theorem ag75 : aggOf Tryz.prog 75 = some false := by kernel_rfl
@[simp] theorem by75 : byOf Tryz.prog 75 = some 8 := by kernel_rfl
@[simp] theorem sz76 : szOf Tryz.prog 76 = some 1 := by kernel_rfl
@[simp] theorem ag76 : aggOf Tryz.prog 76 = some false := by kernel_rfl
@[simp] theorem by76 : byOf Tryz.prog 76 = some 8 := by kernel_rfl
@[simp] theorem sz77 : szOf Tryz.prog 77 = some 1 := by kernel_rfl
@[simp] theorem ag77 : aggOf Tryz.prog 77 = some false := by kernel_rfl
@[simp] theorem by77 : byOf Tryz.prog 77 = some 8 := by kernel_rfl
@[simp] theorem sz78 : szOf Tryz.prog 78 = some 1 := by kernel_rfl
@[simp] theorem ag78 : aggOf Tryz.prog 78 = some false := by kernel_rfl
@[simp] theorem by78 : byOf Tryz.prog 78 = some 8 := by kernel_rfl
@[simp] theorem sz79 : szOf Tryz.prog 79 = some 1 := by kernel_rfl
@[simp] theorem ag79 : aggOf Tryz.prog 79 = some false := by kernel_rfl
@[simp] theorem by79 : byOf Tryz.prog 79 = some 8 := by kernel_rfl
@[simp] theorem sz80 : szOf Tryz.prog 80 = some 1 := by kernel_rfl
@[simp] theorem ag80 : aggOf Tryz.prog 80 = some false := by kernel_rfl
@[simp] theorem by80 : byOf Tryz.prog 80 = some 8 := by kernel_rfl
@[simp] theorem sz81 : szOf Tryz.prog 81 = some 2 := by kernel_rfl
@[simp] theorem ag81 : aggOf Tryz.prog 81 = some true := by kernel_rfl
@[simp] theorem by81 : byOf Tryz.prog 81 = some 16 := by kernel_rfl
@[simp] theorem sz82 : szOf Tryz.prog 82 = some 2 := by kernel_rfl
@[simp] theorem ag82 : aggOf Tryz.prog 82 = some true := by kernel_rfl
@[simp] theorem by82 : byOf Tryz.prog 82 = some 16 := by kernel_rfl
@[simp] theorem sz83 : szOf Tryz.prog 83 = some 1 := by kernel_rfl
@[simp] theorem ag83 : aggOf Tryz.prog 83 = some false := by kernel_rfl
@[simp] theorem by83 : byOf Tryz.prog 83 = some 8 := by kernel_rfl
@[simp] theorem sz84 : szOf Tryz.prog 84 = some 1 := by kernel_rfl
@[simp] theorem ag84 : aggOf Tryz.prog 84 = some false := by kernel_rfl
@[simp] theorem by84 : byOf Tryz.prog 84 = some 8 := by kernel_rfl
@[simp] theorem sz85 : szOf Tryz.prog 85 = some 1 := by kernel_rfl
@[simp] theorem ag85 : aggOf Tryz.prog 85 = some false := by kernel_rfl
@[simp] theorem by85 : byOf Tryz.prog 85 = some 8 := by kernel_rfl
@[simp] theorem sz86 : szOf Tryz.prog 86 = some 2 := by kernel_rfl
@[simp] theorem ag86 : aggOf Tryz.prog 86 = some true := by kernel_rfl
@[simp] theorem by86 : byOf Tryz.prog 86 = some 24 := by kernel_rfl
@[simp] theorem sz87 : szOf Tryz.prog 87 = some 2 := by kernel_rfl
@[simp] theorem ag87 : aggOf Tryz.prog 87 = some true := by kernel_rfl
@[simp] theorem by87 : byOf Tryz.prog 87 = some 24 := by kernel_rfl
@[simp] theorem sz88 : szOf Tryz.prog 88 = some 1 := by kernel_rfl
@[simp] theorem ag88 : aggOf Tryz.prog 88 = some false := by kernel_rfl
@[simp] theorem by88 : byOf Tryz.prog 88 = some 8 := by kernel_rfl
@[simp] theorem sz89 : szOf Tryz.prog 89 = some 1 := by kernel_rfl
@[simp] theorem ag89 : aggOf Tryz.prog 89 = some false := by kernel_rfl
@[simp] theorem by89 : byOf Tryz.prog 89 = some 0 := by kernel_rfl
@[simp] theorem sz90 : szOf Tryz.prog 90 = some 1 := by kernel_rfl
@[simp] theorem ag90 : aggOf Tryz.prog 90 = some false := by kernel_rfl
@[simp] theorem by90 : byOf Tryz.prog 90 = some 8 := by kernel_rfl
@[simp] theorem sz91 : szOf Tryz.prog 91 = some 1 := by kernel_rfl
@[simp] theorem ag91 : aggOf Tryz.prog 91 = some false := by kernel_rfl
@[simp] theorem by91 : byOf Tryz.prog 91 = some 8 := by kernel_rfl
@[simp] theorem sz92 : szOf Tryz.prog 92 = some 1 := by kernel_rfl
@[simp] theorem ag92 : aggOf Tryz.prog 92 = some false := by kernel_rfl
@[simp] theorem by92 : byOf Tryz.prog 92 = some 8 := by kernel_rfl
@[simp] theorem sz93 : szOf Tryz.prog 93 = some 1 := by kernel_rfl
@[simp] theorem ag93 : aggOf Tryz.prog 93 = some false := by kernel_rfl
@[simp] theorem by93 : byOf Tryz.prog 93 = some 8 := by kernel_rfl
@[simp] theorem sz94 : szOf Tryz.prog 94 = some 1 := by kernel_rfl
@[simp] theorem ag94 : aggOf Tryz.prog 94 = some false := by kernel_rfl
@[simp] theorem by94 : byOf Tryz.prog 94 = some 8 := by kernel_rfl
@[simp] theorem sz95 : szOf Tryz.prog 95 = some 1 := by kernel_rfl
@[simp] theorem ag95 : aggOf Tryz.prog 95 = some false := by kernel_rfl
@[simp] theorem by95 : byOf Tryz.prog 95 = some 8 := by kernel_rfl
@[simp] theorem sz96 : szOf Tryz.prog 96 = some 1 := by kernel_rfl
@[simp] theorem ag96 : aggOf Tryz.prog 96 = some false := by kernel_rfl
@[simp] theorem by96 : byOf Tryz.prog 96 = some 8 := by kernel_rfl
@[simp] theorem sz97 : szOf Tryz.prog 97 = some 1 := by kernel_rfl
@[simp] theorem ag97 : aggOf Tryz.prog 97 = some false := by kernel_rfl
@[simp] theorem by97 : byOf Tryz.prog 97 = some 8 := by kernel_rfl
@[simp] theorem sz98 : szOf Tryz.prog 98 = some 1 := by kernel_rfl
@[simp] theorem ag98 : aggOf Tryz.prog 98 = some false := by kernel_rfl
@[simp] theorem by98 : byOf Tryz.prog 98 = some 8 := by kernel_rfl
@[simp] theorem sz99 : szOf Tryz.prog 99 = some 1 := by kernel_rfl
@[simp] theorem ag99 : aggOf Tryz.prog 99 = some false := by kernel_rfl
@[simp] theorem by99 : byOf Tryz.prog 99 = some 8 := by kernel_rfl
@[simp] theorem sz100 : szOf Tryz.prog 100 = some 1 := by kernel_rfl
@[simp] theorem ag100 : aggOf Tryz.prog 100 = some false := by kernel_rfl
@[simp] theorem by100 : byOf Tryz.prog 100 = some 8 := by kernel_rfl
@[simp] theorem sz101 : szOf Tryz.prog 101 = some 1 := by kernel_rfl
@[simp] theorem ag101 : aggOf Tryz.prog 101 = some false := by kernel_rfl
@[simp] theorem by101 : byOf Tryz.prog 101 = some 24 := by kernel_rfl
@[simp] theorem el101 : elemOf Tryz.prog 101 = some 9 := by kernel_rfl
@[simp] theorem un101 : Tryz.prog.underlying 101 = some (.slice 9) := by kernel_rfl
@[simp] theorem sz102 : szOf Tryz.prog 102 = some 1 := by kernel_rfl
@[simp] theorem ag102 : aggOf Tryz.prog 102 = some false := by kernel_rfl
@[simp] theorem by102 : byOf Tryz.prog 102 = some 8 := by kernel_rfl
@[simp] theorem sz103 : szOf Tryz.prog 103 = some 1 := by kernel_rfl
@[simp] theorem ag103 : aggOf Tryz.prog 103 = some false := by kernel_rfl
@[simp] theorem by103 : byOf Tryz.prog 103 = some 8 := by kernel_rfl
@[simp] theorem sz104 : szOf Tryz.prog 104 = some 1 := by kernel_rfl
@[simp] theorem ag104 : aggOf Tryz.prog 104 = some false := by kernel_rfl
@[simp] theorem by104 : byOf Tryz.prog 104 = some 8 := by kernel_rfl
@[simp] theorem sz105 : szOf Tryz.prog 105 = some 1 := by kernel_rfl
@[simp] theorem ag105 : aggOf Tryz.prog 105 = some false := by kernel_rfl
@[simp] theorem by105 : byOf Tryz.prog 105 = some 8 := by kernel_rfl
@[simp] theorem sz106 : szOf Tryz.prog 106 = some 1 := by kernel_rfl
@[simp] theorem ag106 : aggOf Tryz.prog 106 = some false := by kernel_rfl
@[simp] theorem by106 : byOf Tryz.prog 106 = some 8 := by kernel_rfl
@[simp] theorem sz107 : szOf Tryz.prog 107 = some 1 := by kernel_rfl
@[simp] theorem ag107 : aggOf Tryz.prog 107 = some false := by kernel_rfl
@[simp] theorem by107 : byOf Tryz.prog 107 = some 8 := by kernel_rfl
@[simp] theorem sz108 : szOf Tryz.prog 108 = some 1 := by kernel_rfl
@[simp] theorem ag108 : aggOf Tryz.prog 108 = some false := by kernel_rfl
@[simp] theorem by108 : byOf Tryz.prog 108 = some 8 := by kernel_rfl
@[simp] theorem sz109 : szOf Tryz.prog 109 = some 1 := by kernel_rfl
@[simp] theorem ag109 : aggOf Tryz.prog 109 = some false := by kernel_rfl
@[simp] theorem by109 : byOf Tryz.prog 109 = some 8 := by kernel_rfl
@[simp] theorem sz110 : szOf Tryz.prog 110 = some 1 := by kernel_rfl
@[simp] theorem ag110 : aggOf Tryz.prog 110 = some true := by kernel_rfl
@[simp] theorem by110 : byOf Tryz.prog 110 = some 8 := by kernel_rfl
@[simp] theorem sz111 : szOf Tryz.prog 111 = some 1 := by kernel_rfl
@[simp] theorem ag111 : aggOf Tryz.prog 111 = some true := by kernel_rfl
@[simp] theorem by111 : byOf Tryz.prog 111 = some 8 := by kernel_rfl
@[simp] theorem sz112 : szOf Tryz.prog 112 = some 1 := by kernel_rfl
@[simp] theorem ag112 : aggOf Tryz.prog 112 = some false := by kernel_rfl
@[simp] theorem by112 : byOf Tryz.prog 112 = some 8 := by kernel_rfl
@[simp] theorem sz113 : szOf Tryz.prog 113 = some 1 := by kernel_rfl
@[simp] theorem ag113 : aggOf Tryz.prog 113 = some false := by kernel_rfl
@[simp] theorem by113 : byOf Tryz.prog 113 = some 8 := by kernel_rfl
@[simp] theorem sz114 : szOf Tryz.prog 114 = some 1 := by kernel_rfl
@[simp] theorem ag114 : aggOf Tryz.prog 114 = some false := by kernel_rfl
@[simp] theorem by114 : byOf Tryz.prog 114 = some 8 := by kernel_rfl
@[simp] theorem sz115 : szOf Tryz.prog 115 = some 1 := by kernel_rfl
@[simp] theorem ag115 : aggOf Tryz.prog 115 = some false := by kernel_rfl
@[simp] theorem by115 : byOf Tryz.prog 115 = some 8 := by kernel_rfl
@[simp] theorem sz116 : szOf Tryz.prog 116 = some 1 := by kernel_rfl
@[simp] theorem ag116 : aggOf Tryz.prog 116 = some false := by kernel_rfl
@[simp] theorem by116 : byOf Tryz.prog 116 = some 16 := by kernel_rfl
@[simp] theorem sz117 : szOf Tryz.prog 117 = some 1 := by kernel_rfl
@[simp] theorem ag117 : aggOf Tryz.prog 117 = some false := by kernel_rfl
@[simp] theorem by117 : byOf Tryz.prog 117 = some 16 := by kernel_rfl
@[simp] theorem sz118 : szOf Tryz.prog 118 = some 1 := by kernel_rfl
@[simp] theorem ag118 : aggOf Tryz.prog 118 = some false := by kernel_rfl
@[simp] theorem by118 : byOf Tryz.prog 118 = some 8 := by kernel_rfl
@[simp] theorem sz119 : szOf Tryz.prog 119 = some 1 := by kernel_rfl
@[simp] theorem ag119 : aggOf Tryz.prog 119 = some true := by kernel_rfl
@[simp] theorem by119 : byOf Tryz.prog 119 = some 8 := by kernel_rfl
@[simp] theorem sz120 : szOf Tryz.prog 120 = some 1 := by kernel_rfl
@[simp] theorem ag120 : aggOf Tryz.prog 120 = some true := by kernel_rfl
@[simp] theorem by120 : byOf Tryz.prog 120 = some 8 := by kernel_rfl
@[simp] theorem sz121 : szOf Tryz.prog 121 = some 1 := by kernel_rfl
@[simp] theorem ag121 : aggOf Tryz.prog 121 = some true := by kernel_rfl
@[simp] theorem by121 : byOf Tryz.prog 121 = some 8 := by kernel_rfl
@[simp] theorem sz122 : szOf Tryz.prog 122 = some 1 := by kernel_rfl
@[simp] theorem ag122 : aggOf Tryz.prog 122 = some false := by kernel_rfl
@[simp] theorem by122 : byOf Tryz.prog 122 = some 8 := by kernel_rfl
@[simp] theorem sz123 : szOf Tryz.prog 123 = some 1 := by kernel_rfl
@[simp] theorem ag123 : aggOf Tryz.prog 123 = some true := by kernel_rfl
@[simp] theorem by123 : byOf Tryz.prog 123 = some 16 := by kernel_rfl
@[simp] theorem sz124 : szOf Tryz.prog 124 = some 1 := by kernel_rfl
@[simp] theorem ag124 : aggOf Tryz.prog 124 = some true := by kernel_rfl
@[simp] theorem by124 : byOf Tryz.prog 124 = some 16 := by kernel_rfl
@[simp] theorem sz125 : szOf Tryz.prog 125 = some 1 := by kernel_rfl
@[simp] theorem ag125 : aggOf Tryz.prog 125 = some true := by kernel_rfl
@[simp] theorem by125 : byOf Tryz.prog 125 = some 24 := by kernel_rfl
@[simp] theorem sz126 : szOf Tryz.prog 126 = some 1 := by kernel_rfl
@[simp] theorem ag126 : aggOf Tryz.prog 126 = some true := by kernel_rfl
@[simp] theorem by126 : byOf Tryz.prog 126 = some 24 := by kernel_rfl
@[simp] theorem sz127 : szOf Tryz.prog 127 = some 1 := by kernel_rfl
@[simp] theorem ag127 : aggOf Tryz.prog 127 = some false := by kernel_rfl
@[simp] theorem by127 : byOf Tryz.prog 127 = some 8 := by kernel_rfl
@[simp] theorem sz128 : szOf Tryz.prog 128 = some 1 := by kernel_rfl
@[simp] theorem ag128 : aggOf Tryz.prog 128 = some false := by kernel_rfl
@[simp] theorem by128 : byOf Tryz.prog 128 = some 8 := by kernel_rfl
@[simp] theorem sz129 : szOf Tryz.prog 129 = some 1 := by kernel_rfl
@[simp] theorem ag129 : aggOf Tryz.prog 129 = some false := by kernel_rfl
@[simp] theorem by129 : byOf Tryz.prog 129 = some 8 := by kernel_rfl
@[simp] theorem sz130 : szOf Tryz.prog 130 = some 1 := by kernel_rfl
@[simp] theorem ag130 : aggOf Tryz.prog 130 = some false := by kernel_rfl
@[simp] theorem by130 : byOf Tryz.prog 130 = some 8 := by kernel_rfl
@[simp] theorem sz131 : szOf Tryz.prog 131 = some 1 := by kernel_rfl
@[simp] theorem ag131 : aggOf Tryz.prog 131 = some false := by kernel_rfl
@[simp] theorem by131 : byOf Tryz.prog 131 = some 8 := by kernel_rfl
@[simp] theorem sz132 : szOf Tryz.prog 132 = some 8 := by kernel_rfl
@[simp] theorem ag132 : aggOf Tryz.prog 132 = some true := by kernel_rfl
@[simp] theorem by132 : byOf Tryz.prog 132 = some 112 := by kernel_rfl
@[simp] theorem sz133 : szOf Tryz.prog 133 = some 8 := by kernel_rfl
@[simp] theorem ag133 : aggOf Tryz.prog 133 = some true := by kernel_rfl
@[simp] theorem by133 : byOf Tryz.prog 133 = some 112 := by kernel_rfl
@[simp] theorem sz134 : szOf Tryz.prog 134 = some 6 := by kernel_rfl
@[simp] theorem ag134 : aggOf Tryz.prog 134 = some true := by kernel_rfl
@[simp] theorem by134 : byOf Tryz.prog 134 = some 48 := by kernel_rfl
@[simp] theorem sz135 : szOf Tryz.prog 135 = some 1 := by kernel_rfl
@[simp] theorem ag135 : aggOf Tryz.prog 135 = some false := by kernel_rfl
@[simp] theorem by135 : byOf Tryz.prog 135 = some 24 := by kernel_rfl
@[simp] theorem el135 : elemOf Tryz.prog 135 = some 23 := by kernel_rfl
@[simp] theorem un135 : Tryz.prog.underlying 135 = some (.slice 23) := by kernel_rfl
@[simp] theorem sz136 : szOf Tryz.prog 136 = some 1 := by kernel_rfl
@[simp] theorem ag136 : aggOf Tryz.prog 136 = some false := by kernel_rfl
@[simp] theorem by136 : byOf Tryz.prog 136 = some 8 := by kernel_rfl
@[simp] theorem sz137 : szOf Tryz.prog 137 = some 1 := by kernel_rfl
@[simp] theorem ag137 : aggOf Tryz.prog 137 = some false := by kernel_rfl
@[simp] theorem by137 : byOf Tryz.prog 137 = some 8 := by kernel_rfl
@[simp] theorem sz138 : szOf Tryz.prog 138 = some 1 := by kernel_rfl
@[simp] theorem ag138 : aggOf Tryz.prog 138 = some false := by kernel_rfl
@[simp] theorem by138 : byOf Tryz.prog 138 = some 8 := by kernel_rfl
@[simp] theorem sz139 : szOf Tryz.prog 139 = some 1 := by kernel_rfl
@[simp] theorem ag139 : aggOf Tryz.prog 139 = some false := by kernel_rfl
@[simp] theorem by139 : byOf Tryz.prog 139 = some 4 := by kernel_rfl
@[simp] theorem sz140 : szOf Tryz.prog 140 = some 1 := by kernel_rfl
@[simp] theorem ag140 : aggOf Tryz.prog 140 = some false := by kernel_rfl
@[simp] theorem by140 : byOf Tryz.prog 140 = some 8 := by kernel_rfl
@[simp] theorem sz141 : szOf Tryz.prog 141 = some 1 := by kernel_rfl
@[simp] theorem ag141 : aggOf Tryz.prog 141 = some false := by kernel_rfl
@[simp] theorem by141 : byOf Tryz.prog 141 = some 8 := by kernel_rfl
@[simp] theorem sz142 : szOf Tryz.prog 142 = some 1 := by kernel_rfl
@[simp] theorem ag142 : aggOf Tryz.prog 142 = some false := by kernel_rfl
@[simp] theorem by142 : byOf Tryz.prog 142 = some 8 := by kernel_rfl
@[simp] theorem sz143 : szOf Tryz.prog 143 = some 1 := by kernel_rfl
@[simp] theorem ag143 : aggOf Tryz.prog 143 = some false := by kernel_rfl
@[simp] theorem by143 : byOf Tryz.prog 143 = some 8 := by kernel_rfl
@[simp] theorem sz144 : szOf Tryz.prog 144 = some 1 := by kernel_rfl
@[simp] theorem ag144 : aggOf Tryz.prog 144 = some false := by kernel_rfl
@[simp] theorem by144 : byOf Tryz.prog 144 = some 8 := by kernel_rfl
@[simp] theorem sz145 : szOf Tryz.prog 145 = some 1 := by kernel_rfl
@[simp] theorem ag145 : aggOf Tryz.prog 145 = some true := by kernel_rfl
@[simp] theorem by145 : byOf Tryz.prog 145 = some 24 := by kernel_rfl
@[simp] theorem sz146 : szOf Tryz.prog 146 = some 0 := by kernel_rfl
@[simp] theorem ag146 : aggOf Tryz.prog 146 = some true := by kernel_rfl
@[simp] theorem by146 : byOf Tryz.prog 146 = some 0 := by kernel_rfl
@[simp] theorem sz147 : szOf Tryz.prog 147 = some 0 := by kernel_rfl
@[simp] theorem ag147 : aggOf Tryz.prog 147 = some true := by kernel_rfl
@[simp] theorem by147 : byOf Tryz.prog 147 = some 0 := by kernel_rfl
@[simp] theorem sz148 : szOf Tryz.prog 148 = some 1 := by kernel_rfl
@[simp] theorem ag148 : aggOf Tryz.prog 148 = some false := by kernel_rfl
@[simp] theorem by148 : byOf Tryz.prog 148 = some 0 := by kernel_rfl
@[simp] theorem sz149 : szOf Tryz.prog 149 = some 1 := by kernel_rfl
@[simp] theorem ag149 : aggOf Tryz.prog 149 = some false := by kernel_rfl
@[simp] theorem by149 : byOf Tryz.prog 149 = some 8 := by kernel_rfl
@[simp] theorem sz150 : szOf Tryz.prog 150 = some 1 := by kernel_rfl
@[simp] theorem ag150 : aggOf Tryz.prog 150 = some false := by kernel_rfl
@[simp] theorem by150 : byOf Tryz.prog 150 = some 8 := by kernel_rfl
@[simp] theorem sz151 : szOf Tryz.prog 151 = some 1 := by kernel_rfl
@[simp] theorem ag151 : aggOf Tryz.prog 151 = some false := by kernel_rfl
@[simp] theorem by151 : byOf Tryz.prog 151 = some 8 := by kernel_rfl
@[simp] theorem fo7_0 : fieldOf Tryz.prog 7 0 = some (0, 1, false) := by kernel_rfl
@[simp] theorem fo7_1 : fieldOf Tryz.prog 7 1 = some (1, 1, false) := by kernel_rfl
@[simp] theorem fo7_2 : fieldOf Tryz.prog 7 2 = some (2, 1, false) := by kernel_rfl
@[simp] theorem fo7_3 : fieldOf Tryz.prog 7 3 = some (3, 1, false) := by kernel_rfl
@[simp] theorem fo8_0 : fieldOf Tryz.prog 8 0 = some (0, 1, false) := by kernel_rfl
@[simp] theorem fo8_1 : fieldOf Tryz.prog 8 1 = some (1, 1, false) := by kernel_rfl
@[simp] theorem fo8_2 : fieldOf Tryz.prog 8 2 = some (2, 1, false) := by kernel_rfl
@[simp] theorem fo8_3 : fieldOf Tryz.prog 8 3 = some (3, 1, false) := by kernel_rfl
@[simp] theorem fo13_0 : fieldOf Tryz.prog 13 0 = some (0, 1, false) := by kernel_rfl
@[simp] theorem fo13_1 : fieldOf Tryz.prog 13 1 = some (1, 1, false) := by kernel_rfl
@[simp] theorem fo14_0 : fieldOf Tryz.prog 14 0 = some (0, 1, false) := by kernel_rfl
@[simp] theorem fo14_1 : fieldOf Tryz.prog 14 1 = some (1, 1, false) := by kernel_rfl
@[simp] theorem fo18_0 : fieldOf Tryz.prog 18 0 = some (0, 1, false) := by kernel_rfl
@[simp] theorem fo19_0 : fieldOf Tryz.prog 19 0 = some (0, 1, false) := by kernel_rfl
@[simp] theorem fo24_0 : fieldOf Tryz.prog 24 0 = some (0, 1, false) := by kernel_rfl
@[simp] theorem fo24_1 : fieldOf Tryz.prog 24 1 = some (1, 1, false) := by kernel_rfl
@[simp] theorem fo24_2 : fieldOf Tryz.prog 24 2 = some (2, 1, false) := by kernel_rfl
@[simp] theorem fo24_3 : fieldOf Tryz.prog 24 3 = some (3, 1, false) := by kernel_rfl
@[simp] theorem fo25_0 : fieldOf Tryz.prog 25 0 = some (0, 1, false) := by kernel_rfl
@[simp] theorem fo25_1 : fieldOf Tryz.prog 25 1 = some (1, 1, false) := by kernel_rfl
@[simp] theorem fo25_2 : fieldOf Tryz.prog 25 2 = some (2, 1, false) := by kernel_rfl
@[simp] theorem fo25_3 : fieldOf Tryz.prog 25 3 = some (3, 1, false) := by kernel_rfl
@[simp] theorem fo81_0 : fieldOf Tryz.prog 81 0 = some (0, 1, false) := by kernel_rfl
@[simp] theorem fo81_1 : fieldOf Tryz.prog 81 1 = some (1, 1, false) := by kernel_rfl
@[simp] theorem fo82_0 : fieldOf Tryz.prog 82 0 = some (0, 1, false) := by kernel_rfl
@[simp] theorem fo82_1 : fieldOf Tryz.prog 82 1 = some (1, 1, false) := by kernel_rfl
@[simp] theorem fo86_0 : fieldOf Tryz.prog 86 0 = some (0, 1, false) := by kernel_rfl
@[simp] theorem fo86_1 : fieldOf Tryz.prog 86 1 = some (1, 1, false) := by kernel_rfl
@[simp] theorem fo87_0 : fieldOf Tryz.prog 87 0 = some (0, 1, false) := by kernel_rfl
@[simp] theorem fo87_1 : fieldOf Tryz.prog 87 1 = some (1, 1, false) := by kernel_rfl
@[simp] theorem fo110_0 : fieldOf Tryz.prog 110 0 = some (0, 1, false) := by kernel_rfl
@[simp] theorem fo111_0 : fieldOf Tryz.prog 111 0 = some (0, 1, false) := by kernel_rfl
@[simp] theorem fo119_0 : fieldOf Tryz.prog 119 0 = some (0, 1, false) := by kernel_rfl
@[simp] theorem fo120_0 : fieldOf Tryz.prog 120 0 = some (0, 1, false) := by kernel_rfl
@[simp] theorem fo121_0 : fieldOf Tryz.prog 121 0 = some (0, 1, false) := by kernel_rfl
@[simp] theorem fo123_0 : fieldOf Tryz.prog 123 0 = some (0, 1, false) := by kernel_rfl
@[simp] theorem fo124_0 : fieldOf Tryz.prog 124 0 = some (0, 1, false) := by kernel_rfl
@[simp] theorem fo125_0 : fieldOf Tryz.prog 125 0 = some (0, 1, false) := by kernel_rfl
@[simp] theorem fo126_0 : fieldOf Tryz.prog 126 0 = some (0, 1, false) := by kernel_rfl
@[simp] theorem fo132_0 : fieldOf Tryz.prog 132 0 = some (0, 4, true) := by kernel_rfl
@[simp] theorem fo132_1 : fieldOf Tryz.prog 132 1 = some (4, 4, true) := by kernel_rfl
@[simp] theorem fo133_0 : fieldOf Tryz.prog 133 0 = some (0, 4, true) := by kernel_rfl
@[simp] theorem fo133_1 : fieldOf Tryz.prog 133 1 = some (4, 4, true) := by kernel_rfl
@[simp] theorem fo145_0 : fieldOf Tryz.prog 145 0 = some (0, 1, false) := by kernel_rfl
@[simp] theorem un9 : Tryz.prog.underlying 9 = some .string := by kernel_rfl
end Go.Vi
end

section
/- Vi: heads of the functions of layer 1; made by a program of ours (wip/tools/spec.py). No conditions. -/
namespace Go.Vi
open Go Go.Proofs
set_option maxRecDepth 100000
/-! ### f3: sward/swardlaw01.ValuePaths -/
@[simp] theorem k3_0 : ch.keep 3 0 = [1, 2] := by kernel_rfl
@[simp] theorem k3_1 : ch.keep 3 1 = [1, 2, 19] := by kernel_rfl
@[simp] theorem k3_2 : ch.keep 3 2 = [4] := by kernel_rfl
@[simp] theorem k3_3 : ch.keep 3 3 = [1, 2, 5, 6] := by kernel_rfl
@[simp] theorem k3_4 : ch.keep 3 4 = [1, 2, 5, 6, 7, 8] := by kernel_rfl
@[simp] theorem k3_5 : ch.keep 3 5 = [1, 2, 5, 6, 7, 39] := by kernel_rfl
@[simp] theorem k3_6 : ch.keep 3 6 = [4] := by kernel_rfl
@[simp] theorem k3_7 : ch.keep 3 7 = [1, 2, 5, 6, 7, 9, 10, 11] := by kernel_rfl
@[simp] theorem k3_8 : ch.keep 3 8 = [4] := by kernel_rfl
noncomputable def code3 : Code := match Tryz.f3.body with | some c => c | none => .skip
theorem rs3 : Tryz.f3.results.toList = [.tmp 4] := rfl
theorem W3_of {args : List D} (ha : args.all (D.noRef 0 0) = true) (hl : args.length ≤ 84) {H : Hp} {o : Out × Hp}
    (h : alone H (fnOut Tryz.prog [.tmp 4] 0 0 (E false ⟨0, 0⟩ 3 code3 (mkF 0 args) H00)) = some o) : W 3 args H = some o :=
  W_of Tryz.func3 rfl (by kernel_rfl) rfl rfl ha (by rw [Tryz.ntmps3]; exact hl) h
/-! ### f4: sward/swardlaw01.ValueOrder -/
@[simp] theorem k4_0 : ch.keep 4 0 = [3, 4, 5] := by kernel_rfl
@[simp] theorem k4_1 : ch.keep 4 1 = [3, 4, 5, 42] := by kernel_rfl
@[simp] theorem k4_2 : ch.keep 4 2 = [6] := by kernel_rfl
@[simp] theorem k4_3 : ch.keep 4 3 = [3, 4, 5, 7, 8] := by kernel_rfl
@[simp] theorem k4_4 : ch.keep 4 4 = [3, 4, 5, 7, 8, 9, 10] := by kernel_rfl
@[simp] theorem k4_5 : ch.keep 4 5 = [3, 4, 5, 7, 8, 9, 10, 11, 12] := by kernel_rfl
@[simp] theorem k4_6 : ch.keep 4 6 = [3, 4, 7, 8, 9, 10, 11, 12, 13, 14] := by kernel_rfl
@[simp] theorem k4_7 : ch.keep 4 7 = [7, 11, 13, 95] := by kernel_rfl
@[simp] theorem k4_8 : ch.keep 4 8 = [6] := by kernel_rfl
@[simp] theorem k4_9 : ch.keep 4 9 = [6] := by kernel_rfl
noncomputable def code4 : Code := match Tryz.f4.body with | some c => c | none => .skip
theorem rs4 : Tryz.f4.results.toList = [.tmp 6] := rfl
theorem W4_of {args : List D} (ha : args.all (D.noRef 0 0) = true) (hl : args.length ≤ 130) {H : Hp} {o : Out × Hp}
    (h : alone H (fnOut Tryz.prog [.tmp 6] 0 0 (E false ⟨0, 0⟩ 4 code4 (mkF 0 args) H00)) = some o) : W 4 args H = some o :=
  W_of Tryz.func4 rfl (by kernel_rfl) rfl rfl ha (by rw [Tryz.ntmps4]; exact hl) h
/-! ### f5: sward/swardlaw01.ValueReads -/
@[simp] theorem k5_0 : ch.keep 5 0 = [0] := by kernel_rfl
@[simp] theorem k5_1 : ch.keep 5 1 = [0, 21] := by kernel_rfl
@[simp] theorem k5_2 : ch.keep 5 2 = [2] := by kernel_rfl
@[simp] theorem k5_3 : ch.keep 5 3 = [0, 3, 4] := by kernel_rfl
@[simp] theorem k5_4 : ch.keep 5 4 = [0, 3, 4, 30] := by kernel_rfl
@[simp] theorem k5_5 : ch.keep 5 5 = [2] := by kernel_rfl
@[simp] theorem k5_6 : ch.keep 5 6 = [0, 3, 4, 5, 6] := by kernel_rfl
@[simp] theorem k5_7 : ch.keep 5 7 = [0, 3, 4, 5, 46] := by kernel_rfl
@[simp] theorem k5_8 : ch.keep 5 8 = [2] := by kernel_rfl
@[simp] theorem k5_9 : ch.keep 5 9 = [0, 3, 4, 5, 7, 8] := by kernel_rfl
@[simp] theorem k5_10 : ch.keep 5 10 = [2] := by kernel_rfl
noncomputable def code5 : Code := match Tryz.f5.body with | some c => c | none => .skip
theorem rs5 : Tryz.f5.results.toList = [.tmp 2] := rfl
theorem W5_of {args : List D} (ha : args.all (D.noRef 0 0) = true) (hl : args.length ≤ 80) {H : Hp} {o : Out × Hp}
    (h : alone H (fnOut Tryz.prog [.tmp 2] 0 0 (E false ⟨0, 0⟩ 5 code5 (mkF 0 args) H00)) = some o) : W 5 args H = some o :=
  W_of Tryz.func5 rfl (by kernel_rfl) rfl rfl ha (by rw [Tryz.ntmps5]; exact hl) h
/-! ### f6: sward/swardlaw01.ValueChecks -/
@[simp] theorem k6_0 : ch.keep 6 0 = [1] := by kernel_rfl
@[simp] theorem k6_1 : ch.keep 6 1 = [1, 9] := by kernel_rfl
@[simp] theorem k6_2 : ch.keep 6 2 = [2] := by kernel_rfl
@[simp] theorem k6_3 : ch.keep 6 3 = [1, 3] := by kernel_rfl
@[simp] theorem k6_4 : ch.keep 6 4 = [1, 3, 4, 5, 6] := by kernel_rfl
@[simp] theorem k6_5 : ch.keep 6 5 = [1, 3, 4, 5, 6, 21] := by kernel_rfl
@[simp] theorem k6_6 : ch.keep 6 6 = [2] := by kernel_rfl
@[simp] theorem k6_7 : ch.keep 6 7 = [2] := by kernel_rfl
noncomputable def code6 : Code := match Tryz.f6.body with | some c => c | none => .skip
theorem rs6 : Tryz.f6.results.toList = [.tmp 2] := rfl
theorem W6_of {args : List D} (ha : args.all (D.noRef 0 0) = true) (hl : args.length ≤ 60) {H : Hp} {o : Out × Hp}
    (h : alone H (fnOut Tryz.prog [.tmp 2] 0 0 (E false ⟨0, 0⟩ 6 code6 (mkF 0 args) H00)) = some o) : W 6 args H = some o :=
  W_of Tryz.func6 rfl (by kernel_rfl) rfl rfl ha (by rw [Tryz.ntmps6]; exact hl) h
/-! ### f7: sward/swardlaw01.ValueCompares -/
@[simp] theorem k7_0 : ch.keep 7 0 = [2, 3] := by kernel_rfl
@[simp] theorem k7_1 : ch.keep 7 1 = [2, 3, 16] := by kernel_rfl
@[simp] theorem k7_2 : ch.keep 7 2 = [4] := by kernel_rfl
@[simp] theorem k7_3 : ch.keep 7 3 = [2, 3, 5, 6] := by kernel_rfl
@[simp] theorem k7_4 : ch.keep 7 4 = [2, 3, 5, 6, 7, 8] := by kernel_rfl
@[simp] theorem k7_5 : ch.keep 7 5 = [2, 3, 5, 6, 7, 8, 37] := by kernel_rfl
@[simp] theorem k7_6 : ch.keep 7 6 = [4] := by kernel_rfl
@[simp] theorem k7_7 : ch.keep 7 7 = [4] := by kernel_rfl
noncomputable def code7 : Code := match Tryz.f7.body with | some c => c | none => .skip
theorem rs7 : Tryz.f7.results.toList = [.tmp 4] := rfl
theorem W7_of {args : List D} (ha : args.all (D.noRef 0 0) = true) (hl : args.length ≤ 78) {H : Hp} {o : Out × Hp}
    (h : alone H (fnOut Tryz.prog [.tmp 4] 0 0 (E false ⟨0, 0⟩ 7 code7 (mkF 0 args) H00)) = some o) : W 7 args H = some o :=
  W_of Tryz.func7 rfl (by kernel_rfl) rfl rfl ha (by rw [Tryz.ntmps7]; exact hl) h
/-! ### f8: sward/swardlaw01.ValueJoins -/
@[simp] theorem k8_0 : ch.keep 8 0 = [2, 3] := by kernel_rfl
@[simp] theorem k8_1 : ch.keep 8 1 = [2, 3, 22] := by kernel_rfl
@[simp] theorem k8_2 : ch.keep 8 2 = [4] := by kernel_rfl
@[simp] theorem k8_3 : ch.keep 8 3 = [2, 3, 5, 6] := by kernel_rfl
@[simp] theorem k8_4 : ch.keep 8 4 = [2, 3, 5, 6, 7, 8] := by kernel_rfl
@[simp] theorem k8_5 : ch.keep 8 5 = [2, 3, 5, 6, 7, 8, 9, 10] := by kernel_rfl
@[simp] theorem k8_6 : ch.keep 8 6 = [2, 3, 5, 6, 7, 8, 9, 10, 11, 12] := by kernel_rfl
@[simp] theorem k8_7 : ch.keep 8 7 = [2, 3, 5, 6, 7, 8, 9, 10, 11, 12, 13, 14] := by kernel_rfl
@[simp] theorem k8_8 : ch.keep 8 8 = [2, 3, 5, 6, 7, 8, 9, 10, 11, 12, 13, 14, 66] := by kernel_rfl
@[simp] theorem k8_9 : ch.keep 8 9 = [4] := by kernel_rfl
@[simp] theorem k8_10 : ch.keep 8 10 = [2, 3, 5, 6, 7, 8, 9, 10, 11, 12, 116] := by kernel_rfl
@[simp] theorem k8_11 : ch.keep 8 11 = [4] := by kernel_rfl
@[simp] theorem k8_12 : ch.keep 8 12 = [2, 3, 5, 6, 7, 8, 9, 10, 11, 12, 119] := by kernel_rfl
@[simp] theorem k8_13 : ch.keep 8 13 = [4] := by kernel_rfl
@[simp] theorem k8_14 : ch.keep 8 14 = [4] := by kernel_rfl
@[simp] theorem fl8_14 : ch.fl 8 14 = [1, 1, 1, 1, 1, 0, 0, 1, 1, 1, 1, 1, 0, 0, 0, 1, 1, 1, 1, 1, 0, 0, 0, 0, 0, 0, 0, 1, 1, 1, 1, 0, 0, 0, 0, 0, 0] := by kernel_rfl
noncomputable def code8 : Code := match Tryz.f8.body with | some c => c | none => .skip
theorem rs8 : Tryz.f8.results.toList = [.tmp 4] := rfl
theorem W8_of {args : List D} (ha : args.all (D.noRef 0 0) = true) (hl : args.length ≤ 189) {H : Hp} {o : Out × Hp}
    (h : alone H (fnOut Tryz.prog [.tmp 4] 0 0 (E false ⟨0, 0⟩ 8 code8 (mkF 0 args) H00)) = some o) : W 8 args H = some o :=
  W_of Tryz.func8 rfl (by kernel_rfl) rfl rfl ha (by rw [Tryz.ntmps8]; exact hl) h
/-! ### f9: sward/swardlaw01.ValueLaws -/
@[simp] theorem k9_0 : ch.keep 9 0 = [3, 4, 5] := by kernel_rfl
@[simp] theorem k9_1 : ch.keep 9 1 = [3, 4, 5, 42] := by kernel_rfl
@[simp] theorem k9_2 : ch.keep 9 2 = [6] := by kernel_rfl
@[simp] theorem k9_3 : ch.keep 9 3 = [3, 4, 5, 7, 8] := by kernel_rfl
@[simp] theorem k9_4 : ch.keep 9 4 = [3, 4, 5, 7, 8, 9, 10] := by kernel_rfl
@[simp] theorem k9_5 : ch.keep 9 5 = [3, 4, 5, 7, 8, 9, 10, 11, 12] := by kernel_rfl
@[simp] theorem k9_6 : ch.keep 9 6 = [3, 4, 5, 7, 8, 9, 10, 11, 12, 13, 14] := by kernel_rfl
@[simp] theorem k9_7 : ch.keep 9 7 = [3, 4, 5, 7, 8, 9, 10, 11, 12, 13, 14, 15, 16] := by kernel_rfl
@[simp] theorem k9_8 : ch.keep 9 8 = [3, 4, 5, 7, 8, 9, 10, 11, 12, 13, 14, 15, 16, 17, 18] := by kernel_rfl
@[simp] theorem k9_9 : ch.keep 9 9 = [3, 4, 5, 7, 8, 9, 11, 13, 15, 17, 105] := by kernel_rfl
@[simp] theorem k9_10 : ch.keep 9 10 = [6] := by kernel_rfl
@[simp] theorem k9_11 : ch.keep 9 11 = [3, 4, 5, 7, 8, 9, 11, 13, 15, 17, 19, 20] := by kernel_rfl
@[simp] theorem k9_12 : ch.keep 9 12 = [3, 4, 5, 7, 8, 9, 11, 13, 15, 17, 19, 20, 21, 22] := by kernel_rfl
@[simp] theorem k9_13 : ch.keep 9 13 = [3, 4, 5, 7, 8, 9, 11, 15, 17, 148] := by kernel_rfl
@[simp] theorem k9_14 : ch.keep 9 14 = [6] := by kernel_rfl
@[simp] theorem k9_15 : ch.keep 9 15 = [3, 4, 5, 7, 8, 15, 17, 23, 24] := by kernel_rfl
@[simp] theorem k9_16 : ch.keep 9 16 = [3, 4, 5, 7, 8, 15, 17, 162] := by kernel_rfl
@[simp] theorem k9_17 : ch.keep 9 17 = [6] := by kernel_rfl
@[simp] theorem k9_18 : ch.keep 9 18 = [3, 4, 5, 7, 15, 17, 164] := by kernel_rfl
@[simp] theorem k9_19 : ch.keep 9 19 = [6] := by kernel_rfl
@[simp] theorem k9_20 : ch.keep 9 20 = [3, 4, 7, 15, 17, 25, 26] := by kernel_rfl
@[simp] theorem k9_21 : ch.keep 9 21 = [7, 15, 17, 25, 26, 27, 28] := by kernel_rfl
@[simp] theorem k9_22 : ch.keep 9 22 = [6] := by kernel_rfl
noncomputable def code9 : Code := match Tryz.f9.body with | some c => c | none => .skip
theorem rs9 : Tryz.f9.results.toList = [.tmp 6] := rfl
theorem W9_of {args : List D} (ha : args.all (D.noRef 0 0) = true) (hl : args.length ≤ 200) {H : Hp} {o : Out × Hp}
    (h : alone H (fnOut Tryz.prog [.tmp 6] 0 0 (E false ⟨0, 0⟩ 9 code9 (mkF 0 args) H00)) = some o) : W 9 args H = some o :=
  W_of Tryz.func9 rfl (by kernel_rfl) rfl rfl ha (by rw [Tryz.ntmps9]; exact hl) h
/-! ### f10: sward/swardlaw01.ValueWrites -/
@[simp] theorem k10_0 : ch.keep 10 0 = [1] := by kernel_rfl
@[simp] theorem k10_1 : ch.keep 10 1 = [1, 13] := by kernel_rfl
@[simp] theorem k10_2 : ch.keep 10 2 = [2] := by kernel_rfl
@[simp] theorem k10_3 : ch.keep 10 3 = [1, 3, 4] := by kernel_rfl
@[simp] theorem k10_4 : ch.keep 10 4 = [1, 3, 4, 5, 6] := by kernel_rfl
@[simp] theorem k10_5 : ch.keep 10 5 = [1, 3, 4, 5, 6, 27] := by kernel_rfl
@[simp] theorem k10_6 : ch.keep 10 6 = [2] := by kernel_rfl
@[simp] theorem k10_7 : ch.keep 10 7 = [1, 3, 4, 5, 6, 7, 8] := by kernel_rfl
@[simp] theorem k10_8 : ch.keep 10 8 = [1, 3, 4, 5, 6, 7, 8, 9, 10] := by kernel_rfl
@[simp] theorem k10_9 : ch.keep 10 9 = [2] := by kernel_rfl
@[simp] theorem fl10_9 : ch.fl 10 9 = [0, 0, 0, 1, 1, 1, 0, 0, 0, 0, 0, 0, 0, 1, 1, 1, 1, 1, 0, 0, 0, 0, 0, 0, 0, 1, 1, 0, 0, 0, 0, 0, 0, 0, 1, 1, 0, 0, 0, 0, 0, 0] := by kernel_rfl
noncomputable def code10 : Code := match Tryz.f10.body with | some c => c | none => .skip
theorem rs10 : Tryz.f10.results.toList = [.tmp 2] := rfl
theorem W10_of {args : List D} (ha : args.all (D.noRef 0 0) = true) (hl : args.length ≤ 97) {H : Hp} {o : Out × Hp}
    (h : alone H (fnOut Tryz.prog [.tmp 2] 0 0 (E false ⟨0, 0⟩ 10 code10 (mkF 0 args) H00)) = some o) : W 10 args H = some o :=
  W_of Tryz.func10 rfl (by kernel_rfl) rfl rfl ha (by rw [Tryz.ntmps10]; exact hl) h
/-! ### f11: sward/swardlaw01.ValueLoads -/
@[simp] theorem k11_0 : ch.keep 11 0 = [0] := by kernel_rfl
@[simp] theorem k11_1 : ch.keep 11 1 = [0, 11] := by kernel_rfl
@[simp] theorem k11_2 : ch.keep 11 2 = [2] := by kernel_rfl
@[simp] theorem k11_3 : ch.keep 11 3 = [0, 3, 4] := by kernel_rfl
@[simp] theorem k11_4 : ch.keep 11 4 = [0, 3, 4, 5, 6] := by kernel_rfl
@[simp] theorem k11_5 : ch.keep 11 5 = [0, 3, 4, 5, 24] := by kernel_rfl
@[simp] theorem k11_6 : ch.keep 11 6 = [2] := by kernel_rfl
@[simp] theorem k11_7 : ch.keep 11 7 = [0, 3, 4, 5, 7, 8] := by kernel_rfl
@[simp] theorem k11_8 : ch.keep 11 8 = [2] := by kernel_rfl
noncomputable def code11 : Code := match Tryz.f11.body with | some c => c | none => .skip
theorem rs11 : Tryz.f11.results.toList = [.tmp 2] := rfl
theorem W11_of {args : List D} (ha : args.all (D.noRef 0 0) = true) (hl : args.length ≤ 60) {H : Hp} {o : Out × Hp}
    (h : alone H (fnOut Tryz.prog [.tmp 2] 0 0 (E false ⟨0, 0⟩ 11 code11 (mkF 0 args) H00)) = some o) : W 11 args H = some o :=
  W_of Tryz.func11 rfl (by kernel_rfl) rfl rfl ha (by rw [Tryz.ntmps11]; exact hl) h
/-! ### f12: sward/swardlaw01.ValueMaps -/
@[simp] theorem k12_0 : ch.keep 12 0 = [3, 4, 5] := by kernel_rfl
@[simp] theorem k12_1 : ch.keep 12 1 = [3, 4, 5, 27] := by kernel_rfl
@[simp] theorem k12_2 : ch.keep 12 2 = [6] := by kernel_rfl
@[simp] theorem k12_3 : ch.keep 12 3 = [3, 4, 5, 7, 8] := by kernel_rfl
@[simp] theorem k12_4 : ch.keep 12 4 = [3, 4, 5, 7, 8, 9, 10] := by kernel_rfl
@[simp] theorem k12_5 : ch.keep 12 5 = [3, 4, 5, 7, 8, 9, 10, 11, 12] := by kernel_rfl
@[simp] theorem k12_6 : ch.keep 12 6 = [3, 4, 5, 7, 8, 9, 10, 11, 12, 54] := by kernel_rfl
@[simp] theorem k12_7 : ch.keep 12 7 = [6] := by kernel_rfl
@[simp] theorem k12_8 : ch.keep 12 8 = [3, 4, 5, 7, 8, 9, 10, 88] := by kernel_rfl
@[simp] theorem k12_9 : ch.keep 12 9 = [6] := by kernel_rfl
@[simp] theorem k12_10 : ch.keep 12 10 = [3, 4, 5, 7, 8, 9, 10, 91] := by kernel_rfl
@[simp] theorem k12_11 : ch.keep 12 11 = [6] := by kernel_rfl
@[simp] theorem k12_12 : ch.keep 12 12 = [3, 4, 5, 7, 8, 9, 10, 13, 14] := by kernel_rfl
@[simp] theorem k12_13 : ch.keep 12 13 = [3, 4, 5, 9, 10, 138] := by kernel_rfl
@[simp] theorem k12_14 : ch.keep 12 14 = [6] := by kernel_rfl
@[simp] theorem k12_15 : ch.keep 12 15 = [3, 4, 5, 9, 10, 141] := by kernel_rfl
@[simp] theorem k12_16 : ch.keep 12 16 = [6] := by kernel_rfl
@[simp] theorem k12_17 : ch.keep 12 17 = [6] := by kernel_rfl
@[simp] theorem fl12_8 : ch.fl 12 8 = [0, 0, 0, 1, 1, 1, 0, 0, 0] := by kernel_rfl
@[simp] theorem fl12_17 : ch.fl 12 17 = [1, 1, 1, 1, 1, 1, 0, 0, 0, 0, 0] := by kernel_rfl
noncomputable def code12 : Code := match Tryz.f12.body with | some c => c | none => .skip
theorem rs12 : Tryz.f12.results.toList = [.tmp 6] := rfl
theorem W12_of {args : List D} (ha : args.all (D.noRef 0 0) = true) (hl : args.length ≤ 161) {H : Hp} {o : Out × Hp}
    (h : alone H (fnOut Tryz.prog [.tmp 6] 0 0 (E false ⟨0, 0⟩ 12 code12 (mkF 0 args) H00)) = some o) : W 12 args H = some o :=
  W_of Tryz.func12 rfl (by kernel_rfl) rfl rfl ha (by rw [Tryz.ntmps12]; exact hl) h
/-! ### f13: sward/swardlaw01.ValueLaid -/
@[simp] theorem k13_0 : ch.keep 13 0 = [4, 5, 6, 7] := by kernel_rfl
@[simp] theorem k13_1 : ch.keep 13 1 = [4, 5, 6, 7, 69] := by kernel_rfl
@[simp] theorem k13_2 : ch.keep 13 2 = [8] := by kernel_rfl
@[simp] theorem k13_3 : ch.keep 13 3 = [4, 5, 6, 7, 9, 10] := by kernel_rfl
@[simp] theorem k13_4 : ch.keep 13 4 = [4, 5, 6, 7, 9, 10, 79] := by kernel_rfl
@[simp] theorem k13_5 : ch.keep 13 5 = [8] := by kernel_rfl
@[simp] theorem k13_6 : ch.keep 13 6 = [4, 5, 6, 7, 9, 11, 12] := by kernel_rfl
@[simp] theorem k13_7 : ch.keep 13 7 = [4, 5, 6, 7, 9, 11, 12, 13, 14] := by kernel_rfl
@[simp] theorem k13_8 : ch.keep 13 8 = [4, 5, 7, 9, 115] := by kernel_rfl
@[simp] theorem k13_9 : ch.keep 13 9 = [8] := by kernel_rfl
@[simp] theorem k13_10 : ch.keep 13 10 = [4, 5, 7, 9, 15, 16] := by kernel_rfl
@[simp] theorem k13_11 : ch.keep 13 11 = [4, 5, 7, 9, 15, 16, 17, 18] := by kernel_rfl
@[simp] theorem k13_12 : ch.keep 13 12 = [4, 5, 7, 9, 15, 17, 131] := by kernel_rfl
@[simp] theorem k13_13 : ch.keep 13 13 = [8] := by kernel_rfl
@[simp] theorem k13_14 : ch.keep 13 14 = [4, 5, 7, 9, 17, 19, 20] := by kernel_rfl
@[simp] theorem k13_15 : ch.keep 13 15 = [4, 5, 7, 9, 19, 20, 21, 22] := by kernel_rfl
@[simp] theorem k13_16 : ch.keep 13 16 = [4, 5, 7, 9, 159] := by kernel_rfl
@[simp] theorem k13_17 : ch.keep 13 17 = [8] := by kernel_rfl
@[simp] theorem k13_18 : ch.keep 13 18 = [4, 7, 9, 162] := by kernel_rfl
@[simp] theorem k13_19 : ch.keep 13 19 = [8] := by kernel_rfl
@[simp] theorem k13_20 : ch.keep 13 20 = [4, 7, 23, 24] := by kernel_rfl
@[simp] theorem k13_21 : ch.keep 13 21 = [23, 24, 25, 26] := by kernel_rfl
@[simp] theorem k13_22 : ch.keep 13 22 = [8] := by kernel_rfl
noncomputable def code13 : Code := match Tryz.f13.body with | some c => c | none => .skip
theorem rs13 : Tryz.f13.results.toList = [.tmp 8] := rfl
theorem W13_of {args : List D} (ha : args.all (D.noRef 0 0) = true) (hl : args.length ≤ 187) {H : Hp} {o : Out × Hp}
    (h : alone H (fnOut Tryz.prog [.tmp 8] 0 0 (E false ⟨0, 0⟩ 13 code13 (mkF 0 args) H00)) = some o) : W 13 args H = some o :=
  W_of Tryz.func13 rfl (by kernel_rfl) rfl rfl ha (by rw [Tryz.ntmps13]; exact hl) h
/-! ### f14: sward/swardlaw01.ValueSets -/
@[simp] theorem k14_0 : ch.keep 14 0 = [0, 1] := by kernel_rfl
@[simp] theorem k14_1 : ch.keep 14 1 = [0, 1, 20] := by kernel_rfl
@[simp] theorem k14_2 : ch.keep 14 2 = [4] := by kernel_rfl
@[simp] theorem k14_3 : ch.keep 14 3 = [0, 1, 5, 6] := by kernel_rfl
@[simp] theorem k14_4 : ch.keep 14 4 = [0, 1, 5, 6, 8] := by kernel_rfl
@[simp] theorem k14_5 : ch.keep 14 5 = [0, 5, 6, 38] := by kernel_rfl
@[simp] theorem k14_6 : ch.keep 14 6 = [4] := by kernel_rfl
@[simp] theorem k14_7 : ch.keep 14 7 = [0, 5, 6, 41] := by kernel_rfl
@[simp] theorem k14_8 : ch.keep 14 8 = [4] := by kernel_rfl
@[simp] theorem k14_9 : ch.keep 14 9 = [5, 6, 9] := by kernel_rfl
@[simp] theorem k14_10 : ch.keep 14 10 = [5, 6, 9, 55] := by kernel_rfl
@[simp] theorem k14_11 : ch.keep 14 11 = [4] := by kernel_rfl
@[simp] theorem k14_12 : ch.keep 14 12 = [4] := by kernel_rfl
noncomputable def code14 : Code := match Tryz.f14.body with | some c => c | none => .skip
theorem rs14 : Tryz.f14.results.toList = [.tmp 4] := rfl
theorem W14_of {args : List D} (ha : args.all (D.noRef 0 0) = true) (hl : args.length ≤ 75) {H : Hp} {o : Out × Hp}
    (h : alone H (fnOut Tryz.prog [.tmp 4] 0 0 (E false ⟨0, 0⟩ 14 code14 (mkF 0 args) H00)) = some o) : W 14 args H = some o :=
  W_of Tryz.func14 rfl (by kernel_rfl) rfl rfl ha (by rw [Tryz.ntmps14]; exact hl) h
/-! ### f15: sward/swardref01.Small -/
@[simp] theorem k16_0 : ch.keep 16 0 = [1] := by kernel_rfl
@[simp] theorem k16_1 : ch.keep 16 1 = [2] := by kernel_rfl
noncomputable def code16 : Code := match Tryz.f16.body with | some c => c | none => .skip
theorem rs16 : Tryz.f16.results.toList = [.tmp 2] := rfl
theorem W16_of {args : List D} (ha : args.all (D.noRef 0 0) = true) (hl : args.length ≤ 10) {H : Hp} {o : Out × Hp}
    (h : alone H (fnOut Tryz.prog [.tmp 2] 0 0 (E false ⟨0, 0⟩ 16 code16 (mkF 0 args) H00)) = some o) : W 16 args H = some o :=
  W_of Tryz.func16 rfl (by kernel_rfl) rfl rfl ha (by rw [Tryz.ntmps16]; exact hl) h
/-! ### f16: sward/swardlaw01.known -/
@[simp] theorem k17_0 : ch.keep 17 0 = [] := by kernel_rfl
@[simp] theorem k17_1 : ch.keep 17 1 = [1, 2] := by kernel_rfl
@[simp] theorem k17_2 : ch.keep 17 2 = [1, 2, 3, 4, 5] := by kernel_rfl
@[simp] theorem k17_3 : ch.keep 17 3 = [1, 2, 3, 4, 5, 6, 7] := by kernel_rfl
@[simp] theorem k17_4 : ch.keep 17 4 = [1, 2, 3, 4, 5, 6, 7, 8, 9] := by kernel_rfl
@[simp] theorem k17_5 : ch.keep 17 5 = [1, 2, 3, 4, 5, 6, 7, 8, 9, 10, 11] := by kernel_rfl
@[simp] theorem k17_6 : ch.keep 17 6 = [1, 2, 3, 4, 5, 6, 7, 8, 9, 10, 11, 12, 13] := by kernel_rfl
@[simp] theorem k17_7 : ch.keep 17 7 = [1, 2, 3, 4, 5, 6, 7, 8, 9, 10, 11, 12, 13, 14, 15] := by kernel_rfl
@[simp] theorem k17_8 : ch.keep 17 8 = [1, 2, 3, 4, 5, 6, 7, 8, 9, 10, 11, 12, 13, 14, 15, 16, 17] := by kernel_rfl
@[simp] theorem k17_9 : ch.keep 17 9 = [1, 2, 3, 4, 5, 6, 7, 8, 9, 10, 11, 12, 13, 14, 15, 16, 17, 18, 19] := by kernel_rfl
@[simp] theorem k17_10 : ch.keep 17 10 = [1, 2, 3, 4, 5, 6, 7, 8, 9, 10, 11, 12, 13, 14, 15, 16, 17, 18, 19, 20, 21] := by kernel_rfl
@[simp] theorem k17_11 : ch.keep 17 11 = [1, 2, 3, 4, 5, 6, 7, 8, 9, 10, 11, 12, 13, 14, 15, 16, 17, 18, 19, 20, 21, 22, 23] := by kernel_rfl
@[simp] theorem k17_12 : ch.keep 17 12 = [1, 2, 3, 4, 5, 6, 7, 8, 9, 10, 11, 12, 13, 14, 15, 16, 17, 18, 19, 20, 21, 22, 23, 24, 25] := by kernel_rfl
@[simp] theorem k17_13 : ch.keep 17 13 = [1, 3, 4, 6, 8, 10, 12, 14, 16, 18, 20, 22, 24, 142] := by kernel_rfl
@[simp] theorem k17_14 : ch.keep 17 14 = [0] := by kernel_rfl
@[simp] theorem k17_15 : ch.keep 17 15 = [0] := by kernel_rfl
@[simp] theorem fl17_15 : ch.fl 17 15 = [0, 0, 0, 0, 0, 0, 0, 0, 0, 0, 0, 1, 1, 0, 0, 0, 0, 0, 0, 0, 0, 0, 0, 0, 0, 0, 0, 0, 0, 0, 0, 0, 0, 0, 1, 1, 0, 0, 0, 0, 0, 0, 0, 0, 0, 0, 0, 0, 1, 1, 0, 0, 0, 1, 1, 1, 1, 0, 0, 0] := by kernel_rfl
noncomputable def code17 : Code := match Tryz.f17.body with | some c => c | none => .skip
theorem rs17 : Tryz.f17.results.toList = [.tmp 0] := rfl
theorem W17_of {args : List D} (ha : args.all (D.noRef 0 0) = true) (hl : args.length ≤ 202) {H : Hp} {o : Out × Hp}
    (h : alone H (fnOut Tryz.prog [.tmp 0] 0 0 (E false ⟨0, 0⟩ 17 code17 (mkF 0 args) H00)) = some o) : W 17 args H = some o :=
  W_of Tryz.func17 rfl (by kernel_rfl) rfl rfl ha (by rw [Tryz.ntmps17]; exact hl) h
/-! ### f17: sward/value.At -/
@[simp] theorem k18_0 : ch.keep 18 0 = [1, 2, 4] := by kernel_rfl
@[simp] theorem k18_1 : ch.keep 18 1 = [1, 2, 4, 10] := by kernel_rfl
@[simp] theorem k18_2 : ch.keep 18 2 = [4, 5] := by kernel_rfl
@[simp] theorem k18_3 : ch.keep 18 3 = [2, 4, 12, 13, 14] := by kernel_rfl
@[simp] theorem k18_4 : ch.keep 18 4 = [2, 4, 12, 13, 14, 15] := by kernel_rfl
@[simp] theorem k18_5 : ch.keep 18 5 = [2, 4, 7, 12, 13, 14] := by kernel_rfl
@[simp] theorem k18_6 : ch.keep 18 6 = [2, 4, 7, 12, 13, 14, 24] := by kernel_rfl
@[simp] theorem k18_7 : ch.keep 18 7 = [4, 5] := by kernel_rfl
@[simp] theorem k18_8 : ch.keep 18 8 = [2, 4, 12, 13, 14] := by kernel_rfl
@[simp] theorem k18_9 : ch.keep 18 9 = [2, 4, 12, 13, 14] := by kernel_rfl
@[simp] theorem k18_10 : ch.keep 18 10 = [4, 5] := by kernel_rfl
noncomputable def code18 : Code := match Tryz.f18.body with | some c => c | none => .skip
noncomputable def lp18_0 : Code := match code18 with | .seq _ (.seq _ (.seq (.seq _ (.block _ (.loop c))) _)) => c | c => c
theorem hd18_0 : ch.head 18 (firstR lp18_0) = [2, 4, 12, 13, 14] := by kernel_rfl
theorem rs18 : Tryz.f18.results.toList = [.cell 4 25, .tmp 5] := rfl
theorem W18_of {args : List D} (ha : args.all (D.noRef 0 0) = true) (hl : args.length ≤ 34) {H : Hp} {o : Out × Hp}
    (h : alone H (fnOut Tryz.prog [.cell 4 25, .tmp 5] 0 0 (E false ⟨0, 0⟩ 18 code18 (mkF 0 args) H00)) = some o) : W 18 args H = some o :=
  W_of Tryz.func18 rfl (by kernel_rfl) rfl rfl ha (by rw [Tryz.ntmps18]; exact hl) h
/-! ### f18: sward/swardref01.At -/
@[simp] theorem k19_0 : ch.keep 19 0 = [1, 2, 4] := by kernel_rfl
@[simp] theorem k19_1 : ch.keep 19 1 = [1, 2, 4, 6] := by kernel_rfl
@[simp] theorem k19_2 : ch.keep 19 2 = [1, 2, 4, 6, 10] := by kernel_rfl
@[simp] theorem k19_3 : ch.keep 19 3 = [1, 2, 4, 6] := by kernel_rfl
@[simp] theorem k19_4 : ch.keep 19 4 = [1, 2, 4, 6, 22] := by kernel_rfl
@[simp] theorem k19_5 : ch.keep 19 5 = [4, 5] := by kernel_rfl
@[simp] theorem k19_6 : ch.keep 19 6 = [1, 2, 4, 6] := by kernel_rfl
@[simp] theorem k19_7 : ch.keep 19 7 = [4, 5] := by kernel_rfl
@[simp] theorem fl19_4 : ch.fl 19 4 = [1, 1, 1, 1, 1, 1, 1, 1, 0, 0] := by kernel_rfl
@[simp] theorem fl19_6 : ch.fl 19 6 = [1, 1, 1, 1, 1, 1, 0, 0, 0] := by kernel_rfl
noncomputable def code19 : Code := match Tryz.f19.body with | some c => c | none => .skip
noncomputable def lp19_0 : Code := match code19 with | .seq _ (.seq (.seq _ (.block _ (.loop c))) _) => c | c => c
theorem hd19_0 : ch.head 19 (firstR lp19_0) = [1, 2, 4, 6] := by kernel_rfl
theorem rs19 : Tryz.f19.results.toList = [.cell 4 25, .tmp 5] := rfl
theorem W19_of {args : List D} (ha : args.all (D.noRef 0 0) = true) (hl : args.length ≤ 33) {H : Hp} {o : Out × Hp}
    (h : alone H (fnOut Tryz.prog [.cell 4 25, .tmp 5] 0 0 (E false ⟨0, 0⟩ 19 code19 (mkF 0 args) H00)) = some o) : W 19 args H = some o :=
  W_of Tryz.func19 rfl (by kernel_rfl) rfl rfl ha (by rw [Tryz.ntmps19]; exact hl) h
/-! ### f19: sward/swardref01.Valid -/
@[simp] theorem k20_0 : ch.keep 20 0 = [1] := by kernel_rfl
@[simp] theorem k20_1 : ch.keep 20 1 = [2] := by kernel_rfl
noncomputable def code20 : Code := match Tryz.f20.body with | some c => c | none => .skip
theorem rs20 : Tryz.f20.results.toList = [.tmp 2] := rfl
theorem W20_of {args : List D} (ha : args.all (D.noRef 0 0) = true) (hl : args.length ≤ 10) {H : Hp} {o : Out × Hp}
    (h : alone H (fnOut Tryz.prog [.tmp 2] 0 0 (E false ⟨0, 0⟩ 20 code20 (mkF 0 args) H00)) = some o) : W 20 args H = some o :=
  W_of Tryz.func20 rfl (by kernel_rfl) rfl rfl ha (by rw [Tryz.ntmps20]; exact hl) h
/-! ### f20: sward/swardlaw01.none -/
@[simp] theorem k21_0 : ch.keep 21 0 = [1] := by kernel_rfl
@[simp] theorem k21_1 : ch.keep 21 1 = [2] := by kernel_rfl
noncomputable def code21 : Code := match Tryz.f21.body with | some c => c | none => .skip
theorem rs21 : Tryz.f21.results.toList = [.tmp 2] := rfl
theorem W21_of {args : List D} (ha : args.all (D.noRef 0 0) = true) (hl : args.length ≤ 6) {H : Hp} {o : Out × Hp}
    (h : alone H (fnOut Tryz.prog [.tmp 2] 0 0 (E false ⟨0, 0⟩ 21 code21 (mkF 0 args) H00)) = some o) : W 21 args H = some o :=
  W_of Tryz.func21 rfl (by kernel_rfl) rfl rfl ha (by rw [Tryz.ntmps21]; exact hl) h
/-! ### f21: sward/value.Size -/
@[simp] theorem k22_0 : ch.keep 22 0 = [1] := by kernel_rfl
@[simp] theorem k22_1 : ch.keep 22 1 = [1, 8] := by kernel_rfl
@[simp] theorem k22_2 : ch.keep 22 2 = [2, 3, 4] := by kernel_rfl
@[simp] theorem k22_3 : ch.keep 22 3 = [5] := by kernel_rfl
@[simp] theorem k22_4 : ch.keep 22 4 = [2, 3, 4] := by kernel_rfl
@[simp] theorem fl22_4 : ch.fl 22 4 = [1, 1, 1, 1, 1, 0, 0] := by kernel_rfl
noncomputable def code22 : Code := match Tryz.f22.body with | some c => c | none => .skip
theorem rs22 : Tryz.f22.results.toList = [.tmp 2, .tmp 3, .tmp 4] := rfl
theorem W22_of {args : List D} (ha : args.all (D.noRef 0 0) = true) (hl : args.length ≤ 15) {H : Hp} {o : Out × Hp}
    (h : alone H (fnOut Tryz.prog [.tmp 2, .tmp 3, .tmp 4] 0 0 (E false ⟨0, 0⟩ 22 code22 (mkF 0 args) H00)) = some o) : W 22 args H = some o :=
  W_of Tryz.func22 rfl (by kernel_rfl) rfl rfl ha (by rw [Tryz.ntmps22]; exact hl) h
/-! ### f22: sward/swardref01.Equal -/
@[simp] theorem k23_0 : ch.keep 23 0 = [2, 3] := by kernel_rfl
@[simp] theorem k23_1 : ch.keep 23 1 = [2, 3, 23] := by kernel_rfl
@[simp] theorem k23_2 : ch.keep 23 2 = [4] := by kernel_rfl
@[simp] theorem k23_3 : ch.keep 23 3 = [4] := by kernel_rfl
noncomputable def code23 : Code := match Tryz.f23.body with | some c => c | none => .skip
theorem rs23 : Tryz.f23.results.toList = [.tmp 4] := rfl
theorem W23_of {args : List D} (ha : args.all (D.noRef 0 0) = true) (hl : args.length ≤ 29) {H : Hp} {o : Out × Hp}
    (h : alone H (fnOut Tryz.prog [.tmp 4] 0 0 (E false ⟨0, 0⟩ 23 code23 (mkF 0 args) H00)) = some o) : W 23 args H = some o :=
  W_of Tryz.func23 rfl (by kernel_rfl) rfl rfl ha (by rw [Tryz.ntmps23]; exact hl) h
/-! ### f23: sward/swardref01.Nodes -/
@[simp] theorem k24_0 : ch.keep 24 0 = [1] := by kernel_rfl
@[simp] theorem k24_1 : ch.keep 24 1 = [1, 3] := by kernel_rfl
@[simp] theorem k24_2 : ch.keep 24 2 = [1, 3, 4] := by kernel_rfl
@[simp] theorem k24_3 : ch.keep 24 3 = [1, 3, 4, 9] := by kernel_rfl
@[simp] theorem k24_4 : ch.keep 24 4 = [1, 3, 4] := by kernel_rfl
@[simp] theorem k24_5 : ch.keep 24 5 = [1, 3, 4] := by kernel_rfl
@[simp] theorem k24_6 : ch.keep 24 6 = [2] := by kernel_rfl
noncomputable def code24 : Code := match Tryz.f24.body with | some c => c | none => .skip
noncomputable def lp24_0 : Code := match code24 with | .seq _ (.seq _ (.seq (.seq _ (.block _ (.loop c))) _)) => c | c => c
theorem hd24_0 : ch.head 24 (firstR lp24_0) = [1, 3, 4] := by kernel_rfl
theorem rs24 : Tryz.f24.results.toList = [.tmp 2] := rfl
theorem W24_of {args : List D} (ha : args.all (D.noRef 0 0) = true) (hl : args.length ≤ 21) {H : Hp} {o : Out × Hp}
    (h : alone H (fnOut Tryz.prog [.tmp 2] 0 0 (E false ⟨0, 0⟩ 24 code24 (mkF 0 args) H00)) = some o) : W 24 args H = some o :=
  W_of Tryz.func24 rfl (by kernel_rfl) rfl rfl ha (by rw [Tryz.ntmps24]; exact hl) h
/-! ### f24: sward/swardref01.Depth -/
@[simp] theorem k25_0 : ch.keep 25 0 = [1] := by kernel_rfl
@[simp] theorem k25_1 : ch.keep 25 1 = [1, 3] := by kernel_rfl
@[simp] theorem k25_2 : ch.keep 25 2 = [1, 3, 4] := by kernel_rfl
@[simp] theorem k25_3 : ch.keep 25 3 = [1, 3, 4, 9] := by kernel_rfl
@[simp] theorem k25_4 : ch.keep 25 4 = [1, 3, 4] := by kernel_rfl
@[simp] theorem k25_5 : ch.keep 25 5 = [1, 3, 4] := by kernel_rfl
@[simp] theorem k25_6 : ch.keep 25 6 = [2] := by kernel_rfl
noncomputable def code25 : Code := match Tryz.f25.body with | some c => c | none => .skip
noncomputable def lp25_0 : Code := match code25 with | .seq _ (.seq _ (.seq (.seq _ (.block _ (.loop c))) _)) => c | c => c
theorem hd25_0 : ch.head 25 (firstR lp25_0) = [1, 3, 4] := by kernel_rfl
theorem rs25 : Tryz.f25.results.toList = [.tmp 2] := rfl
theorem W25_of {args : List D} (ha : args.all (D.noRef 0 0) = true) (hl : args.length ≤ 22) {H : Hp} {o : Out × Hp}
    (h : alone H (fnOut Tryz.prog [.tmp 2] 0 0 (E false ⟨0, 0⟩ 25 code25 (mkF 0 args) H00)) = some o) : W 25 args H = some o :=
  W_of Tryz.func25 rfl (by kernel_rfl) rfl rfl ha (by rw [Tryz.ntmps25]; exact hl) h
/-! ### f25: sward/swardlaw01.compared -/
@[simp] theorem k26_0 : ch.keep 26 0 = [2, 3] := by kernel_rfl
@[simp] theorem k26_1 : ch.keep 26 1 = [6, 7] := by kernel_rfl
@[simp] theorem k26_2 : ch.keep 26 2 = [4, 5] := by kernel_rfl
noncomputable def code26 : Code := match Tryz.f26.body with | some c => c | none => .skip
theorem rs26 : Tryz.f26.results.toList = [.tmp 4, .tmp 5] := rfl
theorem W26_of {args : List D} (ha : args.all (D.noRef 0 0) = true) (hl : args.length ≤ 25) {H : Hp} {o : Out × Hp}
    (h : alone H (fnOut Tryz.prog [.tmp 4, .tmp 5] 0 0 (E false ⟨0, 0⟩ 26 code26 (mkF 0 args) H00)) = some o) : W 26 args H = some o :=
  W_of Tryz.func26 rfl (by kernel_rfl) rfl rfl ha (by rw [Tryz.ntmps26]; exact hl) h
/-! ### f26: sward/value.Read -/
@[simp] theorem k27_0 : ch.keep 27 0 = [0, 2] := by kernel_rfl
@[simp] theorem k27_1 : ch.keep 27 1 = [0, 2, 8] := by kernel_rfl
@[simp] theorem k27_2 : ch.keep 27 2 = [2, 3] := by kernel_rfl
@[simp] theorem k27_3 : ch.keep 27 3 = [0, 2, 4] := by kernel_rfl
@[simp] theorem k27_4 : ch.keep 27 4 = [0, 2, 4, 5] := by kernel_rfl
@[simp] theorem k27_5 : ch.keep 27 5 = [2, 4, 26] := by kernel_rfl
@[simp] theorem k27_6 : ch.keep 27 6 = [2, 3] := by kernel_rfl
@[simp] theorem k27_7 : ch.keep 27 7 = [2, 3] := by kernel_rfl
noncomputable def code27 : Code := match Tryz.f27.body with | some c => c | none => .skip
theorem rs27 : Tryz.f27.results.toList = [.cell 2 25, .tmp 3] := rfl
theorem W27_of {args : List D} (ha : args.all (D.noRef 0 0) = true) (hl : args.length ≤ 29) {H : Hp} {o : Out × Hp}
    (h : alone H (fnOut Tryz.prog [.cell 2 25, .tmp 3] 0 0 (E false ⟨0, 0⟩ 27 code27 (mkF 0 args) H00)) = some o) : W 27 args H = some o :=
  W_of Tryz.func27 rfl (by kernel_rfl) rfl rfl ha (by rw [Tryz.ntmps27]; exact hl) h
/-! ### f27: sward/swardref01.Read -/
@[simp] theorem k28_0 : ch.keep 28 0 = [0, 2] := by kernel_rfl
@[simp] theorem k28_1 : ch.keep 28 1 = [0, 2, 4, 5] := by kernel_rfl
@[simp] theorem k28_2 : ch.keep 28 2 = [2, 4, 21] := by kernel_rfl
@[simp] theorem k28_3 : ch.keep 28 3 = [2, 3] := by kernel_rfl
@[simp] theorem k28_4 : ch.keep 28 4 = [2, 3] := by kernel_rfl
noncomputable def code28 : Code := match Tryz.f28.body with | some c => c | none => .skip
theorem rs28 : Tryz.f28.results.toList = [.cell 2 25, .tmp 3] := rfl
theorem W28_of {args : List D} (ha : args.all (D.noRef 0 0) = true) (hl : args.length ≤ 24) {H : Hp} {o : Out × Hp}
    (h : alone H (fnOut Tryz.prog [.cell 2 25, .tmp 3] 0 0 (E false ⟨0, 0⟩ 28 code28 (mkF 0 args) H00)) = some o) : W 28 args H = some o :=
  W_of Tryz.func28 rfl (by kernel_rfl) rfl rfl ha (by rw [Tryz.ntmps28]; exact hl) h
/-! ### f28: sward/value.Print -/
@[simp] theorem k29_0 : ch.keep 29 0 = [1] := by kernel_rfl
@[simp] theorem k29_1 : ch.keep 29 1 = [1, 6] := by kernel_rfl
@[simp] theorem k29_2 : ch.keep 29 2 = [2, 3] := by kernel_rfl
@[simp] theorem k29_3 : ch.keep 29 3 = [2, 3] := by kernel_rfl
noncomputable def code29 : Code := match Tryz.f29.body with | some c => c | none => .skip
theorem rs29 : Tryz.f29.results.toList = [.tmp 2, .tmp 3] := rfl
theorem W29_of {args : List D} (ha : args.all (D.noRef 0 0) = true) (hl : args.length ≤ 9) {H : Hp} {o : Out × Hp}
    (h : alone H (fnOut Tryz.prog [.tmp 2, .tmp 3] 0 0 (E false ⟨0, 0⟩ 29 code29 (mkF 0 args) H00)) = some o) : W 29 args H = some o :=
  W_of Tryz.func29 rfl (by kernel_rfl) rfl rfl ha (by rw [Tryz.ntmps29]; exact hl) h
/-! ### f29: sward/value.Check -/
@[simp] theorem k30_0 : ch.keep 30 0 = [1] := by kernel_rfl
@[simp] theorem k30_1 : ch.keep 30 1 = [5] := by kernel_rfl
@[simp] theorem k30_2 : ch.keep 30 2 = [2] := by kernel_rfl
@[simp] theorem k30_3 : ch.keep 30 3 = [2] := by kernel_rfl
noncomputable def code30 : Code := match Tryz.f30.body with | some c => c | none => .skip
theorem rs30 : Tryz.f30.results.toList = [.tmp 2] := rfl
theorem W30_of {args : List D} (ha : args.all (D.noRef 0 0) = true) (hl : args.length ≤ 6) {H : Hp} {o : Out × Hp}
    (h : alone H (fnOut Tryz.prog [.tmp 2] 0 0 (E false ⟨0, 0⟩ 30 code30 (mkF 0 args) H00)) = some o) : W 30 args H = some o :=
  W_of Tryz.func30 rfl (by kernel_rfl) rfl rfl ha (by rw [Tryz.ntmps30]; exact hl) h
/-! ### f30: sward/value.Compare -/
@[simp] theorem k31_0 : ch.keep 31 0 = [2, 3] := by kernel_rfl
@[simp] theorem k31_1 : ch.keep 31 1 = [2, 3, 13] := by kernel_rfl
@[simp] theorem k31_2 : ch.keep 31 2 = [4, 5] := by kernel_rfl
@[simp] theorem k31_3 : ch.keep 31 3 = [4, 5] := by kernel_rfl
noncomputable def code31 : Code := match Tryz.f31.body with | some c => c | none => .skip
theorem rs31 : Tryz.f31.results.toList = [.tmp 4, .tmp 5] := rfl
theorem W31_of {args : List D} (ha : args.all (D.noRef 0 0) = true) (hl : args.length ≤ 17) {H : Hp} {o : Out × Hp}
    (h : alone H (fnOut Tryz.prog [.tmp 4, .tmp 5] 0 0 (E false ⟨0, 0⟩ 31 code31 (mkF 0 args) H00)) = some o) : W 31 args H = some o :=
  W_of Tryz.func31 rfl (by kernel_rfl) rfl rfl ha (by rw [Tryz.ntmps31]; exact hl) h
/-! ### f31: sward/value.Same -/
@[simp] theorem k32_0 : ch.keep 32 0 = [2, 3] := by kernel_rfl
@[simp] theorem k32_1 : ch.keep 32 1 = [2, 3, 13] := by kernel_rfl
@[simp] theorem k32_2 : ch.keep 32 2 = [4, 5] := by kernel_rfl
@[simp] theorem k32_3 : ch.keep 32 3 = [4, 5] := by kernel_rfl
noncomputable def code32 : Code := match Tryz.f32.body with | some c => c | none => .skip
theorem rs32 : Tryz.f32.results.toList = [.tmp 4, .tmp 5] := rfl
theorem W32_of {args : List D} (ha : args.all (D.noRef 0 0) = true) (hl : args.length ≤ 18) {H : Hp} {o : Out × Hp}
    (h : alone H (fnOut Tryz.prog [.tmp 4, .tmp 5] 0 0 (E false ⟨0, 0⟩ 32 code32 (mkF 0 args) H00)) = some o) : W 32 args H = some o :=
  W_of Tryz.func32 rfl (by kernel_rfl) rfl rfl ha (by rw [Tryz.ntmps32]; exact hl) h
/-! ### f32: sward/swardref01.Compare -/
@[simp] theorem k33_0 : ch.keep 33 0 = [2, 3] := by kernel_rfl
@[simp] theorem k33_1 : ch.keep 33 1 = [2, 3, 11] := by kernel_rfl
@[simp] theorem k33_2 : ch.keep 33 2 = [4] := by kernel_rfl
@[simp] theorem k33_3 : ch.keep 33 3 = [2, 3, 19] := by kernel_rfl
@[simp] theorem k33_4 : ch.keep 33 4 = [2, 3, 24] := by kernel_rfl
@[simp] theorem k33_5 : ch.keep 33 5 = [4] := by kernel_rfl
@[simp] theorem k33_6 : ch.keep 33 6 = [29] := by kernel_rfl
@[simp] theorem k33_7 : ch.keep 33 7 = [4] := by kernel_rfl
@[simp] theorem k33_8 : ch.keep 33 8 = [4] := by kernel_rfl
@[simp] theorem k33_9 : ch.keep 33 9 = [2, 3, 46] := by kernel_rfl
@[simp] theorem k33_10 : ch.keep 33 10 = [4] := by kernel_rfl
@[simp] theorem k33_11 : ch.keep 33 11 = [2, 3, 5] := by kernel_rfl
@[simp] theorem k33_12 : ch.keep 33 12 = [2, 3, 5, 64] := by kernel_rfl
@[simp] theorem k33_13 : ch.keep 33 13 = [2, 3, 5] := by kernel_rfl
@[simp] theorem k33_14 : ch.keep 33 14 = [2, 3, 5, 6] := by kernel_rfl
@[simp] theorem k33_15 : ch.keep 33 15 = [2, 3, 5, 6, 79] := by kernel_rfl
@[simp] theorem k33_16 : ch.keep 33 16 = [4] := by kernel_rfl
@[simp] theorem k33_17 : ch.keep 33 17 = [4] := by kernel_rfl
@[simp] theorem fl33_10 : ch.fl 33 10 = [1, 1, 1, 1, 1, 1, 1, 1, 1, 1, 1, 0, 0, 0] := by kernel_rfl
@[simp] theorem fl33_14 : ch.fl 33 14 = [1, 1, 1, 1, 1, 1, 1, 1, 1, 1, 0, 0] := by kernel_rfl
noncomputable def code33 : Code := match Tryz.f33.body with | some c => c | none => .skip
noncomputable def lp33_0 : Code := match code33 with | .seq _ (.seq _ (.seq _ (.seq _ (.seq (.seq _ (.block _ (.loop c))) _)))) => c | c => c
theorem hd33_0 : ch.head 33 (firstR lp33_0) = [2, 3, 5] := by kernel_rfl
theorem rs33 : Tryz.f33.results.toList = [.tmp 4] := rfl
theorem W33_of {args : List D} (ha : args.all (D.noRef 0 0) = true) (hl : args.length ≤ 81) {H : Hp} {o : Out × Hp}
    (h : alone H (fnOut Tryz.prog [.tmp 4] 0 0 (E false ⟨0, 0⟩ 33 code33 (mkF 0 args) H00)) = some o) : W 33 args H = some o :=
  W_of Tryz.func33 rfl (by kernel_rfl) rfl rfl ha (by rw [Tryz.ntmps33]; exact hl) h
/-! ### f33: sward/value.Union -/
@[simp] theorem k34_0 : ch.keep 34 0 = [2, 3, 4] := by kernel_rfl
@[simp] theorem k34_1 : ch.keep 34 1 = [2, 3, 4, 13] := by kernel_rfl
@[simp] theorem k34_2 : ch.keep 34 2 = [4, 5] := by kernel_rfl
@[simp] theorem k34_3 : ch.keep 34 3 = [4, 5] := by kernel_rfl
noncomputable def code34 : Code := match Tryz.f34.body with | some c => c | none => .skip
theorem rs34 : Tryz.f34.results.toList = [.cell 4 25, .tmp 5] := rfl
theorem W34_of {args : List D} (ha : args.all (D.noRef 0 0) = true) (hl : args.length ≤ 24) {H : Hp} {o : Out × Hp}
    (h : alone H (fnOut Tryz.prog [.cell 4 25, .tmp 5] 0 0 (E false ⟨0, 0⟩ 34 code34 (mkF 0 args) H00)) = some o) : W 34 args H = some o :=
  W_of Tryz.func34 rfl (by kernel_rfl) rfl rfl ha (by rw [Tryz.ntmps34]; exact hl) h
/-! ### f34: sward/value.Meet -/
@[simp] theorem k35_0 : ch.keep 35 0 = [2, 3, 4] := by kernel_rfl
@[simp] theorem k35_1 : ch.keep 35 1 = [2, 3, 4, 13] := by kernel_rfl
@[simp] theorem k35_2 : ch.keep 35 2 = [4, 5] := by kernel_rfl
@[simp] theorem k35_3 : ch.keep 35 3 = [4, 5] := by kernel_rfl
noncomputable def code35 : Code := match Tryz.f35.body with | some c => c | none => .skip
theorem rs35 : Tryz.f35.results.toList = [.cell 4 25, .tmp 5] := rfl
theorem W35_of {args : List D} (ha : args.all (D.noRef 0 0) = true) (hl : args.length ≤ 22) {H : Hp} {o : Out × Hp}
    (h : alone H (fnOut Tryz.prog [.cell 4 25, .tmp 5] 0 0 (E false ⟨0, 0⟩ 35 code35 (mkF 0 args) H00)) = some o) : W 35 args H = some o :=
  W_of Tryz.func35 rfl (by kernel_rfl) rfl rfl ha (by rw [Tryz.ntmps35]; exact hl) h
/-! ### f35: sward/value.Minus -/
@[simp] theorem k36_0 : ch.keep 36 0 = [2, 3, 4] := by kernel_rfl
@[simp] theorem k36_1 : ch.keep 36 1 = [2, 3, 4, 13] := by kernel_rfl
@[simp] theorem k36_2 : ch.keep 36 2 = [4, 5] := by kernel_rfl
@[simp] theorem k36_3 : ch.keep 36 3 = [4, 5] := by kernel_rfl
noncomputable def code36 : Code := match Tryz.f36.body with | some c => c | none => .skip
theorem rs36 : Tryz.f36.results.toList = [.cell 4 25, .tmp 5] := rfl
theorem W36_of {args : List D} (ha : args.all (D.noRef 0 0) = true) (hl : args.length ≤ 22) {H : Hp} {o : Out × Hp}
    (h : alone H (fnOut Tryz.prog [.cell 4 25, .tmp 5] 0 0 (E false ⟨0, 0⟩ 36 code36 (mkF 0 args) H00)) = some o) : W 36 args H = some o :=
  W_of Tryz.func36 rfl (by kernel_rfl) rfl rfl ha (by rw [Tryz.ntmps36]; exact hl) h
/-! ### f36: sward/value.Within -/
@[simp] theorem k37_0 : ch.keep 37 0 = [2, 3, 4, 5] := by kernel_rfl
@[simp] theorem k37_1 : ch.keep 37 1 = [2, 3, 4, 5, 13] := by kernel_rfl
@[simp] theorem k37_2 : ch.keep 37 2 = [4, 5] := by kernel_rfl
@[simp] theorem k37_3 : ch.keep 37 3 = [4, 5, 16] := by kernel_rfl
@[simp] theorem k37_4 : ch.keep 37 4 = [4, 5] := by kernel_rfl
@[simp] theorem k37_5 : ch.keep 37 5 = [4, 5] := by kernel_rfl
noncomputable def code37 : Code := match Tryz.f37.body with | some c => c | none => .skip
theorem rs37 : Tryz.f37.results.toList = [.cell 4 4, .cell 5 29] := rfl
theorem W37_of {args : List D} (ha : args.all (D.noRef 0 0) = true) (hl : args.length ≤ 18) {H : Hp} {o : Out × Hp}
    (h : alone H (fnOut Tryz.prog [.cell 4 4, .cell 5 29] 0 0 (E false ⟨0, 0⟩ 37 code37 (mkF 0 args) H00)) = some o) : W 37 args H = some o :=
  W_of Tryz.func37 rfl (by kernel_rfl) rfl rfl ha (by rw [Tryz.ntmps37]; exact hl) h
/-! ### f37: sward/value.Has -/
@[simp] theorem k38_0 : ch.keep 38 0 = [2, 3] := by kernel_rfl
@[simp] theorem k38_1 : ch.keep 38 1 = [2, 3, 13] := by kernel_rfl
@[simp] theorem k38_2 : ch.keep 38 2 = [4, 5] := by kernel_rfl
@[simp] theorem k38_3 : ch.keep 38 3 = [4, 5] := by kernel_rfl
noncomputable def code38 : Code := match Tryz.f38.body with | some c => c | none => .skip
theorem rs38 : Tryz.f38.results.toList = [.tmp 4, .tmp 5] := rfl
theorem W38_of {args : List D} (ha : args.all (D.noRef 0 0) = true) (hl : args.length ≤ 18) {H : Hp} {o : Out × Hp}
    (h : alone H (fnOut Tryz.prog [.tmp 4, .tmp 5] 0 0 (E false ⟨0, 0⟩ 38 code38 (mkF 0 args) H00)) = some o) : W 38 args H = some o :=
  W_of Tryz.func38 rfl (by kernel_rfl) rfl rfl ha (by rw [Tryz.ntmps38]; exact hl) h
/-! ### f38: sward/swardref01.IsSet -/
@[simp] theorem k39_0 : ch.keep 39 0 = [1] := by kernel_rfl
@[simp] theorem k39_1 : ch.keep 39 1 = [2] := by kernel_rfl
noncomputable def code39 : Code := match Tryz.f39.body with | some c => c | none => .skip
theorem rs39 : Tryz.f39.results.toList = [.tmp 2] := rfl
theorem W39_of {args : List D} (ha : args.all (D.noRef 0 0) = true) (hl : args.length ≤ 6) {H : Hp} {o : Out × Hp}
    (h : alone H (fnOut Tryz.prog [.tmp 2] 0 0 (E false ⟨0, 0⟩ 39 code39 (mkF 0 args) H00)) = some o) : W 39 args H = some o :=
  W_of Tryz.func39 rfl (by kernel_rfl) rfl rfl ha (by rw [Tryz.ntmps39]; exact hl) h
/-! ### f39: sward/swardref01.Has -/
@[simp] theorem k40_0 : ch.keep 40 0 = [2, 3] := by kernel_rfl
@[simp] theorem k40_1 : ch.keep 40 1 = [2, 3, 5] := by kernel_rfl
@[simp] theorem k40_2 : ch.keep 40 2 = [2, 3, 5, 10] := by kernel_rfl
@[simp] theorem k40_3 : ch.keep 40 3 = [2, 3, 5] := by kernel_rfl
@[simp] theorem k40_4 : ch.keep 40 4 = [2, 3, 5, 20] := by kernel_rfl
@[simp] theorem k40_5 : ch.keep 40 5 = [4] := by kernel_rfl
@[simp] theorem k40_6 : ch.keep 40 6 = [4] := by kernel_rfl
@[simp] theorem fl40_4 : ch.fl 40 4 = [1, 1, 1, 1, 1, 1, 0, 0] := by kernel_rfl
noncomputable def code40 : Code := match Tryz.f40.body with | some c => c | none => .skip
noncomputable def lp40_0 : Code := match code40 with | .seq _ (.seq (.seq _ (.block _ (.loop c))) _) => c | c => c
theorem hd40_0 : ch.head 40 (firstR lp40_0) = [2, 3, 5] := by kernel_rfl
theorem rs40 : Tryz.f40.results.toList = [.tmp 4] := rfl
theorem W40_of {args : List D} (ha : args.all (D.noRef 0 0) = true) (hl : args.length ≤ 21) {H : Hp} {o : Out × Hp}
    (h : alone H (fnOut Tryz.prog [.tmp 4] 0 0 (E false ⟨0, 0⟩ 40 code40 (mkF 0 args) H00)) = some o) : W 40 args H = some o :=
  W_of Tryz.func40 rfl (by kernel_rfl) rfl rfl ha (by rw [Tryz.ntmps40]; exact hl) h
/-! ### f40: sward/swardlaw01.result -/
@[simp] theorem k41_0 : ch.keep 41 0 = [1, 3, 5] := by kernel_rfl
@[simp] theorem k41_1 : ch.keep 41 1 = [1, 3, 5, 9] := by kernel_rfl
@[simp] theorem k41_2 : ch.keep 41 2 = [6] := by kernel_rfl
@[simp] theorem k41_3 : ch.keep 41 3 = [6] := by kernel_rfl
noncomputable def code41 : Code := match Tryz.f41.body with | some c => c | none => .skip
theorem rs41 : Tryz.f41.results.toList = [.tmp 6] := rfl
theorem W41_of {args : List D} (ha : args.all (D.noRef 0 0) = true) (hl : args.length ≤ 23) {H : Hp} {o : Out × Hp}
    (h : alone H (fnOut Tryz.prog [.tmp 6] 0 0 (E false ⟨0, 0⟩ 41 code41 (mkF 0 args) H00)) = some o) : W 41 args H = some o :=
  W_of Tryz.func41 rfl (by kernel_rfl) rfl rfl ha (by rw [Tryz.ntmps41]; exact hl) h
/-! ### f41: sward/swardref01.Union -/
@[simp] theorem k42_0 : ch.keep 42 0 = [2, 3, 4] := by kernel_rfl
@[simp] theorem k42_1 : ch.keep 42 1 = [4] := by kernel_rfl
@[simp] theorem fl42_1 : ch.fl 42 1 = [1, 1, 3, 2, 2, 0, 0, 0] := by kernel_rfl
noncomputable def code42 : Code := match Tryz.f42.body with | some c => c | none => .skip
theorem rs42 : Tryz.f42.results.toList = [.cell 4 25] := rfl
theorem W42_of {args : List D} (ha : args.all (D.noRef 0 0) = true) (hl : args.length ≤ 12) {H : Hp} {o : Out × Hp}
    (h : alone H (fnOut Tryz.prog [.cell 4 25] 0 0 (E false ⟨0, 0⟩ 42 code42 (mkF 0 args) H00)) = some o) : W 42 args H = some o :=
  W_of Tryz.func42 rfl (by kernel_rfl) rfl rfl ha (by rw [Tryz.ntmps42]; exact hl) h
/-! ### f42: sward/swardref01.Meet -/
@[simp] theorem k43_0 : ch.keep 43 0 = [2, 3, 4] := by kernel_rfl
@[simp] theorem k43_1 : ch.keep 43 1 = [4] := by kernel_rfl
noncomputable def code43 : Code := match Tryz.f43.body with | some c => c | none => .skip
theorem rs43 : Tryz.f43.results.toList = [.cell 4 25] := rfl
theorem W43_of {args : List D} (ha : args.all (D.noRef 0 0) = true) (hl : args.length ≤ 8) {H : Hp} {o : Out × Hp}
    (h : alone H (fnOut Tryz.prog [.cell 4 25] 0 0 (E false ⟨0, 0⟩ 43 code43 (mkF 0 args) H00)) = some o) : W 43 args H = some o :=
  W_of Tryz.func43 rfl (by kernel_rfl) rfl rfl ha (by rw [Tryz.ntmps43]; exact hl) h
/-! ### f43: sward/swardref01.Minus -/
@[simp] theorem k44_0 : ch.keep 44 0 = [2, 3, 4] := by kernel_rfl
@[simp] theorem k44_1 : ch.keep 44 1 = [4] := by kernel_rfl
noncomputable def code44 : Code := match Tryz.f44.body with | some c => c | none => .skip
theorem rs44 : Tryz.f44.results.toList = [.cell 4 25] := rfl
theorem W44_of {args : List D} (ha : args.all (D.noRef 0 0) = true) (hl : args.length ≤ 8) {H : Hp} {o : Out × Hp}
    (h : alone H (fnOut Tryz.prog [.cell 4 25] 0 0 (E false ⟨0, 0⟩ 44 code44 (mkF 0 args) H00)) = some o) : W 44 args H = some o :=
  W_of Tryz.func44 rfl (by kernel_rfl) rfl rfl ha (by rw [Tryz.ntmps44]; exact hl) h
/-! ### f44: sward/swardref01.Within -/
@[simp] theorem k45_0 : ch.keep 45 0 = [2, 3] := by kernel_rfl
@[simp] theorem k45_1 : ch.keep 45 1 = [4] := by kernel_rfl
noncomputable def code45 : Code := match Tryz.f45.body with | some c => c | none => .skip
theorem rs45 : Tryz.f45.results.toList = [.tmp 4] := rfl
theorem W45_of {args : List D} (ha : args.all (D.noRef 0 0) = true) (hl : args.length ≤ 11) {H : Hp} {o : Out × Hp}
    (h : alone H (fnOut Tryz.prog [.tmp 4] 0 0 (E false ⟨0, 0⟩ 45 code45 (mkF 0 args) H00)) = some o) : W 45 args H = some o :=
  W_of Tryz.func45 rfl (by kernel_rfl) rfl rfl ha (by rw [Tryz.ntmps45]; exact hl) h
/-! ### f45: sward/swardlaw01.sets -/
@[simp] theorem k46_0 : ch.keep 46 0 = [2, 3] := by kernel_rfl
@[simp] theorem k46_1 : ch.keep 46 1 = [4] := by kernel_rfl
noncomputable def code46 : Code := match Tryz.f46.body with | some c => c | none => .skip
theorem rs46 : Tryz.f46.results.toList = [.tmp 4] := rfl
theorem W46_of {args : List D} (ha : args.all (D.noRef 0 0) = true) (hl : args.length ≤ 27) {H : Hp} {o : Out × Hp}
    (h : alone H (fnOut Tryz.prog [.tmp 4] 0 0 (E false ⟨0, 0⟩ 46 code46 (mkF 0 args) H00)) = some o) : W 46 args H = some o :=
  W_of Tryz.func46 rfl (by kernel_rfl) rfl rfl ha (by rw [Tryz.ntmps46]; exact hl) h
/-! ### f46: sward/value.Bytes -/
@[simp] theorem k47_0 : ch.keep 47 0 = [1] := by kernel_rfl
@[simp] theorem k47_1 : ch.keep 47 1 = [1, 6] := by kernel_rfl
@[simp] theorem k47_2 : ch.keep 47 2 = [2, 3] := by kernel_rfl
@[simp] theorem k47_3 : ch.keep 47 3 = [2, 3] := by kernel_rfl
noncomputable def code47 : Code := match Tryz.f47.body with | some c => c | none => .skip
theorem rs47 : Tryz.f47.results.toList = [.tmp 2, .tmp 3] := rfl
theorem W47_of {args : List D} (ha : args.all (D.noRef 0 0) = true) (hl : args.length ≤ 9) {H : Hp} {o : Out × Hp}
    (h : alone H (fnOut Tryz.prog [.tmp 2, .tmp 3] 0 0 (E false ⟨0, 0⟩ 47 code47 (mkF 0 args) H00)) = some o) : W 47 args H = some o :=
  W_of Tryz.func47 rfl (by kernel_rfl) rfl rfl ha (by rw [Tryz.ntmps47]; exact hl) h
/-! ### f47: sward/value.Load -/
@[simp] theorem k48_0 : ch.keep 48 0 = [0, 2] := by kernel_rfl
@[simp] theorem k48_1 : ch.keep 48 1 = [0, 2, 4] := by kernel_rfl
@[simp] theorem k48_2 : ch.keep 48 2 = [0, 2, 4, 5] := by kernel_rfl
@[simp] theorem k48_3 : ch.keep 48 3 = [2, 4, 24] := by kernel_rfl
@[simp] theorem k48_4 : ch.keep 48 4 = [2, 3] := by kernel_rfl
@[simp] theorem k48_5 : ch.keep 48 5 = [2, 3] := by kernel_rfl
noncomputable def code48 : Code := match Tryz.f48.body with | some c => c | none => .skip
theorem rs48 : Tryz.f48.results.toList = [.cell 2 25, .tmp 3] := rfl
theorem W48_of {args : List D} (ha : args.all (D.noRef 0 0) = true) (hl : args.length ≤ 27) {H : Hp} {o : Out × Hp}
    (h : alone H (fnOut Tryz.prog [.cell 2 25, .tmp 3] 0 0 (E false ⟨0, 0⟩ 48 code48 (mkF 0 args) H00)) = some o) : W 48 args H = some o :=
  W_of Tryz.func48 rfl (by kernel_rfl) rfl rfl ha (by rw [Tryz.ntmps48]; exact hl) h
/-! ### f48: sward/swardref01.Print -/
@[simp] theorem k49_0 : ch.keep 49 0 = [1] := by kernel_rfl
@[simp] theorem k49_1 : ch.keep 49 1 = [1, 6] := by kernel_rfl
@[simp] theorem k49_2 : ch.keep 49 2 = [1, 6, 7] := by kernel_rfl
@[simp] theorem k49_3 : ch.keep 49 3 = [2] := by kernel_rfl
@[simp] theorem k49_4 : ch.keep 49 4 = [1, 6, 12] := by kernel_rfl
@[simp] theorem k49_5 : ch.keep 49 5 = [2] := by kernel_rfl
@[simp] theorem k49_6 : ch.keep 49 6 = [1, 19] := by kernel_rfl
@[simp] theorem k49_7 : ch.keep 49 7 = [2] := by kernel_rfl
@[simp] theorem k49_8 : ch.keep 49 8 = [1, 3] := by kernel_rfl
@[simp] theorem k49_9 : ch.keep 49 9 = [1, 3, 4] := by kernel_rfl
@[simp] theorem k49_10 : ch.keep 49 10 = [1, 3, 4, 29] := by kernel_rfl
@[simp] theorem k49_11 : ch.keep 49 11 = [1, 3, 4] := by kernel_rfl
@[simp] theorem k49_12 : ch.keep 49 12 = [1, 3, 4, 33] := by kernel_rfl
@[simp] theorem k49_13 : ch.keep 49 13 = [1, 3, 4] := by kernel_rfl
@[simp] theorem k49_14 : ch.keep 49 14 = [1, 3, 4] := by kernel_rfl
@[simp] theorem k49_15 : ch.keep 49 15 = [3, 46] := by kernel_rfl
@[simp] theorem k49_16 : ch.keep 49 16 = [2] := by kernel_rfl
@[simp] theorem k49_17 : ch.keep 49 17 = [2] := by kernel_rfl
noncomputable def code49 : Code := match Tryz.f49.body with | some c => c | none => .skip
noncomputable def lp49_0 : Code := match code49 with | .seq _ (.seq _ (.seq _ (.seq (.seq _ (.block _ (.loop c))) _))) => c | c => c
theorem hd49_0 : ch.head 49 (firstR lp49_0) = [1, 3, 4] := by kernel_rfl
theorem rs49 : Tryz.f49.results.toList = [.tmp 2] := rfl
theorem W49_of {args : List D} (ha : args.all (D.noRef 0 0) = true) (hl : args.length ≤ 53) {H : Hp} {o : Out × Hp}
    (h : alone H (fnOut Tryz.prog [.tmp 2] 0 0 (E false ⟨0, 0⟩ 49 code49 (mkF 0 args) H00)) = some o) : W 49 args H = some o :=
  W_of Tryz.func49 rfl (by kernel_rfl) rfl rfl ha (by rw [Tryz.ntmps49]; exact hl) h
/-! ### f49: sward/swardref01.Bytes -/
@[simp] theorem k50_0 : ch.keep 50 0 = [1] := by kernel_rfl
@[simp] theorem k50_1 : ch.keep 50 1 = [1, 3] := by kernel_rfl
@[simp] theorem k50_2 : ch.keep 50 2 = [1, 3, 11] := by kernel_rfl
@[simp] theorem k50_3 : ch.keep 50 3 = [1, 3, 11, 12] := by kernel_rfl
@[simp] theorem k50_4 : ch.keep 50 4 = [3, 4] := by kernel_rfl
@[simp] theorem k50_5 : ch.keep 50 5 = [2] := by kernel_rfl
@[simp] theorem k50_6 : ch.keep 50 6 = [1, 3, 11, 31] := by kernel_rfl
@[simp] theorem k50_7 : ch.keep 50 7 = [2] := by kernel_rfl
@[simp] theorem k50_8 : ch.keep 50 8 = [1, 3, 39] := by kernel_rfl
@[simp] theorem k50_9 : ch.keep 50 9 = [2] := by kernel_rfl
@[simp] theorem k50_10 : ch.keep 50 10 = [1, 3] := by kernel_rfl
@[simp] theorem k50_11 : ch.keep 50 11 = [1, 3, 5] := by kernel_rfl
@[simp] theorem k50_12 : ch.keep 50 12 = [1, 3, 5, 62] := by kernel_rfl
@[simp] theorem k50_13 : ch.keep 50 13 = [1, 3, 5] := by kernel_rfl
@[simp] theorem k50_14 : ch.keep 50 14 = [1, 3, 5] := by kernel_rfl
@[simp] theorem k50_15 : ch.keep 50 15 = [2] := by kernel_rfl
@[simp] theorem fl50_9 : ch.fl 50 9 = [1, 1, 1, 1, 1, 1, 3, 2, 2, 0, 0] := by kernel_rfl
noncomputable def code50 : Code := match Tryz.f50.body with | some c => c | none => .skip
noncomputable def lp50_0 : Code := match code50 with | .seq _ (.seq _ (.seq _ (.seq _ (.seq (.seq _ (.block _ (.loop c))) _)))) => c | c => c
theorem hd50_0 : ch.head 50 (firstR lp50_0) = [1, 3, 5] := by kernel_rfl
theorem rs50 : Tryz.f50.results.toList = [.tmp 2] := rfl
theorem W50_of {args : List D} (ha : args.all (D.noRef 0 0) = true) (hl : args.length ≤ 74) {H : Hp} {o : Out × Hp}
    (h : alone H (fnOut Tryz.prog [.tmp 2] 0 0 (E false ⟨0, 0⟩ 50 code50 (mkF 0 args) H00)) = some o) : W 50 args H = some o :=
  W_of Tryz.func50 rfl (by kernel_rfl) rfl rfl ha (by rw [Tryz.ntmps50]; exact hl) h
/-! ### f50: sward/swardref01.Load -/
@[simp] theorem k51_0 : ch.keep 51 0 = [0, 2] := by kernel_rfl
@[simp] theorem k51_1 : ch.keep 51 1 = [0, 2, 4, 5] := by kernel_rfl
@[simp] theorem k51_2 : ch.keep 51 2 = [2, 4, 21] := by kernel_rfl
@[simp] theorem k51_3 : ch.keep 51 3 = [2, 3] := by kernel_rfl
@[simp] theorem k51_4 : ch.keep 51 4 = [2, 3] := by kernel_rfl
noncomputable def code51 : Code := match Tryz.f51.body with | some c => c | none => .skip
theorem rs51 : Tryz.f51.results.toList = [.cell 2 25, .tmp 3] := rfl
theorem W51_of {args : List D} (ha : args.all (D.noRef 0 0) = true) (hl : args.length ≤ 24) {H : Hp} {o : Out × Hp}
    (h : alone H (fnOut Tryz.prog [.cell 2 25, .tmp 3] 0 0 (E false ⟨0, 0⟩ 51 code51 (mkF 0 args) H00)) = some o) : W 51 args H = some o :=
  W_of Tryz.func51 rfl (by kernel_rfl) rfl rfl ha (by rw [Tryz.ntmps51]; exact hl) h
/-! ### f51: sward/value.Look -/
@[simp] theorem k52_0 : ch.keep 52 0 = [2, 3, 4] := by kernel_rfl
@[simp] theorem k52_1 : ch.keep 52 1 = [2, 3, 4, 14] := by kernel_rfl
@[simp] theorem k52_2 : ch.keep 52 2 = [4, 5] := by kernel_rfl
@[simp] theorem k52_3 : ch.keep 52 3 = [2, 4, 6] := by kernel_rfl
@[simp] theorem k52_4 : ch.keep 52 4 = [2, 4, 6, 21] := by kernel_rfl
@[simp] theorem k52_5 : ch.keep 52 5 = [4, 5] := by kernel_rfl
@[simp] theorem k52_6 : ch.keep 52 6 = [4, 5] := by kernel_rfl
noncomputable def code52 : Code := match Tryz.f52.body with | some c => c | none => .skip
theorem rs52 : Tryz.f52.results.toList = [.cell 4 25, .tmp 5] := rfl
theorem W52_of {args : List D} (ha : args.all (D.noRef 0 0) = true) (hl : args.length ≤ 32) {H : Hp} {o : Out × Hp}
    (h : alone H (fnOut Tryz.prog [.cell 4 25, .tmp 5] 0 0 (E false ⟨0, 0⟩ 52 code52 (mkF 0 args) H00)) = some o) : W 52 args H = some o :=
  W_of Tryz.func52 rfl (by kernel_rfl) rfl rfl ha (by rw [Tryz.ntmps52]; exact hl) h
/-! ### f52: sward/value.Lay -/
@[simp] theorem k53_0 : ch.keep 53 0 = [3, 4, 5, 6] := by kernel_rfl
@[simp] theorem k53_1 : ch.keep 53 1 = [3, 4, 5, 6, 22] := by kernel_rfl
@[simp] theorem k53_2 : ch.keep 53 2 = [6, 7] := by kernel_rfl
@[simp] theorem k53_3 : ch.keep 53 3 = [4, 5, 6, 8] := by kernel_rfl
@[simp] theorem k53_4 : ch.keep 53 4 = [6, 8, 9] := by kernel_rfl
@[simp] theorem k53_5 : ch.keep 53 5 = [6, 7] := by kernel_rfl
noncomputable def code53 : Code := match Tryz.f53.body with | some c => c | none => .skip
theorem rs53 : Tryz.f53.results.toList = [.cell 6 25, .tmp 7] := rfl
theorem W53_of {args : List D} (ha : args.all (D.noRef 0 0) = true) (hl : args.length ≤ 41) {H : Hp} {o : Out × Hp}
    (h : alone H (fnOut Tryz.prog [.cell 6 25, .tmp 7] 0 0 (E false ⟨0, 0⟩ 53 code53 (mkF 0 args) H00)) = some o) : W 53 args H = some o :=
  W_of Tryz.func53 rfl (by kernel_rfl) rfl rfl ha (by rw [Tryz.ntmps53]; exact hl) h
/-! ### f53: sward/value.Keys -/
@[simp] theorem k54_0 : ch.keep 54 0 = [1, 2] := by kernel_rfl
@[simp] theorem k54_1 : ch.keep 54 1 = [1, 2, 9] := by kernel_rfl
@[simp] theorem k54_2 : ch.keep 54 2 = [2, 3] := by kernel_rfl
@[simp] theorem k54_3 : ch.keep 54 3 = [1, 2, 4] := by kernel_rfl
@[simp] theorem k54_4 : ch.keep 54 4 = [2, 4, 12, 13, 14] := by kernel_rfl
@[simp] theorem k54_5 : ch.keep 54 5 = [2, 4, 12, 13, 14, 15] := by kernel_rfl
@[simp] theorem k54_6 : ch.keep 54 6 = [2, 4, 6, 12, 13, 14] := by kernel_rfl
@[simp] theorem k54_7 : ch.keep 54 7 = [2, 4, 12, 13, 14] := by kernel_rfl
@[simp] theorem k54_8 : ch.keep 54 8 = [2, 4, 12, 13, 14] := by kernel_rfl
@[simp] theorem k54_9 : ch.keep 54 9 = [2, 4] := by kernel_rfl
@[simp] theorem k54_10 : ch.keep 54 10 = [2, 3] := by kernel_rfl
noncomputable def code54 : Code := match Tryz.f54.body with | some c => c | none => .skip
noncomputable def lp54_0 : Code := match code54 with | .seq _ (.seq _ (.seq _ (.seq (.seq _ (.block _ (.loop c))) _))) => c | c => c
theorem hd54_0 : ch.head 54 (firstR lp54_0) = [2, 4, 12, 13, 14] := by kernel_rfl
theorem rs54 : Tryz.f54.results.toList = [.cell 2 25, .tmp 3] := rfl
theorem W54_of {args : List D} (ha : args.all (D.noRef 0 0) = true) (hl : args.length ≤ 32) {H : Hp} {o : Out × Hp}
    (h : alone H (fnOut Tryz.prog [.cell 2 25, .tmp 3] 0 0 (E true ⟨0, 0⟩ 54 code54 (mkF 0 args) H00)) = some o) : W 54 args H = some o :=
  W_of Tryz.func54 rfl (by kernel_rfl) rfl rfl ha (by rw [Tryz.ntmps54]; exact hl) h
/-! ### f54: sward/swardref01.IsMap -/
@[simp] theorem k55_0 : ch.keep 55 0 = [1] := by kernel_rfl
@[simp] theorem k55_1 : ch.keep 55 1 = [1, 3] := by kernel_rfl
@[simp] theorem k55_2 : ch.keep 55 2 = [1, 3, 9] := by kernel_rfl
@[simp] theorem k55_3 : ch.keep 55 3 = [1, 3] := by kernel_rfl
@[simp] theorem k55_4 : ch.keep 55 4 = [1, 3, 4] := by kernel_rfl
@[simp] theorem k55_5 : ch.keep 55 5 = [1, 3, 46] := by kernel_rfl
@[simp] theorem k55_6 : ch.keep 55 6 = [2] := by kernel_rfl
@[simp] theorem k55_7 : ch.keep 55 7 = [2] := by kernel_rfl
@[simp] theorem fl55_5 : ch.fl 55 5 = [0, 0, 0, 0, 0, 0, 0, 0, 0, 0, 0, 0, 0, 1, 1, 1, 1, 1, 1, 1, 1, 1, 1, 1, 1, 1, 0, 0, 0, 0] := by kernel_rfl
noncomputable def code55 : Code := match Tryz.f55.body with | some c => c | none => .skip
noncomputable def lp55_0 : Code := match code55 with | .seq _ (.seq (.seq _ (.block _ (.loop c))) _) => c | c => c
theorem hd55_0 : ch.head 55 (firstR lp55_0) = [1, 3] := by kernel_rfl
theorem rs55 : Tryz.f55.results.toList = [.tmp 2] := rfl
theorem W55_of {args : List D} (ha : args.all (D.noRef 0 0) = true) (hl : args.length ≤ 49) {H : Hp} {o : Out × Hp}
    (h : alone H (fnOut Tryz.prog [.tmp 2] 0 0 (E false ⟨0, 0⟩ 55 code55 (mkF 0 args) H00)) = some o) : W 55 args H = some o :=
  W_of Tryz.func55 rfl (by kernel_rfl) rfl rfl ha (by rw [Tryz.ntmps55]; exact hl) h
/-! ### f55: sward/swardref01.Keys -/
@[simp] theorem k56_0 : ch.keep 56 0 = [1, 2] := by kernel_rfl
@[simp] theorem k56_1 : ch.keep 56 1 = [1, 2, 3] := by kernel_rfl
@[simp] theorem k56_2 : ch.keep 56 2 = [1, 2, 3, 4] := by kernel_rfl
@[simp] theorem k56_3 : ch.keep 56 3 = [1, 2, 3, 4, 9] := by kernel_rfl
@[simp] theorem k56_4 : ch.keep 56 4 = [1, 2, 3, 4] := by kernel_rfl
@[simp] theorem k56_5 : ch.keep 56 5 = [1, 2, 3, 4] := by kernel_rfl
@[simp] theorem k56_6 : ch.keep 56 6 = [2] := by kernel_rfl
noncomputable def code56 : Code := match Tryz.f56.body with | some c => c | none => .skip
noncomputable def lp56_0 : Code := match code56 with | .seq _ (.seq _ (.seq (.seq _ (.block _ (.loop c))) _)) => c | c => c
theorem hd56_0 : ch.head 56 (firstR lp56_0) = [1, 2, 3, 4] := by kernel_rfl
theorem rs56 : Tryz.f56.results.toList = [.cell 2 25] := rfl
theorem W56_of {args : List D} (ha : args.all (D.noRef 0 0) = true) (hl : args.length ≤ 25) {H : Hp} {o : Out × Hp}
    (h : alone H (fnOut Tryz.prog [.cell 2 25] 0 0 (E false ⟨0, 0⟩ 56 code56 (mkF 0 args) H00)) = some o) : W 56 args H = some o :=
  W_of Tryz.func56 rfl (by kernel_rfl) rfl rfl ha (by rw [Tryz.ntmps56]; exact hl) h
/-! ### f56: sward/swardref01.Look -/
@[simp] theorem k57_0 : ch.keep 57 0 = [2, 3, 4] := by kernel_rfl
@[simp] theorem k57_1 : ch.keep 57 1 = [2, 3, 4, 6] := by kernel_rfl
@[simp] theorem k57_2 : ch.keep 57 2 = [2, 3, 4, 6, 11] := by kernel_rfl
@[simp] theorem k57_3 : ch.keep 57 3 = [2, 3, 4, 6] := by kernel_rfl
@[simp] theorem k57_4 : ch.keep 57 4 = [2, 3, 4, 6, 24] := by kernel_rfl
@[simp] theorem k57_5 : ch.keep 57 5 = [4, 5] := by kernel_rfl
@[simp] theorem k57_6 : ch.keep 57 6 = [4, 5] := by kernel_rfl
@[simp] theorem fl57_4 : ch.fl 57 4 = [1, 1, 1, 1, 1, 1, 1, 1, 1, 0, 0] := by kernel_rfl
noncomputable def code57 : Code := match Tryz.f57.body with | some c => c | none => .skip
noncomputable def lp57_0 : Code := match code57 with | .seq _ (.seq (.seq _ (.block _ (.loop c))) _) => c | c => c
theorem hd57_0 : ch.head 57 (firstR lp57_0) = [2, 3, 4, 6] := by kernel_rfl
theorem rs57 : Tryz.f57.results.toList = [.cell 4 25, .tmp 5] := rfl
theorem W57_of {args : List D} (ha : args.all (D.noRef 0 0) = true) (hl : args.length ≤ 34) {H : Hp} {o : Out × Hp}
    (h : alone H (fnOut Tryz.prog [.cell 4 25, .tmp 5] 0 0 (E false ⟨0, 0⟩ 57 code57 (mkF 0 args) H00)) = some o) : W 57 args H = some o :=
  W_of Tryz.func57 rfl (by kernel_rfl) rfl rfl ha (by rw [Tryz.ntmps57]; exact hl) h
/-! ### f57: sward/swardref01.Lay -/
@[simp] theorem k58_0 : ch.keep 58 0 = [3, 4, 5, 6] := by kernel_rfl
@[simp] theorem k58_1 : ch.keep 58 1 = [3, 4, 6, 7] := by kernel_rfl
@[simp] theorem k58_2 : ch.keep 58 2 = [3, 4, 6, 7, 8] := by kernel_rfl
@[simp] theorem k58_3 : ch.keep 58 3 = [3, 4, 6, 7, 8, 17] := by kernel_rfl
@[simp] theorem k58_4 : ch.keep 58 4 = [3, 4, 6, 7, 8] := by kernel_rfl
@[simp] theorem k58_5 : ch.keep 58 5 = [3, 4, 6, 7, 8, 30] := by kernel_rfl
@[simp] theorem k58_6 : ch.keep 58 6 = [3, 4, 6, 7, 8] := by kernel_rfl
@[simp] theorem k58_7 : ch.keep 58 7 = [6] := by kernel_rfl
@[simp] theorem fl58_5 : ch.fl 58 5 = [1, 1, 1, 1, 1, 1, 1, 1, 1, 0, 0] := by kernel_rfl
noncomputable def code58 : Code := match Tryz.f58.body with | some c => c | none => .skip
noncomputable def lp58_0 : Code := match code58 with | .seq _ (.seq _ (.seq (.seq _ (.block _ (.loop c))) _)) => c | c => c
theorem hd58_0 : ch.head 58 (firstR lp58_0) = [3, 4, 6, 7, 8] := by kernel_rfl
theorem rs58 : Tryz.f58.results.toList = [.cell 6 25] := rfl
theorem W58_of {args : List D} (ha : args.all (D.noRef 0 0) = true) (hl : args.length ≤ 41) {H : Hp} {o : Out × Hp}
    (h : alone H (fnOut Tryz.prog [.cell 6 25] 0 0 (E false ⟨0, 0⟩ 58 code58 (mkF 0 args) H00)) = some o) : W 58 args H = some o :=
  W_of Tryz.func58 rfl (by kernel_rfl) rfl rfl ha (by rw [Tryz.ntmps58]; exact hl) h
/-! ### f58: sward/swardlaw01.listed -/
@[simp] theorem k59_0 : ch.keep 59 0 = [0] := by kernel_rfl
@[simp] theorem k59_1 : ch.keep 59 1 = [0, 3] := by kernel_rfl
@[simp] theorem k59_2 : ch.keep 59 2 = [0, 3, 4] := by kernel_rfl
@[simp] theorem k59_3 : ch.keep 59 3 = [0, 3, 4, 12] := by kernel_rfl
@[simp] theorem k59_4 : ch.keep 59 4 = [0, 3, 4] := by kernel_rfl
@[simp] theorem k59_5 : ch.keep 59 5 = [0, 3, 4, 20] := by kernel_rfl
@[simp] theorem k59_6 : ch.keep 59 6 = [2] := by kernel_rfl
@[simp] theorem k59_7 : ch.keep 59 7 = [0, 3, 4] := by kernel_rfl
@[simp] theorem k59_8 : ch.keep 59 8 = [2] := by kernel_rfl
noncomputable def code59 : Code := match Tryz.f59.body with | some c => c | none => .skip
noncomputable def lp59_0 : Code := match code59 with | .seq _ (.seq _ (.seq (.seq _ (.block _ (.loop c))) _)) => c | c => c
theorem hd59_0 : ch.head 59 (firstR lp59_0) = [0, 3, 4] := by kernel_rfl
theorem rs59 : Tryz.f59.results.toList = [.tmp 2] := rfl
theorem W59_of {args : List D} (ha : args.all (D.noRef 0 0) = true) (hl : args.length ≤ 35) {H : Hp} {o : Out × Hp}
    (h : alone H (fnOut Tryz.prog [.tmp 2] 0 0 (E false ⟨0, 0⟩ 59 code59 (mkF 0 args) H00)) = some o) : W 59 args H = some o :=
  W_of Tryz.func59 rfl (by kernel_rfl) rfl rfl ha (by rw [Tryz.ntmps59]; exact hl) h
/-! ### f59: sward/value.Set -/
@[simp] theorem k60_0 : ch.keep 60 0 = [0, 2] := by kernel_rfl
@[simp] theorem k60_1 : ch.keep 60 1 = [0, 2, 11] := by kernel_rfl
@[simp] theorem k60_2 : ch.keep 60 2 = [2, 3] := by kernel_rfl
@[simp] theorem k60_3 : ch.keep 60 3 = [0, 2, 4] := by kernel_rfl
@[simp] theorem k60_4 : ch.keep 60 4 = [0, 2, 4, 5] := by kernel_rfl
@[simp] theorem k60_5 : ch.keep 60 5 = [2, 4, 5, 14, 15, 16] := by kernel_rfl
@[simp] theorem k60_6 : ch.keep 60 6 = [2, 4, 5, 14, 15, 16, 17] := by kernel_rfl
@[simp] theorem k60_7 : ch.keep 60 7 = [2, 4, 5, 7, 14, 15, 16] := by kernel_rfl
@[simp] theorem k60_8 : ch.keep 60 8 = [2, 4, 5, 7, 14, 15, 16, 22] := by kernel_rfl
@[simp] theorem k60_9 : ch.keep 60 9 = [2, 3] := by kernel_rfl
@[simp] theorem k60_10 : ch.keep 60 10 = [2, 4, 5, 7, 8, 14, 15, 16] := by kernel_rfl
@[simp] theorem k60_11 : ch.keep 60 11 = [2, 4, 5, 7, 8, 14, 15, 16, 30] := by kernel_rfl
@[simp] theorem k60_12 : ch.keep 60 12 = [2, 4, 5, 7, 14, 15, 16] := by kernel_rfl
@[simp] theorem k60_13 : ch.keep 60 13 = [2, 4, 5, 14, 15, 16] := by kernel_rfl
@[simp] theorem k60_14 : ch.keep 60 14 = [2, 4, 5, 14, 15, 16] := by kernel_rfl
@[simp] theorem k60_15 : ch.keep 60 15 = [2, 5] := by kernel_rfl
@[simp] theorem k60_16 : ch.keep 60 16 = [2, 3] := by kernel_rfl
noncomputable def code60 : Code := match Tryz.f60.body with | some c => c | none => .skip
noncomputable def lp60_0 : Code := match code60 with | .seq _ (.seq _ (.seq _ (.seq _ (.seq (.seq _ (.block _ (.loop c))) _)))) => c | c => c
theorem hd60_0 : ch.head 60 (firstR lp60_0) = [2, 4, 5, 14, 15, 16] := by kernel_rfl
theorem rs60 : Tryz.f60.results.toList = [.cell 2 25, .tmp 3] := rfl
theorem W60_of {args : List D} (ha : args.all (D.noRef 0 0) = true) (hl : args.length ≤ 44) {H : Hp} {o : Out × Hp}
    (h : alone H (fnOut Tryz.prog [.cell 2 25, .tmp 3] 0 0 (E true ⟨0, 0⟩ 60 code60 (mkF 0 args) H00)) = some o) : W 60 args H = some o :=
  W_of Tryz.func60 rfl (by kernel_rfl) rfl rfl ha (by rw [Tryz.ntmps60]; exact hl) h
/-! ### f60: sward/swardlaw01.valid -/
@[simp] theorem k61_0 : ch.keep 61 0 = [0] := by kernel_rfl
@[simp] theorem k61_1 : ch.keep 61 1 = [0, 3] := by kernel_rfl
@[simp] theorem k61_2 : ch.keep 61 2 = [0, 3, 7] := by kernel_rfl
@[simp] theorem k61_3 : ch.keep 61 3 = [0, 3] := by kernel_rfl
@[simp] theorem k61_4 : ch.keep 61 4 = [0, 3, 15] := by kernel_rfl
@[simp] theorem k61_5 : ch.keep 61 5 = [2] := by kernel_rfl
@[simp] theorem k61_6 : ch.keep 61 6 = [2] := by kernel_rfl
noncomputable def code61 : Code := match Tryz.f61.body with | some c => c | none => .skip
noncomputable def lp61_0 : Code := match code61 with | .seq _ (.seq (.seq _ (.block _ (.loop c))) _) => c | c => c
theorem hd61_0 : ch.head 61 (firstR lp61_0) = [0, 3] := by kernel_rfl
theorem rs61 : Tryz.f61.results.toList = [.tmp 2] := rfl
theorem W61_of {args : List D} (ha : args.all (D.noRef 0 0) = true) (hl : args.length ≤ 16) {H : Hp} {o : Out × Hp}
    (h : alone H (fnOut Tryz.prog [.tmp 2] 0 0 (E false ⟨0, 0⟩ 61 code61 (mkF 0 args) H00)) = some o) : W 61 args H = some o :=
  W_of Tryz.func61 rfl (by kernel_rfl) rfl rfl ha (by rw [Tryz.ntmps61]; exact hl) h
/-! ### f61: sward/swardref01.Set -/
@[simp] theorem k62_0 : ch.keep 62 0 = [0, 2] := by kernel_rfl
@[simp] theorem k62_1 : ch.keep 62 1 = [0, 2, 3] := by kernel_rfl
@[simp] theorem k62_2 : ch.keep 62 2 = [0, 2, 3, 4] := by kernel_rfl
@[simp] theorem k62_3 : ch.keep 62 3 = [0, 2, 3, 4, 8] := by kernel_rfl
@[simp] theorem k62_4 : ch.keep 62 4 = [0, 2, 3, 4] := by kernel_rfl
@[simp] theorem k62_5 : ch.keep 62 5 = [0, 2, 3, 4] := by kernel_rfl
@[simp] theorem k62_6 : ch.keep 62 6 = [2] := by kernel_rfl
noncomputable def code62 : Code := match Tryz.f62.body with | some c => c | none => .skip
noncomputable def lp62_0 : Code := match code62 with | .seq _ (.seq _ (.seq (.seq _ (.block _ (.loop c))) _)) => c | c => c
theorem hd62_0 : ch.head 62 (firstR lp62_0) = [0, 2, 3, 4] := by kernel_rfl
theorem rs62 : Tryz.f62.results.toList = [.cell 2 25] := rfl
theorem W62_of {args : List D} (ha : args.all (D.noRef 0 0) = true) (hl : args.length ≤ 19) {H : Hp} {o : Out × Hp}
    (h : alone H (fnOut Tryz.prog [.cell 2 25] 0 0 (E false ⟨0, 0⟩ 62 code62 (mkF 0 args) H00)) = some o) : W 62 args H = some o :=
  W_of Tryz.func62 rfl (by kernel_rfl) rfl rfl ha (by rw [Tryz.ntmps62]; exact hl) h
/-! ### f62: sward/swardref01.Fits -/
@[simp] theorem k63_0 : ch.keep 63 0 = [1] := by kernel_rfl
@[simp] theorem k63_1 : ch.keep 63 1 = [2] := by kernel_rfl
noncomputable def code63 : Code := match Tryz.f63.body with | some c => c | none => .skip
theorem rs63 : Tryz.f63.results.toList = [.tmp 2] := rfl
theorem W63_of {args : List D} (ha : args.all (D.noRef 0 0) = true) (hl : args.length ≤ 6) {H : Hp} {o : Out × Hp}
    (h : alone H (fnOut Tryz.prog [.tmp 2] 0 0 (E false ⟨0, 0⟩ 63 code63 (mkF 0 args) H00)) = some o) : W 63 args H = some o :=
  W_of Tryz.func63 rfl (by kernel_rfl) rfl rfl ha (by rw [Tryz.ntmps63]; exact hl) h
/-! ### f63: sward/swardref01.Weigh -/
@[simp] theorem k64_0 : ch.keep 64 0 = [1, 2, 3] := by kernel_rfl
@[simp] theorem k64_1 : ch.keep 64 1 = [1, 2, 3, 13] := by kernel_rfl
@[simp] theorem k64_2 : ch.keep 64 2 = [6] := by kernel_rfl
@[simp] theorem k64_3 : ch.keep 64 3 = [1, 2, 3] := by kernel_rfl
@[simp] theorem k64_4 : ch.keep 64 4 = [1, 2, 3, 7] := by kernel_rfl
@[simp] theorem k64_5 : ch.keep 64 5 = [1, 2, 3, 7, 24] := by kernel_rfl
@[simp] theorem k64_6 : ch.keep 64 6 = [1, 2, 3, 7] := by kernel_rfl
@[simp] theorem k64_7 : ch.keep 64 7 = [1, 2, 3, 7] := by kernel_rfl
@[simp] theorem k64_8 : ch.keep 64 8 = [6] := by kernel_rfl
noncomputable def code64 : Code := match Tryz.f64.body with | some c => c | none => .skip
noncomputable def lp64_0 : Code := match code64 with | .seq _ (.seq _ (.seq _ (.seq (.seq _ (.block _ (.loop c))) _))) => c | c => c
theorem hd64_0 : ch.head 64 (firstR lp64_0) = [1, 2, 3, 7] := by kernel_rfl
theorem rs64 : Tryz.f64.results.toList = [.tmp 6] := rfl
theorem W64_of {args : List D} (ha : args.all (D.noRef 0 0) = true) (hl : args.length ≤ 37) {H : Hp} {o : Out × Hp}
    (h : alone H (fnOut Tryz.prog [.tmp 6] 0 0 (E false ⟨0, 0⟩ 64 code64 (mkF 0 args) H00)) = some o) : W 64 args H = some o :=
  W_of Tryz.func64 rfl (by kernel_rfl) rfl rfl ha (by rw [Tryz.ntmps64]; exact hl) h
/-! ### f64: sward/swardref01.brief -/
@[simp] theorem k65_0 : ch.keep 65 0 = [1] := by kernel_rfl
@[simp] theorem k65_1 : ch.keep 65 1 = [1, 3] := by kernel_rfl
@[simp] theorem k65_2 : ch.keep 65 2 = [1, 3, 8] := by kernel_rfl
@[simp] theorem k65_3 : ch.keep 65 3 = [1, 3] := by kernel_rfl
@[simp] theorem k65_4 : ch.keep 65 4 = [1, 3, 17] := by kernel_rfl
@[simp] theorem k65_5 : ch.keep 65 5 = [2] := by kernel_rfl
@[simp] theorem k65_6 : ch.keep 65 6 = [2] := by kernel_rfl
noncomputable def code65 : Code := match Tryz.f65.body with | some c => c | none => .skip
noncomputable def lp65_0 : Code := match code65 with | .seq _ (.seq (.seq _ (.block _ (.loop c))) _) => c | c => c
theorem hd65_0 : ch.head 65 (firstR lp65_0) = [1, 3] := by kernel_rfl
theorem rs65 : Tryz.f65.results.toList = [.tmp 2] := rfl
theorem W65_of {args : List D} (ha : args.all (D.noRef 0 0) = true) (hl : args.length ≤ 22) {H : Hp} {o : Out × Hp}
    (h : alone H (fnOut Tryz.prog [.tmp 2] 0 0 (E false ⟨0, 0⟩ 65 code65 (mkF 0 args) H00)) = some o) : W 65 args H = some o :=
  W_of Tryz.func65 rfl (by kernel_rfl) rfl rfl ha (by rw [Tryz.ntmps65]; exact hl) h
/-! ### f65: sward/swardlaw01.A -/
@[simp] theorem k66_0 : ch.keep 66 0 = [0] := by kernel_rfl
@[simp] theorem k66_1 : ch.keep 66 1 = [0] := by kernel_rfl
noncomputable def code66 : Code := match Tryz.f66.body with | some c => c | none => .skip
theorem rs66 : Tryz.f66.results.toList = [.cell 0 25] := rfl
theorem W66_of {args : List D} (ha : args.all (D.noRef 0 0) = true) (hl : args.length ≤ 6) {H : Hp} {o : Out × Hp}
    (h : alone H (fnOut Tryz.prog [.cell 0 25] 0 0 (E false ⟨0, 0⟩ 66 code66 (mkF 0 args) H00)) = some o) : W 66 args H = some o :=
  W_of Tryz.func66 rfl (by kernel_rfl) rfl rfl ha (by rw [Tryz.ntmps66]; exact hl) h
/-! ### f66: sward/swardlaw01.B -/
@[simp] theorem k67_0 : ch.keep 67 0 = [0] := by kernel_rfl
@[simp] theorem k67_1 : ch.keep 67 1 = [0] := by kernel_rfl
noncomputable def code67 : Code := match Tryz.f67.body with | some c => c | none => .skip
theorem rs67 : Tryz.f67.results.toList = [.cell 0 25] := rfl
theorem W67_of {args : List D} (ha : args.all (D.noRef 0 0) = true) (hl : args.length ≤ 5) {H : Hp} {o : Out × Hp}
    (h : alone H (fnOut Tryz.prog [.cell 0 25] 0 0 (E false ⟨0, 0⟩ 67 code67 (mkF 0 args) H00)) = some o) : W 67 args H = some o :=
  W_of Tryz.func67 rfl (by kernel_rfl) rfl rfl ha (by rw [Tryz.ntmps67]; exact hl) h
/-! ### f67: sward/swardlaw01.C -/
@[simp] theorem k68_0 : ch.keep 68 0 = [0] := by kernel_rfl
@[simp] theorem k68_1 : ch.keep 68 1 = [0] := by kernel_rfl
noncomputable def code68 : Code := match Tryz.f68.body with | some c => c | none => .skip
theorem rs68 : Tryz.f68.results.toList = [.cell 0 25] := rfl
theorem W68_of {args : List D} (ha : args.all (D.noRef 0 0) = true) (hl : args.length ≤ 9) {H : Hp} {o : Out × Hp}
    (h : alone H (fnOut Tryz.prog [.cell 0 25] 0 0 (E false ⟨0, 0⟩ 68 code68 (mkF 0 args) H00)) = some o) : W 68 args H = some o :=
  W_of Tryz.func68 rfl (by kernel_rfl) rfl rfl ha (by rw [Tryz.ntmps68]; exact hl) h
/-! ### f68: sward/swardref01.Int -/
@[simp] theorem k69_0 : ch.keep 69 0 = [0, 2] := by kernel_rfl
@[simp] theorem k69_1 : ch.keep 69 1 = [2] := by kernel_rfl
noncomputable def code69 : Code := match Tryz.f69.body with | some c => c | none => .skip
theorem rs69 : Tryz.f69.results.toList = [.cell 2 25] := rfl
theorem W69_of {args : List D} (ha : args.all (D.noRef 0 0) = true) (hl : args.length ≤ 5) {H : Hp} {o : Out × Hp}
    (h : alone H (fnOut Tryz.prog [.cell 2 25] 0 0 (E false ⟨0, 0⟩ 69 code69 (mkF 0 args) H00)) = some o) : W 69 args H = some o :=
  W_of Tryz.func69 rfl (by kernel_rfl) rfl rfl ha (by rw [Tryz.ntmps69]; exact hl) h
/-! ### f69: sward/swardref01.Truth -/
@[simp] theorem k70_0 : ch.keep 70 0 = [0, 2] := by kernel_rfl
@[simp] theorem k70_1 : ch.keep 70 1 = [2, 3] := by kernel_rfl
@[simp] theorem k70_2 : ch.keep 70 2 = [2] := by kernel_rfl
@[simp] theorem k70_3 : ch.keep 70 3 = [2] := by kernel_rfl
noncomputable def code70 : Code := match Tryz.f70.body with | some c => c | none => .skip
theorem rs70 : Tryz.f70.results.toList = [.cell 2 25] := rfl
theorem W70_of {args : List D} (ha : args.all (D.noRef 0 0) = true) (hl : args.length ≤ 6) {H : Hp} {o : Out × Hp}
    (h : alone H (fnOut Tryz.prog [.cell 2 25] 0 0 (E false ⟨0, 0⟩ 70 code70 (mkF 0 args) H00)) = some o) : W 70 args H = some o :=
  W_of Tryz.func70 rfl (by kernel_rfl) rfl rfl ha (by rw [Tryz.ntmps70]; exact hl) h
/-! ### f70: sward/swardref01.Text -/
@[simp] theorem k71_0 : ch.keep 71 0 = [0, 2] := by kernel_rfl
@[simp] theorem k71_1 : ch.keep 71 1 = [2] := by kernel_rfl
noncomputable def code71 : Code := match Tryz.f71.body with | some c => c | none => .skip
theorem rs71 : Tryz.f71.results.toList = [.cell 2 25] := rfl
theorem W71_of {args : List D} (ha : args.all (D.noRef 0 0) = true) (hl : args.length ≤ 5) {H : Hp} {o : Out × Hp}
    (h : alone H (fnOut Tryz.prog [.cell 2 25] 0 0 (E false ⟨0, 0⟩ 71 code71 (mkF 0 args) H00)) = some o) : W 71 args H = some o :=
  W_of Tryz.func71 rfl (by kernel_rfl) rfl rfl ha (by rw [Tryz.ntmps71]; exact hl) h
/-! ### f71: sward/value.valid -/
@[simp] theorem k72_0 : ch.keep 72 0 = [1] := by kernel_rfl
@[simp] theorem k72_1 : ch.keep 72 1 = [2] := by kernel_rfl
noncomputable def code72 : Code := match Tryz.f72.body with | some c => c | none => .skip
theorem rs72 : Tryz.f72.results.toList = [.tmp 2] := rfl
theorem W72_of {args : List D} (ha : args.all (D.noRef 0 0) = true) (hl : args.length ≤ 9) {H : Hp} {o : Out × Hp}
    (h : alone H (fnOut Tryz.prog [.tmp 2] 0 0 (E false ⟨0, 0⟩ 72 code72 (mkF 0 args) H00)) = some o) : W 72 args H = some o :=
  W_of Tryz.func72 rfl (by kernel_rfl) rfl rfl ha (by rw [Tryz.ntmps72]; exact hl) h
/-! ### f72: sward/value.in -/
@[simp] theorem k73_0 : ch.keep 73 0 = [0, 1, 2] := by kernel_rfl
@[simp] theorem k73_1 : ch.keep 73 1 = [6] := by kernel_rfl
noncomputable def code73 : Code := match Tryz.f73.body with | some c => c | none => .skip
theorem rs73 : Tryz.f73.results.toList = [.tmp 6] := rfl
theorem W73_of {args : List D} (ha : args.all (D.noRef 0 0) = true) (hl : args.length ≤ 15) {H : Hp} {o : Out × Hp}
    (h : alone H (fnOut Tryz.prog [.tmp 6] 0 0 (E false ⟨0, 0⟩ 73 code73 (mkF 0 args) H00)) = some o) : W 73 args H = some o :=
  W_of Tryz.func73 rfl (by kernel_rfl) rfl rfl ha (by rw [Tryz.ntmps73]; exact hl) h
/-! ### f73: sward/value.copied -/
@[simp] theorem k74_0 : ch.keep 74 0 = [1, 2] := by kernel_rfl
@[simp] theorem k74_1 : ch.keep 74 1 = [2] := by kernel_rfl
@[simp] theorem fl74_1 : ch.fl 74 1 = [1, 1, 1, 1, 1, 1, 1, 1, 1, 0, 0] := by kernel_rfl
noncomputable def code74 : Code := match Tryz.f74.body with | some c => c | none => .skip
theorem rs74 : Tryz.f74.results.toList = [.cell 2 25] := rfl
theorem W74_of {args : List D} (ha : args.all (D.noRef 0 0) = true) (hl : args.length ≤ 13) {H : Hp} {o : Out × Hp}
    (h : alone H (fnOut Tryz.prog [.cell 2 25] 0 0 (E false ⟨0, 0⟩ 74 code74 (mkF 0 args) H00)) = some o) : W 74 args H = some o :=
  W_of Tryz.func74 rfl (by kernel_rfl) rfl rfl ha (by rw [Tryz.ntmps74]; exact hl) h
/-! ### f74: sward/swardref01.in -/
@[simp] theorem k75_0 : ch.keep 75 0 = [0, 1, 2] := by kernel_rfl
@[simp] theorem k75_1 : ch.keep 75 1 = [6] := by kernel_rfl
noncomputable def code75 : Code := match Tryz.f75.body with | some c => c | none => .skip
theorem rs75 : Tryz.f75.results.toList = [.tmp 6] := rfl
theorem W75_of {args : List D} (ha : args.all (D.noRef 0 0) = true) (hl : args.length ≤ 15) {H : Hp} {o : Out × Hp}
    (h : alone H (fnOut Tryz.prog [.tmp 6] 0 0 (E false ⟨0, 0⟩ 75 code75 (mkF 0 args) H00)) = some o) : W 75 args H = some o :=
  W_of Tryz.func75 rfl (by kernel_rfl) rfl rfl ha (by rw [Tryz.ntmps75]; exact hl) h
/-! ### f75: sward/swardref01.shaped -/
@[simp] theorem k76_0 : ch.keep 76 0 = [1] := by kernel_rfl
@[simp] theorem k76_1 : ch.keep 76 1 = [1, 3] := by kernel_rfl
@[simp] theorem k76_2 : ch.keep 76 2 = [1, 3, 9] := by kernel_rfl
@[simp] theorem k76_3 : ch.keep 76 3 = [1, 3] := by kernel_rfl
@[simp] theorem k76_4 : ch.keep 76 4 = [1, 3, 18] := by kernel_rfl
@[simp] theorem k76_5 : ch.keep 76 5 = [2] := by kernel_rfl
@[simp] theorem k76_6 : ch.keep 76 6 = [1, 20] := by kernel_rfl
@[simp] theorem k76_7 : ch.keep 76 7 = [1, 20, 21] := by kernel_rfl
@[simp] theorem k76_8 : ch.keep 76 8 = [2] := by kernel_rfl
@[simp] theorem k76_9 : ch.keep 76 9 = [1, 20, 37] := by kernel_rfl
@[simp] theorem k76_10 : ch.keep 76 10 = [2] := by kernel_rfl
@[simp] theorem k76_11 : ch.keep 76 11 = [1, 20, 53] := by kernel_rfl
@[simp] theorem k76_12 : ch.keep 76 12 = [2] := by kernel_rfl
@[simp] theorem k76_13 : ch.keep 76 13 = [1, 20, 69] := by kernel_rfl
@[simp] theorem k76_14 : ch.keep 76 14 = [2] := by kernel_rfl
@[simp] theorem k76_15 : ch.keep 76 15 = [1, 85] := by kernel_rfl
@[simp] theorem k76_16 : ch.keep 76 16 = [1, 4] := by kernel_rfl
@[simp] theorem k76_17 : ch.keep 76 17 = [1, 4, 91] := by kernel_rfl
@[simp] theorem k76_18 : ch.keep 76 18 = [1, 4] := by kernel_rfl
@[simp] theorem k76_19 : ch.keep 76 19 = [1, 4, 106] := by kernel_rfl
@[simp] theorem k76_20 : ch.keep 76 20 = [2] := by kernel_rfl
@[simp] theorem k76_21 : ch.keep 76 21 = [2] := by kernel_rfl
@[simp] theorem k76_22 : ch.keep 76 22 = [2] := by kernel_rfl
@[simp] theorem fl76_19 : ch.fl 76 19 = [1, 1, 1, 1, 1, 1, 1, 1, 1, 1, 1, 0, 0] := by kernel_rfl
noncomputable def code76 : Code := match Tryz.f76.body with | some c => c | none => .skip
noncomputable def lp76_0 : Code := match code76 with | .seq _ (.seq (.seq _ (.block _ (.loop c))) _) => c | c => c
theorem hd76_0 : ch.head 76 (firstR lp76_0) = [1, 3] := by kernel_rfl
noncomputable def lp76_1 : Code := match code76 with | .seq _ (.seq _ (.seq (.seq _ (.block _ (.seq _ (.cond _ _ (.seq _ (.cond _ _ (.seq _ (.cond _ _ (.seq _ (.cond _ _ (.seq _ (.cond _ (.seq (.seq _ (.block _ (.loop c))) _) _)))))))))))) _)) => c | c => c
theorem hd76_1 : ch.head 76 (firstR lp76_1) = [1, 4] := by kernel_rfl
theorem rs76 : Tryz.f76.results.toList = [.tmp 2] := rfl
theorem W76_of {args : List D} (ha : args.all (D.noRef 0 0) = true) (hl : args.length ≤ 115) {H : Hp} {o : Out × Hp}
    (h : alone H (fnOut Tryz.prog [.tmp 2] 0 0 (E false ⟨0, 0⟩ 76 code76 (mkF 0 args) H00)) = some o) : W 76 args H = some o :=
  W_of Tryz.func76 rfl (by kernel_rfl) rfl rfl ha (by rw [Tryz.ntmps76]; exact hl) h
/-! ### f76: sward/value.weigh -/
@[simp] theorem k77_0 : ch.keep 77 0 = [1, 2, 3, 6] := by kernel_rfl
@[simp] theorem k77_1 : ch.keep 77 1 = [1, 2, 3, 6, 7] := by kernel_rfl
@[simp] theorem k77_2 : ch.keep 77 2 = [1, 2, 3, 6, 7, 17] := by kernel_rfl
@[simp] theorem k77_3 : ch.keep 77 3 = [6] := by kernel_rfl
@[simp] theorem k77_4 : ch.keep 77 4 = [1, 2, 6, 7, 24, 25, 26] := by kernel_rfl
@[simp] theorem k77_5 : ch.keep 77 5 = [1, 2, 6, 7, 24, 25, 26, 27] := by kernel_rfl
@[simp] theorem k77_6 : ch.keep 77 6 = [1, 2, 6, 7, 9, 24, 25, 26] := by kernel_rfl
@[simp] theorem k77_7 : ch.keep 77 7 = [1, 2, 6, 7, 10, 24, 25, 26] := by kernel_rfl
@[simp] theorem k77_8 : ch.keep 77 8 = [1, 2, 6, 7, 24, 25, 26] := by kernel_rfl
@[simp] theorem k77_9 : ch.keep 77 9 = [1, 2, 6, 7, 24, 25, 26, 52] := by kernel_rfl
@[simp] theorem k77_10 : ch.keep 77 10 = [6] := by kernel_rfl
@[simp] theorem k77_11 : ch.keep 77 11 = [1, 2, 6, 7, 24, 25, 26] := by kernel_rfl
@[simp] theorem k77_12 : ch.keep 77 12 = [6] := by kernel_rfl
noncomputable def code77 : Code := match Tryz.f77.body with | some c => c | none => .skip
noncomputable def lp77_0 : Code := match code77 with | .seq _ (.seq _ (.seq _ (.seq (.seq _ (.block _ (.loop c))) _))) => c | c => c
theorem hd77_0 : ch.head 77 (firstR lp77_0) = [1, 2, 6, 7, 24, 25, 26] := by kernel_rfl
theorem rs77 : Tryz.f77.results.toList = [.cell 6 82] := rfl
theorem W77_of {args : List D} (ha : args.all (D.noRef 0 0) = true) (hl : args.length ≤ 65) {H : Hp} {o : Out × Hp}
    (h : alone H (fnOut Tryz.prog [.cell 6 82] 0 0 (E false ⟨0, 0⟩ 77 code77 (mkF 0 args) H00)) = some o) : W 77 args H = some o :=
  W_of Tryz.func77 rfl (by kernel_rfl) rfl rfl ha (by rw [Tryz.ntmps77]; exact hl) h
/-! ### f77: sward/swardref01.Lists -/
@[simp] theorem k78_0 : ch.keep 78 0 = [0, 1] := by kernel_rfl
@[simp] theorem k78_1 : ch.keep 78 1 = [0, 1, 10] := by kernel_rfl
@[simp] theorem k78_2 : ch.keep 78 2 = [4] := by kernel_rfl
@[simp] theorem k78_3 : ch.keep 78 3 = [0, 1, 5] := by kernel_rfl
@[simp] theorem k78_4 : ch.keep 78 4 = [0, 1, 5, 14] := by kernel_rfl
@[simp] theorem k78_5 : ch.keep 78 5 = [0, 1, 5] := by kernel_rfl
@[simp] theorem k78_6 : ch.keep 78 6 = [0, 1, 5, 26] := by kernel_rfl
@[simp] theorem k78_7 : ch.keep 78 7 = [4] := by kernel_rfl
@[simp] theorem k78_8 : ch.keep 78 8 = [4] := by kernel_rfl
@[simp] theorem fl78_6 : ch.fl 78 6 = [1, 1, 1, 1, 1, 1, 1, 1, 0, 0] := by kernel_rfl
noncomputable def code78 : Code := match Tryz.f78.body with | some c => c | none => .skip
noncomputable def lp78_0 : Code := match code78 with | .seq _ (.seq _ (.seq (.seq _ (.block _ (.loop c))) _)) => c | c => c
theorem hd78_0 : ch.head 78 (firstR lp78_0) = [0, 1, 5] := by kernel_rfl
theorem rs78 : Tryz.f78.results.toList = [.tmp 4] := rfl
theorem W78_of {args : List D} (ha : args.all (D.noRef 0 0) = true) (hl : args.length ≤ 27) {H : Hp} {o : Out × Hp}
    (h : alone H (fnOut Tryz.prog [.tmp 4] 0 0 (E false ⟨0, 0⟩ 78 code78 (mkF 0 args) H00)) = some o) : W 78 args H = some o :=
  W_of Tryz.func78 rfl (by kernel_rfl) rfl rfl ha (by rw [Tryz.ntmps78]; exact hl) h
/-! ### f79: sward/value.Read$1 -/
@[simp] theorem k80_0 : ch.keep 80 0 = [] := by kernel_rfl
noncomputable def code80 : Code := match Tryz.f80.body with | some c => c | none => .skip
theorem rs80 : Tryz.f80.results.toList = [] := rfl
theorem W80_of {args : List D} (ha : args.all (D.noRef 0 0) = true) (hl : args.length ≤ 4) {H : Hp} {o : Out × Hp}
    (h : alone H (fnOut Tryz.prog [] 0 0 (E false ⟨0, 0⟩ 80 code80 (mkF 0 args) H00)) = some o) : W 80 args H = some o :=
  W_of Tryz.func80 rfl (by kernel_rfl) rfl rfl ha (by rw [Tryz.ntmps80]; exact hl) h
/-! ### f80: (*sward/value.reader).value -/
@[simp] theorem k81_0 : ch.keep 81 0 = [0, 1, 4] := by kernel_rfl
@[simp] theorem k81_1 : ch.keep 81 1 = [0, 1, 4] := by kernel_rfl
@[simp] theorem k81_2 : ch.keep 81 2 = [0, 1, 4, 11] := by kernel_rfl
@[simp] theorem k81_3 : ch.keep 81 3 = [4] := by kernel_rfl
@[simp] theorem k81_4 : ch.keep 81 4 = [0, 1, 4, 15] := by kernel_rfl
@[simp] theorem k81_5 : ch.keep 81 5 = [4] := by kernel_rfl
@[simp] theorem k81_6 : ch.keep 81 6 = [0, 1, 4, 19] := by kernel_rfl
@[simp] theorem k81_7 : ch.keep 81 7 = [0, 4, 5] := by kernel_rfl
@[simp] theorem k81_8 : ch.keep 81 8 = [0, 4, 5, 6] := by kernel_rfl
@[simp] theorem k81_9 : ch.keep 81 9 = [4, 5] := by kernel_rfl
@[simp] theorem k81_10 : ch.keep 81 10 = [4] := by kernel_rfl
@[simp] theorem k81_11 : ch.keep 81 11 = [0, 1, 4, 31] := by kernel_rfl
@[simp] theorem k81_12 : ch.keep 81 12 = [4] := by kernel_rfl
@[simp] theorem k81_13 : ch.keep 81 13 = [0, 1, 4, 38] := by kernel_rfl
@[simp] theorem k81_14 : ch.keep 81 14 = [4] := by kernel_rfl
@[simp] theorem k81_15 : ch.keep 81 15 = [4] := by kernel_rfl
noncomputable def code81 : Code := match Tryz.f81.body with | some c => c | none => .skip
theorem rs81 : Tryz.f81.results.toList = [.cell 4 25] := rfl
theorem W81_ofH {args : List D} {H : Hp} (hp : ¬ (ch.pure 81 = true ∧ args.all (D.noRef 0 0) = true)) (hl : args.length ≤ 47) {o : Out × Hp}
    (h : fnOut Tryz.prog [.cell 4 25] H.B.length H.A.length (E false ⟨0, 0⟩ 81 code81 (mkF 0 args) H) = some o) : W 81 args H = some o :=
  W_ofH Tryz.func81 rfl (by kernel_rfl) rfl hp (by rw [Tryz.ntmps81]; exact hl) h
/-! ### f81: sward/value.text -/
@[simp] theorem k82_0 : ch.keep 82 0 = [1] := by kernel_rfl
@[simp] theorem k82_1 : ch.keep 82 1 = [1, 8] := by kernel_rfl
@[simp] theorem k82_2 : ch.keep 82 2 = [1, 8, 10, 11] := by kernel_rfl
@[simp] theorem k82_3 : ch.keep 82 3 = [3] := by kernel_rfl
@[simp] theorem k82_4 : ch.keep 82 4 = [2] := by kernel_rfl
@[simp] theorem k82_5 : ch.keep 82 5 = [1, 8, 16, 17] := by kernel_rfl
@[simp] theorem k82_6 : ch.keep 82 6 = [4] := by kernel_rfl
@[simp] theorem k82_7 : ch.keep 82 7 = [2] := by kernel_rfl
@[simp] theorem k82_8 : ch.keep 82 8 = [1, 8, 23, 24] := by kernel_rfl
@[simp] theorem k82_9 : ch.keep 82 9 = [5] := by kernel_rfl
@[simp] theorem k82_10 : ch.keep 82 10 = [2] := by kernel_rfl
@[simp] theorem k82_11 : ch.keep 82 11 = [1, 30, 31] := by kernel_rfl
@[simp] theorem k82_12 : ch.keep 82 12 = [6] := by kernel_rfl
@[simp] theorem k82_13 : ch.keep 82 13 = [2] := by kernel_rfl
@[simp] theorem k82_14 : ch.keep 82 14 = [2] := by kernel_rfl
noncomputable def code82 : Code := match Tryz.f82.body with | some c => c | none => .skip
theorem rs82 : Tryz.f82.results.toList = [.tmp 2] := rfl
theorem W82_of {args : List D} (ha : args.all (D.noRef 0 0) = true) (hl : args.length ≤ 42) {H : Hp} {o : Out × Hp}
    (h : alone H (fnOut Tryz.prog [.tmp 2] 0 0 (E false ⟨0, 0⟩ 82 code82 (mkF 0 args) H00)) = some o) : W 82 args H = some o :=
  W_of Tryz.func82 rfl (by kernel_rfl) rfl rfl ha (by rw [Tryz.ntmps82]; exact hl) h
/-! ### f82: sward/swardref01.read -/
@[simp] theorem k83_0 : ch.keep 83 0 = [0, 1, 2, 3, 8] := by kernel_rfl
@[simp] theorem k83_1 : ch.keep 83 1 = [0, 1, 2, 3, 8, 11] := by kernel_rfl
@[simp] theorem k83_2 : ch.keep 83 2 = [0, 1, 2, 3, 8, 11, 34] := by kernel_rfl
@[simp] theorem k83_3 : ch.keep 83 3 = [8, 9, 10] := by kernel_rfl
@[simp] theorem k83_4 : ch.keep 83 4 = [0, 1, 2, 3, 8, 11] := by kernel_rfl
@[simp] theorem k83_5 : ch.keep 83 5 = [0, 1, 2, 3, 8, 11, 41] := by kernel_rfl
@[simp] theorem k83_6 : ch.keep 83 6 = [0, 1, 3, 8, 11, 12] := by kernel_rfl
@[simp] theorem k83_7 : ch.keep 83 7 = [0, 1, 3, 8, 11, 12, 57] := by kernel_rfl
@[simp] theorem k83_8 : ch.keep 83 8 = [0, 1, 3, 8, 11, 12] := by kernel_rfl
@[simp] theorem k83_9 : ch.keep 83 9 = [0, 1, 3, 8, 11, 12, 66] := by kernel_rfl
@[simp] theorem k83_10 : ch.keep 83 10 = [8, 9, 10] := by kernel_rfl
@[simp] theorem k83_11 : ch.keep 83 11 = [8, 9, 10] := by kernel_rfl
@[simp] theorem k83_12 : ch.keep 83 12 = [0, 1, 2, 3, 8, 11, 91] := by kernel_rfl
@[simp] theorem k83_13 : ch.keep 83 13 = [0, 1, 3, 8, 11, 13] := by kernel_rfl
@[simp] theorem k83_14 : ch.keep 83 14 = [1, 3, 8, 11, 13, 14, 15] := by kernel_rfl
@[simp] theorem k83_15 : ch.keep 83 15 = [1, 3, 8, 11, 13, 14, 106] := by kernel_rfl
@[simp] theorem k83_16 : ch.keep 83 16 = [8, 9, 10] := by kernel_rfl
@[simp] theorem k83_17 : ch.keep 83 17 = [8, 9, 10] := by kernel_rfl
@[simp] theorem k83_18 : ch.keep 83 18 = [0, 1, 2, 3, 8, 11, 16] := by kernel_rfl
@[simp] theorem k83_19 : ch.keep 83 19 = [0, 1, 2, 3, 8, 11, 16, 17] := by kernel_rfl
@[simp] theorem k83_20 : ch.keep 83 20 = [0, 1, 2, 3, 8, 11, 16, 17, 117] := by kernel_rfl
@[simp] theorem k83_21 : ch.keep 83 21 = [0, 1, 2, 3, 8, 11, 16, 17] := by kernel_rfl
@[simp] theorem k83_22 : ch.keep 83 22 = [0, 2, 3, 8, 11, 16, 17, 18] := by kernel_rfl
@[simp] theorem k83_23 : ch.keep 83 23 = [0, 2, 3, 8, 11, 16, 17, 18, 131] := by kernel_rfl
@[simp] theorem k83_24 : ch.keep 83 24 = [0, 2, 3, 8, 11, 16, 17, 18, 135] := by kernel_rfl
@[simp] theorem k83_25 : ch.keep 83 25 = [0, 2, 3, 8, 11, 16, 17, 18, 153] := by kernel_rfl
@[simp] theorem k83_26 : ch.keep 83 26 = [8, 9, 10] := by kernel_rfl
@[simp] theorem k83_27 : ch.keep 83 27 = [0, 2, 3, 8, 11, 16, 17, 18] := by kernel_rfl
@[simp] theorem k83_28 : ch.keep 83 28 = [0, 2, 8, 11, 16, 17, 19, 20, 21] := by kernel_rfl
@[simp] theorem k83_29 : ch.keep 83 29 = [0, 2, 8, 11, 16, 17, 19, 20, 21, 168] := by kernel_rfl
@[simp] theorem k83_30 : ch.keep 83 30 = [8, 9, 10] := by kernel_rfl
@[simp] theorem k83_31 : ch.keep 83 31 = [0, 2, 8, 11, 16, 17, 20, 21] := by kernel_rfl
@[simp] theorem k83_32 : ch.keep 83 32 = [0, 2, 3, 8, 11, 16, 17, 18] := by kernel_rfl
@[simp] theorem k83_33 : ch.keep 83 33 = [3, 8, 11, 16, 18, 181] := by kernel_rfl
@[simp] theorem k83_34 : ch.keep 83 34 = [8, 9, 10] := by kernel_rfl
@[simp] theorem k83_35 : ch.keep 83 35 = [8, 9, 10] := by kernel_rfl
noncomputable def code83 : Code := match Tryz.f83.body with | some c => c | none => .skip
noncomputable def lp83_0 : Code := match code83 with | .seq _ (.seq _ (.seq _ (.seq _ (.seq (.seq _ (.cond _ (.seq _ (.seq (.block _ (.loop c)) _)) _)) _)))) => c | c => c
theorem hd83_0 : ch.head 83 (firstR lp83_0) = [0, 1, 3, 8, 11, 12] := by kernel_rfl
noncomputable def lp83_1 : Code := match code83 with | .seq _ (.seq _ (.seq _ (.seq _ (.seq _ (.seq _ (.seq _ (.seq _ (.seq _ (.seq _ (.seq (.block _ (.loop c)) _)))))))))) => c | c => c
theorem hd83_1 : ch.head 83 (firstR lp83_1) = [0, 2, 3, 8, 11, 16, 17, 18] := by kernel_rfl
theorem rs83 : Tryz.f83.results.toList = [.cell 8 25, .tmp 9, .tmp 10] := rfl
theorem W83_of {args : List D} (ha : args.all (D.noRef 0 0) = true) (hl : args.length ≤ 187) {H : Hp} {o : Out × Hp}
    (h : alone H (fnOut Tryz.prog [.cell 8 25, .tmp 9, .tmp 10] 0 0 (E false ⟨0, 0⟩ 83 code83 (mkF 0 args) H00)) = some o) : W 83 args H = some o :=
  W_of Tryz.func83 rfl (by kernel_rfl) rfl rfl ha (by rw [Tryz.ntmps83]; exact hl) h
/-! ### f83: sward/value.compare -/
@[simp] theorem k84_0 : ch.keep 84 0 = [2, 3] := by kernel_rfl
@[simp] theorem k84_1 : ch.keep 84 1 = [2, 3, 5] := by kernel_rfl
@[simp] theorem k84_2 : ch.keep 84 2 = [2, 3, 5, 13] := by kernel_rfl
@[simp] theorem k84_3 : ch.keep 84 3 = [4] := by kernel_rfl
@[simp] theorem k84_4 : ch.keep 84 4 = [2, 3, 6] := by kernel_rfl
@[simp] theorem k84_5 : ch.keep 84 5 = [2, 3, 6, 23] := by kernel_rfl
@[simp] theorem k84_6 : ch.keep 84 6 = [4] := by kernel_rfl
@[simp] theorem k84_7 : ch.keep 84 7 = [4] := by kernel_rfl
@[simp] theorem fl84_7 : ch.fl 84 7 = [1, 1, 1, 1, 1, 1, 1, 0, 0] := by kernel_rfl
noncomputable def code84 : Code := match Tryz.f84.body with | some c => c | none => .skip
theorem rs84 : Tryz.f84.results.toList = [.tmp 4] := rfl
theorem W84_of {args : List D} (ha : args.all (D.noRef 0 0) = true) (hl : args.length ≤ 32) {H : Hp} {o : Out × Hp}
    (h : alone H (fnOut Tryz.prog [.tmp 4] 0 0 (E false ⟨0, 0⟩ 84 code84 (mkF 0 args) H00)) = some o) : W 84 args H = some o :=
  W_of Tryz.func84 rfl (by kernel_rfl) rfl rfl ha (by rw [Tryz.ntmps84]; exact hl) h
/-! ### f84: sward/swardref01.order -/
@[simp] theorem k85_0 : ch.keep 85 0 = [0, 1] := by kernel_rfl
@[simp] theorem k85_1 : ch.keep 85 1 = [0, 1, 7] := by kernel_rfl
@[simp] theorem k85_2 : ch.keep 85 2 = [4] := by kernel_rfl
@[simp] theorem k85_3 : ch.keep 85 3 = [10] := by kernel_rfl
@[simp] theorem k85_4 : ch.keep 85 4 = [4] := by kernel_rfl
@[simp] theorem k85_5 : ch.keep 85 5 = [4] := by kernel_rfl
noncomputable def code85 : Code := match Tryz.f85.body with | some c => c | none => .skip
theorem rs85 : Tryz.f85.results.toList = [.tmp 4] := rfl
theorem W85_of {args : List D} (ha : args.all (D.noRef 0 0) = true) (hl : args.length ≤ 11) {H : Hp} {o : Out × Hp}
    (h : alone H (fnOut Tryz.prog [.tmp 4] 0 0 (E false ⟨0, 0⟩ 85 code85 (mkF 0 args) H00)) = some o) : W 85 args H = some o :=
  W_of Tryz.func85 rfl (by kernel_rfl) rfl rfl ha (by rw [Tryz.ntmps85]; exact hl) h
/-! ### f85: sward/value.isSet -/
@[simp] theorem k86_0 : ch.keep 86 0 = [1] := by kernel_rfl
@[simp] theorem k86_1 : ch.keep 86 1 = [2] := by kernel_rfl
noncomputable def code86 : Code := match Tryz.f86.body with | some c => c | none => .skip
theorem rs86 : Tryz.f86.results.toList = [.tmp 2] := rfl
theorem W86_of {args : List D} (ha : args.all (D.noRef 0 0) = true) (hl : args.length ≤ 10) {H : Hp} {o : Out × Hp}
    (h : alone H (fnOut Tryz.prog [.tmp 2] 0 0 (E false ⟨0, 0⟩ 86 code86 (mkF 0 args) H00)) = some o) : W 86 args H = some o :=
  W_of Tryz.func86 rfl (by kernel_rfl) rfl rfl ha (by rw [Tryz.ntmps86]; exact hl) h
/-! ### f86: sward/value.made -/
@[simp] theorem k87_0 : ch.keep 87 0 = [0, 2] := by kernel_rfl
@[simp] theorem k87_1 : ch.keep 87 1 = [2, 4] := by kernel_rfl
@[simp] theorem k87_2 : ch.keep 87 2 = [2, 4, 10] := by kernel_rfl
@[simp] theorem k87_3 : ch.keep 87 3 = [2, 3] := by kernel_rfl
@[simp] theorem k87_4 : ch.keep 87 4 = [2, 3] := by kernel_rfl
noncomputable def code87 : Code := match Tryz.f87.body with | some c => c | none => .skip
theorem rs87 : Tryz.f87.results.toList = [.cell 2 25, .tmp 3] := rfl
theorem W87_of {args : List D} (ha : args.all (D.noRef 0 0) = true) (hl : args.length ≤ 13) {H : Hp} {o : Out × Hp}
    (h : alone H (fnOut Tryz.prog [.cell 2 25, .tmp 3] 0 0 (E false ⟨0, 0⟩ 87 code87 (mkF 0 args) H00)) = some o) : W 87 args H = some o :=
  W_of Tryz.func87 rfl (by kernel_rfl) rfl rfl ha (by rw [Tryz.ntmps87]; exact hl) h
/-! ### f87: sward/value.joined -/
@[simp] theorem k88_0 : ch.keep 88 0 = [0] := by kernel_rfl
@[simp] theorem k88_1 : ch.keep 88 1 = [0, 3] := by kernel_rfl
@[simp] theorem k88_2 : ch.keep 88 2 = [3, 6, 7, 8] := by kernel_rfl
@[simp] theorem k88_3 : ch.keep 88 3 = [3, 6, 7, 8, 9] := by kernel_rfl
@[simp] theorem k88_4 : ch.keep 88 4 = [3, 5, 6, 7, 8] := by kernel_rfl
@[simp] theorem k88_5 : ch.keep 88 5 = [3, 6, 7, 8] := by kernel_rfl
@[simp] theorem k88_6 : ch.keep 88 6 = [3, 6, 7, 8] := by kernel_rfl
@[simp] theorem k88_7 : ch.keep 88 7 = [2] := by kernel_rfl
noncomputable def code88 : Code := match Tryz.f88.body with | some c => c | none => .skip
noncomputable def lp88_0 : Code := match code88 with | .seq _ (.seq _ (.seq (.seq _ (.block _ (.loop c))) _)) => c | c => c
theorem hd88_0 : ch.head 88 (firstR lp88_0) = [3, 6, 7, 8] := by kernel_rfl
theorem rs88 : Tryz.f88.results.toList = [.tmp 2] := rfl
theorem W88_of {args : List D} (ha : args.all (D.noRef 0 0) = true) (hl : args.length ≤ 17) {H : Hp} {o : Out × Hp}
    (h : alone H (fnOut Tryz.prog [.tmp 2] 0 0 (E false ⟨0, 0⟩ 88 code88 (mkF 0 args) H00)) = some o) : W 88 args H = some o :=
  W_of Tryz.func88 rfl (by kernel_rfl) rfl rfl ha (by rw [Tryz.ntmps88]; exact hl) h
/-! ### f88: slices.Collect[sward/api.Value] -/
@[simp] theorem k89_0 : ch.keep 89 0 = [0] := by kernel_rfl
@[simp] theorem k89_1 : ch.keep 89 1 = [2] := by kernel_rfl
noncomputable def code89 : Code := match Tryz.f89.body with | some c => c | none => .skip
theorem rs89 : Tryz.f89.results.toList = [.tmp 2] := rfl
theorem W89_of {args : List D} (ha : args.all (D.noRef 0 0) = true) (hl : args.length ≤ 5) {H : Hp} {o : Out × Hp}
    (h : alone H (fnOut Tryz.prog [.tmp 2] 0 0 (E false ⟨0, 0⟩ 89 code89 (mkF 0 args) H00)) = some o) : W 89 args H = some o :=
  W_of Tryz.func89 rfl (by kernel_rfl) rfl rfl ha (by rw [Tryz.ntmps89]; exact hl) h
/-! ### f90: sward/value.has -/
@[simp] theorem k91_0 : ch.keep 91 0 = [0, 3] := by kernel_rfl
@[simp] theorem k91_1 : ch.keep 91 1 = [6] := by kernel_rfl
@[simp] theorem k91_2 : ch.keep 91 2 = [4] := by kernel_rfl
noncomputable def code91 : Code := match Tryz.f91.body with | some c => c | none => .skip
theorem rs91 : Tryz.f91.results.toList = [.tmp 4] := rfl
theorem W91_of {args : List D} (ha : args.all (D.noRef 0 0) = true) (hl : args.length ≤ 14) {H : Hp} {o : Out × Hp}
    (h : alone H (fnOut Tryz.prog [.tmp 4] 0 0 (E false ⟨0, 0⟩ 91 code91 (mkF 0 args) H00)) = some o) : W 91 args H = some o :=
  W_of Tryz.func91 rfl (by kernel_rfl) rfl rfl ha (by rw [Tryz.ntmps91]; exact hl) h
/-! ### f91: sward/swardref01.kept -/
@[simp] theorem k92_0 : ch.keep 92 0 = [2, 3, 4, 6] := by kernel_rfl
@[simp] theorem k92_1 : ch.keep 92 1 = [2, 3, 4, 6, 7] := by kernel_rfl
@[simp] theorem k92_2 : ch.keep 92 2 = [2, 3, 4, 6, 7, 8] := by kernel_rfl
@[simp] theorem k92_3 : ch.keep 92 3 = [2, 3, 4, 6, 7, 8, 13] := by kernel_rfl
@[simp] theorem k92_4 : ch.keep 92 4 = [2, 3, 4, 6, 7, 8] := by kernel_rfl
@[simp] theorem k92_5 : ch.keep 92 5 = [2, 3, 4, 6, 7, 8, 24] := by kernel_rfl
@[simp] theorem k92_6 : ch.keep 92 6 = [2, 3, 4, 6, 7, 8] := by kernel_rfl
@[simp] theorem k92_7 : ch.keep 92 7 = [6] := by kernel_rfl
@[simp] theorem fl92_5 : ch.fl 92 5 = [1, 1, 1, 1, 1, 1, 1, 1, 0] := by kernel_rfl
noncomputable def code92 : Code := match Tryz.f92.body with | some c => c | none => .skip
noncomputable def lp92_0 : Code := match code92 with | .seq _ (.seq _ (.seq (.seq _ (.block _ (.loop c))) _)) => c | c => c
theorem hd92_0 : ch.head 92 (firstR lp92_0) = [2, 3, 4, 6, 7, 8] := by kernel_rfl
theorem rs92 : Tryz.f92.results.toList = [.cell 6 25] := rfl
theorem W92_of {args : List D} (ha : args.all (D.noRef 0 0) = true) (hl : args.length ≤ 35) {H : Hp} {o : Out × Hp}
    (h : alone H (fnOut Tryz.prog [.cell 6 25] 0 0 (E false ⟨0, 0⟩ 92 code92 (mkF 0 args) H00)) = some o) : W 92 args H = some o :=
  W_of Tryz.func92 rfl (by kernel_rfl) rfl rfl ha (by rw [Tryz.ntmps92]; exact hl) h
/-! ### f92: sward/value.packed -/
@[simp] theorem k93_0 : ch.keep 93 0 = [1] := by kernel_rfl
@[simp] theorem k93_1 : ch.keep 93 1 = [1, 3] := by kernel_rfl
@[simp] theorem k93_2 : ch.keep 93 2 = [1, 3, 15] := by kernel_rfl
@[simp] theorem k93_3 : ch.keep 93 3 = [1, 3, 15, 17, 18] := by kernel_rfl
@[simp] theorem k93_4 : ch.keep 93 4 = [3, 4] := by kernel_rfl
@[simp] theorem k93_5 : ch.keep 93 5 = [3, 5] := by kernel_rfl
@[simp] theorem k93_6 : ch.keep 93 6 = [2] := by kernel_rfl
@[simp] theorem k93_7 : ch.keep 93 7 = [1, 3, 15, 38, 39] := by kernel_rfl
@[simp] theorem k93_8 : ch.keep 93 8 = [3, 6] := by kernel_rfl
@[simp] theorem k93_9 : ch.keep 93 9 = [2] := by kernel_rfl
@[simp] theorem k93_10 : ch.keep 93 10 = [1, 3, 47, 48] := by kernel_rfl
@[simp] theorem k93_11 : ch.keep 93 11 = [3, 7] := by kernel_rfl
@[simp] theorem k93_12 : ch.keep 93 12 = [2] := by kernel_rfl
@[simp] theorem k93_13 : ch.keep 93 13 = [1, 3] := by kernel_rfl
@[simp] theorem k93_14 : ch.keep 93 14 = [3, 67, 68, 69] := by kernel_rfl
@[simp] theorem k93_15 : ch.keep 93 15 = [3, 67, 68, 69, 70] := by kernel_rfl
@[simp] theorem k93_16 : ch.keep 93 16 = [3, 9, 67, 68, 69] := by kernel_rfl
@[simp] theorem k93_17 : ch.keep 93 17 = [3, 67, 68, 69] := by kernel_rfl
@[simp] theorem k93_18 : ch.keep 93 18 = [3, 67, 68, 69] := by kernel_rfl
@[simp] theorem k93_19 : ch.keep 93 19 = [2] := by kernel_rfl
@[simp] theorem fl93_12 : ch.fl 93 12 = [1, 1, 1, 1, 1, 1, 3, 2, 2, 0, 0] := by kernel_rfl
noncomputable def code93 : Code := match Tryz.f93.body with | some c => c | none => .skip
noncomputable def lp93_0 : Code := match code93 with | .seq _ (.seq _ (.seq _ (.seq _ (.seq (.seq _ (.block _ (.loop c))) _)))) => c | c => c
theorem hd93_0 : ch.head 93 (firstR lp93_0) = [3, 67, 68, 69] := by kernel_rfl
theorem rs93 : Tryz.f93.results.toList = [.tmp 2] := rfl
theorem W93_of {args : List D} (ha : args.all (D.noRef 0 0) = true) (hl : args.length ≤ 79) {H : Hp} {o : Out × Hp}
    (h : alone H (fnOut Tryz.prog [.tmp 2] 0 0 (E false ⟨0, 0⟩ 93 code93 (mkF 0 args) H00)) = some o) : W 93 args H = some o :=
  W_of Tryz.func93 rfl (by kernel_rfl) rfl rfl ha (by rw [Tryz.ntmps93]; exact hl) h
/-! ### f93: sward/value.Load$1 -/
@[simp] theorem k94_0 : ch.keep 94 0 = [] := by kernel_rfl
noncomputable def code94 : Code := match Tryz.f94.body with | some c => c | none => .skip
theorem rs94 : Tryz.f94.results.toList = [] := rfl
theorem W94_of {args : List D} (ha : args.all (D.noRef 0 0) = true) (hl : args.length ≤ 4) {H : Hp} {o : Out × Hp}
    (h : alone H (fnOut Tryz.prog [] 0 0 (E false ⟨0, 0⟩ 94 code94 (mkF 0 args) H00)) = some o) : W 94 args H = some o :=
  W_of Tryz.func94 rfl (by kernel_rfl) rfl rfl ha (by rw [Tryz.ntmps94]; exact hl) h
/-! ### f94: (*sward/value.reader).unpacked -/
@[simp] theorem k95_0 : ch.keep 95 0 = [0, 1, 4] := by kernel_rfl
@[simp] theorem k95_1 : ch.keep 95 1 = [0, 1, 4] := by kernel_rfl
@[simp] theorem k95_2 : ch.keep 95 2 = [0, 1, 4, 5] := by kernel_rfl
@[simp] theorem k95_3 : ch.keep 95 3 = [0, 1, 4, 5, 17] := by kernel_rfl
@[simp] theorem k95_4 : ch.keep 95 4 = [4, 5] := by kernel_rfl
@[simp] theorem k95_5 : ch.keep 95 5 = [0, 1, 4, 5, 17, 20] := by kernel_rfl
@[simp] theorem k95_6 : ch.keep 95 6 = [0, 4, 5, 22] := by kernel_rfl
@[simp] theorem k95_7 : ch.keep 95 7 = [0, 4, 5, 22, 23] := by kernel_rfl
@[simp] theorem k95_8 : ch.keep 95 8 = [0, 4, 5, 6, 22] := by kernel_rfl
@[simp] theorem k95_9 : ch.keep 95 9 = [0, 4, 5, 22] := by kernel_rfl
@[simp] theorem k95_10 : ch.keep 95 10 = [0, 4, 5, 22] := by kernel_rfl
@[simp] theorem k95_11 : ch.keep 95 11 = [4, 5] := by kernel_rfl
@[simp] theorem k95_12 : ch.keep 95 12 = [0, 1, 4, 5, 17, 37] := by kernel_rfl
@[simp] theorem k95_13 : ch.keep 95 13 = [4, 5] := by kernel_rfl
@[simp] theorem k95_14 : ch.keep 95 14 = [0, 1, 4, 5, 17, 42] := by kernel_rfl
@[simp] theorem k95_15 : ch.keep 95 15 = [0, 4, 5, 7] := by kernel_rfl
@[simp] theorem k95_16 : ch.keep 95 16 = [0, 4, 5, 7] := by kernel_rfl
@[simp] theorem k95_17 : ch.keep 95 17 = [0, 4, 5, 7] := by kernel_rfl
@[simp] theorem k95_18 : ch.keep 95 18 = [4, 5] := by kernel_rfl
@[simp] theorem k95_19 : ch.keep 95 19 = [0, 1, 4, 5, 17, 84] := by kernel_rfl
@[simp] theorem k95_20 : ch.keep 95 20 = [0, 1, 4, 5, 84] := by kernel_rfl
@[simp] theorem k95_21 : ch.keep 95 21 = [0, 1, 4, 5, 88, 89] := by kernel_rfl
@[simp] theorem k95_22 : ch.keep 95 22 = [0, 1, 4, 5, 88, 89, 90] := by kernel_rfl
@[simp] theorem k95_23 : ch.keep 95 23 = [0, 1, 4, 5, 8, 88, 89] := by kernel_rfl
@[simp] theorem k95_24 : ch.keep 95 24 = [0, 1, 4, 5, 88, 89] := by kernel_rfl
@[simp] theorem k95_25 : ch.keep 95 25 = [0, 1, 4, 5, 88, 89] := by kernel_rfl
@[simp] theorem k95_26 : ch.keep 95 26 = [4] := by kernel_rfl
@[simp] theorem fl95_16 : ch.fl 95 16 = [1, 1, 1, 1, 1, 1, 1, 1, 1, 1, 1, 1, 1, 0] := by kernel_rfl
@[simp] theorem fl95_17 : ch.fl 95 17 = [1, 1, 1, 1, 1, 1, 1, 1, 1, 1, 1, 1, 1, 1, 0, 0, 0] := by kernel_rfl
noncomputable def code95 : Code := match Tryz.f95.body with | some c => c | none => .skip
noncomputable def lp95_0 : Code := match code95 with | .seq _ (.seq _ (.seq _ (.seq (.seq _ (.block _ (.seq _ (.cond _ (.seq (.seq _ (.block _ (.loop c))) _) _)))) _))) => c | c => c
theorem hd95_0 : ch.head 95 (firstR lp95_0) = [0, 4, 5, 22] := by kernel_rfl
noncomputable def lp95_1 : Code := match code95 with | .seq _ (.seq _ (.seq _ (.seq (.seq _ (.block _ (.seq _ (.cond _ _ (.seq _ (.cond _ _ (.seq _ (.cond _ _ (.seq _ (.cond _ (.seq _ (.block _ (.loop c))) _)))))))))) _))) => c | c => c
theorem hd95_1 : ch.head 95 (firstR lp95_1) = [0, 1, 4, 5, 88, 89] := by kernel_rfl
theorem rs95 : Tryz.f95.results.toList = [.cell 4 25] := rfl
theorem W95_ofH {args : List D} {H : Hp} (hp : ¬ (ch.pure 95 = true ∧ args.all (D.noRef 0 0) = true)) (hl : args.length ≤ 103) {o : Out × Hp}
    (h : fnOut Tryz.prog [.cell 4 25] H.B.length H.A.length (E false ⟨0, 0⟩ 95 code95 (mkF 0 args) H) = some o) : W 95 args H = some o :=
  W_ofH Tryz.func95 rfl (by kernel_rfl) rfl hp (by rw [Tryz.ntmps95]; exact hl) h
/-! ### f95: slices.Equal[[]byte,byte] -/
@[simp] theorem k96_0 : ch.keep 96 0 = [0, 1] := by kernel_rfl
@[simp] theorem k96_1 : ch.keep 96 1 = [0, 1, 10] := by kernel_rfl
@[simp] theorem k96_2 : ch.keep 96 2 = [4] := by kernel_rfl
@[simp] theorem k96_3 : ch.keep 96 3 = [0, 1, 12, 13] := by kernel_rfl
@[simp] theorem k96_4 : ch.keep 96 4 = [0, 1, 12, 13, 14] := by kernel_rfl
@[simp] theorem k96_5 : ch.keep 96 5 = [0, 1, 5, 12, 13] := by kernel_rfl
@[simp] theorem k96_6 : ch.keep 96 6 = [0, 1, 12, 13, 24] := by kernel_rfl
@[simp] theorem k96_7 : ch.keep 96 7 = [4] := by kernel_rfl
@[simp] theorem k96_8 : ch.keep 96 8 = [0, 1, 12, 13] := by kernel_rfl
@[simp] theorem k96_9 : ch.keep 96 9 = [4] := by kernel_rfl
@[simp] theorem fl96_6 : ch.fl 96 6 = [1, 1, 1, 1, 1, 1, 1, 1, 0] := by kernel_rfl
noncomputable def code96 : Code := match Tryz.f96.body with | some c => c | none => .skip
noncomputable def lp96_0 : Code := match code96 with | .seq _ (.seq _ (.seq (.seq _ (.block _ (.loop c))) _)) => c | c => c
theorem hd96_0 : ch.head 96 (firstR lp96_0) = [0, 1, 12, 13] := by kernel_rfl
theorem rs96 : Tryz.f96.results.toList = [.tmp 4] := rfl
theorem W96_of {args : List D} (ha : args.all (D.noRef 0 0) = true) (hl : args.length ≤ 26) {H : Hp} {o : Out × Hp}
    (h : alone H (fnOut Tryz.prog [.tmp 4] 0 0 (E false ⟨0, 0⟩ 96 code96 (mkF 0 args) H00)) = some o) : W 96 args H = some o :=
  W_of Tryz.func96 rfl (by kernel_rfl) rfl rfl ha (by rw [Tryz.ntmps96]; exact hl) h
/-! ### f96: sward/swardref01.Decimal -/
@[simp] theorem k97_0 : ch.keep 97 0 = [0] := by kernel_rfl
@[simp] theorem k97_1 : ch.keep 97 1 = [0, 3] := by kernel_rfl
@[simp] theorem k97_2 : ch.keep 97 2 = [0, 3, 4] := by kernel_rfl
@[simp] theorem k97_3 : ch.keep 97 3 = [0, 3, 4] := by kernel_rfl
@[simp] theorem k97_4 : ch.keep 97 4 = [0, 3, 4, 5] := by kernel_rfl
@[simp] theorem k97_5 : ch.keep 97 5 = [0, 3, 4] := by kernel_rfl
@[simp] theorem k97_6 : ch.keep 97 6 = [0, 3, 4, 20] := by kernel_rfl
@[simp] theorem k97_7 : ch.keep 97 7 = [3, 22] := by kernel_rfl
@[simp] theorem k97_8 : ch.keep 97 8 = [2] := by kernel_rfl
@[simp] theorem k97_9 : ch.keep 97 9 = [2] := by kernel_rfl
noncomputable def code97 : Code := match Tryz.f97.body with | some c => c | none => .skip
noncomputable def lp97_0 : Code := match code97 with | .seq _ (.seq _ (.seq (.seq _ (.block _ (.loop c))) _)) => c | c => c
theorem hd97_0 : ch.head 97 (firstR lp97_0) = [0, 3, 4] := by kernel_rfl
theorem rs97 : Tryz.f97.results.toList = [.tmp 2] := rfl
theorem W97_of {args : List D} (ha : args.all (D.noRef 0 0) = true) (hl : args.length ≤ 26) {H : Hp} {o : Out × Hp}
    (h : alone H (fnOut Tryz.prog [.tmp 2] 0 0 (E false ⟨0, 0⟩ 97 code97 (mkF 0 args) H00)) = some o) : W 97 args H = some o :=
  W_of Tryz.func97 rfl (by kernel_rfl) rfl rfl ha (by rw [Tryz.ntmps97]; exact hl) h
/-! ### f97: sward/swardref01.load -/
@[simp] theorem k98_0 : ch.keep 98 0 = [0, 1, 2, 3, 8] := by kernel_rfl
@[simp] theorem k98_1 : ch.keep 98 1 = [0, 1, 2, 3, 8, 11] := by kernel_rfl
@[simp] theorem k98_2 : ch.keep 98 2 = [0, 1, 2, 3, 8, 11, 35] := by kernel_rfl
@[simp] theorem k98_3 : ch.keep 98 3 = [8, 9, 10] := by kernel_rfl
@[simp] theorem k98_4 : ch.keep 98 4 = [0, 1, 2, 3, 8, 11] := by kernel_rfl
@[simp] theorem k98_5 : ch.keep 98 5 = [0, 1, 2, 3, 8, 11, 12, 13, 14] := by kernel_rfl
@[simp] theorem k98_6 : ch.keep 98 6 = [0, 1, 2, 3, 8, 11, 12, 13, 14, 52] := by kernel_rfl
@[simp] theorem k98_7 : ch.keep 98 7 = [0, 1, 2, 3, 8, 11, 12, 13, 14, 52, 53] := by kernel_rfl
@[simp] theorem k98_8 : ch.keep 98 8 = [0, 1, 3, 8, 11, 59] := by kernel_rfl
@[simp] theorem k98_9 : ch.keep 98 9 = [8, 9, 10] := by kernel_rfl
@[simp] theorem k98_10 : ch.keep 98 10 = [0, 1, 3, 8, 15] := by kernel_rfl
@[simp] theorem k98_11 : ch.keep 98 11 = [0, 1, 3, 8, 15, 16] := by kernel_rfl
@[simp] theorem k98_12 : ch.keep 98 12 = [0, 1, 3, 8, 15, 16, 62] := by kernel_rfl
@[simp] theorem k98_13 : ch.keep 98 13 = [0, 1, 3, 8, 15, 16] := by kernel_rfl
@[simp] theorem k98_14 : ch.keep 98 14 = [0, 1, 3, 8, 15, 16] := by kernel_rfl
@[simp] theorem k98_15 : ch.keep 98 15 = [8, 9, 10] := by kernel_rfl
@[simp] theorem k98_16 : ch.keep 98 16 = [0, 2, 3, 8, 11, 12, 13, 14, 52, 81] := by kernel_rfl
@[simp] theorem k98_17 : ch.keep 98 17 = [8, 9, 10] := by kernel_rfl
@[simp] theorem k98_18 : ch.keep 98 18 = [0, 2, 3, 8, 11, 12, 13, 14, 52, 87] := by kernel_rfl
@[simp] theorem k98_19 : ch.keep 98 19 = [0, 3, 8, 11, 13, 14, 94] := by kernel_rfl
@[simp] theorem k98_20 : ch.keep 98 20 = [8, 9, 10] := by kernel_rfl
@[simp] theorem k98_21 : ch.keep 98 21 = [8, 9, 10] := by kernel_rfl
@[simp] theorem k98_22 : ch.keep 98 22 = [0, 2, 3, 8, 11, 12, 13, 14, 52, 108] := by kernel_rfl
@[simp] theorem k98_23 : ch.keep 98 23 = [0, 2, 3, 8, 11, 12, 13, 14, 108] := by kernel_rfl
@[simp] theorem k98_24 : ch.keep 98 24 = [0, 2, 3, 8, 11, 13, 14, 17] := by kernel_rfl
@[simp] theorem k98_25 : ch.keep 98 25 = [0, 2, 3, 8, 11, 13, 14, 17, 18] := by kernel_rfl
@[simp] theorem k98_26 : ch.keep 98 26 = [0, 2, 3, 8, 11, 13, 14, 17, 18, 115] := by kernel_rfl
@[simp] theorem k98_27 : ch.keep 98 27 = [0, 2, 3, 8, 11, 13, 14, 17, 18] := by kernel_rfl
@[simp] theorem k98_28 : ch.keep 98 28 = [0, 2, 8, 11, 13, 17, 18, 19, 20, 21] := by kernel_rfl
@[simp] theorem k98_29 : ch.keep 98 29 = [0, 2, 8, 11, 13, 17, 18, 19, 20, 21, 129] := by kernel_rfl
@[simp] theorem k98_30 : ch.keep 98 30 = [8, 9, 10] := by kernel_rfl
@[simp] theorem k98_31 : ch.keep 98 31 = [0, 2, 8, 11, 13, 17, 18, 20, 21] := by kernel_rfl
@[simp] theorem k98_32 : ch.keep 98 32 = [0, 2, 3, 8, 11, 13, 14, 17, 18] := by kernel_rfl
@[simp] theorem k98_33 : ch.keep 98 33 = [8, 9, 10] := by kernel_rfl
@[simp] theorem k98_34 : ch.keep 98 34 = [8, 9, 10] := by kernel_rfl
@[simp] theorem fl98_5 : ch.fl 98 5 = [1, 1, 1, 1, 1, 1, 1, 1, 1, 1, 1, 1, 1, 1, 1, 0] := by kernel_rfl
noncomputable def code98 : Code := match Tryz.f98.body with | some c => c | none => .skip
noncomputable def lp98_0 : Code := match code98 with | .seq _ (.seq _ (.seq _ (.seq _ (.seq _ (.seq (.seq _ (.block _ (.seq _ (.cond _ (.seq _ (.seq _ (.seq (.seq _ (.block _ (.loop c))) _))) _)))) _))))) => c | c => c
theorem hd98_0 : ch.head 98 (firstR lp98_0) = [0, 1, 3, 8, 15, 16] := by kernel_rfl
noncomputable def lp98_1 : Code := match code98 with | .seq _ (.seq _ (.seq _ (.seq _ (.seq _ (.seq (.seq _ (.block _ (.seq _ (.cond _ _ (.seq _ (.cond _ _ (.seq _ (.cond _ _ (.seq _ (.cond _ (.seq _ (.seq (.seq _ (.block _ (.loop c))) _)) _)))))))))) _))))) => c | c => c
theorem hd98_1 : ch.head 98 (firstR lp98_1) = [0, 2, 3, 8, 11, 13, 14, 17, 18] := by kernel_rfl
theorem rs98 : Tryz.f98.results.toList = [.cell 8 25, .tmp 9, .tmp 10] := rfl
theorem W98_of {args : List D} (ha : args.all (D.noRef 0 0) = true) (hl : args.length ≤ 143) {H : Hp} {o : Out × Hp}
    (h : alone H (fnOut Tryz.prog [.cell 8 25, .tmp 9, .tmp 10] 0 0 (E false ⟨0, 0⟩ 98 code98 (mkF 0 args) H00)) = some o) : W 98 args H = some o :=
  W_of Tryz.func98 rfl (by kernel_rfl) rfl rfl ha (by rw [Tryz.ntmps98]; exact hl) h
/-! ### f98: sward/value.isMap -/
@[simp] theorem k99_0 : ch.keep 99 0 = [1] := by kernel_rfl
@[simp] theorem k99_1 : ch.keep 99 1 = [1, 7] := by kernel_rfl
@[simp] theorem k99_2 : ch.keep 99 2 = [2] := by kernel_rfl
@[simp] theorem k99_3 : ch.keep 99 3 = [1, 9, 10, 11] := by kernel_rfl
@[simp] theorem k99_4 : ch.keep 99 4 = [1, 9, 10, 11, 12] := by kernel_rfl
@[simp] theorem k99_5 : ch.keep 99 5 = [1, 3, 4, 9, 10, 11] := by kernel_rfl
@[simp] theorem k99_6 : ch.keep 99 6 = [1, 9, 10, 11, 36] := by kernel_rfl
@[simp] theorem k99_7 : ch.keep 99 7 = [2] := by kernel_rfl
@[simp] theorem k99_8 : ch.keep 99 8 = [1, 9, 10, 11] := by kernel_rfl
@[simp] theorem k99_9 : ch.keep 99 9 = [2] := by kernel_rfl
@[simp] theorem fl99_6 : ch.fl 99 6 = [0, 0, 0, 0, 0, 0, 0, 0, 0, 0, 1, 1, 1, 1, 1, 1, 1, 1, 0, 0, 0] := by kernel_rfl
noncomputable def code99 : Code := match Tryz.f99.body with | some c => c | none => .skip
noncomputable def lp99_0 : Code := match code99 with | .seq _ (.seq _ (.seq (.seq _ (.block _ (.loop c))) _)) => c | c => c
theorem hd99_0 : ch.head 99 (firstR lp99_0) = [1, 9, 10, 11] := by kernel_rfl
theorem rs99 : Tryz.f99.results.toList = [.tmp 2] := rfl
theorem W99_of {args : List D} (ha : args.all (D.noRef 0 0) = true) (hl : args.length ≤ 38) {H : Hp} {o : Out × Hp}
    (h : alone H (fnOut Tryz.prog [.tmp 2] 0 0 (E false ⟨0, 0⟩ 99 code99 (mkF 0 args) H00)) = some o) : W 99 args H = some o :=
  W_of Tryz.func99 rfl (by kernel_rfl) rfl rfl ha (by rw [Tryz.ntmps99]; exact hl) h
/-! ### f99: sward/value.find -/
@[simp] theorem k100_0 : ch.keep 100 0 = [0, 3] := by kernel_rfl
@[simp] theorem k100_1 : ch.keep 100 1 = [4] := by kernel_rfl
noncomputable def code100 : Code := match Tryz.f100.body with | some c => c | none => .skip
theorem rs100 : Tryz.f100.results.toList = [.tmp 4] := rfl
theorem W100_of {args : List D} (ha : args.all (D.noRef 0 0) = true) (hl : args.length ≤ 8) {H : Hp} {o : Out × Hp}
    (h : alone H (fnOut Tryz.prog [.tmp 4] 0 0 (E false ⟨0, 0⟩ 100 code100 (mkF 0 args) H00)) = some o) : W 100 args H = some o :=
  W_of Tryz.func100 rfl (by kernel_rfl) rfl rfl ha (by rw [Tryz.ntmps100]; exact hl) h
/-! ### f100: slices.DeleteFunc[[]sward/api.Value,sward/api.Value] -/
@[simp] theorem k101_0 : ch.keep 101 0 = [0, 1] := by kernel_rfl
@[simp] theorem k101_1 : ch.keep 101 1 = [0, 1, 5] := by kernel_rfl
@[simp] theorem k101_2 : ch.keep 101 2 = [0, 1, 5, 12] := by kernel_rfl
@[simp] theorem k101_3 : ch.keep 101 3 = [4] := by kernel_rfl
@[simp] theorem k101_4 : ch.keep 101 4 = [0, 1, 5, 6] := by kernel_rfl
@[simp] theorem k101_5 : ch.keep 101 5 = [0, 1, 5, 6, 19] := by kernel_rfl
@[simp] theorem k101_6 : ch.keep 101 6 = [0, 1, 5, 6] := by kernel_rfl
@[simp] theorem k101_7 : ch.keep 101 7 = [0, 1, 5, 6, 7] := by kernel_rfl
@[simp] theorem k101_8 : ch.keep 101 8 = [0, 1, 5, 6, 7, 29] := by kernel_rfl
@[simp] theorem k101_9 : ch.keep 101 9 = [0, 1, 5, 6] := by kernel_rfl
@[simp] theorem k101_10 : ch.keep 101 10 = [0, 1, 5, 6] := by kernel_rfl
@[simp] theorem k101_11 : ch.keep 101 11 = [0, 5] := by kernel_rfl
@[simp] theorem k101_12 : ch.keep 101 12 = [4] := by kernel_rfl
noncomputable def code101 : Code := match Tryz.f101.body with | some c => c | none => .skip
noncomputable def lp101_0 : Code := match code101 with | .seq _ (.seq _ (.seq _ (.seq (.seq _ (.block _ (.loop c))) _))) => c | c => c
theorem hd101_0 : ch.head 101 (firstR lp101_0) = [0, 1, 5, 6] := by kernel_rfl
theorem rs101 : Tryz.f101.results.toList = [.tmp 4] := rfl
/-! ### f101: slices.Clone[[]sward/api.Value,sward/api.Value] -/
@[simp] theorem k102_0 : ch.keep 102 0 = [0] := by kernel_rfl
@[simp] theorem k102_1 : ch.keep 102 1 = [0, 4] := by kernel_rfl
@[simp] theorem k102_2 : ch.keep 102 2 = [2] := by kernel_rfl
@[simp] theorem k102_3 : ch.keep 102 3 = [2] := by kernel_rfl
noncomputable def code102 : Code := match Tryz.f102.body with | some c => c | none => .skip
theorem rs102 : Tryz.f102.results.toList = [.tmp 2] := rfl
/-! ### f102: sward/value.Lay$1 -/
@[simp] theorem k103_0 : ch.keep 103 0 = [1, 2] := by kernel_rfl
@[simp] theorem k103_1 : ch.keep 103 1 = [3] := by kernel_rfl
@[simp] theorem fl103_1 : ch.fl 103 1 = [1, 1, 1, 1, 1, 0, 0, 0] := by kernel_rfl
noncomputable def code103 : Code := match Tryz.f103.body with | some c => c | none => .skip
theorem rs103 : Tryz.f103.results.toList = [.tmp 3] := rfl
theorem W103_ofH {args : List D} {H : Hp} (hp : ¬ (ch.pure 103 = true ∧ args.all (D.noRef 0 0) = true)) (hl : args.length ≤ 11) {o : Out × Hp}
    (h : fnOut Tryz.prog [.tmp 3] H.B.length H.A.length (E false ⟨0, 0⟩ 103 code103 (mkF 0 args) H) = some o) : W 103 args H = some o :=
  W_ofH Tryz.func103 rfl (by kernel_rfl) rfl hp (by rw [Tryz.ntmps103]; exact hl) h
/-! ### f103: slices.SortFunc[[]sward/api.Value,sward/api.Value] -/
@[simp] theorem k104_0 : ch.keep 104 0 = [0, 1, 4] := by kernel_rfl
@[simp] theorem k104_1 : ch.keep 104 1 = [] := by kernel_rfl
noncomputable def code104 : Code := match Tryz.f104.body with | some c => c | none => .skip
theorem rs104 : Tryz.f104.results.toList = [] := rfl
/-! ### f104: sward/swardref01.Pair -/
@[simp] theorem k105_0 : ch.keep 105 0 = [2, 3, 4] := by kernel_rfl
@[simp] theorem k105_1 : ch.keep 105 1 = [4] := by kernel_rfl
noncomputable def code105 : Code := match Tryz.f105.body with | some c => c | none => .skip
theorem rs105 : Tryz.f105.results.toList = [.cell 4 25] := rfl
theorem W105_of {args : List D} (ha : args.all (D.noRef 0 0) = true) (hl : args.length ≤ 9) {H : Hp} {o : Out × Hp}
    (h : alone H (fnOut Tryz.prog [.cell 4 25] 0 0 (E false ⟨0, 0⟩ 105 code105 (mkF 0 args) H00)) = some o) : W 105 args H = some o :=
  W_of Tryz.func105 rfl (by kernel_rfl) rfl rfl ha (by rw [Tryz.ntmps105]; exact hl) h
/-! ### f105: sward/swardref01.with -/
@[simp] theorem k106_0 : ch.keep 106 0 = [0, 3] := by kernel_rfl
@[simp] theorem k106_1 : ch.keep 106 1 = [0, 3, 5] := by kernel_rfl
@[simp] theorem k106_2 : ch.keep 106 2 = [0, 3, 5, 18] := by kernel_rfl
@[simp] theorem k106_3 : ch.keep 106 3 = [0, 3, 5] := by kernel_rfl
@[simp] theorem k106_4 : ch.keep 106 4 = [0, 3, 5, 33] := by kernel_rfl
@[simp] theorem k106_5 : ch.keep 106 5 = [4] := by kernel_rfl
@[simp] theorem k106_6 : ch.keep 106 6 = [4] := by kernel_rfl
@[simp] theorem fl106_2 : ch.fl 106 2 = [1, 1, 1, 0, 0, 1, 1, 1, 1, 1, 0, 0, 0] := by kernel_rfl
@[simp] theorem fl106_4 : ch.fl 106 4 = [1, 1, 1, 0, 0, 1, 1, 1, 1, 1, 0, 0, 0] := by kernel_rfl
@[simp] theorem fl106_6 : ch.fl 106 6 = [1, 1, 1, 3, 2, 2, 3, 2, 2, 2, 0, 0] := by kernel_rfl
noncomputable def code106 : Code := match Tryz.f106.body with | some c => c | none => .skip
noncomputable def lp106_0 : Code := match code106 with | .seq _ (.seq _ (.seq (.block _ (.loop c)) _)) => c | c => c
theorem hd106_0 : ch.head 106 (firstR lp106_0) = [0, 3, 5] := by kernel_rfl
theorem rs106 : Tryz.f106.results.toList = [.tmp 4] := rfl
theorem W106_of {args : List D} (ha : args.all (D.noRef 0 0) = true) (hl : args.length ≤ 46) {H : Hp} {o : Out × Hp}
    (h : alone H (fnOut Tryz.prog [.tmp 4] 0 0 (E false ⟨0, 0⟩ 106 code106 (mkF 0 args) H00)) = some o) : W 106 args H = some o :=
  W_of Tryz.func106 rfl (by kernel_rfl) rfl rfl ha (by rw [Tryz.ntmps106]; exact hl) h
/-! ### f106: sward/value.fits -/
@[simp] theorem k107_0 : ch.keep 107 0 = [1] := by kernel_rfl
@[simp] theorem k107_1 : ch.keep 107 1 = [3] := by kernel_rfl
@[simp] theorem k107_2 : ch.keep 107 2 = [2] := by kernel_rfl
noncomputable def code107 : Code := match Tryz.f107.body with | some c => c | none => .skip
theorem rs107 : Tryz.f107.results.toList = [.tmp 2] := rfl
theorem W107_of {args : List D} (ha : args.all (D.noRef 0 0) = true) (hl : args.length ≤ 14) {H : Hp} {o : Out × Hp}
    (h : alone H (fnOut Tryz.prog [.tmp 2] 0 0 (E false ⟨0, 0⟩ 107 code107 (mkF 0 args) H00)) = some o) : W 107 args H = some o :=
  W_of Tryz.func107 rfl (by kernel_rfl) rfl rfl ha (by rw [Tryz.ntmps107]; exact hl) h
/-! ### f107: sward/value.shaped -/
@[simp] theorem k108_0 : ch.keep 108 0 = [1] := by kernel_rfl
@[simp] theorem k108_1 : ch.keep 108 1 = [3] := by kernel_rfl
@[simp] theorem k108_2 : ch.keep 108 2 = [3, 14] := by kernel_rfl
@[simp] theorem k108_3 : ch.keep 108 3 = [2] := by kernel_rfl
@[simp] theorem k108_4 : ch.keep 108 4 = [15] := by kernel_rfl
@[simp] theorem k108_5 : ch.keep 108 5 = [15, 17, 18] := by kernel_rfl
@[simp] theorem k108_6 : ch.keep 108 6 = [4] := by kernel_rfl
@[simp] theorem k108_7 : ch.keep 108 7 = [2] := by kernel_rfl
@[simp] theorem k108_8 : ch.keep 108 8 = [15, 23, 24] := by kernel_rfl
@[simp] theorem k108_9 : ch.keep 108 9 = [5] := by kernel_rfl
@[simp] theorem k108_10 : ch.keep 108 10 = [2] := by kernel_rfl
@[simp] theorem k108_11 : ch.keep 108 11 = [15, 29, 30] := by kernel_rfl
@[simp] theorem k108_12 : ch.keep 108 12 = [6] := by kernel_rfl
@[simp] theorem k108_13 : ch.keep 108 13 = [2] := by kernel_rfl
@[simp] theorem k108_14 : ch.keep 108 14 = [15, 35, 36] := by kernel_rfl
@[simp] theorem k108_15 : ch.keep 108 15 = [7] := by kernel_rfl
@[simp] theorem k108_16 : ch.keep 108 16 = [2] := by kernel_rfl
@[simp] theorem k108_17 : ch.keep 108 17 = [42, 43] := by kernel_rfl
@[simp] theorem k108_18 : ch.keep 108 18 = [8] := by kernel_rfl
@[simp] theorem k108_19 : ch.keep 108 19 = [8, 9] := by kernel_rfl
@[simp] theorem k108_20 : ch.keep 108 20 = [8, 9, 48] := by kernel_rfl
@[simp] theorem k108_21 : ch.keep 108 21 = [8, 9] := by kernel_rfl
@[simp] theorem k108_22 : ch.keep 108 22 = [8, 9, 63] := by kernel_rfl
@[simp] theorem k108_23 : ch.keep 108 23 = [2] := by kernel_rfl
@[simp] theorem k108_24 : ch.keep 108 24 = [2] := by kernel_rfl
@[simp] theorem k108_25 : ch.keep 108 25 = [2] := by kernel_rfl
@[simp] theorem fl108_22 : ch.fl 108 22 = [1, 1, 1, 1, 1, 1, 1, 1, 1, 1, 1, 0, 0] := by kernel_rfl
noncomputable def code108 : Code := match Tryz.f108.body with | some c => c | none => .skip
noncomputable def lp108_0 : Code := match code108 with | .seq _ (.seq _ (.seq _ (.seq (.seq _ (.block _ (.seq _ (.cond _ _ (.seq _ (.cond _ _ (.seq _ (.cond _ _ (.seq _ (.cond _ _ (.seq _ (.cond _ (.seq _ (.seq (.seq _ (.block _ (.loop c))) _)) _)))))))))))) _))) => c | c => c
theorem hd108_0 : ch.head 108 (firstR lp108_0) = [8, 9] := by kernel_rfl
theorem rs108 : Tryz.f108.results.toList = [.tmp 2] := rfl
theorem W108_of {args : List D} (ha : args.all (D.noRef 0 0) = true) (hl : args.length ≤ 64) {H : Hp} {o : Out × Hp}
    (h : alone H (fnOut Tryz.prog [.tmp 2] 0 0 (E false ⟨0, 0⟩ 108 code108 (mkF 0 args) H00)) = some o) : W 108 args H = some o :=
  W_of Tryz.func108 rfl (by kernel_rfl) rfl rfl ha (by rw [Tryz.ntmps108]; exact hl) h
/-! ### f108: sward/value.all -/
@[simp] theorem k109_0 : ch.keep 109 0 = [0] := by kernel_rfl
@[simp] theorem k109_1 : ch.keep 109 1 = [0, 3] := by kernel_rfl
@[simp] theorem k109_2 : ch.keep 109 2 = [3, 6, 7, 8] := by kernel_rfl
@[simp] theorem k109_3 : ch.keep 109 3 = [3, 6, 7, 8, 9] := by kernel_rfl
@[simp] theorem k109_4 : ch.keep 109 4 = [3, 5, 6, 7, 8] := by kernel_rfl
@[simp] theorem k109_5 : ch.keep 109 5 = [3, 6, 7, 8] := by kernel_rfl
@[simp] theorem k109_6 : ch.keep 109 6 = [3, 6, 7, 8] := by kernel_rfl
@[simp] theorem k109_7 : ch.keep 109 7 = [2] := by kernel_rfl
noncomputable def code109 : Code := match Tryz.f109.body with | some c => c | none => .skip
noncomputable def lp109_0 : Code := match code109 with | .seq _ (.seq _ (.seq (.seq _ (.block _ (.loop c))) _)) => c | c => c
theorem hd109_0 : ch.head 109 (firstR lp109_0) = [3, 6, 7, 8] := by kernel_rfl
theorem rs109 : Tryz.f109.results.toList = [.tmp 2] := rfl
theorem W109_of {args : List D} (ha : args.all (D.noRef 0 0) = true) (hl : args.length ≤ 19) {H : Hp} {o : Out × Hp}
    (h : alone H (fnOut Tryz.prog [.tmp 2] 0 0 (E false ⟨0, 0⟩ 109 code109 (mkF 0 args) H00)) = some o) : W 109 args H = some o :=
  W_of Tryz.func109 rfl (by kernel_rfl) rfl rfl ha (by rw [Tryz.ntmps109]; exact hl) h
/-! ### f109: sward/swardref01.letters -/
@[simp] theorem k110_0 : ch.keep 110 0 = [0] := by kernel_rfl
@[simp] theorem k110_1 : ch.keep 110 1 = [0, 3] := by kernel_rfl
@[simp] theorem k110_2 : ch.keep 110 2 = [0, 3, 7] := by kernel_rfl
@[simp] theorem k110_3 : ch.keep 110 3 = [0, 3] := by kernel_rfl
@[simp] theorem k110_4 : ch.keep 110 4 = [0, 3, 31] := by kernel_rfl
@[simp] theorem k110_5 : ch.keep 110 5 = [2] := by kernel_rfl
@[simp] theorem k110_6 : ch.keep 110 6 = [2] := by kernel_rfl
noncomputable def code110 : Code := match Tryz.f110.body with | some c => c | none => .skip
noncomputable def lp110_0 : Code := match code110 with | .seq _ (.seq (.seq _ (.block _ (.loop c))) _) => c | c => c
theorem hd110_0 : ch.head 110 (firstR lp110_0) = [0, 3] := by kernel_rfl
theorem rs110 : Tryz.f110.results.toList = [.tmp 2] := rfl
theorem W110_of {args : List D} (ha : args.all (D.noRef 0 0) = true) (hl : args.length ≤ 35) {H : Hp} {o : Out × Hp}
    (h : alone H (fnOut Tryz.prog [.tmp 2] 0 0 (E false ⟨0, 0⟩ 110 code110 (mkF 0 args) H00)) = some o) : W 110 args H = some o :=
  W_of Tryz.func110 rfl (by kernel_rfl) rfl rfl ha (by rw [Tryz.ntmps110]; exact hl) h
/-! ### f110: sward/value.attempt$1 -/
@[simp] theorem k111_0 : ch.keep 111 0 = [0, 4] := by kernel_rfl
@[simp] theorem k111_1 : ch.keep 111 1 = [3] := by kernel_rfl
@[simp] theorem k111_2 : ch.keep 111 2 = [] := by kernel_rfl
@[simp] theorem k111_3 : ch.keep 111 3 = [0, 4, 6] := by kernel_rfl
@[simp] theorem k111_4 : ch.keep 111 4 = [] := by kernel_rfl
@[simp] theorem k111_5 : ch.keep 111 5 = [0, 4, 8, 9] := by kernel_rfl
@[simp] theorem k111_6 : ch.keep 111 6 = [0] := by kernel_rfl
@[simp] theorem k111_7 : ch.keep 111 7 = [] := by kernel_rfl
noncomputable def code111 : Code := match Tryz.f111.body with | some c => c | none => .skip
theorem rs111 : Tryz.f111.results.toList = [] := rfl
theorem W111_ofH {args : List D} {H : Hp} (hp : ¬ (ch.pure 111 = true ∧ args.all (D.noRef 0 0) = true)) (hl : args.length ≤ 10) {o : Out × Hp}
    (h : fnOut Tryz.prog [] H.B.length H.A.length (E false ⟨0, 0⟩ 111 code111 (mkF 0 args) H) = some o) : W 111 args H = some o :=
  W_ofH Tryz.func111 rfl (by kernel_rfl) rfl hp (by rw [Tryz.ntmps111]; exact hl) h
/-! ### f111: (*sward/value.reader).want -/
@[simp] theorem k112_0 : ch.keep 112 0 = [0, 5] := by kernel_rfl
@[simp] theorem k112_1 : ch.keep 112 1 = [] := by kernel_rfl
noncomputable def code112 : Code := match Tryz.f112.body with | some c => c | none => .skip
theorem rs112 : Tryz.f112.results.toList = [] := rfl
theorem W112_ofH {args : List D} {H : Hp} (hp : ¬ (ch.pure 112 = true ∧ args.all (D.noRef 0 0) = true)) (hl : args.length ≤ 12) {o : Out × Hp}
    (h : fnOut Tryz.prog [] H.B.length H.A.length (E false ⟨0, 0⟩ 112 code112 (mkF 0 args) H) = some o) : W 112 args H = some o :=
  W_ofH Tryz.func112 rfl (by kernel_rfl) rfl hp (by rw [Tryz.ntmps112]; exact hl) h
/-! ### f112: (*sward/value.reader).is -/
@[simp] theorem k113_0 : ch.keep 113 0 = [0, 1] := by kernel_rfl
@[simp] theorem k113_1 : ch.keep 113 1 = [0, 1, 37] := by kernel_rfl
@[simp] theorem k113_2 : ch.keep 113 2 = [4] := by kernel_rfl
@[simp] theorem k113_3 : ch.keep 113 3 = [] := by kernel_rfl
@[simp] theorem k113_4 : ch.keep 113 4 = [4] := by kernel_rfl
@[simp] theorem fl113_1 : ch.fl 113 1 = [1, 1, 1, 1, 1, 1, 1, 1, 1, 1, 1, 1, 0, 0, 1, 1, 1, 1, 1, 1, 1, 1, 1, 1, 1, 1, 1, 1, 1, 1, 1, 0, 0] := by kernel_rfl
noncomputable def code113 : Code := match Tryz.f113.body with | some c => c | none => .skip
theorem rs113 : Tryz.f113.results.toList = [.tmp 4] := rfl
theorem W113_ofH {args : List D} {H : Hp} (hp : ¬ (ch.pure 113 = true ∧ args.all (D.noRef 0 0) = true)) (hl : args.length ≤ 47) {o : Out × Hp}
    (h : fnOut Tryz.prog [.tmp 4] H.B.length H.A.length (E false ⟨0, 0⟩ 113 code113 (mkF 0 args) H) = some o) : W 113 args H = some o :=
  W_ofH Tryz.func113 rfl (by kernel_rfl) rfl hp (by rw [Tryz.ntmps113]; exact hl) h
/-! ### f113: (*sward/value.reader).run -/
@[simp] theorem k114_0 : ch.keep 114 0 = [0, 1] := by kernel_rfl
@[simp] theorem k114_1 : ch.keep 114 1 = [0, 1, 5] := by kernel_rfl
@[simp] theorem k114_2 : ch.keep 114 2 = [0, 1, 5, 27] := by kernel_rfl
@[simp] theorem k114_3 : ch.keep 114 3 = [0, 1, 5] := by kernel_rfl
@[simp] theorem k114_4 : ch.keep 114 4 = [0, 5, 6] := by kernel_rfl
@[simp] theorem k114_5 : ch.keep 114 5 = [6] := by kernel_rfl
@[simp] theorem k114_6 : ch.keep 114 6 = [4] := by kernel_rfl
@[simp] theorem fl114_4 : ch.fl 114 4 = [1, 1, 1, 1, 1, 1, 1, 1, 1, 0, 0] := by kernel_rfl
noncomputable def code114 : Code := match Tryz.f114.body with | some c => c | none => .skip
noncomputable def lp114_0 : Code := match code114 with | .seq _ (.seq _ (.seq (.block _ (.loop c)) _)) => c | c => c
theorem hd114_0 : ch.head 114 (firstR lp114_0) = [0, 1, 5] := by kernel_rfl
theorem rs114 : Tryz.f114.results.toList = [.tmp 4] := rfl
theorem W114_ofH {args : List D} {H : Hp} (hp : ¬ (ch.pure 114 = true ∧ args.all (D.noRef 0 0) = true)) (hl : args.length ≤ 45) {o : Out × Hp}
    (h : fnOut Tryz.prog [.tmp 4] H.B.length H.A.length (E false ⟨0, 0⟩ 114 code114 (mkF 0 args) H) = some o) : W 114 args H = some o :=
  W_ofH Tryz.func114 rfl (by kernel_rfl) rfl hp (by rw [Tryz.ntmps114]; exact hl) h
/-! ### f114: (*sward/value.reader).value$1 -/
@[simp] theorem k115_0 : ch.keep 115 0 = [0] := by kernel_rfl
@[simp] theorem k115_1 : ch.keep 115 1 = [2] := by kernel_rfl
noncomputable def code115 : Code := match Tryz.f115.body with | some c => c | none => .skip
theorem rs115 : Tryz.f115.results.toList = [.tmp 2] := rfl
theorem W115_of {args : List D} (ha : args.all (D.noRef 0 0) = true) (hl : args.length ≤ 5) {H : Hp} {o : Out × Hp}
    (h : alone H (fnOut Tryz.prog [.tmp 2] 0 0 (E false ⟨0, 0⟩ 115 code115 (mkF 0 args) H00)) = some o) : W 115 args H = some o :=
  W_of Tryz.func115 rfl (by kernel_rfl) rfl rfl ha (by rw [Tryz.ntmps115]; exact hl) h
/-! ### f115: (*sward/value.reader).list -/
@[simp] theorem k116_0 : ch.keep 116 0 = [0, 1, 2] := by kernel_rfl
@[simp] theorem k116_1 : ch.keep 116 1 = [0, 1, 2, 7] := by kernel_rfl
@[simp] theorem k116_2 : ch.keep 116 2 = [0, 1, 2, 7, 12] := by kernel_rfl
@[simp] theorem k116_3 : ch.keep 116 3 = [0, 1, 2, 7, 15] := by kernel_rfl
@[simp] theorem k116_4 : ch.keep 116 4 = [0, 1, 2, 7, 8] := by kernel_rfl
@[simp] theorem k116_5 : ch.keep 116 5 = [0, 1, 2, 7] := by kernel_rfl
@[simp] theorem k116_6 : ch.keep 116 6 = [0, 1, 2, 7] := by kernel_rfl
@[simp] theorem k116_7 : ch.keep 116 7 = [0, 1, 2, 7] := by kernel_rfl
@[simp] theorem k116_8 : ch.keep 116 8 = [6] := by kernel_rfl
noncomputable def code116 : Code := match Tryz.f116.body with | some c => c | none => .skip
noncomputable def lp116_0 : Code := match code116 with | .seq _ (.seq _ (.seq (.block _ (.loop c)) _)) => c | c => c
theorem hd116_0 : ch.head 116 (firstR lp116_0) = [0, 1, 2, 7] := by kernel_rfl
theorem rs116 : Tryz.f116.results.toList = [.tmp 6] := rfl
theorem W116_ofH {args : List D} {H : Hp} (hp : ¬ (ch.pure 116 = true ∧ args.all (D.noRef 0 0) = true)) (hl : args.length ≤ 34) {o : Out × Hp}
    (h : fnOut Tryz.prog [.tmp 6] H.B.length H.A.length (E false ⟨0, 0⟩ 116 code116 (mkF 0 args) H) = some o) : W 116 args H = some o :=
  W_ofH Tryz.func116 rfl (by kernel_rfl) rfl hp (by rw [Tryz.ntmps116]; exact hl) h
/-! ### f116: (*sward/value.reader).number -/
@[simp] theorem k117_0 : ch.keep 117 0 = [0, 2] := by kernel_rfl
@[simp] theorem k117_1 : ch.keep 117 1 = [0, 2, 3] := by kernel_rfl
@[simp] theorem k117_2 : ch.keep 117 2 = [0, 2, 3, 9] := by kernel_rfl
@[simp] theorem k117_3 : ch.keep 117 3 = [0, 2, 3] := by kernel_rfl
@[simp] theorem k117_4 : ch.keep 117 4 = [0, 2, 3, 4] := by kernel_rfl
@[simp] theorem k117_5 : ch.keep 117 5 = [2, 3, 4] := by kernel_rfl
@[simp] theorem k117_6 : ch.keep 117 6 = [2, 3, 4, 5] := by kernel_rfl
@[simp] theorem k117_7 : ch.keep 117 7 = [2, 3, 5, 18] := by kernel_rfl
@[simp] theorem k117_8 : ch.keep 117 8 = [2, 3, 5, 18, 19, 20] := by kernel_rfl
@[simp] theorem k117_9 : ch.keep 117 9 = [2, 3, 5, 7, 18] := by kernel_rfl
@[simp] theorem k117_10 : ch.keep 117 10 = [2, 3, 5, 18] := by kernel_rfl
@[simp] theorem k117_11 : ch.keep 117 11 = [2] := by kernel_rfl
noncomputable def code117 : Code := match Tryz.f117.body with | some c => c | none => .skip
noncomputable def lp117_0 : Code := match code117 with | .seq _ (.seq _ (.seq _ (.seq _ (.seq _ (.seq _ (.seq (.seq _ (.block _ (.loop c))) _)))))) => c | c => c
theorem hd117_0 : ch.head 117 (firstR lp117_0) = [2, 3, 5, 18] := by kernel_rfl
theorem rs117 : Tryz.f117.results.toList = [.cell 2 25] := rfl
theorem W117_ofH {args : List D} {H : Hp} (hp : ¬ (ch.pure 117 = true ∧ args.all (D.noRef 0 0) = true)) (hl : args.length ≤ 32) {o : Out × Hp}
    (h : fnOut Tryz.prog [.cell 2 25] H.B.length H.A.length (E false ⟨0, 0⟩ 117 code117 (mkF 0 args) H) = some o) : W 117 args H = some o :=
  W_ofH Tryz.func117 rfl (by kernel_rfl) rfl hp (by rw [Tryz.ntmps117]; exact hl) h
/-! ### f117: sward/value.of -/
@[simp] theorem k118_0 : ch.keep 118 0 = [1] := by kernel_rfl
@[simp] theorem k118_1 : ch.keep 118 1 = [1, 3] := by kernel_rfl
@[simp] theorem k118_2 : ch.keep 118 2 = [2] := by kernel_rfl
@[simp] theorem k118_3 : ch.keep 118 3 = [1, 22] := by kernel_rfl
@[simp] theorem k118_4 : ch.keep 118 4 = [2] := by kernel_rfl
@[simp] theorem k118_5 : ch.keep 118 5 = [1, 41] := by kernel_rfl
@[simp] theorem k118_6 : ch.keep 118 6 = [2] := by kernel_rfl
@[simp] theorem k118_7 : ch.keep 118 7 = [1, 60] := by kernel_rfl
@[simp] theorem k118_8 : ch.keep 118 8 = [2] := by kernel_rfl
@[simp] theorem k118_9 : ch.keep 118 9 = [1, 78] := by kernel_rfl
@[simp] theorem k118_10 : ch.keep 118 10 = [2] := by kernel_rfl
@[simp] theorem k118_11 : ch.keep 118 11 = [2] := by kernel_rfl
noncomputable def code118 : Code := match Tryz.f118.body with | some c => c | none => .skip
theorem rs118 : Tryz.f118.results.toList = [.tmp 2] := rfl
theorem W118_of {args : List D} (ha : args.all (D.noRef 0 0) = true) (hl : args.length ≤ 98) {H : Hp} {o : Out × Hp}
    (h : alone H (fnOut Tryz.prog [.tmp 2] 0 0 (E false ⟨0, 0⟩ 118 code118 (mkF 0 args) H00)) = some o) : W 118 args H = some o :=
  W_of Tryz.func118 rfl (by kernel_rfl) rfl rfl ha (by rw [Tryz.ntmps118]; exact hl) h
/-! ### f118: strconv.Itoa -/
@[simp] theorem k119_0 : ch.keep 119 0 = [0] := by kernel_rfl
@[simp] theorem k119_1 : ch.keep 119 1 = [2] := by kernel_rfl
noncomputable def code119 : Code := match Tryz.f119.body with | some c => c | none => .skip
theorem rs119 : Tryz.f119.results.toList = [.tmp 2] := rfl
/-! ### f119: strconv.FormatBool -/
@[simp] theorem k120_0 : ch.keep 120 0 = [0] := by kernel_rfl
@[simp] theorem k120_1 : ch.keep 120 1 = [2] := by kernel_rfl
noncomputable def code120 : Code := match Tryz.f120.body with | some c => c | none => .skip
theorem rs120 : Tryz.f120.results.toList = [.tmp 2] := rfl
theorem W120_of {args : List D} (ha : args.all (D.noRef 0 0) = true) (hl : args.length ≤ 5) {H : Hp} {o : Out × Hp}
    (h : alone H (fnOut Tryz.prog [.tmp 2] 0 0 (E false ⟨0, 0⟩ 120 code120 (mkF 0 args) H00)) = some o) : W 120 args H = some o :=
  W_of Tryz.func120 rfl (by kernel_rfl) rfl rfl ha (by rw [Tryz.ntmps120]; exact hl) h
/-! ### f120: sward/value.listed -/
@[simp] theorem k121_0 : ch.keep 121 0 = [0] := by kernel_rfl
@[simp] theorem k121_1 : ch.keep 121 1 = [0, 3] := by kernel_rfl
@[simp] theorem k121_2 : ch.keep 121 2 = [3, 6, 7, 8] := by kernel_rfl
@[simp] theorem k121_3 : ch.keep 121 3 = [3, 6, 7, 8, 9] := by kernel_rfl
@[simp] theorem k121_4 : ch.keep 121 4 = [3, 4, 5, 6, 7, 8] := by kernel_rfl
@[simp] theorem k121_5 : ch.keep 121 5 = [3, 5, 6, 7, 8, 14] := by kernel_rfl
@[simp] theorem k121_6 : ch.keep 121 6 = [3, 5, 6, 7, 8] := by kernel_rfl
@[simp] theorem k121_7 : ch.keep 121 7 = [3, 6, 7, 8] := by kernel_rfl
@[simp] theorem k121_8 : ch.keep 121 8 = [3, 6, 7, 8] := by kernel_rfl
@[simp] theorem k121_9 : ch.keep 121 9 = [2] := by kernel_rfl
noncomputable def code121 : Code := match Tryz.f121.body with | some c => c | none => .skip
noncomputable def lp121_0 : Code := match code121 with | .seq _ (.seq _ (.seq (.seq _ (.block _ (.loop c))) _)) => c | c => c
theorem hd121_0 : ch.head 121 (firstR lp121_0) = [3, 6, 7, 8] := by kernel_rfl
theorem rs121 : Tryz.f121.results.toList = [.tmp 2] := rfl
theorem W121_of {args : List D} (ha : args.all (D.noRef 0 0) = true) (hl : args.length ≤ 23) {H : Hp} {o : Out × Hp}
    (h : alone H (fnOut Tryz.prog [.tmp 2] 0 0 (E false ⟨0, 0⟩ 121 code121 (mkF 0 args) H00)) = some o) : W 121 args H = some o :=
  W_of Tryz.func121 rfl (by kernel_rfl) rfl rfl ha (by rw [Tryz.ntmps121]; exact hl) h
/-! ### f121: sward/swardref01.word -/
@[simp] theorem k122_0 : ch.keep 122 0 = [0, 1] := by kernel_rfl
@[simp] theorem k122_1 : ch.keep 122 1 = [0, 1, 5] := by kernel_rfl
@[simp] theorem k122_2 : ch.keep 122 2 = [0, 1, 5, 35] := by kernel_rfl
@[simp] theorem k122_3 : ch.keep 122 3 = [0, 1, 5] := by kernel_rfl
@[simp] theorem k122_4 : ch.keep 122 4 = [4] := by kernel_rfl
noncomputable def code122 : Code := match Tryz.f122.body with | some c => c | none => .skip
noncomputable def lp122_0 : Code := match code122 with | .seq _ (.seq _ (.seq (.block _ (.loop c)) _)) => c | c => c
theorem hd122_0 : ch.head 122 (firstR lp122_0) = [0, 1, 5] := by kernel_rfl
theorem rs122 : Tryz.f122.results.toList = [.tmp 4] := rfl
theorem W122_of {args : List D} (ha : args.all (D.noRef 0 0) = true) (hl : args.length ≤ 39) {H : Hp} {o : Out × Hp}
    (h : alone H (fnOut Tryz.prog [.tmp 4] 0 0 (E false ⟨0, 0⟩ 122 code122 (mkF 0 args) H00)) = some o) : W 122 args H = some o :=
  W_of Tryz.func122 rfl (by kernel_rfl) rfl rfl ha (by rw [Tryz.ntmps122]; exact hl) h
/-! ### f122: sward/swardref01.plain -/
@[simp] theorem k123_0 : ch.keep 123 0 = [0, 2] := by kernel_rfl
@[simp] theorem k123_1 : ch.keep 123 1 = [0, 2, 11] := by kernel_rfl
@[simp] theorem k123_2 : ch.keep 123 2 = [2, 3] := by kernel_rfl
@[simp] theorem k123_3 : ch.keep 123 3 = [2, 4, 5] := by kernel_rfl
@[simp] theorem k123_4 : ch.keep 123 4 = [2, 4, 29] := by kernel_rfl
@[simp] theorem k123_5 : ch.keep 123 5 = [2, 3] := by kernel_rfl
@[simp] theorem k123_6 : ch.keep 123 6 = [2, 3] := by kernel_rfl
noncomputable def code123 : Code := match Tryz.f123.body with | some c => c | none => .skip
theorem rs123 : Tryz.f123.results.toList = [.cell 2 25, .tmp 3] := rfl
theorem W123_of {args : List D} (ha : args.all (D.noRef 0 0) = true) (hl : args.length ≤ 35) {H : Hp} {o : Out × Hp}
    (h : alone H (fnOut Tryz.prog [.cell 2 25, .tmp 3] 0 0 (E false ⟨0, 0⟩ 123 code123 (mkF 0 args) H00)) = some o) : W 123 args H = some o :=
  W_of Tryz.func123 rfl (by kernel_rfl) rfl rfl ha (by rw [Tryz.ntmps123]; exact hl) h
/-! ### f123: cmp.Compare[sward/api.ValueKind] -/
@[simp] theorem k124_0 : ch.keep 124 0 = [0, 1] := by kernel_rfl
@[simp] theorem k124_1 : ch.keep 124 1 = [0, 1, 5] := by kernel_rfl
@[simp] theorem k124_2 : ch.keep 124 2 = [0, 1, 5, 6] := by kernel_rfl
@[simp] theorem k124_3 : ch.keep 124 3 = [0, 1, 6, 11] := by kernel_rfl
@[simp] theorem k124_4 : ch.keep 124 4 = [12] := by kernel_rfl
@[simp] theorem k124_5 : ch.keep 124 5 = [4] := by kernel_rfl
@[simp] theorem k124_6 : ch.keep 124 6 = [4] := by kernel_rfl
@[simp] theorem k124_7 : ch.keep 124 7 = [0, 1, 13] := by kernel_rfl
@[simp] theorem k124_8 : ch.keep 124 8 = [4] := by kernel_rfl
@[simp] theorem k124_9 : ch.keep 124 9 = [0, 1, 16] := by kernel_rfl
@[simp] theorem k124_10 : ch.keep 124 10 = [4] := by kernel_rfl
@[simp] theorem k124_11 : ch.keep 124 11 = [19] := by kernel_rfl
@[simp] theorem k124_12 : ch.keep 124 12 = [4] := by kernel_rfl
@[simp] theorem k124_13 : ch.keep 124 13 = [4] := by kernel_rfl
noncomputable def code124 : Code := match Tryz.f124.body with | some c => c | none => .skip
theorem rs124 : Tryz.f124.results.toList = [.tmp 4] := rfl
theorem W124_of {args : List D} (ha : args.all (D.noRef 0 0) = true) (hl : args.length ≤ 20) {H : Hp} {o : Out × Hp}
    (h : alone H (fnOut Tryz.prog [.tmp 4] 0 0 (E false ⟨0, 0⟩ 124 code124 (mkF 0 args) H00)) = some o) : W 124 args H = some o :=
  W_of Tryz.func124 rfl (by kernel_rfl) rfl rfl ha (by rw [Tryz.ntmps124]; exact hl) h
/-! ### f124: (sward/value.pair).numbers -/
@[simp] theorem k125_0 : ch.keep 125 0 = [1] := by kernel_rfl
@[simp] theorem k125_1 : ch.keep 125 1 = [2] := by kernel_rfl
noncomputable def code125 : Code := match Tryz.f125.body with | some c => c | none => .skip
theorem rs125 : Tryz.f125.results.toList = [.tmp 2] := rfl
theorem W125_of {args : List D} (ha : args.all (D.noRef 0 0) = true) (hl : args.length ≤ 10) {H : Hp} {o : Out × Hp}
    (h : alone H (fnOut Tryz.prog [.tmp 2] 0 0 (E false ⟨0, 0⟩ 125 code125 (mkF 0 args) H00)) = some o) : W 125 args H = some o :=
  W_of Tryz.func125 rfl (by kernel_rfl) rfl rfl ha (by rw [Tryz.ntmps125]; exact hl) h
/-! ### f125: (sward/value.pair).words -/
@[simp] theorem k126_0 : ch.keep 126 0 = [1] := by kernel_rfl
@[simp] theorem k126_1 : ch.keep 126 1 = [2] := by kernel_rfl
noncomputable def code126 : Code := match Tryz.f126.body with | some c => c | none => .skip
theorem rs126 : Tryz.f126.results.toList = [.tmp 2] := rfl
theorem W126_of {args : List D} (ha : args.all (D.noRef 0 0) = true) (hl : args.length ≤ 10) {H : Hp} {o : Out × Hp}
    (h : alone H (fnOut Tryz.prog [.tmp 2] 0 0 (E false ⟨0, 0⟩ 126 code126 (mkF 0 args) H00)) = some o) : W 126 args H = some o :=
  W_of Tryz.func126 rfl (by kernel_rfl) rfl rfl ha (by rw [Tryz.ntmps126]; exact hl) h
/-! ### f126: (sward/value.pair).lists -/
@[simp] theorem k127_0 : ch.keep 127 0 = [1] := by kernel_rfl
@[simp] theorem k127_1 : ch.keep 127 1 = [1, 3] := by kernel_rfl
@[simp] theorem k127_2 : ch.keep 127 2 = [1, 3, 14] := by kernel_rfl
@[simp] theorem k127_3 : ch.keep 127 3 = [2] := by kernel_rfl
@[simp] theorem k127_4 : ch.keep 127 4 = [2] := by kernel_rfl
noncomputable def code127 : Code := match Tryz.f127.body with | some c => c | none => .skip
theorem rs127 : Tryz.f127.results.toList = [.tmp 2] := rfl
theorem W127_of {args : List D} (ha : args.all (D.noRef 0 0) = true) (hl : args.length ≤ 23) {H : Hp} {o : Out × Hp}
    (h : alone H (fnOut Tryz.prog [.tmp 2] 0 0 (E false ⟨0, 0⟩ 127 code127 (mkF 0 args) H00)) = some o) : W 127 args H = some o :=
  W_of Tryz.func127 rfl (by kernel_rfl) rfl rfl ha (by rw [Tryz.ntmps127]; exact hl) h
/-! ### f127: sward/value.merged[sward/api.Value] -/
@[simp] theorem k128_0 : ch.keep 128 0 = [0, 1, 2] := by kernel_rfl
@[simp] theorem k128_1 : ch.keep 128 1 = [0, 1, 2, 7] := by kernel_rfl
@[simp] theorem k128_2 : ch.keep 128 2 = [0, 1, 2, 7, 8, 9] := by kernel_rfl
@[simp] theorem k128_3 : ch.keep 128 3 = [0, 1, 2, 7, 8, 9, 11] := by kernel_rfl
@[simp] theorem k128_4 : ch.keep 128 4 = [7] := by kernel_rfl
@[simp] theorem k128_5 : ch.keep 128 5 = [0, 1, 2, 7, 8, 9, 21] := by kernel_rfl
@[simp] theorem k128_6 : ch.keep 128 6 = [7] := by kernel_rfl
@[simp] theorem k128_7 : ch.keep 128 7 = [0, 1, 2, 7, 8, 9, 10] := by kernel_rfl
@[simp] theorem k128_8 : ch.keep 128 8 = [0, 1, 2, 7, 8, 9, 10, 42] := by kernel_rfl
@[simp] theorem k128_9 : ch.keep 128 9 = [0, 1, 2, 7, 8, 9, 10] := by kernel_rfl
@[simp] theorem k128_10 : ch.keep 128 10 = [0, 1, 2, 7, 8, 9, 10] := by kernel_rfl
@[simp] theorem k128_11 : ch.keep 128 11 = [0, 1, 2, 7, 8, 9, 10] := by kernel_rfl
@[simp] theorem k128_12 : ch.keep 128 12 = [0, 1, 2, 7, 8, 9, 60] := by kernel_rfl
@[simp] theorem k128_13 : ch.keep 128 13 = [0, 1, 2, 7, 8, 9] := by kernel_rfl
@[simp] theorem k128_14 : ch.keep 128 14 = [6] := by kernel_rfl
@[simp] theorem fl128_7 : ch.fl 128 7 = [1, 1, 1, 1, 1, 1, 1, 1, 1, 0, 0] := by kernel_rfl
noncomputable def code128 : Code := match Tryz.f128.body with | some c => c | none => .skip
noncomputable def lp128_0 : Code := match code128 with | .seq _ (.scope (.seq _ (.seq _ (.seq _ (.seq (.block _ (.loop c)) _))))) => c | c => c
theorem hd128_0 : ch.head 128 (firstR lp128_0) = [0, 1, 2, 7, 8, 9] := by kernel_rfl
theorem rs128 : Tryz.f128.results.toList = [.tmp 6] := rfl
theorem W128_of {args : List D} (ha : args.all (D.noRef 0 0) = true) (hl : args.length ≤ 64) {H : Hp} {o : Out × Hp}
    (h : alone H (fnOut Tryz.prog [.tmp 6] 0 0 (E false ⟨0, 0⟩ 128 code128 (mkF 0 args) H00)) = some o) : W 128 args H = some o :=
  W_of Tryz.func128 rfl (by kernel_rfl) rfl rfl ha (by rw [Tryz.ntmps128]; exact hl) h
/-! ### f128: slices.AppendSeq[[]sward/api.Value,sward/api.Value] -/
@[simp] theorem k129_0 : ch.keep 129 0 = [1, 2, 4] := by kernel_rfl
@[simp] theorem k129_1 : ch.keep 129 1 = [2, 4, 6] := by kernel_rfl
@[simp] theorem k129_2 : ch.keep 129 2 = [2, 5] := by kernel_rfl
@[simp] theorem k129_3 : ch.keep 129 3 = [] := by kernel_rfl
@[simp] theorem k129_4 : ch.keep 129 4 = [4] := by kernel_rfl
@[simp] theorem fl129_3 : ch.fl 129 3 = [1, 1, 1, 1, 0, 4, 4, 5] := by kernel_rfl
noncomputable def code129 : Code := match Tryz.f129.body with | some c => c | none => .skip
theorem rs129 : Tryz.f129.results.toList = [.tmp 4] := rfl
theorem W129_ofH {args : List D} {H : Hp} (hp : ¬ (ch.pure 129 = true ∧ args.all (D.noRef 0 0) = true)) (hl : args.length ≤ 15) {o : Out × Hp}
    (h : fnOut Tryz.prog [.tmp 4] H.B.length H.A.length (E true ⟨0, 0⟩ 129 code129 (mkF 0 args) H) = some o) : W 129 args H = some o :=
  W_ofH Tryz.func129 rfl (by kernel_rfl) rfl hp (by rw [Tryz.ntmps129]; exact hl) h
/-! ### f129: sward/value.kept$1 -/
@[simp] theorem k130_0 : ch.keep 130 0 = [0, 2, 3, 8, 9, 10] := by kernel_rfl
@[simp] theorem k130_1 : ch.keep 130 1 = [0, 2, 3, 8, 9, 10, 11] := by kernel_rfl
@[simp] theorem k130_2 : ch.keep 130 2 = [0, 2, 3, 6, 8, 9, 10] := by kernel_rfl
@[simp] theorem k130_3 : ch.keep 130 3 = [0, 2, 3, 8, 9, 10, 25] := by kernel_rfl
@[simp] theorem k130_4 : ch.keep 130 4 = [0, 2, 3, 8, 9, 10] := by kernel_rfl
@[simp] theorem fl130_3 : ch.fl 130 3 = [1, 1, 1, 1, 1, 0, 0, 1, 1, 0, 0, 0] := by kernel_rfl
noncomputable def code130 : Code := match Tryz.f130.body with | some c => c | none => .skip
noncomputable def lp130_0 : Code := match code130 with | .seq _ (.block _ (.loop c)) => c | c => c
theorem hd130_0 : ch.head 130 (firstR lp130_0) = [0, 2, 3, 8, 9, 10] := by kernel_rfl
theorem rs130 : Tryz.f130.results.toList = [] := rfl
theorem W130_ofH {args : List D} {H : Hp} (hp : ¬ (ch.pure 130 = true ∧ args.all (D.noRef 0 0) = true)) (hl : args.length ≤ 27) {o : Out × Hp}
    (h : fnOut Tryz.prog [] H.B.length H.A.length (E false ⟨0, 0⟩ 130 code130 (mkF 0 args) H) = some o) : W 130 args H = some o :=
  W_ofH Tryz.func130 rfl (by kernel_rfl) rfl hp (by rw [Tryz.ntmps130]; exact hl) h
/-! ### f130: slices.BinarySearchFunc[[]sward/api.Value,sward/api.Value,sward/api.Value] -/
@[simp] theorem k131_0 : ch.keep 131 0 = [0, 2, 4] := by kernel_rfl
@[simp] theorem k131_1 : ch.keep 131 1 = [0, 2, 4, 8] := by kernel_rfl
@[simp] theorem k131_2 : ch.keep 131 2 = [0, 2, 4, 8, 9, 10] := by kernel_rfl
@[simp] theorem k131_3 : ch.keep 131 3 = [0, 2, 4, 8, 9, 10, 17] := by kernel_rfl
@[simp] theorem k131_4 : ch.keep 131 4 = [0, 2, 4, 8, 9, 10, 11] := by kernel_rfl
@[simp] theorem k131_5 : ch.keep 131 5 = [0, 2, 4, 8, 9, 10, 11, 31] := by kernel_rfl
@[simp] theorem k131_6 : ch.keep 131 6 = [0, 2, 4, 8, 9, 10] := by kernel_rfl
@[simp] theorem k131_7 : ch.keep 131 7 = [0, 2, 4, 8, 9, 10] := by kernel_rfl
@[simp] theorem k131_8 : ch.keep 131 8 = [6, 7] := by kernel_rfl
@[simp] theorem fl131_5 : ch.fl 131 5 = [1, 1, 1, 1, 1, 1, 0, 0] := by kernel_rfl
@[simp] theorem fl131_8 : ch.fl 131 8 = [1, 1, 1, 1, 1, 1, 1, 1, 1, 1, 1, 1, 1, 1, 1, 0] := by kernel_rfl
noncomputable def code131 : Code := match Tryz.f131.body with | some c => c | none => .skip
noncomputable def lp131_0 : Code := match code131 with | .seq _ (.seq _ (.seq _ (.seq (.block _ (.loop c)) _))) => c | c => c
theorem hd131_0 : ch.head 131 (firstR lp131_0) = [0, 2, 4, 8, 9, 10] := by kernel_rfl
theorem rs131 : Tryz.f131.results.toList = [.tmp 6, .tmp 7] := rfl
theorem W131_of {args : List D} (ha : args.all (D.noRef 0 0) = true) (hl : args.length ≤ 49) {H : Hp} {o : Out × Hp}
    (h : alone H (fnOut Tryz.prog [.tmp 6, .tmp 7] 0 0 (E false ⟨0, 0⟩ 131 code131 (mkF 0 args) H00)) = some o) : W 131 args H = some o :=
  W_of Tryz.func131 rfl (by kernel_rfl) rfl rfl ha (by rw [Tryz.ntmps131]; exact hl) h
/-! ### f131: (*sward/value.reader).next -/
@[simp] theorem k132_0 : ch.keep 132 0 = [0] := by kernel_rfl
@[simp] theorem k132_1 : ch.keep 132 1 = [0] := by kernel_rfl
@[simp] theorem k132_2 : ch.keep 132 2 = [0, 3] := by kernel_rfl
@[simp] theorem k132_3 : ch.keep 132 3 = [3] := by kernel_rfl
@[simp] theorem k132_4 : ch.keep 132 4 = [2] := by kernel_rfl
@[simp] theorem fl132_1 : ch.fl 132 1 = [1, 1, 1, 1, 1, 1, 1, 1, 1, 1, 1, 0] := by kernel_rfl
@[simp] theorem fl132_2 : ch.fl 132 2 = [1, 1, 1, 1, 1, 1, 1, 1, 0, 0, 0] := by kernel_rfl
noncomputable def code132 : Code := match Tryz.f132.body with | some c => c | none => .skip
theorem rs132 : Tryz.f132.results.toList = [.tmp 2] := rfl
theorem W132_ofH {args : List D} {H : Hp} (hp : ¬ (ch.pure 132 = true ∧ args.all (D.noRef 0 0) = true)) (hl : args.length ≤ 34) {o : Out × Hp}
    (h : fnOut Tryz.prog [.tmp 2] H.B.length H.A.length (E false ⟨0, 0⟩ 132 code132 (mkF 0 args) H) = some o) : W 132 args H = some o :=
  W_ofH Tryz.func132 rfl (by kernel_rfl) rfl hp (by rw [Tryz.ntmps132]; exact hl) h
/-! ### f132: sward/swardref01.digit -/
@[simp] theorem k133_0 : ch.keep 133 0 = [0] := by kernel_rfl
@[simp] theorem k133_1 : ch.keep 133 1 = [2] := by kernel_rfl
noncomputable def code133 : Code := match Tryz.f133.body with | some c => c | none => .skip
theorem rs133 : Tryz.f133.results.toList = [.tmp 2] := rfl
theorem W133_of {args : List D} (ha : args.all (D.noRef 0 0) = true) (hl : args.length ≤ 7) {H : Hp} {o : Out × Hp}
    (h : alone H (fnOut Tryz.prog [.tmp 2] 0 0 (E false ⟨0, 0⟩ 133 code133 (mkF 0 args) H00)) = some o) : W 133 args H = some o :=
  W_of Tryz.func133 rfl (by kernel_rfl) rfl rfl ha (by rw [Tryz.ntmps133]; exact hl) h
/-! ### f133: slices.IndexFunc[[]sward/api.Value,sward/api.Value] -/
@[simp] theorem k134_0 : ch.keep 134 0 = [0, 1] := by kernel_rfl
@[simp] theorem k134_1 : ch.keep 134 1 = [0, 1, 7, 8] := by kernel_rfl
@[simp] theorem k134_2 : ch.keep 134 2 = [0, 1, 7, 8, 9] := by kernel_rfl
@[simp] theorem k134_3 : ch.keep 134 3 = [0, 1, 5, 7, 8] := by kernel_rfl
@[simp] theorem k134_4 : ch.keep 134 4 = [0, 1, 5, 7, 8, 16] := by kernel_rfl
@[simp] theorem k134_5 : ch.keep 134 5 = [4] := by kernel_rfl
@[simp] theorem k134_6 : ch.keep 134 6 = [0, 1, 7, 8] := by kernel_rfl
@[simp] theorem k134_7 : ch.keep 134 7 = [4] := by kernel_rfl
noncomputable def code134 : Code := match Tryz.f134.body with | some c => c | none => .skip
noncomputable def lp134_0 : Code := match code134 with | .seq _ (.seq (.seq _ (.block _ (.loop c))) _) => c | c => c
theorem hd134_0 : ch.head 134 (firstR lp134_0) = [0, 1, 7, 8] := by kernel_rfl
theorem rs134 : Tryz.f134.results.toList = [.tmp 4] := rfl
theorem W134_of {args : List D} (ha : args.all (D.noRef 0 0) = true) (hl : args.length ≤ 19) {H : Hp} {o : Out × Hp}
    (h : alone H (fnOut Tryz.prog [.tmp 4] 0 0 (E false ⟨0, 0⟩ 134 code134 (mkF 0 args) H00)) = some o) : W 134 args H = some o :=
  W_of Tryz.func134 rfl (by kernel_rfl) rfl rfl ha (by rw [Tryz.ntmps134]; exact hl) h
/-! ### f134: sward/value.find$1 -/
@[simp] theorem k135_0 : ch.keep 135 0 = [1, 2] := by kernel_rfl
@[simp] theorem k135_1 : ch.keep 135 1 = [3] := by kernel_rfl
@[simp] theorem fl135_1 : ch.fl 135 1 = [1, 1, 1, 1, 1, 0, 0, 0] := by kernel_rfl
noncomputable def code135 : Code := match Tryz.f135.body with | some c => c | none => .skip
theorem rs135 : Tryz.f135.results.toList = [.tmp 3] := rfl
theorem W135_of {args : List D} (ha : args.all (D.noRef 0 0) = true) (hl : args.length ≤ 11) {H : Hp} {o : Out × Hp}
    (h : alone H (fnOut Tryz.prog [.tmp 3] 0 0 (E false ⟨0, 0⟩ 135 code135 (mkF 0 args) H00)) = some o) : W 135 args H = some o :=
  W_of Tryz.func135 rfl (by kernel_rfl) rfl rfl ha (by rw [Tryz.ntmps135]; exact hl) h
/-! ### f137: sward/swardref01.Tuple -/
@[simp] theorem k138_0 : ch.keep 138 0 = [0, 2] := by kernel_rfl
@[simp] theorem k138_1 : ch.keep 138 1 = [2] := by kernel_rfl
noncomputable def code138 : Code := match Tryz.f138.body with | some c => c | none => .skip
theorem rs138 : Tryz.f138.results.toList = [.cell 2 25] := rfl
theorem W138_of {args : List D} (ha : args.all (D.noRef 0 0) = true) (hl : args.length ≤ 5) {H : Hp} {o : Out × Hp}
    (h : alone H (fnOut Tryz.prog [.cell 2 25] 0 0 (E false ⟨0, 0⟩ 138 code138 (mkF 0 args) H00)) = some o) : W 138 args H = some o :=
  W_of Tryz.func138 rfl (by kernel_rfl) rfl rfl ha (by rw [Tryz.ntmps138]; exact hl) h
/-! ### f138: slices.ContainsFunc[[]sward/api.Value,sward/api.Value] -/
@[simp] theorem k139_0 : ch.keep 139 0 = [0, 1] := by kernel_rfl
@[simp] theorem k139_1 : ch.keep 139 1 = [4] := by kernel_rfl
noncomputable def code139 : Code := match Tryz.f139.body with | some c => c | none => .skip
theorem rs139 : Tryz.f139.results.toList = [.tmp 4] := rfl
theorem W139_of {args : List D} (ha : args.all (D.noRef 0 0) = true) (hl : args.length ≤ 9) {H : Hp} {o : Out × Hp}
    (h : alone H (fnOut Tryz.prog [.tmp 4] 0 0 (E false ⟨0, 0⟩ 139 code139 (mkF 0 args) H00)) = some o) : W 139 args H = some o :=
  W_of Tryz.func139 rfl (by kernel_rfl) rfl rfl ha (by rw [Tryz.ntmps139]; exact hl) h
/-! ### f139: sward/value.shaped$1 -/
@[simp] theorem k140_0 : ch.keep 140 0 = [1] := by kernel_rfl
@[simp] theorem k140_1 : ch.keep 140 1 = [2] := by kernel_rfl
noncomputable def code140 : Code := match Tryz.f140.body with | some c => c | none => .skip
theorem rs140 : Tryz.f140.results.toList = [.tmp 2] := rfl
theorem W140_of {args : List D} (ha : args.all (D.noRef 0 0) = true) (hl : args.length ≤ 6) {H : Hp} {o : Out × Hp}
    (h : alone H (fnOut Tryz.prog [.tmp 2] 0 0 (E false ⟨0, 0⟩ 140 code140 (mkF 0 args) H00)) = some o) : W 140 args H = some o :=
  W_of Tryz.func140 rfl (by kernel_rfl) rfl rfl ha (by rw [Tryz.ntmps140]; exact hl) h
/-! ### f140: sward/value.spelled -/
@[simp] theorem k141_0 : ch.keep 141 0 = [0] := by kernel_rfl
@[simp] theorem k141_1 : ch.keep 141 1 = [0, 6] := by kernel_rfl
@[simp] theorem k141_2 : ch.keep 141 2 = [0, 6, 7, 8] := by kernel_rfl
@[simp] theorem k141_3 : ch.keep 141 3 = [0, 4, 6] := by kernel_rfl
@[simp] theorem k141_4 : ch.keep 141 4 = [0, 6, 23] := by kernel_rfl
@[simp] theorem k141_5 : ch.keep 141 5 = [2] := by kernel_rfl
@[simp] theorem k141_6 : ch.keep 141 6 = [2] := by kernel_rfl
noncomputable def code141 : Code := match Tryz.f141.body with | some c => c | none => .skip
noncomputable def lp141_0 : Code := match code141 with | .seq _ (.seq (.seq _ (.block _ (.loop c))) _) => c | c => c
theorem hd141_0 : ch.head 141 (firstR lp141_0) = [0, 6] := by kernel_rfl
theorem rs141 : Tryz.f141.results.toList = [.tmp 2] := rfl
theorem W141_of {args : List D} (ha : args.all (D.noRef 0 0) = true) (hl : args.length ≤ 27) {H : Hp} {o : Out × Hp}
    (h : alone H (fnOut Tryz.prog [.tmp 2] 0 0 (E false ⟨0, 0⟩ 141 code141 (mkF 0 args) H00)) = some o) : W 141 args H = some o :=
  W_of Tryz.func141 rfl (by kernel_rfl) rfl rfl ha (by rw [Tryz.ntmps141]; exact hl) h
/-! ### f141: (*sward/value.reader).number$1 -/
@[simp] theorem k142_0 : ch.keep 142 0 = [0] := by kernel_rfl
@[simp] theorem k142_1 : ch.keep 142 1 = [2] := by kernel_rfl
noncomputable def code142 : Code := match Tryz.f142.body with | some c => c | none => .skip
theorem rs142 : Tryz.f142.results.toList = [.tmp 2] := rfl
theorem W142_of {args : List D} (ha : args.all (D.noRef 0 0) = true) (hl : args.length ≤ 9) {H : Hp} {o : Out × Hp}
    (h : alone H (fnOut Tryz.prog [.tmp 2] 0 0 (E false ⟨0, 0⟩ 142 code142 (mkF 0 args) H00)) = some o) : W 142 args H = some o :=
  W_of Tryz.func142 rfl (by kernel_rfl) rfl rfl ha (by rw [Tryz.ntmps142]; exact hl) h
/-! ### f142: internal/strconv.Itoa -/
@[simp] theorem k143_0 : ch.keep 143 0 = [0] := by kernel_rfl
@[simp] theorem k143_1 : ch.keep 143 1 = [2] := by kernel_rfl
noncomputable def code143 : Code := match Tryz.f143.body with | some c => c | none => .skip
theorem rs143 : Tryz.f143.results.toList = [.tmp 2] := rfl
theorem W143_of {args : List D} (ha : args.all (D.noRef 0 0) = true) (hl : args.length ≤ 5) {H : Hp} {o : Out × Hp}
    (h : alone H (fnOut Tryz.prog [.tmp 2] 0 0 (E false ⟨0, 0⟩ 143 code143 (mkF 0 args) H00)) = some o) : W 143 args H = some o :=
  W_of Tryz.func143 rfl (by kernel_rfl) rfl rfl ha (by rw [Tryz.ntmps143]; exact hl) h
/-! ### f143: internal/strconv.FormatBool -/
@[simp] theorem k144_0 : ch.keep 144 0 = [0] := by kernel_rfl
@[simp] theorem k144_1 : ch.keep 144 1 = [3] := by kernel_rfl
@[simp] theorem k144_2 : ch.keep 144 2 = [2] := by kernel_rfl
@[simp] theorem k144_3 : ch.keep 144 3 = [2] := by kernel_rfl
noncomputable def code144 : Code := match Tryz.f144.body with | some c => c | none => .skip
theorem rs144 : Tryz.f144.results.toList = [.tmp 2] := rfl
theorem W144_of {args : List D} (ha : args.all (D.noRef 0 0) = true) (hl : args.length ≤ 4) {H : Hp} {o : Out × Hp}
    (h : alone H (fnOut Tryz.prog [.tmp 2] 0 0 (E false ⟨0, 0⟩ 144 code144 (mkF 0 args) H00)) = some o) : W 144 args H = some o :=
  W_of Tryz.func144 rfl (by kernel_rfl) rfl rfl ha (by rw [Tryz.ntmps144]; exact hl) h
/-! ### f144: sward/swardref01.Numbers -/
@[simp] theorem k145_0 : ch.keep 145 0 = [0, 1] := by kernel_rfl
@[simp] theorem k145_1 : ch.keep 145 1 = [0, 1, 6] := by kernel_rfl
@[simp] theorem k145_2 : ch.keep 145 2 = [0, 1, 6, 7] := by kernel_rfl
@[simp] theorem k145_3 : ch.keep 145 3 = [0, 1, 6, 7, 13] := by kernel_rfl
@[simp] theorem k145_4 : ch.keep 145 4 = [0, 1, 6, 7] := by kernel_rfl
@[simp] theorem k145_5 : ch.keep 145 5 = [0, 1, 6, 7, 8, 9] := by kernel_rfl
@[simp] theorem k145_6 : ch.keep 145 6 = [0, 1, 6, 7, 8, 26] := by kernel_rfl
@[simp] theorem k145_7 : ch.keep 145 7 = [4, 5] := by kernel_rfl
@[simp] theorem k145_8 : ch.keep 145 8 = [0, 1, 6, 7] := by kernel_rfl
@[simp] theorem k145_9 : ch.keep 145 9 = [4, 5] := by kernel_rfl
noncomputable def code145 : Code := match Tryz.f145.body with | some c => c | none => .skip
noncomputable def lp145_0 : Code := match code145 with | .seq _ (.seq _ (.seq (.seq _ (.block _ (.loop c))) _)) => c | c => c
theorem hd145_0 : ch.head 145 (firstR lp145_0) = [0, 1, 6, 7] := by kernel_rfl
theorem rs145 : Tryz.f145.results.toList = [.tmp 4, .tmp 5] := rfl
theorem W145_of {args : List D} (ha : args.all (D.noRef 0 0) = true) (hl : args.length ≤ 32) {H : Hp} {o : Out × Hp}
    (h : alone H (fnOut Tryz.prog [.tmp 4, .tmp 5] 0 0 (E false ⟨0, 0⟩ 145 code145 (mkF 0 args) H00)) = some o) : W 145 args H = some o :=
  W_of Tryz.func145 rfl (by kernel_rfl) rfl rfl ha (by rw [Tryz.ntmps145]; exact hl) h
/-! ### f145: cmp.isNaN[sward/api.ValueKind] -/
@[simp] theorem k146_0 : ch.keep 146 0 = [0] := by kernel_rfl
@[simp] theorem k146_1 : ch.keep 146 1 = [2] := by kernel_rfl
noncomputable def code146 : Code := match Tryz.f146.body with | some c => c | none => .skip
theorem rs146 : Tryz.f146.results.toList = [.tmp 2] := rfl
theorem W146_of {args : List D} (ha : args.all (D.noRef 0 0) = true) (hl : args.length ≤ 6) {H : Hp} {o : Out × Hp}
    (h : alone H (fnOut Tryz.prog [.tmp 2] 0 0 (E false ⟨0, 0⟩ 146 code146 (mkF 0 args) H00)) = some o) : W 146 args H = some o :=
  W_of Tryz.func146 rfl (by kernel_rfl) rfl rfl ha (by rw [Tryz.ntmps146]; exact hl) h
/-! ### f146: cmp.Compare[int] -/
@[simp] theorem k147_0 : ch.keep 147 0 = [0, 1] := by kernel_rfl
@[simp] theorem k147_1 : ch.keep 147 1 = [0, 1, 5] := by kernel_rfl
@[simp] theorem k147_2 : ch.keep 147 2 = [0, 1, 5, 6] := by kernel_rfl
@[simp] theorem k147_3 : ch.keep 147 3 = [0, 1, 6, 11] := by kernel_rfl
@[simp] theorem k147_4 : ch.keep 147 4 = [12] := by kernel_rfl
@[simp] theorem k147_5 : ch.keep 147 5 = [4] := by kernel_rfl
@[simp] theorem k147_6 : ch.keep 147 6 = [4] := by kernel_rfl
@[simp] theorem k147_7 : ch.keep 147 7 = [0, 1, 13] := by kernel_rfl
@[simp] theorem k147_8 : ch.keep 147 8 = [4] := by kernel_rfl
@[simp] theorem k147_9 : ch.keep 147 9 = [0, 1, 16] := by kernel_rfl
@[simp] theorem k147_10 : ch.keep 147 10 = [4] := by kernel_rfl
@[simp] theorem k147_11 : ch.keep 147 11 = [19] := by kernel_rfl
@[simp] theorem k147_12 : ch.keep 147 12 = [4] := by kernel_rfl
@[simp] theorem k147_13 : ch.keep 147 13 = [4] := by kernel_rfl
noncomputable def code147 : Code := match Tryz.f147.body with | some c => c | none => .skip
theorem rs147 : Tryz.f147.results.toList = [.tmp 4] := rfl
theorem W147_of {args : List D} (ha : args.all (D.noRef 0 0) = true) (hl : args.length ≤ 20) {H : Hp} {o : Out × Hp}
    (h : alone H (fnOut Tryz.prog [.tmp 4] 0 0 (E false ⟨0, 0⟩ 147 code147 (mkF 0 args) H00)) = some o) : W 147 args H = some o :=
  W_of Tryz.func147 rfl (by kernel_rfl) rfl rfl ha (by rw [Tryz.ntmps147]; exact hl) h
/-! ### f147: strings.Compare -/
@[simp] theorem k148_0 : ch.keep 148 0 = [0, 1] := by kernel_rfl
@[simp] theorem k148_1 : ch.keep 148 1 = [4] := by kernel_rfl
noncomputable def code148 : Code := match Tryz.f148.body with | some c => c | none => .skip
theorem rs148 : Tryz.f148.results.toList = [.tmp 4] := rfl
theorem W148_of {args : List D} (ha : args.all (D.noRef 0 0) = true) (hl : args.length ≤ 8) {H : Hp} {o : Out × Hp}
    (h : alone H (fnOut Tryz.prog [.tmp 4] 0 0 (E false ⟨0, 0⟩ 148 code148 (mkF 0 args) H00)) = some o) : W 148 args H = some o :=
  W_of Tryz.func148 rfl (by kernel_rfl) rfl rfl ha (by rw [Tryz.ntmps148]; exact hl) h
/-! ### f148: slices.CompareFunc[[]sward/api.Value,[]sward/api.Value,sward/api.Value,sward/api.Value] -/
@[simp] theorem k149_0 : ch.keep 149 0 = [0, 1, 2] := by kernel_rfl
@[simp] theorem k149_1 : ch.keep 149 1 = [0, 1, 2, 11, 12, 13] := by kernel_rfl
@[simp] theorem k149_2 : ch.keep 149 2 = [0, 1, 2, 11, 12, 13, 14] := by kernel_rfl
@[simp] theorem k149_3 : ch.keep 149 3 = [0, 1, 2, 7, 8, 11, 12, 13] := by kernel_rfl
@[simp] theorem k149_4 : ch.keep 149 4 = [0, 1, 2, 7, 8, 11, 12, 13, 21] := by kernel_rfl
@[simp] theorem k149_5 : ch.keep 149 5 = [6] := by kernel_rfl
@[simp] theorem k149_6 : ch.keep 149 6 = [0, 1, 2, 8, 9, 11, 12, 13] := by kernel_rfl
@[simp] theorem k149_7 : ch.keep 149 7 = [0, 1, 2, 10, 11, 12, 13] := by kernel_rfl
@[simp] theorem k149_8 : ch.keep 149 8 = [0, 1, 2, 10, 11, 12, 13, 31] := by kernel_rfl
@[simp] theorem k149_9 : ch.keep 149 9 = [6] := by kernel_rfl
@[simp] theorem k149_10 : ch.keep 149 10 = [0, 1, 2, 11, 12, 13] := by kernel_rfl
@[simp] theorem k149_11 : ch.keep 149 11 = [38] := by kernel_rfl
@[simp] theorem k149_12 : ch.keep 149 12 = [6] := by kernel_rfl
@[simp] theorem k149_13 : ch.keep 149 13 = [6] := by kernel_rfl
noncomputable def code149 : Code := match Tryz.f149.body with | some c => c | none => .skip
noncomputable def lp149_0 : Code := match code149 with | .seq _ (.seq (.seq _ (.block _ (.loop c))) _) => c | c => c
theorem hd149_0 : ch.head 149 (firstR lp149_0) = [0, 1, 2, 11, 12, 13] := by kernel_rfl
theorem rs149 : Tryz.f149.results.toList = [.tmp 6] := rfl
theorem W149_of {args : List D} (ha : args.all (D.noRef 0 0) = true) (hl : args.length ≤ 39) {H : Hp} {o : Out × Hp}
    (h : alone H (fnOut Tryz.prog [.tmp 6] 0 0 (E false ⟨0, 0⟩ 149 code149 (mkF 0 args) H00)) = some o) : W 149 args H = some o :=
  W_of Tryz.func149 rfl (by kernel_rfl) rfl rfl ha (by rw [Tryz.ntmps149]; exact hl) h
/-! ### f161: cmp.isNaN[int] -/
@[simp] theorem k162_0 : ch.keep 162 0 = [0] := by kernel_rfl
@[simp] theorem k162_1 : ch.keep 162 1 = [2] := by kernel_rfl
noncomputable def code162 : Code := match Tryz.f162.body with | some c => c | none => .skip
theorem rs162 : Tryz.f162.results.toList = [.tmp 2] := rfl
theorem W162_of {args : List D} (ha : args.all (D.noRef 0 0) = true) (hl : args.length ≤ 6) {H : Hp} {o : Out × Hp}
    (h : alone H (fnOut Tryz.prog [.tmp 2] 0 0 (E false ⟨0, 0⟩ 162 code162 (mkF 0 args) H00)) = some o) : W 162 args H = some o :=
  W_of Tryz.func162 rfl (by kernel_rfl) rfl rfl ha (by rw [Tryz.ntmps162]; exact hl) h
/-! ### f195: (sward/value.integer).parts -/
@[simp] theorem k196_0 : ch.keep 196 0 = [] := by kernel_rfl
@[simp] theorem k196_1 : ch.keep 196 1 = [2] := by kernel_rfl
noncomputable def code196 : Code := match Tryz.f196.body with | some c => c | none => .skip
theorem rs196 : Tryz.f196.results.toList = [.tmp 2] := rfl
theorem W196_of {args : List D} (ha : args.all (D.noRef 0 0) = true) (hl : args.length ≤ 3) {H : Hp} {o : Out × Hp}
    (h : alone H (fnOut Tryz.prog [.tmp 2] 0 0 (E false ⟨0, 0⟩ 196 code196 (mkF 0 args) H00)) = some o) : W 196 args H = some o :=
  W_of Tryz.func196 rfl (by kernel_rfl) rfl rfl ha (by rw [Tryz.ntmps196]; exact hl) h
/-! ### f196: (sward/value.truth).parts -/
@[simp] theorem k197_0 : ch.keep 197 0 = [] := by kernel_rfl
@[simp] theorem k197_1 : ch.keep 197 1 = [2] := by kernel_rfl
noncomputable def code197 : Code := match Tryz.f197.body with | some c => c | none => .skip
theorem rs197 : Tryz.f197.results.toList = [.tmp 2] := rfl
theorem W197_of {args : List D} (ha : args.all (D.noRef 0 0) = true) (hl : args.length ≤ 3) {H : Hp} {o : Out × Hp}
    (h : alone H (fnOut Tryz.prog [.tmp 2] 0 0 (E false ⟨0, 0⟩ 197 code197 (mkF 0 args) H00)) = some o) : W 197 args H = some o :=
  W_of Tryz.func197 rfl (by kernel_rfl) rfl rfl ha (by rw [Tryz.ntmps197]; exact hl) h
/-! ### f197: (sward/value.word).parts -/
@[simp] theorem k198_0 : ch.keep 198 0 = [] := by kernel_rfl
@[simp] theorem k198_1 : ch.keep 198 1 = [2] := by kernel_rfl
noncomputable def code198 : Code := match Tryz.f198.body with | some c => c | none => .skip
theorem rs198 : Tryz.f198.results.toList = [.tmp 2] := rfl
theorem W198_of {args : List D} (ha : args.all (D.noRef 0 0) = true) (hl : args.length ≤ 3) {H : Hp} {o : Out × Hp}
    (h : alone H (fnOut Tryz.prog [.tmp 2] 0 0 (E false ⟨0, 0⟩ 198 code198 (mkF 0 args) H00)) = some o) : W 198 args H = some o :=
  W_of Tryz.func198 rfl (by kernel_rfl) rfl rfl ha (by rw [Tryz.ntmps198]; exact hl) h
/-! ### f198: (sward/value.tuple).parts -/
@[simp] theorem k199_0 : ch.keep 199 0 = [1] := by kernel_rfl
@[simp] theorem k199_1 : ch.keep 199 1 = [2] := by kernel_rfl
noncomputable def code199 : Code := match Tryz.f199.body with | some c => c | none => .skip
theorem rs199 : Tryz.f199.results.toList = [.tmp 2] := rfl
theorem W199_of {args : List D} (ha : args.all (D.noRef 0 0) = true) (hl : args.length ≤ 5) {H : Hp} {o : Out × Hp}
    (h : alone H (fnOut Tryz.prog [.tmp 2] 0 0 (E false ⟨0, 0⟩ 199 code199 (mkF 0 args) H00)) = some o) : W 199 args H = some o :=
  W_of Tryz.func199 rfl (by kernel_rfl) rfl rfl ha (by rw [Tryz.ntmps199]; exact hl) h
/-! ### f199: (sward/value.set).parts -/
@[simp] theorem k200_0 : ch.keep 200 0 = [1] := by kernel_rfl
@[simp] theorem k200_1 : ch.keep 200 1 = [2] := by kernel_rfl
noncomputable def code200 : Code := match Tryz.f200.body with | some c => c | none => .skip
theorem rs200 : Tryz.f200.results.toList = [.tmp 2] := rfl
theorem W200_of {args : List D} (ha : args.all (D.noRef 0 0) = true) (hl : args.length ≤ 5) {H : Hp} {o : Out × Hp}
    (h : alone H (fnOut Tryz.prog [.tmp 2] 0 0 (E false ⟨0, 0⟩ 200 code200 (mkF 0 args) H00)) = some o) : W 200 args H = some o :=
  W_of Tryz.func200 rfl (by kernel_rfl) rfl rfl ha (by rw [Tryz.ntmps200]; exact hl) h
/-! ### f200: (sward/value.nothing).parts -/
@[simp] theorem k201_0 : ch.keep 201 0 = [] := by kernel_rfl
@[simp] theorem k201_1 : ch.keep 201 1 = [2] := by kernel_rfl
noncomputable def code201 : Code := match Tryz.f201.body with | some c => c | none => .skip
theorem rs201 : Tryz.f201.results.toList = [.tmp 2] := rfl
theorem W201_of {args : List D} (ha : args.all (D.noRef 0 0) = true) (hl : args.length ≤ 3) {H : Hp} {o : Out × Hp}
    (h : alone H (fnOut Tryz.prog [.tmp 2] 0 0 (E false ⟨0, 0⟩ 201 code201 (mkF 0 args) H00)) = some o) : W 201 args H = some o :=
  W_of Tryz.func201 rfl (by kernel_rfl) rfl rfl ha (by rw [Tryz.ntmps201]; exact hl) h
/-! ### f15: sward/swardlaw01.ValueOnce -/
@[simp] theorem k15_0 : ch.keep 15 0 = [0, 1, 5] := by kernel_rfl
@[simp] theorem k15_1 : ch.keep 15 1 = [0, 1, 5, 52] := by kernel_rfl
@[simp] theorem k15_2 : ch.keep 15 2 = [6] := by kernel_rfl
@[simp] theorem k15_3 : ch.keep 15 3 = [0, 1, 5, 7, 8] := by kernel_rfl
@[simp] theorem k15_4 : ch.keep 15 4 = [0, 5, 7, 8, 9, 10] := by kernel_rfl
@[simp] theorem k15_5 : ch.keep 15 5 = [0, 5, 7, 8, 9, 71] := by kernel_rfl
@[simp] theorem k15_6 : ch.keep 15 6 = [6] := by kernel_rfl
@[simp] theorem k15_7 : ch.keep 15 7 = [0, 5, 7, 8, 9, 73] := by kernel_rfl
@[simp] theorem k15_8 : ch.keep 15 8 = [6] := by kernel_rfl
@[simp] theorem k15_9 : ch.keep 15 9 = [0, 5, 7, 100] := by kernel_rfl
@[simp] theorem k15_10 : ch.keep 15 10 = [6] := by kernel_rfl
@[simp] theorem k15_11 : ch.keep 15 11 = [0, 5, 7, 11, 12] := by kernel_rfl
@[simp] theorem k15_12 : ch.keep 15 12 = [0, 5, 7, 11, 12, 13] := by kernel_rfl
@[simp] theorem k15_13 : ch.keep 15 13 = [0, 5, 7, 11, 12, 13, 14] := by kernel_rfl
@[simp] theorem k15_14 : ch.keep 15 14 = [0, 5, 7, 11, 12, 13, 14, 110] := by kernel_rfl
@[simp] theorem k15_15 : ch.keep 15 15 = [0, 5, 7, 11, 12, 13, 14] := by kernel_rfl
@[simp] theorem k15_16 : ch.keep 15 16 = [0, 5, 7, 11, 12, 13, 14] := by kernel_rfl
@[simp] theorem k15_17 : ch.keep 15 17 = [0, 5, 7, 11, 12, 13, 14, 15, 16] := by kernel_rfl
@[simp] theorem k15_18 : ch.keep 15 18 = [0, 5, 7, 11, 12, 13, 14, 136] := by kernel_rfl
@[simp] theorem k15_19 : ch.keep 15 19 = [6] := by kernel_rfl
@[simp] theorem k15_20 : ch.keep 15 20 = [7, 11, 12, 13, 17] := by kernel_rfl
@[simp] theorem k15_21 : ch.keep 15 21 = [7, 11, 12, 13, 17, 141] := by kernel_rfl
@[simp] theorem k15_22 : ch.keep 15 22 = [7, 11, 12, 13, 17] := by kernel_rfl
@[simp] theorem k15_23 : ch.keep 15 23 = [7, 11, 12, 13, 17, 18, 19] := by kernel_rfl
@[simp] theorem k15_24 : ch.keep 15 24 = [7, 11, 12, 13, 17, 164] := by kernel_rfl
@[simp] theorem k15_25 : ch.keep 15 25 = [6] := by kernel_rfl
@[simp] theorem k15_26 : ch.keep 15 26 = [6] := by kernel_rfl
@[simp] theorem fl15_16 : ch.fl 15 16 = [0, 0, 1, 1, 1, 1, 1, 0, 0, 0] := by kernel_rfl
@[simp] theorem fl15_17 : ch.fl 15 17 = [1, 1, 1, 1, 1, 0, 0, 1, 1, 1, 0] := by kernel_rfl
@[simp] theorem fl15_23 : ch.fl 15 23 = [1, 1, 1, 1, 1, 1, 1, 1, 1, 1, 1, 0, 0, 1, 1, 1, 0] := by kernel_rfl
noncomputable def code15 : Code := match Tryz.f15.body with | some c => c | none => .skip
noncomputable def lp15_0 : Code := match code15 with | .seq _ (.seq _ (.seq _ (.seq _ (.seq _ (.seq _ (.seq _ (.seq _ (.seq _ (.seq (.seq _ (.block _ (.loop c))) _))))))))) => c | c => c
theorem hd15_0 : ch.head 15 (firstR lp15_0) = [0, 5, 7, 11, 12, 13, 14] := by kernel_rfl
noncomputable def lp15_1 : Code := match code15 with | .seq _ (.seq _ (.seq _ (.seq _ (.seq _ (.seq _ (.seq _ (.seq _ (.seq _ (.seq _ (.seq (.seq _ (.block _ (.loop c))) _)))))))))) => c | c => c
theorem hd15_1 : ch.head 15 (firstR lp15_1) = [7, 11, 12, 13, 17] := by kernel_rfl
theorem rs15 : Tryz.f15.results.toList = [.tmp 6] := rfl
theorem W15_of {args : List D} (ha : args.all (D.noRef 0 0) = true) (hl : args.length ≤ 175) {H : Hp} {o : Out × Hp}
    (h : alone H (fnOut Tryz.prog [.tmp 6] 0 0 (E false ⟨0, 0⟩ 15 code15 (mkF 0 args) H00)) = some o) : W 15 args H = some o :=
  W_of Tryz.func15 rfl (by kernel_rfl) rfl rfl ha (by rw [Tryz.ntmps15]; exact hl) h
end Go.Vi
end
