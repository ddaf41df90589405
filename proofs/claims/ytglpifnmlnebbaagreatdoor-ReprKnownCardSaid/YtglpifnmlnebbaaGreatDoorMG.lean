/- It is proved here what the heads and facts of the program's functions are to the evaluator; no condition. -/
import Derived.Test.YtglpifnmlnebbaaGreatDoorMF
set_option linter.unusedVariables false
set_option linter.unusedSimpArgs false

section
/- Vi: what the evaluator asks of the program's types; made by a program of ours (wip/tools/mkfacts.py). No conditions. -/
namespace Go.Vi
open Go Go.Proofs
set_option maxRecDepth 100000
@[simp] theorem sz0 : szOf Tryz.prog 0 = some 1 := by kernel_rfl
@[simp] theorem ag0 : aggOf Tryz.prog 0 = some false := by kernel_rfl
@[simp] theorem by0 : byOf Tryz.prog 0 = some 0 := by kernel_rfl
@[simp] theorem sz1 : szOf Tryz.prog 1 = some 1 := by kernel_rfl
@[simp] theorem ag1 : aggOf Tryz.prog 1 = some false := by kernel_rfl
@[simp] theorem by1 : byOf Tryz.prog 1 = some 8 := by kernel_rfl
@[simp] theorem sz2 : szOf Tryz.prog 2 = some 1 := by kernel_rfl
@[simp] theorem ag2 : aggOf Tryz.prog 2 = some false := by kernel_rfl
@[simp] theorem by2 : byOf Tryz.prog 2 = some 8 := by kernel_rfl
@[simp] theorem sz3 : szOf Tryz.prog 3 = some 1 := by kernel_rfl
@[simp] theorem ag3 : aggOf Tryz.prog 3 = some false := by kernel_rfl
@[simp] theorem by3 : byOf Tryz.prog 3 = some 8 := by kernel_rfl
@[simp] theorem sz4 : szOf Tryz.prog 4 = some 1 := by kernel_rfl
@[simp] theorem ag4 : aggOf Tryz.prog 4 = some false := by kernel_rfl
@[simp] theorem by4 : byOf Tryz.prog 4 = some 1 := by kernel_rfl
@[simp] theorem sz5 : szOf Tryz.prog 5 = some 1 := by kernel_rfl
@[simp] theorem ag5 : aggOf Tryz.prog 5 = some false := by kernel_rfl
@[simp] theorem by5 : byOf Tryz.prog 5 = some 1 := by kernel_rfl
@[simp] theorem sz6 : szOf Tryz.prog 6 = some 1 := by kernel_rfl
@[simp] theorem ag6 : aggOf Tryz.prog 6 = some false := by kernel_rfl
@[simp] theorem by6 : byOf Tryz.prog 6 = some 1 := by kernel_rfl
@[simp] theorem sz7 : szOf Tryz.prog 7 = some 4 := by kernel_rfl
@[simp] theorem ag7 : aggOf Tryz.prog 7 = some true := by kernel_rfl
@[simp] theorem by7 : byOf Tryz.prog 7 = some 24 := by kernel_rfl
@[simp] theorem sz8 : szOf Tryz.prog 8 = some 4 := by kernel_rfl
@[simp] theorem ag8 : aggOf Tryz.prog 8 = some true := by kernel_rfl
@[simp] theorem by8 : byOf Tryz.prog 8 = some 24 := by kernel_rfl
@[simp] theorem sz9 : szOf Tryz.prog 9 = some 1 := by kernel_rfl
@[simp] theorem ag9 : aggOf Tryz.prog 9 = some false := by kernel_rfl
@[simp] theorem by9 : byOf Tryz.prog 9 = some 16 := by kernel_rfl
@[simp] theorem sz10 : szOf Tryz.prog 10 = some 1 := by kernel_rfl
@[simp] theorem ag10 : aggOf Tryz.prog 10 = some false := by kernel_rfl
@[simp] theorem by10 : byOf Tryz.prog 10 = some 16 := by kernel_rfl
@[simp] theorem sz11 : szOf Tryz.prog 11 = some 1 := by kernel_rfl
@[simp] theorem ag11 : aggOf Tryz.prog 11 = some false := by kernel_rfl
@[simp] theorem by11 : byOf Tryz.prog 11 = some 16 := by kernel_rfl
@[simp] theorem sz12 : szOf Tryz.prog 12 = some 1 := by kernel_rfl
@[simp] theorem ag12 : aggOf Tryz.prog 12 = some false := by kernel_rfl
@[simp] theorem by12 : byOf Tryz.prog 12 = some 8 := by kernel_rfl
@[simp] theorem sz13 : szOf Tryz.prog 13 = some 2 := by kernel_rfl
@[simp] theorem ag13 : aggOf Tryz.prog 13 = some true := by kernel_rfl
@[simp] theorem by13 : byOf Tryz.prog 13 = some 24 := by kernel_rfl
@[simp] theorem sz14 : szOf Tryz.prog 14 = some 2 := by kernel_rfl
@[simp] theorem ag14 : aggOf Tryz.prog 14 = some true := by kernel_rfl
@[simp] theorem by14 : byOf Tryz.prog 14 = some 24 := by kernel_rfl
@[simp] theorem sz15 : szOf Tryz.prog 15 = some 1 := by kernel_rfl
@[simp] theorem ag15 : aggOf Tryz.prog 15 = some false := by kernel_rfl
@[simp] theorem by15 : byOf Tryz.prog 15 = some 8 := by kernel_rfl
@[simp] theorem sz16 : szOf Tryz.prog 16 = some 1 := by kernel_rfl
@[simp] theorem ag16 : aggOf Tryz.prog 16 = some false := by kernel_rfl
@[simp] theorem by16 : byOf Tryz.prog 16 = some 8 := by kernel_rfl
@[simp] theorem sz17 : szOf Tryz.prog 17 = some 1 := by kernel_rfl
@[simp] theorem ag17 : aggOf Tryz.prog 17 = some false := by kernel_rfl
@[simp] theorem by17 : byOf Tryz.prog 17 = some 8 := by kernel_rfl
@[simp] theorem sz18 : szOf Tryz.prog 18 = some 1 := by kernel_rfl
@[simp] theorem ag18 : aggOf Tryz.prog 18 = some true := by kernel_rfl
@[simp] theorem by18 : byOf Tryz.prog 18 = some 8 := by kernel_rfl
@[simp] theorem sz19 : szOf Tryz.prog 19 = some 1 := by kernel_rfl
@[simp] theorem ag19 : aggOf Tryz.prog 19 = some true := by kernel_rfl
@[simp] theorem by19 : byOf Tryz.prog 19 = some 8 := by kernel_rfl
@[simp] theorem sz20 : szOf Tryz.prog 20 = some 1 := by kernel_rfl
@[simp] theorem ag20 : aggOf Tryz.prog 20 = some false := by kernel_rfl
@[simp] theorem by20 : byOf Tryz.prog 20 = some 16 := by kernel_rfl
@[simp] theorem sz21 : szOf Tryz.prog 21 = some 1 := by kernel_rfl
@[simp] theorem ag21 : aggOf Tryz.prog 21 = some false := by kernel_rfl
@[simp] theorem by21 : byOf Tryz.prog 21 = some 4 := by kernel_rfl
@[simp] theorem sz22 : szOf Tryz.prog 22 = some 1 := by kernel_rfl
@[simp] theorem ag22 : aggOf Tryz.prog 22 = some false := by kernel_rfl
@[simp] theorem by22 : byOf Tryz.prog 22 = some 24 := by kernel_rfl
@[simp] theorem el22 : elemOf Tryz.prog 22 = some 57 := by kernel_rfl
@[simp] theorem un22 : Tryz.prog.underlying 22 = some (.slice 57) := by kernel_rfl
@[simp] theorem sz23 : szOf Tryz.prog 23 = some 1 := by kernel_rfl
@[simp] theorem ag23 : aggOf Tryz.prog 23 = some false := by kernel_rfl
@[simp] theorem by23 : byOf Tryz.prog 23 = some 24 := by kernel_rfl
@[simp] theorem el23 : elemOf Tryz.prog 23 = some 77 := by kernel_rfl
@[simp] theorem un23 : Tryz.prog.underlying 23 = some (.slice 77) := by kernel_rfl
@[simp] theorem sz24 : szOf Tryz.prog 24 = some 1 := by kernel_rfl
@[simp] theorem ag24 : aggOf Tryz.prog 24 = some false := by kernel_rfl
@[simp] theorem by24 : byOf Tryz.prog 24 = some 24 := by kernel_rfl
@[simp] theorem el24 : elemOf Tryz.prog 24 = some 55 := by kernel_rfl
@[simp] theorem un24 : Tryz.prog.underlying 24 = some (.slice 55) := by kernel_rfl
@[simp] theorem sz25 : szOf Tryz.prog 25 = some 3 := by kernel_rfl
@[simp] theorem ag25 : aggOf Tryz.prog 25 = some true := by kernel_rfl
@[simp] theorem by25 : byOf Tryz.prog 25 = some 72 := by kernel_rfl
@[simp] theorem sz26 : szOf Tryz.prog 26 = some 3 := by kernel_rfl
@[simp] theorem ag26 : aggOf Tryz.prog 26 = some true := by kernel_rfl
@[simp] theorem by26 : byOf Tryz.prog 26 = some 72 := by kernel_rfl
@[simp] theorem sz27 : szOf Tryz.prog 27 = some 1 := by kernel_rfl
@[simp] theorem ag27 : aggOf Tryz.prog 27 = some false := by kernel_rfl
@[simp] theorem by27 : byOf Tryz.prog 27 = some 24 := by kernel_rfl
@[simp] theorem el27 : elemOf Tryz.prog 27 = some 35 := by kernel_rfl
@[simp] theorem un27 : Tryz.prog.underlying 27 = some (.slice 35) := by kernel_rfl
@[simp] theorem sz28 : szOf Tryz.prog 28 = some 1 := by kernel_rfl
@[simp] theorem ag28 : aggOf Tryz.prog 28 = some false := by kernel_rfl
@[simp] theorem by28 : byOf Tryz.prog 28 = some 8 := by kernel_rfl
@[simp] theorem sz29 : szOf Tryz.prog 29 = some 1 := by kernel_rfl
@[simp] theorem ag29 : aggOf Tryz.prog 29 = some false := by kernel_rfl
@[simp] theorem by29 : byOf Tryz.prog 29 = some 8 := by kernel_rfl
@[simp] theorem sz30 : szOf Tryz.prog 30 = some 1 := by kernel_rfl
@[simp] theorem ag30 : aggOf Tryz.prog 30 = some false := by kernel_rfl
@[simp] theorem by30 : byOf Tryz.prog 30 = some 8 := by kernel_rfl
@[simp] theorem sz31 : szOf Tryz.prog 31 = some 1 := by kernel_rfl
@[simp] theorem ag31 : aggOf Tryz.prog 31 = some false := by kernel_rfl
@[simp] theorem by31 : byOf Tryz.prog 31 = some 0 := by kernel_rfl
@[simp] theorem sz32 : szOf Tryz.prog 32 = some 1 := by kernel_rfl
@[simp] theorem ag32 : aggOf Tryz.prog 32 = some false := by kernel_rfl
@[simp] theorem by32 : byOf Tryz.prog 32 = some 8 := by kernel_rfl
@[simp] theorem sz33 : szOf Tryz.prog 33 = some 1 := by kernel_rfl
@[simp] theorem ag33 : aggOf Tryz.prog 33 = some false := by kernel_rfl
@[simp] theorem by33 : byOf Tryz.prog 33 = some 8 := by kernel_rfl
@[simp] theorem sz34 : szOf Tryz.prog 34 = some 1 := by kernel_rfl
@[simp] theorem ag34 : aggOf Tryz.prog 34 = some false := by kernel_rfl
@[simp] theorem by34 : byOf Tryz.prog 34 = some 8 := by kernel_rfl
@[simp] theorem sz35 : szOf Tryz.prog 35 = some 1 := by kernel_rfl
@[simp] theorem ag35 : aggOf Tryz.prog 35 = some false := by kernel_rfl
@[simp] theorem by35 : byOf Tryz.prog 35 = some 8 := by kernel_rfl
@[simp] theorem sz36 : szOf Tryz.prog 36 = some 1 := by kernel_rfl
@[simp] theorem ag36 : aggOf Tryz.prog 36 = some false := by kernel_rfl
@[simp] theorem by36 : byOf Tryz.prog 36 = some 0 := by kernel_rfl
@[simp] theorem sz37 : szOf Tryz.prog 37 = some 1 := by kernel_rfl
@[simp] theorem ag37 : aggOf Tryz.prog 37 = some false := by kernel_rfl
@[simp] theorem by37 : byOf Tryz.prog 37 = some 8 := by kernel_rfl
@[simp] theorem sz38 : szOf Tryz.prog 38 = some 1 := by kernel_rfl
@[simp] theorem ag38 : aggOf Tryz.prog 38 = some false := by kernel_rfl
@[simp] theorem by38 : byOf Tryz.prog 38 = some 8 := by kernel_rfl
@[simp] theorem sz39 : szOf Tryz.prog 39 = some 1 := by kernel_rfl
@[simp] theorem ag39 : aggOf Tryz.prog 39 = some false := by kernel_rfl
@[simp] theorem by39 : byOf Tryz.prog 39 = some 8 := by kernel_rfl
@[simp] theorem sz40 : szOf Tryz.prog 40 = some 1 := by kernel_rfl
@[simp] theorem ag40 : aggOf Tryz.prog 40 = some false := by kernel_rfl
@[simp] theorem by40 : byOf Tryz.prog 40 = some 8 := by kernel_rfl
@[simp] theorem sz41 : szOf Tryz.prog 41 = some 1 := by kernel_rfl
@[simp] theorem ag41 : aggOf Tryz.prog 41 = some false := by kernel_rfl
@[simp] theorem by41 : byOf Tryz.prog 41 = some 24 := by kernel_rfl
@[simp] theorem el41 : elemOf Tryz.prog 41 = some 3 := by kernel_rfl
@[simp] theorem un41 : Tryz.prog.underlying 41 = some (.slice 3) := by kernel_rfl
@[simp] theorem sz42 : szOf Tryz.prog 42 = some 1 := by kernel_rfl
@[simp] theorem ag42 : aggOf Tryz.prog 42 = some false := by kernel_rfl
@[simp] theorem by42 : byOf Tryz.prog 42 = some 0 := by kernel_rfl
@[simp] theorem sz43 : szOf Tryz.prog 43 = some 1 := by kernel_rfl
@[simp] theorem ag43 : aggOf Tryz.prog 43 = some false := by kernel_rfl
@[simp] theorem by43 : byOf Tryz.prog 43 = some 8 := by kernel_rfl
@[simp] theorem sz44 : szOf Tryz.prog 44 = some 1 := by kernel_rfl
@[simp] theorem ag44 : aggOf Tryz.prog 44 = some false := by kernel_rfl
@[simp] theorem by44 : byOf Tryz.prog 44 = some 8 := by kernel_rfl
@[simp] theorem sz45 : szOf Tryz.prog 45 = some 1 := by kernel_rfl
@[simp] theorem ag45 : aggOf Tryz.prog 45 = some false := by kernel_rfl
@[simp] theorem by45 : byOf Tryz.prog 45 = some 8 := by kernel_rfl
@[simp] theorem sz46 : szOf Tryz.prog 46 = some 1 := by kernel_rfl
@[simp] theorem ag46 : aggOf Tryz.prog 46 = some false := by kernel_rfl
@[simp] theorem by46 : byOf Tryz.prog 46 = some 8 := by kernel_rfl
@[simp] theorem sz47 : szOf Tryz.prog 47 = some 3 := by kernel_rfl
@[simp] theorem ag47 : aggOf Tryz.prog 47 = some true := by kernel_rfl
@[simp] theorem by47 : byOf Tryz.prog 47 = some 40 := by kernel_rfl
@[simp] theorem sz48 : szOf Tryz.prog 48 = some 1 := by kernel_rfl
@[simp] theorem ag48 : aggOf Tryz.prog 48 = some false := by kernel_rfl
@[simp] theorem by48 : byOf Tryz.prog 48 = some 24 := by kernel_rfl
@[simp] theorem el48 : elemOf Tryz.prog 48 = some 47 := by kernel_rfl
@[simp] theorem un48 : Tryz.prog.underlying 48 = some (.slice 47) := by kernel_rfl
@[simp] theorem sz49 : szOf Tryz.prog 49 = some 1 := by kernel_rfl
@[simp] theorem ag49 : aggOf Tryz.prog 49 = some false := by kernel_rfl
@[simp] theorem by49 : byOf Tryz.prog 49 = some 8 := by kernel_rfl
@[simp] theorem sz50 : szOf Tryz.prog 50 = some 4 := by kernel_rfl
@[simp] theorem ag50 : aggOf Tryz.prog 50 = some true := by kernel_rfl
@[simp] theorem by50 : byOf Tryz.prog 50 = some 32 := by kernel_rfl
@[simp] theorem sz51 : szOf Tryz.prog 51 = some 1 := by kernel_rfl
@[simp] theorem ag51 : aggOf Tryz.prog 51 = some false := by kernel_rfl
@[simp] theorem by51 : byOf Tryz.prog 51 = some 24 := by kernel_rfl
@[simp] theorem el51 : elemOf Tryz.prog 51 = some 50 := by kernel_rfl
@[simp] theorem un51 : Tryz.prog.underlying 51 = some (.slice 50) := by kernel_rfl
@[simp] theorem sz52 : szOf Tryz.prog 52 = some 1 := by kernel_rfl
@[simp] theorem ag52 : aggOf Tryz.prog 52 = some false := by kernel_rfl
@[simp] theorem by52 : byOf Tryz.prog 52 = some 8 := by kernel_rfl
@[simp] theorem sz53 : szOf Tryz.prog 53 = some 4 := by kernel_rfl
@[simp] theorem ag53 : aggOf Tryz.prog 53 = some true := by kernel_rfl
@[simp] theorem by53 : byOf Tryz.prog 53 = some 48 := by kernel_rfl
@[simp] theorem sz54 : szOf Tryz.prog 54 = some 1 := by kernel_rfl
@[simp] theorem ag54 : aggOf Tryz.prog 54 = some false := by kernel_rfl
@[simp] theorem by54 : byOf Tryz.prog 54 = some 24 := by kernel_rfl
@[simp] theorem el54 : elemOf Tryz.prog 54 = some 53 := by kernel_rfl
@[simp] theorem un54 : Tryz.prog.underlying 54 = some (.slice 53) := by kernel_rfl
@[simp] theorem sz55 : szOf Tryz.prog 55 = some 2 := by kernel_rfl
@[simp] theorem ag55 : aggOf Tryz.prog 55 = some true := by kernel_rfl
@[simp] theorem by55 : byOf Tryz.prog 55 = some 16 := by kernel_rfl
@[simp] theorem sz56 : szOf Tryz.prog 56 = some 2 := by kernel_rfl
@[simp] theorem ag56 : aggOf Tryz.prog 56 = some true := by kernel_rfl
@[simp] theorem by56 : byOf Tryz.prog 56 = some 32 := by kernel_rfl
@[simp] theorem sz57 : szOf Tryz.prog 57 = some 2 := by kernel_rfl
@[simp] theorem ag57 : aggOf Tryz.prog 57 = some true := by kernel_rfl
@[simp] theorem by57 : byOf Tryz.prog 57 = some 32 := by kernel_rfl
@[simp] theorem sz58 : szOf Tryz.prog 58 = some 1 := by kernel_rfl
@[simp] theorem ag58 : aggOf Tryz.prog 58 = some false := by kernel_rfl
@[simp] theorem by58 : byOf Tryz.prog 58 = some 24 := by kernel_rfl
@[simp] theorem el58 : elemOf Tryz.prog 58 = some 113 := by kernel_rfl
@[simp] theorem un58 : Tryz.prog.underlying 58 = some (.slice 113) := by kernel_rfl
@[simp] theorem sz59 : szOf Tryz.prog 59 = some 1 := by kernel_rfl
@[simp] theorem ag59 : aggOf Tryz.prog 59 = some false := by kernel_rfl
@[simp] theorem by59 : byOf Tryz.prog 59 = some 24 := by kernel_rfl
@[simp] theorem el59 : elemOf Tryz.prog 59 = some 124 := by kernel_rfl
@[simp] theorem un59 : Tryz.prog.underlying 59 = some (.slice 124) := by kernel_rfl
@[simp] theorem sz60 : szOf Tryz.prog 60 = some 1 := by kernel_rfl
@[simp] theorem ag60 : aggOf Tryz.prog 60 = some false := by kernel_rfl
@[simp] theorem by60 : byOf Tryz.prog 60 = some 24 := by kernel_rfl
@[simp] theorem el60 : elemOf Tryz.prog 60 = some 130 := by kernel_rfl
@[simp] theorem un60 : Tryz.prog.underlying 60 = some (.slice 130) := by kernel_rfl
@[simp] theorem sz61 : szOf Tryz.prog 61 = some 4 := by kernel_rfl
@[simp] theorem ag61 : aggOf Tryz.prog 61 = some true := by kernel_rfl
@[simp] theorem by61 : byOf Tryz.prog 61 = some 88 := by kernel_rfl
@[simp] theorem sz62 : szOf Tryz.prog 62 = some 4 := by kernel_rfl
@[simp] theorem ag62 : aggOf Tryz.prog 62 = some true := by kernel_rfl
@[simp] theorem by62 : byOf Tryz.prog 62 = some 88 := by kernel_rfl
@[simp] theorem sz63 : szOf Tryz.prog 63 = some 1 := by kernel_rfl
@[simp] theorem ag63 : aggOf Tryz.prog 63 = some false := by kernel_rfl
@[simp] theorem by63 : byOf Tryz.prog 63 = some 0 := by kernel_rfl
@[simp] theorem sz64 : szOf Tryz.prog 64 = some 1 := by kernel_rfl
@[simp] theorem ag64 : aggOf Tryz.prog 64 = some false := by kernel_rfl
@[simp] theorem by64 : byOf Tryz.prog 64 = some 8 := by kernel_rfl
@[simp] theorem sz65 : szOf Tryz.prog 65 = some 1 := by kernel_rfl
@[simp] theorem ag65 : aggOf Tryz.prog 65 = some false := by kernel_rfl
@[simp] theorem by65 : byOf Tryz.prog 65 = some 0 := by kernel_rfl
@[simp] theorem sz66 : szOf Tryz.prog 66 = some 1 := by kernel_rfl
@[simp] theorem ag66 : aggOf Tryz.prog 66 = some false := by kernel_rfl
@[simp] theorem by66 : byOf Tryz.prog 66 = some 8 := by kernel_rfl
@[simp] theorem sz67 : szOf Tryz.prog 67 = some 1 := by kernel_rfl
@[simp] theorem ag67 : aggOf Tryz.prog 67 = some false := by kernel_rfl
@[simp] theorem by67 : byOf Tryz.prog 67 = some 8 := by kernel_rfl
@[simp] theorem sz68 : szOf Tryz.prog 68 = some 1 := by kernel_rfl
@[simp] theorem ag68 : aggOf Tryz.prog 68 = some false := by kernel_rfl
@[simp] theorem by68 : byOf Tryz.prog 68 = some 8 := by kernel_rfl
@[simp] theorem sz69 : szOf Tryz.prog 69 = some 1 := by kernel_rfl
@[simp] theorem ag69 : aggOf Tryz.prog 69 = some false := by kernel_rfl
@[simp] theorem by69 : byOf Tryz.prog 69 = some 8 := by kernel_rfl
@[simp] theorem sz70 : szOf Tryz.prog 70 = some 3 := by kernel_rfl
@[simp] theorem ag70 : aggOf Tryz.prog 70 = some true := by kernel_rfl
@[simp] theorem by70 : byOf Tryz.prog 70 = some 72 := by kernel_rfl
@[simp] theorem sz71 : szOf Tryz.prog 71 = some 3 := by kernel_rfl
@[simp] theorem ag71 : aggOf Tryz.prog 71 = some true := by kernel_rfl
@[simp] theorem by71 : byOf Tryz.prog 71 = some 72 := by kernel_rfl
@[simp] theorem sz72 : szOf Tryz.prog 72 = some 1 := by kernel_rfl
@[simp] theorem ag72 : aggOf Tryz.prog 72 = some false := by kernel_rfl
@[simp] theorem by72 : byOf Tryz.prog 72 = some 8 := by kernel_rfl
@[simp] theorem sz73 : szOf Tryz.prog 73 = some 1 := by kernel_rfl
@[simp] theorem ag73 : aggOf Tryz.prog 73 = some false := by kernel_rfl
@[simp] theorem by73 : byOf Tryz.prog 73 = some 8 := by kernel_rfl
@[simp] theorem sz74 : szOf Tryz.prog 74 = some 1 := by kernel_rfl
@[simp] theorem ag74 : aggOf Tryz.prog 74 = some false := by kernel_rfl
@[simp] theorem by74 : byOf Tryz.prog 74 = some 8 := by kernel_rfl
@[simp] theorem sz75 : szOf Tryz.prog 75 = some 1 := by kernel_rfl
@[simp] theorem ag75 : aggOf Tryz.prog 75 = some false := by kernel_rfl
@[simp] theorem by75 : byOf Tryz.prog 75 = some 8 := by kernel_rfl
@[simp] theorem sz76 : szOf Tryz.prog 76 = some 4 := by kernel_rfl
@[simp] theorem ag76 : aggOf Tryz.prog 76 = some true := by kernel_rfl
@[simp] theorem by76 : byOf Tryz.prog 76 = some 32 := by kernel_rfl
@[simp] theorem sz77 : szOf Tryz.prog 77 = some 4 := by kernel_rfl
@[simp] theorem ag77 : aggOf Tryz.prog 77 = some true := by kernel_rfl
@[simp] theorem by77 : byOf Tryz.prog 77 = some 32 := by kernel_rfl
@[simp] theorem sz78 : szOf Tryz.prog 78 = some 1 := by kernel_rfl
@[simp] theorem ag78 : aggOf Tryz.prog 78 = some false := by kernel_rfl
@[simp] theorem by78 : byOf Tryz.prog 78 = some 8 := by kernel_rfl
@[simp] theorem sz79 : szOf Tryz.prog 79 = some 1 := by kernel_rfl
@[simp] theorem ag79 : aggOf Tryz.prog 79 = some false := by kernel_rfl
@[simp] theorem by79 : byOf Tryz.prog 79 = some 0 := by kernel_rfl
@[simp] theorem sz80 : szOf Tryz.prog 80 = some 1 := by kernel_rfl
@[simp] theorem ag80 : aggOf Tryz.prog 80 = some false := by kernel_rfl
@[simp] theorem by80 : byOf Tryz.prog 80 = some 8 := by kernel_rfl
@[simp] theorem sz81 : szOf Tryz.prog 81 = some 1 := by kernel_rfl
@[simp] theorem ag81 : aggOf Tryz.prog 81 = some false := by kernel_rfl
@[simp] theorem by81 : byOf Tryz.prog 81 = some 0 := by kernel_rfl
@[simp] theorem sz82 : szOf Tryz.prog 82 = some 1 := by kernel_rfl
@[simp] theorem ag82 : aggOf Tryz.prog 82 = some false := by kernel_rfl
@[simp] theorem by82 : byOf Tryz.prog 82 = some 8 := by kernel_rfl
@[simp] theorem sz83 : szOf Tryz.prog 83 = some 1 := by kernel_rfl
@[simp] theorem ag83 : aggOf Tryz.prog 83 = some false := by kernel_rfl
@[simp] theorem by83 : byOf Tryz.prog 83 = some 24 := by kernel_rfl
@[simp] theorem el83 : elemOf Tryz.prog 83 = some 27 := by kernel_rfl
@[simp] theorem un83 : Tryz.prog.underlying 83 = some (.slice 27) := by kernel_rfl
@[simp] theorem sz84 : szOf Tryz.prog 84 = some 1 := by kernel_rfl
@[simp] theorem ag84 : aggOf Tryz.prog 84 = some false := by kernel_rfl
@[simp] theorem by84 : byOf Tryz.prog 84 = some 8 := by kernel_rfl
@[simp] theorem sz85 : szOf Tryz.prog 85 = some 1 := by kernel_rfl
@[simp] theorem ag85 : aggOf Tryz.prog 85 = some false := by kernel_rfl
@[simp] theorem by85 : byOf Tryz.prog 85 = some 8 := by kernel_rfl
@[simp] theorem sz86 : szOf Tryz.prog 86 = some 1 := by kernel_rfl
@[simp] theorem ag86 : aggOf Tryz.prog 86 = some false := by kernel_rfl
@[simp] theorem by86 : byOf Tryz.prog 86 = some 8 := by kernel_rfl
@[simp] theorem sz87 : szOf Tryz.prog 87 = some 1 := by kernel_rfl
@[simp] theorem ag87 : aggOf Tryz.prog 87 = some false := by kernel_rfl
@[simp] theorem by87 : byOf Tryz.prog 87 = some 8 := by kernel_rfl
@[simp] theorem sz88 : szOf Tryz.prog 88 = some 5 := by kernel_rfl
@[simp] theorem ag88 : aggOf Tryz.prog 88 = some true := by kernel_rfl
@[simp] theorem by88 : byOf Tryz.prog 88 = some 104 := by kernel_rfl
@[simp] theorem sz89 : szOf Tryz.prog 89 = some 5 := by kernel_rfl
@[simp] theorem ag89 : aggOf Tryz.prog 89 = some true := by kernel_rfl
@[simp] theorem by89 : byOf Tryz.prog 89 = some 104 := by kernel_rfl
@[simp] theorem sz90 : szOf Tryz.prog 90 = some 1 := by kernel_rfl
@[simp] theorem ag90 : aggOf Tryz.prog 90 = some false := by kernel_rfl
@[simp] theorem by90 : byOf Tryz.prog 90 = some 8 := by kernel_rfl
@[simp] theorem sz91 : szOf Tryz.prog 91 = some 1 := by kernel_rfl
@[simp] theorem ag91 : aggOf Tryz.prog 91 = some false := by kernel_rfl
@[simp] theorem by91 : byOf Tryz.prog 91 = some 0 := by kernel_rfl
@[simp] theorem sz92 : szOf Tryz.prog 92 = some 1 := by kernel_rfl
@[simp] theorem ag92 : aggOf Tryz.prog 92 = some false := by kernel_rfl
@[simp] theorem by92 : byOf Tryz.prog 92 = some 8 := by kernel_rfl
@[simp] theorem sz93 : szOf Tryz.prog 93 = some 1 := by kernel_rfl
@[simp] theorem ag93 : aggOf Tryz.prog 93 = some false := by kernel_rfl
@[simp] theorem by93 : byOf Tryz.prog 93 = some 8 := by kernel_rfl
@[simp] theorem sz94 : szOf Tryz.prog 94 = some 7 := by kernel_rfl
@[simp] theorem ag94 : aggOf Tryz.prog 94 = some true := by kernel_rfl
@[simp] theorem by94 : byOf Tryz.prog 94 = some 120 := by kernel_rfl
@[simp] theorem sz95 : szOf Tryz.prog 95 = some 7 := by kernel_rfl
@[simp] theorem ag95 : aggOf Tryz.prog 95 = some true := by kernel_rfl
@[simp] theorem by95 : byOf Tryz.prog 95 = some 120 := by kernel_rfl
@[simp] theorem sz96 : szOf Tryz.prog 96 = some 1 := by kernel_rfl
@[simp] theorem ag96 : aggOf Tryz.prog 96 = some false := by kernel_rfl
@[simp] theorem by96 : byOf Tryz.prog 96 = some 24 := by kernel_rfl
@[simp] theorem el96 : elemOf Tryz.prog 96 = some 144 := by kernel_rfl
@[simp] theorem un96 : Tryz.prog.underlying 96 = some (.slice 144) := by kernel_rfl
@[simp] theorem sz97 : szOf Tryz.prog 97 = some 1 := by kernel_rfl
@[simp] theorem ag97 : aggOf Tryz.prog 97 = some false := by kernel_rfl
@[simp] theorem by97 : byOf Tryz.prog 97 = some 8 := by kernel_rfl
@[simp] theorem sz98 : szOf Tryz.prog 98 = some 1 := by kernel_rfl
@[simp] theorem ag98 : aggOf Tryz.prog 98 = some false := by kernel_rfl
@[simp] theorem by98 : byOf Tryz.prog 98 = some 0 := by kernel_rfl
@[simp] theorem sz99 : szOf Tryz.prog 99 = some 1 := by kernel_rfl
@[simp] theorem ag99 : aggOf Tryz.prog 99 = some false := by kernel_rfl
@[simp] theorem by99 : byOf Tryz.prog 99 = some 8 := by kernel_rfl
@[simp] theorem sz100 : szOf Tryz.prog 100 = some 1 := by kernel_rfl
@[simp] theorem ag100 : aggOf Tryz.prog 100 = some false := by kernel_rfl
@[simp] theorem by100 : byOf Tryz.prog 100 = some 0 := by kernel_rfl
@[simp] theorem sz101 : szOf Tryz.prog 101 = some 1 := by kernel_rfl
@[simp] theorem ag101 : aggOf Tryz.prog 101 = some false := by kernel_rfl
@[simp] theorem by101 : byOf Tryz.prog 101 = some 8 := by kernel_rfl
@[simp] theorem sz102 : szOf Tryz.prog 102 = some 1 := by kernel_rfl
@[simp] theorem ag102 : aggOf Tryz.prog 102 = some false := by kernel_rfl
@[simp] theorem by102 : byOf Tryz.prog 102 = some 8 := by kernel_rfl
@[simp] theorem sz183 : szOf Tryz.prog 183 = some 1 := by kernel_rfl
@[simp] theorem ag183 : aggOf Tryz.prog 183 = some false := by kernel_rfl
@[simp] theorem by183 : byOf Tryz.prog 183 = some 8 := by kernel_rfl
@[simp] theorem sz201 : szOf Tryz.prog 201 = some 5 := by kernel_rfl
@[simp] theorem ag201 : aggOf Tryz.prog 201 = some true := by kernel_rfl
@[simp] theorem by201 : byOf Tryz.prog 201 = some 40 := by kernel_rfl
@[simp] theorem sz202 : szOf Tryz.prog 202 = some 20 := by kernel_rfl
@[simp] theorem ag202 : aggOf Tryz.prog 202 = some true := by kernel_rfl
@[simp] theorem by202 : byOf Tryz.prog 202 = some 160 := by kernel_rfl
@[simp] theorem fo25_0 : fieldOf Tryz.prog 25 0 = some (0, 1, false) := by kernel_rfl
@[simp] theorem fo25_1 : fieldOf Tryz.prog 25 1 = some (1, 1, false) := by kernel_rfl
@[simp] theorem fo25_2 : fieldOf Tryz.prog 25 2 = some (2, 1, false) := by kernel_rfl
@[simp] theorem fo26_0 : fieldOf Tryz.prog 26 0 = some (0, 1, false) := by kernel_rfl
@[simp] theorem fo26_1 : fieldOf Tryz.prog 26 1 = some (1, 1, false) := by kernel_rfl
@[simp] theorem fo26_2 : fieldOf Tryz.prog 26 2 = some (2, 1, false) := by kernel_rfl
@[simp] theorem fo47_0 : fieldOf Tryz.prog 47 0 = some (0, 1, false) := by kernel_rfl
@[simp] theorem fo47_1 : fieldOf Tryz.prog 47 1 = some (1, 1, false) := by kernel_rfl
@[simp] theorem fo47_2 : fieldOf Tryz.prog 47 2 = some (2, 1, false) := by kernel_rfl
@[simp] theorem fo50_0 : fieldOf Tryz.prog 50 0 = some (0, 1, false) := by kernel_rfl
@[simp] theorem fo50_1 : fieldOf Tryz.prog 50 1 = some (1, 1, false) := by kernel_rfl
@[simp] theorem fo50_2 : fieldOf Tryz.prog 50 2 = some (2, 1, false) := by kernel_rfl
@[simp] theorem fo50_3 : fieldOf Tryz.prog 50 3 = some (3, 1, false) := by kernel_rfl
@[simp] theorem fo53_0 : fieldOf Tryz.prog 53 0 = some (0, 1, false) := by kernel_rfl
@[simp] theorem fo53_1 : fieldOf Tryz.prog 53 1 = some (1, 1, false) := by kernel_rfl
@[simp] theorem fo53_2 : fieldOf Tryz.prog 53 2 = some (2, 1, false) := by kernel_rfl
@[simp] theorem fo53_3 : fieldOf Tryz.prog 53 3 = some (3, 1, false) := by kernel_rfl
@[simp] theorem fo56_0 : fieldOf Tryz.prog 56 0 = some (0, 1, false) := by kernel_rfl
@[simp] theorem fo56_1 : fieldOf Tryz.prog 56 1 = some (1, 1, false) := by kernel_rfl
@[simp] theorem fo57_0 : fieldOf Tryz.prog 57 0 = some (0, 1, false) := by kernel_rfl
@[simp] theorem fo57_1 : fieldOf Tryz.prog 57 1 = some (1, 1, false) := by kernel_rfl
@[simp] theorem fo70_0 : fieldOf Tryz.prog 70 0 = some (0, 3, true) := by kernel_rfl
@[simp] theorem fo71_0 : fieldOf Tryz.prog 71 0 = some (0, 3, true) := by kernel_rfl
@[simp] theorem fo76_0 : fieldOf Tryz.prog 76 0 = some (0, 1, false) := by kernel_rfl
@[simp] theorem fo76_1 : fieldOf Tryz.prog 76 1 = some (1, 1, false) := by kernel_rfl
@[simp] theorem fo76_2 : fieldOf Tryz.prog 76 2 = some (2, 1, false) := by kernel_rfl
@[simp] theorem fo76_3 : fieldOf Tryz.prog 76 3 = some (3, 1, false) := by kernel_rfl
@[simp] theorem fo77_0 : fieldOf Tryz.prog 77 0 = some (0, 1, false) := by kernel_rfl
@[simp] theorem fo77_1 : fieldOf Tryz.prog 77 1 = some (1, 1, false) := by kernel_rfl
@[simp] theorem fo77_2 : fieldOf Tryz.prog 77 2 = some (2, 1, false) := by kernel_rfl
@[simp] theorem fo77_3 : fieldOf Tryz.prog 77 3 = some (3, 1, false) := by kernel_rfl
@[simp] theorem fo88_0 : fieldOf Tryz.prog 88 0 = some (0, 3, true) := by kernel_rfl
@[simp] theorem fo88_1 : fieldOf Tryz.prog 88 1 = some (3, 1, false) := by kernel_rfl
@[simp] theorem fo88_2 : fieldOf Tryz.prog 88 2 = some (4, 1, false) := by kernel_rfl
@[simp] theorem fo89_0 : fieldOf Tryz.prog 89 0 = some (0, 3, true) := by kernel_rfl
@[simp] theorem fo89_1 : fieldOf Tryz.prog 89 1 = some (3, 1, false) := by kernel_rfl
@[simp] theorem fo89_2 : fieldOf Tryz.prog 89 2 = some (4, 1, false) := by kernel_rfl
@[simp] theorem fo94_0 : fieldOf Tryz.prog 94 0 = some (0, 3, true) := by kernel_rfl
@[simp] theorem fo94_1 : fieldOf Tryz.prog 94 1 = some (3, 1, false) := by kernel_rfl
@[simp] theorem fo94_2 : fieldOf Tryz.prog 94 2 = some (4, 1, false) := by kernel_rfl
@[simp] theorem fo94_3 : fieldOf Tryz.prog 94 3 = some (5, 1, false) := by kernel_rfl
@[simp] theorem fo94_4 : fieldOf Tryz.prog 94 4 = some (6, 1, false) := by kernel_rfl
@[simp] theorem fo95_0 : fieldOf Tryz.prog 95 0 = some (0, 3, true) := by kernel_rfl
@[simp] theorem fo95_1 : fieldOf Tryz.prog 95 1 = some (3, 1, false) := by kernel_rfl
@[simp] theorem fo95_2 : fieldOf Tryz.prog 95 2 = some (4, 1, false) := by kernel_rfl
@[simp] theorem fo95_3 : fieldOf Tryz.prog 95 3 = some (5, 1, false) := by kernel_rfl
@[simp] theorem fo95_4 : fieldOf Tryz.prog 95 4 = some (6, 1, false) := by kernel_rfl
@[simp] theorem un9 : Tryz.prog.underlying 9 = some .string := by kernel_rfl
@[simp] theorem un55 : Tryz.prog.underlying 55 = some (.array 2 3) := by kernel_rfl
@[simp] theorem un201 : Tryz.prog.underlying 201 = some (.array 5 183) := by kernel_rfl
@[simp] theorem un202 : Tryz.prog.underlying 202 = some (.array 4 201) := by kernel_rfl
@[simp] theorem zr3 : zeroOf Tryz.prog 3 = some (.int .i64 0) := by kernel_rfl
@[simp] theorem zr30 : zeroOf Tryz.prog 30 = some (.int .i64 0) := by kernel_rfl
@[simp] theorem zr35 : zeroOf Tryz.prog 35 = some (.int .i64 0) := by kernel_rfl
@[simp] theorem zr75 : zeroOf Tryz.prog 75 = some (.int .i64 0) := by kernel_rfl
@[simp] theorem zr4 : zeroOf Tryz.prog 4 = some (.bool false) := by kernel_rfl
@[simp] theorem zr27 : zeroOf Tryz.prog 27 = some (.slice none 0 0) := by kernel_rfl
@[simp] theorem zk3 : zOK Tryz.prog 3 1 = true := by kernel_rfl
@[simp] theorem zk27 : zOK Tryz.prog 27 1 = true := by kernel_rfl
@[simp] theorem zk35 : zOK Tryz.prog 35 1 = true := by kernel_rfl
end Go.Vi
end

section
/- Vi: heads of the functions of layer 11; made by a program of ours (wip/tools/spec2.py). No conditions. -/
namespace Go.Vi
open Go Go.Proofs
set_option maxRecDepth 100000
/-! ### f3: sward/swardlaw11.ReprCosts -/
@[simp] theorem k3_0 : ch.keep 3 0 = [1, 2] := by kernel_rfl
@[simp] theorem k3_1 : ch.keep 3 1 = [1, 2, 19] := by kernel_rfl
@[simp] theorem k3_2 : ch.keep 3 2 = [4] := by kernel_rfl
@[simp] theorem k3_3 : ch.keep 3 3 = [1, 2, 5, 6] := by kernel_rfl
@[simp] theorem k3_4 : ch.keep 3 4 = [1, 2, 5, 6, 7, 8] := by kernel_rfl
@[simp] theorem k3_5 : ch.keep 3 5 = [1, 2, 5, 6, 7, 8, 9, 10] := by kernel_rfl
@[simp] theorem k3_6 : ch.keep 3 6 = [2, 5, 6, 7, 8, 9, 10, 11, 12] := by kernel_rfl
@[simp] theorem k3_7 : ch.keep 3 7 = [4] := by kernel_rfl
@[simp] theorem fl3_7 : ch.fl 3 7 = [1, 1, 0, 0, 1, 1, 0, 0, 0, 1, 1, 0, 0, 0, 1, 1, 0, 0, 0, 1, 1, 1, 0, 0, 0, 0, 0, 0, 0] := by kernel_rfl
noncomputable def code3 : Code := match Tryz.f3.body with | some c => c | none => .skip
theorem rs3 : Tryz.f3.results.toList = [.tmp 4] := rfl
theorem W3_of {args : List D} (ha : args.all (D.noRef 0 0) = true) (hl : args.length ≤ 73) {H : Hp} {o : Out × Hp}
    (h : alone H (fnOut Tryz.prog [.tmp 4] 0 0 (E false ⟨0, 0⟩ 3 code3 (mkF 0 args) H00)) = some o) : W 3 args H = some o :=
  W_of Tryz.func3 rfl (by kernel_rfl) rfl rfl rfl rfl rfl ha (by rw [Tryz.ntmps3]; exact hl) h
/-! ### f4: sward/swardlaw11.ReprBests -/
@[simp] theorem k4_0 : ch.keep 4 0 = [1, 2, 3] := by kernel_rfl
@[simp] theorem k4_1 : ch.keep 4 1 = [1, 2, 3, 18] := by kernel_rfl
@[simp] theorem k4_2 : ch.keep 4 2 = [6] := by kernel_rfl
@[simp] theorem k4_3 : ch.keep 4 3 = [1, 2, 3, 7, 8, 9] := by kernel_rfl
@[simp] theorem k4_4 : ch.keep 4 4 = [1, 2, 3, 7, 8, 9, 10, 11, 12] := by kernel_rfl
@[simp] theorem k4_5 : ch.keep 4 5 = [1, 2, 3, 7, 8, 9, 10, 11, 12, 13, 14] := by kernel_rfl
@[simp] theorem k4_6 : ch.keep 4 6 = [7, 8, 9, 10, 11, 12, 13, 14, 15, 16] := by kernel_rfl
@[simp] theorem k4_7 : ch.keep 4 7 = [6] := by kernel_rfl
noncomputable def code4 : Code := match Tryz.f4.body with | some c => c | none => .skip
theorem rs4 : Tryz.f4.results.toList = [.tmp 6] := rfl
theorem W4_of {args : List D} (ha : args.all (D.noRef 0 0) = true) (hl : args.length ≤ 72) {H : Hp} {o : Out × Hp}
    (h : alone H (fnOut Tryz.prog [.tmp 6] 0 0 (E false ⟨0, 0⟩ 4 code4 (mkF 0 args) H00)) = some o) : W 4 args H = some o :=
  W_of Tryz.func4 rfl (by kernel_rfl) rfl rfl rfl rfl rfl ha (by rw [Tryz.ntmps4]; exact hl) h
/-! ### f5: sward/swardlaw11.ReprProves -/
@[simp] theorem k5_0 : ch.keep 5 0 = [1] := by kernel_rfl
@[simp] theorem k5_1 : ch.keep 5 1 = [1, 15] := by kernel_rfl
@[simp] theorem k5_2 : ch.keep 5 2 = [2] := by kernel_rfl
@[simp] theorem k5_3 : ch.keep 5 3 = [1, 3, 4] := by kernel_rfl
@[simp] theorem k5_4 : ch.keep 5 4 = [1, 3, 4, 6, 7] := by kernel_rfl
@[simp] theorem k5_5 : ch.keep 5 5 = [1, 3, 6, 7, 30] := by kernel_rfl
@[simp] theorem k5_6 : ch.keep 5 6 = [2] := by kernel_rfl
@[simp] theorem k5_7 : ch.keep 5 7 = [1, 3, 6, 32] := by kernel_rfl
@[simp] theorem k5_8 : ch.keep 5 8 = [2] := by kernel_rfl
@[simp] theorem k5_9 : ch.keep 5 9 = [1, 3, 6, 9] := by kernel_rfl
@[simp] theorem k5_10 : ch.keep 5 10 = [1, 3, 6, 9, 10, 11] := by kernel_rfl
@[simp] theorem k5_11 : ch.keep 5 11 = [9, 10, 11, 13] := by kernel_rfl
@[simp] theorem k5_12 : ch.keep 5 12 = [2] := by kernel_rfl
noncomputable def code5 : Code := match Tryz.f5.body with | some c => c | none => .skip
theorem rs5 : Tryz.f5.results.toList = [.tmp 2] := rfl
theorem W5_of {args : List D} (ha : args.all (D.noRef 0 0) = true) (hl : args.length ≤ 78) {H : Hp} {o : Out × Hp}
    (h : alone H (fnOut Tryz.prog [.tmp 2] 0 0 (E false ⟨0, 0⟩ 5 code5 (mkF 0 args) H00)) = some o) : W 5 args H = some o :=
  W_of Tryz.func5 rfl (by kernel_rfl) rfl rfl rfl rfl rfl ha (by rw [Tryz.ntmps5]; exact hl) h
/-! ### f6: sward/swardlaw11.ReprAccepts -/
@[simp] theorem k6_0 : ch.keep 6 0 = [1, 2, 3] := by kernel_rfl
@[simp] theorem k6_1 : ch.keep 6 1 = [1, 2, 3, 17] := by kernel_rfl
@[simp] theorem k6_2 : ch.keep 6 2 = [6] := by kernel_rfl
@[simp] theorem k6_3 : ch.keep 6 3 = [1, 2, 3, 7, 8] := by kernel_rfl
@[simp] theorem k6_4 : ch.keep 6 4 = [7, 8, 9, 10] := by kernel_rfl
@[simp] theorem k6_5 : ch.keep 6 5 = [6] := by kernel_rfl
noncomputable def code6 : Code := match Tryz.f6.body with | some c => c | none => .skip
theorem rs6 : Tryz.f6.results.toList = [.tmp 6] := rfl
theorem W6_of {args : List D} (ha : args.all (D.noRef 0 0) = true) (hl : args.length ≤ 44) {H : Hp} {o : Out × Hp}
    (h : alone H (fnOut Tryz.prog [.tmp 6] 0 0 (E false ⟨0, 0⟩ 6 code6 (mkF 0 args) H00)) = some o) : W 6 args H = some o :=
  W_of Tryz.func6 rfl (by kernel_rfl) rfl rfl rfl rfl rfl ha (by rw [Tryz.ntmps6]; exact hl) h
/-! ### f7: sward/swardlaw11.ReprKnown -/
@[simp] theorem k7_0 : ch.keep 7 0 = [] := by kernel_rfl
@[simp] theorem k7_1 : ch.keep 7 1 = [44, 45, 46] := by kernel_rfl
@[simp] theorem k7_2 : ch.keep 7 2 = [44, 45, 46, 47] := by kernel_rfl
@[simp] theorem k7_3 : ch.keep 7 3 = [2, 44, 45, 46] := by kernel_rfl
@[simp] theorem k7_4 : ch.keep 7 4 = [2, 3, 4, 44, 45, 46] := by kernel_rfl
@[simp] theorem k7_5 : ch.keep 7 5 = [44, 45, 46, 66] := by kernel_rfl
@[simp] theorem k7_6 : ch.keep 7 6 = [0] := by kernel_rfl
@[simp] theorem k7_7 : ch.keep 7 7 = [44, 45, 46] := by kernel_rfl
@[simp] theorem k7_8 : ch.keep 7 8 = [83, 84, 85] := by kernel_rfl
@[simp] theorem k7_9 : ch.keep 7 9 = [83, 84, 85, 86] := by kernel_rfl
@[simp] theorem k7_10 : ch.keep 7 10 = [6, 83, 84, 85] := by kernel_rfl
@[simp] theorem k7_11 : ch.keep 7 11 = [6, 7, 8, 83, 84, 85] := by kernel_rfl
@[simp] theorem k7_12 : ch.keep 7 12 = [83, 84, 85, 105] := by kernel_rfl
@[simp] theorem k7_13 : ch.keep 7 13 = [0] := by kernel_rfl
@[simp] theorem k7_14 : ch.keep 7 14 = [83, 84, 85] := by kernel_rfl
@[simp] theorem k7_15 : ch.keep 7 15 = [111, 112, 113] := by kernel_rfl
@[simp] theorem k7_16 : ch.keep 7 16 = [111, 112, 113, 114] := by kernel_rfl
@[simp] theorem k7_17 : ch.keep 7 17 = [10, 111, 112, 113] := by kernel_rfl
@[simp] theorem k7_18 : ch.keep 7 18 = [10, 11, 12, 111, 112, 113] := by kernel_rfl
@[simp] theorem k7_19 : ch.keep 7 19 = [111, 112, 113, 135] := by kernel_rfl
@[simp] theorem k7_20 : ch.keep 7 20 = [0] := by kernel_rfl
@[simp] theorem k7_21 : ch.keep 7 21 = [111, 112, 113] := by kernel_rfl
@[simp] theorem k7_22 : ch.keep 7 22 = [162, 163, 164] := by kernel_rfl
@[simp] theorem k7_23 : ch.keep 7 23 = [162, 163, 164, 165] := by kernel_rfl
@[simp] theorem k7_24 : ch.keep 7 24 = [14, 162, 163, 164] := by kernel_rfl
@[simp] theorem k7_25 : ch.keep 7 25 = [14, 15, 16, 162, 163, 164] := by kernel_rfl
@[simp] theorem k7_26 : ch.keep 7 26 = [162, 163, 164, 186] := by kernel_rfl
@[simp] theorem k7_27 : ch.keep 7 27 = [0] := by kernel_rfl
@[simp] theorem k7_28 : ch.keep 7 28 = [162, 163, 164] := by kernel_rfl
@[simp] theorem k7_29 : ch.keep 7 29 = [17, 18, 19] := by kernel_rfl
@[simp] theorem k7_30 : ch.keep 7 30 = [17, 18, 19, 20, 21, 22] := by kernel_rfl
@[simp] theorem k7_31 : ch.keep 7 31 = [17, 18, 19, 20, 21, 22, 23, 24, 25] := by kernel_rfl
@[simp] theorem k7_32 : ch.keep 7 32 = [0] := by kernel_rfl
@[simp] theorem fl7_4 : ch.fl 7 4 = [1, 1, 1, 0, 0, 1, 1, 1, 0] := by kernel_rfl
@[simp] theorem fl7_11 : ch.fl 7 11 = [1, 1, 1, 0, 0, 1, 1, 1, 0] := by kernel_rfl
@[simp] theorem fl7_18 : ch.fl 7 18 = [1, 1, 1, 1, 1, 0, 0, 1, 1, 1, 0] := by kernel_rfl
@[simp] theorem fl7_25 : ch.fl 7 25 = [1, 1, 1, 1, 1, 0, 0, 1, 1, 1, 0] := by kernel_rfl
noncomputable def code7 : Code := match Tryz.f7.body with | some c => c | none => .skip
noncomputable def lp7_0 : Code := match code7 with | .seq _ (.seq (.seq _ (.block _ (.loop c))) _) => c | c => c
theorem hd7_0 : ch.head 7 (firstR lp7_0) = [44, 45, 46] := by kernel_rfl
noncomputable def lp7_1 : Code := match code7 with | .seq _ (.seq _ (.seq (.seq _ (.block _ (.loop c))) _)) => c | c => c
theorem hd7_1 : ch.head 7 (firstR lp7_1) = [83, 84, 85] := by kernel_rfl
noncomputable def lp7_2 : Code := match code7 with | .seq _ (.seq _ (.seq _ (.seq (.seq _ (.block _ (.loop c))) _))) => c | c => c
theorem hd7_2 : ch.head 7 (firstR lp7_2) = [111, 112, 113] := by kernel_rfl
noncomputable def lp7_3 : Code := match code7 with | .seq _ (.seq _ (.seq _ (.seq _ (.seq (.seq _ (.block _ (.loop c))) _)))) => c | c => c
theorem hd7_3 : ch.head 7 (firstR lp7_3) = [162, 163, 164] := by kernel_rfl
theorem rs7 : Tryz.f7.results.toList = [.tmp 0] := rfl
theorem W7_of {args : List D} (ha : args.all (D.noRef 0 0) = true) (hl : args.length ≤ 253) {H : Hp} {o : Out × Hp}
    (h : alone H (fnOut Tryz.prog [.tmp 0] 0 0 (E false ⟨0, 0⟩ 7 code7 (mkF 0 args) H00)) = some o) : W 7 args H = some o :=
  W_of Tryz.func7 rfl (by kernel_rfl) rfl rfl rfl rfl rfl ha (by rw [Tryz.ntmps7]; exact hl) h
/-! ### f8: sward/swardlaw11.large -/
@[simp] theorem k8_0 : ch.keep 8 0 = [1] := by kernel_rfl
@[simp] theorem k8_1 : ch.keep 8 1 = [1, 19] := by kernel_rfl
@[simp] theorem k8_2 : ch.keep 8 2 = [2] := by kernel_rfl
@[simp] theorem k8_3 : ch.keep 8 3 = [1, 3] := by kernel_rfl
@[simp] theorem k8_4 : ch.keep 8 4 = [1, 3, 24] := by kernel_rfl
@[simp] theorem k8_5 : ch.keep 8 5 = [1, 3] := by kernel_rfl
@[simp] theorem k8_6 : ch.keep 8 6 = [1, 3, 34] := by kernel_rfl
@[simp] theorem k8_7 : ch.keep 8 7 = [2] := by kernel_rfl
@[simp] theorem k8_8 : ch.keep 8 8 = [2] := by kernel_rfl
noncomputable def code8 : Code := match Tryz.f8.body with | some c => c | none => .skip
noncomputable def lp8_0 : Code := match code8 with | .seq _ (.seq _ (.seq (.seq _ (.block _ (.loop c))) _)) => c | c => c
theorem hd8_0 : ch.head 8 (firstR lp8_0) = [1, 3] := by kernel_rfl
theorem rs8 : Tryz.f8.results.toList = [.tmp 2] := rfl
theorem W8_of {args : List D} (ha : args.all (D.noRef 0 0) = true) (hl : args.length ≤ 35) {H : Hp} {o : Out × Hp}
    (h : alone H (fnOut Tryz.prog [.tmp 2] 0 0 (E false ⟨0, 0⟩ 8 code8 (mkF 0 args) H00)) = some o) : W 8 args H = some o :=
  W_of Tryz.func8 rfl (by kernel_rfl) rfl rfl rfl rfl rfl ha (by rw [Tryz.ntmps8]; exact hl) h
/-! ### f9: sward/swardlaw11.works -/
@[simp] theorem k9_0 : ch.keep 9 0 = [] := by kernel_rfl
@[simp] theorem k9_1 : ch.keep 9 1 = [1, 2] := by kernel_rfl
@[simp] theorem k9_2 : ch.keep 9 2 = [1, 2, 3, 4] := by kernel_rfl
@[simp] theorem k9_3 : ch.keep 9 3 = [1, 2, 3, 4, 5, 6, 7] := by kernel_rfl
@[simp] theorem k9_4 : ch.keep 9 4 = [1, 2, 3, 4, 5, 6, 7, 8, 9] := by kernel_rfl
@[simp] theorem k9_5 : ch.keep 9 5 = [1, 2, 3, 4, 5, 6, 7, 8, 9, 10, 11] := by kernel_rfl
@[simp] theorem k9_6 : ch.keep 9 6 = [1, 2, 3, 4, 5, 6, 7, 8, 9, 11, 13] := by kernel_rfl
@[simp] theorem k9_7 : ch.keep 9 7 = [98] := by kernel_rfl
@[simp] theorem k9_8 : ch.keep 9 8 = [0] := by kernel_rfl
@[simp] theorem k9_9 : ch.keep 9 9 = [2, 14] := by kernel_rfl
@[simp] theorem k9_10 : ch.keep 9 10 = [2, 4, 14] := by kernel_rfl
@[simp] theorem k9_11 : ch.keep 9 11 = [2, 4, 14, 15, 16] := by kernel_rfl
@[simp] theorem k9_12 : ch.keep 9 12 = [2, 4, 7, 14, 16, 17] := by kernel_rfl
@[simp] theorem k9_13 : ch.keep 9 13 = [0] := by kernel_rfl
@[simp] theorem fl9_13 : ch.fl 9 13 = [0, 0, 0, 0, 0, 0, 0, 0, 0, 0, 0, 0, 0, 0, 0, 0, 0, 0, 1, 1, 0, 0, 0] := by kernel_rfl
noncomputable def code9 : Code := match Tryz.f9.body with | some c => c | none => .skip
theorem rs9 : Tryz.f9.results.toList = [.tmp 0] := rfl
theorem W9_of {args : List D} (ha : args.all (D.noRef 0 0) = true) (hl : args.length ≤ 144) {H : Hp} {o : Out × Hp}
    (h : alone H (fnOut Tryz.prog [.tmp 0] 0 0 (E false ⟨0, 0⟩ 9 code9 (mkF 0 args) H00)) = some o) : W 9 args H = some o :=
  W_of Tryz.func9 rfl (by kernel_rfl) rfl rfl rfl rfl rfl ha (by rw [Tryz.ntmps9]; exact hl) h
/-! ### f10: sward/repr.Cost -/
@[simp] theorem k10_0 : ch.keep 10 0 = [1, 2] := by kernel_rfl
@[simp] theorem k10_1 : ch.keep 10 1 = [1, 2, 6] := by kernel_rfl
@[simp] theorem k10_2 : ch.keep 10 2 = [1, 2, 6, 11] := by kernel_rfl
@[simp] theorem k10_3 : ch.keep 10 3 = [4, 5] := by kernel_rfl
@[simp] theorem k10_4 : ch.keep 10 4 = [4, 5] := by kernel_rfl
noncomputable def code10 : Code := match Tryz.f10.body with | some c => c | none => .skip
theorem rs10 : Tryz.f10.results.toList = [.tmp 4, .tmp 5] := rfl
theorem W10_of {args : List D} (ha : args.all (D.noRef 0 0) = true) (hl : args.length ≤ 17) {H : Hp} {o : Out × Hp}
    (h : alone H (fnOut Tryz.prog [.tmp 4, .tmp 5] 0 0 (E false ⟨0, 0⟩ 10 code10 (mkF 0 args) H00)) = some o) : W 10 args H = some o :=
  W_of Tryz.func10 rfl (by kernel_rfl) rfl rfl rfl rfl rfl ha (by rw [Tryz.ntmps10]; exact hl) h
/-! ### f11: sward/swardref11.Cost -/
@[simp] theorem k11_0 : ch.keep 11 0 = [1, 2] := by kernel_rfl
@[simp] theorem k11_1 : ch.keep 11 1 = [1, 2, 6] := by kernel_rfl
@[simp] theorem k11_2 : ch.keep 11 2 = [1, 2, 6, 11] := by kernel_rfl
@[simp] theorem k11_3 : ch.keep 11 3 = [4, 5] := by kernel_rfl
@[simp] theorem k11_4 : ch.keep 11 4 = [4, 5] := by kernel_rfl
noncomputable def code11 : Code := match Tryz.f11.body with | some c => c | none => .skip
theorem rs11 : Tryz.f11.results.toList = [.tmp 4, .tmp 5] := rfl
theorem W11_of {args : List D} (ha : args.all (D.noRef 0 0) = true) (hl : args.length ≤ 16) {H : Hp} {o : Out × Hp}
    (h : alone H (fnOut Tryz.prog [.tmp 4, .tmp 5] 0 0 (E false ⟨0, 0⟩ 11 code11 (mkF 0 args) H00)) = some o) : W 11 args H = some o :=
  W_of Tryz.func11 rfl (by kernel_rfl) rfl rfl rfl rfl rfl ha (by rw [Tryz.ntmps11]; exact hl) h
/-! ### f12: sward/repr.Floor -/
@[simp] theorem k12_0 : ch.keep 12 0 = [1, 2] := by kernel_rfl
@[simp] theorem k12_1 : ch.keep 12 1 = [1, 2, 6] := by kernel_rfl
@[simp] theorem k12_2 : ch.keep 12 2 = [1, 2, 6, 11] := by kernel_rfl
@[simp] theorem k12_3 : ch.keep 12 3 = [4, 5] := by kernel_rfl
@[simp] theorem k12_4 : ch.keep 12 4 = [4, 5] := by kernel_rfl
noncomputable def code12 : Code := match Tryz.f12.body with | some c => c | none => .skip
theorem rs12 : Tryz.f12.results.toList = [.tmp 4, .tmp 5] := rfl
theorem W12_of {args : List D} (ha : args.all (D.noRef 0 0) = true) (hl : args.length ≤ 17) {H : Hp} {o : Out × Hp}
    (h : alone H (fnOut Tryz.prog [.tmp 4, .tmp 5] 0 0 (E false ⟨0, 0⟩ 12 code12 (mkF 0 args) H00)) = some o) : W 12 args H = some o :=
  W_of Tryz.func12 rfl (by kernel_rfl) rfl rfl rfl rfl rfl ha (by rw [Tryz.ntmps12]; exact hl) h
/-! ### f13: sward/swardref11.Floor -/
@[simp] theorem k13_0 : ch.keep 13 0 = [1, 2] := by kernel_rfl
@[simp] theorem k13_1 : ch.keep 13 1 = [1, 2, 6] := by kernel_rfl
@[simp] theorem k13_2 : ch.keep 13 2 = [1, 2, 6, 11] := by kernel_rfl
@[simp] theorem k13_3 : ch.keep 13 3 = [4, 5] := by kernel_rfl
@[simp] theorem k13_4 : ch.keep 13 4 = [4, 5] := by kernel_rfl
noncomputable def code13 : Code := match Tryz.f13.body with | some c => c | none => .skip
theorem rs13 : Tryz.f13.results.toList = [.tmp 4, .tmp 5] := rfl
theorem W13_of {args : List D} (ha : args.all (D.noRef 0 0) = true) (hl : args.length ≤ 16) {H : Hp} {o : Out × Hp}
    (h : alone H (fnOut Tryz.prog [.tmp 4, .tmp 5] 0 0 (E false ⟨0, 0⟩ 13 code13 (mkF 0 args) H00)) = some o) : W 13 args H = some o :=
  W_of Tryz.func13 rfl (by kernel_rfl) rfl rfl rfl rfl rfl ha (by rw [Tryz.ntmps13]; exact hl) h
/-! ### f14: sward/repr.Check -/
@[simp] theorem k14_0 : ch.keep 14 0 = [1] := by kernel_rfl
@[simp] theorem k14_1 : ch.keep 14 1 = [1, 3] := by kernel_rfl
@[simp] theorem k14_2 : ch.keep 14 2 = [1, 3, 27] := by kernel_rfl
@[simp] theorem k14_3 : ch.keep 14 3 = [2] := by kernel_rfl
@[simp] theorem k14_4 : ch.keep 14 4 = [1, 3, 29, 30, 31] := by kernel_rfl
@[simp] theorem k14_5 : ch.keep 14 5 = [1, 3, 29, 30, 31, 32] := by kernel_rfl
@[simp] theorem k14_6 : ch.keep 14 6 = [1, 3, 5, 29, 30, 31] := by kernel_rfl
@[simp] theorem k14_7 : ch.keep 14 7 = [1, 3, 29, 30, 31, 48] := by kernel_rfl
@[simp] theorem k14_8 : ch.keep 14 8 = [2] := by kernel_rfl
@[simp] theorem k14_9 : ch.keep 14 9 = [1, 3, 29, 30, 31] := by kernel_rfl
@[simp] theorem k14_10 : ch.keep 14 10 = [1, 3, 51, 52, 53] := by kernel_rfl
@[simp] theorem k14_11 : ch.keep 14 11 = [1, 3, 51, 52, 53, 54] := by kernel_rfl
@[simp] theorem k14_12 : ch.keep 14 12 = [1, 3, 7, 51, 52, 53] := by kernel_rfl
@[simp] theorem k14_13 : ch.keep 14 13 = [1, 3, 7, 8, 51, 52, 53] := by kernel_rfl
@[simp] theorem k14_14 : ch.keep 14 14 = [1, 3, 7, 8, 51, 52, 53, 62] := by kernel_rfl
@[simp] theorem k14_15 : ch.keep 14 15 = [1, 3, 7, 8, 51, 52, 53] := by kernel_rfl
@[simp] theorem k14_16 : ch.keep 14 16 = [1, 3, 51, 52, 53, 104] := by kernel_rfl
@[simp] theorem k14_17 : ch.keep 14 17 = [2] := by kernel_rfl
@[simp] theorem k14_18 : ch.keep 14 18 = [1, 3, 51, 52, 53] := by kernel_rfl
@[simp] theorem k14_19 : ch.keep 14 19 = [3, 107, 108, 109] := by kernel_rfl
@[simp] theorem k14_20 : ch.keep 14 20 = [3, 107, 108, 109, 110] := by kernel_rfl
@[simp] theorem k14_21 : ch.keep 14 21 = [3, 10, 107, 108, 109] := by kernel_rfl
@[simp] theorem k14_22 : ch.keep 14 22 = [3, 107, 108, 109, 134] := by kernel_rfl
@[simp] theorem k14_23 : ch.keep 14 23 = [2] := by kernel_rfl
@[simp] theorem k14_24 : ch.keep 14 24 = [3, 107, 108, 109] := by kernel_rfl
@[simp] theorem k14_25 : ch.keep 14 25 = [2] := by kernel_rfl
noncomputable def code14 : Code := match Tryz.f14.body with | some c => c | none => .skip
noncomputable def lp14_0 : Code := match code14 with | .seq _ (.seq _ (.seq _ (.seq (.seq _ (.block _ (.loop c))) _))) => c | c => c
theorem hd14_0 : ch.head 14 (firstR lp14_0) = [1, 3, 29, 30, 31] := by kernel_rfl
noncomputable def lp14_1 : Code := match code14 with | .seq _ (.seq _ (.seq _ (.seq _ (.seq (.seq _ (.block _ (.loop c))) _)))) => c | c => c
theorem hd14_1 : ch.head 14 (firstR lp14_1) = [1, 3, 51, 52, 53] := by kernel_rfl
noncomputable def lp14_2 : Code := match code14 with | .seq _ (.seq _ (.seq _ (.seq _ (.seq _ (.seq (.seq _ (.block _ (.loop c))) _))))) => c | c => c
theorem hd14_2 : ch.head 14 (firstR lp14_2) = [3, 107, 108, 109] := by kernel_rfl
theorem rs14 : Tryz.f14.results.toList = [.tmp 2] := rfl
theorem W14_of {args : List D} (ha : args.all (D.noRef 0 0) = true) (hl : args.length ≤ 136) {H : Hp} {o : Out × Hp}
    (h : alone H (fnOut Tryz.prog [.tmp 2] 0 0 (E false ⟨0, 0⟩ 14 code14 (mkF 0 args) H00)) = some o) : W 14 args H = some o :=
  W_of Tryz.func14 rfl (by kernel_rfl) rfl rfl rfl rfl rfl ha (by rw [Tryz.ntmps14]; exact hl) h
/-! ### f15: sward/swardref11.Check -/
@[simp] theorem k15_0 : ch.keep 15 0 = [1] := by kernel_rfl
@[simp] theorem k15_1 : ch.keep 15 1 = [5] := by kernel_rfl
@[simp] theorem k15_2 : ch.keep 15 2 = [2] := by kernel_rfl
@[simp] theorem k15_3 : ch.keep 15 3 = [2] := by kernel_rfl
noncomputable def code15 : Code := match Tryz.f15.body with | some c => c | none => .skip
theorem rs15 : Tryz.f15.results.toList = [.tmp 2] := rfl
theorem W15_of {args : List D} (ha : args.all (D.noRef 0 0) = true) (hl : args.length ≤ 6) {H : Hp} {o : Out × Hp}
    (h : alone H (fnOut Tryz.prog [.tmp 2] 0 0 (E false ⟨0, 0⟩ 15 code15 (mkF 0 args) H00)) = some o) : W 15 args H = some o :=
  W_of Tryz.func15 rfl (by kernel_rfl) rfl rfl rfl rfl rfl ha (by rw [Tryz.ntmps15]; exact hl) h
/-! ### f16: sward/repr.Best -/
@[simp] theorem k16_0 : ch.keep 16 0 = [1] := by kernel_rfl
@[simp] theorem k16_1 : ch.keep 16 1 = [1, 5] := by kernel_rfl
@[simp] theorem k16_2 : ch.keep 16 2 = [1, 5, 11] := by kernel_rfl
@[simp] theorem k16_3 : ch.keep 16 3 = [2, 3, 4] := by kernel_rfl
@[simp] theorem k16_4 : ch.keep 16 4 = [6, 7] := by kernel_rfl
@[simp] theorem k16_5 : ch.keep 16 5 = [6, 7, 24] := by kernel_rfl
@[simp] theorem k16_6 : ch.keep 16 6 = [2, 3, 4] := by kernel_rfl
@[simp] theorem k16_7 : ch.keep 16 7 = [2, 3, 4] := by kernel_rfl
@[simp] theorem fl16_4 : ch.fl 16 4 = [2, 2, 1, 1, 1, 3, 0, 0, 1, 1, 1, 0] := by kernel_rfl
noncomputable def code16 : Code := match Tryz.f16.body with | some c => c | none => .skip
theorem rs16 : Tryz.f16.results.toList = [.tmp 2, .tmp 3, .tmp 4] := rfl
theorem W16_of {args : List D} (ha : args.all (D.noRef 0 0) = true) (hl : args.length ≤ 27) {H : Hp} {o : Out × Hp}
    (h : alone H (fnOut Tryz.prog [.tmp 2, .tmp 3, .tmp 4] 0 0 (E false ⟨0, 0⟩ 16 code16 (mkF 0 args) H00)) = some o) : W 16 args H = some o :=
  W_of Tryz.func16 rfl (by kernel_rfl) rfl rfl rfl rfl rfl ha (by rw [Tryz.ntmps16]; exact hl) h
/-! ### f17: sward/swardref11.Best -/
@[simp] theorem k17_0 : ch.keep 17 0 = [1] := by kernel_rfl
@[simp] theorem k17_1 : ch.keep 17 1 = [1, 10] := by kernel_rfl
@[simp] theorem k17_2 : ch.keep 17 2 = [2, 3, 4] := by kernel_rfl
@[simp] theorem k17_3 : ch.keep 17 3 = [5, 6, 7] := by kernel_rfl
@[simp] theorem k17_4 : ch.keep 17 4 = [5, 6, 20] := by kernel_rfl
@[simp] theorem k17_5 : ch.keep 17 5 = [2, 3, 4] := by kernel_rfl
@[simp] theorem k17_6 : ch.keep 17 6 = [2, 3, 4] := by kernel_rfl
@[simp] theorem fl17_3 : ch.fl 17 3 = [1, 1, 1, 0, 0, 1, 1, 1, 1, 1, 0] := by kernel_rfl
noncomputable def code17 : Code := match Tryz.f17.body with | some c => c | none => .skip
theorem rs17 : Tryz.f17.results.toList = [.tmp 2, .tmp 3, .tmp 4] := rfl
theorem W17_of {args : List D} (ha : args.all (D.noRef 0 0) = true) (hl : args.length ≤ 23) {H : Hp} {o : Out × Hp}
    (h : alone H (fnOut Tryz.prog [.tmp 2, .tmp 3, .tmp 4] 0 0 (E false ⟨0, 0⟩ 17 code17 (mkF 0 args) H00)) = some o) : W 17 args H = some o :=
  W_of Tryz.func17 rfl (by kernel_rfl) rfl rfl rfl rfl rfl ha (by rw [Tryz.ntmps17]; exact hl) h
/-! ### f18: sward/repr.Least -/
@[simp] theorem k18_0 : ch.keep 18 0 = [1, 2, 3] := by kernel_rfl
@[simp] theorem k18_1 : ch.keep 18 1 = [1, 2, 3, 29] := by kernel_rfl
@[simp] theorem k18_2 : ch.keep 18 2 = [6, 7] := by kernel_rfl
@[simp] theorem k18_3 : ch.keep 18 3 = [1, 2, 3, 8] := by kernel_rfl
@[simp] theorem k18_4 : ch.keep 18 4 = [3, 8] := by kernel_rfl
@[simp] theorem k18_5 : ch.keep 18 5 = [9, 10] := by kernel_rfl
@[simp] theorem k18_6 : ch.keep 18 6 = [10, 46] := by kernel_rfl
@[simp] theorem k18_7 : ch.keep 18 7 = [6, 7] := by kernel_rfl
@[simp] theorem k18_8 : ch.keep 18 8 = [6, 7] := by kernel_rfl
noncomputable def code18 : Code := match Tryz.f18.body with | some c => c | none => .skip
theorem rs18 : Tryz.f18.results.toList = [.tmp 6, .tmp 7] := rfl
theorem W18_of {args : List D} (ha : args.all (D.noRef 0 0) = true) (hl : args.length ≤ 48) {H : Hp} {o : Out × Hp}
    (h : alone H (fnOut Tryz.prog [.tmp 6, .tmp 7] 0 0 (E false ⟨0, 0⟩ 18 code18 (mkF 0 args) H00)) = some o) : W 18 args H = some o :=
  W_of Tryz.func18 rfl (by kernel_rfl) rfl rfl rfl rfl rfl ha (by rw [Tryz.ntmps18]; exact hl) h
/-! ### f19: sward/swardref11.Least -/
@[simp] theorem k19_0 : ch.keep 19 0 = [1, 2, 3] := by kernel_rfl
@[simp] theorem k19_1 : ch.keep 19 1 = [1, 2, 3, 30] := by kernel_rfl
@[simp] theorem k19_2 : ch.keep 19 2 = [6, 7] := by kernel_rfl
@[simp] theorem k19_3 : ch.keep 19 3 = [1, 2, 3, 8] := by kernel_rfl
@[simp] theorem k19_4 : ch.keep 19 4 = [1, 2, 3, 8, 9] := by kernel_rfl
@[simp] theorem k19_5 : ch.keep 19 5 = [1, 2, 3, 8, 9, 10] := by kernel_rfl
@[simp] theorem k19_6 : ch.keep 19 6 = [1, 2, 3, 8, 9, 10, 36] := by kernel_rfl
@[simp] theorem k19_7 : ch.keep 19 7 = [1, 2, 3, 8, 9, 10] := by kernel_rfl
@[simp] theorem k19_8 : ch.keep 19 8 = [1, 2, 3, 8, 9, 10, 47] := by kernel_rfl
@[simp] theorem k19_9 : ch.keep 19 9 = [1, 2, 3, 8, 9, 10] := by kernel_rfl
@[simp] theorem k19_10 : ch.keep 19 10 = [12, 13] := by kernel_rfl
@[simp] theorem k19_11 : ch.keep 19 11 = [12, 63] := by kernel_rfl
@[simp] theorem k19_12 : ch.keep 19 12 = [6, 7] := by kernel_rfl
@[simp] theorem k19_13 : ch.keep 19 13 = [6, 7] := by kernel_rfl
noncomputable def code19 : Code := match Tryz.f19.body with | some c => c | none => .skip
noncomputable def lp19_0 : Code := match code19 with | .seq _ (.seq _ (.seq _ (.seq _ (.seq (.seq _ (.block _ (.loop c))) _)))) => c | c => c
theorem hd19_0 : ch.head 19 (firstR lp19_0) = [1, 2, 3, 8, 9, 10] := by kernel_rfl
theorem rs19 : Tryz.f19.results.toList = [.tmp 6, .tmp 7] := rfl
theorem W19_of {args : List D} (ha : args.all (D.noRef 0 0) = true) (hl : args.length ≤ 65) {H : Hp} {o : Out × Hp}
    (h : alone H (fnOut Tryz.prog [.tmp 6, .tmp 7] 0 0 (E false ⟨0, 0⟩ 19 code19 (mkF 0 args) H00)) = some o) : W 19 args H = some o :=
  W_of Tryz.func19 rfl (by kernel_rfl) rfl rfl rfl rfl rfl ha (by rw [Tryz.ntmps19]; exact hl) h
/-! ### f20: sward/swardref11.Alike -/
@[simp] theorem k20_0 : ch.keep 20 0 = [0, 1] := by kernel_rfl
@[simp] theorem k20_1 : ch.keep 20 1 = [0, 1, 10] := by kernel_rfl
@[simp] theorem k20_2 : ch.keep 20 2 = [4] := by kernel_rfl
@[simp] theorem k20_3 : ch.keep 20 3 = [0, 1, 5] := by kernel_rfl
@[simp] theorem k20_4 : ch.keep 20 4 = [0, 1, 5, 14] := by kernel_rfl
@[simp] theorem k20_5 : ch.keep 20 5 = [0, 1, 5] := by kernel_rfl
@[simp] theorem k20_6 : ch.keep 20 6 = [0, 1, 5, 25] := by kernel_rfl
@[simp] theorem k20_7 : ch.keep 20 7 = [4] := by kernel_rfl
@[simp] theorem k20_8 : ch.keep 20 8 = [4] := by kernel_rfl
@[simp] theorem fl20_6 : ch.fl 20 6 = [1, 1, 1, 1, 1, 1, 1, 1, 0] := by kernel_rfl
noncomputable def code20 : Code := match Tryz.f20.body with | some c => c | none => .skip
noncomputable def lp20_0 : Code := match code20 with | .seq _ (.seq _ (.seq (.seq _ (.block _ (.loop c))) _)) => c | c => c
theorem hd20_0 : ch.head 20 (firstR lp20_0) = [0, 1, 5] := by kernel_rfl
theorem rs20 : Tryz.f20.results.toList = [.tmp 4] := rfl
theorem W20_of {args : List D} (ha : args.all (D.noRef 0 0) = true) (hl : args.length ≤ 26) {H : Hp} {o : Out × Hp}
    (h : alone H (fnOut Tryz.prog [.tmp 4] 0 0 (E false ⟨0, 0⟩ 20 code20 (mkF 0 args) H00)) = some o) : W 20 args H = some o :=
  W_of Tryz.func20 rfl (by kernel_rfl) rfl rfl rfl rfl rfl ha (by rw [Tryz.ntmps20]; exact hl) h
/-! ### f21: sward/repr.Prove -/
@[simp] theorem k21_0 : ch.keep 21 0 = [1] := by kernel_rfl
@[simp] theorem k21_1 : ch.keep 21 1 = [1, 5, 6] := by kernel_rfl
@[simp] theorem k21_2 : ch.keep 21 2 = [1, 5, 6, 15] := by kernel_rfl
@[simp] theorem k21_3 : ch.keep 21 3 = [2, 3] := by kernel_rfl
@[simp] theorem k21_4 : ch.keep 21 4 = [1, 7] := by kernel_rfl
@[simp] theorem k21_5 : ch.keep 21 5 = [7] := by kernel_rfl
@[simp] theorem k21_6 : ch.keep 21 6 = [2, 3] := by kernel_rfl
noncomputable def code21 : Code := match Tryz.f21.body with | some c => c | none => .skip
theorem rs21 : Tryz.f21.results.toList = [.tmp 2, .tmp 3] := rfl
theorem W21_of {args : List D} (ha : args.all (D.noRef 0 0) = true) (hl : args.length ≤ 32) {H : Hp} {o : Out × Hp}
    (h : alone H (fnOut Tryz.prog [.tmp 2, .tmp 3] 0 0 (E true ⟨0, 0⟩ 21 code21 (mkF 0 args) H00)) = some o) : W 21 args H = some o :=
  W_of Tryz.func21 rfl (by kernel_rfl) rfl rfl rfl rfl rfl ha (by rw [Tryz.ntmps21]; exact hl) h
/-! ### f22: sward/swardref11.Accept -/
@[simp] theorem k22_0 : ch.keep 22 0 = [1, 2, 3] := by kernel_rfl
@[simp] theorem k22_1 : ch.keep 22 1 = [1, 2, 3, 12] := by kernel_rfl
@[simp] theorem k22_2 : ch.keep 22 2 = [6, 7] := by kernel_rfl
@[simp] theorem k22_3 : ch.keep 22 3 = [1, 2, 3, 15] := by kernel_rfl
@[simp] theorem k22_4 : ch.keep 22 4 = [6, 7] := by kernel_rfl
@[simp] theorem k22_5 : ch.keep 22 5 = [2, 8, 9] := by kernel_rfl
@[simp] theorem k22_6 : ch.keep 22 6 = [9, 30] := by kernel_rfl
@[simp] theorem k22_7 : ch.keep 22 7 = [6, 7] := by kernel_rfl
@[simp] theorem k22_8 : ch.keep 22 8 = [9, 32] := by kernel_rfl
@[simp] theorem k22_9 : ch.keep 22 9 = [6, 7] := by kernel_rfl
@[simp] theorem k22_10 : ch.keep 22 10 = [6, 7] := by kernel_rfl
@[simp] theorem fl22_5 : ch.fl 22 5 = [2, 2, 2, 1, 1, 1, 3, 0, 0, 1, 1, 1, 0] := by kernel_rfl
noncomputable def code22 : Code := match Tryz.f22.body with | some c => c | none => .skip
theorem rs22 : Tryz.f22.results.toList = [.tmp 6, .tmp 7] := rfl
theorem W22_of {args : List D} (ha : args.all (D.noRef 0 0) = true) (hl : args.length ≤ 34) {H : Hp} {o : Out × Hp}
    (h : alone H (fnOut Tryz.prog [.tmp 6, .tmp 7] 0 0 (E false ⟨0, 0⟩ 22 code22 (mkF 0 args) H00)) = some o) : W 22 args H = some o :=
  W_of Tryz.func22 rfl (by kernel_rfl) rfl rfl rfl rfl rfl ha (by rw [Tryz.ntmps22]; exact hl) h
/-! ### f23: sward/repr.Accept -/
@[simp] theorem k23_0 : ch.keep 23 0 = [1, 2, 3] := by kernel_rfl
@[simp] theorem k23_1 : ch.keep 23 1 = [1, 2, 3, 9] := by kernel_rfl
@[simp] theorem k23_2 : ch.keep 23 2 = [6, 7] := by kernel_rfl
@[simp] theorem k23_3 : ch.keep 23 3 = [1, 2, 3, 13] := by kernel_rfl
@[simp] theorem k23_4 : ch.keep 23 4 = [6, 7] := by kernel_rfl
@[simp] theorem k23_5 : ch.keep 23 5 = [2, 3, 8] := by kernel_rfl
@[simp] theorem k23_6 : ch.keep 23 6 = [8, 23] := by kernel_rfl
@[simp] theorem k23_7 : ch.keep 23 7 = [6, 7] := by kernel_rfl
@[simp] theorem k23_8 : ch.keep 23 8 = [8, 40] := by kernel_rfl
@[simp] theorem k23_9 : ch.keep 23 9 = [6, 7] := by kernel_rfl
@[simp] theorem k23_10 : ch.keep 23 10 = [6, 7] := by kernel_rfl
noncomputable def code23 : Code := match Tryz.f23.body with | some c => c | none => .skip
theorem rs23 : Tryz.f23.results.toList = [.tmp 6, .tmp 7] := rfl
theorem W23_of {args : List D} (ha : args.all (D.noRef 0 0) = true) (hl : args.length ≤ 50) {H : Hp} {o : Out × Hp}
    (h : alone H (fnOut Tryz.prog [.tmp 6, .tmp 7] 0 0 (E false ⟨0, 0⟩ 23 code23 (mkF 0 args) H00)) = some o) : W 23 args H = some o :=
  W_of Tryz.func23 rfl (by kernel_rfl) rfl rfl rfl rfl rfl ha (by rw [Tryz.ntmps23]; exact hl) h
/-! ### f24: sward/swardlaw11.forms -/
@[simp] theorem k24_0 : ch.keep 24 0 = [0] := by kernel_rfl
@[simp] theorem k24_1 : ch.keep 24 1 = [2] := by kernel_rfl
noncomputable def code24 : Code := match Tryz.f24.body with | some c => c | none => .skip
theorem rs24 : Tryz.f24.results.toList = [.tmp 2] := rfl
theorem W24_of {args : List D} (ha : args.all (D.noRef 0 0) = true) (hl : args.length ≤ 4) {H : Hp} {o : Out × Hp}
    (h : alone H (fnOut Tryz.prog [.tmp 2] 0 0 (E false ⟨0, 0⟩ 24 code24 (mkF 0 args) H00)) = some o) : W 24 args H = some o :=
  W_of Tryz.func24 rfl (by kernel_rfl) rfl rfl rfl rfl rfl ha (by rw [Tryz.ntmps24]; exact hl) h
/-! ### f25: sward/swardlaw11.P -/
@[simp] theorem k25_0 : ch.keep 25 0 = [0, 2] := by kernel_rfl
@[simp] theorem k25_1 : ch.keep 25 1 = [0, 2, 3] := by kernel_rfl
@[simp] theorem k25_2 : ch.keep 25 2 = [0, 2, 3, 4] := by kernel_rfl
@[simp] theorem k25_3 : ch.keep 25 3 = [2] := by kernel_rfl
noncomputable def code25 : Code := match Tryz.f25.body with | some c => c | none => .skip
theorem rs25 : Tryz.f25.results.toList = [.cell 2 26] := rfl
theorem W25_of {args : List D} (ha : args.all (D.noRef 0 0) = true) (hl : args.length ≤ 24) {H : Hp} {o : Out × Hp}
    (h : alone H (fnOut Tryz.prog [.cell 2 26] 0 0 (E false ⟨0, 0⟩ 25 code25 (mkF 0 args) H00)) = some o) : W 25 args H = some o :=
  W_of Tryz.func25 rfl (by kernel_rfl) rfl rfl rfl rfl rfl ha (by rw [Tryz.ntmps25]; exact hl) h
/-! ### f26: sward/swardlaw11.numbers -/
@[simp] theorem k26_0 : ch.keep 26 0 = [0] := by kernel_rfl
@[simp] theorem k26_1 : ch.keep 26 1 = [2] := by kernel_rfl
noncomputable def code26 : Code := match Tryz.f26.body with | some c => c | none => .skip
theorem rs26 : Tryz.f26.results.toList = [.tmp 2] := rfl
theorem W26_of {args : List D} (ha : args.all (D.noRef 0 0) = true) (hl : args.length ≤ 4) {H : Hp} {o : Out × Hp}
    (h : alone H (fnOut Tryz.prog [.tmp 2] 0 0 (E false ⟨0, 0⟩ 26 code26 (mkF 0 args) H00)) = some o) : W 26 args H = some o :=
  W_of Tryz.func26 rfl (by kernel_rfl) rfl rfl rfl rfl rfl ha (by rw [Tryz.ntmps26]; exact hl) h
/-! ### f32: sward/repr.parted -/
@[simp] theorem k32_0 : ch.keep 32 0 = [1, 3, 5] := by kernel_rfl
@[simp] theorem k32_1 : ch.keep 32 1 = [1, 3, 5, 7] := by kernel_rfl
@[simp] theorem k32_2 : ch.keep 32 2 = [6] := by kernel_rfl
@[simp] theorem k32_3 : ch.keep 32 3 = [1, 3, 19] := by kernel_rfl
@[simp] theorem k32_4 : ch.keep 32 4 = [6] := by kernel_rfl
@[simp] theorem k32_5 : ch.keep 32 5 = [23] := by kernel_rfl
@[simp] theorem k32_6 : ch.keep 32 6 = [6] := by kernel_rfl
@[simp] theorem k32_7 : ch.keep 32 7 = [6] := by kernel_rfl
noncomputable def code32 : Code := match Tryz.f32.body with | some c => c | none => .skip
theorem rs32 : Tryz.f32.results.toList = [.tmp 6] := rfl
theorem W32_of {args : List D} (ha : args.all (D.noRef 0 0) = true) (hl : args.length ≤ 29) {H : Hp} {o : Out × Hp}
    (h : alone H (fnOut Tryz.prog [.tmp 6] 0 0 (E false ⟨0, 0⟩ 32 code32 (mkF 0 args) H00)) = some o) : W 32 args H = some o :=
  W_of Tryz.func32 rfl (by kernel_rfl) rfl rfl rfl rfl rfl ha (by rw [Tryz.ntmps32]; exact hl) h
/-! ### f33: (sward/repr.problem).floor -/
@[simp] theorem k33_0 : ch.keep 33 0 = [1, 2] := by kernel_rfl
@[simp] theorem k33_1 : ch.keep 33 1 = [1, 2, 5] := by kernel_rfl
@[simp] theorem k33_2 : ch.keep 33 2 = [1, 2, 5, 17, 18, 19] := by kernel_rfl
@[simp] theorem k33_3 : ch.keep 33 3 = [1, 2, 5, 17, 18, 19, 20] := by kernel_rfl
@[simp] theorem k33_4 : ch.keep 33 4 = [1, 2, 5, 7, 17, 18, 19] := by kernel_rfl
@[simp] theorem k33_5 : ch.keep 33 5 = [1, 2, 5, 7, 8, 17, 18, 19] := by kernel_rfl
@[simp] theorem k33_6 : ch.keep 33 6 = [1, 2, 5, 7, 8, 17, 18, 19, 27, 28, 29] := by kernel_rfl
@[simp] theorem k33_7 : ch.keep 33 7 = [1, 2, 5, 7, 8, 17, 18, 19, 27, 28, 29, 30] := by kernel_rfl
@[simp] theorem k33_8 : ch.keep 33 8 = [1, 2, 5, 7, 8, 10, 17, 18, 19, 27, 28, 29] := by kernel_rfl
@[simp] theorem k33_9 : ch.keep 33 9 = [1, 2, 5, 7, 8, 10, 11, 17, 18, 19, 27, 28, 29] := by kernel_rfl
@[simp] theorem k33_10 : ch.keep 33 10 = [1, 2, 5, 7, 8, 10, 11, 17, 18, 19, 27, 28, 29, 44] := by kernel_rfl
@[simp] theorem k33_11 : ch.keep 33 11 = [1, 2, 5, 7, 8, 10, 11, 17, 18, 19, 27, 28, 29] := by kernel_rfl
@[simp] theorem k33_12 : ch.keep 33 12 = [1, 2, 5, 7, 8, 10, 17, 18, 19, 27, 28, 29, 50, 51, 52] := by kernel_rfl
@[simp] theorem k33_13 : ch.keep 33 13 = [1, 2, 5, 7, 8, 10, 17, 18, 19, 27, 28, 29, 50, 51, 52, 53] := by kernel_rfl
@[simp] theorem k33_14 : ch.keep 33 14 = [1, 2, 5, 7, 8, 10, 13, 17, 18, 19, 27, 28, 29, 50, 51, 52] := by kernel_rfl
@[simp] theorem k33_15 : ch.keep 33 15 = [1, 2, 5, 7, 8, 10, 14, 17, 18, 19, 27, 28, 29, 50, 51, 52] := by kernel_rfl
@[simp] theorem k33_16 : ch.keep 33 16 = [1, 2, 5, 7, 8, 10, 14, 17, 18, 19, 27, 28, 29, 50, 51, 52, 67] := by kernel_rfl
@[simp] theorem k33_17 : ch.keep 33 17 = [1, 2, 5, 7, 8, 10, 17, 18, 19, 27, 28, 29, 50, 51, 52] := by kernel_rfl
@[simp] theorem k33_18 : ch.keep 33 18 = [1, 2, 5, 7, 8, 10, 17, 18, 19, 27, 28, 29, 50, 51, 52] := by kernel_rfl
@[simp] theorem k33_19 : ch.keep 33 19 = [1, 2, 5, 7, 8, 17, 18, 19, 27, 28, 29] := by kernel_rfl
@[simp] theorem k33_20 : ch.keep 33 20 = [1, 2, 5, 17, 18, 19] := by kernel_rfl
@[simp] theorem k33_21 : ch.keep 33 21 = [1, 2, 5, 17, 18, 19] := by kernel_rfl
@[simp] theorem k33_22 : ch.keep 33 22 = [4] := by kernel_rfl
noncomputable def code33 : Code := match Tryz.f33.body with | some c => c | none => .skip
noncomputable def lp33_0 : Code := match code33 with | .seq _ (.seq _ (.seq (.seq _ (.block _ (.loop c))) _)) => c | c => c
theorem hd33_0 : ch.head 33 (firstR lp33_0) = [1, 2, 5, 17, 18, 19] := by kernel_rfl
noncomputable def lp33_1 : Code := match code33 with | .seq _ (.seq _ (.seq (.seq _ (.block _ (.loop (.seq _ (.seq _ (.seq (.block _ (.seq _ (.seq _ (.seq (.seq _ (.block _ (.loop c))) _)))) _)))))) _)) => c | c => c
theorem hd33_1 : ch.head 33 (firstR lp33_1) = [1, 2, 5, 7, 8, 17, 18, 19, 27, 28, 29] := by kernel_rfl
noncomputable def lp33_2 : Code := match code33 with | .seq _ (.seq _ (.seq (.seq _ (.block _ (.loop (.seq _ (.seq _ (.seq (.block _ (.seq _ (.seq _ (.seq (.seq _ (.block _ (.loop (.seq _ (.seq _ (.seq (.block _ (.seq _ (.seq _ (.seq _ (.seq _ (.block _ (.loop c))))))) _)))))) _)))) _)))))) _)) => c | c => c
theorem hd33_2 : ch.head 33 (firstR lp33_2) = [1, 2, 5, 7, 8, 10, 17, 18, 19, 27, 28, 29, 50, 51, 52] := by kernel_rfl
theorem rs33 : Tryz.f33.results.toList = [.tmp 4] := rfl
theorem W33_lend {args xs : List D} {A1 : List Arr} {H : Hp} (hargs : argsD false H.A args = some (xs, A1)) (ha : xs.all (D.noRef 0 0) = true) (hl : xs.length ≤ 79) {o : Out × Hp}
    (h : lent H (fnOut Tryz.prog [.tmp 4] 0 0 (E false ⟨0, 0⟩ 33 code33 (mkF 0 xs) H00)) = some o) : W 33 args H = some o :=
  W_lend Tryz.func33 rfl (by kernel_rfl) rfl rfl rfl rfl hargs ha (by rw [Tryz.ntmps33]; exact hl) h
/-! ### f34: sward/swardref11.shaped -/
@[simp] theorem k34_0 : ch.keep 34 0 = [1, 2, 3] := by kernel_rfl
@[simp] theorem k34_1 : ch.keep 34 1 = [1, 2, 3, 18] := by kernel_rfl
@[simp] theorem k34_2 : ch.keep 34 2 = [6] := by kernel_rfl
@[simp] theorem k34_3 : ch.keep 34 3 = [1, 2, 3, 7] := by kernel_rfl
@[simp] theorem k34_4 : ch.keep 34 4 = [1, 2, 3, 7, 22] := by kernel_rfl
@[simp] theorem k34_5 : ch.keep 34 5 = [1, 2, 3, 7] := by kernel_rfl
@[simp] theorem k34_6 : ch.keep 34 6 = [1, 2, 3, 7, 41] := by kernel_rfl
@[simp] theorem k34_7 : ch.keep 34 7 = [6] := by kernel_rfl
@[simp] theorem k34_8 : ch.keep 34 8 = [45] := by kernel_rfl
@[simp] theorem k34_9 : ch.keep 34 9 = [6] := by kernel_rfl
@[simp] theorem k34_10 : ch.keep 34 10 = [6] := by kernel_rfl
noncomputable def code34 : Code := match Tryz.f34.body with | some c => c | none => .skip
noncomputable def lp34_0 : Code := match code34 with | .seq _ (.seq _ (.seq (.seq _ (.block _ (.loop c))) _)) => c | c => c
theorem hd34_0 : ch.head 34 (firstR lp34_0) = [1, 2, 3, 7] := by kernel_rfl
theorem rs34 : Tryz.f34.results.toList = [.tmp 6] := rfl
theorem W34_of {args : List D} (ha : args.all (D.noRef 0 0) = true) (hl : args.length ≤ 46) {H : Hp} {o : Out × Hp}
    (h : alone H (fnOut Tryz.prog [.tmp 6] 0 0 (E false ⟨0, 0⟩ 34 code34 (mkF 0 args) H00)) = some o) : W 34 args H = some o :=
  W_of Tryz.func34 rfl (by kernel_rfl) rfl rfl rfl rfl rfl ha (by rw [Tryz.ntmps34]; exact hl) h
/-! ### f35: sward/swardref11.Total -/
@[simp] theorem k35_0 : ch.keep 35 0 = [1, 2] := by kernel_rfl
@[simp] theorem k35_1 : ch.keep 35 1 = [1, 2, 5] := by kernel_rfl
@[simp] theorem k35_2 : ch.keep 35 2 = [1, 2, 5, 6] := by kernel_rfl
@[simp] theorem k35_3 : ch.keep 35 3 = [1, 2, 5, 6, 12] := by kernel_rfl
@[simp] theorem k35_4 : ch.keep 35 4 = [1, 2, 5, 6] := by kernel_rfl
@[simp] theorem k35_5 : ch.keep 35 5 = [1, 2, 5, 6, 7] := by kernel_rfl
@[simp] theorem k35_6 : ch.keep 35 6 = [1, 2, 5, 6] := by kernel_rfl
@[simp] theorem k35_7 : ch.keep 35 7 = [4] := by kernel_rfl
@[simp] theorem fl35_6 : ch.fl 35 6 = [1, 1, 1, 1, 1, 1, 1, 1, 1, 1, 1, 1, 1, 1, 1, 1, 1, 0, 0] := by kernel_rfl
noncomputable def code35 : Code := match Tryz.f35.body with | some c => c | none => .skip
noncomputable def lp35_0 : Code := match code35 with | .seq _ (.seq _ (.seq (.seq _ (.block _ (.loop c))) _)) => c | c => c
theorem hd35_0 : ch.head 35 (firstR lp35_0) = [1, 2, 5, 6] := by kernel_rfl
theorem rs35 : Tryz.f35.results.toList = [.tmp 4] := rfl
theorem W35_of {args : List D} (ha : args.all (D.noRef 0 0) = true) (hl : args.length ≤ 39) {H : Hp} {o : Out × Hp}
    (h : alone H (fnOut Tryz.prog [.tmp 4] 0 0 (E false ⟨0, 0⟩ 35 code35 (mkF 0 args) H00)) = some o) : W 35 args H = some o :=
  W_of Tryz.func35 rfl (by kernel_rfl) rfl rfl rfl rfl rfl ha (by rw [Tryz.ntmps35]; exact hl) h
/-! ### f36: sward/swardref11.Bound -/
@[simp] theorem k36_0 : ch.keep 36 0 = [1, 2] := by kernel_rfl
@[simp] theorem k36_1 : ch.keep 36 1 = [1, 2, 5] := by kernel_rfl
@[simp] theorem k36_2 : ch.keep 36 2 = [1, 2, 5, 6] := by kernel_rfl
@[simp] theorem k36_3 : ch.keep 36 3 = [1, 2, 5, 6, 11] := by kernel_rfl
@[simp] theorem k36_4 : ch.keep 36 4 = [1, 2, 5, 6] := by kernel_rfl
@[simp] theorem k36_5 : ch.keep 36 5 = [1, 2, 5, 6] := by kernel_rfl
@[simp] theorem k36_6 : ch.keep 36 6 = [4] := by kernel_rfl
@[simp] theorem fl36_5 : ch.fl 36 5 = [1, 1, 1, 1, 1, 1, 1, 1, 1, 1, 1, 1, 1, 1, 1, 1, 0, 0] := by kernel_rfl
noncomputable def code36 : Code := match Tryz.f36.body with | some c => c | none => .skip
noncomputable def lp36_0 : Code := match code36 with | .seq _ (.seq _ (.seq (.seq _ (.block _ (.loop c))) _)) => c | c => c
theorem hd36_0 : ch.head 36 (firstR lp36_0) = [1, 2, 5, 6] := by kernel_rfl
theorem rs36 : Tryz.f36.results.toList = [.tmp 4] := rfl
theorem W36_of {args : List D} (ha : args.all (D.noRef 0 0) = true) (hl : args.length ≤ 32) {H : Hp} {o : Out × Hp}
    (h : alone H (fnOut Tryz.prog [.tmp 4] 0 0 (E false ⟨0, 0⟩ 36 code36 (mkF 0 args) H00)) = some o) : W 36 args H = some o :=
  W_of Tryz.func36 rfl (by kernel_rfl) rfl rfl rfl rfl rfl ha (by rw [Tryz.ntmps36]; exact hl) h
/-! ### f37: sward/repr.formed -/
@[simp] theorem k37_0 : ch.keep 37 0 = [0] := by kernel_rfl
@[simp] theorem k37_1 : ch.keep 37 1 = [0, 5, 6, 7] := by kernel_rfl
@[simp] theorem k37_2 : ch.keep 37 2 = [0, 5, 6, 7, 8] := by kernel_rfl
@[simp] theorem k37_3 : ch.keep 37 3 = [0, 3, 4, 5, 6, 7] := by kernel_rfl
@[simp] theorem k37_4 : ch.keep 37 4 = [0, 5, 6, 7, 27] := by kernel_rfl
@[simp] theorem k37_5 : ch.keep 37 5 = [2] := by kernel_rfl
@[simp] theorem k37_6 : ch.keep 37 6 = [0, 5, 6, 7] := by kernel_rfl
@[simp] theorem k37_7 : ch.keep 37 7 = [2] := by kernel_rfl
noncomputable def code37 : Code := match Tryz.f37.body with | some c => c | none => .skip
noncomputable def lp37_0 : Code := match code37 with | .seq _ (.seq (.seq _ (.block _ (.loop c))) _) => c | c => c
theorem hd37_0 : ch.head 37 (firstR lp37_0) = [0, 5, 6, 7] := by kernel_rfl
theorem rs37 : Tryz.f37.results.toList = [.tmp 2] := rfl
theorem W37_of {args : List D} (ha : args.all (D.noRef 0 0) = true) (hl : args.length ≤ 32) {H : Hp} {o : Out × Hp}
    (h : alone H (fnOut Tryz.prog [.tmp 2] 0 0 (E false ⟨0, 0⟩ 37 code37 (mkF 0 args) H00)) = some o) : W 37 args H = some o :=
  W_of Tryz.func37 rfl (by kernel_rfl) rfl rfl rfl rfl rfl ha (by rw [Tryz.ntmps37]; exact hl) h
/-! ### f38: sward/repr.two -/
@[simp] theorem k38_0 : ch.keep 38 0 = [0] := by kernel_rfl
@[simp] theorem k38_1 : ch.keep 38 1 = [2] := by kernel_rfl
noncomputable def code38 : Code := match Tryz.f38.body with | some c => c | none => .skip
theorem rs38 : Tryz.f38.results.toList = [.tmp 2] := rfl
theorem W38_of {args : List D} (ha : args.all (D.noRef 0 0) = true) (hl : args.length ≤ 9) {H : Hp} {o : Out × Hp}
    (h : alone H (fnOut Tryz.prog [.tmp 2] 0 0 (E false ⟨0, 0⟩ 38 code38 (mkF 0 args) H00)) = some o) : W 38 args H = some o :=
  W_of Tryz.func38 rfl (by kernel_rfl) rfl rfl rfl rfl rfl ha (by rw [Tryz.ntmps38]; exact hl) h
/-! ### f39: sward/swardref11.Formed -/
@[simp] theorem k39_0 : ch.keep 39 0 = [1] := by kernel_rfl
@[simp] theorem k39_1 : ch.keep 39 1 = [1, 3] := by kernel_rfl
@[simp] theorem k39_2 : ch.keep 39 2 = [1, 3, 25] := by kernel_rfl
@[simp] theorem k39_3 : ch.keep 39 3 = [2] := by kernel_rfl
@[simp] theorem k39_4 : ch.keep 39 4 = [1, 3, 4] := by kernel_rfl
@[simp] theorem k39_5 : ch.keep 39 5 = [1, 3, 4, 28] := by kernel_rfl
@[simp] theorem k39_6 : ch.keep 39 6 = [1, 3, 4] := by kernel_rfl
@[simp] theorem k39_7 : ch.keep 39 7 = [1, 3, 4, 48] := by kernel_rfl
@[simp] theorem k39_8 : ch.keep 39 8 = [2] := by kernel_rfl
@[simp] theorem k39_9 : ch.keep 39 9 = [1, 3, 5] := by kernel_rfl
@[simp] theorem k39_10 : ch.keep 39 10 = [1, 3, 5, 53] := by kernel_rfl
@[simp] theorem k39_11 : ch.keep 39 11 = [1, 3, 5] := by kernel_rfl
@[simp] theorem k39_12 : ch.keep 39 12 = [1, 3, 5, 63] := by kernel_rfl
@[simp] theorem k39_13 : ch.keep 39 13 = [2] := by kernel_rfl
@[simp] theorem k39_14 : ch.keep 39 14 = [1, 3, 6] := by kernel_rfl
@[simp] theorem k39_15 : ch.keep 39 15 = [1, 3, 6, 68] := by kernel_rfl
@[simp] theorem k39_16 : ch.keep 39 16 = [1, 3, 6] := by kernel_rfl
@[simp] theorem k39_17 : ch.keep 39 17 = [1, 3, 6, 7, 8] := by kernel_rfl
@[simp] theorem k39_18 : ch.keep 39 18 = [1, 3, 6, 99] := by kernel_rfl
@[simp] theorem k39_19 : ch.keep 39 19 = [2] := by kernel_rfl
@[simp] theorem k39_20 : ch.keep 39 20 = [2] := by kernel_rfl
@[simp] theorem fl39_17 : ch.fl 39 17 = [1, 1, 1, 1, 1, 1, 1, 1, 1, 1, 1, 1, 1, 0] := by kernel_rfl
noncomputable def code39 : Code := match Tryz.f39.body with | some c => c | none => .skip
noncomputable def lp39_0 : Code := match code39 with | .seq _ (.seq _ (.seq _ (.seq (.seq _ (.block _ (.loop c))) _))) => c | c => c
theorem hd39_0 : ch.head 39 (firstR lp39_0) = [1, 3, 4] := by kernel_rfl
noncomputable def lp39_1 : Code := match code39 with | .seq _ (.seq _ (.seq _ (.seq _ (.seq (.seq _ (.block _ (.loop c))) _)))) => c | c => c
theorem hd39_1 : ch.head 39 (firstR lp39_1) = [1, 3, 5] := by kernel_rfl
noncomputable def lp39_2 : Code := match code39 with | .seq _ (.seq _ (.seq _ (.seq _ (.seq _ (.seq (.seq _ (.block _ (.loop c))) _))))) => c | c => c
theorem hd39_2 : ch.head 39 (firstR lp39_2) = [1, 3, 6] := by kernel_rfl
theorem rs39 : Tryz.f39.results.toList = [.tmp 2] := rfl
theorem W39_of {args : List D} (ha : args.all (D.noRef 0 0) = true) (hl : args.length ≤ 100) {H : Hp} {o : Out × Hp}
    (h : alone H (fnOut Tryz.prog [.tmp 2] 0 0 (E false ⟨0, 0⟩ 39 code39 (mkF 0 args) H00)) = some o) : W 39 args H = some o :=
  W_of Tryz.func39 rfl (by kernel_rfl) rfl rfl rfl rfl rfl ha (by rw [Tryz.ntmps39]; exact hl) h
/-! ### f40: (sward/repr.problem).cheapest -/
@[simp] theorem k40_0 : ch.keep 40 0 = [1, 2] := by kernel_rfl
@[simp] theorem k40_1 : ch.keep 40 1 = [4, 5] := by kernel_rfl
@[simp] theorem fl40_1 : ch.fl 40 1 = [2, 1, 3, 0, 1, 1, 0, 0] := by kernel_rfl
noncomputable def code40 : Code := match Tryz.f40.body with | some c => c | none => .skip
theorem rs40 : Tryz.f40.results.toList = [.tmp 4, .tmp 5] := rfl
theorem W40_ofN {args : List D} {H : Hp} (hp : ¬ (ch.pure 40 = true ∧ args.all (D.noRef 0 0) = true)) (hl : args.length ≤ 12) {o : Out × Hp}
    (h : fnOutN Tryz.prog [.tmp 4, .tmp 5] H.B.length H.A.length (E false ⟨0, 0⟩ 40 code40 (mkF 0 args) H) = some o) : W 40 args H = some o :=
  W_ofN Tryz.func40 rfl (by kernel_rfl) rfl rfl rfl rfl hp (by rw [Tryz.ntmps40]; exact hl) h
/-! ### f41: sward/swardref11.cheapest -/
@[simp] theorem k41_0 : ch.keep 41 0 = [1, 2] := by kernel_rfl
@[simp] theorem k41_1 : ch.keep 41 1 = [1, 2, 7, 8] := by kernel_rfl
@[simp] theorem k41_2 : ch.keep 41 2 = [1, 2, 7, 8, 9] := by kernel_rfl
@[simp] theorem k41_3 : ch.keep 41 3 = [1, 2, 7, 8, 9, 14] := by kernel_rfl
@[simp] theorem k41_4 : ch.keep 41 4 = [1, 2, 7, 8, 9] := by kernel_rfl
@[simp] theorem k41_5 : ch.keep 41 5 = [1, 2, 7, 8, 9, 10] := by kernel_rfl
@[simp] theorem k41_6 : ch.keep 41 6 = [1, 2, 7, 8, 9, 10, 29] := by kernel_rfl
@[simp] theorem k41_7 : ch.keep 41 7 = [1, 2, 7, 8, 9] := by kernel_rfl
@[simp] theorem k41_8 : ch.keep 41 8 = [1, 7, 8, 33] := by kernel_rfl
@[simp] theorem k41_9 : ch.keep 41 9 = [4, 5, 6] := by kernel_rfl
@[simp] theorem k41_10 : ch.keep 41 10 = [4, 5, 6] := by kernel_rfl
@[simp] theorem fl41_5 : ch.fl 41 5 = [1, 1, 1, 1, 1, 0, 0] := by kernel_rfl
noncomputable def code41 : Code := match Tryz.f41.body with | some c => c | none => .skip
noncomputable def lp41_0 : Code := match code41 with | .seq _ (.seq _ (.seq (.seq _ (.block _ (.loop c))) _)) => c | c => c
theorem hd41_0 : ch.head 41 (firstR lp41_0) = [1, 2, 7, 8, 9] := by kernel_rfl
theorem rs41 : Tryz.f41.results.toList = [.tmp 4, .tmp 5, .tmp 6] := rfl
theorem W41_of {args : List D} (ha : args.all (D.noRef 0 0) = true) (hl : args.length ≤ 39) {H : Hp} {o : Out × Hp}
    (h : alone H (fnOut Tryz.prog [.tmp 4, .tmp 5, .tmp 6] 0 0 (E false ⟨0, 0⟩ 41 code41 (mkF 0 args) H00)) = some o) : W 41 args H = some o :=
  W_of Tryz.func41 rfl (by kernel_rfl) rfl rfl rfl rfl rfl ha (by rw [Tryz.ntmps41]; exact hl) h
/-! ### f42: sward/swardref11.Choices -/
@[simp] theorem k42_0 : ch.keep 42 0 = [1, 2] := by kernel_rfl
@[simp] theorem k42_1 : ch.keep 42 1 = [1, 2, 13] := by kernel_rfl
@[simp] theorem k42_2 : ch.keep 42 2 = [1, 17] := by kernel_rfl
@[simp] theorem k42_3 : ch.keep 42 3 = [4] := by kernel_rfl
@[simp] theorem k42_4 : ch.keep 42 4 = [4] := by kernel_rfl
@[simp] theorem k42_5 : ch.keep 42 5 = [1, 2, 5] := by kernel_rfl
@[simp] theorem k42_6 : ch.keep 42 6 = [1, 2, 5, 6] := by kernel_rfl
@[simp] theorem k42_7 : ch.keep 42 7 = [1, 2, 5, 6, 7] := by kernel_rfl
@[simp] theorem k42_8 : ch.keep 42 8 = [1, 2, 5, 6, 7, 30] := by kernel_rfl
@[simp] theorem k42_9 : ch.keep 42 9 = [1, 2, 5, 6, 7] := by kernel_rfl
@[simp] theorem k42_10 : ch.keep 42 10 = [1, 2, 5, 6, 7] := by kernel_rfl
@[simp] theorem k42_11 : ch.keep 42 11 = [4] := by kernel_rfl
@[simp] theorem fl42_10 : ch.fl 42 10 = [2, 2, 1, 3, 2, 2, 2, 2, 2, 3, 1, 0, 0] := by kernel_rfl
noncomputable def code42 : Code := match Tryz.f42.body with | some c => c | none => .skip
noncomputable def lp42_0 : Code := match code42 with | .seq _ (.seq _ (.seq _ (.seq _ (.seq (.seq _ (.block _ (.loop c))) _)))) => c | c => c
theorem hd42_0 : ch.head 42 (firstR lp42_0) = [1, 2, 5, 6, 7] := by kernel_rfl
theorem rs42 : Tryz.f42.results.toList = [.tmp 4] := rfl
theorem W42_of {args : List D} (ha : args.all (D.noRef 0 0) = true) (hl : args.length ≤ 46) {H : Hp} {o : Out × Hp}
    (h : alone H (fnOut Tryz.prog [.tmp 4] 0 0 (E false ⟨0, 0⟩ 42 code42 (mkF 0 args) H00)) = some o) : W 42 args H = some o :=
  W_of Tryz.func42 rfl (by kernel_rfl) rfl rfl rfl rfl rfl ha (by rw [Tryz.ntmps42]; exact hl) h
/-! ### f43: sward/repr.form -/
@[simp] theorem k43_0 : ch.keep 43 0 = [0] := by kernel_rfl
@[simp] theorem k43_1 : ch.keep 43 1 = [2] := by kernel_rfl
noncomputable def code43 : Code := match Tryz.f43.body with | some c => c | none => .skip
theorem rs43 : Tryz.f43.results.toList = [.tmp 2] := rfl
theorem W43_of {args : List D} (ha : args.all (D.noRef 0 0) = true) (hl : args.length ≤ 9) {H : Hp} {o : Out × Hp}
    (h : alone H (fnOut Tryz.prog [.tmp 2] 0 0 (E false ⟨0, 0⟩ 43 code43 (mkF 0 args) H00)) = some o) : W 43 args H = some o :=
  W_of Tryz.func43 rfl (by kernel_rfl) rfl rfl rfl rfl rfl ha (by rw [Tryz.ntmps43]; exact hl) h
/-! ### f44: sward/swardref11.in -/
@[simp] theorem k44_0 : ch.keep 44 0 = [0, 1, 2] := by kernel_rfl
@[simp] theorem k44_1 : ch.keep 44 1 = [6] := by kernel_rfl
noncomputable def code44 : Code := match Tryz.f44.body with | some c => c | none => .skip
theorem rs44 : Tryz.f44.results.toList = [.tmp 6] := rfl
theorem W44_of {args : List D} (ha : args.all (D.noRef 0 0) = true) (hl : args.length ≤ 15) {H : Hp} {o : Out × Hp}
    (h : alone H (fnOut Tryz.prog [.tmp 6] 0 0 (E false ⟨0, 0⟩ 44 code44 (mkF 0 args) H00)) = some o) : W 44 args H = some o :=
  W_of Tryz.func44 rfl (by kernel_rfl) rfl rfl rfl rfl rfl ha (by rw [Tryz.ntmps44]; exact hl) h
/-! ### f45: sward/swardref11.five -/
@[simp] theorem k45_0 : ch.keep 45 0 = [0] := by kernel_rfl
@[simp] theorem k45_1 : ch.keep 45 1 = [2] := by kernel_rfl
noncomputable def code45 : Code := match Tryz.f45.body with | some c => c | none => .skip
theorem rs45 : Tryz.f45.results.toList = [.tmp 2] := rfl
theorem W45_of {args : List D} (ha : args.all (D.noRef 0 0) = true) (hl : args.length ≤ 9) {H : Hp} {o : Out × Hp}
    (h : alone H (fnOut Tryz.prog [.tmp 2] 0 0 (E false ⟨0, 0⟩ 45 code45 (mkF 0 args) H00)) = some o) : W 45 args H = some o :=
  W_of Tryz.func45 rfl (by kernel_rfl) rfl rfl rfl rfl rfl ha (by rw [Tryz.ntmps45]; exact hl) h
/-! ### f46: (*sward/repr.proof).grow -/
@[simp] theorem k46_0 : ch.keep 46 0 = [0, 1, 4] := by kernel_rfl
@[simp] theorem k46_1 : ch.keep 46 1 = [0, 1, 4, 32] := by kernel_rfl
@[simp] theorem k46_2 : ch.keep 46 2 = [] := by kernel_rfl
@[simp] theorem k46_3 : ch.keep 46 3 = [0, 1, 4] := by kernel_rfl
@[simp] theorem k46_4 : ch.keep 46 4 = [0, 1, 4, 61, 62, 63] := by kernel_rfl
@[simp] theorem k46_5 : ch.keep 46 5 = [0, 1, 4, 61, 62, 63, 64] := by kernel_rfl
@[simp] theorem k46_6 : ch.keep 46 6 = [0, 1, 4, 6, 61, 62, 63] := by kernel_rfl
@[simp] theorem k46_7 : ch.keep 46 7 = [0, 1, 4, 61, 62, 63] := by kernel_rfl
@[simp] theorem k46_8 : ch.keep 46 8 = [0, 1, 4, 61, 62, 63] := by kernel_rfl
@[simp] theorem k46_9 : ch.keep 46 9 = [0, 1, 4, 61, 62, 63] := by kernel_rfl
@[simp] theorem k46_10 : ch.keep 46 10 = [] := by kernel_rfl
@[simp] theorem fl46_1 : ch.fl 46 1 = [0, 0, 0, 1, 1, 1, 1, 1, 0, 0, 0, 0, 1, 1, 1, 1, 1, 1, 1, 1, 1, 1, 0, 0] := by kernel_rfl
noncomputable def code46 : Code := match Tryz.f46.body with | some c => c | none => .skip
noncomputable def lp46_0 : Code := match code46 with | .seq _ (.seq _ (.seq _ (.seq (.seq _ (.block _ (.loop c))) _))) => c | c => c
theorem hd46_0 : ch.head 46 (firstR lp46_0) = [0, 1, 4, 61, 62, 63] := by kernel_rfl
theorem rs46 : Tryz.f46.results.toList = [] := rfl
theorem W46_of {args : List D} (ha : args.all (D.noRef 0 0) = true) (hl : args.length ≤ 78) {H : Hp} {o : Out × Hp}
    (h : alone H (fnOut Tryz.prog [] 0 0 (E true ⟨0, 0⟩ 46 code46 (mkF 0 args) H00)) = some o) : W 46 args H = some o :=
  W_of Tryz.func46 rfl (by kernel_rfl) rfl rfl rfl rfl rfl ha (by rw [Tryz.ntmps46]; exact hl) h
/-! ### f47: sward/swardref11.tree -/
@[simp] theorem k47_0 : ch.keep 47 0 = [1, 2, 3, 4, 5] := by kernel_rfl
@[simp] theorem k47_1 : ch.keep 47 1 = [1, 2, 3, 4, 5, 35] := by kernel_rfl
@[simp] theorem k47_2 : ch.keep 47 2 = [10, 11] := by kernel_rfl
@[simp] theorem k47_3 : ch.keep 47 3 = [1, 2, 3, 4, 5, 12] := by kernel_rfl
@[simp] theorem k47_4 : ch.keep 47 4 = [1, 2, 3, 4, 5, 12, 41] := by kernel_rfl
@[simp] theorem k47_5 : ch.keep 47 5 = [3, 51] := by kernel_rfl
@[simp] theorem k47_6 : ch.keep 47 6 = [10, 11] := by kernel_rfl
@[simp] theorem k47_7 : ch.keep 47 7 = [10, 11] := by kernel_rfl
@[simp] theorem k47_8 : ch.keep 47 8 = [1, 2, 3, 4, 5, 12, 61] := by kernel_rfl
@[simp] theorem k47_9 : ch.keep 47 9 = [10, 11] := by kernel_rfl
@[simp] theorem k47_10 : ch.keep 47 10 = [1, 2, 4, 5, 12, 13, 14] := by kernel_rfl
@[simp] theorem k47_11 : ch.keep 47 11 = [1, 2, 4, 5, 12, 13, 14, 15] := by kernel_rfl
@[simp] theorem k47_12 : ch.keep 47 12 = [1, 2, 4, 5, 12, 13, 14, 15, 16] := by kernel_rfl
@[simp] theorem k47_13 : ch.keep 47 13 = [1, 2, 4, 5, 12, 13, 14, 15, 16, 73] := by kernel_rfl
@[simp] theorem k47_14 : ch.keep 47 14 = [1, 2, 4, 5, 12, 13, 14, 15, 16] := by kernel_rfl
@[simp] theorem k47_15 : ch.keep 47 15 = [1, 2, 4, 5, 12, 13, 14, 15, 16, 17] := by kernel_rfl
@[simp] theorem k47_16 : ch.keep 47 16 = [1, 2, 4, 5, 12, 13, 14, 15, 16, 17] := by kernel_rfl
@[simp] theorem k47_17 : ch.keep 47 17 = [1, 2, 4, 5, 12, 14, 15, 16, 18, 19] := by kernel_rfl
@[simp] theorem k47_18 : ch.keep 47 18 = [1, 2, 4, 5, 12, 14, 15, 16, 18, 19, 95] := by kernel_rfl
@[simp] theorem k47_19 : ch.keep 47 19 = [10, 11] := by kernel_rfl
@[simp] theorem k47_20 : ch.keep 47 20 = [1, 2, 4, 5, 12, 14, 15, 16, 18, 19, 97] := by kernel_rfl
@[simp] theorem k47_21 : ch.keep 47 21 = [1, 2, 4, 5, 12, 14, 15, 16, 18] := by kernel_rfl
@[simp] theorem k47_22 : ch.keep 47 22 = [1, 2, 4, 5, 12, 13, 14, 15, 16] := by kernel_rfl
@[simp] theorem k47_23 : ch.keep 47 23 = [10, 11] := by kernel_rfl
@[simp] theorem fl47_1 : ch.fl 47 1 = [1, 1, 1, 0, 0, 1, 1, 1, 1, 1, 1, 1, 1, 0, 0, 0] := by kernel_rfl
noncomputable def code47 : Code := match Tryz.f47.body with | some c => c | none => .skip
noncomputable def lp47_0 : Code := match code47 with | .seq _ (.seq _ (.seq _ (.seq _ (.seq _ (.seq _ (.seq _ (.seq (.seq _ (.block _ (.loop c))) _))))))) => c | c => c
theorem hd47_0 : ch.head 47 (firstR lp47_0) = [1, 2, 4, 5, 12, 13, 14, 15, 16] := by kernel_rfl
theorem rs47 : Tryz.f47.results.toList = [.tmp 10, .tmp 11] := rfl
theorem W47_of {args : List D} (ha : args.all (D.noRef 0 0) = true) (hl : args.length ≤ 102) {H : Hp} {o : Out × Hp}
    (h : alone H (fnOut Tryz.prog [.tmp 10, .tmp 11] 0 0 (E true ⟨0, 0⟩ 47 code47 (mkF 0 args) H00)) = some o) : W 47 args H = some o :=
  W_of Tryz.func47 rfl (by kernel_rfl) rfl rfl rfl rfl rfl ha (by rw [Tryz.ntmps47]; exact hl) h
/-! ### f48: (*sward/repr.reader).tree -/
@[simp] theorem k48_0 : ch.keep 48 0 = [0, 1] := by kernel_rfl
@[simp] theorem k48_1 : ch.keep 48 1 = [0, 1, 19] := by kernel_rfl
@[simp] theorem k48_2 : ch.keep 48 2 = [4] := by kernel_rfl
@[simp] theorem k48_3 : ch.keep 48 3 = [0, 1, 5] := by kernel_rfl
@[simp] theorem k48_4 : ch.keep 48 4 = [0, 1, 5] := by kernel_rfl
@[simp] theorem k48_5 : ch.keep 48 5 = [0, 1, 5, 37] := by kernel_rfl
@[simp] theorem k48_6 : ch.keep 48 6 = [0, 65] := by kernel_rfl
@[simp] theorem k48_7 : ch.keep 48 7 = [] := by kernel_rfl
@[simp] theorem k48_8 : ch.keep 48 8 = [4] := by kernel_rfl
@[simp] theorem k48_9 : ch.keep 48 9 = [0, 1, 5, 74] := by kernel_rfl
@[simp] theorem k48_10 : ch.keep 48 10 = [4] := by kernel_rfl
@[simp] theorem k48_11 : ch.keep 48 11 = [0, 1, 5, 6] := by kernel_rfl
@[simp] theorem k48_12 : ch.keep 48 12 = [0, 1, 5, 6, 7] := by kernel_rfl
@[simp] theorem k48_13 : ch.keep 48 13 = [1, 5, 6, 7, 101, 102, 103] := by kernel_rfl
@[simp] theorem k48_14 : ch.keep 48 14 = [1, 5, 6, 7, 101, 102, 103, 104] := by kernel_rfl
@[simp] theorem k48_15 : ch.keep 48 15 = [1, 5, 6, 9, 101, 102, 103] := by kernel_rfl
@[simp] theorem k48_16 : ch.keep 48 16 = [1, 5, 6, 101, 102, 103] := by kernel_rfl
@[simp] theorem k48_17 : ch.keep 48 17 = [1, 5, 6, 7, 101, 102, 103] := by kernel_rfl
@[simp] theorem k48_18 : ch.keep 48 18 = [1, 5, 6, 7, 101, 102, 103, 115] := by kernel_rfl
@[simp] theorem k48_19 : ch.keep 48 19 = [1, 5, 6, 7, 101, 102, 103] := by kernel_rfl
@[simp] theorem k48_20 : ch.keep 48 20 = [7] := by kernel_rfl
@[simp] theorem k48_21 : ch.keep 48 21 = [4] := by kernel_rfl
@[simp] theorem fl48_1 : ch.fl 48 1 = [1, 1, 1, 1, 1, 1, 1, 1, 1, 0] := by kernel_rfl
@[simp] theorem fl48_3 : ch.fl 48 3 = [1, 1, 1, 1, 1, 1, 1, 1, 0, 0, 0] := by kernel_rfl
@[simp] theorem fl48_6 : ch.fl 48 6 = [0, 0, 0, 0, 0, 0, 1, 1, 1, 1, 1, 0, 0, 0, 1, 1, 1, 1, 1, 1, 1, 1, 1, 1, 0, 0] := by kernel_rfl
noncomputable def code48 : Code := match Tryz.f48.body with | some c => c | none => .skip
noncomputable def lp48_0 : Code := match code48 with | .seq _ (.scope (.seq _ (.seq _ (.seq _ (.seq _ (.seq _ (.seq _ (.seq _ (.seq (.seq _ (.block _ (.loop c))) _))))))))) => c | c => c
theorem hd48_0 : ch.head 48 (firstR lp48_0) = [1, 5, 6, 7, 101, 102, 103] := by kernel_rfl
theorem rs48 : Tryz.f48.results.toList = [.tmp 4] := rfl
theorem W48_of {args : List D} (ha : args.all (D.noRef 0 0) = true) (hl : args.length ≤ 121) {H : Hp} {o : Out × Hp}
    (h : alone H (fnOut Tryz.prog [.tmp 4] 0 0 (E false ⟨0, 0⟩ 48 code48 (mkF 0 args) H00)) = some o) : W 48 args H = some o :=
  W_of Tryz.func48 rfl (by kernel_rfl) rfl rfl rfl rfl rfl ha (by rw [Tryz.ntmps48]; exact hl) h
/-! ### f57: slices.ContainsFunc[[]sward/api.ShapeForm,sward/api.ShapeForm] -/
@[simp] theorem k57_0 : ch.keep 57 0 = [0, 1] := by kernel_rfl
@[simp] theorem k57_1 : ch.keep 57 1 = [4] := by kernel_rfl
noncomputable def code57 : Code := match Tryz.f57.body with | some c => c | none => .skip
theorem rs57 : Tryz.f57.results.toList = [.tmp 4] := rfl
theorem W57_of {args : List D} (ha : args.all (D.noRef 0 0) = true) (hl : args.length ≤ 9) {H : Hp} {o : Out × Hp}
    (h : alone H (fnOut Tryz.prog [.tmp 4] 0 0 (E false ⟨0, 0⟩ 57 code57 (mkF 0 args) H00)) = some o) : W 57 args H = some o :=
  W_of Tryz.func57 rfl (by kernel_rfl) rfl rfl rfl rfl rfl ha (by rw [Tryz.ntmps57]; exact hl) h
/-! ### f58: sward/repr.parted$1 -/
@[simp] theorem k58_0 : ch.keep 58 0 = [0, 1] := by kernel_rfl
@[simp] theorem k58_1 : ch.keep 58 1 = [3] := by kernel_rfl
noncomputable def code58 : Code := match Tryz.f58.body with | some c => c | none => .skip
theorem rs58 : Tryz.f58.results.toList = [.tmp 3] := rfl
theorem W58_of {args : List D} (ha : args.all (D.noRef 0 0) = true) (hl : args.length ≤ 15) {H : Hp} {o : Out × Hp}
    (h : alone H (fnOut Tryz.prog [.tmp 3] 0 0 (E false ⟨0, 0⟩ 58 code58 (mkF 0 args) H00)) = some o) : W 58 args H = some o :=
  W_of Tryz.func58 rfl (by kernel_rfl) rfl rfl rfl rfl rfl ha (by rw [Tryz.ntmps58]; exact hl) h
/-! ### f59: (sward/repr.problem).allowed -/
@[simp] theorem k59_0 : ch.keep 59 0 = [2, 3] := by kernel_rfl
@[simp] theorem k59_1 : ch.keep 59 1 = [2, 3, 7, 8, 9] := by kernel_rfl
@[simp] theorem k59_2 : ch.keep 59 2 = [2, 3, 7, 8, 9, 10] := by kernel_rfl
@[simp] theorem k59_3 : ch.keep 59 3 = [2, 3, 5, 6, 7, 8, 9] := by kernel_rfl
@[simp] theorem k59_4 : ch.keep 59 4 = [2, 3, 7, 8, 9, 27] := by kernel_rfl
@[simp] theorem k59_5 : ch.keep 59 5 = [4] := by kernel_rfl
@[simp] theorem k59_6 : ch.keep 59 6 = [2, 3, 7, 8, 9] := by kernel_rfl
@[simp] theorem k59_7 : ch.keep 59 7 = [4] := by kernel_rfl
noncomputable def code59 : Code := match Tryz.f59.body with | some c => c | none => .skip
noncomputable def lp59_0 : Code := match code59 with | .seq _ (.seq (.seq _ (.block _ (.loop c))) _) => c | c => c
theorem hd59_0 : ch.head 59 (firstR lp59_0) = [2, 3, 7, 8, 9] := by kernel_rfl
theorem rs59 : Tryz.f59.results.toList = [.tmp 4] := rfl
theorem W59_lend {args xs : List D} {A1 : List Arr} {H : Hp} (hargs : argsD false H.A args = some (xs, A1)) (ha : xs.all (D.noRef 0 0) = true) (hl : xs.length ≤ 35) {o : Out × Hp}
    (h : lent H (fnOut Tryz.prog [.tmp 4] 0 0 (E false ⟨0, 0⟩ 59 code59 (mkF 0 xs) H00)) = some o) : W 59 args H = some o :=
  W_lend Tryz.func59 rfl (by kernel_rfl) rfl rfl rfl rfl hargs ha (by rw [Tryz.ntmps59]; exact hl) h
/-! ### f60: (sward/repr.problem).forms -/
@[simp] theorem k60_0 : ch.keep 60 0 = [1, 2, 3] := by kernel_rfl
@[simp] theorem k60_1 : ch.keep 60 1 = [1, 2, 3, 11] := by kernel_rfl
@[simp] theorem k60_2 : ch.keep 60 2 = [6] := by kernel_rfl
@[simp] theorem k60_3 : ch.keep 60 3 = [6] := by kernel_rfl
noncomputable def code60 : Code := match Tryz.f60.body with | some c => c | none => .skip
theorem rs60 : Tryz.f60.results.toList = [.tmp 6] := rfl
theorem W60_of {args : List D} (ha : args.all (D.noRef 0 0) = true) (hl : args.length ≤ 24) {H : Hp} {o : Out × Hp}
    (h : alone H (fnOut Tryz.prog [.tmp 6] 0 0 (E false ⟨0, 0⟩ 60 code60 (mkF 0 args) H00)) = some o) : W 60 args H = some o :=
  W_of Tryz.func60 rfl (by kernel_rfl) rfl rfl rfl rfl rfl ha (by rw [Tryz.ntmps60]; exact hl) h
/-! ### f61: (sward/repr.problem).once -/
@[simp] theorem k61_0 : ch.keep 61 0 = [2, 3, 4, 5] := by kernel_rfl
@[simp] theorem k61_1 : ch.keep 61 1 = [2, 3, 5, 9, 10] := by kernel_rfl
@[simp] theorem k61_2 : ch.keep 61 2 = [2, 3, 5, 9, 10, 27] := by kernel_rfl
@[simp] theorem k61_3 : ch.keep 61 3 = [8] := by kernel_rfl
@[simp] theorem k61_4 : ch.keep 61 4 = [2, 3, 5, 9, 10, 37] := by kernel_rfl
@[simp] theorem k61_5 : ch.keep 61 5 = [8] := by kernel_rfl
@[simp] theorem k61_6 : ch.keep 61 6 = [2, 9, 10, 50] := by kernel_rfl
@[simp] theorem k61_7 : ch.keep 61 7 = [8] := by kernel_rfl
@[simp] theorem k61_8 : ch.keep 61 8 = [9, 10, 54] := by kernel_rfl
@[simp] theorem k61_9 : ch.keep 61 9 = [8] := by kernel_rfl
@[simp] theorem k61_10 : ch.keep 61 10 = [8] := by kernel_rfl
@[simp] theorem fl61_1 : ch.fl 61 1 = [1, 1, 1, 1, 1, 1, 1, 1, 1, 1, 1, 1, 1, 1, 1, 1, 1, 0] := by kernel_rfl
noncomputable def code61 : Code := match Tryz.f61.body with | some c => c | none => .skip
theorem rs61 : Tryz.f61.results.toList = [.tmp 8] := rfl
theorem W61_of {args : List D} (ha : args.all (D.noRef 0 0) = true) (hl : args.length ≤ 60) {H : Hp} {o : Out × Hp}
    (h : alone H (fnOut Tryz.prog [.tmp 8] 0 0 (E false ⟨0, 0⟩ 61 code61 (mkF 0 args) H00)) = some o) : W 61 args H = some o :=
  W_of Tryz.func61 rfl (by kernel_rfl) rfl rfl rfl rfl rfl ha (by rw [Tryz.ntmps61]; exact hl) h
/-! ### f62: sward/swardref11.Allowed -/
@[simp] theorem k62_0 : ch.keep 62 0 = [1, 2] := by kernel_rfl
@[simp] theorem k62_1 : ch.keep 62 1 = [1, 2, 5] := by kernel_rfl
@[simp] theorem k62_2 : ch.keep 62 2 = [1, 2, 5, 12] := by kernel_rfl
@[simp] theorem k62_3 : ch.keep 62 3 = [1, 2, 5] := by kernel_rfl
@[simp] theorem k62_4 : ch.keep 62 4 = [1, 2, 5, 33] := by kernel_rfl
@[simp] theorem k62_5 : ch.keep 62 5 = [4] := by kernel_rfl
@[simp] theorem k62_6 : ch.keep 62 6 = [1, 2, 6] := by kernel_rfl
@[simp] theorem k62_7 : ch.keep 62 7 = [1, 2, 6, 38] := by kernel_rfl
@[simp] theorem k62_8 : ch.keep 62 8 = [1, 2, 6] := by kernel_rfl
@[simp] theorem k62_9 : ch.keep 62 9 = [1, 2, 6, 7, 8] := by kernel_rfl
@[simp] theorem k62_10 : ch.keep 62 10 = [1, 2, 6, 69] := by kernel_rfl
@[simp] theorem k62_11 : ch.keep 62 11 = [4] := by kernel_rfl
@[simp] theorem k62_12 : ch.keep 62 12 = [4] := by kernel_rfl
@[simp] theorem fl62_4 : ch.fl 62 4 = [1, 1, 0, 0, 0, 0, 1, 1, 1, 1, 1, 1, 1, 1, 1, 1, 0, 0, 0] := by kernel_rfl
@[simp] theorem fl62_9 : ch.fl 62 9 = [1, 1, 1, 1, 1, 1, 1, 1, 1, 1, 1, 1, 1, 1, 1, 1, 1, 1, 1, 0] := by kernel_rfl
noncomputable def code62 : Code := match Tryz.f62.body with | some c => c | none => .skip
noncomputable def lp62_0 : Code := match code62 with | .seq _ (.seq (.seq _ (.block _ (.loop c))) _) => c | c => c
theorem hd62_0 : ch.head 62 (firstR lp62_0) = [1, 2, 5] := by kernel_rfl
noncomputable def lp62_1 : Code := match code62 with | .seq _ (.seq _ (.seq (.seq _ (.block _ (.loop c))) _)) => c | c => c
theorem hd62_1 : ch.head 62 (firstR lp62_1) = [1, 2, 6] := by kernel_rfl
theorem rs62 : Tryz.f62.results.toList = [.tmp 4] := rfl
theorem W62_of {args : List D} (ha : args.all (D.noRef 0 0) = true) (hl : args.length ≤ 70) {H : Hp} {o : Out × Hp}
    (h : alone H (fnOut Tryz.prog [.tmp 4] 0 0 (E false ⟨0, 0⟩ 62 code62 (mkF 0 args) H00)) = some o) : W 62 args H = some o :=
  W_of Tryz.func62 rfl (by kernel_rfl) rfl rfl rfl rfl rfl ha (by rw [Tryz.ntmps62]; exact hl) h
/-! ### f63: sward/swardref11.Once -/
@[simp] theorem k63_0 : ch.keep 63 0 = [2, 3, 4, 5] := by kernel_rfl
@[simp] theorem k63_1 : ch.keep 63 1 = [2, 3, 4, 5, 9] := by kernel_rfl
@[simp] theorem k63_2 : ch.keep 63 2 = [2, 3, 4, 5, 9, 21] := by kernel_rfl
@[simp] theorem k63_3 : ch.keep 63 3 = [8] := by kernel_rfl
@[simp] theorem k63_4 : ch.keep 63 4 = [2, 3, 5, 9, 10] := by kernel_rfl
@[simp] theorem k63_5 : ch.keep 63 5 = [2, 3, 5, 9, 10, 36] := by kernel_rfl
@[simp] theorem k63_6 : ch.keep 63 6 = [8] := by kernel_rfl
@[simp] theorem k63_7 : ch.keep 63 7 = [2, 9, 10, 48] := by kernel_rfl
@[simp] theorem k63_8 : ch.keep 63 8 = [8] := by kernel_rfl
@[simp] theorem k63_9 : ch.keep 63 9 = [9, 10, 50] := by kernel_rfl
@[simp] theorem k63_10 : ch.keep 63 10 = [8] := by kernel_rfl
@[simp] theorem k63_11 : ch.keep 63 11 = [8] := by kernel_rfl
noncomputable def code63 : Code := match Tryz.f63.body with | some c => c | none => .skip
theorem rs63 : Tryz.f63.results.toList = [.tmp 8] := rfl
theorem W63_of {args : List D} (ha : args.all (D.noRef 0 0) = true) (hl : args.length ≤ 54) {H : Hp} {o : Out × Hp}
    (h : alone H (fnOut Tryz.prog [.tmp 8] 0 0 (E false ⟨0, 0⟩ 63 code63 (mkF 0 args) H00)) = some o) : W 63 args H = some o :=
  W_of Tryz.func63 rfl (by kernel_rfl) rfl rfl rfl rfl rfl ha (by rw [Tryz.ntmps63]; exact hl) h
/-! ### f64: sward/swardref11.low -/
@[simp] theorem k64_0 : ch.keep 64 0 = [2, 3, 4] := by kernel_rfl
@[simp] theorem k64_1 : ch.keep 64 1 = [3, 4, 7, 8] := by kernel_rfl
@[simp] theorem k64_2 : ch.keep 64 2 = [3, 4, 7, 8, 9] := by kernel_rfl
@[simp] theorem k64_3 : ch.keep 64 3 = [3, 4, 7, 8, 9, 10] := by kernel_rfl
@[simp] theorem k64_4 : ch.keep 64 4 = [3, 4, 7, 8, 9, 10, 26] := by kernel_rfl
@[simp] theorem k64_5 : ch.keep 64 5 = [3, 4, 7, 8, 9, 10] := by kernel_rfl
@[simp] theorem k64_6 : ch.keep 64 6 = [3, 4, 7, 8, 9, 10, 11] := by kernel_rfl
@[simp] theorem k64_7 : ch.keep 64 7 = [3, 4, 7, 8, 9, 10, 11, 32] := by kernel_rfl
@[simp] theorem k64_8 : ch.keep 64 8 = [3, 4, 7, 8, 9, 10, 11] := by kernel_rfl
@[simp] theorem k64_9 : ch.keep 64 9 = [3, 4, 7, 8, 9, 10, 11, 49] := by kernel_rfl
@[simp] theorem k64_10 : ch.keep 64 10 = [3, 4, 7, 8, 9, 10, 11, 12] := by kernel_rfl
@[simp] theorem k64_11 : ch.keep 64 11 = [3, 4, 7, 8, 9, 10, 11, 12, 67] := by kernel_rfl
@[simp] theorem k64_12 : ch.keep 64 12 = [3, 4, 7, 8, 9, 10, 11] := by kernel_rfl
@[simp] theorem k64_13 : ch.keep 64 13 = [6] := by kernel_rfl
@[simp] theorem fl64_1 : ch.fl 64 1 = [1, 1, 1, 1, 1, 1, 1, 1, 1, 0, 0, 0] := by kernel_rfl
@[simp] theorem fl64_10 : ch.fl 64 10 = [1, 1, 1, 1, 1, 1, 1, 1, 1, 1, 0, 0] := by kernel_rfl
noncomputable def code64 : Code := match Tryz.f64.body with | some c => c | none => .skip
noncomputable def lp64_0 : Code := match code64 with | .seq _ (.seq _ (.seq _ (.seq (.seq _ (.block _ (.loop c))) _))) => c | c => c
theorem hd64_0 : ch.head 64 (firstR lp64_0) = [3, 4, 7, 8, 9, 10] := by kernel_rfl
noncomputable def lp64_1 : Code := match code64 with | .seq _ (.seq _ (.seq _ (.seq (.seq _ (.block _ (.loop (.seq _ (.seq (.block _ (.seq _ (.block _ (.loop c)))) _))))) _))) => c | c => c
theorem hd64_1 : ch.head 64 (firstR lp64_1) = [3, 4, 7, 8, 9, 10, 11] := by kernel_rfl
theorem rs64 : Tryz.f64.results.toList = [.tmp 6] := rfl
theorem W64_of {args : List D} (ha : args.all (D.noRef 0 0) = true) (hl : args.length ≤ 70) {H : Hp} {o : Out × Hp}
    (h : alone H (fnOut Tryz.prog [.tmp 6] 0 0 (E false ⟨0, 0⟩ 64 code64 (mkF 0 args) H00)) = some o) : W 64 args H = some o :=
  W_of Tryz.func64 rfl (by kernel_rfl) rfl rfl rfl rfl rfl ha (by rw [Tryz.ntmps64]; exact hl) h
/-! ### f65: sward/swardref11.forms -/
@[simp] theorem k65_0 : ch.keep 65 0 = [0] := by kernel_rfl
@[simp] theorem k65_1 : ch.keep 65 1 = [0, 3] := by kernel_rfl
@[simp] theorem k65_2 : ch.keep 65 2 = [0, 3, 7] := by kernel_rfl
@[simp] theorem k65_3 : ch.keep 65 3 = [0, 3] := by kernel_rfl
@[simp] theorem k65_4 : ch.keep 65 4 = [0, 3, 31] := by kernel_rfl
@[simp] theorem k65_5 : ch.keep 65 5 = [2] := by kernel_rfl
@[simp] theorem k65_6 : ch.keep 65 6 = [2] := by kernel_rfl
@[simp] theorem fl65_4 : ch.fl 65 4 = [1, 1, 0, 0, 0, 0, 0, 0, 0, 0, 1, 1, 1, 1, 1, 1, 1, 1, 1, 0, 0, 0] := by kernel_rfl
noncomputable def code65 : Code := match Tryz.f65.body with | some c => c | none => .skip
noncomputable def lp65_0 : Code := match code65 with | .seq _ (.seq (.seq _ (.block _ (.loop c))) _) => c | c => c
theorem hd65_0 : ch.head 65 (firstR lp65_0) = [0, 3] := by kernel_rfl
theorem rs65 : Tryz.f65.results.toList = [.tmp 2] := rfl
theorem W65_of {args : List D} (ha : args.all (D.noRef 0 0) = true) (hl : args.length ≤ 35) {H : Hp} {o : Out × Hp}
    (h : alone H (fnOut Tryz.prog [.tmp 2] 0 0 (E false ⟨0, 0⟩ 65 code65 (mkF 0 args) H00)) = some o) : W 65 args H = some o :=
  W_of Tryz.func65 rfl (by kernel_rfl) rfl rfl rfl rfl rfl ha (by rw [Tryz.ntmps65]; exact hl) h
/-! ### f66: sward/swardref11.used -/
@[simp] theorem k66_0 : ch.keep 66 0 = [1, 2] := by kernel_rfl
@[simp] theorem k66_1 : ch.keep 66 1 = [1, 2, 16] := by kernel_rfl
@[simp] theorem k66_2 : ch.keep 66 2 = [4] := by kernel_rfl
@[simp] theorem k66_3 : ch.keep 66 3 = [1, 2, 18] := by kernel_rfl
@[simp] theorem k66_4 : ch.keep 66 4 = [1, 2, 18, 19] := by kernel_rfl
@[simp] theorem k66_5 : ch.keep 66 5 = [1, 2, 18, 19] := by kernel_rfl
@[simp] theorem k66_6 : ch.keep 66 6 = [1, 2, 18, 19] := by kernel_rfl
@[simp] theorem k66_7 : ch.keep 66 7 = [1, 2, 18, 19] := by kernel_rfl
@[simp] theorem k66_8 : ch.keep 66 8 = [4] := by kernel_rfl
@[simp] theorem k66_9 : ch.keep 66 9 = [1, 2, 18, 27] := by kernel_rfl
@[simp] theorem k66_10 : ch.keep 66 10 = [1, 2, 27] := by kernel_rfl
@[simp] theorem k66_11 : ch.keep 66 11 = [4] := by kernel_rfl
@[simp] theorem k66_12 : ch.keep 66 12 = [4] := by kernel_rfl
noncomputable def code66 : Code := match Tryz.f66.body with | some c => c | none => .skip
theorem rs66 : Tryz.f66.results.toList = [.tmp 4] := rfl
theorem W66_of {args : List D} (ha : args.all (D.noRef 0 0) = true) (hl : args.length ≤ 35) {H : Hp} {o : Out × Hp}
    (h : alone H (fnOut Tryz.prog [.tmp 4] 0 0 (E false ⟨0, 0⟩ 66 code66 (mkF 0 args) H00)) = some o) : W 66 args H = some o :=
  W_of Tryz.func66 rfl (by kernel_rfl) rfl rfl rfl rfl rfl ha (by rw [Tryz.ntmps66]; exact hl) h
/-! ### f67: (sward/repr.problem).search -/
@[simp] theorem k67_0 : ch.keep 67 0 = [1, 2, 3, 4, 5] := by kernel_rfl
@[simp] theorem k67_1 : ch.keep 67 1 = [1, 2, 3, 4, 5, 18] := by kernel_rfl
@[simp] theorem k67_2 : ch.keep 67 2 = [10, 11] := by kernel_rfl
@[simp] theorem k67_3 : ch.keep 67 3 = [1, 2, 3, 4, 5, 12] := by kernel_rfl
@[simp] theorem k67_4 : ch.keep 67 4 = [1, 2, 3, 4, 5, 12, 30] := by kernel_rfl
@[simp] theorem k67_5 : ch.keep 67 5 = [10, 11] := by kernel_rfl
@[simp] theorem k67_6 : ch.keep 67 6 = [1, 2, 3, 4, 5, 12, 36] := by kernel_rfl
@[simp] theorem k67_7 : ch.keep 67 7 = [10, 11] := by kernel_rfl
@[simp] theorem k67_8 : ch.keep 67 8 = [1, 2, 3, 4, 5, 44] := by kernel_rfl
@[simp] theorem k67_9 : ch.keep 67 9 = [10, 11] := by kernel_rfl
@[simp] theorem k67_10 : ch.keep 67 10 = [1, 2, 3, 4, 5, 60, 61, 62] := by kernel_rfl
@[simp] theorem k67_11 : ch.keep 67 11 = [1, 2, 3, 4, 5, 60, 61, 62, 63] := by kernel_rfl
@[simp] theorem k67_12 : ch.keep 67 12 = [1, 2, 3, 4, 5, 14, 60, 61, 62] := by kernel_rfl
@[simp] theorem k67_13 : ch.keep 67 13 = [1, 2, 3, 4, 5, 60, 61, 62] := by kernel_rfl
@[simp] theorem k67_14 : ch.keep 67 14 = [1, 2, 3, 4, 5, 60, 61, 62] := by kernel_rfl
@[simp] theorem k67_15 : ch.keep 67 15 = [1, 2, 3, 4, 5, 60, 61, 62] := by kernel_rfl
@[simp] theorem k67_16 : ch.keep 67 16 = [3, 4] := by kernel_rfl
@[simp] theorem k67_17 : ch.keep 67 17 = [10, 11] := by kernel_rfl
noncomputable def code67 : Code := match Tryz.f67.body with | some c => c | none => .skip
noncomputable def lp67_0 : Code := match code67 with | .seq _ (.seq _ (.seq _ (.seq _ (.seq (.seq _ (.block _ (.loop c))) _)))) => c | c => c
theorem hd67_0 : ch.head 67 (firstR lp67_0) = [1, 2, 3, 4, 5, 60, 61, 62] := by kernel_rfl
theorem rs67 : Tryz.f67.results.toList = [.tmp 10, .tmp 11] := rfl
theorem W67_ofN {args : List D} {H : Hp} (hp : ¬ (ch.pure 67 = true ∧ args.all (D.noRef 0 0) = true)) (hl : args.length ≤ 86) {o : Out × Hp}
    (h : fnOutN Tryz.prog [.tmp 10, .tmp 11] H.B.length H.A.length (E false ⟨0, 0⟩ 67 code67 (mkF 0 args) H) = some o) : W 67 args H = some o :=
  W_ofN Tryz.func67 rfl (by kernel_rfl) rfl rfl rfl rfl hp (by rw [Tryz.ntmps67]; exact hl) h
/-! ### f68: slices.Clone[[]sward/api.ShapeForm,sward/api.ShapeForm] -/
@[simp] theorem k68_0 : ch.keep 68 0 = [0] := by kernel_rfl
@[simp] theorem k68_1 : ch.keep 68 1 = [0, 4] := by kernel_rfl
@[simp] theorem k68_2 : ch.keep 68 2 = [2] := by kernel_rfl
@[simp] theorem k68_3 : ch.keep 68 3 = [2] := by kernel_rfl
noncomputable def code68 : Code := match Tryz.f68.body with | some c => c | none => .skip
theorem rs68 : Tryz.f68.results.toList = [.tmp 2] := rfl
theorem W68_ofO {args : List D} {H : Hp} (hp : ¬ (ch.pure 68 = true ∧ args.all (D.noRef 0 0) = true)) (hl : args.length ≤ 8) {o : Out × Hp}
    (h : fnOutO Tryz.prog [.tmp 2] (E true ⟨0, 0⟩ 68 code68 (mkF 0 args) H) = some o) : W 68 args H = some o :=
  W_ofO Tryz.func68 rfl (by kernel_rfl) rfl rfl rfl hp (by rw [Tryz.ntmps68]; exact hl) h
/-! ### f69: slices.Index[[]sward/api.ShapeForm,sward/api.ShapeForm] -/
@[simp] theorem k69_0 : ch.keep 69 0 = [0, 1] := by kernel_rfl
@[simp] theorem k69_1 : ch.keep 69 1 = [0, 1, 7, 8] := by kernel_rfl
@[simp] theorem k69_2 : ch.keep 69 2 = [0, 1, 7, 8, 9] := by kernel_rfl
@[simp] theorem k69_3 : ch.keep 69 3 = [0, 1, 5, 7, 8] := by kernel_rfl
@[simp] theorem k69_4 : ch.keep 69 4 = [0, 1, 5, 7, 8, 16] := by kernel_rfl
@[simp] theorem k69_5 : ch.keep 69 5 = [4] := by kernel_rfl
@[simp] theorem k69_6 : ch.keep 69 6 = [0, 1, 7, 8] := by kernel_rfl
@[simp] theorem k69_7 : ch.keep 69 7 = [4] := by kernel_rfl
noncomputable def code69 : Code := match Tryz.f69.body with | some c => c | none => .skip
noncomputable def lp69_0 : Code := match code69 with | .seq _ (.seq (.seq _ (.block _ (.loop c))) _) => c | c => c
theorem hd69_0 : ch.head 69 (firstR lp69_0) = [0, 1, 7, 8] := by kernel_rfl
theorem rs69 : Tryz.f69.results.toList = [.tmp 4] := rfl
theorem W69_lend {args xs : List D} {A1 : List Arr} {H : Hp} (hargs : argsD false H.A args = some (xs, A1)) (ha : xs.all (D.noRef 0 0) = true) (hl : xs.length ≤ 19) {o : Out × Hp}
    (h : lent H (fnOut Tryz.prog [.tmp 4] 0 0 (E false ⟨0, 0⟩ 69 code69 (mkF 0 xs) H00)) = some o) : W 69 args H = some o :=
  W_lend Tryz.func69 rfl (by kernel_rfl) rfl rfl rfl rfl hargs ha (by rw [Tryz.ntmps69]; exact hl) h
/-! ### f87: slices.IndexFunc[[]sward/api.ShapeForm,sward/api.ShapeForm] -/
@[simp] theorem k87_0 : ch.keep 87 0 = [0, 1] := by kernel_rfl
@[simp] theorem k87_1 : ch.keep 87 1 = [0, 1, 7, 8] := by kernel_rfl
@[simp] theorem k87_2 : ch.keep 87 2 = [0, 1, 7, 8, 9] := by kernel_rfl
@[simp] theorem k87_3 : ch.keep 87 3 = [0, 1, 5, 7, 8] := by kernel_rfl
@[simp] theorem k87_4 : ch.keep 87 4 = [0, 1, 5, 7, 8, 16] := by kernel_rfl
@[simp] theorem k87_5 : ch.keep 87 5 = [4] := by kernel_rfl
@[simp] theorem k87_6 : ch.keep 87 6 = [0, 1, 7, 8] := by kernel_rfl
@[simp] theorem k87_7 : ch.keep 87 7 = [4] := by kernel_rfl
noncomputable def code87 : Code := match Tryz.f87.body with | some c => c | none => .skip
noncomputable def lp87_0 : Code := match code87 with | .seq _ (.seq (.seq _ (.block _ (.loop c))) _) => c | c => c
theorem hd87_0 : ch.head 87 (firstR lp87_0) = [0, 1, 7, 8] := by kernel_rfl
theorem rs87 : Tryz.f87.results.toList = [.tmp 4] := rfl
theorem W87_of {args : List D} (ha : args.all (D.noRef 0 0) = true) (hl : args.length ≤ 19) {H : Hp} {o : Out × Hp}
    (h : alone H (fnOut Tryz.prog [.tmp 4] 0 0 (E false ⟨0, 0⟩ 87 code87 (mkF 0 args) H00)) = some o) : W 87 args H = some o :=
  W_of Tryz.func87 rfl (by kernel_rfl) rfl rfl rfl rfl rfl ha (by rw [Tryz.ntmps87]; exact hl) h
/-! ### f88: slices.Contains[[]sward/api.ShapeForm,sward/api.ShapeForm] -/
@[simp] theorem k88_0 : ch.keep 88 0 = [0, 1] := by kernel_rfl
@[simp] theorem k88_1 : ch.keep 88 1 = [4] := by kernel_rfl
noncomputable def code88 : Code := match Tryz.f88.body with | some c => c | none => .skip
theorem rs88 : Tryz.f88.results.toList = [.tmp 4] := rfl
theorem W88_of {args : List D} (ha : args.all (D.noRef 0 0) = true) (hl : args.length ≤ 9) {H : Hp} {o : Out × Hp}
    (h : alone H (fnOut Tryz.prog [.tmp 4] 0 0 (E false ⟨0, 0⟩ 88 code88 (mkF 0 args) H00)) = some o) : W 88 args H = some o :=
  W_of Tryz.func88 rfl (by kernel_rfl) rfl rfl rfl rfl rfl ha (by rw [Tryz.ntmps88]; exact hl) h
/-! ### f89: slices.ContainsFunc[[][2]int,[2]int] -/
@[simp] theorem k89_0 : ch.keep 89 0 = [0, 1] := by kernel_rfl
@[simp] theorem k89_1 : ch.keep 89 1 = [4] := by kernel_rfl
noncomputable def code89 : Code := match Tryz.f89.body with | some c => c | none => .skip
theorem rs89 : Tryz.f89.results.toList = [.tmp 4] := rfl
theorem W89_of {args : List D} (ha : args.all (D.noRef 0 0) = true) (hl : args.length ≤ 9) {H : Hp} {o : Out × Hp}
    (h : alone H (fnOut Tryz.prog [.tmp 4] 0 0 (E false ⟨0, 0⟩ 89 code89 (mkF 0 args) H00)) = some o) : W 89 args H = some o :=
  W_of Tryz.func89 rfl (by kernel_rfl) rfl rfl rfl rfl rfl ha (by rw [Tryz.ntmps89]; exact hl) h
/-! ### f90: (sward/repr.problem).allowed$1 -/
@[simp] theorem k90_0 : ch.keep 90 0 = [1, 2] := by kernel_rfl
@[simp] theorem k90_1 : ch.keep 90 1 = [4, 5] := by kernel_rfl
@[simp] theorem k90_2 : ch.keep 90 2 = [3] := by kernel_rfl
@[simp] theorem fl90_1 : ch.fl 90 1 = [1, 1, 1, 1, 1, 1, 1, 1, 1, 1, 1, 0] := by kernel_rfl
noncomputable def code90 : Code := match Tryz.f90.body with | some c => c | none => .skip
theorem rs90 : Tryz.f90.results.toList = [.tmp 3] := rfl
theorem W90_of {args : List D} (ha : args.all (D.noRef 0 0) = true) (hl : args.length ≤ 27) {H : Hp} {o : Out × Hp}
    (h : alone H (fnOut Tryz.prog [.tmp 3] 0 0 (E false ⟨0, 0⟩ 90 code90 (mkF 0 args) H00)) = some o) : W 90 args H = some o :=
  W_of Tryz.func90 rfl (by kernel_rfl) rfl rfl rfl rfl rfl ha (by rw [Tryz.ntmps90]; exact hl) h
/-! ### f91: sward/repr.one -/
@[simp] theorem k91_0 : ch.keep 91 0 = [0, 1, 2] := by kernel_rfl
@[simp] theorem k91_1 : ch.keep 91 1 = [6] := by kernel_rfl
noncomputable def code91 : Code := match Tryz.f91.body with | some c => c | none => .skip
theorem rs91 : Tryz.f91.results.toList = [.tmp 6] := rfl
theorem W91_of {args : List D} (ha : args.all (D.noRef 0 0) = true) (hl : args.length ≤ 16) {H : Hp} {o : Out × Hp}
    (h : alone H (fnOut Tryz.prog [.tmp 6] 0 0 (E false ⟨0, 0⟩ 91 code91 (mkF 0 args) H00)) = some o) : W 91 args H = some o :=
  W_of Tryz.func91 rfl (by kernel_rfl) rfl rfl rfl rfl rfl ha (by rw [Tryz.ntmps91]; exact hl) h
/-! ### f92: sward/swardref11.has -/
@[simp] theorem k92_0 : ch.keep 92 0 = [0, 1] := by kernel_rfl
@[simp] theorem k92_1 : ch.keep 92 1 = [0, 1, 5] := by kernel_rfl
@[simp] theorem k92_2 : ch.keep 92 2 = [0, 1, 5, 9] := by kernel_rfl
@[simp] theorem k92_3 : ch.keep 92 3 = [0, 1, 5] := by kernel_rfl
@[simp] theorem k92_4 : ch.keep 92 4 = [0, 1, 5, 17] := by kernel_rfl
@[simp] theorem k92_5 : ch.keep 92 5 = [4] := by kernel_rfl
@[simp] theorem k92_6 : ch.keep 92 6 = [4] := by kernel_rfl
noncomputable def code92 : Code := match Tryz.f92.body with | some c => c | none => .skip
noncomputable def lp92_0 : Code := match code92 with | .seq _ (.seq (.seq _ (.block _ (.loop c))) _) => c | c => c
theorem hd92_0 : ch.head 92 (firstR lp92_0) = [0, 1, 5] := by kernel_rfl
theorem rs92 : Tryz.f92.results.toList = [.tmp 4] := rfl
theorem W92_of {args : List D} (ha : args.all (D.noRef 0 0) = true) (hl : args.length ≤ 18) {H : Hp} {o : Out × Hp}
    (h : alone H (fnOut Tryz.prog [.tmp 4] 0 0 (E false ⟨0, 0⟩ 92 code92 (mkF 0 args) H00)) = some o) : W 92 args H = some o :=
  W_of Tryz.func92 rfl (by kernel_rfl) rfl rfl rfl rfl rfl ha (by rw [Tryz.ntmps92]; exact hl) h
/-! ### f93: sward/swardref11.double -/
@[simp] theorem k93_0 : ch.keep 93 0 = [0] := by kernel_rfl
@[simp] theorem k93_1 : ch.keep 93 1 = [2] := by kernel_rfl
noncomputable def code93 : Code := match Tryz.f93.body with | some c => c | none => .skip
theorem rs93 : Tryz.f93.results.toList = [.tmp 2] := rfl
theorem W93_of {args : List D} (ha : args.all (D.noRef 0 0) = true) (hl : args.length ≤ 9) {H : Hp} {o : Out × Hp}
    (h : alone H (fnOut Tryz.prog [.tmp 2] 0 0 (E false ⟨0, 0⟩ 93 code93 (mkF 0 args) H00)) = some o) : W 93 args H = some o :=
  W_of Tryz.func93 rfl (by kernel_rfl) rfl rfl rfl rfl rfl ha (by rw [Tryz.ntmps93]; exact hl) h
/-! ### f94: sward/swardref11.single -/
@[simp] theorem k94_0 : ch.keep 94 0 = [0, 1, 2] := by kernel_rfl
@[simp] theorem k94_1 : ch.keep 94 1 = [0, 1, 7] := by kernel_rfl
@[simp] theorem k94_2 : ch.keep 94 2 = [1, 7, 10] := by kernel_rfl
@[simp] theorem k94_3 : ch.keep 94 3 = [1, 7, 10, 11] := by kernel_rfl
@[simp] theorem k94_4 : ch.keep 94 4 = [6] := by kernel_rfl
@[simp] theorem k94_5 : ch.keep 94 5 = [1, 7, 10, 22] := by kernel_rfl
@[simp] theorem k94_6 : ch.keep 94 6 = [6] := by kernel_rfl
@[simp] theorem k94_7 : ch.keep 94 7 = [1, 7, 34] := by kernel_rfl
@[simp] theorem k94_8 : ch.keep 94 8 = [6] := by kernel_rfl
@[simp] theorem k94_9 : ch.keep 94 9 = [6] := by kernel_rfl
noncomputable def code94 : Code := match Tryz.f94.body with | some c => c | none => .skip
theorem rs94 : Tryz.f94.results.toList = [.tmp 6] := rfl
theorem W94_of {args : List D} (ha : args.all (D.noRef 0 0) = true) (hl : args.length ≤ 60) {H : Hp} {o : Out × Hp}
    (h : alone H (fnOut Tryz.prog [.tmp 6] 0 0 (E false ⟨0, 0⟩ 94 code94 (mkF 0 args) H00)) = some o) : W 94 args H = some o :=
  W_of Tryz.func94 rfl (by kernel_rfl) rfl rfl rfl rfl rfl ha (by rw [Tryz.ntmps94]; exact hl) h
/-! ### f95: sward/swardref11.open -/
@[simp] theorem k95_0 : ch.keep 95 0 = [1, 2, 3] := by kernel_rfl
@[simp] theorem k95_1 : ch.keep 95 1 = [1, 2, 3, 11] := by kernel_rfl
@[simp] theorem k95_2 : ch.keep 95 2 = [6] := by kernel_rfl
@[simp] theorem k95_3 : ch.keep 95 3 = [6] := by kernel_rfl
noncomputable def code95 : Code := match Tryz.f95.body with | some c => c | none => .skip
theorem rs95 : Tryz.f95.results.toList = [.tmp 6] := rfl
theorem W95_of {args : List D} (ha : args.all (D.noRef 0 0) = true) (hl : args.length ≤ 23) {H : Hp} {o : Out × Hp}
    (h : alone H (fnOut Tryz.prog [.tmp 6] 0 0 (E false ⟨0, 0⟩ 95 code95 (mkF 0 args) H00)) = some o) : W 95 args H = some o :=
  W_of Tryz.func95 rfl (by kernel_rfl) rfl rfl rfl rfl rfl ha (by rw [Tryz.ntmps95]; exact hl) h
/-! ### f125: slices.IndexFunc[[][2]int,[2]int] -/
@[simp] theorem k125_0 : ch.keep 125 0 = [0, 1] := by kernel_rfl
@[simp] theorem k125_1 : ch.keep 125 1 = [0, 1, 7, 8] := by kernel_rfl
@[simp] theorem k125_2 : ch.keep 125 2 = [0, 1, 7, 8, 9] := by kernel_rfl
@[simp] theorem k125_3 : ch.keep 125 3 = [0, 1, 5, 7, 8] := by kernel_rfl
@[simp] theorem k125_4 : ch.keep 125 4 = [0, 1, 5, 7, 8, 16] := by kernel_rfl
@[simp] theorem k125_5 : ch.keep 125 5 = [4] := by kernel_rfl
@[simp] theorem k125_6 : ch.keep 125 6 = [0, 1, 7, 8] := by kernel_rfl
@[simp] theorem k125_7 : ch.keep 125 7 = [4] := by kernel_rfl
noncomputable def code125 : Code := match Tryz.f125.body with | some c => c | none => .skip
noncomputable def lp125_0 : Code := match code125 with | .seq _ (.seq (.seq _ (.block _ (.loop c))) _) => c | c => c
theorem hd125_0 : ch.head 125 (firstR lp125_0) = [0, 1, 7, 8] := by kernel_rfl
theorem rs125 : Tryz.f125.results.toList = [.tmp 4] := rfl
theorem W125_of {args : List D} (ha : args.all (D.noRef 0 0) = true) (hl : args.length ≤ 19) {H : Hp} {o : Out × Hp}
    (h : alone H (fnOut Tryz.prog [.tmp 4] 0 0 (E false ⟨0, 0⟩ 125 code125 (mkF 0 args) H00)) = some o) : W 125 args H = some o :=
  W_of Tryz.func125 rfl (by kernel_rfl) rfl rfl rfl rfl rfl ha (by rw [Tryz.ntmps125]; exact hl) h
/-! ### f126: sward/repr.costs -/
@[simp] theorem k126_0 : ch.keep 126 0 = [0] := by kernel_rfl
@[simp] theorem k126_1 : ch.keep 126 1 = [0] := by kernel_rfl
noncomputable def code126 : Code := match Tryz.f126.body with | some c => c | none => .skip
theorem rs126 : Tryz.f126.results.toList = [.cell 0 202] := rfl
theorem W126_ofO {args : List D} {H : Hp} (hp : ¬ (ch.pure 126 = true ∧ args.all (D.noRef 0 0) = true)) (hl : args.length ≤ 15) {o : Out × Hp}
    (h : fnOutO Tryz.prog [.cell 0 202] (E false ⟨0, 0⟩ 126 code126 (mkF 0 args) H) = some o) : W 126 args H = some o :=
  W_ofO Tryz.func126 rfl (by kernel_rfl) rfl rfl rfl hp (by rw [Tryz.ntmps126]; exact hl) h
/-! ### f127: sward/swardref11.digits -/
@[simp] theorem k127_0 : ch.keep 127 0 = [0] := by kernel_rfl
@[simp] theorem k127_1 : ch.keep 127 1 = [0, 3] := by kernel_rfl
@[simp] theorem k127_2 : ch.keep 127 2 = [0, 3, 5] := by kernel_rfl
@[simp] theorem k127_3 : ch.keep 127 3 = [0, 3] := by kernel_rfl
@[simp] theorem k127_4 : ch.keep 127 4 = [0, 3] := by kernel_rfl
@[simp] theorem k127_5 : ch.keep 127 5 = [2] := by kernel_rfl
noncomputable def code127 : Code := match Tryz.f127.body with | some c => c | none => .skip
noncomputable def lp127_0 : Code := match code127 with | .seq _ (.seq _ (.seq (.block _ (.loop c)) _)) => c | c => c
theorem hd127_0 : ch.head 127 (firstR lp127_0) = [0, 3] := by kernel_rfl
theorem rs127 : Tryz.f127.results.toList = [.tmp 2] := rfl
theorem W127_of {args : List D} (ha : args.all (D.noRef 0 0) = true) (hl : args.length ≤ 11) {H : Hp} {o : Out × Hp}
    (h : alone H (fnOut Tryz.prog [.tmp 2] 0 0 (E false ⟨0, 0⟩ 127 code127 (mkF 0 args) H00)) = some o) : W 127 args H = some o :=
  W_of Tryz.func127 rfl (by kernel_rfl) rfl rfl rfl rfl rfl ha (by rw [Tryz.ntmps127]; exact hl) h
/-! ### f153: sward/repr.digits -/
@[simp] theorem k153_0 : ch.keep 153 0 = [0] := by kernel_rfl
@[simp] theorem k153_1 : ch.keep 153 1 = [2] := by kernel_rfl
noncomputable def code153 : Code := match Tryz.f153.body with | some c => c | none => .skip
theorem rs153 : Tryz.f153.results.toList = [.tmp 2] := rfl
theorem W153_of {args : List D} (ha : args.all (D.noRef 0 0) = true) (hl : args.length ≤ 6) {H : Hp} {o : Out × Hp}
    (h : alone H (fnOut Tryz.prog [.tmp 2] 0 0 (E false ⟨0, 0⟩ 153 code153 (mkF 0 args) H00)) = some o) : W 153 args H = some o :=
  W_of Tryz.func153 rfl (by kernel_rfl) rfl rfl rfl rfl rfl ha (by rw [Tryz.ntmps153]; exact hl) h
/-! ### f154: sward/repr.always -/
@[simp] theorem k154_0 : ch.keep 154 0 = [1] := by kernel_rfl
@[simp] theorem k154_1 : ch.keep 154 1 = [2] := by kernel_rfl
noncomputable def code154 : Code := match Tryz.f154.body with | some c => c | none => .skip
theorem rs154 : Tryz.f154.results.toList = [.tmp 2] := rfl
theorem W154_ofO {args : List D} {H : Hp} (hp : ¬ (ch.pure 154 = true ∧ args.all (D.noRef 0 0) = true)) (hl : args.length ≤ 4) {o : Out × Hp}
    (h : fnOutO Tryz.prog [.tmp 2] (E false ⟨0, 0⟩ 154 code154 (mkF 0 args) H) = some o) : W 154 args H = some o :=
  W_ofO Tryz.func154 rfl (by kernel_rfl) rfl rfl rfl hp (by rw [Tryz.ntmps154]; exact hl) h
/-! ### f155: sward/repr.costs$1 -/
@[simp] theorem k155_0 : ch.keep 155 0 = [0] := by kernel_rfl
@[simp] theorem k155_1 : ch.keep 155 1 = [2] := by kernel_rfl
noncomputable def code155 : Code := match Tryz.f155.body with | some c => c | none => .skip
theorem rs155 : Tryz.f155.results.toList = [.tmp 2] := rfl
theorem W155_of {args : List D} (ha : args.all (D.noRef 0 0) = true) (hl : args.length ≤ 6) {H : Hp} {o : Out × Hp}
    (h : alone H (fnOut Tryz.prog [.tmp 2] 0 0 (E false ⟨0, 0⟩ 155 code155 (mkF 0 args) H00)) = some o) : W 155 args H = some o :=
  W_of Tryz.func155 rfl (by kernel_rfl) rfl rfl rfl rfl rfl ha (by rw [Tryz.ntmps155]; exact hl) h
/-! ### f156: sward/repr.costs$2 -/
@[simp] theorem k156_0 : ch.keep 156 0 = [0] := by kernel_rfl
@[simp] theorem k156_1 : ch.keep 156 1 = [2] := by kernel_rfl
noncomputable def code156 : Code := match Tryz.f156.body with | some c => c | none => .skip
theorem rs156 : Tryz.f156.results.toList = [.tmp 2] := rfl
theorem W156_of {args : List D} (ha : args.all (D.noRef 0 0) = true) (hl : args.length ≤ 5) {H : Hp} {o : Out × Hp}
    (h : alone H (fnOut Tryz.prog [.tmp 2] 0 0 (E false ⟨0, 0⟩ 156 code156 (mkF 0 args) H00)) = some o) : W 156 args H = some o :=
  W_of Tryz.func156 rfl (by kernel_rfl) rfl rfl rfl rfl rfl ha (by rw [Tryz.ntmps156]; exact hl) h
/-! ### f157: sward/repr.costs$3 -/
@[simp] theorem k157_0 : ch.keep 157 0 = [0] := by kernel_rfl
@[simp] theorem k157_1 : ch.keep 157 1 = [2] := by kernel_rfl
noncomputable def code157 : Code := match Tryz.f157.body with | some c => c | none => .skip
theorem rs157 : Tryz.f157.results.toList = [.tmp 2] := rfl
theorem W157_of {args : List D} (ha : args.all (D.noRef 0 0) = true) (hl : args.length ≤ 7) {H : Hp} {o : Out × Hp}
    (h : alone H (fnOut Tryz.prog [.tmp 2] 0 0 (E false ⟨0, 0⟩ 157 code157 (mkF 0 args) H00)) = some o) : W 157 args H = some o :=
  W_of Tryz.func157 rfl (by kernel_rfl) rfl rfl rfl rfl rfl ha (by rw [Tryz.ntmps157]; exact hl) h
/-! ### f158: sward/repr.costs$4 -/
@[simp] theorem k158_0 : ch.keep 158 0 = [0] := by kernel_rfl
@[simp] theorem k158_1 : ch.keep 158 1 = [2] := by kernel_rfl
noncomputable def code158 : Code := match Tryz.f158.body with | some c => c | none => .skip
theorem rs158 : Tryz.f158.results.toList = [.tmp 2] := rfl
theorem W158_of {args : List D} (ha : args.all (D.noRef 0 0) = true) (hl : args.length ≤ 4) {H : Hp} {o : Out × Hp}
    (h : alone H (fnOut Tryz.prog [.tmp 2] 0 0 (E false ⟨0, 0⟩ 158 code158 (mkF 0 args) H00)) = some o) : W 158 args H = some o :=
  W_of Tryz.func158 rfl (by kernel_rfl) rfl rfl rfl rfl rfl ha (by rw [Tryz.ntmps158]; exact hl) h
/-! ### f159: sward/repr.costs$5 -/
@[simp] theorem k159_0 : ch.keep 159 0 = [0] := by kernel_rfl
@[simp] theorem k159_1 : ch.keep 159 1 = [2] := by kernel_rfl
noncomputable def code159 : Code := match Tryz.f159.body with | some c => c | none => .skip
theorem rs159 : Tryz.f159.results.toList = [.tmp 2] := rfl
theorem W159_of {args : List D} (ha : args.all (D.noRef 0 0) = true) (hl : args.length ≤ 5) {H : Hp} {o : Out × Hp}
    (h : alone H (fnOut Tryz.prog [.tmp 2] 0 0 (E false ⟨0, 0⟩ 159 code159 (mkF 0 args) H00)) = some o) : W 159 args H = some o :=
  W_of Tryz.func159 rfl (by kernel_rfl) rfl rfl rfl rfl rfl ha (by rw [Tryz.ntmps159]; exact hl) h
/-! ### f160: sward/repr.costs$6 -/
@[simp] theorem k160_0 : ch.keep 160 0 = [0] := by kernel_rfl
@[simp] theorem k160_1 : ch.keep 160 1 = [2] := by kernel_rfl
noncomputable def code160 : Code := match Tryz.f160.body with | some c => c | none => .skip
theorem rs160 : Tryz.f160.results.toList = [.tmp 2] := rfl
theorem W160_of {args : List D} (ha : args.all (D.noRef 0 0) = true) (hl : args.length ≤ 5) {H : Hp} {o : Out × Hp}
    (h : alone H (fnOut Tryz.prog [.tmp 2] 0 0 (E false ⟨0, 0⟩ 160 code160 (mkF 0 args) H00)) = some o) : W 160 args H = some o :=
  W_of Tryz.func160 rfl (by kernel_rfl) rfl rfl rfl rfl rfl ha (by rw [Tryz.ntmps160]; exact hl) h
/-! ### f161: sward/repr.costs$7 -/
@[simp] theorem k161_0 : ch.keep 161 0 = [0] := by kernel_rfl
@[simp] theorem k161_1 : ch.keep 161 1 = [2] := by kernel_rfl
noncomputable def code161 : Code := match Tryz.f161.body with | some c => c | none => .skip
theorem rs161 : Tryz.f161.results.toList = [.tmp 2] := rfl
theorem W161_of {args : List D} (ha : args.all (D.noRef 0 0) = true) (hl : args.length ≤ 6) {H : Hp} {o : Out × Hp}
    (h : alone H (fnOut Tryz.prog [.tmp 2] 0 0 (E false ⟨0, 0⟩ 161 code161 (mkF 0 args) H00)) = some o) : W 161 args H = some o :=
  W_of Tryz.func161 rfl (by kernel_rfl) rfl rfl rfl rfl rfl ha (by rw [Tryz.ntmps161]; exact hl) h
/-! ### f162: sward/repr.costs$8 -/
@[simp] theorem k162_0 : ch.keep 162 0 = [0] := by kernel_rfl
@[simp] theorem k162_1 : ch.keep 162 1 = [2] := by kernel_rfl
noncomputable def code162 : Code := match Tryz.f162.body with | some c => c | none => .skip
theorem rs162 : Tryz.f162.results.toList = [.tmp 2] := rfl
theorem W162_of {args : List D} (ha : args.all (D.noRef 0 0) = true) (hl : args.length ≤ 6) {H : Hp} {o : Out × Hp}
    (h : alone H (fnOut Tryz.prog [.tmp 2] 0 0 (E false ⟨0, 0⟩ 162 code162 (mkF 0 args) H00)) = some o) : W 162 args H = some o :=
  W_of Tryz.func162 rfl (by kernel_rfl) rfl rfl rfl rfl rfl ha (by rw [Tryz.ntmps162]; exact hl) h
/-! ### f163: sward/repr.costs$9 -/
@[simp] theorem k163_0 : ch.keep 163 0 = [0] := by kernel_rfl
@[simp] theorem k163_1 : ch.keep 163 1 = [2] := by kernel_rfl
noncomputable def code163 : Code := match Tryz.f163.body with | some c => c | none => .skip
theorem rs163 : Tryz.f163.results.toList = [.tmp 2] := rfl
theorem W163_of {args : List D} (ha : args.all (D.noRef 0 0) = true) (hl : args.length ≤ 6) {H : Hp} {o : Out × Hp}
    (h : alone H (fnOut Tryz.prog [.tmp 2] 0 0 (E false ⟨0, 0⟩ 163 code163 (mkF 0 args) H00)) = some o) : W 163 args H = some o :=
  W_of Tryz.func163 rfl (by kernel_rfl) rfl rfl rfl rfl rfl ha (by rw [Tryz.ntmps163]; exact hl) h
/-! ### f187: math/bits.Len -/
@[simp] theorem k187_0 : ch.keep 187 0 = [0] := by kernel_rfl
@[simp] theorem k187_1 : ch.keep 187 1 = [2] := by kernel_rfl
@[simp] theorem k187_2 : ch.keep 187 2 = [2] := by kernel_rfl
noncomputable def code187 : Code := match Tryz.f187.body with | some c => c | none => .skip
theorem rs187 : Tryz.f187.results.toList = [.tmp 2] := rfl
theorem W187_of {args : List D} (ha : args.all (D.noRef 0 0) = true) (hl : args.length ≤ 8) {H : Hp} {o : Out × Hp}
    (h : alone H (fnOut Tryz.prog [.tmp 2] 0 0 (E false ⟨0, 0⟩ 187 code187 (mkF 0 args) H00)) = some o) : W 187 args H = some o :=
  W_of Tryz.func187 rfl (by kernel_rfl) rfl rfl rfl rfl rfl ha (by rw [Tryz.ntmps187]; exact hl) h
/-! ### f188: sward/repr.always$1 -/
@[simp] theorem k188_0 : ch.keep 188 0 = [1] := by kernel_rfl
@[simp] theorem k188_1 : ch.keep 188 1 = [3] := by kernel_rfl
noncomputable def code188 : Code := match Tryz.f188.body with | some c => c | none => .skip
theorem rs188 : Tryz.f188.results.toList = [.tmp 3] := rfl
theorem W188_of {args : List D} (ha : args.all (D.noRef 0 0) = true) (hl : args.length ≤ 5) {H : Hp} {o : Out × Hp}
    (h : alone H (fnOut Tryz.prog [.tmp 3] 0 0 (E false ⟨0, 0⟩ 188 code188 (mkF 0 args) H00)) = some o) : W 188 args H = some o :=
  W_of Tryz.func188 rfl (by kernel_rfl) rfl rfl rfl rfl rfl ha (by rw [Tryz.ntmps188]; exact hl) h
/-! ### f194: math/bits.Len32 -/
@[simp] theorem k194_0 : ch.keep 194 0 = [0, 2] := by kernel_rfl
@[simp] theorem k194_1 : ch.keep 194 1 = [0, 2, 4] := by kernel_rfl
@[simp] theorem k194_2 : ch.keep 194 2 = [0] := by kernel_rfl
@[simp] theorem k194_3 : ch.keep 194 3 = [0, 2] := by kernel_rfl
@[simp] theorem k194_4 : ch.keep 194 4 = [0, 2, 8] := by kernel_rfl
@[simp] theorem k194_5 : ch.keep 194 5 = [0, 2] := by kernel_rfl
@[simp] theorem k194_6 : ch.keep 194 6 = [0, 2] := by kernel_rfl
@[simp] theorem k194_7 : ch.keep 194 7 = [2] := by kernel_rfl
noncomputable def code194 : Code := match Tryz.f194.body with | some c => c | none => .skip
theorem rs194 : Tryz.f194.results.toList = [.tmp 2] := rfl
theorem W194_of {args : List D} (ha : args.all (D.noRef 0 0) = true) (hl : args.length ≤ 19) {H : Hp} {o : Out × Hp}
    (h : alone H (fnOut Tryz.prog [.tmp 2] 0 0 (E false ⟨0, 0⟩ 194 code194 (mkF 0 args) H00)) = some o) : W 194 args H = some o :=
  W_of Tryz.func194 rfl (by kernel_rfl) rfl rfl rfl rfl rfl ha (by rw [Tryz.ntmps194]; exact hl) h
/-! ### f195: math/bits.Len64 -/
@[simp] theorem k195_0 : ch.keep 195 0 = [0, 2] := by kernel_rfl
@[simp] theorem k195_1 : ch.keep 195 1 = [0, 2, 4] := by kernel_rfl
@[simp] theorem k195_2 : ch.keep 195 2 = [0] := by kernel_rfl
@[simp] theorem k195_3 : ch.keep 195 3 = [0, 2] := by kernel_rfl
@[simp] theorem k195_4 : ch.keep 195 4 = [0, 2, 8] := by kernel_rfl
@[simp] theorem k195_5 : ch.keep 195 5 = [0, 2] := by kernel_rfl
@[simp] theorem k195_6 : ch.keep 195 6 = [0, 2] := by kernel_rfl
@[simp] theorem k195_7 : ch.keep 195 7 = [0, 2, 14] := by kernel_rfl
@[simp] theorem k195_8 : ch.keep 195 8 = [0, 2] := by kernel_rfl
@[simp] theorem k195_9 : ch.keep 195 9 = [0, 2] := by kernel_rfl
@[simp] theorem k195_10 : ch.keep 195 10 = [2] := by kernel_rfl
noncomputable def code195 : Code := match Tryz.f195.body with | some c => c | none => .skip
theorem rs195 : Tryz.f195.results.toList = [.tmp 2] := rfl
theorem W195_of {args : List D} (ha : args.all (D.noRef 0 0) = true) (hl : args.length ≤ 25) {H : Hp} {o : Out × Hp}
    (h : alone H (fnOut Tryz.prog [.tmp 2] 0 0 (E false ⟨0, 0⟩ 195 code195 (mkF 0 args) H00)) = some o) : W 195 args H = some o :=
  W_of Tryz.func195 rfl (by kernel_rfl) rfl rfl rfl rfl rfl ha (by rw [Tryz.ntmps195]; exact hl) h
end Go.Vi
end
