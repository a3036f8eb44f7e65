/- The package's table of the deeds' numbers as a read-only row. Own work. -/
import Derived.Test.YtpabogkcmbkffaaGreatDoorOrd
set_option linter.unusedVariables false
namespace Go.Proofs.YtpabogkcmbkffaaGreatDoor
open Go Go.RowKit
def deedNumbers : List Int := [2, 2, 1, 3, 0, 1]
def Glob (G : List Res) : Prop := HasRo G (.int .i64) (.slice (some ⟨0, 0, none⟩) 6 6) deedNumbers
theorem Glob.c {R : Res} {G : List Res} (h : Glob G) : Glob (R :: G) := HasRo.c h
end Go.Proofs.YtpabogkcmbkffaaGreatDoor
