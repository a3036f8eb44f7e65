/- Shallow functions of SeatsMany: printed by a program but for srt and impl_SeatsManyS. -/
import Derived.Test.YtefgdbldkdgogaaRmore
import Derived.Test.YtefgdbldkdgogaaShG6
import Derived.Lib.SlicesCompact
set_option linter.unusedVariables false
set_option maxRecDepth 10000
namespace Go.Proofs.Ytefgdbldkdgogaa
open Go Go.RowKit
noncomputable def impl_copyIntsS (p0 : List Int) : Option (List Int) :=
  (if ((List.length p0 : Int) == 0) then (some ([])) else ((mkO (0 : Int) (List.length p0 : Int)).bind fun x2 => (some (List.take (List.length x2) p0 ++ List.drop (List.length p0) x2))))
def srt (x : List Int) : List Int := x.mergeSort fun a b => decide (a ≤ b)
noncomputable def impl_SeatsManyS (p0 : List Int) : Option Int := (impl_copyIntsS p0).bind fun x => if decide (x.length ≤ 1099511627776) then some ((Lib.compact (srt x)).length : Int) else none
noncomputable def spec_l1HasS (p0 : List Int) (p1 : Int) : Option Bool :=
  ((loop (σ := Int) (ρ := (Unit) ⊕ (Bool)) (fun (s : Int) => match s with | s1 => (if (decide (s1 < (List.length p0 : Int))) then ((geti p0 s1).bind fun x3 => (if (x3 == p1) then (some (.inr (.inr true))) else (some (.inl (IntKind.wrap .i64 (s1 + 1)))))) else (some (.inr (.inl ()))))) 0).bind fun o => match o with | .inl _ => (some false) | .inr p13 => (some p13))
noncomputable def spec_SeatsManyS (p0 : List Int) : Option Int :=
  ((loop (σ := Int × Int) (ρ := (Int)) (fun (s : Int × Int) => match s with | (s1, s2) => (if (decide (s2 < (List.length p0 : Int))) then ((subO p0 0 s2).bind fun x4 => ((geti p0 s2).bind fun x6 => ((spec_l1HasS x4 x6).bind fun x15 => (if (!x15) then (some (.inl (IntKind.wrap .i64 (s1 + 1), IntKind.wrap .i64 (s2 + 1)))) else (some (.inl (s1, IntKind.wrap .i64 (s2 + 1)))))))) else (some (.inr s1)))) (0, 0)).bind fun o => match o with | p21 => (some p21))
noncomputable def laws_FnExactSeatsManyS (p0 : List Int) : Option Bool :=
  (if (decide ((List.length p0 : Int) > 1048576)) then (some true) else ((laws_toIntSS p0).bind fun x2 => ((spec_SeatsManyS x2).bind fun x8 => ((laws_toIntSS p0).bind fun x13 => ((impl_SeatsManyS x13).bind fun x19 => (if (x19 != x8) then (some false) else ((laws_toIntSS p0).bind fun x25 => ((laws_eqIntSS x13 x25).bind fun x31 => (if (!x31) then (some false) else (some true))))))))))
end Go.Proofs.Ytefgdbldkdgogaa
