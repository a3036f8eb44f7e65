/- Two results that lie in cells. Own work, over any program. -/
import Derived.Test.YtpabogkcmbkffaaGreatDoorRany
set_option linter.unusedVariables false
namespace Go.Proofs.YtpabogkcmbkffaaGreatDoor
open Go Go.RowKit
variable {P : Program}
theorem retcc {fn : Func} {R : Ending → World → Prop} {n s t : Nat} {E : Env} {a : Act} {w : World} {T U : TypeId} {b c : Nat} {v u : Value} (hres : fn.results = #[.cell s T, .cell t U]) (ha : Fr a n E) (hs : lk E s = some (.pointer (some ⟨b, 0, none⟩))) (ht : lk E t = some (.pointer (some ⟨c, 0, none⟩))) (hl : (loadVar T ⟨b, 0, none⟩).run P w = .ok v w) (hl2 : (loadVar U ⟨c, 0, none⟩).run P w = .ok u w) (hR : R (.returned (.tuple #[v, u])) w) : bodyPost P fn R .ret a w :=
  ⟨ha.defers, _, by simp [results, hres, ha.get s _ hs, ha.get t _ ht, asAddr, hl, hl2], hR⟩
end Go.Proofs.YtpabogkcmbkffaaGreatDoor
