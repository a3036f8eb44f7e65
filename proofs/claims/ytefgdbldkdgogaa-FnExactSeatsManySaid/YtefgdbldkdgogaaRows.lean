/-
  No cell of these rows narrows 'for every input' (looked for: loops, veiled, ifaces, maps, wideKeys, modest, calm, conditions, laid).
  DERIVED. THE GIVEN ROWS OF THIS SEAT. 14 by the template 'for every input the law returns true; each argument reads behind the call as it read before'; 0 by the template 'total and deterministic' (their statements: YtefgdbldkdgogaaTotals.lean).
  GIVEN WITH THE SEED: the statements are not yours to turn. If you find one false, say at which input.
  Laid BY PROGRAM, IN A SANDBOX (cutbox-rows.mjs): the forced cells as the released guide's own fill.sh prints them over the translation aa6c7c29fa58eaa8… (all of the seat's roots in one cut). By AI agents, Wed Nov 11 2026. No macro, syntax, notation, axiom, sorry.
-/
import Derived.Test.YtefgdbldkdgogaaChecked
import GoSem.Claim
import GoSem.ClaimJoined
import GoSem.ClaimMapViews
import Derived.JoinedTies
import Derived.KernelRfl
namespace Go.Proofs.Ytefgdbldkdgogaa
/- THE CELL 'sum', in the pinned program and in every row, IS THE sha256 OF THE DUMP (.gsa) THAT YtefgdbldkdgogaaProg.lean LOADS. Nothing in Lean hashes anything: it is a label: what it is worth is what the hold of that sum in a sandbox is worth. -/
noncomputable def Try.pinned : Pinned := { name := "ytefgdbldkdgogaa", sum := "aa6c7c29fa58eaa84b410e65887840b3082885778aae663dd52ce9e4ec9f3af2", checked := Try.checked }
namespace Rows
def none {H : Type} : Left H := { results := [], args := [] }

/-- 'laws.FnExactMenuValid': WHATEVER THE INPUT: true; the input reads as it did. -/
def fnExactMenuValidSpec : ChangeSpec := { name := "fnExactMenuValid", fn := fun _ => fun
  | [d1, d2] => { results := [.lit (.bool true)], args := [d1, d2] }
  | _ => none }
def fnExactMenuValidRow : OpenClaim := { program := "ytefgdbldkdgogaa", sum := "aa6c7c29fa58eaa84b410e65887840b3082885778aae663dd52ce9e4ec9f3af2", func := "loop.example/restaurantkitchen/laws.FnExactMenuValid", spec := "fnExactMenuValid", apart := false }
def FnExactMenuValidSaid : Prop := fnExactMenuValidRow.holds Try.pinned (OpenSpec.ofChange fnExactMenuValidSpec)

/-- ITS FALSE NEIGHBOUR: 'it returns false'. Refute it at one input. -/
def fnExactMenuValidWrong : ChangeSpec := { name := "fnExactMenuValid", fn := fun _ => fun
  | [d1, d2] => { results := [.lit (.bool false)], args := [d1, d2] }
  | _ => none }
def FnExactMenuValidWrongFalsely : Prop := fnExactMenuValidRow.holds Try.pinned (OpenSpec.ofChange fnExactMenuValidWrong)

/-- 'laws.FnExactDishesMany': WHATEVER THE INPUT: true; the input reads as it did. -/
def fnExactDishesManySpec : ChangeSpec := { name := "fnExactDishesMany", fn := fun _ => fun
  | [d] => { results := [.lit (.bool true)], args := [d] }
  | _ => none }
def fnExactDishesManyRow : OpenClaim := { program := "ytefgdbldkdgogaa", sum := "aa6c7c29fa58eaa84b410e65887840b3082885778aae663dd52ce9e4ec9f3af2", func := "loop.example/restaurantkitchen/laws.FnExactDishesMany", spec := "fnExactDishesMany", apart := false }
def FnExactDishesManySaid : Prop := fnExactDishesManyRow.holds Try.pinned (OpenSpec.ofChange fnExactDishesManySpec)

/-- ITS FALSE NEIGHBOUR: 'it returns false'. Refute it at one input. -/
def fnExactDishesManyWrong : ChangeSpec := { name := "fnExactDishesMany", fn := fun _ => fun
  | [d] => { results := [.lit (.bool false)], args := [d] }
  | _ => none }
def FnExactDishesManyWrongFalsely : Prop := fnExactDishesManyRow.holds Try.pinned (OpenSpec.ofChange fnExactDishesManyWrong)

/-- 'laws.FnExactQuarrelsValid': WHATEVER THE INPUT: true; the input reads as it did. -/
def fnExactQuarrelsValidSpec : ChangeSpec := { name := "fnExactQuarrelsValid", fn := fun _ => fun
  | [d1, d2] => { results := [.lit (.bool true)], args := [d1, d2] }
  | _ => none }
def fnExactQuarrelsValidRow : OpenClaim := { program := "ytefgdbldkdgogaa", sum := "aa6c7c29fa58eaa84b410e65887840b3082885778aae663dd52ce9e4ec9f3af2", func := "loop.example/restaurantkitchen/laws.FnExactQuarrelsValid", spec := "fnExactQuarrelsValid", apart := false }
def FnExactQuarrelsValidSaid : Prop := fnExactQuarrelsValidRow.holds Try.pinned (OpenSpec.ofChange fnExactQuarrelsValidSpec)

/-- ITS FALSE NEIGHBOUR: 'it returns false'. Refute it at one input. -/
def fnExactQuarrelsValidWrong : ChangeSpec := { name := "fnExactQuarrelsValid", fn := fun _ => fun
  | [d1, d2] => { results := [.lit (.bool false)], args := [d1, d2] }
  | _ => none }
def FnExactQuarrelsValidWrongFalsely : Prop := fnExactQuarrelsValidRow.holds Try.pinned (OpenSpec.ofChange fnExactQuarrelsValidWrong)

/-- 'laws.FnExactFedBy': WHATEVER THE INPUT: true; the input reads as it did. -/
def fnExactFedBySpec : ChangeSpec := { name := "fnExactFedBy", fn := fun _ => fun
  | [d1, d2, d3] => { results := [.lit (.bool true)], args := [d1, d2, d3] }
  | _ => none }
def fnExactFedByRow : OpenClaim := { program := "ytefgdbldkdgogaa", sum := "aa6c7c29fa58eaa84b410e65887840b3082885778aae663dd52ce9e4ec9f3af2", func := "loop.example/restaurantkitchen/laws.FnExactFedBy", spec := "fnExactFedBy", apart := false }
def FnExactFedBySaid : Prop := fnExactFedByRow.holds Try.pinned (OpenSpec.ofChange fnExactFedBySpec)

/-- ITS FALSE NEIGHBOUR: 'it returns false'. Refute it at one input. -/
def fnExactFedByWrong : ChangeSpec := { name := "fnExactFedBy", fn := fun _ => fun
  | [d1, d2, d3] => { results := [.lit (.bool false)], args := [d1, d2, d3] }
  | _ => none }
def FnExactFedByWrongFalsely : Prop := fnExactFedByRow.holds Try.pinned (OpenSpec.ofChange fnExactFedByWrong)

/-- 'laws.FnExactFeedsAll': WHATEVER THE INPUT: true; the input reads as it did. -/
def fnExactFeedsAllSpec : ChangeSpec := { name := "fnExactFeedsAll", fn := fun _ => fun
  | [d1, d2, d3] => { results := [.lit (.bool true)], args := [d1, d2, d3] }
  | _ => none }
def fnExactFeedsAllRow : OpenClaim := { program := "ytefgdbldkdgogaa", sum := "aa6c7c29fa58eaa84b410e65887840b3082885778aae663dd52ce9e4ec9f3af2", func := "loop.example/restaurantkitchen/laws.FnExactFeedsAll", spec := "fnExactFeedsAll", apart := false }
def FnExactFeedsAllSaid : Prop := fnExactFeedsAllRow.holds Try.pinned (OpenSpec.ofChange fnExactFeedsAllSpec)

/-- ITS FALSE NEIGHBOUR: 'it returns false'. Refute it at one input. -/
def fnExactFeedsAllWrong : ChangeSpec := { name := "fnExactFeedsAll", fn := fun _ => fun
  | [d1, d2, d3] => { results := [.lit (.bool false)], args := [d1, d2, d3] }
  | _ => none }
def FnExactFeedsAllWrongFalsely : Prop := fnExactFeedsAllRow.holds Try.pinned (OpenSpec.ofChange fnExactFeedsAllWrong)

/-- 'laws.FnExactSeatsOk': WHATEVER THE INPUT: true; the input reads as it did. -/
def fnExactSeatsOkSpec : ChangeSpec := { name := "fnExactSeatsOk", fn := fun _ => fun
  | [d1, d2, d3] => { results := [.lit (.bool true)], args := [d1, d2, d3] }
  | _ => none }
def fnExactSeatsOkRow : OpenClaim := { program := "ytefgdbldkdgogaa", sum := "aa6c7c29fa58eaa84b410e65887840b3082885778aae663dd52ce9e4ec9f3af2", func := "loop.example/restaurantkitchen/laws.FnExactSeatsOk", spec := "fnExactSeatsOk", apart := false }
def FnExactSeatsOkSaid : Prop := fnExactSeatsOkRow.holds Try.pinned (OpenSpec.ofChange fnExactSeatsOkSpec)

/-- ITS FALSE NEIGHBOUR: 'it returns false'. Refute it at one input. -/
def fnExactSeatsOkWrong : ChangeSpec := { name := "fnExactSeatsOk", fn := fun _ => fun
  | [d1, d2, d3] => { results := [.lit (.bool false)], args := [d1, d2, d3] }
  | _ => none }
def FnExactSeatsOkWrongFalsely : Prop := fnExactSeatsOkRow.holds Try.pinned (OpenSpec.ofChange fnExactSeatsOkWrong)

/-- 'laws.FnExactSeatsFirst': WHATEVER THE INPUT: true; the input reads as it did. -/
def fnExactSeatsFirstSpec : ChangeSpec := { name := "fnExactSeatsFirst", fn := fun _ => fun
  | [d1, d2] => { results := [.lit (.bool true)], args := [d1, d2] }
  | _ => none }
def fnExactSeatsFirstRow : OpenClaim := { program := "ytefgdbldkdgogaa", sum := "aa6c7c29fa58eaa84b410e65887840b3082885778aae663dd52ce9e4ec9f3af2", func := "loop.example/restaurantkitchen/laws.FnExactSeatsFirst", spec := "fnExactSeatsFirst", apart := false }
def FnExactSeatsFirstSaid : Prop := fnExactSeatsFirstRow.holds Try.pinned (OpenSpec.ofChange fnExactSeatsFirstSpec)

/-- ITS FALSE NEIGHBOUR: 'it returns false'. Refute it at one input. -/
def fnExactSeatsFirstWrong : ChangeSpec := { name := "fnExactSeatsFirst", fn := fun _ => fun
  | [d1, d2] => { results := [.lit (.bool false)], args := [d1, d2] }
  | _ => none }
def FnExactSeatsFirstWrongFalsely : Prop := fnExactSeatsFirstRow.holds Try.pinned (OpenSpec.ofChange fnExactSeatsFirstWrong)

/-- 'laws.FnExactApartValid': WHATEVER THE INPUT: true; the input reads as it did. -/
def fnExactApartValidSpec : ChangeSpec := { name := "fnExactApartValid", fn := fun _ => fun
  | [d1, d2, d3] => { results := [.lit (.bool true)], args := [d1, d2, d3] }
  | _ => none }
def fnExactApartValidRow : OpenClaim := { program := "ytefgdbldkdgogaa", sum := "aa6c7c29fa58eaa84b410e65887840b3082885778aae663dd52ce9e4ec9f3af2", func := "loop.example/restaurantkitchen/laws.FnExactApartValid", spec := "fnExactApartValid", apart := false }
def FnExactApartValidSaid : Prop := fnExactApartValidRow.holds Try.pinned (OpenSpec.ofChange fnExactApartValidSpec)

/-- ITS FALSE NEIGHBOUR: 'it returns false'. Refute it at one input. -/
def fnExactApartValidWrong : ChangeSpec := { name := "fnExactApartValid", fn := fun _ => fun
  | [d1, d2, d3] => { results := [.lit (.bool false)], args := [d1, d2, d3] }
  | _ => none }
def FnExactApartValidWrongFalsely : Prop := fnExactApartValidRow.holds Try.pinned (OpenSpec.ofChange fnExactApartValidWrong)

/-- 'laws.FnExactCliqueMost': WHATEVER THE INPUT: true; the input reads as it did. -/
def fnExactCliqueMostSpec : ChangeSpec := { name := "fnExactCliqueMost", fn := fun _ => fun
  | [d1, d2] => { results := [.lit (.bool true)], args := [d1, d2] }
  | _ => none }
def fnExactCliqueMostRow : OpenClaim := { program := "ytefgdbldkdgogaa", sum := "aa6c7c29fa58eaa84b410e65887840b3082885778aae663dd52ce9e4ec9f3af2", func := "loop.example/restaurantkitchen/laws.FnExactCliqueMost", spec := "fnExactCliqueMost", apart := false }
def FnExactCliqueMostSaid : Prop := fnExactCliqueMostRow.holds Try.pinned (OpenSpec.ofChange fnExactCliqueMostSpec)

/-- ITS FALSE NEIGHBOUR: 'it returns false'. Refute it at one input. -/
def fnExactCliqueMostWrong : ChangeSpec := { name := "fnExactCliqueMost", fn := fun _ => fun
  | [d1, d2] => { results := [.lit (.bool false)], args := [d1, d2] }
  | _ => none }
def FnExactCliqueMostWrongFalsely : Prop := fnExactCliqueMostRow.holds Try.pinned (OpenSpec.ofChange fnExactCliqueMostWrong)

/-- 'laws.FnExactSeatsLeast': WHATEVER THE INPUT: true; the input reads as it did. -/
def fnExactSeatsLeastSpec : ChangeSpec := { name := "fnExactSeatsLeast", fn := fun _ => fun
  | [d1, d2] => { results := [.lit (.bool true)], args := [d1, d2] }
  | _ => none }
def fnExactSeatsLeastRow : OpenClaim := { program := "ytefgdbldkdgogaa", sum := "aa6c7c29fa58eaa84b410e65887840b3082885778aae663dd52ce9e4ec9f3af2", func := "loop.example/restaurantkitchen/laws.FnExactSeatsLeast", spec := "fnExactSeatsLeast", apart := false }
def FnExactSeatsLeastSaid : Prop := fnExactSeatsLeastRow.holds Try.pinned (OpenSpec.ofChange fnExactSeatsLeastSpec)

/-- ITS FALSE NEIGHBOUR: 'it returns false'. Refute it at one input. -/
def fnExactSeatsLeastWrong : ChangeSpec := { name := "fnExactSeatsLeast", fn := fun _ => fun
  | [d1, d2] => { results := [.lit (.bool false)], args := [d1, d2] }
  | _ => none }
def FnExactSeatsLeastWrongFalsely : Prop := fnExactSeatsLeastRow.holds Try.pinned (OpenSpec.ofChange fnExactSeatsLeastWrong)

/-- 'laws.FnExactApartMost': WHATEVER THE INPUT: true; the input reads as it did. -/
def fnExactApartMostSpec : ChangeSpec := { name := "fnExactApartMost", fn := fun _ => fun
  | [d1, d2] => { results := [.lit (.bool true)], args := [d1, d2] }
  | _ => none }
def fnExactApartMostRow : OpenClaim := { program := "ytefgdbldkdgogaa", sum := "aa6c7c29fa58eaa84b410e65887840b3082885778aae663dd52ce9e4ec9f3af2", func := "loop.example/restaurantkitchen/laws.FnExactApartMost", spec := "fnExactApartMost", apart := false }
def FnExactApartMostSaid : Prop := fnExactApartMostRow.holds Try.pinned (OpenSpec.ofChange fnExactApartMostSpec)

/-- ITS FALSE NEIGHBOUR: 'it returns false'. Refute it at one input. -/
def fnExactApartMostWrong : ChangeSpec := { name := "fnExactApartMost", fn := fun _ => fun
  | [d1, d2] => { results := [.lit (.bool false)], args := [d1, d2] }
  | _ => none }
def FnExactApartMostWrongFalsely : Prop := fnExactApartMostRow.holds Try.pinned (OpenSpec.ofChange fnExactApartMostWrong)

/-- 'laws.FnExactDishesGreedy': WHATEVER THE INPUT: true; the input reads as it did. -/
def fnExactDishesGreedySpec : ChangeSpec := { name := "fnExactDishesGreedy", fn := fun _ => fun
  | [d1, d2] => { results := [.lit (.bool true)], args := [d1, d2] }
  | _ => none }
def fnExactDishesGreedyRow : OpenClaim := { program := "ytefgdbldkdgogaa", sum := "aa6c7c29fa58eaa84b410e65887840b3082885778aae663dd52ce9e4ec9f3af2", func := "loop.example/restaurantkitchen/laws.FnExactDishesGreedy", spec := "fnExactDishesGreedy", apart := false }
def FnExactDishesGreedySaid : Prop := fnExactDishesGreedyRow.holds Try.pinned (OpenSpec.ofChange fnExactDishesGreedySpec)

/-- ITS FALSE NEIGHBOUR: 'it returns false'. Refute it at one input. -/
def fnExactDishesGreedyWrong : ChangeSpec := { name := "fnExactDishesGreedy", fn := fun _ => fun
  | [d1, d2] => { results := [.lit (.bool false)], args := [d1, d2] }
  | _ => none }
def FnExactDishesGreedyWrongFalsely : Prop := fnExactDishesGreedyRow.holds Try.pinned (OpenSpec.ofChange fnExactDishesGreedyWrong)

/-- 'laws.FnExactDishesLeast': WHATEVER THE INPUT: true; the input reads as it did. -/
def fnExactDishesLeastSpec : ChangeSpec := { name := "fnExactDishesLeast", fn := fun _ => fun
  | [d1, d2] => { results := [.lit (.bool true)], args := [d1, d2] }
  | _ => none }
def fnExactDishesLeastRow : OpenClaim := { program := "ytefgdbldkdgogaa", sum := "aa6c7c29fa58eaa84b410e65887840b3082885778aae663dd52ce9e4ec9f3af2", func := "loop.example/restaurantkitchen/laws.FnExactDishesLeast", spec := "fnExactDishesLeast", apart := false }
def FnExactDishesLeastSaid : Prop := fnExactDishesLeastRow.holds Try.pinned (OpenSpec.ofChange fnExactDishesLeastSpec)

/-- ITS FALSE NEIGHBOUR: 'it returns false'. Refute it at one input. -/
def fnExactDishesLeastWrong : ChangeSpec := { name := "fnExactDishesLeast", fn := fun _ => fun
  | [d1, d2] => { results := [.lit (.bool false)], args := [d1, d2] }
  | _ => none }
def FnExactDishesLeastWrongFalsely : Prop := fnExactDishesLeastRow.holds Try.pinned (OpenSpec.ofChange fnExactDishesLeastWrong)

/-- 'laws.FnExactSeatsMany': WHATEVER THE INPUT: true; the input reads as it did. -/
def fnExactSeatsManySpec : ChangeSpec := { name := "fnExactSeatsMany", fn := fun _ => fun
  | [d] => { results := [.lit (.bool true)], args := [d] }
  | _ => none }
def fnExactSeatsManyRow : OpenClaim := { program := "ytefgdbldkdgogaa", sum := "aa6c7c29fa58eaa84b410e65887840b3082885778aae663dd52ce9e4ec9f3af2", func := "loop.example/restaurantkitchen/laws.FnExactSeatsMany", spec := "fnExactSeatsMany", recurses := true, apart := false }
def FnExactSeatsManySaid : Prop := fnExactSeatsManyRow.holds Try.pinned (OpenSpec.ofChange fnExactSeatsManySpec)

/-- ITS FALSE NEIGHBOUR: 'it returns false'. Refute it at one input. -/
def fnExactSeatsManyWrong : ChangeSpec := { name := "fnExactSeatsMany", fn := fun _ => fun
  | [d] => { results := [.lit (.bool false)], args := [d] }
  | _ => none }
def FnExactSeatsManyWrongFalsely : Prop := fnExactSeatsManyRow.holds Try.pinned (OpenSpec.ofChange fnExactSeatsManyWrong)

/- THE SECOND FORM. 'bulk': how many values and letters a reading holds, each counted each time it is reached (what is shared counts as often as it is met; a slice's spare places count too). A statement '..UptoSaid' is the law's where the arguments, and the package variables that the reading takes, are together of bulk at most 1048576: NARROWER than '..Said'. Prove '..Said' where nothing that the law and all that it calls make is longer than what came in: it says more and counts as full. Else prove '..UptoSaid'. A law counts once. -/
mutual
def uptoBulk {H : Type} : DataW H → Nat
  | .lit (.string bytes) => bytes.length + 1
  | .lit _ => 1
  | .nil => 1
  | .ptr d => uptoBulk d + 1
  | .slice elems spare => uptoBulkAll elems + uptoBulkAll spare + 1
  | .agg parts => uptoBulkAll parts + 1
  | .iface _ d => uptoBulk d + 1
  | .map entries => uptoBulkEntries entries + 1
  | .held _ => 1
def uptoBulkAll {H : Type} : List (DataW H) → Nat
  | [] => 0
  | d :: r => uptoBulk d + uptoBulkAll r
def uptoBulkEntries {H : Type} : List (Lit × DataW H) → Nat
  | [] => 0
  | x :: r => uptoBulkEntry x + uptoBulkEntries r
def uptoBulkEntry {H : Type} : Lit × DataW H → Nat
  | (.string bytes, d) => bytes.length + uptoBulk d + 1
  | (_, d) => uptoBulk d + 1
 end
def uptoSmall : (H : Type) → List (DataW H) → Bool := fun _ ds => decide (uptoBulkAll ds ≤ 1048576)
def OpenSpec.upto (s : _root_.Go.ChangeSpec) : _root_.Go.OpenSpec := { _root_.Go.OpenSpec.ofChange s with cond := some uptoSmall }

/-- 'laws.FnExactMenuValid', WHERE WHAT IT READS IS OF BULK AT MOST 1048576: true; the input reads as it did. -/
def fnExactMenuValidUptoRow : OpenClaim := { program := "ytefgdbldkdgogaa", sum := "aa6c7c29fa58eaa84b410e65887840b3082885778aae663dd52ce9e4ec9f3af2", func := "loop.example/restaurantkitchen/laws.FnExactMenuValid", spec := "fnExactMenuValid", apart := false, narrowed := true }
def FnExactMenuValidUptoSaid : Prop := fnExactMenuValidUptoRow.holds Try.pinned (OpenSpec.upto fnExactMenuValidSpec)

/-- 'laws.FnExactDishesMany', WHERE WHAT IT READS IS OF BULK AT MOST 1048576: true; the input reads as it did. -/
def fnExactDishesManyUptoRow : OpenClaim := { program := "ytefgdbldkdgogaa", sum := "aa6c7c29fa58eaa84b410e65887840b3082885778aae663dd52ce9e4ec9f3af2", func := "loop.example/restaurantkitchen/laws.FnExactDishesMany", spec := "fnExactDishesMany", apart := false, narrowed := true }
def FnExactDishesManyUptoSaid : Prop := fnExactDishesManyUptoRow.holds Try.pinned (OpenSpec.upto fnExactDishesManySpec)

/-- 'laws.FnExactQuarrelsValid', WHERE WHAT IT READS IS OF BULK AT MOST 1048576: true; the input reads as it did. -/
def fnExactQuarrelsValidUptoRow : OpenClaim := { program := "ytefgdbldkdgogaa", sum := "aa6c7c29fa58eaa84b410e65887840b3082885778aae663dd52ce9e4ec9f3af2", func := "loop.example/restaurantkitchen/laws.FnExactQuarrelsValid", spec := "fnExactQuarrelsValid", apart := false, narrowed := true }
def FnExactQuarrelsValidUptoSaid : Prop := fnExactQuarrelsValidUptoRow.holds Try.pinned (OpenSpec.upto fnExactQuarrelsValidSpec)

/-- 'laws.FnExactFedBy', WHERE WHAT IT READS IS OF BULK AT MOST 1048576: true; the input reads as it did. -/
def fnExactFedByUptoRow : OpenClaim := { program := "ytefgdbldkdgogaa", sum := "aa6c7c29fa58eaa84b410e65887840b3082885778aae663dd52ce9e4ec9f3af2", func := "loop.example/restaurantkitchen/laws.FnExactFedBy", spec := "fnExactFedBy", apart := false, narrowed := true }
def FnExactFedByUptoSaid : Prop := fnExactFedByUptoRow.holds Try.pinned (OpenSpec.upto fnExactFedBySpec)

/-- 'laws.FnExactFeedsAll', WHERE WHAT IT READS IS OF BULK AT MOST 1048576: true; the input reads as it did. -/
def fnExactFeedsAllUptoRow : OpenClaim := { program := "ytefgdbldkdgogaa", sum := "aa6c7c29fa58eaa84b410e65887840b3082885778aae663dd52ce9e4ec9f3af2", func := "loop.example/restaurantkitchen/laws.FnExactFeedsAll", spec := "fnExactFeedsAll", apart := false, narrowed := true }
def FnExactFeedsAllUptoSaid : Prop := fnExactFeedsAllUptoRow.holds Try.pinned (OpenSpec.upto fnExactFeedsAllSpec)

/-- 'laws.FnExactSeatsOk', WHERE WHAT IT READS IS OF BULK AT MOST 1048576: true; the input reads as it did. -/
def fnExactSeatsOkUptoRow : OpenClaim := { program := "ytefgdbldkdgogaa", sum := "aa6c7c29fa58eaa84b410e65887840b3082885778aae663dd52ce9e4ec9f3af2", func := "loop.example/restaurantkitchen/laws.FnExactSeatsOk", spec := "fnExactSeatsOk", apart := false, narrowed := true }
def FnExactSeatsOkUptoSaid : Prop := fnExactSeatsOkUptoRow.holds Try.pinned (OpenSpec.upto fnExactSeatsOkSpec)

/-- 'laws.FnExactSeatsFirst', WHERE WHAT IT READS IS OF BULK AT MOST 1048576: true; the input reads as it did. -/
def fnExactSeatsFirstUptoRow : OpenClaim := { program := "ytefgdbldkdgogaa", sum := "aa6c7c29fa58eaa84b410e65887840b3082885778aae663dd52ce9e4ec9f3af2", func := "loop.example/restaurantkitchen/laws.FnExactSeatsFirst", spec := "fnExactSeatsFirst", apart := false, narrowed := true }
def FnExactSeatsFirstUptoSaid : Prop := fnExactSeatsFirstUptoRow.holds Try.pinned (OpenSpec.upto fnExactSeatsFirstSpec)

/-- 'laws.FnExactApartValid', WHERE WHAT IT READS IS OF BULK AT MOST 1048576: true; the input reads as it did. -/
def fnExactApartValidUptoRow : OpenClaim := { program := "ytefgdbldkdgogaa", sum := "aa6c7c29fa58eaa84b410e65887840b3082885778aae663dd52ce9e4ec9f3af2", func := "loop.example/restaurantkitchen/laws.FnExactApartValid", spec := "fnExactApartValid", apart := false, narrowed := true }
def FnExactApartValidUptoSaid : Prop := fnExactApartValidUptoRow.holds Try.pinned (OpenSpec.upto fnExactApartValidSpec)

/-- 'laws.FnExactCliqueMost', WHERE WHAT IT READS IS OF BULK AT MOST 1048576: true; the input reads as it did. -/
def fnExactCliqueMostUptoRow : OpenClaim := { program := "ytefgdbldkdgogaa", sum := "aa6c7c29fa58eaa84b410e65887840b3082885778aae663dd52ce9e4ec9f3af2", func := "loop.example/restaurantkitchen/laws.FnExactCliqueMost", spec := "fnExactCliqueMost", apart := false, narrowed := true }
def FnExactCliqueMostUptoSaid : Prop := fnExactCliqueMostUptoRow.holds Try.pinned (OpenSpec.upto fnExactCliqueMostSpec)

/-- 'laws.FnExactSeatsLeast', WHERE WHAT IT READS IS OF BULK AT MOST 1048576: true; the input reads as it did. -/
def fnExactSeatsLeastUptoRow : OpenClaim := { program := "ytefgdbldkdgogaa", sum := "aa6c7c29fa58eaa84b410e65887840b3082885778aae663dd52ce9e4ec9f3af2", func := "loop.example/restaurantkitchen/laws.FnExactSeatsLeast", spec := "fnExactSeatsLeast", apart := false, narrowed := true }
def FnExactSeatsLeastUptoSaid : Prop := fnExactSeatsLeastUptoRow.holds Try.pinned (OpenSpec.upto fnExactSeatsLeastSpec)

/-- 'laws.FnExactApartMost', WHERE WHAT IT READS IS OF BULK AT MOST 1048576: true; the input reads as it did. -/
def fnExactApartMostUptoRow : OpenClaim := { program := "ytefgdbldkdgogaa", sum := "aa6c7c29fa58eaa84b410e65887840b3082885778aae663dd52ce9e4ec9f3af2", func := "loop.example/restaurantkitchen/laws.FnExactApartMost", spec := "fnExactApartMost", apart := false, narrowed := true }
def FnExactApartMostUptoSaid : Prop := fnExactApartMostUptoRow.holds Try.pinned (OpenSpec.upto fnExactApartMostSpec)

/-- 'laws.FnExactDishesGreedy', WHERE WHAT IT READS IS OF BULK AT MOST 1048576: true; the input reads as it did. -/
def fnExactDishesGreedyUptoRow : OpenClaim := { program := "ytefgdbldkdgogaa", sum := "aa6c7c29fa58eaa84b410e65887840b3082885778aae663dd52ce9e4ec9f3af2", func := "loop.example/restaurantkitchen/laws.FnExactDishesGreedy", spec := "fnExactDishesGreedy", apart := false, narrowed := true }
def FnExactDishesGreedyUptoSaid : Prop := fnExactDishesGreedyUptoRow.holds Try.pinned (OpenSpec.upto fnExactDishesGreedySpec)

/-- 'laws.FnExactDishesLeast', WHERE WHAT IT READS IS OF BULK AT MOST 1048576: true; the input reads as it did. -/
def fnExactDishesLeastUptoRow : OpenClaim := { program := "ytefgdbldkdgogaa", sum := "aa6c7c29fa58eaa84b410e65887840b3082885778aae663dd52ce9e4ec9f3af2", func := "loop.example/restaurantkitchen/laws.FnExactDishesLeast", spec := "fnExactDishesLeast", apart := false, narrowed := true }
def FnExactDishesLeastUptoSaid : Prop := fnExactDishesLeastUptoRow.holds Try.pinned (OpenSpec.upto fnExactDishesLeastSpec)

/-- 'laws.FnExactSeatsMany', WHERE WHAT IT READS IS OF BULK AT MOST 1048576: true; the input reads as it did. -/
def fnExactSeatsManyUptoRow : OpenClaim := { program := "ytefgdbldkdgogaa", sum := "aa6c7c29fa58eaa84b410e65887840b3082885778aae663dd52ce9e4ec9f3af2", func := "loop.example/restaurantkitchen/laws.FnExactSeatsMany", spec := "fnExactSeatsMany", recurses := true, apart := false, narrowed := true }
def FnExactSeatsManyUptoSaid : Prop := fnExactSeatsManyUptoRow.holds Try.pinned (OpenSpec.upto fnExactSeatsManySpec)

end Rows
end Go.Proofs.Ytefgdbldkdgogaa
