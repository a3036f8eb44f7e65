/- The package's tables as read-only rows; the library's functions as shallow functions. Own work. -/
import Derived.Test.YtkhnponakhabdaaGreatDoorStr
import Derived.Lib.IndexMore
import Derived.Lib.Split
import Derived.Lib.ItoaNum
import Derived.Lib.Join
set_option linter.unusedVariables false
namespace Go.Proofs.YtkhnponakhabdaaGreatDoor
open Go Go.RowKit
def deedNames : List (List UInt8) := [[98, 117, 121], [109, 97, 107, 101], [111, 112, 101, 110], [111, 114, 100, 101, 114], [119, 111, 114, 107], [99, 108, 111, 115, 101]]
def deedNumbers : List Int := [2, 2, 1, 3, 0, 1]
def Glob (G : List Res) : Prop := HasRo G .str (.slice (some ⟨0, 0, none⟩) 6 6) deedNames ∧ HasRo G (.int .i64) (.slice (some ⟨1, 0, none⟩) 6 6) deedNumbers
theorem Glob.c {R : Res} {G : List Res} (h : Glob G) : Glob (R :: G) := ⟨h.1.c, h.2.c⟩
def HasRb (G : List Res) (b : Nat) (cs : List Value) : Prop := .rb b cs ∈ G
theorem HasRb.at {w : World} {G : List Res} {b : Nat} {cs : List Value} (h : HasRb G b cs) (H : Ctx w G) : ∃ T fz, w.heap[b]? = some (.cells cs.toArray T fz) := by
 obtain ⟨L, h1, h2, h3⟩ := H
 subst h1
 obtain ⟨f, hf, he⟩ := List.mem_map.1 h
 have key : ∀ {L : List (Res × List Nat)}, SitAll w L → f ∈ L → Sit w f.1 f.2 := by
  intro L
  induction L with
  | nil => intro _ h; cases h
  | cons g L ih =>
   intro hs hm
   rcases List.mem_cons.1 hm with rfl | hm
   ·exact hs.1
   ·exact ih hs.2 hm
 have := key h2 hf
 rw [he] at this
 exact this.2
def GlobP (G : List Res) : Prop := HasRb G 3 (Lib.pow10Tab.map fun z => Value.int .u64 z)
theorem GlobP.c {R : Res} {G : List Res} (h : GlobP G) : GlobP (R :: G) := List.mem_cons_of_mem _ h
def GlobM (G : List Res) : Prop := ∃ m : Int, HasRb G 2 [.int .i64 m]
theorem GlobM.c {R : Res} {G : List Res} (h : GlobM G) : GlobM (R :: G) := let ⟨m, hm⟩ := h; ⟨m, List.mem_cons_of_mem _ hm⟩
noncomputable def strconv_ItoaS (n : Int) : Option (List UInt8) := if -9223372036854775808 ≤ n ∧ n ≤ 9223372036854775807 then some (Lib.itoa n) else none
noncomputable def strings_CutS (s sep : List UInt8) : Option (List UInt8 × List UInt8 × Bool) := if s.length < 4294967281 then some (Lib.cut s sep) else none
noncomputable def strings_SplitS (s sep : List UInt8) : Option (List (List UInt8)) :=
 if s.length < 4294967281 ∧ 1 ≤ sep.length then some ((Lib.splitB ⟨sep.toArray⟩ 0 (Lib.countB ⟨s.toArray⟩ ⟨sep.toArray⟩) ⟨s.toArray⟩).map fun b => b.data.toList) else none
noncomputable def strings_JoinS (xs : List (List UInt8)) (sep : List UInt8) : Option (List UInt8) := if xs.length ≤ 140737488355328 ∧ (Lib.join xs sep).length ≤ 140737488355328 then some (Lib.join xs sep) else none
end Go.Proofs.YtkhnponakhabdaaGreatDoor
