/- A row whose first elements have moved out. Own work, over any program. -/
import Derived.Test.YthofjabphcheeaaDoorOrd
set_option linter.unusedVariables false
namespace Go.Proofs.YthofjabphcheeaaDoor
open Go Go.RowKit
variable {P : Program}
section pulls
variable {M : List Nat} {w0 w : World} {Γ G : List Res} {r0 r1 r2 r3 r4 r5 r6 r7 r8 r9 r10 r11 r12 r13 r14 r15 r16 r17 r18 r19 r20 r21 r22 r23 r24 r25 r26 r27 r28 r29 r30 r31 r32 r33 r34 r35 r36 r37 r38 r39 : Res}
theorem Holds.p0 (H : Holds M w0 w (r0 :: Γ) G) : Holds M w0 w (r0 :: Γ) G := H.pull 0
theorem Holds.q0 (H : Holds M w0 w (r0 :: Γ) G) : Holds M w0 w (Γ) G := H.cut 0
theorem Holds.p1 (H : Holds M w0 w (r0 :: r1 :: Γ) G) : Holds M w0 w (r1 :: r0 :: Γ) G := H.pull 1
theorem Holds.q1 (H : Holds M w0 w (r0 :: r1 :: Γ) G) : Holds M w0 w (r0 :: Γ) G := H.cut 1
theorem Holds.p2 (H : Holds M w0 w (r0 :: r1 :: r2 :: Γ) G) : Holds M w0 w (r2 :: r0 :: r1 :: Γ) G := H.pull 2
theorem Holds.q2 (H : Holds M w0 w (r0 :: r1 :: r2 :: Γ) G) : Holds M w0 w (r0 :: r1 :: Γ) G := H.cut 2
theorem Holds.p3 (H : Holds M w0 w (r0 :: r1 :: r2 :: r3 :: Γ) G) : Holds M w0 w (r3 :: r0 :: r1 :: r2 :: Γ) G := H.pull 3
theorem Holds.q3 (H : Holds M w0 w (r0 :: r1 :: r2 :: r3 :: Γ) G) : Holds M w0 w (r0 :: r1 :: r2 :: Γ) G := H.cut 3
theorem Holds.p4 (H : Holds M w0 w (r0 :: r1 :: r2 :: r3 :: r4 :: Γ) G) : Holds M w0 w (r4 :: r0 :: r1 :: r2 :: r3 :: Γ) G := H.pull 4
theorem Holds.q4 (H : Holds M w0 w (r0 :: r1 :: r2 :: r3 :: r4 :: Γ) G) : Holds M w0 w (r0 :: r1 :: r2 :: r3 :: Γ) G := H.cut 4
theorem Holds.p5 (H : Holds M w0 w (r0 :: r1 :: r2 :: r3 :: r4 :: r5 :: Γ) G) : Holds M w0 w (r5 :: r0 :: r1 :: r2 :: r3 :: r4 :: Γ) G := H.pull 5
theorem Holds.q5 (H : Holds M w0 w (r0 :: r1 :: r2 :: r3 :: r4 :: r5 :: Γ) G) : Holds M w0 w (r0 :: r1 :: r2 :: r3 :: r4 :: Γ) G := H.cut 5
theorem Holds.p6 (H : Holds M w0 w (r0 :: r1 :: r2 :: r3 :: r4 :: r5 :: r6 :: Γ) G) : Holds M w0 w (r6 :: r0 :: r1 :: r2 :: r3 :: r4 :: r5 :: Γ) G := H.pull 6
theorem Holds.q6 (H : Holds M w0 w (r0 :: r1 :: r2 :: r3 :: r4 :: r5 :: r6 :: Γ) G) : Holds M w0 w (r0 :: r1 :: r2 :: r3 :: r4 :: r5 :: Γ) G := H.cut 6
theorem Holds.p7 (H : Holds M w0 w (r0 :: r1 :: r2 :: r3 :: r4 :: r5 :: r6 :: r7 :: Γ) G) : Holds M w0 w (r7 :: r0 :: r1 :: r2 :: r3 :: r4 :: r5 :: r6 :: Γ) G := H.pull 7
theorem Holds.q7 (H : Holds M w0 w (r0 :: r1 :: r2 :: r3 :: r4 :: r5 :: r6 :: r7 :: Γ) G) : Holds M w0 w (r0 :: r1 :: r2 :: r3 :: r4 :: r5 :: r6 :: Γ) G := H.cut 7
theorem Holds.p8 (H : Holds M w0 w (r0 :: r1 :: r2 :: r3 :: r4 :: r5 :: r6 :: r7 :: r8 :: Γ) G) : Holds M w0 w (r8 :: r0 :: r1 :: r2 :: r3 :: r4 :: r5 :: r6 :: r7 :: Γ) G := H.pull 8
theorem Holds.q8 (H : Holds M w0 w (r0 :: r1 :: r2 :: r3 :: r4 :: r5 :: r6 :: r7 :: r8 :: Γ) G) : Holds M w0 w (r0 :: r1 :: r2 :: r3 :: r4 :: r5 :: r6 :: r7 :: Γ) G := H.cut 8
theorem Holds.p9 (H : Holds M w0 w (r0 :: r1 :: r2 :: r3 :: r4 :: r5 :: r6 :: r7 :: r8 :: r9 :: Γ) G) : Holds M w0 w (r9 :: r0 :: r1 :: r2 :: r3 :: r4 :: r5 :: r6 :: r7 :: r8 :: Γ) G := H.pull 9
theorem Holds.p10 (H : Holds M w0 w (r0 :: r1 :: r2 :: r3 :: r4 :: r5 :: r6 :: r7 :: r8 :: r9 :: r10 :: Γ) G) : Holds M w0 w (r10 :: r0 :: r1 :: r2 :: r3 :: r4 :: r5 :: r6 :: r7 :: r8 :: r9 :: Γ) G := H.pull 10
theorem Holds.p11 (H : Holds M w0 w (r0 :: r1 :: r2 :: r3 :: r4 :: r5 :: r6 :: r7 :: r8 :: r9 :: r10 :: r11 :: Γ) G) : Holds M w0 w (r11 :: r0 :: r1 :: r2 :: r3 :: r4 :: r5 :: r6 :: r7 :: r8 :: r9 :: r10 :: Γ) G := H.pull 11
theorem Holds.p12 (H : Holds M w0 w (r0 :: r1 :: r2 :: r3 :: r4 :: r5 :: r6 :: r7 :: r8 :: r9 :: r10 :: r11 :: r12 :: Γ) G) : Holds M w0 w (r12 :: r0 :: r1 :: r2 :: r3 :: r4 :: r5 :: r6 :: r7 :: r8 :: r9 :: r10 :: r11 :: Γ) G := H.pull 12
end pulls
end Go.Proofs.YthofjabphcheeaaDoor
