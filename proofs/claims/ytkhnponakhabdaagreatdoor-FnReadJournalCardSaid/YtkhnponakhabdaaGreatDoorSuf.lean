/- A row whose first elements have moved out. Own work, over any program. -/
import Derived.Test.YtkhnponakhabdaaGreatDoorOrd
set_option linter.unusedVariables false
namespace Go.Proofs.YtkhnponakhabdaaGreatDoor
open Go Go.RowKit
variable {P : Program}
section pulls
variable {M : List Nat} {w0 w : World} {Γ G : List Res} {r0 r1 r2 r3 r4 r5 r6 r7 r8 r9 r10 r11 r12 r13 r14 r15 r16 r17 r18 r19 r20 r21 r22 r23 r24 r25 r26 r27 r28 r29 r30 r31 r32 r33 r34 r35 r36 r37 r38 r39 : Res}
theorem Holds.p0 (H : Holds M w0 w (r0 :: Γ) G) : Holds M w0 w (r0 :: Γ) G := H.pull 0
theorem Holds.q0 (H : Holds M w0 w (r0 :: Γ) G) : Holds M w0 w (Γ) G := H.cut 0
theorem Holds.p1 (H : Holds M w0 w (r0 :: r1 :: Γ) G) : Holds M w0 w (r1 :: r0 :: Γ) G := H.pull 1
theorem Holds.q1 (H : Holds M w0 w (r0 :: r1 :: Γ) G) : Holds M w0 w (r0 :: Γ) G := H.cut 1
theorem Holds.p2 (H : Holds M w0 w (r0 :: r1 :: r2 :: Γ) G) : Holds M w0 w (r2 :: r0 :: r1 :: Γ) G := H.pull 2
theorem Holds.q2 (H : Holds M w0 w (r0 :: r1 :: r2 :: Γ) G) : Holds M w0 w (r0 :: r1 :: Γ) G := H.cut 2
theorem Holds.p3 (H : Holds M w0 w (r0 :: r1 :: r2 :: r3 :: Γ) G) : Holds M w0 w (r3 :: r0 :: r1 :: r2 :: Γ) G := H.pull 3
theorem Holds.q3 (H : Holds M w0 w (r0 :: r1 :: r2 :: r3 :: Γ) G) : Holds M w0 w (r0 :: r1 :: r2 :: Γ) G := H.cut 3
theorem Holds.p4 (H : Holds M w0 w (r0 :: r1 :: r2 :: r3 :: r4 :: Γ) G) : Holds M w0 w (r4 :: r0 :: r1 :: r2 :: r3 :: Γ) G := H.pull 4
theorem Holds.q4 (H : Holds M w0 w (r0 :: r1 :: r2 :: r3 :: r4 :: Γ) G) : Holds M w0 w (r0 :: r1 :: r2 :: r3 :: Γ) G := H.cut 4
theorem Holds.p5 (H : Holds M w0 w (r0 :: r1 :: r2 :: r3 :: r4 :: r5 :: Γ) G) : Holds M w0 w (r5 :: r0 :: r1 :: r2 :: r3 :: r4 :: Γ) G := H.pull 5
theorem Holds.q5 (H : Holds M w0 w (r0 :: r1 :: r2 :: r3 :: r4 :: r5 :: Γ) G) : Holds M w0 w (r0 :: r1 :: r2 :: r3 :: r4 :: Γ) G := H.cut 5
theorem Holds.p6 (H : Holds M w0 w (r0 :: r1 :: r2 :: r3 :: r4 :: r5 :: r6 :: Γ) G) : Holds M w0 w (r6 :: r0 :: r1 :: r2 :: r3 :: r4 :: r5 :: Γ) G := H.pull 6
theorem Holds.q6 (H : Holds M w0 w (r0 :: r1 :: r2 :: r3 :: r4 :: r5 :: r6 :: Γ) G) : Holds M w0 w (r0 :: r1 :: r2 :: r3 :: r4 :: r5 :: Γ) G := H.cut 6
theorem Holds.p7 (H : Holds M w0 w (r0 :: r1 :: r2 :: r3 :: r4 :: r5 :: r6 :: r7 :: Γ) G) : Holds M w0 w (r7 :: r0 :: r1 :: r2 :: r3 :: r4 :: r5 :: r6 :: Γ) G := H.pull 7
theorem Holds.q7 (H : Holds M w0 w (r0 :: r1 :: r2 :: r3 :: r4 :: r5 :: r6 :: r7 :: Γ) G) : Holds M w0 w (r0 :: r1 :: r2 :: r3 :: r4 :: r5 :: r6 :: Γ) G := H.cut 7
theorem Holds.p8 (H : Holds M w0 w (r0 :: r1 :: r2 :: r3 :: r4 :: r5 :: r6 :: r7 :: r8 :: Γ) G) : Holds M w0 w (r8 :: r0 :: r1 :: r2 :: r3 :: r4 :: r5 :: r6 :: r7 :: Γ) G := H.pull 8
theorem Holds.q8 (H : Holds M w0 w (r0 :: r1 :: r2 :: r3 :: r4 :: r5 :: r6 :: r7 :: r8 :: Γ) G) : Holds M w0 w (r0 :: r1 :: r2 :: r3 :: r4 :: r5 :: r6 :: r7 :: Γ) G := H.cut 8
theorem Holds.p9 (H : Holds M w0 w (r0 :: r1 :: r2 :: r3 :: r4 :: r5 :: r6 :: r7 :: r8 :: r9 :: Γ) G) : Holds M w0 w (r9 :: r0 :: r1 :: r2 :: r3 :: r4 :: r5 :: r6 :: r7 :: r8 :: Γ) G := H.pull 9
theorem Holds.p10 (H : Holds M w0 w (r0 :: r1 :: r2 :: r3 :: r4 :: r5 :: r6 :: r7 :: r8 :: r9 :: r10 :: Γ) G) : Holds M w0 w (r10 :: r0 :: r1 :: r2 :: r3 :: r4 :: r5 :: r6 :: r7 :: r8 :: r9 :: Γ) G := H.pull 10
theorem Holds.p11 (H : Holds M w0 w (r0 :: r1 :: r2 :: r3 :: r4 :: r5 :: r6 :: r7 :: r8 :: r9 :: r10 :: r11 :: Γ) G) : Holds M w0 w (r11 :: r0 :: r1 :: r2 :: r3 :: r4 :: r5 :: r6 :: r7 :: r8 :: r9 :: r10 :: Γ) G := H.pull 11
theorem Holds.p12 (H : Holds M w0 w (r0 :: r1 :: r2 :: r3 :: r4 :: r5 :: r6 :: r7 :: r8 :: r9 :: r10 :: r11 :: r12 :: Γ) G) : Holds M w0 w (r12 :: r0 :: r1 :: r2 :: r3 :: r4 :: r5 :: r6 :: r7 :: r8 :: r9 :: r10 :: r11 :: Γ) G := H.pull 12
theorem Holds.q12 (H : Holds M w0 w (r0 :: r1 :: r2 :: r3 :: r4 :: r5 :: r6 :: r7 :: r8 :: r9 :: r10 :: r11 :: r12 :: Γ) G) : Holds M w0 w (r0 :: r1 :: r2 :: r3 :: r4 :: r5 :: r6 :: r7 :: r8 :: r9 :: r10 :: r11 :: Γ) G := H.cut 12
theorem Holds.p13 (H : Holds M w0 w (r0 :: r1 :: r2 :: r3 :: r4 :: r5 :: r6 :: r7 :: r8 :: r9 :: r10 :: r11 :: r12 :: r13 :: Γ) G) : Holds M w0 w (r13 :: r0 :: r1 :: r2 :: r3 :: r4 :: r5 :: r6 :: r7 :: r8 :: r9 :: r10 :: r11 :: r12 :: Γ) G := H.pull 13
theorem Holds.p16 (H : Holds M w0 w (r0 :: r1 :: r2 :: r3 :: r4 :: r5 :: r6 :: r7 :: r8 :: r9 :: r10 :: r11 :: r12 :: r13 :: r14 :: r15 :: r16 :: Γ) G) : Holds M w0 w (r16 :: r0 :: r1 :: r2 :: r3 :: r4 :: r5 :: r6 :: r7 :: r8 :: r9 :: r10 :: r11 :: r12 :: r13 :: r14 :: r15 :: Γ) G := H.pull 16
theorem Holds.p17 (H : Holds M w0 w (r0 :: r1 :: r2 :: r3 :: r4 :: r5 :: r6 :: r7 :: r8 :: r9 :: r10 :: r11 :: r12 :: r13 :: r14 :: r15 :: r16 :: r17 :: Γ) G) : Holds M w0 w (r17 :: r0 :: r1 :: r2 :: r3 :: r4 :: r5 :: r6 :: r7 :: r8 :: r9 :: r10 :: r11 :: r12 :: r13 :: r14 :: r15 :: r16 :: Γ) G := H.pull 17
theorem Holds.p18 (H : Holds M w0 w (r0 :: r1 :: r2 :: r3 :: r4 :: r5 :: r6 :: r7 :: r8 :: r9 :: r10 :: r11 :: r12 :: r13 :: r14 :: r15 :: r16 :: r17 :: r18 :: Γ) G) : Holds M w0 w (r18 :: r0 :: r1 :: r2 :: r3 :: r4 :: r5 :: r6 :: r7 :: r8 :: r9 :: r10 :: r11 :: r12 :: r13 :: r14 :: r15 :: r16 :: r17 :: Γ) G := H.pull 18
theorem Holds.p21 (H : Holds M w0 w (r0 :: r1 :: r2 :: r3 :: r4 :: r5 :: r6 :: r7 :: r8 :: r9 :: r10 :: r11 :: r12 :: r13 :: r14 :: r15 :: r16 :: r17 :: r18 :: r19 :: r20 :: r21 :: Γ) G) : Holds M w0 w (r21 :: r0 :: r1 :: r2 :: r3 :: r4 :: r5 :: r6 :: r7 :: r8 :: r9 :: r10 :: r11 :: r12 :: r13 :: r14 :: r15 :: r16 :: r17 :: r18 :: r19 :: r20 :: Γ) G := H.pull 21
theorem Holds.p22 (H : Holds M w0 w (r0 :: r1 :: r2 :: r3 :: r4 :: r5 :: r6 :: r7 :: r8 :: r9 :: r10 :: r11 :: r12 :: r13 :: r14 :: r15 :: r16 :: r17 :: r18 :: r19 :: r20 :: r21 :: r22 :: Γ) G) : Holds M w0 w (r22 :: r0 :: r1 :: r2 :: r3 :: r4 :: r5 :: r6 :: r7 :: r8 :: r9 :: r10 :: r11 :: r12 :: r13 :: r14 :: r15 :: r16 :: r17 :: r18 :: r19 :: r20 :: r21 :: Γ) G := H.pull 22
theorem Holds.p23 (H : Holds M w0 w (r0 :: r1 :: r2 :: r3 :: r4 :: r5 :: r6 :: r7 :: r8 :: r9 :: r10 :: r11 :: r12 :: r13 :: r14 :: r15 :: r16 :: r17 :: r18 :: r19 :: r20 :: r21 :: r22 :: r23 :: Γ) G) : Holds M w0 w (r23 :: r0 :: r1 :: r2 :: r3 :: r4 :: r5 :: r6 :: r7 :: r8 :: r9 :: r10 :: r11 :: r12 :: r13 :: r14 :: r15 :: r16 :: r17 :: r18 :: r19 :: r20 :: r21 :: r22 :: Γ) G := H.pull 23
theorem Holds.p24 (H : Holds M w0 w (r0 :: r1 :: r2 :: r3 :: r4 :: r5 :: r6 :: r7 :: r8 :: r9 :: r10 :: r11 :: r12 :: r13 :: r14 :: r15 :: r16 :: r17 :: r18 :: r19 :: r20 :: r21 :: r22 :: r23 :: r24 :: Γ) G) : Holds M w0 w (r24 :: r0 :: r1 :: r2 :: r3 :: r4 :: r5 :: r6 :: r7 :: r8 :: r9 :: r10 :: r11 :: r12 :: r13 :: r14 :: r15 :: r16 :: r17 :: r18 :: r19 :: r20 :: r21 :: r22 :: r23 :: Γ) G := H.pull 24
theorem Holds.p25 (H : Holds M w0 w (r0 :: r1 :: r2 :: r3 :: r4 :: r5 :: r6 :: r7 :: r8 :: r9 :: r10 :: r11 :: r12 :: r13 :: r14 :: r15 :: r16 :: r17 :: r18 :: r19 :: r20 :: r21 :: r22 :: r23 :: r24 :: r25 :: Γ) G) : Holds M w0 w (r25 :: r0 :: r1 :: r2 :: r3 :: r4 :: r5 :: r6 :: r7 :: r8 :: r9 :: r10 :: r11 :: r12 :: r13 :: r14 :: r15 :: r16 :: r17 :: r18 :: r19 :: r20 :: r21 :: r22 :: r23 :: r24 :: Γ) G := H.pull 25
theorem Holds.p26 (H : Holds M w0 w (r0 :: r1 :: r2 :: r3 :: r4 :: r5 :: r6 :: r7 :: r8 :: r9 :: r10 :: r11 :: r12 :: r13 :: r14 :: r15 :: r16 :: r17 :: r18 :: r19 :: r20 :: r21 :: r22 :: r23 :: r24 :: r25 :: r26 :: Γ) G) : Holds M w0 w (r26 :: r0 :: r1 :: r2 :: r3 :: r4 :: r5 :: r6 :: r7 :: r8 :: r9 :: r10 :: r11 :: r12 :: r13 :: r14 :: r15 :: r16 :: r17 :: r18 :: r19 :: r20 :: r21 :: r22 :: r23 :: r24 :: r25 :: Γ) G := H.pull 26
theorem Holds.p27 (H : Holds M w0 w (r0 :: r1 :: r2 :: r3 :: r4 :: r5 :: r6 :: r7 :: r8 :: r9 :: r10 :: r11 :: r12 :: r13 :: r14 :: r15 :: r16 :: r17 :: r18 :: r19 :: r20 :: r21 :: r22 :: r23 :: r24 :: r25 :: r26 :: r27 :: Γ) G) : Holds M w0 w (r27 :: r0 :: r1 :: r2 :: r3 :: r4 :: r5 :: r6 :: r7 :: r8 :: r9 :: r10 :: r11 :: r12 :: r13 :: r14 :: r15 :: r16 :: r17 :: r18 :: r19 :: r20 :: r21 :: r22 :: r23 :: r24 :: r25 :: r26 :: Γ) G := H.pull 27
theorem Holds.p28 (H : Holds M w0 w (r0 :: r1 :: r2 :: r3 :: r4 :: r5 :: r6 :: r7 :: r8 :: r9 :: r10 :: r11 :: r12 :: r13 :: r14 :: r15 :: r16 :: r17 :: r18 :: r19 :: r20 :: r21 :: r22 :: r23 :: r24 :: r25 :: r26 :: r27 :: r28 :: Γ) G) : Holds M w0 w (r28 :: r0 :: r1 :: r2 :: r3 :: r4 :: r5 :: r6 :: r7 :: r8 :: r9 :: r10 :: r11 :: r12 :: r13 :: r14 :: r15 :: r16 :: r17 :: r18 :: r19 :: r20 :: r21 :: r22 :: r23 :: r24 :: r25 :: r26 :: r27 :: Γ) G := H.pull 28
theorem Holds.p29 (H : Holds M w0 w (r0 :: r1 :: r2 :: r3 :: r4 :: r5 :: r6 :: r7 :: r8 :: r9 :: r10 :: r11 :: r12 :: r13 :: r14 :: r15 :: r16 :: r17 :: r18 :: r19 :: r20 :: r21 :: r22 :: r23 :: r24 :: r25 :: r26 :: r27 :: r28 :: r29 :: Γ) G) : Holds M w0 w (r29 :: r0 :: r1 :: r2 :: r3 :: r4 :: r5 :: r6 :: r7 :: r8 :: r9 :: r10 :: r11 :: r12 :: r13 :: r14 :: r15 :: r16 :: r17 :: r18 :: r19 :: r20 :: r21 :: r22 :: r23 :: r24 :: r25 :: r26 :: r27 :: r28 :: Γ) G := H.pull 29
theorem Holds.p30 (H : Holds M w0 w (r0 :: r1 :: r2 :: r3 :: r4 :: r5 :: r6 :: r7 :: r8 :: r9 :: r10 :: r11 :: r12 :: r13 :: r14 :: r15 :: r16 :: r17 :: r18 :: r19 :: r20 :: r21 :: r22 :: r23 :: r24 :: r25 :: r26 :: r27 :: r28 :: r29 :: r30 :: Γ) G) : Holds M w0 w (r30 :: r0 :: r1 :: r2 :: r3 :: r4 :: r5 :: r6 :: r7 :: r8 :: r9 :: r10 :: r11 :: r12 :: r13 :: r14 :: r15 :: r16 :: r17 :: r18 :: r19 :: r20 :: r21 :: r22 :: r23 :: r24 :: r25 :: r26 :: r27 :: r28 :: r29 :: Γ) G := H.pull 30
theorem Holds.p31 (H : Holds M w0 w (r0 :: r1 :: r2 :: r3 :: r4 :: r5 :: r6 :: r7 :: r8 :: r9 :: r10 :: r11 :: r12 :: r13 :: r14 :: r15 :: r16 :: r17 :: r18 :: r19 :: r20 :: r21 :: r22 :: r23 :: r24 :: r25 :: r26 :: r27 :: r28 :: r29 :: r30 :: r31 :: Γ) G) : Holds M w0 w (r31 :: r0 :: r1 :: r2 :: r3 :: r4 :: r5 :: r6 :: r7 :: r8 :: r9 :: r10 :: r11 :: r12 :: r13 :: r14 :: r15 :: r16 :: r17 :: r18 :: r19 :: r20 :: r21 :: r22 :: r23 :: r24 :: r25 :: r26 :: r27 :: r28 :: r29 :: r30 :: Γ) G := H.pull 31
theorem Holds.p32 (H : Holds M w0 w (r0 :: r1 :: r2 :: r3 :: r4 :: r5 :: r6 :: r7 :: r8 :: r9 :: r10 :: r11 :: r12 :: r13 :: r14 :: r15 :: r16 :: r17 :: r18 :: r19 :: r20 :: r21 :: r22 :: r23 :: r24 :: r25 :: r26 :: r27 :: r28 :: r29 :: r30 :: r31 :: r32 :: Γ) G) : Holds M w0 w (r32 :: r0 :: r1 :: r2 :: r3 :: r4 :: r5 :: r6 :: r7 :: r8 :: r9 :: r10 :: r11 :: r12 :: r13 :: r14 :: r15 :: r16 :: r17 :: r18 :: r19 :: r20 :: r21 :: r22 :: r23 :: r24 :: r25 :: r26 :: r27 :: r28 :: r29 :: r30 :: r31 :: Γ) G := H.pull 32
theorem Holds.p33 (H : Holds M w0 w (r0 :: r1 :: r2 :: r3 :: r4 :: r5 :: r6 :: r7 :: r8 :: r9 :: r10 :: r11 :: r12 :: r13 :: r14 :: r15 :: r16 :: r17 :: r18 :: r19 :: r20 :: r21 :: r22 :: r23 :: r24 :: r25 :: r26 :: r27 :: r28 :: r29 :: r30 :: r31 :: r32 :: r33 :: Γ) G) : Holds M w0 w (r33 :: r0 :: r1 :: r2 :: r3 :: r4 :: r5 :: r6 :: r7 :: r8 :: r9 :: r10 :: r11 :: r12 :: r13 :: r14 :: r15 :: r16 :: r17 :: r18 :: r19 :: r20 :: r21 :: r22 :: r23 :: r24 :: r25 :: r26 :: r27 :: r28 :: r29 :: r30 :: r31 :: r32 :: Γ) G := H.pull 33
end pulls
section facts
variable {M : List Nat} {w0 w w' : World} {Γ Γ' G Rs : List Res} {R R' : Res} {d d' : DT} {v : Value} {cs : List Value} {xs ys zs : List d.ty.den} {F : List Nat} {e : TypeId}
def SufP (e : TypeId) (d : DT) (v : Value) (cs : List Value) (xs : List d.ty.den) (i : Nat) (F : List Nat) (w : World) : Prop :=
 F.Nodup ∧ ∃ F', w.ownsRow 0 e d.ty.size v xs.length cs ∧ RepL (DRep w d) (cs.drop (i * d.ty.size)) (xs.drop i) F' ∧ F = v.ownBlock.toList ++ F'
theorem SufP.stab {i : Nat} : Stab F (SufP e d v cs xs i F) := fun w w' hA ⟨h0, F', h1, h2, h3⟩ =>
 ⟨h0, F', ownsRow_keep h1 (fun k hk => hA k (by rw [h3]; exact List.mem_append_left _ hk)), h2.imp (fun c x F'' hF hR => hR.keep fun k hk => hA k (by rw [h3]; exact List.mem_append_right _ (hF k hk))), h3⟩
def sufR (e : TypeId) (d : DT) (v : Value) (cs : List Value) (xs : List d.ty.den) (i : Nat) (F : List Nat) : Res := .op F (SufP e d v cs xs i F) SufP.stab
theorem Holds.suf (H : Holds M w0 w (dpR e d v cs xs F :: Γ) G) : Holds M w0 w (sufR e d v cs xs 0 F :: Γ) G := by
 obtain ⟨h0, hlo, hctx⟩ := H
 obtain ⟨S, L, h1, hs, ht, ha⟩ := hctx.cons_inv
 obtain ⟨hS, hlt, hn, F', g1, g2, g3⟩ := hs
 obtain ⟨a1, a2, a3⟩ := ha.cons_inv
 refine ⟨h0, fun R hR k hk => ?_, (sufR e d v cs xs 0 F, S) :: L, by simp [h1], ⟨⟨hS, hlt, hn, F', g1, by simpa using g2, g3⟩, ht⟩, .cons (fun g hg => a1 g hg) a2 a3⟩
 rcases List.mem_cons.1 hR with rfl | hR
 ·exact hlo _ List.mem_cons_self k hk
 ·exact hlo R (List.mem_cons_of_mem _ hR) k hk
theorem Holds.sufP {i : Nat} (H : Holds M w0 w (sufR e d v cs xs i F :: Γ) G) : SufP e d v cs xs i F w := by
 obtain ⟨S, L, h1, hs, _⟩ := H.ctx.cons_inv
 exact hs.2.2
theorem Holds.suf_at {i : Nat} {k : Int} {u : d.ty.den} (H : Holds M w0 w (sufR e d v cs xs i F :: Γ) G) (hg : geti xs k = some u) : ∃ b cap, v = .slice (some ⟨b, 0, none⟩) xs.length cap ∧ xs.length ≤ maxLen := by
 obtain ⟨_, F', ⟨_, h6⟩, _⟩ := H.sufP
 rcases h6 with ⟨h7, h8⟩ | ⟨g, cap', cur', h7, _, _, h8, h9, _⟩
 ·have := (geti_lt hg).2; omega
 ·exact ⟨_, _, h7, by omega⟩
theorem Holds.take {i : Nat} {e' : TypeId} {t' : Ty} {xs : List (List t'.den)} {u : List t'.den} {b o cap : Nat}
  (H : Holds M w0 w (sufR e (.sl e' (.leaf t')) v cs xs i F :: Γ) G) (hu : xs[i]? = some u) (hv : v = .slice (some ⟨b, o, none⟩) xs.length cap) :
  ∃ v' F2, w.cell? ⟨b, o + i * (Ty.slice t').size, none⟩ = some v' ∧ v'.cells = #[v'] ∧ v'.oneCell' = true ∧ Holds M w0 w (.sl e' t' v' u :: sufR e (.sl e' (.leaf t')) v cs xs (i + 1) F2 :: Γ) G := by
 obtain ⟨h0, hlo, hctx⟩ := H
 obtain ⟨S, L, h1, hs, ht, ha⟩ := hctx.cons_inv
 obtain ⟨hS, hlt, hn, F', g1, g2, g3⟩ := hs
 obtain ⟨a1, a2, a3⟩ := ha.cons_inv
 have hsz : (DT.sl e' (.leaf t')).ty.size = 1 := rfl
 rw [hsz, Nat.mul_one] at g2
 have hd : xs.drop i = u :: xs.drop (i + 1) := by
  obtain ⟨hi, rfl⟩ := List.getElem?_eq_some_iff.1 hu
  exact (List.drop_eq_getElem_cons hi)
 rw [show List.drop i (α := ((DT.sl e' (.leaf t')).ty).den) xs = u :: xs.drop (i + 1) from hd] at g2
 obtain ⟨c1, c2, F1, F2, h2, h3, h4, h5⟩ := g2
 obtain ⟨v', cells, Fz, rfl, i1, i2, i3⟩ := h4
 obtain ⟨j1, j2⟩ := leaf_rep i2
 subst j2
 rw [List.append_nil] at i3
 subst i3
 have hc : cs[i]? = some v' := by
  have := congrArg (fun l => l[0]?) h2
  simpa using this
 have hc2 : c2 = cs.drop (i + 1) := by
  have := congrArg (fun l => l.drop 1) h2
  simpa using this.symm
 subst hc2
 subst h3
 obtain ⟨rfl, cur, hgg, hnc, hcm, hcz, htk⟩ := ownsRow_at g1 hv
 have hcell := g1.cells (g := b) (by rw [hv]; rfl) _ _ hc
 rw [Addr.add_none] at hcell
 rw [g3] at hn
 have hsub : ∀ k ∈ v.ownBlock.toList ++ F2, k ∈ F := fun k hk => by
  rw [g3]
  simp only [List.mem_append] at hk ⊢
  rcases hk with hk | hk <;> simp [hk]
 have hsubm : ∀ k ∈ v'.ownBlock.toList, k ∈ F := fun k hk => by rw [g3]; simp only [List.mem_append]; simp [hk]
 simp only [List.nodup_append, List.mem_append] at hn
 obtain ⟨n1, ⟨n2, n3, n4⟩, n5⟩ := hn
 refine ⟨v', v.ownBlock.toList ++ F2, by simpa [Ty.size] using hcell, (ownsRow_one i1).2, (ownsRow_one i1).1, h0, fun R hR k hk => ?_, (.sl e' t' v' u, []) :: (sufR e (.sl e' (.leaf t')) v cs xs (i + 1) (v.ownBlock.toList ++ F2), []) :: L, by simp [h1], ⟨⟨cells, i1, j1⟩, ⟨rfl, fun k hk => hlt k (hsub k hk), ?_, F2, g1, by rw [hsz, Nat.mul_one]; exact h5, rfl⟩, ht⟩, ?_⟩
 ·rcases List.mem_cons.1 hR with rfl | hR
  ·exact hlo _ List.mem_cons_self k (hsubm k hk)
  ·rcases List.mem_cons.1 hR with rfl | hR
   ·exact hlo _ List.mem_cons_self k (hsub k hk)
   ·exact hlo R (by simp [hR]) k hk
 ·exact List.nodup_append.2 ⟨n1, n3, fun a ha b hb => n5 a ha b (.inr hb)⟩
 ·refine .cons (fun g hg => ?_) (fun k _ hk => by cases hk) (.cons (fun g hg => ?_) (fun k _ hk => by cases hk) a3)
  ·rcases List.mem_cons.1 hg with rfl | hg
   ·refine ⟨fun k hk hk' => ?_, (fun k _ hk => by cases hk), (fun k _ hk => by cases hk)⟩
    rcases List.mem_append.1 hk' with hk' | hk'
    ·exact n5 k hk' k (.inl hk) rfl
    ·exact n4 k hk k hk' rfl
   ·exact ⟨fun k hk hk' => (a1 g hg).1 k (hsubm k hk) hk', fun k hk hk' => (a1 g hg).2.1 k (hsubm k hk) hk', fun k _ hk => by cases hk⟩
  ·exact ⟨fun k hk hk' => (a1 g hg).1 k (hsub k hk) hk', fun k hk hk' => (a1 g hg).2.1 k (hsub k hk) hk', fun k _ hk => by cases hk⟩
end facts
section walk
variable {ops : Array Oper} {Q : Exit → Act → World → Prop} {n : Nat} {md : Md} {l : List Oper} {E : Env} {o : Oper} {ty : TypeId} {ps : String} {af : Array Edge} {g : Option (Nat × Bool)} {x y z : Operand} {T : TypeId} {w : World} {e : TypeId} {r : Nat} {α : Type} {xs : List α}
theorem XL_indexK {s : Nat} {k : Int} {kk : IntKind} {u : α} {b off cap : Nat} (hg : geti xs k = some u) (hT : P.underlying T = some (.slice e)) (hi : (P.info? e).map (·.size) = some s)
  (hw : wantedE ops E ⟨some r, .indexAddr T x y, ty, ps, af, g⟩ = some true) (hx : ev E x = some (.slice (some ⟨b, off, none⟩) xs.length cap)) (hy : ev E y = some (.int kk k)) (hn : Nat.blt r n = true)
  (h : XL P ops n md l ((r, .pointer (some ⟨b, off + k.toNat * s, none⟩)) :: E) w) : XL P ops n md (⟨some r, .indexAddr T x y, ty, ps, af, g⟩ :: l) E w := by
 have h0 := (geti_lt hg).1
 have hlt := (geti_lt hg).2
 obtain ⟨i, hi, hs⟩ := Option.map_eq_some_iff.1 hi
 refine XL_q (v := .pointer (some ⟨b, off + k.toNat * s, none⟩)) hw ?_ rfl hn h
 intro w' _ ρ hρ
 have hk : k < (xs.length : Int) := by omega
 simp [execOp, hρ x _ hx, hρ y _ hy, Instr.indexAt, asIntOf, run_underlying hT, h0, hk, sizeOf, typeInfo, hi, hs, Addr.add_none]
end walk
end Go.Proofs.YtkhnponakhabdaaGreatDoor
