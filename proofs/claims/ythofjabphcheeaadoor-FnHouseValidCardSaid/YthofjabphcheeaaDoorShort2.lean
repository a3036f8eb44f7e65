/- More short names for walks. Own work, over any program. -/
import Derived.Test.YthofjabphcheeaaDoorShort
set_option linter.unusedVariables false
namespace Go.Proofs.YthofjabphcheeaaDoor
open Go Go.RowKit
abbrev M0 : List Nat := ([] : List Res).flatMap Res.own
abbrev iV (n : Int) : Value := .int .i64 n
abbrev tI : Ty := .int .i64
section
variable {Γ : List Res} {t : Ty} {v : Value} {x : List t.den} {e : TypeId} {r0 r1 r2 r3 r4 r5 r6 r7 r8 r9 r10 r11 r12 r13 r14 r15 r16 r17 r18 r19 r20 r21 r22 r23 : Res}
theorem hS0 : Has (.sl e t v x :: Γ) t v x := Has.hd
theorem hO0 : HasRo (.ro t v x :: Γ) t v x := HasRo.hd
theorem hR0 : Has (.ro t v x :: Γ) t v x := HasRo.has hO0
theorem hS1 : Has (r0 :: .sl e t v x :: Γ) t v x := Has.c (Has.hd)
theorem hO1 : HasRo (r0 :: .ro t v x :: Γ) t v x := HasRo.c (HasRo.hd)
theorem hR1 : Has (r0 :: .ro t v x :: Γ) t v x := HasRo.has hO1
theorem hS2 : Has (r0 :: r1 :: .sl e t v x :: Γ) t v x := Has.c (Has.c (Has.hd))
theorem hO2 : HasRo (r0 :: r1 :: .ro t v x :: Γ) t v x := HasRo.c (HasRo.c (HasRo.hd))
theorem hR2 : Has (r0 :: r1 :: .ro t v x :: Γ) t v x := HasRo.has hO2
theorem hS3 : Has (r0 :: r1 :: r2 :: .sl e t v x :: Γ) t v x := Has.c (Has.c (Has.c (Has.hd)))
theorem hO3 : HasRo (r0 :: r1 :: r2 :: .ro t v x :: Γ) t v x := HasRo.c (HasRo.c (HasRo.c (HasRo.hd)))
theorem hR3 : Has (r0 :: r1 :: r2 :: .ro t v x :: Γ) t v x := HasRo.has hO3
theorem hS4 : Has (r0 :: r1 :: r2 :: r3 :: .sl e t v x :: Γ) t v x := Has.c (Has.c (Has.c (Has.c (Has.hd))))
theorem hO4 : HasRo (r0 :: r1 :: r2 :: r3 :: .ro t v x :: Γ) t v x := HasRo.c (HasRo.c (HasRo.c (HasRo.c (HasRo.hd))))
theorem hR4 : Has (r0 :: r1 :: r2 :: r3 :: .ro t v x :: Γ) t v x := HasRo.has hO4
theorem hS5 : Has (r0 :: r1 :: r2 :: r3 :: r4 :: .sl e t v x :: Γ) t v x := Has.c (Has.c (Has.c (Has.c (Has.c (Has.hd)))))
theorem hO5 : HasRo (r0 :: r1 :: r2 :: r3 :: r4 :: .ro t v x :: Γ) t v x := HasRo.c (HasRo.c (HasRo.c (HasRo.c (HasRo.c (HasRo.hd)))))
theorem hR5 : Has (r0 :: r1 :: r2 :: r3 :: r4 :: .ro t v x :: Γ) t v x := HasRo.has hO5
theorem hS6 : Has (r0 :: r1 :: r2 :: r3 :: r4 :: r5 :: .sl e t v x :: Γ) t v x := Has.c (Has.c (Has.c (Has.c (Has.c (Has.c (Has.hd))))))
theorem hO6 : HasRo (r0 :: r1 :: r2 :: r3 :: r4 :: r5 :: .ro t v x :: Γ) t v x := HasRo.c (HasRo.c (HasRo.c (HasRo.c (HasRo.c (HasRo.c (HasRo.hd))))))
theorem hR6 : Has (r0 :: r1 :: r2 :: r3 :: r4 :: r5 :: .ro t v x :: Γ) t v x := HasRo.has hO6
theorem hS7 : Has (r0 :: r1 :: r2 :: r3 :: r4 :: r5 :: r6 :: .sl e t v x :: Γ) t v x := Has.c (Has.c (Has.c (Has.c (Has.c (Has.c (Has.c (Has.hd)))))))
theorem hS8 : Has (r0 :: r1 :: r2 :: r3 :: r4 :: r5 :: r6 :: r7 :: .sl e t v x :: Γ) t v x := Has.c (Has.c (Has.c (Has.c (Has.c (Has.c (Has.c (Has.c (Has.hd))))))))
theorem hS9 : Has (r0 :: r1 :: r2 :: r3 :: r4 :: r5 :: r6 :: r7 :: r8 :: .sl e t v x :: Γ) t v x := Has.c (Has.c (Has.c (Has.c (Has.c (Has.c (Has.c (Has.c (Has.c (Has.hd)))))))))
theorem hS10 : Has (r0 :: r1 :: r2 :: r3 :: r4 :: r5 :: r6 :: r7 :: r8 :: r9 :: .sl e t v x :: Γ) t v x := Has.c (Has.c (Has.c (Has.c (Has.c (Has.c (Has.c (Has.c (Has.c (Has.c (Has.hd))))))))))
theorem hS11 : Has (r0 :: r1 :: r2 :: r3 :: r4 :: r5 :: r6 :: r7 :: r8 :: r9 :: r10 :: .sl e t v x :: Γ) t v x := Has.c (Has.c (Has.c (Has.c (Has.c (Has.c (Has.c (Has.c (Has.c (Has.c (Has.c (Has.hd)))))))))))
theorem hS12 : Has (r0 :: r1 :: r2 :: r3 :: r4 :: r5 :: r6 :: r7 :: r8 :: r9 :: r10 :: r11 :: .sl e t v x :: Γ) t v x := Has.c (Has.c (Has.c (Has.c (Has.c (Has.c (Has.c (Has.c (Has.c (Has.c (Has.c (Has.c (Has.hd))))))))))))
end
section
variable {E E' : Env} {k0 k1 k2 k3 k4 k5 k6 k7 k8 k9 k10 k11 k12 k13 k14 k15 k16 k17 k18 k19 k20 k21 k22 k23 k24 k25 k26 k27 k28 k29 k30 k31 : Nat} {u0 u1 u2 u3 u4 u5 u6 u7 u8 u9 u10 u11 u12 u13 u14 u15 u16 u17 u18 u19 u20 u21 u22 u23 u24 u25 u26 u27 u28 u29 u30 u31 : Value}
def noKey (E : Env) (k : Nat) : Bool := (lk E k).isNone
theorem noKey_of (h : noKey E k0 = true) : lk E k0 = none := by unfold noKey at h; cases hl : lk E k0 with | none => rfl | some u => rw [hl] at h; cases h
theorem cfn : ∀ (n : Nat) {E E' : Env}, ((E.take n).map (·.1)).all (noKey E') = true → Cov (E.drop n) E' → Cov E E'
  | 0, _, _, _, h => h
  | _ + 1, [], _, _, h => h
  | n + 1, (k, u) :: E, _, h, hE => by
    simp only [List.take_succ_cons, List.map_cons, List.all_cons, Bool.and_eq_true] at h
    exact Cov.fresh (noKey_of h.1) (cfn n h.2 hE)
end
section
variable {P : Program} {ops : Array Oper} {n : Nat} {E : Env} {o : Oper} {i : Nat} {w w1 : World} {Mid : Act → World → Prop} {S : World → Prop} {tl fuel : Nat} {listed : Array Bool}
theorem XN (hS : S w) (h : XC P ops n Mid S tl fuel (listed.setIfInBounds i true) E w) : XL P ops n (.seq (fun e a w' => e = .normal ∧ (i < tl → S w') ∧ wpAnyT P ops (fun e a w => e = .normal ∧ Mid a w) S tl fuel (listed.setIfInBounds i true) a w')) [] E w := WL_nil fun a ha => ⟨rfl, fun _ => hS, h a ha⟩
theorem XE (hi : Nat.ble tl i = true) (h : XC P ops n Mid S tl fuel (listed.setIfInBounds i true) E w) : XL P ops n (.seq (fun e a w' => e = .normal ∧ (i < tl → S w') ∧ wpAnyT P ops (fun e a w => e = .normal ∧ Mid a w) S tl fuel (listed.setIfInBounds i true) a w')) [] E w := WL_nil fun a ha => ⟨rfl, fun h' => by have := Nat.le_of_ble_eq_true hi; omega, h a ha⟩
theorem X1 (i : Nat) (hr : Region.ready .any ops listed = [i]) (hi : ops[i]? = some o)
    (h : XL P ops n (.seq (fun e a w' => e = .normal ∧ (i < tl → S w') ∧ wpAnyT P ops (fun e a w => e = .normal ∧ Mid a w) S tl fuel (listed.setIfInBounds i true) a w')) [o] E w) : XC P ops n Mid S tl (fuel + 1) listed E w := XC_all [i] hr (by simp) (allc (XC_do hi h) alln)
end
end Go.Proofs.YthofjabphcheeaaDoor
