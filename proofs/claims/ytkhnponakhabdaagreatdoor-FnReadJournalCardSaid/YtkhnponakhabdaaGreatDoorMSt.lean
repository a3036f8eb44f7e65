import Derived.Test.YtkhnponakhabdaaGreatDoorSuf
set_option linter.unusedVariables false
namespace Go.Proofs.YtkhnponakhabdaaGreatDoor
open Go Go.RowKit
variable {P : Program}
section
variable {ops : Array Oper} {Q : Exit → Act → World → Prop} {n : Nat} {md : Md} {l : List Oper} {E : Env} {w : World} {d : Nat} {v : Value} {x y z : Operand} {ty : TypeId} {ps : String} {af : Array Edge} {g : Option (Nat × Bool)} {o : Oper} {T S : TypeId}
theorem qM (hw : wantedE ops E ⟨some d, .move x, ty, ps, af, g⟩ = some true) (hx : ev E x = some v) (hn : Nat.blt d n = true) (h : XL P ops n md l ((d, v) :: E) w) : XL P ops n md (⟨some d, .move x, ty, ps, af, g⟩ :: l) E w := XL_q hw (qt_move hx) rfl hn h
theorem qA (hw : wantedE ops E ⟨some d, .assign x, ty, ps, af, g⟩ = some true) (hx : ev E x = some v) (hn : Nat.blt d n = true) (h : XL P ops n md l ((d, v) :: E) w) : XL P ops n md (⟨some d, .assign x, ty, ps, af, g⟩ :: l) E w := XL_q hw (qt_assign hx) rfl hn h
theorem qN {a : Addr} (hw : wantedE ops E ⟨some d, .nilCheck x, ty, ps, af, g⟩ = some true) (hx : ev E x = some (.pointer (some a))) (hn : Nat.blt d n = true) (h : XL P ops n md l ((d, .pointer (some a)) :: E) w) : XL P ops n md (⟨some d, .nilCheck x, ty, ps, af, g⟩ :: l) E w := XL_q hw (qt_nilCheck hx) rfl hn h
theorem qF {fs : Array Field} {i : Nat} {fo b o' : Nat} (hT : P.underlying S = some (.struct fs)) (hf : (fs[i]?).map (fun f => (f.type, f.offset)) = some (T, fo)) (hs : (P.info? T).map (fun i => Nat.beq i.size 0) = some false)
  (hw : wantedE ops E ⟨some d, .fieldAddr S x i, ty, ps, af, g⟩ = some true) (hx : ev E x = some (.pointer (some ⟨b, o', none⟩))) (hn : Nat.blt d n = true) (h : XL P ops n md l ((d, .pointer (some ⟨b, o' + fo, none⟩)) :: E) w) : XL P ops n md (⟨some d, .fieldAddr S x i, ty, ps, af, g⟩ :: l) E w := XL_q hw (qt_fieldAddr hT hf hs hx) rfl hn h
theorem qS {c b : Bool} (hw : wantedE ops E o = some (bif c then b else bif b then false else true)) (hc : c = !b) (hd : o.dst = some d) (hn : Nat.blt d n = true) (h : XL P ops n md l ((d, undef) :: E) w) : XL P ops n md (o :: l) E w := XL_skip (w_skip hw hc) hd hn h
theorem rR {id : Nat} {y : Code} (h : XL P l.toArray n (.seq (Exit.then (y.wp P Q) Q)) l E w) : WP P Q n (.seq (.region id l.toArray false) y) E w := WP_seq (WP_region h)
theorem rN {y : Code} {id : Nat} (h : XL P l.toArray n (.seq (Exit.then (y.wp P Q) Q)) l E w) : XL P ops n (.seq (Exit.then ((Code.seq (.region id l.toArray false) y).wp P Q) Q)) [] E w := WL_nil_seq (WP_seq (WP_region h))
end
section
variable {ops : Array Oper} {n : Nat} {E : Env} {o : Oper} {d i : Nat} {w : World} {Mid : Act → World → Prop} {S : World → Prop} {tl fuel : Nat} {listed : Array Bool}
def okT (ops : Array Oper) (listed : Array Bool) (tl i : Nat) : Bool := Region.noSelect ops && (Region.free .any ops listed i && ((Region.ready .any ops listed).contains i && tailB ops tl i))
theorem XT {v : Value} (hi : ops[i]? = some o) (hk : okT ops listed tl i = true) (hit : Nat.blt i tl = true) (hS : S w) (hw : wantedE ops E o = some true) (hq : QtS P o E S v) (hd : o.dst = some d) (hn : Nat.blt d n = true)
  (h : XC P ops n Mid S tl fuel (listed.setIfInBounds i true) ((d, v) :: E) w) : XC P ops n Mid S tl (fuel + 1) listed E w := by
 unfold okT at hk
 simp only [Bool.and_eq_true] at hk
 exact XC_take hi hk.1 hk.2.1 hk.2.2.1 hk.2.2.2 hit hS hw hq hd hn h
theorem XQ {v : Value} (hi : ops[i]? = some o) (hk : okT ops listed tl i = true) (hit : Nat.blt i tl = true) (hS : S w) (hw : wantedE ops E o = some true) (hq : ∀ w, Qt P o E w v) (hd : o.dst = some d) (hn : Nat.blt d n = true)
  (h : XC P ops n Mid S tl fuel (listed.setIfInBounds i true) ((d, v) :: E) w) : XC P ops n Mid S tl (fuel + 1) listed E w := XT hi hk hit hS hw (QtS.of hq) hd hn h
theorem XS {c b : Bool} (hi : ops[i]? = some o) (hk : okT ops listed tl i = true) (hit : Nat.blt i tl = true) (hS : S w) (hw : wantedE ops E o = some (bif c then b else bif b then false else true)) (hc : c = !b) (hd : o.dst = some d) (hn : Nat.blt d n = true)
  (h : XC P ops n Mid S tl fuel (listed.setIfInBounds i true) ((d, undef) :: E) w) : XC P ops n Mid S tl (fuel + 1) listed E w := by
 unfold okT at hk
 simp only [Bool.and_eq_true] at hk
 exact XC_skip hi hk.1 hk.2.1 hk.2.2.1 hk.2.2.2 hit hS (w_skip hw hc) hd hn h
end
section
variable {M : List Nat} {w0 w w' : World} {Γ Γv G Gv Rs : List Res} {r0 r1 r2 r3 r4 r5 r6 : Res}
theorem Holds.cN0 (Rs : List Res) (H : Holds M w0 w (Rs ++ Γ) G) (K : Holds (Rs.flatMap Res.own) w w' [] (Γ ++ G)) : Holds M w0 w' Γ G := H.calledN K
theorem Holds.cN1 (Rs : List Res) (H : Holds M w0 w (Rs ++ Γ) G) (K : Holds (Rs.flatMap Res.own) w w' [r0] (Γ ++ G)) : Holds M w0 w' (r0 :: Γ) G := H.calledN K
theorem Holds.cN2 (Rs : List Res) (H : Holds M w0 w (Rs ++ Γ) G) (K : Holds (Rs.flatMap Res.own) w w' [r0, r1] (Γ ++ G)) : Holds M w0 w' (r0 :: r1 :: Γ) G := H.calledN K
theorem Holds.cN3 (Rs : List Res) (H : Holds M w0 w (Rs ++ Γ) G) (K : Holds (Rs.flatMap Res.own) w w' [r0, r1, r2] (Γ ++ G)) : Holds M w0 w' (r0 :: r1 :: r2 :: Γ) G := H.calledN K
theorem Holds.cN4 (Rs : List Res) (H : Holds M w0 w (Rs ++ Γ) G) (K : Holds (Rs.flatMap Res.own) w w' [r0, r1, r2, r3] (Γ ++ G)) : Holds M w0 w' (r0 :: r1 :: r2 :: r3 :: Γ) G := H.calledN K
theorem Holds.cN5 (Rs : List Res) (H : Holds M w0 w (Rs ++ Γ) G) (K : Holds (Rs.flatMap Res.own) w w' [r0, r1, r2, r3, r4] (Γ ++ G)) : Holds M w0 w' (r0 :: r1 :: r2 :: r3 :: r4 :: Γ) G := H.calledN K
theorem Holds.cV0 (Rs : List Res) (H : Holds M w0 w (Rs ++ Γ) G) (K : Holds (Rs.flatMap Res.own) w w' [] Gv) (hp : ∀ R ∈ ([] : List Res), Pure R) : Holds M w0 w' Γ G := H.calledV K hp
theorem Holds.cV1 (Rs : List Res) (H : Holds M w0 w (Rs ++ Γ) G) (K : Holds (Rs.flatMap Res.own) w w' [r0] Gv) (hp : ∀ R ∈ [r0], Pure R) : Holds M w0 w' (r0 :: Γ) G := H.calledV K hp
theorem Holds.cV4 (Rs : List Res) (H : Holds M w0 w (Rs ++ Γ) G) (K : Holds (Rs.flatMap Res.own) w w' [r0, r1, r2, r3] Gv) (hp : ∀ R ∈ [r0, r1, r2, r3], Pure R) : Holds M w0 w' (r0 :: r1 :: r2 :: r3 :: Γ) G := H.calledV K hp
theorem Holds.nS (e : TypeId) (t : Ty) (H : Holds M w0 w Γ G) : Holds M w0 w (.sl e t (.slice none 0 0) [] :: Γ) G := H.nilSl
theorem Holds.nD (e : TypeId) (d : DT) (H : Holds M w0 w Γ G) : Holds M w0 w (dpR e d (.slice none 0 0) [] [] [] :: Γ) G := H.nilDp
theorem Vw.d {e : TypeId} {d : DT} {v : Value} {cs : List Value} {xs : List d.ty.den} {F : List Nat} (h : Vw Γ Γv) : Vw (dpR e d v cs xs F :: Γ) (.ro d.ty v xs :: Γv) := Vw.dp (NsOk.self NsOk.nil) h
end
theorem QC {ops : Array Oper} {n : Nat} {l : List Oper} {E : Env} {w : World} {K : Act → Prop} {d : Nat} {f : FuncId} {args : List Operand} {vs : List Value} {tys : Array TypeId} {ty : TypeId} {ps : String} {af : Array Edge} {g : Option (Nat × Bool)} {v : Value} {G : List Res}
  (hw : wantedE ops E ⟨some d, .call ⟨.value (.func f), args.toArray, tys⟩, ty, ps, af, g⟩ = some true) (hvs : evs E args = some vs)
  (hf : Callable P f) (hc : ∀ w', Below w.heap.size w w' → Calls P f vs.toArray w' (fun e w'' => e = .returned v ∧ Holds (([] : List Res).flatMap Res.own) w' w'' [] G)) (hn : Nat.blt d n = true) (h : XL P ops n (.quiet K) l ((d, v) :: E) w) :
  XL P ops n (.quiet K) (⟨some d, .call ⟨.value (.func f), args.toArray, tys⟩, ty, ps, af, g⟩ :: l) E w :=
 QL_call hw hvs hf (fun w' hb => (hc w' hb).mono fun e w'' hK => ⟨hK.1, hK.2.bel⟩) hn h
end Go.Proofs.YtkhnponakhabdaaGreatDoor
set_option linter.unusedVariables false
namespace Go.Proofs.YtkhnponakhabdaaGreatDoor
open Go Go.RowKit
abbrev M0 : List Nat := ([] : List Res).flatMap Res.own
abbrev iV (n : Int) : Value := .int .i64 n
abbrev tI : Ty := .int .i64
section
variable {Γ : List Res} {t : Ty} {v : Value} {x : List t.den} {e : TypeId} {r0 r1 r2 r3 r4 r5 r6 r7 r8 r9 r10 r11 r12 r13 r14 r15 r16 r17 r18 r19 r20 r21 r22 r23 : Res}
theorem hS0 : Has (.sl e t v x :: Γ) t v x := Has.hd
theorem hO0 : HasRo (.ro t v x :: Γ) t v x := HasRo.hd
theorem hR0 : Has (.ro t v x :: Γ) t v x := HasRo.has hO0
theorem hS1 : Has (r0 :: .sl e t v x :: Γ) t v x := Has.c (Has.hd)
theorem hO1 : HasRo (r0 :: .ro t v x :: Γ) t v x := HasRo.c (HasRo.hd)
theorem hR1 : Has (r0 :: .ro t v x :: Γ) t v x := HasRo.has hO1
theorem hS2 : Has (r0 :: r1 :: .sl e t v x :: Γ) t v x := Has.c (Has.c (Has.hd))
theorem hO2 : HasRo (r0 :: r1 :: .ro t v x :: Γ) t v x := HasRo.c (HasRo.c (HasRo.hd))
theorem hR2 : Has (r0 :: r1 :: .ro t v x :: Γ) t v x := HasRo.has hO2
theorem hS3 : Has (r0 :: r1 :: r2 :: .sl e t v x :: Γ) t v x := Has.c (Has.c (Has.c (Has.hd)))
theorem hO3 : HasRo (r0 :: r1 :: r2 :: .ro t v x :: Γ) t v x := HasRo.c (HasRo.c (HasRo.c (HasRo.hd)))
theorem hR3 : Has (r0 :: r1 :: r2 :: .ro t v x :: Γ) t v x := HasRo.has hO3
theorem hS4 : Has (r0 :: r1 :: r2 :: r3 :: .sl e t v x :: Γ) t v x := Has.c (Has.c (Has.c (Has.c (Has.hd))))
theorem hO4 : HasRo (r0 :: r1 :: r2 :: r3 :: .ro t v x :: Γ) t v x := HasRo.c (HasRo.c (HasRo.c (HasRo.c (HasRo.hd))))
theorem hR4 : Has (r0 :: r1 :: r2 :: r3 :: .ro t v x :: Γ) t v x := HasRo.has hO4
theorem hS5 : Has (r0 :: r1 :: r2 :: r3 :: r4 :: .sl e t v x :: Γ) t v x := Has.c (Has.c (Has.c (Has.c (Has.c (Has.hd)))))
theorem hO5 : HasRo (r0 :: r1 :: r2 :: r3 :: r4 :: .ro t v x :: Γ) t v x := HasRo.c (HasRo.c (HasRo.c (HasRo.c (HasRo.c (HasRo.hd)))))
theorem hR5 : Has (r0 :: r1 :: r2 :: r3 :: r4 :: .ro t v x :: Γ) t v x := HasRo.has hO5
theorem hS6 : Has (r0 :: r1 :: r2 :: r3 :: r4 :: r5 :: .sl e t v x :: Γ) t v x := Has.c (Has.c (Has.c (Has.c (Has.c (Has.c (Has.hd))))))
theorem hO6 : HasRo (r0 :: r1 :: r2 :: r3 :: r4 :: r5 :: .ro t v x :: Γ) t v x := HasRo.c (HasRo.c (HasRo.c (HasRo.c (HasRo.c (HasRo.c (HasRo.hd))))))
theorem hR6 : Has (r0 :: r1 :: r2 :: r3 :: r4 :: r5 :: .ro t v x :: Γ) t v x := HasRo.has hO6
theorem hS7 : Has (r0 :: r1 :: r2 :: r3 :: r4 :: r5 :: r6 :: .sl e t v x :: Γ) t v x := Has.c (Has.c (Has.c (Has.c (Has.c (Has.c (Has.c (Has.hd)))))))
theorem hO7 : HasRo (r0 :: r1 :: r2 :: r3 :: r4 :: r5 :: r6 :: .ro t v x :: Γ) t v x := HasRo.c (HasRo.c (HasRo.c (HasRo.c (HasRo.c (HasRo.c (HasRo.c (HasRo.hd)))))))
theorem hR7 : Has (r0 :: r1 :: r2 :: r3 :: r4 :: r5 :: r6 :: .ro t v x :: Γ) t v x := HasRo.has hO7
theorem hS8 : Has (r0 :: r1 :: r2 :: r3 :: r4 :: r5 :: r6 :: r7 :: .sl e t v x :: Γ) t v x := Has.c (Has.c (Has.c (Has.c (Has.c (Has.c (Has.c (Has.c (Has.hd))))))))
theorem hO8 : HasRo (r0 :: r1 :: r2 :: r3 :: r4 :: r5 :: r6 :: r7 :: .ro t v x :: Γ) t v x := HasRo.c (HasRo.c (HasRo.c (HasRo.c (HasRo.c (HasRo.c (HasRo.c (HasRo.c (HasRo.hd))))))))
theorem hR8 : Has (r0 :: r1 :: r2 :: r3 :: r4 :: r5 :: r6 :: r7 :: .ro t v x :: Γ) t v x := HasRo.has hO8
theorem hS9 : Has (r0 :: r1 :: r2 :: r3 :: r4 :: r5 :: r6 :: r7 :: r8 :: .sl e t v x :: Γ) t v x := Has.c (Has.c (Has.c (Has.c (Has.c (Has.c (Has.c (Has.c (Has.c (Has.hd)))))))))
theorem hO9 : HasRo (r0 :: r1 :: r2 :: r3 :: r4 :: r5 :: r6 :: r7 :: r8 :: .ro t v x :: Γ) t v x := HasRo.c (HasRo.c (HasRo.c (HasRo.c (HasRo.c (HasRo.c (HasRo.c (HasRo.c (HasRo.c (HasRo.hd)))))))))
theorem hR9 : Has (r0 :: r1 :: r2 :: r3 :: r4 :: r5 :: r6 :: r7 :: r8 :: .ro t v x :: Γ) t v x := HasRo.has hO9
theorem hS10 : Has (r0 :: r1 :: r2 :: r3 :: r4 :: r5 :: r6 :: r7 :: r8 :: r9 :: .sl e t v x :: Γ) t v x := Has.c (Has.c (Has.c (Has.c (Has.c (Has.c (Has.c (Has.c (Has.c (Has.c (Has.hd))))))))))
theorem hO10 : HasRo (r0 :: r1 :: r2 :: r3 :: r4 :: r5 :: r6 :: r7 :: r8 :: r9 :: .ro t v x :: Γ) t v x := HasRo.c (HasRo.c (HasRo.c (HasRo.c (HasRo.c (HasRo.c (HasRo.c (HasRo.c (HasRo.c (HasRo.c (HasRo.hd))))))))))
theorem hR10 : Has (r0 :: r1 :: r2 :: r3 :: r4 :: r5 :: r6 :: r7 :: r8 :: r9 :: .ro t v x :: Γ) t v x := HasRo.has hO10
theorem hS11 : Has (r0 :: r1 :: r2 :: r3 :: r4 :: r5 :: r6 :: r7 :: r8 :: r9 :: r10 :: .sl e t v x :: Γ) t v x := Has.c (Has.c (Has.c (Has.c (Has.c (Has.c (Has.c (Has.c (Has.c (Has.c (Has.c (Has.hd)))))))))))
theorem hO11 : HasRo (r0 :: r1 :: r2 :: r3 :: r4 :: r5 :: r6 :: r7 :: r8 :: r9 :: r10 :: .ro t v x :: Γ) t v x := HasRo.c (HasRo.c (HasRo.c (HasRo.c (HasRo.c (HasRo.c (HasRo.c (HasRo.c (HasRo.c (HasRo.c (HasRo.c (HasRo.hd)))))))))))
theorem hR11 : Has (r0 :: r1 :: r2 :: r3 :: r4 :: r5 :: r6 :: r7 :: r8 :: r9 :: r10 :: .ro t v x :: Γ) t v x := HasRo.has hO11
theorem hS12 : Has (r0 :: r1 :: r2 :: r3 :: r4 :: r5 :: r6 :: r7 :: r8 :: r9 :: r10 :: r11 :: .sl e t v x :: Γ) t v x := Has.c (Has.c (Has.c (Has.c (Has.c (Has.c (Has.c (Has.c (Has.c (Has.c (Has.c (Has.c (Has.hd))))))))))))
theorem hO12 : HasRo (r0 :: r1 :: r2 :: r3 :: r4 :: r5 :: r6 :: r7 :: r8 :: r9 :: r10 :: r11 :: .ro t v x :: Γ) t v x := HasRo.c (HasRo.c (HasRo.c (HasRo.c (HasRo.c (HasRo.c (HasRo.c (HasRo.c (HasRo.c (HasRo.c (HasRo.c (HasRo.c (HasRo.hd))))))))))))
theorem hR12 : Has (r0 :: r1 :: r2 :: r3 :: r4 :: r5 :: r6 :: r7 :: r8 :: r9 :: r10 :: r11 :: .ro t v x :: Γ) t v x := HasRo.has hO12
theorem hO13 : HasRo (r0 :: r1 :: r2 :: r3 :: r4 :: r5 :: r6 :: r7 :: r8 :: r9 :: r10 :: r11 :: r12 :: .ro t v x :: Γ) t v x := HasRo.c (HasRo.c (HasRo.c (HasRo.c (HasRo.c (HasRo.c (HasRo.c (HasRo.c (HasRo.c (HasRo.c (HasRo.c (HasRo.c (HasRo.c (HasRo.hd)))))))))))))
theorem hR13 : Has (r0 :: r1 :: r2 :: r3 :: r4 :: r5 :: r6 :: r7 :: r8 :: r9 :: r10 :: r11 :: r12 :: .ro t v x :: Γ) t v x := HasRo.has hO13
theorem hO14 : HasRo (r0 :: r1 :: r2 :: r3 :: r4 :: r5 :: r6 :: r7 :: r8 :: r9 :: r10 :: r11 :: r12 :: r13 :: .ro t v x :: Γ) t v x := HasRo.c (HasRo.c (HasRo.c (HasRo.c (HasRo.c (HasRo.c (HasRo.c (HasRo.c (HasRo.c (HasRo.c (HasRo.c (HasRo.c (HasRo.c (HasRo.c (HasRo.hd))))))))))))))
theorem hR14 : Has (r0 :: r1 :: r2 :: r3 :: r4 :: r5 :: r6 :: r7 :: r8 :: r9 :: r10 :: r11 :: r12 :: r13 :: .ro t v x :: Γ) t v x := HasRo.has hO14
theorem hO15 : HasRo (r0 :: r1 :: r2 :: r3 :: r4 :: r5 :: r6 :: r7 :: r8 :: r9 :: r10 :: r11 :: r12 :: r13 :: r14 :: .ro t v x :: Γ) t v x := HasRo.c (HasRo.c (HasRo.c (HasRo.c (HasRo.c (HasRo.c (HasRo.c (HasRo.c (HasRo.c (HasRo.c (HasRo.c (HasRo.c (HasRo.c (HasRo.c (HasRo.c (HasRo.hd)))))))))))))))
theorem hR15 : Has (r0 :: r1 :: r2 :: r3 :: r4 :: r5 :: r6 :: r7 :: r8 :: r9 :: r10 :: r11 :: r12 :: r13 :: r14 :: .ro t v x :: Γ) t v x := HasRo.has hO15
theorem hO16 : HasRo (r0 :: r1 :: r2 :: r3 :: r4 :: r5 :: r6 :: r7 :: r8 :: r9 :: r10 :: r11 :: r12 :: r13 :: r14 :: r15 :: .ro t v x :: Γ) t v x := HasRo.c (HasRo.c (HasRo.c (HasRo.c (HasRo.c (HasRo.c (HasRo.c (HasRo.c (HasRo.c (HasRo.c (HasRo.c (HasRo.c (HasRo.c (HasRo.c (HasRo.c (HasRo.c (HasRo.hd))))))))))))))))
theorem hR16 : Has (r0 :: r1 :: r2 :: r3 :: r4 :: r5 :: r6 :: r7 :: r8 :: r9 :: r10 :: r11 :: r12 :: r13 :: r14 :: r15 :: .ro t v x :: Γ) t v x := HasRo.has hO16
theorem hO18 : HasRo (r0 :: r1 :: r2 :: r3 :: r4 :: r5 :: r6 :: r7 :: r8 :: r9 :: r10 :: r11 :: r12 :: r13 :: r14 :: r15 :: r16 :: r17 :: .ro t v x :: Γ) t v x := HasRo.c (HasRo.c (HasRo.c (HasRo.c (HasRo.c (HasRo.c (HasRo.c (HasRo.c (HasRo.c (HasRo.c (HasRo.c (HasRo.c (HasRo.c (HasRo.c (HasRo.c (HasRo.c (HasRo.c (HasRo.c (HasRo.hd))))))))))))))))))
end
section
variable {E E' : Env} {k0 k1 k2 k3 k4 k5 k6 k7 k8 k9 k10 k11 k12 k13 k14 k15 k16 k17 k18 k19 k20 k21 k22 k23 k24 k25 k26 k27 k28 k29 k30 k31 : Nat} {u0 u1 u2 u3 u4 u5 u6 u7 u8 u9 u10 u11 u12 u13 u14 u15 u16 u17 u18 u19 u20 u21 u22 u23 u24 u25 u26 u27 u28 u29 u30 u31 : Value}
def noKey (E : Env) (k : Nat) : Bool := (lk E k).isNone
theorem noKey_of (h : noKey E k0 = true) : lk E k0 = none := by unfold noKey at h; cases hl : lk E k0 with | none => rfl | some u => rw [hl] at h; cases h
theorem cfn : ∀ (n : Nat) {E E' : Env}, ((E.take n).map (·.1)).all (noKey E') = true → Cov (E.drop n) E' → Cov E E'
 | 0, _, _, _, h => h
 | _ + 1, [], _, _, h => h
 | n + 1, (k, u) :: E, _, h, hE => by
  simp only [List.take_succ_cons, List.map_cons, List.all_cons, Bool.and_eq_true] at h
  exact Cov.fresh (noKey_of h.1) (cfn n h.2 hE)
end
section
variable {P : Program} {ops : Array Oper} {n : Nat} {E : Env} {o : Oper} {i : Nat} {w w1 : World} {Mid : Act → World → Prop} {S : World → Prop} {tl fuel : Nat} {listed : Array Bool}
theorem XN (hS : S w) (h : XC P ops n Mid S tl fuel (listed.setIfInBounds i true) E w) : XL P ops n (.seq (fun e a w' => e = .normal ∧ (i < tl → S w') ∧ wpAnyT P ops (fun e a w => e = .normal ∧ Mid a w) S tl fuel (listed.setIfInBounds i true) a w')) [] E w := WL_nil fun a ha => ⟨rfl, fun _ => hS, h a ha⟩
theorem XE (hi : Nat.ble tl i = true) (h : XC P ops n Mid S tl fuel (listed.setIfInBounds i true) E w) : XL P ops n (.seq (fun e a w' => e = .normal ∧ (i < tl → S w') ∧ wpAnyT P ops (fun e a w => e = .normal ∧ Mid a w) S tl fuel (listed.setIfInBounds i true) a w')) [] E w := WL_nil fun a ha => ⟨rfl, fun h' => by have := Nat.le_of_ble_eq_true hi; omega, h a ha⟩
theorem X1 (i : Nat) (hr : Region.ready .any ops listed = [i]) (hi : ops[i]? = some o)
  (h : XL P ops n (.seq (fun e a w' => e = .normal ∧ (i < tl → S w') ∧ wpAnyT P ops (fun e a w => e = .normal ∧ Mid a w) S tl fuel (listed.setIfInBounds i true) a w')) [o] E w) : XC P ops n Mid S tl (fuel + 1) listed E w := XC_all [i] hr (by simp) (allc (XC_do hi h) alln)
structure XD (P : Program) (ops : Array Oper) (n : Nat) (Mid : Act → World → Prop) (S : World → Prop) (tl fuel : Nat) (listed : Array Bool) (E : Env) (w : World) (i : Nat) : Prop where
 out : ∀ a, Fr a n E → wpOp P ops (fun e a w => e = .normal ∧ Mid a w) i (fun a' w' => (i < tl → S w') ∧ wpAnyT P ops (fun e a w => e = .normal ∧ Mid a w) S tl fuel (listed.setIfInBounds i true) a' w') a w
theorem XV (rs : List Nat) (hr : Region.ready .any ops listed = rs) (hne : rs.isEmpty = false) (h : ∀ i ∈ rs, XD P ops n Mid S tl fuel listed E w i) : XC P ops n Mid S tl (fuel + 1) listed E w := XC_all rs hr (by intro h0; subst h0; cases hne) (fun i hi => (h i hi).out)
theorem XDo (i : Nat) (hi : ops[i]? = some o)
  (h : XL P ops n (.seq (fun e a w' => e = .normal ∧ (i < tl → S w') ∧ wpAnyT P ops (fun e a w => e = .normal ∧ Mid a w) S tl fuel (listed.setIfInBounds i true) a w')) [o] E w) : XD P ops n Mid S tl fuel listed E w i := ⟨XC_do hi h⟩
end
end Go.Proofs.YtkhnponakhabdaaGreatDoor
set_option linter.unusedVariables false
namespace Go.Proofs.YtkhnponakhabdaaGreatDoor
open Go Go.RowKit
theorem q.{u} {α : Sort u} {a : α} : a = a := rfl
abbrev nS : Value := .slice none 0 0
abbrev pB (b : Nat) : Value := .pointer (some ⟨b, 0, none⟩)
theorem L : type_of% @Option.some.inj := @Option.some.inj
theorem B : type_of% @WL_nil_seq := @WL_nil_seq
theorem D : type_of% @bind_some := @bind_some
theorem C : type_of% @WP_seq := @WP_seq
theorem R : type_of% @Holds.bx := @Holds.bx
theorem l : type_of% @XL_load_bx := @XL_load_bx
theorem y : type_of% @WP_skip_seq := @WP_skip_seq
theorem Z : type_of% @WP_region := @WP_region
theorem J : type_of% @w_take := @w_take
theorem zb : type_of% @Holds.startN := @Holds.startN
theorem X : type_of% @nrm_seq := @nrm_seq
theorem S : type_of% @WP.app := @WP.app
theorem T : type_of% @allOne := @allOne
theorem p : type_of% @Cov.same := @Cov.same
theorem u : type_of% @Cov.refl := @Cov.refl
theorem Y : type_of% @WP_cond := @WP_cond
theorem b : type_of% @XL_indexH := @XL_indexH
theorem m : type_of% @ret_seq := @ret_seq
theorem W : type_of% @WP_ret := @WP_ret
theorem zl : type_of% @WL_store_bxA := @WL_store_bxA
theorem g : type_of% @WP_block := @WP_block
theorem zn : type_of% @exit_block_eq := @exit_block_eq
theorem zm : type_of% @XL_load_bxA := @XL_load_bxA
theorem zi : type_of% @nrm_block := @nrm_block
theorem zc : type_of% @all_cons := @all_cons
theorem zj : type_of% @ret_block := @ret_block
theorem zp : type_of% @wp_loop_fix := @wp_loop_fix
theorem ze : type_of% @qt_pickT := @qt_pickT
theorem zf : type_of% @qt_pickF := @qt_pickF
theorem zk : type_of% @WP_still := @WP_still
theorem zd : type_of% @WL_call := @WL_call
theorem zs : type_of% @WL_buildH := @WL_buildH
theorem zz : type_of% @getE_of_geti := @getE_of_geti
theorem zw : type_of% @WL_appendH := @WL_appendH
theorem zq : type_of% @WL_alloc := @WL_alloc
theorem zv : type_of% @qt_extract := @qt_extract
theorem zx : type_of% @List.mem_append_right := @List.mem_append_right
theorem A : type_of% @XL_q := @XL_q
theorem zg : type_of% @calls_enter := @calls_enter
theorem zo : type_of% @exit_seq := @exit_seq
end Go.Proofs.YtkhnponakhabdaaGreatDoor
