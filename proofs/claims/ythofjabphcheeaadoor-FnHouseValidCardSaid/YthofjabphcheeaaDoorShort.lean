/- Short names for what comes often in walks. Own work, over any program. -/
import Derived.Test.YthofjabphcheeaaDoorSuf
set_option linter.unusedVariables false
namespace Go.Proofs.YthofjabphcheeaaDoor
open Go Go.RowKit
variable {P : Program}
section
variable {ops : Array Oper} {Q : Exit → Act → World → Prop} {n : Nat} {md : Md} {l : List Oper} {E : Env} {w : World} {d : Nat} {v : Value} {x y z : Operand} {ty : TypeId} {ps : String} {af : Array Edge} {g : Option (Nat × Bool)} {o : Oper} {T S : TypeId}
theorem qM (hw : wantedE ops E ⟨some d, .move x, ty, ps, af, g⟩ = some true) (hx : ev E x = some v) (hn : Nat.blt d n = true) (h : XL P ops n md l ((d, v) :: E) w) : XL P ops n md (⟨some d, .move x, ty, ps, af, g⟩ :: l) E w := XL_q hw (qt_move hx) rfl hn h
theorem qA (hw : wantedE ops E ⟨some d, .assign x, ty, ps, af, g⟩ = some true) (hx : ev E x = some v) (hn : Nat.blt d n = true) (h : XL P ops n md l ((d, v) :: E) w) : XL P ops n md (⟨some d, .assign x, ty, ps, af, g⟩ :: l) E w := XL_q hw (qt_assign hx) rfl hn h
theorem qN {a : Addr} (hw : wantedE ops E ⟨some d, .nilCheck x, ty, ps, af, g⟩ = some true) (hx : ev E x = some (.pointer (some a))) (hn : Nat.blt d n = true) (h : XL P ops n md l ((d, .pointer (some a)) :: E) w) : XL P ops n md (⟨some d, .nilCheck x, ty, ps, af, g⟩ :: l) E w := XL_q hw (qt_nilCheck hx) rfl hn h
theorem qF {fs : Array Field} {i : Nat} {fo b o' : Nat} (hT : P.underlying S = some (.struct fs)) (hf : (fs[i]?).map (fun f => (f.type, f.offset)) = some (T, fo)) (hs : (P.info? T).map (fun i => Nat.beq i.size 0) = some false)
    (hw : wantedE ops E ⟨some d, .fieldAddr S x i, ty, ps, af, g⟩ = some true) (hx : ev E x = some (.pointer (some ⟨b, o', none⟩))) (hn : Nat.blt d n = true) (h : XL P ops n md l ((d, .pointer (some ⟨b, o' + fo, none⟩)) :: E) w) : XL P ops n md (⟨some d, .fieldAddr S x i, ty, ps, af, g⟩ :: l) E w := XL_q hw (qt_fieldAddr hT hf hs hx) rfl hn h
theorem qS {c b : Bool} (hw : wantedE ops E o = some (bif c then b else bif b then false else true)) (hc : c = !b) (hd : o.dst = some d) (hn : Nat.blt d n = true) (h : XL P ops n md l ((d, undef) :: E) w) : XL P ops n md (o :: l) E w := XL_skip (w_skip hw hc) hd hn h
theorem rR {id : Nat} {y : Code} (h : XL P l.toArray n (.seq (Exit.then (y.wp P Q) Q)) l E w) : WP P Q n (.seq (.region id l.toArray false) y) E w := WP_seq (WP_region h)
theorem rN {y : Code} {id : Nat} (h : XL P l.toArray n (.seq (Exit.then (y.wp P Q) Q)) l E w) : XL P ops n (.seq (Exit.then ((Code.seq (.region id l.toArray false) y).wp P Q) Q)) [] E w := WL_nil_seq (WP_seq (WP_region h))
end
section
variable {ops : Array Oper} {n : Nat} {E : Env} {o : Oper} {d i : Nat} {w : World} {Mid : Act → World → Prop} {S : World → Prop} {tl fuel : Nat} {listed : Array Bool}
def okT (ops : Array Oper) (listed : Array Bool) (tl i : Nat) : Bool := Region.noSelect ops && (Region.free .any ops listed i && ((Region.ready .any ops listed).contains i && tailB ops tl i))
theorem XT {v : Value} (hi : ops[i]? = some o) (hk : okT ops listed tl i = true) (hit : Nat.blt i tl = true) (hS : S w) (hw : wantedE ops E o = some true) (hq : QtS P o E S v) (hd : o.dst = some d) (hn : Nat.blt d n = true)
    (h : XC P ops n Mid S tl fuel (listed.setIfInBounds i true) ((d, v) :: E) w) : XC P ops n Mid S tl (fuel + 1) listed E w := by
  unfold okT at hk
  simp only [Bool.and_eq_true] at hk
  exact XC_take hi hk.1 hk.2.1 hk.2.2.1 hk.2.2.2 hit hS hw hq hd hn h
theorem XQ {v : Value} (hi : ops[i]? = some o) (hk : okT ops listed tl i = true) (hit : Nat.blt i tl = true) (hS : S w) (hw : wantedE ops E o = some true) (hq : ∀ w, Qt P o E w v) (hd : o.dst = some d) (hn : Nat.blt d n = true)
    (h : XC P ops n Mid S tl fuel (listed.setIfInBounds i true) ((d, v) :: E) w) : XC P ops n Mid S tl (fuel + 1) listed E w := XT hi hk hit hS hw (QtS.of hq) hd hn h
theorem XS {c b : Bool} (hi : ops[i]? = some o) (hk : okT ops listed tl i = true) (hit : Nat.blt i tl = true) (hS : S w) (hw : wantedE ops E o = some (bif c then b else bif b then false else true)) (hc : c = !b) (hd : o.dst = some d) (hn : Nat.blt d n = true)
    (h : XC P ops n Mid S tl fuel (listed.setIfInBounds i true) ((d, undef) :: E) w) : XC P ops n Mid S tl (fuel + 1) listed E w := by
  unfold okT at hk
  simp only [Bool.and_eq_true] at hk
  exact XC_skip hi hk.1 hk.2.1 hk.2.2.1 hk.2.2.2 hit hS (w_skip hw hc) hd hn h
end
section
variable {M : List Nat} {w0 w w' : World} {Γ Γv G Gv Rs : List Res} {r0 r1 r2 r3 r4 r5 r6 : Res}
theorem Holds.cN0 (Rs : List Res) (H : Holds M w0 w (Rs ++ Γ) G) (K : Holds (Rs.flatMap Res.own) w w' [] (Γ ++ G)) : Holds M w0 w' Γ G := H.calledN K
theorem Holds.cN1 (Rs : List Res) (H : Holds M w0 w (Rs ++ Γ) G) (K : Holds (Rs.flatMap Res.own) w w' [r0] (Γ ++ G)) : Holds M w0 w' (r0 :: Γ) G := H.calledN K
theorem Holds.cN2 (Rs : List Res) (H : Holds M w0 w (Rs ++ Γ) G) (K : Holds (Rs.flatMap Res.own) w w' [r0, r1] (Γ ++ G)) : Holds M w0 w' (r0 :: r1 :: Γ) G := H.calledN K
theorem Holds.cN3 (Rs : List Res) (H : Holds M w0 w (Rs ++ Γ) G) (K : Holds (Rs.flatMap Res.own) w w' [r0, r1, r2] (Γ ++ G)) : Holds M w0 w' (r0 :: r1 :: r2 :: Γ) G := H.calledN K
theorem Holds.cN4 (Rs : List Res) (H : Holds M w0 w (Rs ++ Γ) G) (K : Holds (Rs.flatMap Res.own) w w' [r0, r1, r2, r3] (Γ ++ G)) : Holds M w0 w' (r0 :: r1 :: r2 :: r3 :: Γ) G := H.calledN K
theorem Holds.cN5 (Rs : List Res) (H : Holds M w0 w (Rs ++ Γ) G) (K : Holds (Rs.flatMap Res.own) w w' [r0, r1, r2, r3, r4] (Γ ++ G)) : Holds M w0 w' (r0 :: r1 :: r2 :: r3 :: r4 :: Γ) G := H.calledN K
theorem Holds.nS (e : TypeId) (t : Ty) (H : Holds M w0 w Γ G) : Holds M w0 w (.sl e t (.slice none 0 0) [] :: Γ) G := H.nilSl
end
theorem QC {ops : Array Oper} {n : Nat} {l : List Oper} {E : Env} {w : World} {K : Act → Prop} {d : Nat} {f : FuncId} {args : List Operand} {vs : List Value} {tys : Array TypeId} {ty : TypeId} {ps : String} {af : Array Edge} {g : Option (Nat × Bool)} {v : Value} {G : List Res}
    (hw : wantedE ops E ⟨some d, .call ⟨.value (.func f), args.toArray, tys⟩, ty, ps, af, g⟩ = some true) (hvs : evs E args = some vs)
    (hf : Callable P f) (hc : ∀ w', Below w.heap.size w w' → Calls P f vs.toArray w' (fun e w'' => e = .returned v ∧ Holds (([] : List Res).flatMap Res.own) w' w'' [] G)) (hn : Nat.blt d n = true) (h : XL P ops n (.quiet K) l ((d, v) :: E) w) :
    XL P ops n (.quiet K) (⟨some d, .call ⟨.value (.func f), args.toArray, tys⟩, ty, ps, af, g⟩ :: l) E w :=
  QL_call hw hvs hf (fun w' hb => (hc w' hb).mono fun e w'' hK => ⟨hK.1, hK.2.bel⟩) hn h
end Go.Proofs.YthofjabphcheeaaDoor
