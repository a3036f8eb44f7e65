/- The walks: each Go function computes its shallow function. Printed by a program. -/
import Derived.Test.YthofjabphcheeaaDoorShX7Db
set_option linter.unusedVariables false
set_option maxRecDepth 10000
namespace Go.Proofs.YthofjabphcheeaaDoor
open Go Go.RowKit
theorem c26 : Callable Tryd.prog 26 := ⟨Tryd.f26, Tryd.func26, by kernel_rfl, by kernel_rfl⟩
theorem c27 : Callable Tryd.prog 27 := ⟨Tryd.f27, Tryd.func27, by kernel_rfl, by kernel_rfl⟩
theorem c28 : Callable Tryd.prog 28 := ⟨Tryd.f28, Tryd.func28, by kernel_rfl, by kernel_rfl⟩
theorem c29 : Callable Tryd.prog 29 := ⟨Tryd.f29, Tryd.func29, by kernel_rfl, by kernel_rfl⟩
theorem c30 : Callable Tryd.prog 30 := ⟨Tryd.f30, Tryd.func30, by kernel_rfl, by kernel_rfl⟩
theorem w_laws_FnJournalText (w : World) (G : List Res) (hGl : Glob G) (hGm : GlobM G) (hGp : GlobP G) (vp0 : Value) (p0 : List Int) (hp0 : HasRo G (.int .u8) vp0 p0) (r : Bool) (h : laws_FnJournalTextS p0 = some r) (H : Ctx w G) : Calls Tryd.prog 8 #[vp0] w fun e w' => e = .returned (.bool r) ∧ Holds M0 w w' [] G := by
 have H : Holds M0 w w [] G := zb H
 refine zg (args := [vp0]) (n := 35) Tryd.func8 q q q ?_
 unfold laws_FnJournalTextS at h
 refine rR <| qA q q q <| B <| C <| rR <| qM q q q <| za H.ctx (t := (.int .u8)) (hp0.has) u22 q q q <| A q (qt_gtr q q) q q ?_
 refine B ?_
 refine Y q (fun hc1 => ?_) (fun hc1 => ?_)
 ·have h := if_t hc1 h
  refine rR <| qA q q q <| B <| W fun a ha => ?_
  obtain rfl := L h
  exact m (ret1 q ha q ⟨q, H⟩)
 have h := if_f hc1 h
 refine y <| rR <| qM q q q ?_
 obtain ⟨x2, hx3, h⟩ := D h
 refine zd q q c26 (w_spec_DrawJournalText w G vp0 p0 (hp0) x2 hx3 H.ctx) (by rfl) ?_
 rintro _ w4 ⟨v6, rfl, H5⟩; refine ⟨_, q, ?_⟩
 have H7 := H.cN1 [] H5
 refine qA q q q <| B <| C <| zk <| qM q q q ?_
 obtain ⟨x8, hx9, h⟩ := D h
 refine QC q q c27 (fun w' hb => w_impl_JournalText w' _ hGl.c hGp.c v6 x2 hS0 x8 hx9 (H7.grow hb).ctx) (by rfl) <| qA q q q <| QL_nil fun a ha w10 hb11 => ?_
 have H12 := H7.grow hb11
 refine X (S ?_ ha)
 refine C <| C <| zk <| qM q q q <| qM q q q ?_
 obtain ⟨x13, hx14, h⟩ := D h
 refine QC q q c28 (fun w' hb => w_spec_JournalText w' _ v6 x2 hS0 x13 hx14 (H12.grow hb).ctx) (by rfl) <| A q (qt_sneq q q) q q <| QL_nil fun a ha w15 hb16 => ?_
 have H17 := H12.grow hb16
 refine X (S ?_ ha)
 refine Y q (fun hc18 => ?_) (fun hc18 => ?_)
 ·have h := if_t hc18 h
  refine rR <| qA q q q <| B <| W fun a ha => ?_
  obtain rfl := L h
  have H19 := H17.q0
  exact m (ret1 q ha q ⟨q, H19⟩)
 have h := if_f hc18 h
 refine y <| C <| rR <| qM q q q <| A q (qt_seql q q) q q <| B ?_
 refine Y q (fun hc20 => ?_) (fun hc20 => ?_)
 ·have h := if_t hc20 h
  refine C <| zk ?_
  obtain ⟨x21, hx22, h⟩ := D h
  refine QC q q c12 (fun w' hb => w_laws_alive w' _  x21 hx22 (H17.grow hb).ctx) (by rfl) <| qA q q q <| QL_nil fun a ha w23 hb24 => ?_
  have H25 := H17.grow hb24
  refine X (S ?_ ha)
  refine W fun a ha => ?_
  obtain rfl := L h
  have H26 := H25.q0
  exact m (ret1 q ha q ⟨q, H26⟩)
 have h := if_f hc20 h
 refine y <| rR <| qM q q q ?_
 obtain ⟨x27, hx28, h⟩ := D h
 refine zd q q c29 (w_impl_ReadJournal w15 _ hGl.c hGm.c x8 x27 hx28 H17.ctx) (by rfl) ?_
 rintro _ w29 ⟨v31, rfl, H30⟩; refine ⟨_, q, ?_⟩
 have H32 := H17.cN1 [] H30
 refine qM q q q <| A q (zv q q) q q <| A q (zv q q) q q <| qA q q q <| qA q q q <| B <| C <| zk <| qM q q q <| qM q q q ?_
 obtain ⟨x33, hx34, h⟩ := D h
 refine QC q q c30 (fun w' hb => w_laws_sameDeeds w' _ v31 x27.1 hS0 v6 x2 hS1 x33 hx34 (H32.grow hb).ctx) (by rfl) <| qM q q q ?_
 refine zh 5 34 (.bool (x33 && (x27.2 == (List.length x8 : Int)))) ?_ (fun md hmd hk => ?_)
 rotate_left
 ·obtain ⟨K, rfl⟩ := zr hmd
  rcases btf x33 with hc35 | hc35
  ·skip
   refine qM (J q hc35) q q <| qM (J q hc35) q q <| A (J q hc35) (qt_slen u9 q) q q <| A (J q hc35) (qt_eql q q) q q <| A q (ze q hc35 q) q q ?_
   exact hk _ (p (by rw [hc35]; rfl) (cfn 4 q (u)))
  skip
  refine qS q hc35 q q <| qS q hc35 q q <| qS q hc35 q q <| qS q hc35 q q <| A q (zf q hc35 q) q q ?_
  exact hk _ (p (by rw [hc35]; rfl) (cfn 4 q (u)))
 refine qA q q q <| QL_nil fun a ha w36 hb37 => ?_
 have H38 := H32.grow hb37
 refine X (S ?_ ha)
 refine W fun a ha => ?_
 obtain rfl := L h
 have H39 := H38.q0.q0
 exact ret1 q ha q ⟨q, H39⟩
end Go.Proofs.YthofjabphcheeaaDoor
