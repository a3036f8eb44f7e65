/- The walks: each Go function computes its shallow function. Printed by a program. -/
import Derived.Test.YtpabogkcmbkffaaGreatDoorWS7C3
set_option linter.unusedVariables false
set_option maxRecDepth 10000
set_option maxHeartbeats 8000000
namespace Go.Proofs.YtpabogkcmbkffaaGreatDoor
open Go Go.RowKit
theorem w_spec_l7Close (w : World) (G : List Res) (A0 : Value) (B0 : LI) (A1 : Value) (B1 : List Int) (A2 : Value) (B2 : List Int) (B3 : Int) (A4 : Value) (B4 : LT) (p1 : Int) (r : (LI × (List Int) × (List Int) × Int × LT) × Bool) (h : spec_l7CloseS B0 B1 B2 B3 B4 p1 = some r) (H : Ctx w ([.sl 55 ty10 A0 B0, .sl 3 tI A1 B1, .sl 3 tI A2 B2, .sl 47 ty12 A4 B4] ++ G)) : Calls Tryz.prog 38 #[.agg #[A0, A1, A2, iV B3, A4], iV p1] w fun e w' => ∃ (v1 : Value) (v2 : Value) (v3 : Value) (v4 : Value), e = .returned (.tuple #[.agg #[v1, v2, v3, iV r.1.2.2.2.1, v4], .bool r.2]) ∧ Holds (([.sl 55 ty10 A0 B0, .sl 3 tI A1 B1, .sl 3 tI A2 B2, .sl 47 ty12 A4 B4] : List Res).flatMap Res.own) w w' [.sl 55 ty10 v1 r.1.1, .sl 3 tI v2 r.1.2.1, .sl 3 tI v3 r.1.2.2.1, .sl 47 ty12 v4 r.1.2.2.2.2] G := by
 have H : Holds (([.sl 55 ty10 A0 B0, .sl 3 tI A1 B1, .sl 3 tI A2 B2, .sl 47 ty12 A4 B4] : List Res).flatMap Res.own) w w [.sl 55 ty10 A0 B0, .sl 3 tI A1 B1, .sl 3 tI A2 B2, .sl 47 ty12 A4 B4] G := zb H
 refine zg (args := [.agg #[A0, A1, A2, iV B3, A4], iV p1]) (n := 54) Tryz.func38 q q q ?_
 unfold spec_l7CloseS at h
 refine C <| Z ?_
 refine WL_box (cs := [A0, A1, A2, iV B3, A4]) H q q q q (fun b1 w2 H3 => ?_)
 refine zq (cs := [nS, nS, nS, iV 0, nS]) H3 z27 q q q (fun b5 w6 H7 => ?_)
 refine qA q q q <| B <| C <| C <| WP_quiet (by kernel_rfl) (by kernel_rfl) <| qM q q q <| qF uf27 fi27_4 nz25 q q q ?_
 have aC := R H7.p1
 refine l u25 q aC q q q q <| za H7.ctx (t := ty12) hS5 u25 q q q <| A q (qt_sub q q) q q ?_
 obtain ⟨ao, aD, h⟩ := D h
 refine QC q q c52 (fun w' hb => w_spec_l1In w' _ p1 0 (IntKind.wrap .i64 ((List.length B4 : Int) - 1)) ao aD (H7.grow hb).ctx) (by rfl) <| A q (qt_not q) q q <| qM q q q ?_
 obtain ⟨ap, ae, h⟩ := D h
 refine zh 9 22 (.bool ap) ?_ (fun md hmd hk => ?_)
 rotate_left
 ·obtain ⟨K, rfl⟩ := zr hmd
  rcases btf (!ao) with aa | aa
  ·skip
   refine qS q aa q q <| qS q aa q q <| qS q aa q q <| qS q aa q q <| qS q aa q q <| qS q aa q q <| qS q aa q q <| qS q aa q q <| A q (ze q aa q) q q ?_
   exact hk _ (p (vb (if_t aa ae)) (cfn 8 q (u)))
  skip
  have ae := if_f aa ae
  refine qF uf27 fi27_4 nz25 (J q aa) q q ?_
  have aE := R H7.p1
  refine l u25 q aE q (J q aa) q q <| qM (J q aa) q q ?_
  obtain ⟨aq, ar, ae⟩ := D ae
  refine b H7.ctx hS5 ar u25 i47 (J q aa) q q q (fun bi bj bk aF => ?_)
  refine qF uf47 fi47_1 nz45 (J q aa) q q ?_
  obtain ⟨bl, aG, aH⟩ := H7.at hS5 ar aF
  obtain ⟨bm, aI, aJ⟩ := AtP.snd aG
  obtain ⟨bn, aK, aL⟩ := AtP.fst aI
  refine XL_load (t := ty4) u45 q q aK (J q aa) q q (fun au aM => ?_)
  have aN : Holds _ w w6 [.ro ty2 au aq.2.1, .bx b5 27 [nS, nS, nS, iV 0, nS], .bx b1 27 [A0, A1, A2, iV B3, A4], .sl 55 ty10 A0 B0, .sl 3 tI A1 B1, .sl 3 tI A2 B2, .sl 47 ty12 A4 B4] G := aH _ _ _ _ aM (fun k h => (fun k h => (fun _ h => h) k (aJ k h)) k (aL k h))
  obtain ⟨aO, aP, ae⟩ := D ae
  refine QC (J q aa) q c74 (fun w' hb => w_spec_TicketDone w' _ au aq.2.1 hR0 aO aP (aN.grow hb).ctx) (by rfl) <| A (J q aa) (qt_not q) q q <| A q (zf q aa q) q q ?_
  exact hk _ (p (vb ae) (cfn 8 q (u)))
 refine qM q q q ?_
 obtain ⟨aQ, ah, h⟩ := D h
 refine zh 8 31 (.bool aQ) ?_ (fun md hmd hk => ?_)
 rotate_left
 ·obtain ⟨K, rfl⟩ := zr hmd
  rcases btf ap with ab | ab
  ·skip
   refine qS q ab q q <| qS q ab q q <| qS q ab q q <| qS q ab q q <| qS q ab q q <| qS q ab q q <| qS q ab q q <| A q (ze q ab q) q q ?_
   exact hk _ (p (vb (if_t ab ah)) (cfn 7 q (u)))
  skip
  have ah := if_f ab ah
  refine qF uf27 fi27_3 nz3 (J q ab) q q ?_
  have aR := R H7.p1
  refine l u3 q aR q (J q ab) q q ?_
  have aS := R H7.p1
  refine zm (cs := [A0, A1, A2, iV B3, A4]) us27 uo27 il27 aS (J q ab) q q ?_
  change XL _ _ _ _ _ ((26, .agg #[A0, A1, A2, iV B3, A4]) :: _) _
  refine qM (J q ab) q q ?_
  obtain ⟨aT, aU, ah⟩ := D ah
  refine QC (J q ab) q c75 (fun w' hb => w_spec_TableBill w' _ A0 B0 hS2 A1 B1 hS3 A2 B2 hS4 B3 A4 B4 hS5 p1 aT aU (H7.grow hb).ctx) (by rfl) <| A (J q ab) (qt_add q q) q q <| A (J q ab) (qt_gtr q q) q q <| A q (zf q ab q) q q ?_
  exact hk _ (p (vb ah) (cfn 7 q (u)))
 refine QL_nil fun a ha bo aV => ?_
 have ag := H7.grow aV
 refine X (S ?_ ha)
 refine Y q (fun aj => ?_) (fun aj => ?_)
 ·have h := if_t aj h
  refine C <| Z ?_
  have aW := R ag.p1
  refine zm (cs := [A0, A1, A2, iV B3, A4]) us27 uo27 il27 aW q q q ?_
  change XL _ _ _ _ _ ((32, .agg #[A0, A1, A2, iV B3, A4]) :: _) _
  refine zl (cs' := [A0, A1, A2, iV B3, A4]) ag q il27 q (T (ag.ctx.sliceOne hS2) (T (ag.ctx.sliceOne hS3) (T (ag.ctx.sliceOne hS4) (T q (T (ag.ctx.sliceOne hS5) q))))) q q q (fun bp av => ?_)
  refine qA q q q <| B <| W fun a ha => ?_
  obtain rfl := L h
  have aX := R av.p0
  have aY := av.q0.q0.p3.p3.p3.p3
  exact m (retct q ha q q (run_loadVar_bx (cs := [A0, A1, A2, iV B3, A4]) us27 uo27 il27 aX) ⟨A0, A1, A2, A4, q, aY⟩)
 have h := if_f aj h
 refine y <| C ?_
 obtain ⟨ad, aZ, h⟩ := D h
 refine WP_join (M := fun a w2 => (Fr a 54 [(1, iV p1), (2, pB b1), (4, pB b5)] ∧ Holds (([.sl 55 ty10 A0 B0, .sl 3 tI A1 B1, .sl 3 tI A2 B2, .sl 47 ty12 A4 B4] : List Res).flatMap Res.own) w w2 [.bx b1 27 [A0, A1, A2, iV (IntKind.wrap .i64 (B3 + ad)), A4], .sl 55 ty10 A0 B0, .sl 3 tI A1 B1, .sl 3 tI A2 B2, .sl 47 ty12 A4 B4, .bx b5 27 [nS, nS, nS, iV 0, nS]] G)) ?_ ?_
 ·refine WP_ordersT (fun w1 w2 => Chg M0 w1 w2) 6 (by kernel_rfl) (fun ak a0 => ?_)
  have aw := ag.grow a0
  have al : Ctx ak ([] ++ ([.bx b5 27 [nS, nS, nS, iV 0, nS], .bx b1 27 [A0, A1, A2, iV B3, A4], .sl 55 ty10 A0 B0, .sl 3 tI A1 B1, .sl 3 tI A2 B2, .sl 47 ty12 A4 B4] ++ G)) := aw.ctx
  have a1 : Holds _ ak ak [] ([.bx b5 27 [nS, nS, nS, iV 0, nS], .bx b1 27 [A0, A1, A2, iV B3, A4], .sl 55 ty10 A0 B0, .sl 3 tI A1 B1, .sl 3 tI A2 B2, .sl 47 ty12 A4 B4] ++ G) := zb (Rs := []) al
  have Hc := a1
  repeat' first
   | refine XDo 4 q <| zd q q c75 (w_spec_TableBill _ _ A0 B0 hS2 A1 B1 hS3 A2 B2 hS4 B3 A4 B4 hS5 p1 ad aZ Hc.ctx) (by rfl) ?_; rintro _ _ ⟨rfl, HK⟩; refine ⟨_, q, ?_⟩; have Hc := Hc.cN0 [] HK; refine XN Hc.chg ?_
   | have Hc := aw.cN0 [] Hc; refine XDo 6 q <| qF uf27 fi27_3 nz3 q q q <| XE q ?_
   | refine XDo 7 q ?_; have Hc := Hc.p1; refine WL_store_bx Hc q il3 q q q q q (fun _ Hc => ?_); refine XE q ?_
   | refine XQ (i := 0) q (by decide +kernel) q Hc.chg q (fun _ => qt_fieldAddr uf27 fi27_3 nz3 q) q q ?_
   | have a2 := HasB.bx (HasB.c (HasB.hd)) Hc.ctx; refine XT (i := 1) q (by decide +kernel) q Hc.chg q (qs_cell u3 q q (a2.cell (i := 3) q) Hc.chg (Ctx.outB al (HasB.c (HasB.hd)))) q q ?_
   | have a3 := HasB.bx (HasB.c (HasB.hd)) Hc.ctx; refine XT (i := 2) q (by decide +kernel) q Hc.chg q (qs_agg (cs := [A0, A1, A2, iV B3, A4]) us27 uo27 il27 q (fun j z hj => by rw [Nat.zero_add]; exact a3.cell hj) Hc.chg (Ctx.outB al (HasB.c (HasB.hd)))) q q ?_; change XC _ _ _ _ _ _ _ _ ((35, .agg #[A0, A1, A2, iV B3, A4]) :: _) _
   | refine XQ (i := 3) q (by decide +kernel) q Hc.chg q (fun _ => qt_move q) q q ?_
   | refine XQ (i := 5) q (by decide +kernel) q Hc.chg q (fun _ => qt_add q q) q q ?_
   | refine XV [4] (by decide +kernel) q (allc ?_ alln)
   | refine XV [6] (by decide +kernel) q (allc ?_ alln)
   | refine XV [7] (by decide +kernel) q (allc ?_ alln)
   | refine XC_done (by decide +kernel) (fun a ha => ?_); have Hc := ((((((Hc.p1).p5).p5).p5).p5).p5); exact ⟨ha.sub ⟨q, q, q, trivial⟩, Hc⟩
 intro a bq a4
 obtain ⟨ha, a5⟩ := a4
 refine S ?_ ha
 clear ha
 refine C ?_
 obtain ⟨br, ax, h⟩ := D h
 obtain ⟨bs, a6, h⟩ := D h
 obtain ⟨bt, ay, h⟩ := D h
 obtain ⟨a7, a8, h⟩ := D h
 refine WP_join (M := fun a w2 => ∃ af, Fr a 54 [(2, pB b1), (4, pB b5)] ∧ Holds (([.sl 55 ty10 A0 B0, .sl 3 tI A1 B1, .sl 3 tI A2 B2, .sl 47 ty12 A4 B4] : List Res).flatMap Res.own) w w2 [.bx b1 27 [A0, A1, A2, iV (IntKind.wrap .i64 (B3 + ad)), af], .sl 55 ty10 A0 B0, .sl 3 tI A1 B1, .sl 3 tI A2 B2, .sl 47 ty12 af a7, .bx b5 27 [nS, nS, nS, iV 0, nS]] G) ?_ ?_
 ·refine WP_ordersT (fun w1 w2 => Chg M0 w1 w2) 12 (by kernel_rfl) (fun am a9 => ?_)
  have az := a5.grow a9
  have an : Ctx am ([] ++ ([.bx b1 27 [A0, A1, A2, iV (IntKind.wrap .i64 (B3 + ad)), A4], .sl 55 ty10 A0 B0, .sl 3 tI A1 B1, .sl 3 tI A2 B2, .sl 47 ty12 A4 B4, .bx b5 27 [nS, nS, nS, iV 0, nS]] ++ G)) := az.ctx
  have ba : Holds _ am am [] ([.bx b1 27 [A0, A1, A2, iV (IntKind.wrap .i64 (B3 + ad)), A4], .sl 55 ty10 A0 B0, .sl 3 tI A1 B1, .sl 3 tI A2 B2, .sl 47 ty12 A4 B4, .bx b5 27 [nS, nS, nS, iV 0, nS]] ++ G) := zb (Rs := []) an
  have Hc := ba
  repeat' first
   | refine XDo 0 q ?_; refine zs (t := ty12) (args := []) (xs := ([] : LT)) Hc (BltL.nil) u25 j47 q q q q q q (fun bu _ Hc => ?_); refine XN Hc.chg ?_
   | refine XDo 5 q ?_; refine zw Hc (Has.sub hS5 ax) a6 u25 j47 q q q q q q (fun bv _ Hc => ?_); refine XN Hc.chg ?_
   | refine XDo 11 q ?_; refine zw Hc (Has.sub hS5 ay) a8 u25 j47 q q q q q q (fun bb _ Hc => ?_); refine XN Hc.chg ?_
   | have Hc := az.cN1 [] Hc; refine XDo 12 q <| qF uf27 fi27_4 nz25 q q q <| XE q ?_
   | refine XDo 13 q ?_; have Hc := Hc.p1; refine WL_store_bx Hc q il25 (Hc.ctx.sliceCells hS1) (Hc.ctx.sliceOne hS1) q q q (fun _ Hc => ?_); refine XE q ?_
   | refine XQ (i := 1) q (by decide +kernel) q Hc.chg q (fun _ => qt_fieldAddr uf27 fi27_4 nz25 q) q q ?_
   | have bc := HasB.bx (HasB.hd) Hc.ctx; refine XT (i := 2) q (by decide +kernel) q Hc.chg q (qs_cell u25 q q (bc.cell (i := 4) q) Hc.chg (Ctx.outB an (HasB.hd))) q q ?_
   | refine XQ (i := 3) q (by decide +kernel) q Hc.chg q (fun _ => qt_move q) q q ?_
   | refine XT (i := 4) q (by decide +kernel) q Hc.chg q (qs_slice Hc.ctx hS4 ax u25 i47 q ⟨_, q⟩ q) q q ?_
   | refine XQ (i := 6) q (by decide +kernel) q Hc.chg q (fun _ => qt_fieldAddr uf27 fi27_4 nz25 q) q q ?_
   | have bd := HasB.bx (HasB.hd) Hc.ctx; refine XT (i := 7) q (by decide +kernel) q Hc.chg q (qs_cell u25 q q (bd.cell (i := 4) q) Hc.chg (Ctx.outB an (HasB.hd))) q q ?_
   | refine XQ (i := 8) q (by decide +kernel) q Hc.chg q (fun _ => qt_move q) q q ?_
   | refine XQ (i := 9) q (by decide +kernel) q Hc.chg q (fun _ => qt_add q q) q q ?_
   | refine XT (i := 10) q (by decide +kernel) q Hc.chg q (qs_slice Hc.ctx hS4 ay u25 i47 ⟨_, q⟩ q q) q q ?_
   | refine XV [0] (by decide +kernel) q (allc ?_ alln)
   | refine XV [5] (by decide +kernel) q (allc ?_ alln)
   | refine XV [11] (by decide +kernel) q (allc ?_ alln)
   | refine XV [12] (by decide +kernel) q (allc ?_ alln)
   | refine XV [13] (by decide +kernel) q (allc ?_ alln)
   | refine XC_done (by decide +kernel) (fun a ha => ?_); have Hc := (((((((Hc.q5).p5).p2).p5).p5).p5).p5); exact ⟨bb, ha.sub ⟨q, q, trivial⟩, Hc⟩
 intro a bw be
 obtain ⟨af, ha, aA⟩ := be
 refine S ?_ ha
 clear ha
 refine C <| Z ?_
 have bf := R aA.p0
 refine zm (cs := [A0, A1, A2, iV (IntKind.wrap .i64 (B3 + ad)), af]) us27 uo27 il27 bf q q q ?_
 change XL _ _ _ _ _ ((53, .agg #[A0, A1, A2, iV (IntKind.wrap .i64 (B3 + ad)), af]) :: _) _
 have ai := aA.p5
 refine zl (cs' := [A0, A1, A2, iV (IntKind.wrap .i64 (B3 + ad)), af]) ai q il27 q (T (ai.ctx.sliceOne hS2) (T (ai.ctx.sliceOne hS3) (T (ai.ctx.sliceOne hS4) (T q (T (ai.ctx.sliceOne hS5) q))))) q q q (fun bz aB => ?_)
 refine qA q q q <| B <| W fun a ha => ?_
 obtain rfl := L h
 have bg := R aB.p0
 have bh := aB.q0.q0.p3.p3.p3.p3
 exact retct q ha q q (run_loadVar_bx (cs := [A0, A1, A2, iV (IntKind.wrap .i64 (B3 + ad)), af]) us27 uo27 il27 bg) ⟨A0, A1, A2, af, q, bh⟩
theorem w_spec_HouseDo (w : World) (G : List Res) (A0 : Value) (B0 : LI) (C0 : Has G ty10 A0 B0) (A1 : Value) (B1 : List Int) (C1 : Has G tI A1 B1) (A2 : Value) (B2 : List Int) (C2 : Has G tI A2 B2) (B3 : Int) (A4 : Value) (B4 : LT) (C4 : Has G ty12 A4 B4) (p1_0 : Int) (p1_1 : Int) (p1_2 : Int) (p1_3 : Int) (r : (LI × (List Int) × (List Int) × Int × LT) × Bool) (h : spec_HouseDoS B0 B1 B2 B3 B4 p1_0 p1_1 p1_2 p1_3 = some r) (H : Ctx w G) : Calls Tryz.prog 8 #[.agg #[A0, A1, A2, iV B3, A4], .agg #[iV p1_0, iV p1_1, iV p1_2, iV p1_3]] w fun e w' => ∃ (v1 : Value) (v2 : Value) (v3 : Value) (v4 : Value), e = .returned (.tuple #[.agg #[v1, v2, v3, iV r.1.2.2.2.1, v4], .bool r.2]) ∧ Holds M0 w w' [.sl 55 ty10 v1 r.1.1, .sl 3 tI v2 r.1.2.1, .sl 3 tI v3 r.1.2.2.1, .sl 47 ty12 v4 r.1.2.2.2.2] G := by
 have H : Holds M0 w w [] G := zb H
 refine zg (args := [.agg #[A0, A1, A2, iV B3, A4], .agg #[iV p1_0, iV p1_1, iV p1_2, iV p1_3]]) (n := 137) Tryz.func8 q q q ?_
 unfold spec_HouseDoS at h
 refine C <| Z ?_
 refine WL_box (cs := [A0, A1, A2, iV B3, A4]) H q q q q (fun b1 w2 H3 => ?_)
 refine WL_box (cs := [iV p1_0, iV p1_1, iV p1_2, iV p1_3]) H3 q q q q (fun b5 w6 H7 => ?_)
 refine zq (cs := [nS, nS, nS, iV 0, nS]) H7 z27 q q q (fun b9 f7 bA => ?_)
 refine qA q q q <| B <| C <| C <| zk ?_
 have cX := R bA.p2
 refine zm (cs := [A0, A1, A2, iV B3, A4]) us27 uo27 il27 cX q q q ?_
 change XL _ _ _ _ _ ((8, .agg #[A0, A1, A2, iV B3, A4]) :: _) _
 obtain ⟨cY, cZ, h⟩ := D h
 refine QC q q c17 (fun w' hb => w_spec_HouseValid w' _ A0 B0 (C0.c.c.c) A1 B1 (C1.c.c.c) A2 B2 (C2.c.c.c) B3 A4 B4 (C4.c.c.c) cY cZ (bA.grow hb).ctx) (by rfl) <| A q (qt_not q) q q <| QL_nil fun a ha c0 c1 => ?_
 have bz := bA.grow c1
 refine X (S ?_ ha)
 refine Y q (fun bB => ?_) (fun bB => ?_)
 ·have h := if_t bB h
  refine rR <| A q (qt_build (args := []) (css := []) (cells := #[nS, nS, nS, iV 0, nS]) q trivial (by kernel_rfl)) q q ?_
  refine zl (cs' := [nS, nS, nS, iV 0, nS]) bz q il27 q q q q q (fun f8 cC => ?_)
  refine qA q q q <| B <| W fun a ha => ?_
  obtain rfl := L h
  have c2 := R cC.p0
  have c3 := cC.nS 55 ty10
  have c4 := c3.nS 3 tI
  have c5 := c4.nS 3 tI
  have da := c5.nS 47 ty12
  have db := da.q4.q4.q4.p1.p2.p3
  exact m (retct q ha q q (run_loadVar_bx (cs := [nS, nS, nS, iV 0, nS]) us27 uo27 il27 c2) ⟨(nS), (nS), (nS), (nS), q, db⟩)
 have h := if_f bB h
 refine y <| C <| Z ?_
 have dc := R bz.p2
 refine zm (cs := [A0, A1, A2, iV B3, A4]) us27 uo27 il27 dc q q q ?_
 change XL _ _ _ _ _ ((12, .agg #[A0, A1, A2, iV B3, A4]) :: _) _
 obtain ⟨aa, dd, h⟩ := D h
 refine zd q q c33 (w_spec_l7Copy c0 _ A0 B0 (C0.c.c.c) A1 B1 (C1.c.c.c) A2 B2 (C2.c.c.c) B3 A4 B4 (C4.c.c.c) aa dd bz.ctx) (by rfl) ?_
 rintro _ f9 ⟨ad, ae, af, ag, rfl, de⟩; refine ⟨_, q, ?_⟩
 have df := bz.cN4 [] de
 refine zq (cs := [nS, nS, nS, iV 0, nS]) df z27 q q q (fun ga gb a4 => ?_)
 refine zl (cs' := [ad, ae, af, iV aa.2.2.2.1, ag]) a4 q il27 q (T (a4.ctx.sliceOne hS1) (T (a4.ctx.sliceOne hS2) (T (a4.ctx.sliceOne hS3) (T q (T (a4.ctx.sliceOne hS4) q))))) q q q (fun a5 ab => ?_)
 refine rN <| qA q q q <| B <| C <| g <| rR <| qF uf29 fi29_0 nz3 q q q ?_
 have dg := R ab.p6
 refine l u3 q dg q q q q <| A q (qt_neq q q) q q <| qM q q q ?_
 refine zh 4 22 (.bool ((p1_0 != 3) && (p1_3 != 0))) ?_ (fun md hmd hk => ?_)
 rotate_left
 ·obtain ⟨Q, rfl⟩ := Md.seq_of hmd
  rcases btf (p1_0 != 3) with ap | ap
  ·skip
   refine qF uf29 fi29_3 nz3 (J q ap) q q ?_
   have dh := R ab.p6
   refine l u3 q dh q (J q ap) q q <| A (J q ap) (qt_neq q q) q q <| A q (ze q ap q) q q ?_
   exact hk _ (p (by rw [ap]; rfl) (cfn 3 q (u)))
  skip
  refine qS q ap q q <| qS q ap q q <| qS q ap q q <| A q (zf q ap q) q q ?_
  exact hk _ (p (by rw [ap]; rfl) (cfn 3 q (u)))
 refine qM q q q ?_
 refine zh 9 32 (.bool (((p1_0 != 3) && (p1_3 != 0)) || ((decide (p1_0 ≥ 4)) && (p1_2 != 0)))) ?_ (fun md hmd hk => ?_)
 rotate_left
 ·obtain ⟨Q, rfl⟩ := Md.seq_of hmd
  rcases btf ((p1_0 != 3) && (p1_3 != 0)) with ah | ah
  ·skip
   refine qS q ah q q <| qS q ah q q <| qS q ah q q <| qS q ah q q <| XL_skip q q q <| XL_skip q q q <| XL_skip q q q <| qS q ah q q <| A q (ze q ah q) q q ?_
   exact hk _ (p (by rw [ah]; rfl) (cfn 8 q (u)))
  skip
  refine qF uf29 fi29_0 nz3 (J q ah) q q ?_
  have di := R ab.p6
  refine l u3 q di q (J q ah) q q <| A (J q ah) (qt_geq q q) q q <| qM (J q ah) q q ?_
  refine zh 4 31 (.bool ((decide (p1_0 ≥ 4)) && (p1_2 != 0))) ?_ (fun md hmd hk => ?_)
  rotate_left
  ·obtain ⟨Q, rfl⟩ := Md.seq_of hmd
   rcases btf (decide (p1_0 ≥ 4)) with aq | aq
   ·skip
    refine qF uf29 fi29_2 nz3 (J q aq) q q ?_
    have dj := R ab.p6
    refine l u3 q dj q (J q aq) q q <| A (J q aq) (qt_neq q q) q q <| A (J q ah) (ze q aq q) q q ?_
    exact hk _ (p (by rw [aq]; rfl) (cfn 3 q (u)))
   skip
   refine qS q aq q q <| qS q aq q q <| qS q aq q q <| A (J q ah) (zf q aq q) q q ?_
   exact hk _ (p (by rw [aq]; rfl) (cfn 3 q (u)))
  refine A q (zf q ah q) q q ?_
  exact hk _ (p (by rw [ah]; rfl) (cfn 5 q (u)))
 refine qM q q q ?_
 refine zh 9 42 (.bool ((((p1_0 != 3) && (p1_3 != 0)) || ((decide (p1_0 ≥ 4)) && (p1_2 != 0))) || ((p1_0 == 4) && (p1_1 != 0)))) ?_ (fun md hmd hk => ?_)
 rotate_left
 ·obtain ⟨Q, rfl⟩ := Md.seq_of hmd
  rcases btf (((p1_0 != 3) && (p1_3 != 0)) || ((decide (p1_0 ≥ 4)) && (p1_2 != 0))) with ai | ai
  ·skip
   refine qS q ai q q <| qS q ai q q <| qS q ai q q <| qS q ai q q <| XL_skip q q q <| XL_skip q q q <| XL_skip q q q <| qS q ai q q <| A q (ze q ai q) q q ?_
   exact hk _ (p (by rw [ai]; rfl) (cfn 8 q (u)))
  skip
  refine qF uf29 fi29_0 nz3 (J q ai) q q ?_
  have dk := R ab.p6
  refine l u3 q dk q (J q ai) q q <| A (J q ai) (qt_eql q q) q q <| qM (J q ai) q q ?_
  refine zh 4 41 (.bool ((p1_0 == 4) && (p1_1 != 0))) ?_ (fun md hmd hk => ?_)
  rotate_left
  ·obtain ⟨Q, rfl⟩ := Md.seq_of hmd
   rcases btf (p1_0 == 4) with ar | ar
   ·skip
    refine qF uf29 fi29_1 nz3 (J q ar) q q ?_
    have dl := R ab.p6
    refine l u3 q dl q (J q ar) q q <| A (J q ar) (qt_neq q q) q q <| A (J q ai) (ze q ar q) q q ?_
    exact hk _ (p (by rw [ar]; rfl) (cfn 3 q (u)))
   skip
   refine qS q ar q q <| qS q ar q q <| qS q ar q q <| A (J q ai) (zf q ar q) q q ?_
   exact hk _ (p (by rw [ar]; rfl) (cfn 3 q (u)))
  refine A q (zf q ai q) q q ?_
  exact hk _ (p (by rw [ai]; rfl) (cfn 5 q (u)))
 refine qM q q q ?_
 refine zh 9 52 (.bool (((((p1_0 != 3) && (p1_3 != 0)) || ((decide (p1_0 ≥ 4)) && (p1_2 != 0))) || ((p1_0 == 4) && (p1_1 != 0))) || ((p1_0 == 2) && (p1_2 != 0)))) ?_ (fun md hmd hk => ?_)
 rotate_left
 ·obtain ⟨Q, rfl⟩ := Md.seq_of hmd
  rcases btf ((((p1_0 != 3) && (p1_3 != 0)) || ((decide (p1_0 ≥ 4)) && (p1_2 != 0))) || ((p1_0 == 4) && (p1_1 != 0))) with aj | aj
  ·skip
   refine qS q aj q q <| qS q aj q q <| qS q aj q q <| qS q aj q q <| XL_skip q q q <| XL_skip q q q <| XL_skip q q q <| qS q aj q q <| A q (ze q aj q) q q ?_
   exact hk _ (p (by rw [aj]; rfl) (cfn 8 q (u)))
  skip
  refine qF uf29 fi29_0 nz3 (J q aj) q q ?_
  have dm := R ab.p6
  refine l u3 q dm q (J q aj) q q <| A (J q aj) (qt_eql q q) q q <| qM (J q aj) q q ?_
  refine zh 4 51 (.bool ((p1_0 == 2) && (p1_2 != 0))) ?_ (fun md hmd hk => ?_)
  rotate_left
  ·obtain ⟨Q, rfl⟩ := Md.seq_of hmd
   rcases btf (p1_0 == 2) with au | au
   ·skip
    refine qF uf29 fi29_2 nz3 (J q au) q q ?_
    have dn := R ab.p6
    refine l u3 q dn q (J q au) q q <| A (J q au) (qt_neq q q) q q <| A (J q aj) (ze q au q) q q ?_
    exact hk _ (p (by rw [au]; rfl) (cfn 3 q (u)))
   skip
   refine qS q au q q <| qS q au q q <| qS q au q q <| A (J q aj) (zf q au q) q q ?_
   exact hk _ (p (by rw [au]; rfl) (cfn 3 q (u)))
  refine A q (zf q aj q) q q ?_
  exact hk _ (p (by rw [aj]; rfl) (cfn 5 q (u)))
 refine qA q q q <| B ?_
 refine Y q (fun bC => ?_) (fun bC => ?_)
 ·have h := if_t bC h
  refine C <| Z ?_
  have dq := R ab.p0
  refine zm (cs := [ad, ae, af, iV aa.2.2.2.1, ag]) us27 uo27 il27 dq q q q ?_
  change XL _ _ _ _ _ ((53, .agg #[ad, ae, af, iV aa.2.2.2.1, ag]) :: _) _
  have a6 := ab.p5
  refine zl (cs' := [ad, ae, af, iV aa.2.2.2.1, ag]) a6 q il27 q (T (a6.ctx.sliceOne hS2) (T (a6.ctx.sliceOne hS3) (T (a6.ctx.sliceOne hS4) (T q (T (a6.ctx.sliceOne hS5) q))))) q q q (fun gc cD => ?_)
  refine qA q q q <| B <| W fun a ha => ?_
  obtain rfl := L h
  have dr := R cD.p0
  have ds := cD.q0.q0.q4.q4.p3.p3.p3.p3
  exact zj (m (retct q ha q q (run_loadVar_bx (cs := [ad, ae, af, iV aa.2.2.2.1, ag]) us27 uo27 il27 dr) ⟨ad, ae, af, ag, q, ds⟩))
 have h := if_f bC h
 refine rR <| qF uf29 fi29_0 nz3 q q q ?_
 have dt := R ab.p6
 refine l u3 q dt q q q q <| A q (qt_eql q q) q q <| qA q q q <| B ?_
 refine Y q (fun bD => ?_) (fun bD => ?_)
 ·have h := if_t bD h
  refine Z ?_
  have du := R ab.p0
  refine zm (cs := [ad, ae, af, iV aa.2.2.2.1, ag]) us27 uo27 il27 du q q q ?_
  change XL _ _ _ _ _ ((59, .agg #[ad, ae, af, iV aa.2.2.2.1, ag]) :: _) _
  refine qF uf29 fi29_1 nz3 q q q ?_
  have dv := R ab.p6
  refine l u3 q dv q q q q <| qF uf29 fi29_2 nz3 q q q ?_
  have dw := R ab.p6
  refine l u3 q dw q q q q ?_
  have dx := ab.p4
  have dy := dx.p4
  have dz := dy.p4
  have cE := dz.p4
  obtain ⟨ak, dA, h⟩ := D h
  refine zd q q c34 (w_spec_l7Buy a5 _ ad aa.1 ae aa.2.1 af aa.2.2.1 aa.2.2.2.1 ag aa.2.2.2.2 p1_1 p1_2 ak dA cE.ctx) (by rfl) ?_
  rintro _ gd ⟨aC, aD, aE, aF, rfl, dB⟩; refine ⟨_, q, ?_⟩
  have dC := cE.cN4 [_, _, _, _] dB
  refine qM q q q <| A q (zv q q) q q <| A q (zv q q) q q ?_
  have a7 := dC.p4
  refine zl (cs' := [aC, aD, aE, iV ak.1.2.2.2.1, aF]) a7 q il27 q (T (a7.ctx.sliceOne hS1) (T (a7.ctx.sliceOne hS2) (T (a7.ctx.sliceOne hS3) (T q (T (a7.ctx.sliceOne hS4) q))))) q q q (fun ge bE => ?_)
  refine qA q q q <| WL_nil fun a ha => ?_
  refine zi (X (S ?_ ha))
  refine C <| C <| zk <| qM q q q <| A q (qt_not q) q q <| qM q q q ?_
  obtain ⟨dD, aX, h⟩ := D h
  refine zh 4 133 (.bool dD) ?_ (fun md hmd hk => ?_)
  rotate_left
  ·obtain ⟨K, rfl⟩ := zr hmd
   rcases btf (!ak.2) with av | av
   ·skip
    refine qS q av q q <| qS q av q q <| qS q av q q <| A q (ze q av q) q q ?_
    exact hk _ (p (vb (if_t av aX)) (cfn 3 q (u)))
   skip
   have aX := if_f av aX
   have dE := R bE.p0
   refine zm (cs := [aC, aD, aE, iV ak.1.2.2.2.1, aF]) us27 uo27 il27 dE (J q av) q q ?_
   change XL _ _ _ _ _ ((130, .agg #[aC, aD, aE, iV ak.1.2.2.2.1, aF]) :: _) _
   obtain ⟨dF, dG, aX⟩ := D aX
   refine QC (J q av) q c17 (fun w' hb => w_spec_HouseValid w' _ aC ak.1.1 hS1 aD ak.1.2.1 hS2 aE ak.1.2.2.1 hS3 ak.1.2.2.2.1 aF ak.1.2.2.2.2 hS4 dF dG (bE.grow hb).ctx) (by rfl) <| A (J q av) (qt_not q) q q <| A q (zf q av q) q q ?_
   exact hk _ (p (vb aX) (cfn 3 q (u)))
  refine QL_nil fun a ha dH dI => ?_
  have a8 := bE.grow dI
  refine X (S ?_ ha)
  refine Y q (fun bF => ?_) (fun bF => ?_)
  ·have h := if_t bF h
   refine C <| Z ?_
   have dJ := R a8.p7
   refine zm (cs := [A0, A1, A2, iV B3, A4]) us27 uo27 il27 dJ q q q ?_
   change XL _ _ _ _ _ ((134, .agg #[A0, A1, A2, iV B3, A4]) :: _) _
   obtain ⟨bG, dK, h⟩ := D h
   refine zd q q c33 (w_spec_l7Copy dH _ A0 B0 (C0.c.c.c.c.c.c.c.c) A1 B1 (C1.c.c.c.c.c.c.c.c) A2 B2 (C2.c.c.c.c.c.c.c.c) B3 A4 B4 (C4.c.c.c.c.c.c.c.c) bG dK a8.ctx) (by rfl) ?_
   rintro _ gf ⟨bH, bI, bJ, bK, rfl, dL⟩; refine ⟨_, q, ?_⟩
   have dM := a8.cN4 [] dL
   have a9 := dM.p9
   refine zl (cs' := [bH, bI, bJ, iV bG.2.2.2.1, bK]) a9 q il27 q (T (a9.ctx.sliceOne hS1) (T (a9.ctx.sliceOne hS2) (T (a9.ctx.sliceOne hS3) (T q (T (a9.ctx.sliceOne hS4) q))))) q q q (fun gg cF => ?_)
   refine qA q q q <| B <| W fun a ha => ?_
   obtain rfl := L h
   have dN := R cF.p0
   have dO := cF.q0.q4.q4.q4.q4.q4.q4.q4.p3.p3.p3.p3
   exact m (retct q ha q q (run_loadVar_bx (cs := [bH, bI, bJ, iV bG.2.2.2.1, bK]) us27 uo27 il27 dN) ⟨bH, bI, bJ, bK, q, dO⟩)
  have h := if_f bF h
  refine y <| C <| Z ?_
  have dP := R a8.p0
  refine zm (cs := [aC, aD, aE, iV ak.1.2.2.2.1, aF]) us27 uo27 il27 dP q q q ?_
  change XL _ _ _ _ _ ((136, .agg #[aC, aD, aE, iV ak.1.2.2.2.1, aF]) :: _) _
  have ba := a8.p5
  refine zl (cs' := [aC, aD, aE, iV ak.1.2.2.2.1, aF]) ba q il27 q (T (ba.ctx.sliceOne hS2) (T (ba.ctx.sliceOne hS3) (T (ba.ctx.sliceOne hS4) (T q (T (ba.ctx.sliceOne hS5) q))))) q q q (fun gh cG => ?_)
  refine qA q q q <| B <| W fun a ha => ?_
  obtain rfl := L h
  have dQ := R cG.p0
  have dR := cG.q0.q0.q4.q4.p3.p3.p3.p3
  exact retct q ha q q (run_loadVar_bx (cs := [aC, aD, aE, iV ak.1.2.2.2.1, aF]) us27 uo27 il27 dQ) ⟨aC, aD, aE, aF, q, dR⟩
 have h := if_f bD h
 refine rR <| qF uf29 fi29_0 nz3 q q q ?_
 have dS := R ab.p6
 refine l u3 q dS q q q q <| A q (qt_eql q q) q q <| qA q q q <| B ?_
 refine Y q (fun bL => ?_) (fun bL => ?_)
 ·have h := if_t bL h
  refine Z ?_
  have dT := R ab.p0
  refine zm (cs := [ad, ae, af, iV aa.2.2.2.1, ag]) us27 uo27 il27 dT q q q ?_
  change XL _ _ _ _ _ ((72, .agg #[ad, ae, af, iV aa.2.2.2.1, ag]) :: _) _
  refine qF uf29 fi29_1 nz3 q q q ?_
  have dU := R ab.p6
  refine l u3 q dU q q q q <| qF uf29 fi29_2 nz3 q q q ?_
  have dV := R ab.p6
  refine l u3 q dV q q q q ?_
  have dW := ab.p4
  have dX := dW.p4
  have dY := dX.p4
  have cH := dY.p4
  obtain ⟨al, dZ, h⟩ := D h
  refine zd q q c35 (w_spec_l7Make a5 _ ad aa.1 ae aa.2.1 af aa.2.2.1 aa.2.2.2.1 ag aa.2.2.2.2 p1_1 p1_2 al dZ cH.ctx) (by rfl) ?_
  rintro _ gi ⟨aG, aH, aI, aJ, rfl, d0⟩; refine ⟨_, q, ?_⟩
  have d1 := cH.cN4 [_, _, _, _] d0
  refine qM q q q <| A q (zv q q) q q <| A q (zv q q) q q ?_
  have bb := d1.p4
  refine zl (cs' := [aG, aH, aI, iV al.1.2.2.2.1, aJ]) bb q il27 q (T (bb.ctx.sliceOne hS1) (T (bb.ctx.sliceOne hS2) (T (bb.ctx.sliceOne hS3) (T q (T (bb.ctx.sliceOne hS4) q))))) q q q (fun gj bM => ?_)
  refine qA q q q <| WL_nil fun a ha => ?_
  refine zi (X (S ?_ ha))
  refine C <| C <| zk <| qM q q q <| A q (qt_not q) q q <| qM q q q ?_
  obtain ⟨d2, aY, h⟩ := D h
  refine zh 4 133 (.bool d2) ?_ (fun md hmd hk => ?_)
  rotate_left
  ·obtain ⟨K, rfl⟩ := zr hmd
   rcases btf (!al.2) with aw | aw
   ·skip
    refine qS q aw q q <| qS q aw q q <| qS q aw q q <| A q (ze q aw q) q q ?_
    exact hk _ (p (vb (if_t aw aY)) (cfn 3 q (u)))
   skip
   have aY := if_f aw aY
   have d3 := R bM.p0
   refine zm (cs := [aG, aH, aI, iV al.1.2.2.2.1, aJ]) us27 uo27 il27 d3 (J q aw) q q ?_
   change XL _ _ _ _ _ ((130, .agg #[aG, aH, aI, iV al.1.2.2.2.1, aJ]) :: _) _
   obtain ⟨d4, d5, aY⟩ := D aY
   refine QC (J q aw) q c17 (fun w' hb => w_spec_HouseValid w' _ aG al.1.1 hS1 aH al.1.2.1 hS2 aI al.1.2.2.1 hS3 al.1.2.2.2.1 aJ al.1.2.2.2.2 hS4 d4 d5 (bM.grow hb).ctx) (by rfl) <| A (J q aw) (qt_not q) q q <| A q (zf q aw q) q q ?_
   exact hk _ (p (vb aY) (cfn 3 q (u)))
  refine QL_nil fun a ha d6 d7 => ?_
  have bc := bM.grow d7
  refine X (S ?_ ha)
  refine Y q (fun bN => ?_) (fun bN => ?_)
  ·have h := if_t bN h
   refine C <| Z ?_
   have d8 := R bc.p7
   refine zm (cs := [A0, A1, A2, iV B3, A4]) us27 uo27 il27 d8 q q q ?_
   change XL _ _ _ _ _ ((134, .agg #[A0, A1, A2, iV B3, A4]) :: _) _
   obtain ⟨bO, d9, h⟩ := D h
   refine zd q q c33 (w_spec_l7Copy d6 _ A0 B0 (C0.c.c.c.c.c.c.c.c) A1 B1 (C1.c.c.c.c.c.c.c.c) A2 B2 (C2.c.c.c.c.c.c.c.c) B3 A4 B4 (C4.c.c.c.c.c.c.c.c) bO d9 bc.ctx) (by rfl) ?_
   rintro _ gk ⟨bP, bQ, bR, bS, rfl, ea⟩; refine ⟨_, q, ?_⟩
   have eb := bc.cN4 [] ea
   have bd := eb.p9
   refine zl (cs' := [bP, bQ, bR, iV bO.2.2.2.1, bS]) bd q il27 q (T (bd.ctx.sliceOne hS1) (T (bd.ctx.sliceOne hS2) (T (bd.ctx.sliceOne hS3) (T q (T (bd.ctx.sliceOne hS4) q))))) q q q (fun gl cI => ?_)
   refine qA q q q <| B <| W fun a ha => ?_
   obtain rfl := L h
   have ec := R cI.p0
   have ed := cI.q0.q4.q4.q4.q4.q4.q4.q4.p3.p3.p3.p3
   exact m (retct q ha q q (run_loadVar_bx (cs := [bP, bQ, bR, iV bO.2.2.2.1, bS]) us27 uo27 il27 ec) ⟨bP, bQ, bR, bS, q, ed⟩)
  have h := if_f bN h
  refine y <| C <| Z ?_
  have ee := R bc.p0
  refine zm (cs := [aG, aH, aI, iV al.1.2.2.2.1, aJ]) us27 uo27 il27 ee q q q ?_
  change XL _ _ _ _ _ ((136, .agg #[aG, aH, aI, iV al.1.2.2.2.1, aJ]) :: _) _
  have be := bc.p5
  refine zl (cs' := [aG, aH, aI, iV al.1.2.2.2.1, aJ]) be q il27 q (T (be.ctx.sliceOne hS2) (T (be.ctx.sliceOne hS3) (T (be.ctx.sliceOne hS4) (T q (T (be.ctx.sliceOne hS5) q))))) q q q (fun gm cJ => ?_)
  refine qA q q q <| B <| W fun a ha => ?_
  obtain rfl := L h
  have ef := R cJ.p0
  have eg := cJ.q0.q0.q4.q4.p3.p3.p3.p3
  exact retct q ha q q (run_loadVar_bx (cs := [aG, aH, aI, iV al.1.2.2.2.1, aJ]) us27 uo27 il27 ef) ⟨aG, aH, aI, aJ, q, eg⟩
 have h := if_f bL h
 refine rR <| qF uf29 fi29_0 nz3 q q q ?_
 have eh := R ab.p6
 refine l u3 q eh q q q q <| A q (qt_eql q q) q q <| qA q q q <| B ?_
 refine Y q (fun bT => ?_) (fun bT => ?_)
 ·have h := if_t bT h
  refine rR <| qF uf27 fi27_4 nz25 q q q ?_
  have ei := R ab.p0
  refine l u25 q ei q q q q <| qF uf29 fi29_1 nz3 q q q ?_
  have ej := R ab.p6
  refine l u3 q ej q q q q <| A q (qt_build (args := [(0, .tmp 87)]) (css := [#[iV p1_1]]) (cells := #[iV p1_1, nS, nS]) q ⟨q, trivial⟩ (by kernel_rfl)) q q ?_
  refine zs (t := ty12) (args := [.tmp 88]) (xs := ([(p1_1, [], [])] : LT)) ab (BltL.cons (Blt.pair (Blt.int) (Blt.pair (Blt.slice (HasRo.nil)) (Blt.slice (HasRo.nil)))) q (BltL.nil)) u25 j47 q q q q q q (fun gn go ek => ?_)
  have el := ek.p5
  obtain ⟨em, en, h⟩ := D h
  refine zw el hS1 en u25 j47 q q q q q q (fun aW gp eo => ?_)
  refine qF uf27 fi27_4 nz25 q q q ?_
  have bU := eo.p2
  refine WL_store_bx bU q il25 (bU.ctx.sliceCells hS1) (bU.ctx.sliceOne hS1) q q q (fun gq bV => ?_)
  refine B <| Z <| qA q q q <| WL_nil fun a ha => ?_
  refine zi (X (S ?_ ha))
  refine C <| C <| zk <| qM q q q <| A q (qt_not q) q q <| qM q q q ?_
  obtain ⟨ep, aZ, h⟩ := D h
  refine zh 4 133 (.bool ep) ?_ (fun md hmd hk => ?_)
  rotate_left
  ·obtain ⟨K, rfl⟩ := zr hmd
   rcases btf (!true) with ax | ax
   ·skip
    refine qS q ax q q <| qS q ax q q <| qS q ax q q <| A q (ze q ax q) q q ?_
    exact hk _ (p (vb (if_t ax aZ)) (cfn 3 q (u)))
   skip
   have aZ := if_f ax aZ
   have er := R bV.p0
   refine zm (cs := [ad, ae, af, iV aa.2.2.2.1, aW]) us27 uo27 il27 er (J q ax) q q ?_
   change XL _ _ _ _ _ ((130, .agg #[ad, ae, af, iV aa.2.2.2.1, aW]) :: _) _
   obtain ⟨es, et, aZ⟩ := D aZ
   refine QC (J q ax) q c17 (fun w' hb => w_spec_HouseValid w' _ ad aa.1 hS3 ae aa.2.1 hS4 af aa.2.2.1 hS5 aa.2.2.2.1 aW em hS1 es et (bV.grow hb).ctx) (by rfl) <| A (J q ax) (qt_not q) q q <| A q (zf q ax q) q q ?_
   exact hk _ (p (vb aZ) (cfn 3 q (u)))
  refine QL_nil fun a ha eu ew => ?_
  have bf := bV.grow ew
  refine X (S ?_ ha)
  refine Y q (fun bW => ?_) (fun bW => ?_)
  ·have h := if_t bW h
   refine C <| Z ?_
   have ey := R bf.p8
   refine zm (cs := [A0, A1, A2, iV B3, A4]) us27 uo27 il27 ey q q q ?_
   change XL _ _ _ _ _ ((134, .agg #[A0, A1, A2, iV B3, A4]) :: _) _
   obtain ⟨bX, ez, h⟩ := D h
   refine zd q q c33 (w_spec_l7Copy eu _ A0 B0 (C0.c.c.c.c.c.c.c.c.c) A1 B1 (C1.c.c.c.c.c.c.c.c.c) A2 B2 (C2.c.c.c.c.c.c.c.c.c) B3 A4 B4 (C4.c.c.c.c.c.c.c.c.c) bX ez bf.ctx) (by rfl) ?_
   rintro _ gr ⟨bY, bZ, b0, b4, rfl, eA⟩; refine ⟨_, q, ?_⟩
   have eB := bf.cN4 [] eA
   have bg := eB.p10
   refine zl (cs' := [bY, bZ, b0, iV bX.2.2.2.1, b4]) bg q il27 q (T (bg.ctx.sliceOne hS1) (T (bg.ctx.sliceOne hS2) (T (bg.ctx.sliceOne hS3) (T q (T (bg.ctx.sliceOne hS4) q))))) q q q (fun gs cK => ?_)
   refine qA q q q <| B <| W fun a ha => ?_
   obtain rfl := L h
   have eC := R cK.p0
   have eD := cK.q0.q4.q4.q4.q4.q4.q4.q4.q4.p3.p3.p3.p3
   exact m (retct q ha q q (run_loadVar_bx (cs := [bY, bZ, b0, iV bX.2.2.2.1, b4]) us27 uo27 il27 eC) ⟨bY, bZ, b0, b4, q, eD⟩)
  have h := if_f bW h
  refine y <| C <| Z ?_
  have eE := R bf.p0
  refine zm (cs := [ad, ae, af, iV aa.2.2.2.1, aW]) us27 uo27 il27 eE q q q ?_
  change XL _ _ _ _ _ ((136, .agg #[ad, ae, af, iV aa.2.2.2.1, aW]) :: _) _
  have bh := bf.p6
  refine zl (cs' := [ad, ae, af, iV aa.2.2.2.1, aW]) bh q il27 q (T (bh.ctx.sliceOne hS4) (T (bh.ctx.sliceOne hS5) (T (bh.ctx.sliceOne hS6) (T q (T (bh.ctx.sliceOne hS2) q))))) q q q (fun gt cL => ?_)
  refine qA q q q <| B <| W fun a ha => ?_
  obtain rfl := L h
  have eF := R cL.p0
  have eG := cL.q0.q0.q1.q4.q4.p3.p3.p3
  exact retct q ha q q (run_loadVar_bx (cs := [ad, ae, af, iV aa.2.2.2.1, aW]) us27 uo27 il27 eF) ⟨ad, ae, af, aW, q, eG⟩
 have h := if_f bT h
 refine rR <| qF uf29 fi29_0 nz3 q q q ?_
 have eH := R ab.p6
 refine l u3 q eH q q q q <| A q (qt_eql q q) q q <| qA q q q <| B ?_
 refine Y q (fun b6 => ?_) (fun b6 => ?_)
 ·have h := if_t b6 h
  refine Z ?_
  have eI := R ab.p0
  refine zm (cs := [ad, ae, af, iV aa.2.2.2.1, ag]) us27 uo27 il27 eI q q q ?_
  change XL _ _ _ _ _ ((97, .agg #[ad, ae, af, iV aa.2.2.2.1, ag]) :: _) _
  refine qF uf29 fi29_1 nz3 q q q ?_
  have eJ := R ab.p6
  refine l u3 q eJ q q q q <| qF uf29 fi29_2 nz3 q q q ?_
  have eK := R ab.p6
  refine l u3 q eK q q q q <| qF uf29 fi29_3 nz3 q q q ?_
  have eL := R ab.p6
  refine l u3 q eL q q q q ?_
  have eM := ab.p4
  have eN := eM.p4
  have eO := eN.p4
  have cM := eO.p4
  obtain ⟨am, eP, h⟩ := D h
  refine zd q q c36 (w_spec_l7Order a5 _ ad aa.1 ae aa.2.1 af aa.2.2.1 aa.2.2.2.1 ag aa.2.2.2.2 p1_1 p1_2 p1_3 am eP cM.ctx) (by rfl) ?_
  rintro _ gu ⟨aK, aL, aM, aN, rfl, eQ⟩; refine ⟨_, q, ?_⟩
  have eR := cM.cN4 [_, _, _, _] eQ
  refine qM q q q <| A q (zv q q) q q <| A q (zv q q) q q ?_
  have bi := eR.p4
  refine zl (cs' := [aK, aL, aM, iV am.1.2.2.2.1, aN]) bi q il27 q (T (bi.ctx.sliceOne hS1) (T (bi.ctx.sliceOne hS2) (T (bi.ctx.sliceOne hS3) (T q (T (bi.ctx.sliceOne hS4) q))))) q q q (fun gv b7 => ?_)
  refine qA q q q <| WL_nil fun a ha => ?_
  refine zi (X (S ?_ ha))
  refine C <| C <| zk <| qM q q q <| A q (qt_not q) q q <| qM q q q ?_
  obtain ⟨eS, a0, h⟩ := D h
  refine zh 4 133 (.bool eS) ?_ (fun md hmd hk => ?_)
  rotate_left
  ·obtain ⟨K, rfl⟩ := zr hmd
   rcases btf (!am.2) with ay | ay
   ·skip
    refine qS q ay q q <| qS q ay q q <| qS q ay q q <| A q (ze q ay q) q q ?_
    exact hk _ (p (vb (if_t ay a0)) (cfn 3 q (u)))
   skip
   have a0 := if_f ay a0
   have eT := R b7.p0
   refine zm (cs := [aK, aL, aM, iV am.1.2.2.2.1, aN]) us27 uo27 il27 eT (J q ay) q q ?_
   change XL _ _ _ _ _ ((130, .agg #[aK, aL, aM, iV am.1.2.2.2.1, aN]) :: _) _
   obtain ⟨eU, eV, a0⟩ := D a0
   refine QC (J q ay) q c17 (fun w' hb => w_spec_HouseValid w' _ aK am.1.1 hS1 aL am.1.2.1 hS2 aM am.1.2.2.1 hS3 am.1.2.2.2.1 aN am.1.2.2.2.2 hS4 eU eV (b7.grow hb).ctx) (by rfl) <| A (J q ay) (qt_not q) q q <| A q (zf q ay q) q q ?_
   exact hk _ (p (vb a0) (cfn 3 q (u)))
  refine QL_nil fun a ha eW eX => ?_
  have bj := b7.grow eX
  refine X (S ?_ ha)
  refine Y q (fun b8 => ?_) (fun b8 => ?_)
  ·have h := if_t b8 h
   refine C <| Z ?_
   have eY := R bj.p7
   refine zm (cs := [A0, A1, A2, iV B3, A4]) us27 uo27 il27 eY q q q ?_
   change XL _ _ _ _ _ ((134, .agg #[A0, A1, A2, iV B3, A4]) :: _) _
   obtain ⟨ca, eZ, h⟩ := D h
   refine zd q q c33 (w_spec_l7Copy eW _ A0 B0 (C0.c.c.c.c.c.c.c.c) A1 B1 (C1.c.c.c.c.c.c.c.c) A2 B2 (C2.c.c.c.c.c.c.c.c) B3 A4 B4 (C4.c.c.c.c.c.c.c.c) ca eZ bj.ctx) (by rfl) ?_
   rintro _ gw ⟨cb, cc, cd, ce, rfl, e0⟩; refine ⟨_, q, ?_⟩
   have e1 := bj.cN4 [] e0
   have bk := e1.p9
   refine zl (cs' := [cb, cc, cd, iV ca.2.2.2.1, ce]) bk q il27 q (T (bk.ctx.sliceOne hS1) (T (bk.ctx.sliceOne hS2) (T (bk.ctx.sliceOne hS3) (T q (T (bk.ctx.sliceOne hS4) q))))) q q q (fun gx cN => ?_)
   refine qA q q q <| B <| W fun a ha => ?_
   obtain rfl := L h
   have e2 := R cN.p0
   have e3 := cN.q0.q4.q4.q4.q4.q4.q4.q4.p3.p3.p3.p3
   exact m (retct q ha q q (run_loadVar_bx (cs := [cb, cc, cd, iV ca.2.2.2.1, ce]) us27 uo27 il27 e2) ⟨cb, cc, cd, ce, q, e3⟩)
  have h := if_f b8 h
  refine y <| C <| Z ?_
  have e4 := R bj.p0
  refine zm (cs := [aK, aL, aM, iV am.1.2.2.2.1, aN]) us27 uo27 il27 e4 q q q ?_
  change XL _ _ _ _ _ ((136, .agg #[aK, aL, aM, iV am.1.2.2.2.1, aN]) :: _) _
  have bl := bj.p5
  refine zl (cs' := [aK, aL, aM, iV am.1.2.2.2.1, aN]) bl q il27 q (T (bl.ctx.sliceOne hS2) (T (bl.ctx.sliceOne hS3) (T (bl.ctx.sliceOne hS4) (T q (T (bl.ctx.sliceOne hS5) q))))) q q q (fun gy cO => ?_)
  refine qA q q q <| B <| W fun a ha => ?_
  obtain rfl := L h
  have e5 := R cO.p0
  have e6 := cO.q0.q0.q4.q4.p3.p3.p3.p3
  exact retct q ha q q (run_loadVar_bx (cs := [aK, aL, aM, iV am.1.2.2.2.1, aN]) us27 uo27 il27 e5) ⟨aK, aL, aM, aN, q, e6⟩
 have h := if_f b6 h
 refine rR <| qF uf29 fi29_0 nz3 q q q ?_
 have e7 := R ab.p6
 refine l u3 q e7 q q q q <| A q (qt_eql q q) q q <| qA q q q <| B ?_
 refine Y q (fun cf => ?_) (fun cf => ?_)
 ·have h := if_t cf h
  refine Z ?_
  have e8 := R ab.p0
  refine zm (cs := [ad, ae, af, iV aa.2.2.2.1, ag]) us27 uo27 il27 e8 q q q ?_
  change XL _ _ _ _ _ ((112, .agg #[ad, ae, af, iV aa.2.2.2.1, ag]) :: _) _
  have e9 := ab.p4
  have fa := e9.p4
  have fb := fa.p4
  have cP := fb.p4
  obtain ⟨an, fc, h⟩ := D h
  refine zd q q c37 (w_spec_l7Work a5 _ ad aa.1 ae aa.2.1 af aa.2.2.1 aa.2.2.2.1 ag aa.2.2.2.2 an fc cP.ctx) (by rfl) ?_
  rintro _ gz ⟨aO, aP, aQ, aR, rfl, fd⟩; refine ⟨_, q, ?_⟩
  have fe := cP.cN4 [_, _, _, _] fd
  refine qM q q q <| A q (zv q q) q q <| A q (zv q q) q q ?_
  have bm := fe.p4
  refine zl (cs' := [aO, aP, aQ, iV an.1.2.2.2.1, aR]) bm q il27 q (T (bm.ctx.sliceOne hS1) (T (bm.ctx.sliceOne hS2) (T (bm.ctx.sliceOne hS3) (T q (T (bm.ctx.sliceOne hS4) q))))) q q q (fun gA cg => ?_)
  refine qA q q q <| WL_nil fun a ha => ?_
  refine zi (X (S ?_ ha))
  refine C <| C <| zk <| qM q q q <| A q (qt_not q) q q <| qM q q q ?_
  obtain ⟨ff, a1, h⟩ := D h
  refine zh 4 133 (.bool ff) ?_ (fun md hmd hk => ?_)
  rotate_left
  ·obtain ⟨K, rfl⟩ := zr hmd
   rcases btf (!an.2) with az | az
   ·skip
    refine qS q az q q <| qS q az q q <| qS q az q q <| A q (ze q az q) q q ?_
    exact hk _ (p (vb (if_t az a1)) (cfn 3 q (u)))
   skip
   have a1 := if_f az a1
   have fg := R cg.p0
   refine zm (cs := [aO, aP, aQ, iV an.1.2.2.2.1, aR]) us27 uo27 il27 fg (J q az) q q ?_
   change XL _ _ _ _ _ ((130, .agg #[aO, aP, aQ, iV an.1.2.2.2.1, aR]) :: _) _
   obtain ⟨fh, fi, a1⟩ := D a1
   refine QC (J q az) q c17 (fun w' hb => w_spec_HouseValid w' _ aO an.1.1 hS1 aP an.1.2.1 hS2 aQ an.1.2.2.1 hS3 an.1.2.2.2.1 aR an.1.2.2.2.2 hS4 fh fi (cg.grow hb).ctx) (by rfl) <| A (J q az) (qt_not q) q q <| A q (zf q az q) q q ?_
   exact hk _ (p (vb a1) (cfn 3 q (u)))
  refine QL_nil fun a ha fj fk => ?_
  have bn := cg.grow fk
  refine X (S ?_ ha)
  refine Y q (fun ch => ?_) (fun ch => ?_)
  ·have h := if_t ch h
   refine C <| Z ?_
   have fl := R bn.p7
   refine zm (cs := [A0, A1, A2, iV B3, A4]) us27 uo27 il27 fl q q q ?_
   change XL _ _ _ _ _ ((134, .agg #[A0, A1, A2, iV B3, A4]) :: _) _
   obtain ⟨ci, fm, h⟩ := D h
   refine zd q q c33 (w_spec_l7Copy fj _ A0 B0 (C0.c.c.c.c.c.c.c.c) A1 B1 (C1.c.c.c.c.c.c.c.c) A2 B2 (C2.c.c.c.c.c.c.c.c) B3 A4 B4 (C4.c.c.c.c.c.c.c.c) ci fm bn.ctx) (by rfl) ?_
   rintro _ gB ⟨cj, ck, cl, cm, rfl, fn⟩; refine ⟨_, q, ?_⟩
   have fo := bn.cN4 [] fn
   have bo := fo.p9
   refine zl (cs' := [cj, ck, cl, iV ci.2.2.2.1, cm]) bo q il27 q (T (bo.ctx.sliceOne hS1) (T (bo.ctx.sliceOne hS2) (T (bo.ctx.sliceOne hS3) (T q (T (bo.ctx.sliceOne hS4) q))))) q q q (fun gC cQ => ?_)
   refine qA q q q <| B <| W fun a ha => ?_
   obtain rfl := L h
   have fp := R cQ.p0
   have fq := cQ.q0.q4.q4.q4.q4.q4.q4.q4.p3.p3.p3.p3
   exact m (retct q ha q q (run_loadVar_bx (cs := [cj, ck, cl, iV ci.2.2.2.1, cm]) us27 uo27 il27 fp) ⟨cj, ck, cl, cm, q, fq⟩)
  have h := if_f ch h
  refine y <| C <| Z ?_
  have fr := R bn.p0
  refine zm (cs := [aO, aP, aQ, iV an.1.2.2.2.1, aR]) us27 uo27 il27 fr q q q ?_
  change XL _ _ _ _ _ ((136, .agg #[aO, aP, aQ, iV an.1.2.2.2.1, aR]) :: _) _
  have bp := bn.p5
  refine zl (cs' := [aO, aP, aQ, iV an.1.2.2.2.1, aR]) bp q il27 q (T (bp.ctx.sliceOne hS2) (T (bp.ctx.sliceOne hS3) (T (bp.ctx.sliceOne hS4) (T q (T (bp.ctx.sliceOne hS5) q))))) q q q (fun gD cR => ?_)
  refine qA q q q <| B <| W fun a ha => ?_
  obtain rfl := L h
  have fs := R cR.p0
  have ft := cR.q0.q0.q4.q4.p3.p3.p3.p3
  exact retct q ha q q (run_loadVar_bx (cs := [aO, aP, aQ, iV an.1.2.2.2.1, aR]) us27 uo27 il27 fs) ⟨aO, aP, aQ, aR, q, ft⟩
 have h := if_f cf h
 refine rR <| qF uf29 fi29_0 nz3 q q q ?_
 have fu := R ab.p6
 refine l u3 q fu q q q q <| A q (qt_eql q q) q q <| qA q q q <| B ?_
 refine Y q (fun cn => ?_) (fun cn => ?_)
 ·have h := if_t cn h
  refine Z ?_
  have fv := R ab.p0
  refine zm (cs := [ad, ae, af, iV aa.2.2.2.1, ag]) us27 uo27 il27 fv q q q ?_
  change XL _ _ _ _ _ ((121, .agg #[ad, ae, af, iV aa.2.2.2.1, ag]) :: _) _
  refine qF uf29 fi29_1 nz3 q q q ?_
  have fw := R ab.p6
  refine l u3 q fw q q q q ?_
  have fx := ab.p4
  have fy := fx.p4
  have fz := fy.p4
  have cS := fz.p4
  obtain ⟨ao, fA, h⟩ := D h
  refine zd q q c38 (w_spec_l7Close a5 _ ad aa.1 ae aa.2.1 af aa.2.2.1 aa.2.2.2.1 ag aa.2.2.2.2 p1_1 ao fA cS.ctx) (by rfl) ?_
  rintro _ gE ⟨aS, aT, aU, aV, rfl, fB⟩; refine ⟨_, q, ?_⟩
  have fC := cS.cN4 [_, _, _, _] fB
  refine qM q q q <| A q (zv q q) q q <| A q (zv q q) q q ?_
  have bq := fC.p4
  refine zl (cs' := [aS, aT, aU, iV ao.1.2.2.2.1, aV]) bq q il27 q (T (bq.ctx.sliceOne hS1) (T (bq.ctx.sliceOne hS2) (T (bq.ctx.sliceOne hS3) (T q (T (bq.ctx.sliceOne hS4) q))))) q q q (fun gF co => ?_)
  refine qA q q q <| WL_nil fun a ha => ?_
  refine zi (X (S ?_ ha))
  refine C <| C <| zk <| qM q q q <| A q (qt_not q) q q <| qM q q q ?_
  obtain ⟨fD, a2, h⟩ := D h
  refine zh 4 133 (.bool fD) ?_ (fun md hmd hk => ?_)
  rotate_left
  ·obtain ⟨K, rfl⟩ := zr hmd
   rcases btf (!ao.2) with aA | aA
   ·skip
    refine qS q aA q q <| qS q aA q q <| qS q aA q q <| A q (ze q aA q) q q ?_
    exact hk _ (p (vb (if_t aA a2)) (cfn 3 q (u)))
   skip
   have a2 := if_f aA a2
   have fE := R co.p0
   refine zm (cs := [aS, aT, aU, iV ao.1.2.2.2.1, aV]) us27 uo27 il27 fE (J q aA) q q ?_
   change XL _ _ _ _ _ ((130, .agg #[aS, aT, aU, iV ao.1.2.2.2.1, aV]) :: _) _
   obtain ⟨fF, fG, a2⟩ := D a2
   refine QC (J q aA) q c17 (fun w' hb => w_spec_HouseValid w' _ aS ao.1.1 hS1 aT ao.1.2.1 hS2 aU ao.1.2.2.1 hS3 ao.1.2.2.2.1 aV ao.1.2.2.2.2 hS4 fF fG (co.grow hb).ctx) (by rfl) <| A (J q aA) (qt_not q) q q <| A q (zf q aA q) q q ?_
   exact hk _ (p (vb a2) (cfn 3 q (u)))
  refine QL_nil fun a ha fH fI => ?_
  have br := co.grow fI
  refine X (S ?_ ha)
  refine Y q (fun cp => ?_) (fun cp => ?_)
  ·have h := if_t cp h
   refine C <| Z ?_
   have fJ := R br.p7
   refine zm (cs := [A0, A1, A2, iV B3, A4]) us27 uo27 il27 fJ q q q ?_
   change XL _ _ _ _ _ ((134, .agg #[A0, A1, A2, iV B3, A4]) :: _) _
   obtain ⟨cq, fK, h⟩ := D h
   refine zd q q c33 (w_spec_l7Copy fH _ A0 B0 (C0.c.c.c.c.c.c.c.c) A1 B1 (C1.c.c.c.c.c.c.c.c) A2 B2 (C2.c.c.c.c.c.c.c.c) B3 A4 B4 (C4.c.c.c.c.c.c.c.c) cq fK br.ctx) (by rfl) ?_
   rintro _ gG ⟨cr, ct, cu, cv, rfl, fL⟩; refine ⟨_, q, ?_⟩
   have fM := br.cN4 [] fL
   have bs := fM.p9
   refine zl (cs' := [cr, ct, cu, iV cq.2.2.2.1, cv]) bs q il27 q (T (bs.ctx.sliceOne hS1) (T (bs.ctx.sliceOne hS2) (T (bs.ctx.sliceOne hS3) (T q (T (bs.ctx.sliceOne hS4) q))))) q q q (fun gH cT => ?_)
   refine qA q q q <| B <| W fun a ha => ?_
   obtain rfl := L h
   have fN := R cT.p0
   have fO := cT.q0.q4.q4.q4.q4.q4.q4.q4.p3.p3.p3.p3
   exact m (retct q ha q q (run_loadVar_bx (cs := [cr, ct, cu, iV cq.2.2.2.1, cv]) us27 uo27 il27 fN) ⟨cr, ct, cu, cv, q, fO⟩)
  have h := if_f cp h
  refine y <| C <| Z ?_
  have fP := R br.p0
  refine zm (cs := [aS, aT, aU, iV ao.1.2.2.2.1, aV]) us27 uo27 il27 fP q q q ?_
  change XL _ _ _ _ _ ((136, .agg #[aS, aT, aU, iV ao.1.2.2.2.1, aV]) :: _) _
  have bt := br.p5
  refine zl (cs' := [aS, aT, aU, iV ao.1.2.2.2.1, aV]) bt q il27 q (T (bt.ctx.sliceOne hS2) (T (bt.ctx.sliceOne hS3) (T (bt.ctx.sliceOne hS4) (T q (T (bt.ctx.sliceOne hS5) q))))) q q q (fun gI cU => ?_)
  refine qA q q q <| B <| W fun a ha => ?_
  obtain rfl := L h
  have fQ := R cU.p0
  have fR := cU.q0.q0.q4.q4.p3.p3.p3.p3
  exact retct q ha q q (run_loadVar_bx (cs := [aS, aT, aU, iV ao.1.2.2.2.1, aV]) us27 uo27 il27 fQ) ⟨aS, aT, aU, aV, q, fR⟩
 have h := if_f cn h
 refine WP_skip fun a ha => ?_
 refine zi (X (S ?_ ha))
 refine C <| C <| zk <| qM q q q <| A q (qt_not q) q q <| qM q q q ?_
 obtain ⟨fS, a3, h⟩ := D h
 refine zh 4 133 (.bool fS) ?_ (fun md hmd hk => ?_)
 rotate_left
 ·obtain ⟨K, rfl⟩ := zr hmd
  rcases btf (!false) with aB | aB
  ·skip
   refine qS q aB q q <| qS q aB q q <| qS q aB q q <| A q (ze q aB q) q q ?_
   exact hk _ (p (vb (if_t aB a3)) (cfn 3 q (u)))
  skip
  have a3 := if_f aB a3
  have fT := R ab.p0
  refine zm (cs := [ad, ae, af, iV aa.2.2.2.1, ag]) us27 uo27 il27 fT (J q aB) q q ?_
  change XL _ _ _ _ _ ((130, .agg #[ad, ae, af, iV aa.2.2.2.1, ag]) :: _) _
  obtain ⟨fU, fV, a3⟩ := D a3
  refine QC (J q aB) q c17 (fun w' hb => w_spec_HouseValid w' _ ad aa.1 hS1 ae aa.2.1 hS2 af aa.2.2.1 hS3 aa.2.2.2.1 ag aa.2.2.2.2 hS4 fU fV (ab.grow hb).ctx) (by rfl) <| A (J q aB) (qt_not q) q q <| A q (zf q aB q) q q ?_
  exact hk _ (p (vb a3) (cfn 3 q (u)))
 refine QL_nil fun a ha fW fX => ?_
 have bu := ab.grow fX
 refine X (S ?_ ha)
 refine Y q (fun cw => ?_) (fun cw => ?_)
 ·have h := if_t cw h
  refine C <| Z ?_
  have fY := R bu.p7
  refine zm (cs := [A0, A1, A2, iV B3, A4]) us27 uo27 il27 fY q q q ?_
  change XL _ _ _ _ _ ((134, .agg #[A0, A1, A2, iV B3, A4]) :: _) _
  obtain ⟨cx, fZ, h⟩ := D h
  refine zd q q c33 (w_spec_l7Copy fW _ A0 B0 (C0.c.c.c.c.c.c.c.c) A1 B1 (C1.c.c.c.c.c.c.c.c) A2 B2 (C2.c.c.c.c.c.c.c.c) B3 A4 B4 (C4.c.c.c.c.c.c.c.c) cx fZ bu.ctx) (by rfl) ?_
  rintro _ gJ ⟨cy, cz, cA, cB, rfl, f0⟩; refine ⟨_, q, ?_⟩
  have f1 := bu.cN4 [] f0
  have bv := f1.p9
  refine zl (cs' := [cy, cz, cA, iV cx.2.2.2.1, cB]) bv q il27 q (T (bv.ctx.sliceOne hS1) (T (bv.ctx.sliceOne hS2) (T (bv.ctx.sliceOne hS3) (T q (T (bv.ctx.sliceOne hS4) q))))) q q q (fun gK cV => ?_)
  refine qA q q q <| B <| W fun a ha => ?_
  obtain rfl := L h
  have f2 := R cV.p0
  have f3 := cV.q0.q4.q4.q4.q4.q4.q4.q4.p3.p3.p3.p3
  exact m (retct q ha q q (run_loadVar_bx (cs := [cy, cz, cA, iV cx.2.2.2.1, cB]) us27 uo27 il27 f2) ⟨cy, cz, cA, cB, q, f3⟩)
 have h := if_f cw h
 refine y <| C <| Z ?_
 have f4 := R bu.p0
 refine zm (cs := [ad, ae, af, iV aa.2.2.2.1, ag]) us27 uo27 il27 f4 q q q ?_
 change XL _ _ _ _ _ ((136, .agg #[ad, ae, af, iV aa.2.2.2.1, ag]) :: _) _
 have bw := bu.p5
 refine zl (cs' := [ad, ae, af, iV aa.2.2.2.1, ag]) bw q il27 q (T (bw.ctx.sliceOne hS2) (T (bw.ctx.sliceOne hS3) (T (bw.ctx.sliceOne hS4) (T q (T (bw.ctx.sliceOne hS5) q))))) q q q (fun gL cW => ?_)
 refine qA q q q <| B <| W fun a ha => ?_
 obtain rfl := L h
 have f5 := R cW.p0
 have f6 := cW.q0.q0.q4.q4.p3.p3.p3.p3
 exact retct q ha q q (run_loadVar_bx (cs := [ad, ae, af, iV aa.2.2.2.1, ag]) us27 uo27 il27 f5) ⟨ad, ae, af, ag, q, f6⟩
end Go.Proofs.YtpabogkcmbkffaaGreatDoor
