/- The walks: each Go function computes its shallow function. Printed by a program. -/
import Derived.Test.YtpabogkcmbkffaaGreatDoorWS7B1
set_option linter.unusedVariables false
set_option maxRecDepth 10000
namespace Go.Proofs.YtpabogkcmbkffaaGreatDoor
open Go Go.RowKit
theorem w_spec_l20HouseDeed (w : World) (G : List Res) (bp0 : Nat) (A0 : Value) (B0 : List Int) (C0 : Has G (.int .u8) A0 B0) (B1 : Int) (A1_0 : Value) (p1_0 : LI) (hp1_0 : Has G ty12 A1_0 p1_0) (A1_1 : Value) (p1_1 : List Int) (hp1_1 : Has G tI A1_1 p1_1) (A1_2 : Value) (p1_2 : List Int) (hp1_2 : Has G tI A1_2 p1_2) (p1_3 : Int) (A1_4 : Value) (p1_4 : LT) (hp1_4 : Has G ty14 A1_4 p1_4) (r : Int × (Int × Int × Int × Int)) (h : spec_l20HouseDeedS B0 B1 p1_0 p1_1 p1_2 p1_3 p1_4 = some r) (H : Ctx w ([.bx bp0 89 [A0, iV B1]] ++ G)) : Calls Tryz.prog 25 #[pB bp0, .agg #[A1_0, A1_1, A1_2, iV p1_3, A1_4]] w fun e w' => e = .returned (.agg #[iV r.2.1, iV r.2.2.1, iV r.2.2.2.1, iV r.2.2.2.2]) ∧ Holds (([.bx bp0 89 [A0, iV B1]] : List Res).flatMap Res.own) w w' [.bx bp0 89 [A0, iV r.1]] G := by
 have H : Holds (([.bx bp0 89 [A0, iV B1]] : List Res).flatMap Res.own) w w [.bx bp0 89 [A0, iV B1]] G := zb H
 refine zg (args := [pB bp0, .agg #[A1_0, A1_1, A1_2, iV p1_3, A1_4]]) (n := 87) Tryz.func25 q q q ?_
 unfold spec_l20HouseDeedS at h
 refine C <| Z ?_
 refine WL_box (cs := [A1_0, A1_1, A1_2, iV p1_3, A1_4]) H q q q q (fun b1 w2 H3 => ?_)
 refine zq (cs := [iV 0, iV 0, iV 0, iV 0]) H3 z29 q q q (fun b5 w6 H7 => ?_)
 refine B <| C ?_
 obtain ⟨ai, bv, h⟩ := D h
 obtain ⟨ad, ae, h⟩ := D h
 obtain ⟨aa, aj, h⟩ := D h
 obtain ⟨ab, ag, h⟩ := D h
 refine WP_join (M := fun a w2 => ∃ ao, Fr a 87 [(0, pB bp0), (3, pB b1), (4, pB b5), (5, pB ao)] ∧ Holds (([.bx bp0 89 [A0, iV B1]] : List Res).flatMap Res.own) w w2 [.bx bp0 89 [A0, iV ab.1], .bx b1 27 [A1_0, A1_1, A1_2, iV p1_3, A1_4], .bx b5 29 [iV 0, iV 0, iV 0, iV 0], .bx ao 29 [iV (IntKind.wrap .i64 (ad + (IntKind.wrap .i64 ((IntKind.wrap .i64 (Int.tdiv aa.2 59)) * 6)))), iV ab.2, iV 0, iV 0]] G) ?_ ?_
 ·refine WP_ordersT (fun w1 w2 => Chg (([.bx bp0 89 [A0, iV B1]] : List Res).flatMap Res.own) w1 w2) 18 (by kernel_rfl) (fun bD es => ?_)
  have et := H7.grow es
  have af := et.p2
  have cH : Ctx bD ([.bx bp0 89 [A0, iV B1]] ++ ([.bx b5 29 [iV 0, iV 0, iV 0, iV 0], .bx b1 27 [A1_0, A1_1, A1_2, iV p1_3, A1_4]] ++ G)) := af.ctx
  have al : Holds _ bD bD [.bx bp0 89 [A0, iV B1]] ([.bx b5 29 [iV 0, iV 0, iV 0, iV 0], .bx b1 27 [A1_0, A1_1, A1_2, iV p1_3, A1_4]] ++ G) := zb (Rs := [.bx bp0 89 [A0, iV B1]]) cH
  refine XQ (i := 1) q (by kernel_rfl) q al.chg q (fun _ => qt_move q) q q <| XQ (i := 5) q (by kernel_rfl) q al.chg q (fun _ => qt_move q) q q <| XQ (i := 10) q (by kernel_rfl) q al.chg q (fun _ => qt_move q) q q <| XQ (i := 11) q (by kernel_rfl) q al.chg q (fun _ => qt_fieldAddr uf27 fi27_0 nz23 q) q q ?_
  have eu := HasB.bx (HasB.c (HasB.c (HasB.hd))) al.ctx
  refine XT (i := 12) q (by kernel_rfl) q al.chg q (qs_cell u23 q q (eu.cell (i := 0) q) al.chg (Ctx.outB cH (HasB.c (HasB.hd)))) q q <| XT (i := 13) q (by kernel_rfl) q al.chg q (qs_len (t := ty12) al.ctx (hp1_0.c.c.c) u23 q) q q <| XQ (i := 14) q (by kernel_rfl) q al.chg q (fun _ => qt_max q q) q q ?_
  refine zy [0, 2, 17] (by kernel_rfl) (by simp) (allc ?_ (allc ?_ (allc ?_ alln)))
  ·refine XC_do q ?_
   refine zs (t := tI) (args := [.const (iV 0), .const (iV 0), .const (iV 1), .const (iV 1), .const (iV 2), .const (iV 3), .const (iV 3), .const (iV 3), .const (iV 4), .const (iV 4), .const (iV 4), .const (iV 5)]) (xs := ([0, 0, 1, 1, 2, 3, 3, 3, 4, 4, 4, 5] : List Int)) al (BltL.cons (Blt.int) q (BltL.cons (Blt.int) q (BltL.cons (Blt.int) q (BltL.cons (Blt.int) q (BltL.cons (Blt.int) q (BltL.cons (Blt.int) q (BltL.cons (Blt.int) q (BltL.cons (Blt.int) q (BltL.cons (Blt.int) q (BltL.cons (Blt.int) q (BltL.cons (Blt.int) q (BltL.cons (Blt.int) q (BltL.nil))))))))))))) u24 j3 q q q q q q (fun l7 ew bM => ?_)
   refine XN bM.chg ?_
   refine zy [2, 17] (by kernel_rfl) (by simp) (allc ?_ (allc ?_ alln))
   ·refine XC_do q ?_
    have cI := bM.p1
    refine zd q q c60 (w_spec_l20Rd__pick ew _ bp0 A0 B0 (C0.c.c.c) B1 12 ai bv cI.ctx) (by rfl) ?_
    rintro _ cJ ⟨rfl, ey⟩; refine ⟨_, q, ?_⟩
    have ap := cI.cN1 [_] ey
    refine XN ap.chg ?_
    obtain ⟨l8, l9, ma, aq⟩ := Ctx.isAt ap.ctx hS1 ae
    refine XT (i := 3) q (by kernel_rfl) q ap.chg q (qs_index ae aq u24 i3 q q) q q ?_
    refine zy [4, 6, 17] (by kernel_rfl) (by simp) (allc ?_ (allc ?_ (allc ?_ alln)))
    ·refine XC_do q ?_
     obtain ⟨mb, ez, mc⟩ := ap.at hS1 ae aq
     refine zt (k := .i64) u3 q ez q q q <| XN ap.chg ?_
     refine zy [6, 17] (by kernel_rfl) (by simp) (allc ?_ (allc ?_ alln))
     ·refine XC_do q ?_
      refine zd q q c60 (w_spec_l20Rd__pick cJ _ bp0 A0 B0 (C0.c.c.c) ai.1 60 aa aj ap.ctx) (by rfl) ?_
      rintro _ eA ⟨rfl, eB⟩; refine ⟨_, q, ?_⟩
      have aQ := ap.cN1 [_] eB
      refine XN aQ.chg <| XQ (i := 7) q (by kernel_rfl) q aQ.chg q (fun _ => qt_quo q q (by decide)) q q <| XQ (i := 8) q (by kernel_rfl) q aQ.chg q (fun _ => qt_mul q q) q q <| XQ (i := 9) q (by kernel_rfl) q aQ.chg q (fun _ => qt_add q q) q q ?_
      refine zy [15, 17] (by kernel_rfl) (by simp) (allc ?_ (allc ?_ alln))
      ·refine XC_do q ?_
       refine zd q q c60 (w_spec_l20Rd__pick eA _ bp0 A0 B0 (C0.c.c.c) aa.1 (if 1 > (List.length p1_0 : Int) then 1 else (List.length p1_0 : Int)) ab ag aQ.ctx) (by rfl) ?_
       rintro _ md ⟨rfl, eC⟩; refine ⟨_, q, ?_⟩
       have bN := aQ.cN1 [_] eC
       refine XN bN.chg <| XQ (i := 16) q (by kernel_rfl) q bN.chg q (fun _ => qt_build (args := [(0, .tmp 15), (1, .tmp 21)]) (css := [#[iV (IntKind.wrap .i64 (ad + (IntKind.wrap .i64 ((IntKind.wrap .i64 (Int.tdiv aa.2 59)) * 6))))], #[iV ab.2]]) (cells := #[iV (IntKind.wrap .i64 (ad + (IntKind.wrap .i64 ((IntKind.wrap .i64 (Int.tdiv aa.2 59)) * 6)))), iV ab.2, iV 0, iV 0]) q ⟨q, q, trivial⟩ (by kernel_rfl)) q q <| X1 17 (by kernel_rfl) q ?_
       refine zq (cs := [iV 0, iV 0, iV 0, iV 0]) bN z29 q q q (fun eD me cK => ?_)
       refine XN cK.chg ?_
       have eE := af.cN3 [_] cK
       refine X1 18 (by kernel_rfl) q ?_
       refine zl (cs' := [iV (IntKind.wrap .i64 (ad + (IntKind.wrap .i64 ((IntKind.wrap .i64 (Int.tdiv aa.2 59)) * 6)))), iV ab.2, iV 0, iV 0]) eE q il29 q q q q q (fun mf eF => ?_)
       refine XE q ?_
       refine XC_done (by kernel_rfl) (fun a ha => ?_)
       have eG := eF.q2.p2.p3.p3
       exact ⟨eD, ha.sub ⟨q, q, q, q, trivial⟩, eG⟩
      refine XC_do q ?_
      refine zq (cs := [iV 0, iV 0, iV 0, iV 0]) aQ z29 q q q (fun eH eI cL => ?_)
      refine XN cL.chg <| X1 15 (by kernel_rfl) q ?_
      have cM := cL.p1
      refine zd q q c60 (w_spec_l20Rd__pick eI _ bp0 A0 B0 (C0.c.c.c.c) aa.1 (if 1 > (List.length p1_0 : Int) then 1 else (List.length p1_0 : Int)) ab ag cM.ctx) (by rfl) ?_
      rintro _ mg ⟨rfl, eJ⟩; refine ⟨_, q, ?_⟩
      have bO := cM.cN1 [_] eJ
      refine XN bO.chg <| XQ (i := 16) q (by kernel_rfl) q bO.chg q (fun _ => qt_build (args := [(0, .tmp 15), (1, .tmp 21)]) (css := [#[iV (IntKind.wrap .i64 (ad + (IntKind.wrap .i64 ((IntKind.wrap .i64 (Int.tdiv aa.2 59)) * 6))))], #[iV ab.2]]) (cells := #[iV (IntKind.wrap .i64 (ad + (IntKind.wrap .i64 ((IntKind.wrap .i64 (Int.tdiv aa.2 59)) * 6)))), iV ab.2, iV 0, iV 0]) q ⟨q, q, trivial⟩ (by kernel_rfl)) q q ?_
      have eK := af.cN3 [_] bO
      refine X1 18 (by kernel_rfl) q ?_
      have eL := eK.p1
      refine zl (cs' := [iV (IntKind.wrap .i64 (ad + (IntKind.wrap .i64 ((IntKind.wrap .i64 (Int.tdiv aa.2 59)) * 6)))), iV ab.2, iV 0, iV 0]) eL q il29 q q q q q (fun mh eM => ?_)
      refine XE q ?_
      refine XC_done (by kernel_rfl) (fun a ha => ?_)
      have eN := eM.q2.p2.p3.p3
      exact ⟨eH, ha.sub ⟨q, q, q, q, trivial⟩, eN⟩
     refine XC_do q ?_
     refine zq (cs := [iV 0, iV 0, iV 0, iV 0]) ap z29 q q q (fun eO eP cN => ?_)
     refine XN cN.chg <| X1 6 (by kernel_rfl) q ?_
     have cO := cN.p1
     refine zd q q c60 (w_spec_l20Rd__pick eP _ bp0 A0 B0 (C0.c.c.c.c) ai.1 60 aa aj cO.ctx) (by rfl) ?_
     rintro _ eQ ⟨rfl, eR⟩; refine ⟨_, q, ?_⟩
     have aZ := cO.cN1 [_] eR
     refine XN aZ.chg <| XQ (i := 7) q (by kernel_rfl) q aZ.chg q (fun _ => qt_quo q q (by decide)) q q <| XQ (i := 8) q (by kernel_rfl) q aZ.chg q (fun _ => qt_mul q q) q q <| XQ (i := 9) q (by kernel_rfl) q aZ.chg q (fun _ => qt_add q q) q q <| X1 15 (by kernel_rfl) q <| zd q q c60 (w_spec_l20Rd__pick eQ _ bp0 A0 B0 (C0.c.c.c.c) aa.1 (if 1 > (List.length p1_0 : Int) then 1 else (List.length p1_0 : Int)) ab ag aZ.ctx) (by rfl) ?_
     rintro _ mi ⟨rfl, eS⟩; refine ⟨_, q, ?_⟩
     have bP := aZ.cN1 [_] eS
     refine XN bP.chg <| XQ (i := 16) q (by kernel_rfl) q bP.chg q (fun _ => qt_build (args := [(0, .tmp 15), (1, .tmp 21)]) (css := [#[iV (IntKind.wrap .i64 (ad + (IntKind.wrap .i64 ((IntKind.wrap .i64 (Int.tdiv aa.2 59)) * 6))))], #[iV ab.2]]) (cells := #[iV (IntKind.wrap .i64 (ad + (IntKind.wrap .i64 ((IntKind.wrap .i64 (Int.tdiv aa.2 59)) * 6)))), iV ab.2, iV 0, iV 0]) q ⟨q, q, trivial⟩ (by kernel_rfl)) q q ?_
     have eT := af.cN3 [_] bP
     refine X1 18 (by kernel_rfl) q ?_
     have eU := eT.p1
     refine zl (cs' := [iV (IntKind.wrap .i64 (ad + (IntKind.wrap .i64 ((IntKind.wrap .i64 (Int.tdiv aa.2 59)) * 6)))), iV ab.2, iV 0, iV 0]) eU q il29 q q q q q (fun mj eV => ?_)
     refine XE q ?_
     refine XC_done (by kernel_rfl) (fun a ha => ?_)
     have eW := eV.q2.p2.p3.p3
     exact ⟨eO, ha.sub ⟨q, q, q, q, trivial⟩, eW⟩
    ·refine XC_do q ?_
     refine zd q q c60 (w_spec_l20Rd__pick cJ _ bp0 A0 B0 (C0.c.c.c) ai.1 60 aa aj ap.ctx) (by rfl) ?_
     rintro _ cP ⟨rfl, eX⟩; refine ⟨_, q, ?_⟩
     have am := ap.cN1 [_] eX
     refine XN am.chg <| XQ (i := 7) q (by kernel_rfl) q am.chg q (fun _ => qt_quo q q (by decide)) q q <| XQ (i := 8) q (by kernel_rfl) q am.chg q (fun _ => qt_mul q q) q q ?_
     refine zy [4, 15, 17] (by kernel_rfl) (by simp) (allc ?_ (allc ?_ (allc ?_ alln)))
     ·refine XC_do q ?_
      obtain ⟨mm, eY, mn⟩ := am.at hS1 ae aq
      refine zt (k := .i64) u3 q eY q q q <| XN am.chg <| XQ (i := 9) q (by kernel_rfl) q am.chg q (fun _ => qt_add q q) q q ?_
      refine zy [15, 17] (by kernel_rfl) (by simp) (allc ?_ (allc ?_ alln))
      ·refine XC_do q ?_
       refine zd q q c60 (w_spec_l20Rd__pick cP _ bp0 A0 B0 (C0.c.c.c) aa.1 (if 1 > (List.length p1_0 : Int) then 1 else (List.length p1_0 : Int)) ab ag am.ctx) (by rfl) ?_
       rintro _ mo ⟨rfl, eZ⟩; refine ⟨_, q, ?_⟩
       have bQ := am.cN1 [_] eZ
       refine XN bQ.chg <| XQ (i := 16) q (by kernel_rfl) q bQ.chg q (fun _ => qt_build (args := [(0, .tmp 15), (1, .tmp 21)]) (css := [#[iV (IntKind.wrap .i64 (ad + (IntKind.wrap .i64 ((IntKind.wrap .i64 (Int.tdiv aa.2 59)) * 6))))], #[iV ab.2]]) (cells := #[iV (IntKind.wrap .i64 (ad + (IntKind.wrap .i64 ((IntKind.wrap .i64 (Int.tdiv aa.2 59)) * 6)))), iV ab.2, iV 0, iV 0]) q ⟨q, q, trivial⟩ (by kernel_rfl)) q q <| X1 17 (by kernel_rfl) q ?_
       refine zq (cs := [iV 0, iV 0, iV 0, iV 0]) bQ z29 q q q (fun e0 mp cQ => ?_)
       refine XN cQ.chg ?_
       have e1 := af.cN3 [_] cQ
       refine X1 18 (by kernel_rfl) q ?_
       refine zl (cs' := [iV (IntKind.wrap .i64 (ad + (IntKind.wrap .i64 ((IntKind.wrap .i64 (Int.tdiv aa.2 59)) * 6)))), iV ab.2, iV 0, iV 0]) e1 q il29 q q q q q (fun mq e2 => ?_)
       refine XE q ?_
       refine XC_done (by kernel_rfl) (fun a ha => ?_)
       have e3 := e2.q2.p2.p3.p3
       exact ⟨e0, ha.sub ⟨q, q, q, q, trivial⟩, e3⟩
      refine XC_do q ?_
      refine zq (cs := [iV 0, iV 0, iV 0, iV 0]) am z29 q q q (fun e4 e5 cR => ?_)
      refine XN cR.chg <| X1 15 (by kernel_rfl) q ?_
      have cS := cR.p1
      refine zd q q c60 (w_spec_l20Rd__pick e5 _ bp0 A0 B0 (C0.c.c.c.c) aa.1 (if 1 > (List.length p1_0 : Int) then 1 else (List.length p1_0 : Int)) ab ag cS.ctx) (by rfl) ?_
      rintro _ mr ⟨rfl, e6⟩; refine ⟨_, q, ?_⟩
      have bR := cS.cN1 [_] e6
      refine XN bR.chg <| XQ (i := 16) q (by kernel_rfl) q bR.chg q (fun _ => qt_build (args := [(0, .tmp 15), (1, .tmp 21)]) (css := [#[iV (IntKind.wrap .i64 (ad + (IntKind.wrap .i64 ((IntKind.wrap .i64 (Int.tdiv aa.2 59)) * 6))))], #[iV ab.2]]) (cells := #[iV (IntKind.wrap .i64 (ad + (IntKind.wrap .i64 ((IntKind.wrap .i64 (Int.tdiv aa.2 59)) * 6)))), iV ab.2, iV 0, iV 0]) q ⟨q, q, trivial⟩ (by kernel_rfl)) q q ?_
      have e7 := af.cN3 [_] bR
      refine X1 18 (by kernel_rfl) q ?_
      have e8 := e7.p1
      refine zl (cs' := [iV (IntKind.wrap .i64 (ad + (IntKind.wrap .i64 ((IntKind.wrap .i64 (Int.tdiv aa.2 59)) * 6)))), iV ab.2, iV 0, iV 0]) e8 q il29 q q q q q (fun ms e9 => ?_)
      refine XE q ?_
      refine XC_done (by kernel_rfl) (fun a ha => ?_)
      have fa := e9.q2.p2.p3.p3
      exact ⟨e4, ha.sub ⟨q, q, q, q, trivial⟩, fa⟩
     ·refine XC_do q ?_
      refine zd q q c60 (w_spec_l20Rd__pick cP _ bp0 A0 B0 (C0.c.c.c) aa.1 (if 1 > (List.length p1_0 : Int) then 1 else (List.length p1_0 : Int)) ab ag am.ctx) (by rfl) ?_
      rintro _ mt ⟨rfl, fb⟩; refine ⟨_, q, ?_⟩
      have aR := am.cN1 [_] fb
      refine XN aR.chg ?_
      refine zy [4, 17] (by kernel_rfl) (by simp) (allc ?_ (allc ?_ alln))
      ·refine XC_do q ?_
       obtain ⟨mu, fc, mv⟩ := aR.at hS1 ae aq
       refine zt (k := .i64) u3 q fc q q q <| XN aR.chg <| XQ (i := 9) q (by kernel_rfl) q aR.chg q (fun _ => qt_add q q) q q <| XQ (i := 16) q (by kernel_rfl) q aR.chg q (fun _ => qt_build (args := [(0, .tmp 15), (1, .tmp 21)]) (css := [#[iV (IntKind.wrap .i64 (ad + (IntKind.wrap .i64 ((IntKind.wrap .i64 (Int.tdiv aa.2 59)) * 6))))], #[iV ab.2]]) (cells := #[iV (IntKind.wrap .i64 (ad + (IntKind.wrap .i64 ((IntKind.wrap .i64 (Int.tdiv aa.2 59)) * 6)))), iV ab.2, iV 0, iV 0]) q ⟨q, q, trivial⟩ (by kernel_rfl)) q q <| X1 17 (by kernel_rfl) q ?_
       refine zq (cs := [iV 0, iV 0, iV 0, iV 0]) aR z29 q q q (fun fd mw cT => ?_)
       refine XN cT.chg ?_
       have fe := af.cN3 [_] cT
       refine X1 18 (by kernel_rfl) q ?_
       refine zl (cs' := [iV (IntKind.wrap .i64 (ad + (IntKind.wrap .i64 ((IntKind.wrap .i64 (Int.tdiv aa.2 59)) * 6)))), iV ab.2, iV 0, iV 0]) fe q il29 q q q q q (fun mx ff => ?_)
       refine XE q ?_
       refine XC_done (by kernel_rfl) (fun a ha => ?_)
       have fg := ff.q2.p2.p3.p3
       exact ⟨fd, ha.sub ⟨q, q, q, q, trivial⟩, fg⟩
      refine XC_do q ?_
      refine zq (cs := [iV 0, iV 0, iV 0, iV 0]) aR z29 q q q (fun fh my a0 => ?_)
      refine XN a0.chg <| X1 4 (by kernel_rfl) q ?_
      obtain ⟨mz, fi, mA⟩ := a0.at hS2 ae aq
      refine zt (k := .i64) u3 q fi q q q <| XN a0.chg <| XQ (i := 9) q (by kernel_rfl) q a0.chg q (fun _ => qt_add q q) q q <| XQ (i := 16) q (by kernel_rfl) q a0.chg q (fun _ => qt_build (args := [(0, .tmp 15), (1, .tmp 21)]) (css := [#[iV (IntKind.wrap .i64 (ad + (IntKind.wrap .i64 ((IntKind.wrap .i64 (Int.tdiv aa.2 59)) * 6))))], #[iV ab.2]]) (cells := #[iV (IntKind.wrap .i64 (ad + (IntKind.wrap .i64 ((IntKind.wrap .i64 (Int.tdiv aa.2 59)) * 6)))), iV ab.2, iV 0, iV 0]) q ⟨q, q, trivial⟩ (by kernel_rfl)) q q ?_
      have fj := af.cN3 [_] a0
      refine X1 18 (by kernel_rfl) q ?_
      refine zl (cs' := [iV (IntKind.wrap .i64 (ad + (IntKind.wrap .i64 ((IntKind.wrap .i64 (Int.tdiv aa.2 59)) * 6)))), iV ab.2, iV 0, iV 0]) fj q il29 q q q q q (fun mB fk => ?_)
      refine XE q ?_
      refine XC_done (by kernel_rfl) (fun a ha => ?_)
      have fl := fk.q2.p2.p3.p3
      exact ⟨fh, ha.sub ⟨q, q, q, q, trivial⟩, fl⟩
     refine XC_do q ?_
     refine zq (cs := [iV 0, iV 0, iV 0, iV 0]) am z29 q q q (fun cU cV a1 => ?_)
     refine XN a1.chg ?_
     refine zy [4, 15] (by kernel_rfl) (by simp) (allc ?_ (allc ?_ alln))
     ·refine XC_do q ?_
      obtain ⟨mC, fm, mD⟩ := a1.at hS2 ae aq
      refine zt (k := .i64) u3 q fm q q q <| XN a1.chg <| XQ (i := 9) q (by kernel_rfl) q a1.chg q (fun _ => qt_add q q) q q <| X1 15 (by kernel_rfl) q ?_
      have cW := a1.p1
      refine zd q q c60 (w_spec_l20Rd__pick cV _ bp0 A0 B0 (C0.c.c.c.c) aa.1 (if 1 > (List.length p1_0 : Int) then 1 else (List.length p1_0 : Int)) ab ag cW.ctx) (by rfl) ?_
      rintro _ mE ⟨rfl, fn⟩; refine ⟨_, q, ?_⟩
      have bS := cW.cN1 [_] fn
      refine XN bS.chg <| XQ (i := 16) q (by kernel_rfl) q bS.chg q (fun _ => qt_build (args := [(0, .tmp 15), (1, .tmp 21)]) (css := [#[iV (IntKind.wrap .i64 (ad + (IntKind.wrap .i64 ((IntKind.wrap .i64 (Int.tdiv aa.2 59)) * 6))))], #[iV ab.2]]) (cells := #[iV (IntKind.wrap .i64 (ad + (IntKind.wrap .i64 ((IntKind.wrap .i64 (Int.tdiv aa.2 59)) * 6)))), iV ab.2, iV 0, iV 0]) q ⟨q, q, trivial⟩ (by kernel_rfl)) q q ?_
      have fo := af.cN3 [_] bS
      refine X1 18 (by kernel_rfl) q ?_
      have fp := fo.p1
      refine zl (cs' := [iV (IntKind.wrap .i64 (ad + (IntKind.wrap .i64 ((IntKind.wrap .i64 (Int.tdiv aa.2 59)) * 6)))), iV ab.2, iV 0, iV 0]) fp q il29 q q q q q (fun mF fq => ?_)
      refine XE q ?_
      refine XC_done (by kernel_rfl) (fun a ha => ?_)
      have fr := fq.q2.p2.p3.p3
      exact ⟨cU, ha.sub ⟨q, q, q, q, trivial⟩, fr⟩
     refine XC_do q ?_
     have cX := a1.p1
     refine zd q q c60 (w_spec_l20Rd__pick cV _ bp0 A0 B0 (C0.c.c.c.c) aa.1 (if 1 > (List.length p1_0 : Int) then 1 else (List.length p1_0 : Int)) ab ag cX.ctx) (by rfl) ?_
     rintro _ mG ⟨rfl, fs⟩; refine ⟨_, q, ?_⟩
     have a2 := cX.cN1 [_] fs
     refine XN a2.chg <| X1 4 (by kernel_rfl) q ?_
     obtain ⟨mH, ft, mI⟩ := a2.at hS2 ae aq
     refine zt (k := .i64) u3 q ft q q q <| XN a2.chg <| XQ (i := 9) q (by kernel_rfl) q a2.chg q (fun _ => qt_add q q) q q <| XQ (i := 16) q (by kernel_rfl) q a2.chg q (fun _ => qt_build (args := [(0, .tmp 15), (1, .tmp 21)]) (css := [#[iV (IntKind.wrap .i64 (ad + (IntKind.wrap .i64 ((IntKind.wrap .i64 (Int.tdiv aa.2 59)) * 6))))], #[iV ab.2]]) (cells := #[iV (IntKind.wrap .i64 (ad + (IntKind.wrap .i64 ((IntKind.wrap .i64 (Int.tdiv aa.2 59)) * 6)))), iV ab.2, iV 0, iV 0]) q ⟨q, q, trivial⟩ (by kernel_rfl)) q q ?_
     have fu := af.cN3 [_] a2
     refine X1 18 (by kernel_rfl) q ?_
     have fv := fu.p1
     refine zl (cs' := [iV (IntKind.wrap .i64 (ad + (IntKind.wrap .i64 ((IntKind.wrap .i64 (Int.tdiv aa.2 59)) * 6)))), iV ab.2, iV 0, iV 0]) fv q il29 q q q q q (fun mJ fw => ?_)
     refine XE q ?_
     refine XC_done (by kernel_rfl) (fun a ha => ?_)
     have fx := fw.q2.p2.p3.p3
     exact ⟨cU, ha.sub ⟨q, q, q, q, trivial⟩, fx⟩
    refine XC_do q ?_
    refine zq (cs := [iV 0, iV 0, iV 0, iV 0]) ap z29 q q q (fun bT cY bw => ?_)
    refine XN bw.chg ?_
    refine zy [4, 6] (by kernel_rfl) (by simp) (allc ?_ (allc ?_ alln))
    ·refine XC_do q ?_
     obtain ⟨mK, fy, mL⟩ := bw.at hS2 ae aq
     refine zt (k := .i64) u3 q fy q q q <| XN bw.chg <| X1 6 (by kernel_rfl) q ?_
     have cZ := bw.p1
     refine zd q q c60 (w_spec_l20Rd__pick cY _ bp0 A0 B0 (C0.c.c.c.c) ai.1 60 aa aj cZ.ctx) (by rfl) ?_
     rintro _ fz ⟨rfl, fA⟩; refine ⟨_, q, ?_⟩
     have a3 := cZ.cN1 [_] fA
     refine XN a3.chg <| XQ (i := 7) q (by kernel_rfl) q a3.chg q (fun _ => qt_quo q q (by decide)) q q <| XQ (i := 8) q (by kernel_rfl) q a3.chg q (fun _ => qt_mul q q) q q <| XQ (i := 9) q (by kernel_rfl) q a3.chg q (fun _ => qt_add q q) q q <| X1 15 (by kernel_rfl) q <| zd q q c60 (w_spec_l20Rd__pick fz _ bp0 A0 B0 (C0.c.c.c.c) aa.1 (if 1 > (List.length p1_0 : Int) then 1 else (List.length p1_0 : Int)) ab ag a3.ctx) (by rfl) ?_
     rintro _ mM ⟨rfl, fB⟩; refine ⟨_, q, ?_⟩
     have bU := a3.cN1 [_] fB
     refine XN bU.chg <| XQ (i := 16) q (by kernel_rfl) q bU.chg q (fun _ => qt_build (args := [(0, .tmp 15), (1, .tmp 21)]) (css := [#[iV (IntKind.wrap .i64 (ad + (IntKind.wrap .i64 ((IntKind.wrap .i64 (Int.tdiv aa.2 59)) * 6))))], #[iV ab.2]]) (cells := #[iV (IntKind.wrap .i64 (ad + (IntKind.wrap .i64 ((IntKind.wrap .i64 (Int.tdiv aa.2 59)) * 6)))), iV ab.2, iV 0, iV 0]) q ⟨q, q, trivial⟩ (by kernel_rfl)) q q ?_
     have fC := af.cN3 [_] bU
     refine X1 18 (by kernel_rfl) q ?_
     have fD := fC.p1
     refine zl (cs' := [iV (IntKind.wrap .i64 (ad + (IntKind.wrap .i64 ((IntKind.wrap .i64 (Int.tdiv aa.2 59)) * 6)))), iV ab.2, iV 0, iV 0]) fD q il29 q q q q q (fun mN fE => ?_)
     refine XE q ?_
     refine XC_done (by kernel_rfl) (fun a ha => ?_)
     have fF := fE.q2.p2.p3.p3
     exact ⟨bT, ha.sub ⟨q, q, q, q, trivial⟩, fF⟩
    refine XC_do q ?_
    have c0 := bw.p1
    refine zd q q c60 (w_spec_l20Rd__pick cY _ bp0 A0 B0 (C0.c.c.c.c) ai.1 60 aa aj c0.ctx) (by rfl) ?_
    rintro _ c1 ⟨rfl, fG⟩; refine ⟨_, q, ?_⟩
    have ar := c0.cN1 [_] fG
    refine XN ar.chg <| XQ (i := 7) q (by kernel_rfl) q ar.chg q (fun _ => qt_quo q q (by decide)) q q <| XQ (i := 8) q (by kernel_rfl) q ar.chg q (fun _ => qt_mul q q) q q ?_
    refine zy [4, 15] (by kernel_rfl) (by simp) (allc ?_ (allc ?_ alln))
    ·refine XC_do q ?_
     obtain ⟨mO, fH, mP⟩ := ar.at hS2 ae aq
     refine zt (k := .i64) u3 q fH q q q <| XN ar.chg <| XQ (i := 9) q (by kernel_rfl) q ar.chg q (fun _ => qt_add q q) q q <| X1 15 (by kernel_rfl) q <| zd q q c60 (w_spec_l20Rd__pick c1 _ bp0 A0 B0 (C0.c.c.c.c) aa.1 (if 1 > (List.length p1_0 : Int) then 1 else (List.length p1_0 : Int)) ab ag ar.ctx) (by rfl) ?_
     rintro _ mQ ⟨rfl, fI⟩; refine ⟨_, q, ?_⟩
     have bV := ar.cN1 [_] fI
     refine XN bV.chg <| XQ (i := 16) q (by kernel_rfl) q bV.chg q (fun _ => qt_build (args := [(0, .tmp 15), (1, .tmp 21)]) (css := [#[iV (IntKind.wrap .i64 (ad + (IntKind.wrap .i64 ((IntKind.wrap .i64 (Int.tdiv aa.2 59)) * 6))))], #[iV ab.2]]) (cells := #[iV (IntKind.wrap .i64 (ad + (IntKind.wrap .i64 ((IntKind.wrap .i64 (Int.tdiv aa.2 59)) * 6)))), iV ab.2, iV 0, iV 0]) q ⟨q, q, trivial⟩ (by kernel_rfl)) q q ?_
     have fJ := af.cN3 [_] bV
     refine X1 18 (by kernel_rfl) q ?_
     have fK := fJ.p1
     refine zl (cs' := [iV (IntKind.wrap .i64 (ad + (IntKind.wrap .i64 ((IntKind.wrap .i64 (Int.tdiv aa.2 59)) * 6)))), iV ab.2, iV 0, iV 0]) fK q il29 q q q q q (fun mR fL => ?_)
     refine XE q ?_
     refine XC_done (by kernel_rfl) (fun a ha => ?_)
     have fM := fL.q2.p2.p3.p3
     exact ⟨bT, ha.sub ⟨q, q, q, q, trivial⟩, fM⟩
    refine XC_do q <| zd q q c60 (w_spec_l20Rd__pick c1 _ bp0 A0 B0 (C0.c.c.c.c) aa.1 (if 1 > (List.length p1_0 : Int) then 1 else (List.length p1_0 : Int)) ab ag ar.ctx) (by rfl) ?_
    rintro _ mS ⟨rfl, fN⟩; refine ⟨_, q, ?_⟩
    have a4 := ar.cN1 [_] fN
    refine XN a4.chg <| X1 4 (by kernel_rfl) q ?_
    obtain ⟨mT, fO, mU⟩ := a4.at hS2 ae aq
    refine zt (k := .i64) u3 q fO q q q <| XN a4.chg <| XQ (i := 9) q (by kernel_rfl) q a4.chg q (fun _ => qt_add q q) q q <| XQ (i := 16) q (by kernel_rfl) q a4.chg q (fun _ => qt_build (args := [(0, .tmp 15), (1, .tmp 21)]) (css := [#[iV (IntKind.wrap .i64 (ad + (IntKind.wrap .i64 ((IntKind.wrap .i64 (Int.tdiv aa.2 59)) * 6))))], #[iV ab.2]]) (cells := #[iV (IntKind.wrap .i64 (ad + (IntKind.wrap .i64 ((IntKind.wrap .i64 (Int.tdiv aa.2 59)) * 6)))), iV ab.2, iV 0, iV 0]) q ⟨q, q, trivial⟩ (by kernel_rfl)) q q ?_
    have fP := af.cN3 [_] a4
    refine X1 18 (by kernel_rfl) q ?_
    have fQ := fP.p1
    refine zl (cs' := [iV (IntKind.wrap .i64 (ad + (IntKind.wrap .i64 ((IntKind.wrap .i64 (Int.tdiv aa.2 59)) * 6)))), iV ab.2, iV 0, iV 0]) fQ q il29 q q q q q (fun mV fR => ?_)
    refine XE q ?_
    refine XC_done (by kernel_rfl) (fun a ha => ?_)
    have fS := fR.q2.p2.p3.p3
    exact ⟨bT, ha.sub ⟨q, q, q, q, trivial⟩, fS⟩
   refine XC_do q ?_
   refine zq (cs := [iV 0, iV 0, iV 0, iV 0]) bM z29 q q q (fun bW fT c2 => ?_)
   refine XN c2.chg <| X1 2 (by kernel_rfl) q ?_
   have c3 := c2.p2
   refine zd q q c60 (w_spec_l20Rd__pick fT _ bp0 A0 B0 (C0.c.c.c.c) B1 12 ai bv c3.ctx) (by rfl) ?_
   rintro _ c4 ⟨rfl, fU⟩; refine ⟨_, q, ?_⟩
   have aB := c3.cN1 [_] fU
   refine XN aB.chg ?_
   obtain ⟨mW, mX, mY, bE⟩ := Ctx.isAt aB.ctx hS2 ae
   refine XT (i := 3) q (by kernel_rfl) q aB.chg q (qs_index ae bE u24 i3 q q) q q ?_
   refine zy [4, 6] (by kernel_rfl) (by simp) (allc ?_ (allc ?_ alln))
   ·refine XC_do q ?_
    obtain ⟨mZ, fV, m0⟩ := aB.at hS2 ae bE
    refine zt (k := .i64) u3 q fV q q q <| XN aB.chg <| X1 6 (by kernel_rfl) q <| zd q q c60 (w_spec_l20Rd__pick c4 _ bp0 A0 B0 (C0.c.c.c.c) ai.1 60 aa aj aB.ctx) (by rfl) ?_
    rintro _ fW ⟨rfl, fX⟩; refine ⟨_, q, ?_⟩
    have a5 := aB.cN1 [_] fX
    refine XN a5.chg <| XQ (i := 7) q (by kernel_rfl) q a5.chg q (fun _ => qt_quo q q (by decide)) q q <| XQ (i := 8) q (by kernel_rfl) q a5.chg q (fun _ => qt_mul q q) q q <| XQ (i := 9) q (by kernel_rfl) q a5.chg q (fun _ => qt_add q q) q q <| X1 15 (by kernel_rfl) q <| zd q q c60 (w_spec_l20Rd__pick fW _ bp0 A0 B0 (C0.c.c.c.c) aa.1 (if 1 > (List.length p1_0 : Int) then 1 else (List.length p1_0 : Int)) ab ag a5.ctx) (by rfl) ?_
    rintro _ m1 ⟨rfl, fY⟩; refine ⟨_, q, ?_⟩
    have bX := a5.cN1 [_] fY
    refine XN bX.chg <| XQ (i := 16) q (by kernel_rfl) q bX.chg q (fun _ => qt_build (args := [(0, .tmp 15), (1, .tmp 21)]) (css := [#[iV (IntKind.wrap .i64 (ad + (IntKind.wrap .i64 ((IntKind.wrap .i64 (Int.tdiv aa.2 59)) * 6))))], #[iV ab.2]]) (cells := #[iV (IntKind.wrap .i64 (ad + (IntKind.wrap .i64 ((IntKind.wrap .i64 (Int.tdiv aa.2 59)) * 6)))), iV ab.2, iV 0, iV 0]) q ⟨q, q, trivial⟩ (by kernel_rfl)) q q ?_
    have fZ := af.cN3 [_] bX
    refine X1 18 (by kernel_rfl) q ?_
    have f0 := fZ.p1
    refine zl (cs' := [iV (IntKind.wrap .i64 (ad + (IntKind.wrap .i64 ((IntKind.wrap .i64 (Int.tdiv aa.2 59)) * 6)))), iV ab.2, iV 0, iV 0]) f0 q il29 q q q q q (fun m2 f1 => ?_)
    refine XE q ?_
    refine XC_done (by kernel_rfl) (fun a ha => ?_)
    have f2 := f1.q2.p2.p3.p3
    exact ⟨bW, ha.sub ⟨q, q, q, q, trivial⟩, f2⟩
   refine XC_do q <| zd q q c60 (w_spec_l20Rd__pick c4 _ bp0 A0 B0 (C0.c.c.c.c) ai.1 60 aa aj aB.ctx) (by rfl) ?_
   rintro _ c5 ⟨rfl, f3⟩; refine ⟨_, q, ?_⟩
   have au := aB.cN1 [_] f3
   refine XN au.chg <| XQ (i := 7) q (by kernel_rfl) q au.chg q (fun _ => qt_quo q q (by decide)) q q <| XQ (i := 8) q (by kernel_rfl) q au.chg q (fun _ => qt_mul q q) q q ?_
   refine zy [4, 15] (by kernel_rfl) (by simp) (allc ?_ (allc ?_ alln))
   ·refine XC_do q ?_
    obtain ⟨m3, f4, m4⟩ := au.at hS2 ae bE
    refine zt (k := .i64) u3 q f4 q q q <| XN au.chg <| XQ (i := 9) q (by kernel_rfl) q au.chg q (fun _ => qt_add q q) q q <| X1 15 (by kernel_rfl) q <| zd q q c60 (w_spec_l20Rd__pick c5 _ bp0 A0 B0 (C0.c.c.c.c) aa.1 (if 1 > (List.length p1_0 : Int) then 1 else (List.length p1_0 : Int)) ab ag au.ctx) (by rfl) ?_
    rintro _ m5 ⟨rfl, f5⟩; refine ⟨_, q, ?_⟩
    have bY := au.cN1 [_] f5
    refine XN bY.chg <| XQ (i := 16) q (by kernel_rfl) q bY.chg q (fun _ => qt_build (args := [(0, .tmp 15), (1, .tmp 21)]) (css := [#[iV (IntKind.wrap .i64 (ad + (IntKind.wrap .i64 ((IntKind.wrap .i64 (Int.tdiv aa.2 59)) * 6))))], #[iV ab.2]]) (cells := #[iV (IntKind.wrap .i64 (ad + (IntKind.wrap .i64 ((IntKind.wrap .i64 (Int.tdiv aa.2 59)) * 6)))), iV ab.2, iV 0, iV 0]) q ⟨q, q, trivial⟩ (by kernel_rfl)) q q ?_
    have f6 := af.cN3 [_] bY
    refine X1 18 (by kernel_rfl) q ?_
    have f7 := f6.p1
    refine zl (cs' := [iV (IntKind.wrap .i64 (ad + (IntKind.wrap .i64 ((IntKind.wrap .i64 (Int.tdiv aa.2 59)) * 6)))), iV ab.2, iV 0, iV 0]) f7 q il29 q q q q q (fun m6 f8 => ?_)
    refine XE q ?_
    refine XC_done (by kernel_rfl) (fun a ha => ?_)
    have f9 := f8.q2.p2.p3.p3
    exact ⟨bW, ha.sub ⟨q, q, q, q, trivial⟩, f9⟩
   refine XC_do q <| zd q q c60 (w_spec_l20Rd__pick c5 _ bp0 A0 B0 (C0.c.c.c.c) aa.1 (if 1 > (List.length p1_0 : Int) then 1 else (List.length p1_0 : Int)) ab ag au.ctx) (by rfl) ?_
   rintro _ m7 ⟨rfl, ga⟩; refine ⟨_, q, ?_⟩
   have a6 := au.cN1 [_] ga
   refine XN a6.chg <| X1 4 (by kernel_rfl) q ?_
   obtain ⟨m8, gb, m9⟩ := a6.at hS2 ae bE
   refine zt (k := .i64) u3 q gb q q q <| XN a6.chg <| XQ (i := 9) q (by kernel_rfl) q a6.chg q (fun _ => qt_add q q) q q <| XQ (i := 16) q (by kernel_rfl) q a6.chg q (fun _ => qt_build (args := [(0, .tmp 15), (1, .tmp 21)]) (css := [#[iV (IntKind.wrap .i64 (ad + (IntKind.wrap .i64 ((IntKind.wrap .i64 (Int.tdiv aa.2 59)) * 6))))], #[iV ab.2]]) (cells := #[iV (IntKind.wrap .i64 (ad + (IntKind.wrap .i64 ((IntKind.wrap .i64 (Int.tdiv aa.2 59)) * 6)))), iV ab.2, iV 0, iV 0]) q ⟨q, q, trivial⟩ (by kernel_rfl)) q q ?_
   have gc := af.cN3 [_] a6
   refine X1 18 (by kernel_rfl) q ?_
   have gd := gc.p1
   refine zl (cs' := [iV (IntKind.wrap .i64 (ad + (IntKind.wrap .i64 ((IntKind.wrap .i64 (Int.tdiv aa.2 59)) * 6)))), iV ab.2, iV 0, iV 0]) gd q il29 q q q q q (fun na ge => ?_)
   refine XE q ?_
   refine XC_done (by kernel_rfl) (fun a ha => ?_)
   have gf := ge.q2.p2.p3.p3
   exact ⟨bW, ha.sub ⟨q, q, q, q, trivial⟩, gf⟩
  ·refine XC_do q ?_
   refine zd q q c60 (w_spec_l20Rd__pick bD _ bp0 A0 B0 (C0.c.c) B1 12 ai bv al.ctx) (by rfl) ?_
   rintro _ gg ⟨rfl, gh⟩; refine ⟨_, q, ?_⟩
   have bz := al.cN1 [_] gh
   refine XN bz.chg ?_
   refine zy [0, 6, 17] (by kernel_rfl) (by simp) (allc ?_ (allc ?_ (allc ?_ alln)))
   ·refine XC_do q ?_
    refine zs (t := tI) (args := [.const (iV 0), .const (iV 0), .const (iV 1), .const (iV 1), .const (iV 2), .const (iV 3), .const (iV 3), .const (iV 3), .const (iV 4), .const (iV 4), .const (iV 4), .const (iV 5)]) (xs := ([0, 0, 1, 1, 2, 3, 3, 3, 4, 4, 4, 5] : List Int)) bz (BltL.cons (Blt.int) q (BltL.cons (Blt.int) q (BltL.cons (Blt.int) q (BltL.cons (Blt.int) q (BltL.cons (Blt.int) q (BltL.cons (Blt.int) q (BltL.cons (Blt.int) q (BltL.cons (Blt.int) q (BltL.cons (Blt.int) q (BltL.cons (Blt.int) q (BltL.cons (Blt.int) q (BltL.cons (Blt.int) q (BltL.nil))))))))))))) u24 j3 q q q q q q (fun nb c6 aC => ?_)
    refine XN aC.chg ?_
    obtain ⟨nc, nd, ne, av⟩ := Ctx.isAt aC.ctx hS0 ae
    refine XT (i := 3) q (by kernel_rfl) q aC.chg q (qs_index ae av u24 i3 q q) q q ?_
    refine zy [4, 6, 17] (by kernel_rfl) (by simp) (allc ?_ (allc ?_ (allc ?_ alln)))
    ·refine XC_do q ?_
     obtain ⟨nf, gi, ng⟩ := aC.at hS0 ae av
     refine zt (k := .i64) u3 q gi q q q <| XN aC.chg ?_
     refine zy [6, 17] (by kernel_rfl) (by simp) (allc ?_ (allc ?_ alln))
     ·refine XC_do q ?_
      have da := aC.p1
      refine zd q q c60 (w_spec_l20Rd__pick c6 _ bp0 A0 B0 (C0.c.c.c) ai.1 60 aa aj da.ctx) (by rfl) ?_
      rintro _ gj ⟨rfl, gk⟩; refine ⟨_, q, ?_⟩
      have aS := da.cN1 [_] gk
      refine XN aS.chg <| XQ (i := 7) q (by kernel_rfl) q aS.chg q (fun _ => qt_quo q q (by decide)) q q <| XQ (i := 8) q (by kernel_rfl) q aS.chg q (fun _ => qt_mul q q) q q <| XQ (i := 9) q (by kernel_rfl) q aS.chg q (fun _ => qt_add q q) q q ?_
      refine zy [15, 17] (by kernel_rfl) (by simp) (allc ?_ (allc ?_ alln))
      ·refine XC_do q ?_
       refine zd q q c60 (w_spec_l20Rd__pick gj _ bp0 A0 B0 (C0.c.c.c) aa.1 (if 1 > (List.length p1_0 : Int) then 1 else (List.length p1_0 : Int)) ab ag aS.ctx) (by rfl) ?_
       rintro _ nh ⟨rfl, gl⟩; refine ⟨_, q, ?_⟩
       have bZ := aS.cN1 [_] gl
       refine XN bZ.chg <| XQ (i := 16) q (by kernel_rfl) q bZ.chg q (fun _ => qt_build (args := [(0, .tmp 15), (1, .tmp 21)]) (css := [#[iV (IntKind.wrap .i64 (ad + (IntKind.wrap .i64 ((IntKind.wrap .i64 (Int.tdiv aa.2 59)) * 6))))], #[iV ab.2]]) (cells := #[iV (IntKind.wrap .i64 (ad + (IntKind.wrap .i64 ((IntKind.wrap .i64 (Int.tdiv aa.2 59)) * 6)))), iV ab.2, iV 0, iV 0]) q ⟨q, q, trivial⟩ (by kernel_rfl)) q q <| X1 17 (by kernel_rfl) q ?_
       refine zq (cs := [iV 0, iV 0, iV 0, iV 0]) bZ z29 q q q (fun gm ni db => ?_)
       refine XN db.chg ?_
       have gn := af.cN3 [_] db
       refine X1 18 (by kernel_rfl) q ?_
       refine zl (cs' := [iV (IntKind.wrap .i64 (ad + (IntKind.wrap .i64 ((IntKind.wrap .i64 (Int.tdiv aa.2 59)) * 6)))), iV ab.2, iV 0, iV 0]) gn q il29 q q q q q (fun nj go => ?_)
       refine XE q ?_
       refine XC_done (by kernel_rfl) (fun a ha => ?_)
       have gp := go.q2.p2.p3.p3
       exact ⟨gm, ha.sub ⟨q, q, q, q, trivial⟩, gp⟩
      refine XC_do q ?_
      refine zq (cs := [iV 0, iV 0, iV 0, iV 0]) aS z29 q q q (fun gq gr dc => ?_)
      refine XN dc.chg <| X1 15 (by kernel_rfl) q ?_
      have dd := dc.p1
      refine zd q q c60 (w_spec_l20Rd__pick gr _ bp0 A0 B0 (C0.c.c.c.c) aa.1 (if 1 > (List.length p1_0 : Int) then 1 else (List.length p1_0 : Int)) ab ag dd.ctx) (by rfl) ?_
      rintro _ nk ⟨rfl, gs⟩; refine ⟨_, q, ?_⟩
      have b0 := dd.cN1 [_] gs
      refine XN b0.chg <| XQ (i := 16) q (by kernel_rfl) q b0.chg q (fun _ => qt_build (args := [(0, .tmp 15), (1, .tmp 21)]) (css := [#[iV (IntKind.wrap .i64 (ad + (IntKind.wrap .i64 ((IntKind.wrap .i64 (Int.tdiv aa.2 59)) * 6))))], #[iV ab.2]]) (cells := #[iV (IntKind.wrap .i64 (ad + (IntKind.wrap .i64 ((IntKind.wrap .i64 (Int.tdiv aa.2 59)) * 6)))), iV ab.2, iV 0, iV 0]) q ⟨q, q, trivial⟩ (by kernel_rfl)) q q ?_
      have gt := af.cN3 [_] b0
      refine X1 18 (by kernel_rfl) q ?_
      have gu := gt.p1
      refine zl (cs' := [iV (IntKind.wrap .i64 (ad + (IntKind.wrap .i64 ((IntKind.wrap .i64 (Int.tdiv aa.2 59)) * 6)))), iV ab.2, iV 0, iV 0]) gu q il29 q q q q q (fun nl gv => ?_)
      refine XE q ?_
      refine XC_done (by kernel_rfl) (fun a ha => ?_)
      have gw := gv.q2.p2.p3.p3
      exact ⟨gq, ha.sub ⟨q, q, q, q, trivial⟩, gw⟩
     refine XC_do q ?_
     refine zq (cs := [iV 0, iV 0, iV 0, iV 0]) aC z29 q q q (fun gx gy de => ?_)
     refine XN de.chg <| X1 6 (by kernel_rfl) q ?_
     have df := de.p2
     refine zd q q c60 (w_spec_l20Rd__pick gy _ bp0 A0 B0 (C0.c.c.c.c) ai.1 60 aa aj df.ctx) (by rfl) ?_
     rintro _ gz ⟨rfl, gA⟩; refine ⟨_, q, ?_⟩
     have a7 := df.cN1 [_] gA
     refine XN a7.chg <| XQ (i := 7) q (by kernel_rfl) q a7.chg q (fun _ => qt_quo q q (by decide)) q q <| XQ (i := 8) q (by kernel_rfl) q a7.chg q (fun _ => qt_mul q q) q q <| XQ (i := 9) q (by kernel_rfl) q a7.chg q (fun _ => qt_add q q) q q <| X1 15 (by kernel_rfl) q <| zd q q c60 (w_spec_l20Rd__pick gz _ bp0 A0 B0 (C0.c.c.c.c) aa.1 (if 1 > (List.length p1_0 : Int) then 1 else (List.length p1_0 : Int)) ab ag a7.ctx) (by rfl) ?_
     rintro _ nm ⟨rfl, gB⟩; refine ⟨_, q, ?_⟩
     have b4 := a7.cN1 [_] gB
     refine XN b4.chg <| XQ (i := 16) q (by kernel_rfl) q b4.chg q (fun _ => qt_build (args := [(0, .tmp 15), (1, .tmp 21)]) (css := [#[iV (IntKind.wrap .i64 (ad + (IntKind.wrap .i64 ((IntKind.wrap .i64 (Int.tdiv aa.2 59)) * 6))))], #[iV ab.2]]) (cells := #[iV (IntKind.wrap .i64 (ad + (IntKind.wrap .i64 ((IntKind.wrap .i64 (Int.tdiv aa.2 59)) * 6)))), iV ab.2, iV 0, iV 0]) q ⟨q, q, trivial⟩ (by kernel_rfl)) q q ?_
     have gC := af.cN3 [_] b4
     refine X1 18 (by kernel_rfl) q ?_
     have gD := gC.p1
     refine zl (cs' := [iV (IntKind.wrap .i64 (ad + (IntKind.wrap .i64 ((IntKind.wrap .i64 (Int.tdiv aa.2 59)) * 6)))), iV ab.2, iV 0, iV 0]) gD q il29 q q q q q (fun nn gE => ?_)
     refine XE q ?_
     refine XC_done (by kernel_rfl) (fun a ha => ?_)
     have gF := gE.q2.p2.p3.p3
     exact ⟨gx, ha.sub ⟨q, q, q, q, trivial⟩, gF⟩
    ·refine XC_do q ?_
     have dg := aC.p1
     refine zd q q c60 (w_spec_l20Rd__pick c6 _ bp0 A0 B0 (C0.c.c.c) ai.1 60 aa aj dg.ctx) (by rfl) ?_
     rintro _ dh ⟨rfl, gG⟩; refine ⟨_, q, ?_⟩
     have an := dg.cN1 [_] gG
     refine XN an.chg <| XQ (i := 7) q (by kernel_rfl) q an.chg q (fun _ => qt_quo q q (by decide)) q q <| XQ (i := 8) q (by kernel_rfl) q an.chg q (fun _ => qt_mul q q) q q ?_
     refine zy [4, 15, 17] (by kernel_rfl) (by simp) (allc ?_ (allc ?_ (allc ?_ alln)))
     ·refine XC_do q ?_
      obtain ⟨np, gH, nq⟩ := an.at hS1 ae av
      refine zt (k := .i64) u3 q gH q q q <| XN an.chg <| XQ (i := 9) q (by kernel_rfl) q an.chg q (fun _ => qt_add q q) q q ?_
      refine zy [15, 17] (by kernel_rfl) (by simp) (allc ?_ (allc ?_ alln))
      ·refine XC_do q ?_
       refine zd q q c60 (w_spec_l20Rd__pick dh _ bp0 A0 B0 (C0.c.c.c) aa.1 (if 1 > (List.length p1_0 : Int) then 1 else (List.length p1_0 : Int)) ab ag an.ctx) (by rfl) ?_
       rintro _ nr ⟨rfl, gI⟩; refine ⟨_, q, ?_⟩
       have b6 := an.cN1 [_] gI
       refine XN b6.chg <| XQ (i := 16) q (by kernel_rfl) q b6.chg q (fun _ => qt_build (args := [(0, .tmp 15), (1, .tmp 21)]) (css := [#[iV (IntKind.wrap .i64 (ad + (IntKind.wrap .i64 ((IntKind.wrap .i64 (Int.tdiv aa.2 59)) * 6))))], #[iV ab.2]]) (cells := #[iV (IntKind.wrap .i64 (ad + (IntKind.wrap .i64 ((IntKind.wrap .i64 (Int.tdiv aa.2 59)) * 6)))), iV ab.2, iV 0, iV 0]) q ⟨q, q, trivial⟩ (by kernel_rfl)) q q <| X1 17 (by kernel_rfl) q ?_
       refine zq (cs := [iV 0, iV 0, iV 0, iV 0]) b6 z29 q q q (fun gJ nu di => ?_)
       refine XN di.chg ?_
       have gK := af.cN3 [_] di
       refine X1 18 (by kernel_rfl) q ?_
       refine zl (cs' := [iV (IntKind.wrap .i64 (ad + (IntKind.wrap .i64 ((IntKind.wrap .i64 (Int.tdiv aa.2 59)) * 6)))), iV ab.2, iV 0, iV 0]) gK q il29 q q q q q (fun nv gL => ?_)
       refine XE q ?_
       refine XC_done (by kernel_rfl) (fun a ha => ?_)
       have gM := gL.q2.p2.p3.p3
       exact ⟨gJ, ha.sub ⟨q, q, q, q, trivial⟩, gM⟩
      refine XC_do q ?_
      refine zq (cs := [iV 0, iV 0, iV 0, iV 0]) an z29 q q q (fun gN gO dj => ?_)
      refine XN dj.chg <| X1 15 (by kernel_rfl) q ?_
      have dk := dj.p1
      refine zd q q c60 (w_spec_l20Rd__pick gO _ bp0 A0 B0 (C0.c.c.c.c) aa.1 (if 1 > (List.length p1_0 : Int) then 1 else (List.length p1_0 : Int)) ab ag dk.ctx) (by rfl) ?_
      rintro _ nw ⟨rfl, gP⟩; refine ⟨_, q, ?_⟩
      have b7 := dk.cN1 [_] gP
      refine XN b7.chg <| XQ (i := 16) q (by kernel_rfl) q b7.chg q (fun _ => qt_build (args := [(0, .tmp 15), (1, .tmp 21)]) (css := [#[iV (IntKind.wrap .i64 (ad + (IntKind.wrap .i64 ((IntKind.wrap .i64 (Int.tdiv aa.2 59)) * 6))))], #[iV ab.2]]) (cells := #[iV (IntKind.wrap .i64 (ad + (IntKind.wrap .i64 ((IntKind.wrap .i64 (Int.tdiv aa.2 59)) * 6)))), iV ab.2, iV 0, iV 0]) q ⟨q, q, trivial⟩ (by kernel_rfl)) q q ?_
      have gQ := af.cN3 [_] b7
      refine X1 18 (by kernel_rfl) q ?_
      have gR := gQ.p1
      refine zl (cs' := [iV (IntKind.wrap .i64 (ad + (IntKind.wrap .i64 ((IntKind.wrap .i64 (Int.tdiv aa.2 59)) * 6)))), iV ab.2, iV 0, iV 0]) gR q il29 q q q q q (fun nx gS => ?_)
      refine XE q ?_
      refine XC_done (by kernel_rfl) (fun a ha => ?_)
      have gT := gS.q2.p2.p3.p3
      exact ⟨gN, ha.sub ⟨q, q, q, q, trivial⟩, gT⟩
     ·refine XC_do q ?_
      refine zd q q c60 (w_spec_l20Rd__pick dh _ bp0 A0 B0 (C0.c.c.c) aa.1 (if 1 > (List.length p1_0 : Int) then 1 else (List.length p1_0 : Int)) ab ag an.ctx) (by rfl) ?_
      rintro _ ny ⟨rfl, gU⟩; refine ⟨_, q, ?_⟩
      have aT := an.cN1 [_] gU
      refine XN aT.chg ?_
      refine zy [4, 17] (by kernel_rfl) (by simp) (allc ?_ (allc ?_ alln))
      ·refine XC_do q ?_
       obtain ⟨nz, gV, nA⟩ := aT.at hS1 ae av
       refine zt (k := .i64) u3 q gV q q q <| XN aT.chg <| XQ (i := 9) q (by kernel_rfl) q aT.chg q (fun _ => qt_add q q) q q <| XQ (i := 16) q (by kernel_rfl) q aT.chg q (fun _ => qt_build (args := [(0, .tmp 15), (1, .tmp 21)]) (css := [#[iV (IntKind.wrap .i64 (ad + (IntKind.wrap .i64 ((IntKind.wrap .i64 (Int.tdiv aa.2 59)) * 6))))], #[iV ab.2]]) (cells := #[iV (IntKind.wrap .i64 (ad + (IntKind.wrap .i64 ((IntKind.wrap .i64 (Int.tdiv aa.2 59)) * 6)))), iV ab.2, iV 0, iV 0]) q ⟨q, q, trivial⟩ (by kernel_rfl)) q q <| X1 17 (by kernel_rfl) q ?_
       refine zq (cs := [iV 0, iV 0, iV 0, iV 0]) aT z29 q q q (fun gW nB dl => ?_)
       refine XN dl.chg ?_
       have gX := af.cN3 [_] dl
       refine X1 18 (by kernel_rfl) q ?_
       refine zl (cs' := [iV (IntKind.wrap .i64 (ad + (IntKind.wrap .i64 ((IntKind.wrap .i64 (Int.tdiv aa.2 59)) * 6)))), iV ab.2, iV 0, iV 0]) gX q il29 q q q q q (fun nC gY => ?_)
       refine XE q ?_
       refine XC_done (by kernel_rfl) (fun a ha => ?_)
       have gZ := gY.q2.p2.p3.p3
       exact ⟨gW, ha.sub ⟨q, q, q, q, trivial⟩, gZ⟩
      refine XC_do q ?_
      refine zq (cs := [iV 0, iV 0, iV 0, iV 0]) aT z29 q q q (fun g0 nE a8 => ?_)
      refine XN a8.chg <| X1 4 (by kernel_rfl) q ?_
      obtain ⟨nF, g1, nG⟩ := a8.at hS2 ae av
      refine zt (k := .i64) u3 q g1 q q q <| XN a8.chg <| XQ (i := 9) q (by kernel_rfl) q a8.chg q (fun _ => qt_add q q) q q <| XQ (i := 16) q (by kernel_rfl) q a8.chg q (fun _ => qt_build (args := [(0, .tmp 15), (1, .tmp 21)]) (css := [#[iV (IntKind.wrap .i64 (ad + (IntKind.wrap .i64 ((IntKind.wrap .i64 (Int.tdiv aa.2 59)) * 6))))], #[iV ab.2]]) (cells := #[iV (IntKind.wrap .i64 (ad + (IntKind.wrap .i64 ((IntKind.wrap .i64 (Int.tdiv aa.2 59)) * 6)))), iV ab.2, iV 0, iV 0]) q ⟨q, q, trivial⟩ (by kernel_rfl)) q q ?_
      have g2 := af.cN3 [_] a8
      refine X1 18 (by kernel_rfl) q ?_
      refine zl (cs' := [iV (IntKind.wrap .i64 (ad + (IntKind.wrap .i64 ((IntKind.wrap .i64 (Int.tdiv aa.2 59)) * 6)))), iV ab.2, iV 0, iV 0]) g2 q il29 q q q q q (fun nH g3 => ?_)
      refine XE q ?_
      refine XC_done (by kernel_rfl) (fun a ha => ?_)
      have g4 := g3.q2.p2.p3.p3
      exact ⟨g0, ha.sub ⟨q, q, q, q, trivial⟩, g4⟩
     refine XC_do q ?_
     refine zq (cs := [iV 0, iV 0, iV 0, iV 0]) an z29 q q q (fun dm dn a9 => ?_)
     refine XN a9.chg ?_
     refine zy [4, 15] (by kernel_rfl) (by simp) (allc ?_ (allc ?_ alln))
     ·refine XC_do q ?_
      obtain ⟨nI, g5, nJ⟩ := a9.at hS2 ae av
      refine zt (k := .i64) u3 q g5 q q q <| XN a9.chg <| XQ (i := 9) q (by kernel_rfl) q a9.chg q (fun _ => qt_add q q) q q <| X1 15 (by kernel_rfl) q ?_
      have dq := a9.p1
      refine zd q q c60 (w_spec_l20Rd__pick dn _ bp0 A0 B0 (C0.c.c.c.c) aa.1 (if 1 > (List.length p1_0 : Int) then 1 else (List.length p1_0 : Int)) ab ag dq.ctx) (by rfl) ?_
      rintro _ nK ⟨rfl, g6⟩; refine ⟨_, q, ?_⟩
      have b8 := dq.cN1 [_] g6
      refine XN b8.chg <| XQ (i := 16) q (by kernel_rfl) q b8.chg q (fun _ => qt_build (args := [(0, .tmp 15), (1, .tmp 21)]) (css := [#[iV (IntKind.wrap .i64 (ad + (IntKind.wrap .i64 ((IntKind.wrap .i64 (Int.tdiv aa.2 59)) * 6))))], #[iV ab.2]]) (cells := #[iV (IntKind.wrap .i64 (ad + (IntKind.wrap .i64 ((IntKind.wrap .i64 (Int.tdiv aa.2 59)) * 6)))), iV ab.2, iV 0, iV 0]) q ⟨q, q, trivial⟩ (by kernel_rfl)) q q ?_
      have g7 := af.cN3 [_] b8
      refine X1 18 (by kernel_rfl) q ?_
      have g8 := g7.p1
      refine zl (cs' := [iV (IntKind.wrap .i64 (ad + (IntKind.wrap .i64 ((IntKind.wrap .i64 (Int.tdiv aa.2 59)) * 6)))), iV ab.2, iV 0, iV 0]) g8 q il29 q q q q q (fun nL g9 => ?_)
      refine XE q ?_
      refine XC_done (by kernel_rfl) (fun a ha => ?_)
      have hb := g9.q2.p2.p3.p3
      exact ⟨dm, ha.sub ⟨q, q, q, q, trivial⟩, hb⟩
     refine XC_do q ?_
     have dr := a9.p1
     refine zd q q c60 (w_spec_l20Rd__pick dn _ bp0 A0 B0 (C0.c.c.c.c) aa.1 (if 1 > (List.length p1_0 : Int) then 1 else (List.length p1_0 : Int)) ab ag dr.ctx) (by rfl) ?_
     rintro _ nM ⟨rfl, hc⟩; refine ⟨_, q, ?_⟩
     have ba := dr.cN1 [_] hc
     refine XN ba.chg <| X1 4 (by kernel_rfl) q ?_
     obtain ⟨nN, he, nO⟩ := ba.at hS2 ae av
     refine zt (k := .i64) u3 q he q q q <| XN ba.chg <| XQ (i := 9) q (by kernel_rfl) q ba.chg q (fun _ => qt_add q q) q q <| XQ (i := 16) q (by kernel_rfl) q ba.chg q (fun _ => qt_build (args := [(0, .tmp 15), (1, .tmp 21)]) (css := [#[iV (IntKind.wrap .i64 (ad + (IntKind.wrap .i64 ((IntKind.wrap .i64 (Int.tdiv aa.2 59)) * 6))))], #[iV ab.2]]) (cells := #[iV (IntKind.wrap .i64 (ad + (IntKind.wrap .i64 ((IntKind.wrap .i64 (Int.tdiv aa.2 59)) * 6)))), iV ab.2, iV 0, iV 0]) q ⟨q, q, trivial⟩ (by kernel_rfl)) q q ?_
     have hf := af.cN3 [_] ba
     refine X1 18 (by kernel_rfl) q ?_
     have hg := hf.p1
     refine zl (cs' := [iV (IntKind.wrap .i64 (ad + (IntKind.wrap .i64 ((IntKind.wrap .i64 (Int.tdiv aa.2 59)) * 6)))), iV ab.2, iV 0, iV 0]) hg q il29 q q q q q (fun nP hh => ?_)
     refine XE q ?_
     refine XC_done (by kernel_rfl) (fun a ha => ?_)
     have hi := hh.q2.p2.p3.p3
     exact ⟨dm, ha.sub ⟨q, q, q, q, trivial⟩, hi⟩
    refine XC_do q ?_
    refine zq (cs := [iV 0, iV 0, iV 0, iV 0]) aC z29 q q q (fun b9 ds bA => ?_)
    refine XN bA.chg ?_
    refine zy [4, 6] (by kernel_rfl) (by simp) (allc ?_ (allc ?_ alln))
    ·refine XC_do q ?_
     obtain ⟨nQ, hj, nR⟩ := bA.at hS1 ae av
     refine zt (k := .i64) u3 q hj q q q <| XN bA.chg <| X1 6 (by kernel_rfl) q ?_
     have dt := bA.p2
     refine zd q q c60 (w_spec_l20Rd__pick ds _ bp0 A0 B0 (C0.c.c.c.c) ai.1 60 aa aj dt.ctx) (by rfl) ?_
     rintro _ hk ⟨rfl, hl⟩; refine ⟨_, q, ?_⟩
     have bb := dt.cN1 [_] hl
     refine XN bb.chg <| XQ (i := 7) q (by kernel_rfl) q bb.chg q (fun _ => qt_quo q q (by decide)) q q <| XQ (i := 8) q (by kernel_rfl) q bb.chg q (fun _ => qt_mul q q) q q <| XQ (i := 9) q (by kernel_rfl) q bb.chg q (fun _ => qt_add q q) q q <| X1 15 (by kernel_rfl) q <| zd q q c60 (w_spec_l20Rd__pick hk _ bp0 A0 B0 (C0.c.c.c.c) aa.1 (if 1 > (List.length p1_0 : Int) then 1 else (List.length p1_0 : Int)) ab ag bb.ctx) (by rfl) ?_
     rintro _ nT ⟨rfl, hm⟩; refine ⟨_, q, ?_⟩
     have ca := bb.cN1 [_] hm
     refine XN ca.chg <| XQ (i := 16) q (by kernel_rfl) q ca.chg q (fun _ => qt_build (args := [(0, .tmp 15), (1, .tmp 21)]) (css := [#[iV (IntKind.wrap .i64 (ad + (IntKind.wrap .i64 ((IntKind.wrap .i64 (Int.tdiv aa.2 59)) * 6))))], #[iV ab.2]]) (cells := #[iV (IntKind.wrap .i64 (ad + (IntKind.wrap .i64 ((IntKind.wrap .i64 (Int.tdiv aa.2 59)) * 6)))), iV ab.2, iV 0, iV 0]) q ⟨q, q, trivial⟩ (by kernel_rfl)) q q ?_
     have hn := af.cN3 [_] ca
     refine X1 18 (by kernel_rfl) q ?_
     have ho := hn.p1
     refine zl (cs' := [iV (IntKind.wrap .i64 (ad + (IntKind.wrap .i64 ((IntKind.wrap .i64 (Int.tdiv aa.2 59)) * 6)))), iV ab.2, iV 0, iV 0]) ho q il29 q q q q q (fun nU hp => ?_)
     refine XE q ?_
     refine XC_done (by kernel_rfl) (fun a ha => ?_)
     have hq := hp.q2.p2.p3.p3
     exact ⟨b9, ha.sub ⟨q, q, q, q, trivial⟩, hq⟩
    refine XC_do q ?_
    have du := bA.p2
    refine zd q q c60 (w_spec_l20Rd__pick ds _ bp0 A0 B0 (C0.c.c.c.c) ai.1 60 aa aj du.ctx) (by rfl) ?_
    rintro _ dv ⟨rfl, hr⟩; refine ⟨_, q, ?_⟩
    have aw := du.cN1 [_] hr
    refine XN aw.chg <| XQ (i := 7) q (by kernel_rfl) q aw.chg q (fun _ => qt_quo q q (by decide)) q q <| XQ (i := 8) q (by kernel_rfl) q aw.chg q (fun _ => qt_mul q q) q q ?_
    refine zy [4, 15] (by kernel_rfl) (by simp) (allc ?_ (allc ?_ alln))
    ·refine XC_do q ?_
     obtain ⟨nV, hs, nW⟩ := aw.at hS2 ae av
     refine zt (k := .i64) u3 q hs q q q <| XN aw.chg <| XQ (i := 9) q (by kernel_rfl) q aw.chg q (fun _ => qt_add q q) q q <| X1 15 (by kernel_rfl) q <| zd q q c60 (w_spec_l20Rd__pick dv _ bp0 A0 B0 (C0.c.c.c.c) aa.1 (if 1 > (List.length p1_0 : Int) then 1 else (List.length p1_0 : Int)) ab ag aw.ctx) (by rfl) ?_
     rintro _ nX ⟨rfl, ht⟩; refine ⟨_, q, ?_⟩
     have cb := aw.cN1 [_] ht
     refine XN cb.chg <| XQ (i := 16) q (by kernel_rfl) q cb.chg q (fun _ => qt_build (args := [(0, .tmp 15), (1, .tmp 21)]) (css := [#[iV (IntKind.wrap .i64 (ad + (IntKind.wrap .i64 ((IntKind.wrap .i64 (Int.tdiv aa.2 59)) * 6))))], #[iV ab.2]]) (cells := #[iV (IntKind.wrap .i64 (ad + (IntKind.wrap .i64 ((IntKind.wrap .i64 (Int.tdiv aa.2 59)) * 6)))), iV ab.2, iV 0, iV 0]) q ⟨q, q, trivial⟩ (by kernel_rfl)) q q ?_
     have hu := af.cN3 [_] cb
     refine X1 18 (by kernel_rfl) q ?_
     have hv := hu.p1
     refine zl (cs' := [iV (IntKind.wrap .i64 (ad + (IntKind.wrap .i64 ((IntKind.wrap .i64 (Int.tdiv aa.2 59)) * 6)))), iV ab.2, iV 0, iV 0]) hv q il29 q q q q q (fun nY hw => ?_)
     refine XE q ?_
     refine XC_done (by kernel_rfl) (fun a ha => ?_)
     have hx := hw.q2.p2.p3.p3
     exact ⟨b9, ha.sub ⟨q, q, q, q, trivial⟩, hx⟩
    refine XC_do q <| zd q q c60 (w_spec_l20Rd__pick dv _ bp0 A0 B0 (C0.c.c.c.c) aa.1 (if 1 > (List.length p1_0 : Int) then 1 else (List.length p1_0 : Int)) ab ag aw.ctx) (by rfl) ?_
    rintro _ nZ ⟨rfl, hy⟩; refine ⟨_, q, ?_⟩
    have bc := aw.cN1 [_] hy
    refine XN bc.chg <| X1 4 (by kernel_rfl) q ?_
    obtain ⟨n0, hz, n1⟩ := bc.at hS2 ae av
    refine zt (k := .i64) u3 q hz q q q <| XN bc.chg <| XQ (i := 9) q (by kernel_rfl) q bc.chg q (fun _ => qt_add q q) q q <| XQ (i := 16) q (by kernel_rfl) q bc.chg q (fun _ => qt_build (args := [(0, .tmp 15), (1, .tmp 21)]) (css := [#[iV (IntKind.wrap .i64 (ad + (IntKind.wrap .i64 ((IntKind.wrap .i64 (Int.tdiv aa.2 59)) * 6))))], #[iV ab.2]]) (cells := #[iV (IntKind.wrap .i64 (ad + (IntKind.wrap .i64 ((IntKind.wrap .i64 (Int.tdiv aa.2 59)) * 6)))), iV ab.2, iV 0, iV 0]) q ⟨q, q, trivial⟩ (by kernel_rfl)) q q ?_
    have hA := af.cN3 [_] bc
    refine X1 18 (by kernel_rfl) q ?_
    have hC := hA.p1
    refine zl (cs' := [iV (IntKind.wrap .i64 (ad + (IntKind.wrap .i64 ((IntKind.wrap .i64 (Int.tdiv aa.2 59)) * 6)))), iV ab.2, iV 0, iV 0]) hC q il29 q q q q q (fun n2 hD => ?_)
    refine XE q ?_
    refine XC_done (by kernel_rfl) (fun a ha => ?_)
    have hE := hD.q2.p2.p3.p3
    exact ⟨b9, ha.sub ⟨q, q, q, q, trivial⟩, hE⟩
   ·refine XC_do q ?_
    refine zd q q c60 (w_spec_l20Rd__pick gg _ bp0 A0 B0 (C0.c.c) ai.1 60 aa aj bz.ctx) (by rfl) ?_
    rintro _ hF ⟨rfl, hG⟩; refine ⟨_, q, ?_⟩
    have aU := bz.cN1 [_] hG
    refine XN aU.chg <| XQ (i := 7) q (by kernel_rfl) q aU.chg q (fun _ => qt_quo q q (by decide)) q q <| XQ (i := 8) q (by kernel_rfl) q aU.chg q (fun _ => qt_mul q q) q q ?_
    refine zy [0, 15, 17] (by kernel_rfl) (by simp) (allc ?_ (allc ?_ (allc ?_ alln)))
    ·refine XC_do q ?_
     refine zs (t := tI) (args := [.const (iV 0), .const (iV 0), .const (iV 1), .const (iV 1), .const (iV 2), .const (iV 3), .const (iV 3), .const (iV 3), .const (iV 4), .const (iV 4), .const (iV 4), .const (iV 5)]) (xs := ([0, 0, 1, 1, 2, 3, 3, 3, 4, 4, 4, 5] : List Int)) aU (BltL.cons (Blt.int) q (BltL.cons (Blt.int) q (BltL.cons (Blt.int) q (BltL.cons (Blt.int) q (BltL.cons (Blt.int) q (BltL.cons (Blt.int) q (BltL.cons (Blt.int) q (BltL.cons (Blt.int) q (BltL.cons (Blt.int) q (BltL.cons (Blt.int) q (BltL.cons (Blt.int) q (BltL.cons (Blt.int) q (BltL.nil))))))))))))) u24 j3 q q q q q q (fun n3 dw ax => ?_)
     refine XN ax.chg ?_
     obtain ⟨n4, n5, n6, bd⟩ := Ctx.isAt ax.ctx hS0 ae
     refine XT (i := 3) q (by kernel_rfl) q ax.chg q (qs_index ae bd u24 i3 q q) q q ?_
     refine zy [4, 15, 17] (by kernel_rfl) (by simp) (allc ?_ (allc ?_ (allc ?_ alln)))
     ·refine XC_do q ?_
      obtain ⟨n7, hH, n8⟩ := ax.at hS0 ae bd
      refine zt (k := .i64) u3 q hH q q q <| XN ax.chg <| XQ (i := 9) q (by kernel_rfl) q ax.chg q (fun _ => qt_add q q) q q ?_
      refine zy [15, 17] (by kernel_rfl) (by simp) (allc ?_ (allc ?_ alln))
      ·refine XC_do q ?_
       have dx := ax.p1
       refine zd q q c60 (w_spec_l20Rd__pick dw _ bp0 A0 B0 (C0.c.c.c) aa.1 (if 1 > (List.length p1_0 : Int) then 1 else (List.length p1_0 : Int)) ab ag dx.ctx) (by rfl) ?_
       rintro _ n9 ⟨rfl, hI⟩; refine ⟨_, q, ?_⟩
       have cc := dx.cN1 [_] hI
       refine XN cc.chg <| XQ (i := 16) q (by kernel_rfl) q cc.chg q (fun _ => qt_build (args := [(0, .tmp 15), (1, .tmp 21)]) (css := [#[iV (IntKind.wrap .i64 (ad + (IntKind.wrap .i64 ((IntKind.wrap .i64 (Int.tdiv aa.2 59)) * 6))))], #[iV ab.2]]) (cells := #[iV (IntKind.wrap .i64 (ad + (IntKind.wrap .i64 ((IntKind.wrap .i64 (Int.tdiv aa.2 59)) * 6)))), iV ab.2, iV 0, iV 0]) q ⟨q, q, trivial⟩ (by kernel_rfl)) q q <| X1 17 (by kernel_rfl) q ?_
       refine zq (cs := [iV 0, iV 0, iV 0, iV 0]) cc z29 q q q (fun hJ oa dy => ?_)
       refine XN dy.chg ?_
       have hK := af.cN3 [_] dy
       refine X1 18 (by kernel_rfl) q ?_
       refine zl (cs' := [iV (IntKind.wrap .i64 (ad + (IntKind.wrap .i64 ((IntKind.wrap .i64 (Int.tdiv aa.2 59)) * 6)))), iV ab.2, iV 0, iV 0]) hK q il29 q q q q q (fun ob hL => ?_)
       refine XE q ?_
       refine XC_done (by kernel_rfl) (fun a ha => ?_)
       have hM := hL.q2.p2.p3.p3
       exact ⟨hJ, ha.sub ⟨q, q, q, q, trivial⟩, hM⟩
      refine XC_do q ?_
      refine zq (cs := [iV 0, iV 0, iV 0, iV 0]) ax z29 q q q (fun hN hO dz => ?_)
      refine XN dz.chg <| X1 15 (by kernel_rfl) q ?_
      have dA := dz.p2
      refine zd q q c60 (w_spec_l20Rd__pick hO _ bp0 A0 B0 (C0.c.c.c.c) aa.1 (if 1 > (List.length p1_0 : Int) then 1 else (List.length p1_0 : Int)) ab ag dA.ctx) (by rfl) ?_
      rintro _ oc ⟨rfl, hP⟩; refine ⟨_, q, ?_⟩
      have cd := dA.cN1 [_] hP
      refine XN cd.chg <| XQ (i := 16) q (by kernel_rfl) q cd.chg q (fun _ => qt_build (args := [(0, .tmp 15), (1, .tmp 21)]) (css := [#[iV (IntKind.wrap .i64 (ad + (IntKind.wrap .i64 ((IntKind.wrap .i64 (Int.tdiv aa.2 59)) * 6))))], #[iV ab.2]]) (cells := #[iV (IntKind.wrap .i64 (ad + (IntKind.wrap .i64 ((IntKind.wrap .i64 (Int.tdiv aa.2 59)) * 6)))), iV ab.2, iV 0, iV 0]) q ⟨q, q, trivial⟩ (by kernel_rfl)) q q ?_
      have hQ := af.cN3 [_] cd
      refine X1 18 (by kernel_rfl) q ?_
      have hR := hQ.p1
      refine zl (cs' := [iV (IntKind.wrap .i64 (ad + (IntKind.wrap .i64 ((IntKind.wrap .i64 (Int.tdiv aa.2 59)) * 6)))), iV ab.2, iV 0, iV 0]) hR q il29 q q q q q (fun od hS => ?_)
      refine XE q ?_
      refine XC_done (by kernel_rfl) (fun a ha => ?_)
      have hT := hS.q2.p2.p3.p3
      exact ⟨hN, ha.sub ⟨q, q, q, q, trivial⟩, hT⟩
     ·refine XC_do q ?_
      have dB := ax.p1
      refine zd q q c60 (w_spec_l20Rd__pick dw _ bp0 A0 B0 (C0.c.c.c) aa.1 (if 1 > (List.length p1_0 : Int) then 1 else (List.length p1_0 : Int)) ab ag dB.ctx) (by rfl) ?_
      rintro _ oe ⟨rfl, hU⟩; refine ⟨_, q, ?_⟩
      have aV := dB.cN1 [_] hU
      refine XN aV.chg ?_
      refine zy [4, 17] (by kernel_rfl) (by simp) (allc ?_ (allc ?_ alln))
      ·refine XC_do q ?_
       obtain ⟨og, hV, oh⟩ := aV.at hS1 ae bd
       refine zt (k := .i64) u3 q hV q q q <| XN aV.chg <| XQ (i := 9) q (by kernel_rfl) q aV.chg q (fun _ => qt_add q q) q q <| XQ (i := 16) q (by kernel_rfl) q aV.chg q (fun _ => qt_build (args := [(0, .tmp 15), (1, .tmp 21)]) (css := [#[iV (IntKind.wrap .i64 (ad + (IntKind.wrap .i64 ((IntKind.wrap .i64 (Int.tdiv aa.2 59)) * 6))))], #[iV ab.2]]) (cells := #[iV (IntKind.wrap .i64 (ad + (IntKind.wrap .i64 ((IntKind.wrap .i64 (Int.tdiv aa.2 59)) * 6)))), iV ab.2, iV 0, iV 0]) q ⟨q, q, trivial⟩ (by kernel_rfl)) q q <| X1 17 (by kernel_rfl) q ?_
       refine zq (cs := [iV 0, iV 0, iV 0, iV 0]) aV z29 q q q (fun hW oi dC => ?_)
       refine XN dC.chg ?_
       have hX := af.cN3 [_] dC
       refine X1 18 (by kernel_rfl) q ?_
       refine zl (cs' := [iV (IntKind.wrap .i64 (ad + (IntKind.wrap .i64 ((IntKind.wrap .i64 (Int.tdiv aa.2 59)) * 6)))), iV ab.2, iV 0, iV 0]) hX q il29 q q q q q (fun oj hY => ?_)
       refine XE q ?_
       refine XC_done (by kernel_rfl) (fun a ha => ?_)
       have hZ := hY.q2.p2.p3.p3
       exact ⟨hW, ha.sub ⟨q, q, q, q, trivial⟩, hZ⟩
      refine XC_do q ?_
      refine zq (cs := [iV 0, iV 0, iV 0, iV 0]) aV z29 q q q (fun h0 ok be => ?_)
      refine XN be.chg <| X1 4 (by kernel_rfl) q ?_
      obtain ⟨ol, h1, om⟩ := be.at hS2 ae bd
      refine zt (k := .i64) u3 q h1 q q q <| XN be.chg <| XQ (i := 9) q (by kernel_rfl) q be.chg q (fun _ => qt_add q q) q q <| XQ (i := 16) q (by kernel_rfl) q be.chg q (fun _ => qt_build (args := [(0, .tmp 15), (1, .tmp 21)]) (css := [#[iV (IntKind.wrap .i64 (ad + (IntKind.wrap .i64 ((IntKind.wrap .i64 (Int.tdiv aa.2 59)) * 6))))], #[iV ab.2]]) (cells := #[iV (IntKind.wrap .i64 (ad + (IntKind.wrap .i64 ((IntKind.wrap .i64 (Int.tdiv aa.2 59)) * 6)))), iV ab.2, iV 0, iV 0]) q ⟨q, q, trivial⟩ (by kernel_rfl)) q q ?_
      have h2 := af.cN3 [_] be
      refine X1 18 (by kernel_rfl) q ?_
      refine zl (cs' := [iV (IntKind.wrap .i64 (ad + (IntKind.wrap .i64 ((IntKind.wrap .i64 (Int.tdiv aa.2 59)) * 6)))), iV ab.2, iV 0, iV 0]) h2 q il29 q q q q q (fun oo h3 => ?_)
      refine XE q ?_
      refine XC_done (by kernel_rfl) (fun a ha => ?_)
      have h4 := h3.q2.p2.p3.p3
      exact ⟨h0, ha.sub ⟨q, q, q, q, trivial⟩, h4⟩
     refine XC_do q ?_
     refine zq (cs := [iV 0, iV 0, iV 0, iV 0]) ax z29 q q q (fun dD dE bf => ?_)
     refine XN bf.chg ?_
     refine zy [4, 15] (by kernel_rfl) (by simp) (allc ?_ (allc ?_ alln))
     ·refine XC_do q ?_
      obtain ⟨oq, h5, os⟩ := bf.at hS1 ae bd
      refine zt (k := .i64) u3 q h5 q q q <| XN bf.chg <| XQ (i := 9) q (by kernel_rfl) q bf.chg q (fun _ => qt_add q q) q q <| X1 15 (by kernel_rfl) q ?_
      have dF := bf.p2
      refine zd q q c60 (w_spec_l20Rd__pick dE _ bp0 A0 B0 (C0.c.c.c.c) aa.1 (if 1 > (List.length p1_0 : Int) then 1 else (List.length p1_0 : Int)) ab ag dF.ctx) (by rfl) ?_
      rintro _ ot ⟨rfl, h6⟩; refine ⟨_, q, ?_⟩
      have ce := dF.cN1 [_] h6
      refine XN ce.chg <| XQ (i := 16) q (by kernel_rfl) q ce.chg q (fun _ => qt_build (args := [(0, .tmp 15), (1, .tmp 21)]) (css := [#[iV (IntKind.wrap .i64 (ad + (IntKind.wrap .i64 ((IntKind.wrap .i64 (Int.tdiv aa.2 59)) * 6))))], #[iV ab.2]]) (cells := #[iV (IntKind.wrap .i64 (ad + (IntKind.wrap .i64 ((IntKind.wrap .i64 (Int.tdiv aa.2 59)) * 6)))), iV ab.2, iV 0, iV 0]) q ⟨q, q, trivial⟩ (by kernel_rfl)) q q ?_
      have h7 := af.cN3 [_] ce
      refine X1 18 (by kernel_rfl) q ?_
      have h8 := h7.p1
      refine zl (cs' := [iV (IntKind.wrap .i64 (ad + (IntKind.wrap .i64 ((IntKind.wrap .i64 (Int.tdiv aa.2 59)) * 6)))), iV ab.2, iV 0, iV 0]) h8 q il29 q q q q q (fun ou h9 => ?_)
      refine XE q ?_
      refine XC_done (by kernel_rfl) (fun a ha => ?_)
      have ia := h9.q2.p2.p3.p3
      exact ⟨dD, ha.sub ⟨q, q, q, q, trivial⟩, ia⟩
     refine XC_do q ?_
     have dG := bf.p2
     refine zd q q c60 (w_spec_l20Rd__pick dE _ bp0 A0 B0 (C0.c.c.c.c) aa.1 (if 1 > (List.length p1_0 : Int) then 1 else (List.length p1_0 : Int)) ab ag dG.ctx) (by rfl) ?_
     rintro _ ov ⟨rfl, ib⟩; refine ⟨_, q, ?_⟩
     have bg := dG.cN1 [_] ib
     refine XN bg.chg <| X1 4 (by kernel_rfl) q ?_
     obtain ⟨ow, ic, ox⟩ := bg.at hS2 ae bd
     refine zt (k := .i64) u3 q ic q q q <| XN bg.chg <| XQ (i := 9) q (by kernel_rfl) q bg.chg q (fun _ => qt_add q q) q q <| XQ (i := 16) q (by kernel_rfl) q bg.chg q (fun _ => qt_build (args := [(0, .tmp 15), (1, .tmp 21)]) (css := [#[iV (IntKind.wrap .i64 (ad + (IntKind.wrap .i64 ((IntKind.wrap .i64 (Int.tdiv aa.2 59)) * 6))))], #[iV ab.2]]) (cells := #[iV (IntKind.wrap .i64 (ad + (IntKind.wrap .i64 ((IntKind.wrap .i64 (Int.tdiv aa.2 59)) * 6)))), iV ab.2, iV 0, iV 0]) q ⟨q, q, trivial⟩ (by kernel_rfl)) q q ?_
     have ie := af.cN3 [_] bg
     refine X1 18 (by kernel_rfl) q ?_
     have ig := ie.p1
     refine zl (cs' := [iV (IntKind.wrap .i64 (ad + (IntKind.wrap .i64 ((IntKind.wrap .i64 (Int.tdiv aa.2 59)) * 6)))), iV ab.2, iV 0, iV 0]) ig q il29 q q q q q (fun oy ih => ?_)
     refine XE q ?_
     refine XC_done (by kernel_rfl) (fun a ha => ?_)
     have ii := ih.q2.p2.p3.p3
     exact ⟨dD, ha.sub ⟨q, q, q, q, trivial⟩, ii⟩
    ·refine XC_do q ?_
     refine zd q q c60 (w_spec_l20Rd__pick hF _ bp0 A0 B0 (C0.c.c) aa.1 (if 1 > (List.length p1_0 : Int) then 1 else (List.length p1_0 : Int)) ab ag aU.ctx) (by rfl) ?_
     rintro _ oz ⟨rfl, ij⟩; refine ⟨_, q, ?_⟩
     have cf := aU.cN1 [_] ij
     refine XN cf.chg ?_
     refine zy [0, 17] (by kernel_rfl) (by simp) (allc ?_ (allc ?_ alln))
     ·refine XC_do q ?_
      refine zs (t := tI) (args := [.const (iV 0), .const (iV 0), .const (iV 1), .const (iV 1), .const (iV 2), .const (iV 3), .const (iV 3), .const (iV 3), .const (iV 4), .const (iV 4), .const (iV 4), .const (iV 5)]) (xs := ([0, 0, 1, 1, 2, 3, 3, 3, 4, 4, 4, 5] : List Int)) cf (BltL.cons (Blt.int) q (BltL.cons (Blt.int) q (BltL.cons (Blt.int) q (BltL.cons (Blt.int) q (BltL.cons (Blt.int) q (BltL.cons (Blt.int) q (BltL.cons (Blt.int) q (BltL.cons (Blt.int) q (BltL.cons (Blt.int) q (BltL.cons (Blt.int) q (BltL.cons (Blt.int) q (BltL.cons (Blt.int) q (BltL.nil))))))))))))) u24 j3 q q q q q q (fun oA oB aD => ?_)
      refine XN aD.chg ?_
      obtain ⟨oC, oD, oE, cg⟩ := Ctx.isAt aD.ctx hS0 ae
      refine XT (i := 3) q (by kernel_rfl) q aD.chg q (qs_index ae cg u24 i3 q q) q q ?_
      refine zy [4, 17] (by kernel_rfl) (by simp) (allc ?_ (allc ?_ alln))
      ·refine XC_do q ?_
       obtain ⟨oF, ik, oG⟩ := aD.at hS0 ae cg
       refine zt (k := .i64) u3 q ik q q q <| XN aD.chg <| XQ (i := 9) q (by kernel_rfl) q aD.chg q (fun _ => qt_add q q) q q <| XQ (i := 16) q (by kernel_rfl) q aD.chg q (fun _ => qt_build (args := [(0, .tmp 15), (1, .tmp 21)]) (css := [#[iV (IntKind.wrap .i64 (ad + (IntKind.wrap .i64 ((IntKind.wrap .i64 (Int.tdiv aa.2 59)) * 6))))], #[iV ab.2]]) (cells := #[iV (IntKind.wrap .i64 (ad + (IntKind.wrap .i64 ((IntKind.wrap .i64 (Int.tdiv aa.2 59)) * 6)))), iV ab.2, iV 0, iV 0]) q ⟨q, q, trivial⟩ (by kernel_rfl)) q q <| X1 17 (by kernel_rfl) q ?_
       refine zq (cs := [iV 0, iV 0, iV 0, iV 0]) aD z29 q q q (fun il oH dH => ?_)
       refine XN dH.chg ?_
       have im := af.cN3 [_] dH
       refine X1 18 (by kernel_rfl) q ?_
       refine zl (cs' := [iV (IntKind.wrap .i64 (ad + (IntKind.wrap .i64 ((IntKind.wrap .i64 (Int.tdiv aa.2 59)) * 6)))), iV ab.2, iV 0, iV 0]) im q il29 q q q q q (fun oI io => ?_)
       refine XE q ?_
       refine XC_done (by kernel_rfl) (fun a ha => ?_)
       have ip := io.q1.p2.p3.p3
       exact ⟨il, ha.sub ⟨q, q, q, q, trivial⟩, ip⟩
      refine XC_do q ?_
      refine zq (cs := [iV 0, iV 0, iV 0, iV 0]) aD z29 q q q (fun iq oJ bh => ?_)
      refine XN bh.chg <| X1 4 (by kernel_rfl) q ?_
      obtain ⟨oK, ir, oL⟩ := bh.at hS1 ae cg
      refine zt (k := .i64) u3 q ir q q q <| XN bh.chg <| XQ (i := 9) q (by kernel_rfl) q bh.chg q (fun _ => qt_add q q) q q <| XQ (i := 16) q (by kernel_rfl) q bh.chg q (fun _ => qt_build (args := [(0, .tmp 15), (1, .tmp 21)]) (css := [#[iV (IntKind.wrap .i64 (ad + (IntKind.wrap .i64 ((IntKind.wrap .i64 (Int.tdiv aa.2 59)) * 6))))], #[iV ab.2]]) (cells := #[iV (IntKind.wrap .i64 (ad + (IntKind.wrap .i64 ((IntKind.wrap .i64 (Int.tdiv aa.2 59)) * 6)))), iV ab.2, iV 0, iV 0]) q ⟨q, q, trivial⟩ (by kernel_rfl)) q q ?_
      have it := af.cN3 [_] bh
      refine X1 18 (by kernel_rfl) q ?_
      refine zl (cs' := [iV (IntKind.wrap .i64 (ad + (IntKind.wrap .i64 ((IntKind.wrap .i64 (Int.tdiv aa.2 59)) * 6)))), iV ab.2, iV 0, iV 0]) it q il29 q q q q q (fun oM iu => ?_)
      refine XE q ?_
      refine XC_done (by kernel_rfl) (fun a ha => ?_)
      have iv := iu.q1.p2.p3.p3
      exact ⟨iq, ha.sub ⟨q, q, q, q, trivial⟩, iv⟩
     refine XC_do q ?_
     refine zq (cs := [iV 0, iV 0, iV 0, iV 0]) cf z29 q q q (fun iw oN dI => ?_)
     refine XN dI.chg <| X1 0 (by kernel_rfl) q ?_
     refine zs (t := tI) (args := [.const (iV 0), .const (iV 0), .const (iV 1), .const (iV 1), .const (iV 2), .const (iV 3), .const (iV 3), .const (iV 3), .const (iV 4), .const (iV 4), .const (iV 4), .const (iV 5)]) (xs := ([0, 0, 1, 1, 2, 3, 3, 3, 4, 4, 4, 5] : List Int)) dI (BltL.cons (Blt.int) q (BltL.cons (Blt.int) q (BltL.cons (Blt.int) q (BltL.cons (Blt.int) q (BltL.cons (Blt.int) q (BltL.cons (Blt.int) q (BltL.cons (Blt.int) q (BltL.cons (Blt.int) q (BltL.cons (Blt.int) q (BltL.cons (Blt.int) q (BltL.cons (Blt.int) q (BltL.cons (Blt.int) q (BltL.nil))))))))))))) u24 j3 q q q q q q (fun oO oP aI => ?_)
     refine XN aI.chg ?_
     obtain ⟨oQ, oR, oS, dJ⟩ := Ctx.isAt aI.ctx hS0 ae
     refine XT (i := 3) q (by kernel_rfl) q aI.chg q (qs_index ae dJ u24 i3 q q) q q <| X1 4 (by kernel_rfl) q ?_
     obtain ⟨oT, ix, oU⟩ := aI.at hS0 ae dJ
     refine zt (k := .i64) u3 q ix q q q <| XN aI.chg <| XQ (i := 9) q (by kernel_rfl) q aI.chg q (fun _ => qt_add q q) q q <| XQ (i := 16) q (by kernel_rfl) q aI.chg q (fun _ => qt_build (args := [(0, .tmp 15), (1, .tmp 21)]) (css := [#[iV (IntKind.wrap .i64 (ad + (IntKind.wrap .i64 ((IntKind.wrap .i64 (Int.tdiv aa.2 59)) * 6))))], #[iV ab.2]]) (cells := #[iV (IntKind.wrap .i64 (ad + (IntKind.wrap .i64 ((IntKind.wrap .i64 (Int.tdiv aa.2 59)) * 6)))), iV ab.2, iV 0, iV 0]) q ⟨q, q, trivial⟩ (by kernel_rfl)) q q ?_
     have iy := af.cN3 [_] aI
     refine X1 18 (by kernel_rfl) q ?_
     have iz := iy.p1
     refine zl (cs' := [iV (IntKind.wrap .i64 (ad + (IntKind.wrap .i64 ((IntKind.wrap .i64 (Int.tdiv aa.2 59)) * 6)))), iV ab.2, iV 0, iV 0]) iz q il29 q q q q q (fun oV iA => ?_)
     refine XE q ?_
     refine XC_done (by kernel_rfl) (fun a ha => ?_)
     have iB := iA.q1.p2.p3.p3
     exact ⟨iw, ha.sub ⟨q, q, q, q, trivial⟩, iB⟩
    refine XC_do q ?_
    refine zq (cs := [iV 0, iV 0, iV 0, iV 0]) aU z29 q q q (fun ch iC ci => ?_)
    refine XN ci.chg ?_
    refine zy [0, 15] (by kernel_rfl) (by simp) (allc ?_ (allc ?_ alln))
    ·refine XC_do q ?_
     refine zs (t := tI) (args := [.const (iV 0), .const (iV 0), .const (iV 1), .const (iV 1), .const (iV 2), .const (iV 3), .const (iV 3), .const (iV 3), .const (iV 4), .const (iV 4), .const (iV 4), .const (iV 5)]) (xs := ([0, 0, 1, 1, 2, 3, 3, 3, 4, 4, 4, 5] : List Int)) ci (BltL.cons (Blt.int) q (BltL.cons (Blt.int) q (BltL.cons (Blt.int) q (BltL.cons (Blt.int) q (BltL.cons (Blt.int) q (BltL.cons (Blt.int) q (BltL.cons (Blt.int) q (BltL.cons (Blt.int) q (BltL.cons (Blt.int) q (BltL.cons (Blt.int) q (BltL.cons (Blt.int) q (BltL.cons (Blt.int) q (BltL.nil))))))))))))) u24 j3 q q q q q q (fun oW dK aJ => ?_)
     refine XN aJ.chg ?_
     obtain ⟨oX, oY, oZ, cj⟩ := Ctx.isAt aJ.ctx hS0 ae
     refine XT (i := 3) q (by kernel_rfl) q aJ.chg q (qs_index ae cj u24 i3 q q) q q ?_
     refine zy [4, 15] (by kernel_rfl) (by simp) (allc ?_ (allc ?_ alln))
     ·refine XC_do q ?_
      obtain ⟨o0, iD, o1⟩ := aJ.at hS0 ae cj
      refine zt (k := .i64) u3 q iD q q q <| XN aJ.chg <| XQ (i := 9) q (by kernel_rfl) q aJ.chg q (fun _ => qt_add q q) q q <| X1 15 (by kernel_rfl) q ?_
      have dL := aJ.p2
      refine zd q q c60 (w_spec_l20Rd__pick dK _ bp0 A0 B0 (C0.c.c.c.c) aa.1 (if 1 > (List.length p1_0 : Int) then 1 else (List.length p1_0 : Int)) ab ag dL.ctx) (by rfl) ?_
      rintro _ o2 ⟨rfl, iE⟩; refine ⟨_, q, ?_⟩
      have ck := dL.cN1 [_] iE
      refine XN ck.chg <| XQ (i := 16) q (by kernel_rfl) q ck.chg q (fun _ => qt_build (args := [(0, .tmp 15), (1, .tmp 21)]) (css := [#[iV (IntKind.wrap .i64 (ad + (IntKind.wrap .i64 ((IntKind.wrap .i64 (Int.tdiv aa.2 59)) * 6))))], #[iV ab.2]]) (cells := #[iV (IntKind.wrap .i64 (ad + (IntKind.wrap .i64 ((IntKind.wrap .i64 (Int.tdiv aa.2 59)) * 6)))), iV ab.2, iV 0, iV 0]) q ⟨q, q, trivial⟩ (by kernel_rfl)) q q ?_
      have iF := af.cN3 [_] ck
      refine X1 18 (by kernel_rfl) q ?_
      have iG := iF.p2
      refine zl (cs' := [iV (IntKind.wrap .i64 (ad + (IntKind.wrap .i64 ((IntKind.wrap .i64 (Int.tdiv aa.2 59)) * 6)))), iV ab.2, iV 0, iV 0]) iG q il29 q q q q q (fun o3 iH => ?_)
      refine XE q ?_
      refine XC_done (by kernel_rfl) (fun a ha => ?_)
      have iI := iH.q2.p2.p3.p3
      exact ⟨ch, ha.sub ⟨q, q, q, q, trivial⟩, iI⟩
     refine XC_do q ?_
     have dM := aJ.p2
     refine zd q q c60 (w_spec_l20Rd__pick dK _ bp0 A0 B0 (C0.c.c.c.c) aa.1 (if 1 > (List.length p1_0 : Int) then 1 else (List.length p1_0 : Int)) ab ag dM.ctx) (by rfl) ?_
     rintro _ o4 ⟨rfl, iJ⟩; refine ⟨_, q, ?_⟩
     have bi := dM.cN1 [_] iJ
     refine XN bi.chg <| X1 4 (by kernel_rfl) q ?_
     obtain ⟨o5, iK, o6⟩ := bi.at hS1 ae cj
     refine zt (k := .i64) u3 q iK q q q <| XN bi.chg <| XQ (i := 9) q (by kernel_rfl) q bi.chg q (fun _ => qt_add q q) q q <| XQ (i := 16) q (by kernel_rfl) q bi.chg q (fun _ => qt_build (args := [(0, .tmp 15), (1, .tmp 21)]) (css := [#[iV (IntKind.wrap .i64 (ad + (IntKind.wrap .i64 ((IntKind.wrap .i64 (Int.tdiv aa.2 59)) * 6))))], #[iV ab.2]]) (cells := #[iV (IntKind.wrap .i64 (ad + (IntKind.wrap .i64 ((IntKind.wrap .i64 (Int.tdiv aa.2 59)) * 6)))), iV ab.2, iV 0, iV 0]) q ⟨q, q, trivial⟩ (by kernel_rfl)) q q ?_
     have iL := af.cN3 [_] bi
     refine X1 18 (by kernel_rfl) q ?_
     have iM := iL.p2
     refine zl (cs' := [iV (IntKind.wrap .i64 (ad + (IntKind.wrap .i64 ((IntKind.wrap .i64 (Int.tdiv aa.2 59)) * 6)))), iV ab.2, iV 0, iV 0]) iM q il29 q q q q q (fun o7 iN => ?_)
     refine XE q ?_
     refine XC_done (by kernel_rfl) (fun a ha => ?_)
     have iO := iN.q2.p2.p3.p3
     exact ⟨ch, ha.sub ⟨q, q, q, q, trivial⟩, iO⟩
    refine XC_do q ?_
    have dN := ci.p1
    refine zd q q c60 (w_spec_l20Rd__pick iC _ bp0 A0 B0 (C0.c.c.c) aa.1 (if 1 > (List.length p1_0 : Int) then 1 else (List.length p1_0 : Int)) ab ag dN.ctx) (by rfl) ?_
    rintro _ o8 ⟨rfl, iP⟩; refine ⟨_, q, ?_⟩
    have dO := dN.cN1 [_] iP
    refine XN dO.chg <| X1 0 (by kernel_rfl) q ?_
    refine zs (t := tI) (args := [.const (iV 0), .const (iV 0), .const (iV 1), .const (iV 1), .const (iV 2), .const (iV 3), .const (iV 3), .const (iV 3), .const (iV 4), .const (iV 4), .const (iV 4), .const (iV 5)]) (xs := ([0, 0, 1, 1, 2, 3, 3, 3, 4, 4, 4, 5] : List Int)) dO (BltL.cons (Blt.int) q (BltL.cons (Blt.int) q (BltL.cons (Blt.int) q (BltL.cons (Blt.int) q (BltL.cons (Blt.int) q (BltL.cons (Blt.int) q (BltL.cons (Blt.int) q (BltL.cons (Blt.int) q (BltL.cons (Blt.int) q (BltL.cons (Blt.int) q (BltL.cons (Blt.int) q (BltL.cons (Blt.int) q (BltL.nil))))))))))))) u24 j3 q q q q q q (fun o9 pa aK => ?_)
    refine XN aK.chg ?_
    obtain ⟨pb, pd, pe, dP⟩ := Ctx.isAt aK.ctx hS0 ae
    refine XT (i := 3) q (by kernel_rfl) q aK.chg q (qs_index ae dP u24 i3 q q) q q <| X1 4 (by kernel_rfl) q ?_
    obtain ⟨pf, iQ, pg⟩ := aK.at hS0 ae dP
    refine zt (k := .i64) u3 q iQ q q q <| XN aK.chg <| XQ (i := 9) q (by kernel_rfl) q aK.chg q (fun _ => qt_add q q) q q <| XQ (i := 16) q (by kernel_rfl) q aK.chg q (fun _ => qt_build (args := [(0, .tmp 15), (1, .tmp 21)]) (css := [#[iV (IntKind.wrap .i64 (ad + (IntKind.wrap .i64 ((IntKind.wrap .i64 (Int.tdiv aa.2 59)) * 6))))], #[iV ab.2]]) (cells := #[iV (IntKind.wrap .i64 (ad + (IntKind.wrap .i64 ((IntKind.wrap .i64 (Int.tdiv aa.2 59)) * 6)))), iV ab.2, iV 0, iV 0]) q ⟨q, q, trivial⟩ (by kernel_rfl)) q q ?_
    have iR := af.cN3 [_] aK
    refine X1 18 (by kernel_rfl) q ?_
    have iS := iR.p2
    refine zl (cs' := [iV (IntKind.wrap .i64 (ad + (IntKind.wrap .i64 ((IntKind.wrap .i64 (Int.tdiv aa.2 59)) * 6)))), iV ab.2, iV 0, iV 0]) iS q il29 q q q q q (fun ph iT => ?_)
    refine XE q ?_
    refine XC_done (by kernel_rfl) (fun a ha => ?_)
    have iU := iT.q1.p2.p3.p3
    exact ⟨ch, ha.sub ⟨q, q, q, q, trivial⟩, iU⟩
   refine XC_do q ?_
   refine zq (cs := [iV 0, iV 0, iV 0, iV 0]) bz z29 q q q (fun bj iW cl => ?_)
   refine XN cl.chg ?_
   refine zy [0, 6] (by kernel_rfl) (by simp) (allc ?_ (allc ?_ alln))
   ·refine XC_do q ?_
    refine zs (t := tI) (args := [.const (iV 0), .const (iV 0), .const (iV 1), .const (iV 1), .const (iV 2), .const (iV 3), .const (iV 3), .const (iV 3), .const (iV 4), .const (iV 4), .const (iV 4), .const (iV 5)]) (xs := ([0, 0, 1, 1, 2, 3, 3, 3, 4, 4, 4, 5] : List Int)) cl (BltL.cons (Blt.int) q (BltL.cons (Blt.int) q (BltL.cons (Blt.int) q (BltL.cons (Blt.int) q (BltL.cons (Blt.int) q (BltL.cons (Blt.int) q (BltL.cons (Blt.int) q (BltL.cons (Blt.int) q (BltL.cons (Blt.int) q (BltL.cons (Blt.int) q (BltL.cons (Blt.int) q (BltL.cons (Blt.int) q (BltL.nil))))))))))))) u24 j3 q q q q q q (fun pi dQ aW => ?_)
    refine XN aW.chg ?_
    obtain ⟨pj, pk, pl, bF⟩ := Ctx.isAt aW.ctx hS0 ae
    refine XT (i := 3) q (by kernel_rfl) q aW.chg q (qs_index ae bF u24 i3 q q) q q ?_
    refine zy [4, 6] (by kernel_rfl) (by simp) (allc ?_ (allc ?_ alln))
    ·refine XC_do q ?_
     obtain ⟨pm, iX, pn⟩ := aW.at hS0 ae bF
     refine zt (k := .i64) u3 q iX q q q <| XN aW.chg <| X1 6 (by kernel_rfl) q ?_
     have dR := aW.p2
     refine zd q q c60 (w_spec_l20Rd__pick dQ _ bp0 A0 B0 (C0.c.c.c.c) ai.1 60 aa aj dR.ctx) (by rfl) ?_
     rintro _ iY ⟨rfl, iZ⟩; refine ⟨_, q, ?_⟩
     have bk := dR.cN1 [_] iZ
     refine XN bk.chg <| XQ (i := 7) q (by kernel_rfl) q bk.chg q (fun _ => qt_quo q q (by decide)) q q <| XQ (i := 8) q (by kernel_rfl) q bk.chg q (fun _ => qt_mul q q) q q <| XQ (i := 9) q (by kernel_rfl) q bk.chg q (fun _ => qt_add q q) q q <| X1 15 (by kernel_rfl) q <| zd q q c60 (w_spec_l20Rd__pick iY _ bp0 A0 B0 (C0.c.c.c.c) aa.1 (if 1 > (List.length p1_0 : Int) then 1 else (List.length p1_0 : Int)) ab ag bk.ctx) (by rfl) ?_
     rintro _ po ⟨rfl, i0⟩; refine ⟨_, q, ?_⟩
     have cm := bk.cN1 [_] i0
     refine XN cm.chg <| XQ (i := 16) q (by kernel_rfl) q cm.chg q (fun _ => qt_build (args := [(0, .tmp 15), (1, .tmp 21)]) (css := [#[iV (IntKind.wrap .i64 (ad + (IntKind.wrap .i64 ((IntKind.wrap .i64 (Int.tdiv aa.2 59)) * 6))))], #[iV ab.2]]) (cells := #[iV (IntKind.wrap .i64 (ad + (IntKind.wrap .i64 ((IntKind.wrap .i64 (Int.tdiv aa.2 59)) * 6)))), iV ab.2, iV 0, iV 0]) q ⟨q, q, trivial⟩ (by kernel_rfl)) q q ?_
     have i1 := af.cN3 [_] cm
     refine X1 18 (by kernel_rfl) q ?_
     have i2 := i1.p2
     refine zl (cs' := [iV (IntKind.wrap .i64 (ad + (IntKind.wrap .i64 ((IntKind.wrap .i64 (Int.tdiv aa.2 59)) * 6)))), iV ab.2, iV 0, iV 0]) i2 q il29 q q q q q (fun pp i4 => ?_)
     refine XE q ?_
     refine XC_done (by kernel_rfl) (fun a ha => ?_)
     have i6 := i4.q2.p2.p3.p3
     exact ⟨bj, ha.sub ⟨q, q, q, q, trivial⟩, i6⟩
    refine XC_do q ?_
    have dS := aW.p2
    refine zd q q c60 (w_spec_l20Rd__pick dQ _ bp0 A0 B0 (C0.c.c.c.c) ai.1 60 aa aj dS.ctx) (by rfl) ?_
    rintro _ dT ⟨rfl, i7⟩; refine ⟨_, q, ?_⟩
    have ay := dS.cN1 [_] i7
    refine XN ay.chg <| XQ (i := 7) q (by kernel_rfl) q ay.chg q (fun _ => qt_quo q q (by decide)) q q <| XQ (i := 8) q (by kernel_rfl) q ay.chg q (fun _ => qt_mul q q) q q ?_
    refine zy [4, 15] (by kernel_rfl) (by simp) (allc ?_ (allc ?_ alln))
    ·refine XC_do q ?_
     obtain ⟨pq, i8, pr⟩ := ay.at hS1 ae bF
     refine zt (k := .i64) u3 q i8 q q q <| XN ay.chg <| XQ (i := 9) q (by kernel_rfl) q ay.chg q (fun _ => qt_add q q) q q <| X1 15 (by kernel_rfl) q <| zd q q c60 (w_spec_l20Rd__pick dT _ bp0 A0 B0 (C0.c.c.c.c) aa.1 (if 1 > (List.length p1_0 : Int) then 1 else (List.length p1_0 : Int)) ab ag ay.ctx) (by rfl) ?_
     rintro _ ps ⟨rfl, i9⟩; refine ⟨_, q, ?_⟩
     have cn := ay.cN1 [_] i9
     refine XN cn.chg <| XQ (i := 16) q (by kernel_rfl) q cn.chg q (fun _ => qt_build (args := [(0, .tmp 15), (1, .tmp 21)]) (css := [#[iV (IntKind.wrap .i64 (ad + (IntKind.wrap .i64 ((IntKind.wrap .i64 (Int.tdiv aa.2 59)) * 6))))], #[iV ab.2]]) (cells := #[iV (IntKind.wrap .i64 (ad + (IntKind.wrap .i64 ((IntKind.wrap .i64 (Int.tdiv aa.2 59)) * 6)))), iV ab.2, iV 0, iV 0]) q ⟨q, q, trivial⟩ (by kernel_rfl)) q q ?_
     have ja := af.cN3 [_] cn
     refine X1 18 (by kernel_rfl) q ?_
     have jb := ja.p2
     refine zl (cs' := [iV (IntKind.wrap .i64 (ad + (IntKind.wrap .i64 ((IntKind.wrap .i64 (Int.tdiv aa.2 59)) * 6)))), iV ab.2, iV 0, iV 0]) jb q il29 q q q q q (fun pt jc => ?_)
     refine XE q ?_
     refine XC_done (by kernel_rfl) (fun a ha => ?_)
     have jd := jc.q2.p2.p3.p3
     exact ⟨bj, ha.sub ⟨q, q, q, q, trivial⟩, jd⟩
    refine XC_do q <| zd q q c60 (w_spec_l20Rd__pick dT _ bp0 A0 B0 (C0.c.c.c.c) aa.1 (if 1 > (List.length p1_0 : Int) then 1 else (List.length p1_0 : Int)) ab ag ay.ctx) (by rfl) ?_
    rintro _ pu ⟨rfl, je⟩; refine ⟨_, q, ?_⟩
    have bl := ay.cN1 [_] je
    refine XN bl.chg <| X1 4 (by kernel_rfl) q ?_
    obtain ⟨pv, jf, pw⟩ := bl.at hS1 ae bF
    refine zt (k := .i64) u3 q jf q q q <| XN bl.chg <| XQ (i := 9) q (by kernel_rfl) q bl.chg q (fun _ => qt_add q q) q q <| XQ (i := 16) q (by kernel_rfl) q bl.chg q (fun _ => qt_build (args := [(0, .tmp 15), (1, .tmp 21)]) (css := [#[iV (IntKind.wrap .i64 (ad + (IntKind.wrap .i64 ((IntKind.wrap .i64 (Int.tdiv aa.2 59)) * 6))))], #[iV ab.2]]) (cells := #[iV (IntKind.wrap .i64 (ad + (IntKind.wrap .i64 ((IntKind.wrap .i64 (Int.tdiv aa.2 59)) * 6)))), iV ab.2, iV 0, iV 0]) q ⟨q, q, trivial⟩ (by kernel_rfl)) q q ?_
    have jg := af.cN3 [_] bl
    refine X1 18 (by kernel_rfl) q ?_
    have jh := jg.p2
    refine zl (cs' := [iV (IntKind.wrap .i64 (ad + (IntKind.wrap .i64 ((IntKind.wrap .i64 (Int.tdiv aa.2 59)) * 6)))), iV ab.2, iV 0, iV 0]) jh q il29 q q q q q (fun px ji => ?_)
    refine XE q ?_
    refine XC_done (by kernel_rfl) (fun a ha => ?_)
    have jj := ji.q2.p2.p3.p3
    exact ⟨bj, ha.sub ⟨q, q, q, q, trivial⟩, jj⟩
   refine XC_do q ?_
   have dU := cl.p1
   refine zd q q c60 (w_spec_l20Rd__pick iW _ bp0 A0 B0 (C0.c.c.c) ai.1 60 aa aj dU.ctx) (by rfl) ?_
   rintro _ jk ⟨rfl, jl⟩; refine ⟨_, q, ?_⟩
   have bm := dU.cN1 [_] jl
   refine XN bm.chg <| XQ (i := 7) q (by kernel_rfl) q bm.chg q (fun _ => qt_quo q q (by decide)) q q <| XQ (i := 8) q (by kernel_rfl) q bm.chg q (fun _ => qt_mul q q) q q ?_
   refine zy [0, 15] (by kernel_rfl) (by simp) (allc ?_ (allc ?_ alln))
   ·refine XC_do q ?_
    refine zs (t := tI) (args := [.const (iV 0), .const (iV 0), .const (iV 1), .const (iV 1), .const (iV 2), .const (iV 3), .const (iV 3), .const (iV 3), .const (iV 4), .const (iV 4), .const (iV 4), .const (iV 5)]) (xs := ([0, 0, 1, 1, 2, 3, 3, 3, 4, 4, 4, 5] : List Int)) bm (BltL.cons (Blt.int) q (BltL.cons (Blt.int) q (BltL.cons (Blt.int) q (BltL.cons (Blt.int) q (BltL.cons (Blt.int) q (BltL.cons (Blt.int) q (BltL.cons (Blt.int) q (BltL.cons (Blt.int) q (BltL.cons (Blt.int) q (BltL.cons (Blt.int) q (BltL.cons (Blt.int) q (BltL.cons (Blt.int) q (BltL.nil))))))))))))) u24 j3 q q q q q q (fun py dV aL => ?_)
    refine XN aL.chg ?_
    obtain ⟨pz, pA, pC, co⟩ := Ctx.isAt aL.ctx hS0 ae
    refine XT (i := 3) q (by kernel_rfl) q aL.chg q (qs_index ae co u24 i3 q q) q q ?_
    refine zy [4, 15] (by kernel_rfl) (by simp) (allc ?_ (allc ?_ alln))
    ·refine XC_do q ?_
     obtain ⟨pD, jm, pE⟩ := aL.at hS0 ae co
     refine zt (k := .i64) u3 q jm q q q <| XN aL.chg <| XQ (i := 9) q (by kernel_rfl) q aL.chg q (fun _ => qt_add q q) q q <| X1 15 (by kernel_rfl) q ?_
     have dW := aL.p1
     refine zd q q c60 (w_spec_l20Rd__pick dV _ bp0 A0 B0 (C0.c.c.c.c) aa.1 (if 1 > (List.length p1_0 : Int) then 1 else (List.length p1_0 : Int)) ab ag dW.ctx) (by rfl) ?_
     rintro _ pF ⟨rfl, jn⟩; refine ⟨_, q, ?_⟩
     have cp := dW.cN1 [_] jn
     refine XN cp.chg <| XQ (i := 16) q (by kernel_rfl) q cp.chg q (fun _ => qt_build (args := [(0, .tmp 15), (1, .tmp 21)]) (css := [#[iV (IntKind.wrap .i64 (ad + (IntKind.wrap .i64 ((IntKind.wrap .i64 (Int.tdiv aa.2 59)) * 6))))], #[iV ab.2]]) (cells := #[iV (IntKind.wrap .i64 (ad + (IntKind.wrap .i64 ((IntKind.wrap .i64 (Int.tdiv aa.2 59)) * 6)))), iV ab.2, iV 0, iV 0]) q ⟨q, q, trivial⟩ (by kernel_rfl)) q q ?_
     have jo := af.cN3 [_] cp
     refine X1 18 (by kernel_rfl) q ?_
     have jp := jo.p2
     refine zl (cs' := [iV (IntKind.wrap .i64 (ad + (IntKind.wrap .i64 ((IntKind.wrap .i64 (Int.tdiv aa.2 59)) * 6)))), iV ab.2, iV 0, iV 0]) jp q il29 q q q q q (fun pG jq => ?_)
     refine XE q ?_
     refine XC_done (by kernel_rfl) (fun a ha => ?_)
     have jr := jq.q2.p2.p3.p3
     exact ⟨bj, ha.sub ⟨q, q, q, q, trivial⟩, jr⟩
    refine XC_do q ?_
    have dX := aL.p1
    refine zd q q c60 (w_spec_l20Rd__pick dV _ bp0 A0 B0 (C0.c.c.c.c) aa.1 (if 1 > (List.length p1_0 : Int) then 1 else (List.length p1_0 : Int)) ab ag dX.ctx) (by rfl) ?_
    rintro _ pH ⟨rfl, js⟩; refine ⟨_, q, ?_⟩
    have bn := dX.cN1 [_] js
    refine XN bn.chg <| X1 4 (by kernel_rfl) q ?_
    obtain ⟨pI, jt, pJ⟩ := bn.at hS1 ae co
    refine zt (k := .i64) u3 q jt q q q <| XN bn.chg <| XQ (i := 9) q (by kernel_rfl) q bn.chg q (fun _ => qt_add q q) q q <| XQ (i := 16) q (by kernel_rfl) q bn.chg q (fun _ => qt_build (args := [(0, .tmp 15), (1, .tmp 21)]) (css := [#[iV (IntKind.wrap .i64 (ad + (IntKind.wrap .i64 ((IntKind.wrap .i64 (Int.tdiv aa.2 59)) * 6))))], #[iV ab.2]]) (cells := #[iV (IntKind.wrap .i64 (ad + (IntKind.wrap .i64 ((IntKind.wrap .i64 (Int.tdiv aa.2 59)) * 6)))), iV ab.2, iV 0, iV 0]) q ⟨q, q, trivial⟩ (by kernel_rfl)) q q ?_
    have ju := af.cN3 [_] bn
    refine X1 18 (by kernel_rfl) q ?_
    have jv := ju.p2
    refine zl (cs' := [iV (IntKind.wrap .i64 (ad + (IntKind.wrap .i64 ((IntKind.wrap .i64 (Int.tdiv aa.2 59)) * 6)))), iV ab.2, iV 0, iV 0]) jv q il29 q q q q q (fun pK jw => ?_)
    refine XE q ?_
    refine XC_done (by kernel_rfl) (fun a ha => ?_)
    have jx := jw.q2.p2.p3.p3
    exact ⟨bj, ha.sub ⟨q, q, q, q, trivial⟩, jx⟩
   refine XC_do q <| zd q q c60 (w_spec_l20Rd__pick jk _ bp0 A0 B0 (C0.c.c.c) aa.1 (if 1 > (List.length p1_0 : Int) then 1 else (List.length p1_0 : Int)) ab ag bm.ctx) (by rfl) ?_
   rintro _ pL ⟨rfl, jy⟩; refine ⟨_, q, ?_⟩
   have dY := bm.cN1 [_] jy
   refine XN dY.chg <| X1 0 (by kernel_rfl) q ?_
   refine zs (t := tI) (args := [.const (iV 0), .const (iV 0), .const (iV 1), .const (iV 1), .const (iV 2), .const (iV 3), .const (iV 3), .const (iV 3), .const (iV 4), .const (iV 4), .const (iV 4), .const (iV 5)]) (xs := ([0, 0, 1, 1, 2, 3, 3, 3, 4, 4, 4, 5] : List Int)) dY (BltL.cons (Blt.int) q (BltL.cons (Blt.int) q (BltL.cons (Blt.int) q (BltL.cons (Blt.int) q (BltL.cons (Blt.int) q (BltL.cons (Blt.int) q (BltL.cons (Blt.int) q (BltL.cons (Blt.int) q (BltL.cons (Blt.int) q (BltL.cons (Blt.int) q (BltL.cons (Blt.int) q (BltL.cons (Blt.int) q (BltL.nil))))))))))))) u24 j3 q q q q q q (fun pM pN aM => ?_)
   refine XN aM.chg ?_
   obtain ⟨pO, pP, pQ, dZ⟩ := Ctx.isAt aM.ctx hS0 ae
   refine XT (i := 3) q (by kernel_rfl) q aM.chg q (qs_index ae dZ u24 i3 q q) q q <| X1 4 (by kernel_rfl) q ?_
   obtain ⟨pR, jz, pS⟩ := aM.at hS0 ae dZ
   refine zt (k := .i64) u3 q jz q q q <| XN aM.chg <| XQ (i := 9) q (by kernel_rfl) q aM.chg q (fun _ => qt_add q q) q q <| XQ (i := 16) q (by kernel_rfl) q aM.chg q (fun _ => qt_build (args := [(0, .tmp 15), (1, .tmp 21)]) (css := [#[iV (IntKind.wrap .i64 (ad + (IntKind.wrap .i64 ((IntKind.wrap .i64 (Int.tdiv aa.2 59)) * 6))))], #[iV ab.2]]) (cells := #[iV (IntKind.wrap .i64 (ad + (IntKind.wrap .i64 ((IntKind.wrap .i64 (Int.tdiv aa.2 59)) * 6)))), iV ab.2, iV 0, iV 0]) q ⟨q, q, trivial⟩ (by kernel_rfl)) q q ?_
   have jA := af.cN3 [_] aM
   refine X1 18 (by kernel_rfl) q ?_
   have jB := jA.p2
   refine zl (cs' := [iV (IntKind.wrap .i64 (ad + (IntKind.wrap .i64 ((IntKind.wrap .i64 (Int.tdiv aa.2 59)) * 6)))), iV ab.2, iV 0, iV 0]) jB q il29 q q q q q (fun pT jC => ?_)
   refine XE q ?_
   refine XC_done (by kernel_rfl) (fun a ha => ?_)
   have jD := jC.q1.p2.p3.p3
   exact ⟨bj, ha.sub ⟨q, q, q, q, trivial⟩, jD⟩
  refine XC_do q ?_
  refine zq (cs := [iV 0, iV 0, iV 0, iV 0]) al z29 q q q (fun aE jE cq => ?_)
  refine XN cq.chg ?_
  refine zy [0, 2] (by kernel_rfl) (by simp) (allc ?_ (allc ?_ alln))
  ·refine XC_do q ?_
   refine zs (t := tI) (args := [.const (iV 0), .const (iV 0), .const (iV 1), .const (iV 1), .const (iV 2), .const (iV 3), .const (iV 3), .const (iV 3), .const (iV 4), .const (iV 4), .const (iV 4), .const (iV 5)]) (xs := ([0, 0, 1, 1, 2, 3, 3, 3, 4, 4, 4, 5] : List Int)) cq (BltL.cons (Blt.int) q (BltL.cons (Blt.int) q (BltL.cons (Blt.int) q (BltL.cons (Blt.int) q (BltL.cons (Blt.int) q (BltL.cons (Blt.int) q (BltL.cons (Blt.int) q (BltL.cons (Blt.int) q (BltL.cons (Blt.int) q (BltL.cons (Blt.int) q (BltL.cons (Blt.int) q (BltL.cons (Blt.int) q (BltL.nil))))))))))))) u24 j3 q q q q q q (fun pU jF d0 => ?_)
   refine XN d0.chg <| X1 2 (by kernel_rfl) q ?_
   have d1 := d0.p2
   refine zd q q c60 (w_spec_l20Rd__pick jF _ bp0 A0 B0 (C0.c.c.c.c) B1 12 ai bv d1.ctx) (by rfl) ?_
   rintro _ d2 ⟨rfl, jG⟩; refine ⟨_, q, ?_⟩
   have aF := d1.cN1 [_] jG
   refine XN aF.chg ?_
   obtain ⟨pV, pW, pX, bG⟩ := Ctx.isAt aF.ctx hS1 ae
   refine XT (i := 3) q (by kernel_rfl) q aF.chg q (qs_index ae bG u24 i3 q q) q q ?_
   refine zy [4, 6] (by kernel_rfl) (by simp) (allc ?_ (allc ?_ alln))
   ·refine XC_do q ?_
    obtain ⟨pY, jH, pZ⟩ := aF.at hS1 ae bG
    refine zt (k := .i64) u3 q jH q q q <| XN aF.chg <| X1 6 (by kernel_rfl) q <| zd q q c60 (w_spec_l20Rd__pick d2 _ bp0 A0 B0 (C0.c.c.c.c) ai.1 60 aa aj aF.ctx) (by rfl) ?_
    rintro _ jI ⟨rfl, jJ⟩; refine ⟨_, q, ?_⟩
    have bo := aF.cN1 [_] jJ
    refine XN bo.chg <| XQ (i := 7) q (by kernel_rfl) q bo.chg q (fun _ => qt_quo q q (by decide)) q q <| XQ (i := 8) q (by kernel_rfl) q bo.chg q (fun _ => qt_mul q q) q q <| XQ (i := 9) q (by kernel_rfl) q bo.chg q (fun _ => qt_add q q) q q <| X1 15 (by kernel_rfl) q <| zd q q c60 (w_spec_l20Rd__pick jI _ bp0 A0 B0 (C0.c.c.c.c) aa.1 (if 1 > (List.length p1_0 : Int) then 1 else (List.length p1_0 : Int)) ab ag bo.ctx) (by rfl) ?_
    rintro _ qa ⟨rfl, jK⟩; refine ⟨_, q, ?_⟩
    have cr := bo.cN1 [_] jK
    refine XN cr.chg <| XQ (i := 16) q (by kernel_rfl) q cr.chg q (fun _ => qt_build (args := [(0, .tmp 15), (1, .tmp 21)]) (css := [#[iV (IntKind.wrap .i64 (ad + (IntKind.wrap .i64 ((IntKind.wrap .i64 (Int.tdiv aa.2 59)) * 6))))], #[iV ab.2]]) (cells := #[iV (IntKind.wrap .i64 (ad + (IntKind.wrap .i64 ((IntKind.wrap .i64 (Int.tdiv aa.2 59)) * 6)))), iV ab.2, iV 0, iV 0]) q ⟨q, q, trivial⟩ (by kernel_rfl)) q q ?_
    have jL := af.cN3 [_] cr
    refine X1 18 (by kernel_rfl) q ?_
    have jM := jL.p2
    refine zl (cs' := [iV (IntKind.wrap .i64 (ad + (IntKind.wrap .i64 ((IntKind.wrap .i64 (Int.tdiv aa.2 59)) * 6)))), iV ab.2, iV 0, iV 0]) jM q il29 q q q q q (fun qb jN => ?_)
    refine XE q ?_
    refine XC_done (by kernel_rfl) (fun a ha => ?_)
    have jO := jN.q2.p2.p3.p3
    exact ⟨aE, ha.sub ⟨q, q, q, q, trivial⟩, jO⟩
   refine XC_do q <| zd q q c60 (w_spec_l20Rd__pick d2 _ bp0 A0 B0 (C0.c.c.c.c) ai.1 60 aa aj aF.ctx) (by rfl) ?_
   rintro _ d3 ⟨rfl, jP⟩; refine ⟨_, q, ?_⟩
   have az := aF.cN1 [_] jP
   refine XN az.chg <| XQ (i := 7) q (by kernel_rfl) q az.chg q (fun _ => qt_quo q q (by decide)) q q <| XQ (i := 8) q (by kernel_rfl) q az.chg q (fun _ => qt_mul q q) q q ?_
   refine zy [4, 15] (by kernel_rfl) (by simp) (allc ?_ (allc ?_ alln))
   ·refine XC_do q ?_
    obtain ⟨qc, jQ, qd⟩ := az.at hS1 ae bG
    refine zt (k := .i64) u3 q jQ q q q <| XN az.chg <| XQ (i := 9) q (by kernel_rfl) q az.chg q (fun _ => qt_add q q) q q <| X1 15 (by kernel_rfl) q <| zd q q c60 (w_spec_l20Rd__pick d3 _ bp0 A0 B0 (C0.c.c.c.c) aa.1 (if 1 > (List.length p1_0 : Int) then 1 else (List.length p1_0 : Int)) ab ag az.ctx) (by rfl) ?_
    rintro _ qe ⟨rfl, jR⟩; refine ⟨_, q, ?_⟩
    have ct := az.cN1 [_] jR
    refine XN ct.chg <| XQ (i := 16) q (by kernel_rfl) q ct.chg q (fun _ => qt_build (args := [(0, .tmp 15), (1, .tmp 21)]) (css := [#[iV (IntKind.wrap .i64 (ad + (IntKind.wrap .i64 ((IntKind.wrap .i64 (Int.tdiv aa.2 59)) * 6))))], #[iV ab.2]]) (cells := #[iV (IntKind.wrap .i64 (ad + (IntKind.wrap .i64 ((IntKind.wrap .i64 (Int.tdiv aa.2 59)) * 6)))), iV ab.2, iV 0, iV 0]) q ⟨q, q, trivial⟩ (by kernel_rfl)) q q ?_
    have jS := af.cN3 [_] ct
    refine X1 18 (by kernel_rfl) q ?_
    have jT := jS.p2
    refine zl (cs' := [iV (IntKind.wrap .i64 (ad + (IntKind.wrap .i64 ((IntKind.wrap .i64 (Int.tdiv aa.2 59)) * 6)))), iV ab.2, iV 0, iV 0]) jT q il29 q q q q q (fun qf jU => ?_)
    refine XE q ?_
    refine XC_done (by kernel_rfl) (fun a ha => ?_)
    have jV := jU.q2.p2.p3.p3
    exact ⟨aE, ha.sub ⟨q, q, q, q, trivial⟩, jV⟩
   refine XC_do q <| zd q q c60 (w_spec_l20Rd__pick d3 _ bp0 A0 B0 (C0.c.c.c.c) aa.1 (if 1 > (List.length p1_0 : Int) then 1 else (List.length p1_0 : Int)) ab ag az.ctx) (by rfl) ?_
   rintro _ qg ⟨rfl, jW⟩; refine ⟨_, q, ?_⟩
   have bp := az.cN1 [_] jW
   refine XN bp.chg <| X1 4 (by kernel_rfl) q ?_
   obtain ⟨qh, jX, qi⟩ := bp.at hS1 ae bG
   refine zt (k := .i64) u3 q jX q q q <| XN bp.chg <| XQ (i := 9) q (by kernel_rfl) q bp.chg q (fun _ => qt_add q q) q q <| XQ (i := 16) q (by kernel_rfl) q bp.chg q (fun _ => qt_build (args := [(0, .tmp 15), (1, .tmp 21)]) (css := [#[iV (IntKind.wrap .i64 (ad + (IntKind.wrap .i64 ((IntKind.wrap .i64 (Int.tdiv aa.2 59)) * 6))))], #[iV ab.2]]) (cells := #[iV (IntKind.wrap .i64 (ad + (IntKind.wrap .i64 ((IntKind.wrap .i64 (Int.tdiv aa.2 59)) * 6)))), iV ab.2, iV 0, iV 0]) q ⟨q, q, trivial⟩ (by kernel_rfl)) q q ?_
   have jY := af.cN3 [_] bp
   refine X1 18 (by kernel_rfl) q ?_
   have jZ := jY.p2
   refine zl (cs' := [iV (IntKind.wrap .i64 (ad + (IntKind.wrap .i64 ((IntKind.wrap .i64 (Int.tdiv aa.2 59)) * 6)))), iV ab.2, iV 0, iV 0]) jZ q il29 q q q q q (fun qj j0 => ?_)
   refine XE q ?_
   refine XC_done (by kernel_rfl) (fun a ha => ?_)
   have j1 := j0.q2.p2.p3.p3
   exact ⟨aE, ha.sub ⟨q, q, q, q, trivial⟩, j1⟩
  refine XC_do q ?_
  have d4 := cq.p1
  refine zd q q c60 (w_spec_l20Rd__pick jE _ bp0 A0 B0 (C0.c.c.c) B1 12 ai bv d4.ctx) (by rfl) ?_
  rintro _ j2 ⟨rfl, j4⟩; refine ⟨_, q, ?_⟩
  have bH := d4.cN1 [_] j4
  refine XN bH.chg ?_
  refine zy [0, 6] (by kernel_rfl) (by simp) (allc ?_ (allc ?_ alln))
  ·refine XC_do q ?_
   refine zs (t := tI) (args := [.const (iV 0), .const (iV 0), .const (iV 1), .const (iV 1), .const (iV 2), .const (iV 3), .const (iV 3), .const (iV 3), .const (iV 4), .const (iV 4), .const (iV 4), .const (iV 5)]) (xs := ([0, 0, 1, 1, 2, 3, 3, 3, 4, 4, 4, 5] : List Int)) bH (BltL.cons (Blt.int) q (BltL.cons (Blt.int) q (BltL.cons (Blt.int) q (BltL.cons (Blt.int) q (BltL.cons (Blt.int) q (BltL.cons (Blt.int) q (BltL.cons (Blt.int) q (BltL.cons (Blt.int) q (BltL.cons (Blt.int) q (BltL.cons (Blt.int) q (BltL.cons (Blt.int) q (BltL.cons (Blt.int) q (BltL.nil))))))))))))) u24 j3 q q q q q q (fun qk d5 aX => ?_)
   refine XN aX.chg ?_
   obtain ⟨ql, qm, qn, bI⟩ := Ctx.isAt aX.ctx hS0 ae
   refine XT (i := 3) q (by kernel_rfl) q aX.chg q (qs_index ae bI u24 i3 q q) q q ?_
   refine zy [4, 6] (by kernel_rfl) (by simp) (allc ?_ (allc ?_ alln))
   ·refine XC_do q ?_
    obtain ⟨qo, j5, qp⟩ := aX.at hS0 ae bI
    refine zt (k := .i64) u3 q j5 q q q <| XN aX.chg <| X1 6 (by kernel_rfl) q ?_
    have d6 := aX.p1
    refine zd q q c60 (w_spec_l20Rd__pick d5 _ bp0 A0 B0 (C0.c.c.c.c) ai.1 60 aa aj d6.ctx) (by rfl) ?_
    rintro _ j6 ⟨rfl, j7⟩; refine ⟨_, q, ?_⟩
    have bq := d6.cN1 [_] j7
    refine XN bq.chg <| XQ (i := 7) q (by kernel_rfl) q bq.chg q (fun _ => qt_quo q q (by decide)) q q <| XQ (i := 8) q (by kernel_rfl) q bq.chg q (fun _ => qt_mul q q) q q <| XQ (i := 9) q (by kernel_rfl) q bq.chg q (fun _ => qt_add q q) q q <| X1 15 (by kernel_rfl) q <| zd q q c60 (w_spec_l20Rd__pick j6 _ bp0 A0 B0 (C0.c.c.c.c) aa.1 (if 1 > (List.length p1_0 : Int) then 1 else (List.length p1_0 : Int)) ab ag bq.ctx) (by rfl) ?_
    rintro _ qq ⟨rfl, j8⟩; refine ⟨_, q, ?_⟩
    have cu := bq.cN1 [_] j8
    refine XN cu.chg <| XQ (i := 16) q (by kernel_rfl) q cu.chg q (fun _ => qt_build (args := [(0, .tmp 15), (1, .tmp 21)]) (css := [#[iV (IntKind.wrap .i64 (ad + (IntKind.wrap .i64 ((IntKind.wrap .i64 (Int.tdiv aa.2 59)) * 6))))], #[iV ab.2]]) (cells := #[iV (IntKind.wrap .i64 (ad + (IntKind.wrap .i64 ((IntKind.wrap .i64 (Int.tdiv aa.2 59)) * 6)))), iV ab.2, iV 0, iV 0]) q ⟨q, q, trivial⟩ (by kernel_rfl)) q q ?_
    have j9 := af.cN3 [_] cu
    refine X1 18 (by kernel_rfl) q ?_
    have ka := j9.p2
    refine zl (cs' := [iV (IntKind.wrap .i64 (ad + (IntKind.wrap .i64 ((IntKind.wrap .i64 (Int.tdiv aa.2 59)) * 6)))), iV ab.2, iV 0, iV 0]) ka q il29 q q q q q (fun qr kb => ?_)
    refine XE q ?_
    refine XC_done (by kernel_rfl) (fun a ha => ?_)
    have kc := kb.q2.p2.p3.p3
    exact ⟨aE, ha.sub ⟨q, q, q, q, trivial⟩, kc⟩
   refine XC_do q ?_
   have d7 := aX.p1
   refine zd q q c60 (w_spec_l20Rd__pick d5 _ bp0 A0 B0 (C0.c.c.c.c) ai.1 60 aa aj d7.ctx) (by rfl) ?_
   rintro _ d8 ⟨rfl, kd⟩; refine ⟨_, q, ?_⟩
   have aA := d7.cN1 [_] kd
   refine XN aA.chg <| XQ (i := 7) q (by kernel_rfl) q aA.chg q (fun _ => qt_quo q q (by decide)) q q <| XQ (i := 8) q (by kernel_rfl) q aA.chg q (fun _ => qt_mul q q) q q ?_
   refine zy [4, 15] (by kernel_rfl) (by simp) (allc ?_ (allc ?_ alln))
   ·refine XC_do q ?_
    obtain ⟨qs, ke, qt⟩ := aA.at hS1 ae bI
    refine zt (k := .i64) u3 q ke q q q <| XN aA.chg <| XQ (i := 9) q (by kernel_rfl) q aA.chg q (fun _ => qt_add q q) q q <| X1 15 (by kernel_rfl) q <| zd q q c60 (w_spec_l20Rd__pick d8 _ bp0 A0 B0 (C0.c.c.c.c) aa.1 (if 1 > (List.length p1_0 : Int) then 1 else (List.length p1_0 : Int)) ab ag aA.ctx) (by rfl) ?_
    rintro _ qu ⟨rfl, kf⟩; refine ⟨_, q, ?_⟩
    have cv := aA.cN1 [_] kf
    refine XN cv.chg <| XQ (i := 16) q (by kernel_rfl) q cv.chg q (fun _ => qt_build (args := [(0, .tmp 15), (1, .tmp 21)]) (css := [#[iV (IntKind.wrap .i64 (ad + (IntKind.wrap .i64 ((IntKind.wrap .i64 (Int.tdiv aa.2 59)) * 6))))], #[iV ab.2]]) (cells := #[iV (IntKind.wrap .i64 (ad + (IntKind.wrap .i64 ((IntKind.wrap .i64 (Int.tdiv aa.2 59)) * 6)))), iV ab.2, iV 0, iV 0]) q ⟨q, q, trivial⟩ (by kernel_rfl)) q q ?_
    have kg := af.cN3 [_] cv
    refine X1 18 (by kernel_rfl) q ?_
    have kh := kg.p2
    refine zl (cs' := [iV (IntKind.wrap .i64 (ad + (IntKind.wrap .i64 ((IntKind.wrap .i64 (Int.tdiv aa.2 59)) * 6)))), iV ab.2, iV 0, iV 0]) kh q il29 q q q q q (fun qv ki => ?_)
    refine XE q ?_
    refine XC_done (by kernel_rfl) (fun a ha => ?_)
    have kj := ki.q2.p2.p3.p3
    exact ⟨aE, ha.sub ⟨q, q, q, q, trivial⟩, kj⟩
   refine XC_do q <| zd q q c60 (w_spec_l20Rd__pick d8 _ bp0 A0 B0 (C0.c.c.c.c) aa.1 (if 1 > (List.length p1_0 : Int) then 1 else (List.length p1_0 : Int)) ab ag aA.ctx) (by rfl) ?_
   rintro _ qw ⟨rfl, kk⟩; refine ⟨_, q, ?_⟩
   have br := aA.cN1 [_] kk
   refine XN br.chg <| X1 4 (by kernel_rfl) q ?_
   obtain ⟨qx, kl, qy⟩ := br.at hS1 ae bI
   refine zt (k := .i64) u3 q kl q q q <| XN br.chg <| XQ (i := 9) q (by kernel_rfl) q br.chg q (fun _ => qt_add q q) q q <| XQ (i := 16) q (by kernel_rfl) q br.chg q (fun _ => qt_build (args := [(0, .tmp 15), (1, .tmp 21)]) (css := [#[iV (IntKind.wrap .i64 (ad + (IntKind.wrap .i64 ((IntKind.wrap .i64 (Int.tdiv aa.2 59)) * 6))))], #[iV ab.2]]) (cells := #[iV (IntKind.wrap .i64 (ad + (IntKind.wrap .i64 ((IntKind.wrap .i64 (Int.tdiv aa.2 59)) * 6)))), iV ab.2, iV 0, iV 0]) q ⟨q, q, trivial⟩ (by kernel_rfl)) q q ?_
   have km := af.cN3 [_] br
   refine X1 18 (by kernel_rfl) q ?_
   have kn := km.p2
   refine zl (cs' := [iV (IntKind.wrap .i64 (ad + (IntKind.wrap .i64 ((IntKind.wrap .i64 (Int.tdiv aa.2 59)) * 6)))), iV ab.2, iV 0, iV 0]) kn q il29 q q q q q (fun qz ko => ?_)
   refine XE q ?_
   refine XC_done (by kernel_rfl) (fun a ha => ?_)
   have kp := ko.q2.p2.p3.p3
   exact ⟨aE, ha.sub ⟨q, q, q, q, trivial⟩, kp⟩
  refine XC_do q <| zd q q c60 (w_spec_l20Rd__pick j2 _ bp0 A0 B0 (C0.c.c.c) ai.1 60 aa aj bH.ctx) (by rfl) ?_
  rintro _ kq ⟨rfl, kr⟩; refine ⟨_, q, ?_⟩
  have bs := bH.cN1 [_] kr
  refine XN bs.chg <| XQ (i := 7) q (by kernel_rfl) q bs.chg q (fun _ => qt_quo q q (by decide)) q q <| XQ (i := 8) q (by kernel_rfl) q bs.chg q (fun _ => qt_mul q q) q q ?_
  refine zy [0, 15] (by kernel_rfl) (by simp) (allc ?_ (allc ?_ alln))
  ·refine XC_do q ?_
   refine zs (t := tI) (args := [.const (iV 0), .const (iV 0), .const (iV 1), .const (iV 1), .const (iV 2), .const (iV 3), .const (iV 3), .const (iV 3), .const (iV 4), .const (iV 4), .const (iV 4), .const (iV 5)]) (xs := ([0, 0, 1, 1, 2, 3, 3, 3, 4, 4, 4, 5] : List Int)) bs (BltL.cons (Blt.int) q (BltL.cons (Blt.int) q (BltL.cons (Blt.int) q (BltL.cons (Blt.int) q (BltL.cons (Blt.int) q (BltL.cons (Blt.int) q (BltL.cons (Blt.int) q (BltL.cons (Blt.int) q (BltL.cons (Blt.int) q (BltL.cons (Blt.int) q (BltL.cons (Blt.int) q (BltL.cons (Blt.int) q (BltL.nil))))))))))))) u24 j3 q q q q q q (fun qB d9 aN => ?_)
   refine XN aN.chg ?_
   obtain ⟨qC, qD, qE, cw⟩ := Ctx.isAt aN.ctx hS0 ae
   refine XT (i := 3) q (by kernel_rfl) q aN.chg q (qs_index ae cw u24 i3 q q) q q ?_
   refine zy [4, 15] (by kernel_rfl) (by simp) (allc ?_ (allc ?_ alln))
   ·refine XC_do q ?_
    obtain ⟨qG, ks, qH⟩ := aN.at hS0 ae cw
    refine zt (k := .i64) u3 q ks q q q <| XN aN.chg <| XQ (i := 9) q (by kernel_rfl) q aN.chg q (fun _ => qt_add q q) q q <| X1 15 (by kernel_rfl) q ?_
    have ea := aN.p1
    refine zd q q c60 (w_spec_l20Rd__pick d9 _ bp0 A0 B0 (C0.c.c.c.c) aa.1 (if 1 > (List.length p1_0 : Int) then 1 else (List.length p1_0 : Int)) ab ag ea.ctx) (by rfl) ?_
    rintro _ qI ⟨rfl, kt⟩; refine ⟨_, q, ?_⟩
    have cx := ea.cN1 [_] kt
    refine XN cx.chg <| XQ (i := 16) q (by kernel_rfl) q cx.chg q (fun _ => qt_build (args := [(0, .tmp 15), (1, .tmp 21)]) (css := [#[iV (IntKind.wrap .i64 (ad + (IntKind.wrap .i64 ((IntKind.wrap .i64 (Int.tdiv aa.2 59)) * 6))))], #[iV ab.2]]) (cells := #[iV (IntKind.wrap .i64 (ad + (IntKind.wrap .i64 ((IntKind.wrap .i64 (Int.tdiv aa.2 59)) * 6)))), iV ab.2, iV 0, iV 0]) q ⟨q, q, trivial⟩ (by kernel_rfl)) q q ?_
    have ku := af.cN3 [_] cx
    refine X1 18 (by kernel_rfl) q ?_
    have kv := ku.p2
    refine zl (cs' := [iV (IntKind.wrap .i64 (ad + (IntKind.wrap .i64 ((IntKind.wrap .i64 (Int.tdiv aa.2 59)) * 6)))), iV ab.2, iV 0, iV 0]) kv q il29 q q q q q (fun qJ kw => ?_)
    refine XE q ?_
    refine XC_done (by kernel_rfl) (fun a ha => ?_)
    have kx := kw.q2.p2.p3.p3
    exact ⟨aE, ha.sub ⟨q, q, q, q, trivial⟩, kx⟩
   refine XC_do q ?_
   have eb := aN.p1
   refine zd q q c60 (w_spec_l20Rd__pick d9 _ bp0 A0 B0 (C0.c.c.c.c) aa.1 (if 1 > (List.length p1_0 : Int) then 1 else (List.length p1_0 : Int)) ab ag eb.ctx) (by rfl) ?_
   rintro _ qK ⟨rfl, ky⟩; refine ⟨_, q, ?_⟩
   have bt := eb.cN1 [_] ky
   refine XN bt.chg <| X1 4 (by kernel_rfl) q ?_
   obtain ⟨qL, kz, qO⟩ := bt.at hS1 ae cw
   refine zt (k := .i64) u3 q kz q q q <| XN bt.chg <| XQ (i := 9) q (by kernel_rfl) q bt.chg q (fun _ => qt_add q q) q q <| XQ (i := 16) q (by kernel_rfl) q bt.chg q (fun _ => qt_build (args := [(0, .tmp 15), (1, .tmp 21)]) (css := [#[iV (IntKind.wrap .i64 (ad + (IntKind.wrap .i64 ((IntKind.wrap .i64 (Int.tdiv aa.2 59)) * 6))))], #[iV ab.2]]) (cells := #[iV (IntKind.wrap .i64 (ad + (IntKind.wrap .i64 ((IntKind.wrap .i64 (Int.tdiv aa.2 59)) * 6)))), iV ab.2, iV 0, iV 0]) q ⟨q, q, trivial⟩ (by kernel_rfl)) q q ?_
   have kA := af.cN3 [_] bt
   refine X1 18 (by kernel_rfl) q ?_
   have kB := kA.p2
   refine zl (cs' := [iV (IntKind.wrap .i64 (ad + (IntKind.wrap .i64 ((IntKind.wrap .i64 (Int.tdiv aa.2 59)) * 6)))), iV ab.2, iV 0, iV 0]) kB q il29 q q q q q (fun qP kC => ?_)
   refine XE q ?_
   refine XC_done (by kernel_rfl) (fun a ha => ?_)
   have kD := kC.q2.p2.p3.p3
   exact ⟨aE, ha.sub ⟨q, q, q, q, trivial⟩, kD⟩
  refine XC_do q <| zd q q c60 (w_spec_l20Rd__pick kq _ bp0 A0 B0 (C0.c.c.c) aa.1 (if 1 > (List.length p1_0 : Int) then 1 else (List.length p1_0 : Int)) ab ag bs.ctx) (by rfl) ?_
  rintro _ qQ ⟨rfl, kE⟩; refine ⟨_, q, ?_⟩
  have ec := bs.cN1 [_] kE
  refine XN ec.chg <| X1 0 (by kernel_rfl) q ?_
  refine zs (t := tI) (args := [.const (iV 0), .const (iV 0), .const (iV 1), .const (iV 1), .const (iV 2), .const (iV 3), .const (iV 3), .const (iV 3), .const (iV 4), .const (iV 4), .const (iV 4), .const (iV 5)]) (xs := ([0, 0, 1, 1, 2, 3, 3, 3, 4, 4, 4, 5] : List Int)) ec (BltL.cons (Blt.int) q (BltL.cons (Blt.int) q (BltL.cons (Blt.int) q (BltL.cons (Blt.int) q (BltL.cons (Blt.int) q (BltL.cons (Blt.int) q (BltL.cons (Blt.int) q (BltL.cons (Blt.int) q (BltL.cons (Blt.int) q (BltL.cons (Blt.int) q (BltL.cons (Blt.int) q (BltL.cons (Blt.int) q (BltL.nil))))))))))))) u24 j3 q q q q q q (fun qR qT aO => ?_)
  refine XN aO.chg ?_
  obtain ⟨qU, qV, qW, ed⟩ := Ctx.isAt aO.ctx hS0 ae
  refine XT (i := 3) q (by kernel_rfl) q aO.chg q (qs_index ae ed u24 i3 q q) q q <| X1 4 (by kernel_rfl) q ?_
  obtain ⟨qX, kF, qY⟩ := aO.at hS0 ae ed
  refine zt (k := .i64) u3 q kF q q q <| XN aO.chg <| XQ (i := 9) q (by kernel_rfl) q aO.chg q (fun _ => qt_add q q) q q <| XQ (i := 16) q (by kernel_rfl) q aO.chg q (fun _ => qt_build (args := [(0, .tmp 15), (1, .tmp 21)]) (css := [#[iV (IntKind.wrap .i64 (ad + (IntKind.wrap .i64 ((IntKind.wrap .i64 (Int.tdiv aa.2 59)) * 6))))], #[iV ab.2]]) (cells := #[iV (IntKind.wrap .i64 (ad + (IntKind.wrap .i64 ((IntKind.wrap .i64 (Int.tdiv aa.2 59)) * 6)))), iV ab.2, iV 0, iV 0]) q ⟨q, q, trivial⟩ (by kernel_rfl)) q q ?_
  have kG := af.cN3 [_] aO
  refine X1 18 (by kernel_rfl) q ?_
  have kH := kG.p2
  refine zl (cs' := [iV (IntKind.wrap .i64 (ad + (IntKind.wrap .i64 ((IntKind.wrap .i64 (Int.tdiv aa.2 59)) * 6)))), iV ab.2, iV 0, iV 0]) kH q il29 q q q q q (fun qZ kI => ?_)
  refine XE q ?_
  refine XC_done (by kernel_rfl) (fun a ha => ?_)
  have kJ := kI.q1.p2.p3.p3
  exact ⟨aE, ha.sub ⟨q, q, q, q, trivial⟩, kJ⟩
 intro a bB kK
 obtain ⟨ao, ha, ak⟩ := kK
 refine S ?_ ha
 clear ha
 refine C <| rR <| qF uf29 fi29_0 nz3 q q q ?_
 have kL := R ak.p3
 refine l u3 q kL q q q q <| B ?_
 obtain ⟨kM, ah, h⟩ := D h
 obtain ⟨ee, aG, bJ, aH⟩ := kM
 refine WP_join (M := fun a w2 => (Fr a 87 [(0, pB bp0), (4, pB b5), (5, pB ao)] ∧ Holds (([.bx bp0 89 [A0, iV B1]] : List Res).flatMap Res.own) w w2 [.bx bp0 89 [A0, iV ee], .bx b5 29 [iV 0, iV 0, iV 0, iV 0], .bx ao 29 [iV (IntKind.wrap .i64 (ad + (IntKind.wrap .i64 ((IntKind.wrap .i64 (Int.tdiv aa.2 59)) * 6)))), iV aG, iV bJ, iV aH]] G)) ?_ ?_
 ·refine g ?_
  refine rR <| A q (qt_eql q q) q q <| qA q q q <| B ?_
  refine Y q (fun cy => ?_) (fun cy => ?_)
  ·have ah := if_t cy ah
   refine Z <| qM q q q ?_
   obtain ⟨kN, kO, ah⟩ := D ah
   refine zd q q c60 (w_spec_l20Rd__pick bB _ bp0 A0 B0 (C0.c.c.c) ab.1 12 kN kO ak.ctx) (by rfl) ?_
   rintro _ ra ⟨rfl, kP⟩; refine ⟨_, q, ?_⟩
   have kQ := ak.cN1 [_] kP
   refine A q (qt_add q q) q q <| qF uf29 fi29_2 nz3 q q q ?_
   have kR := kQ.p3
   refine WL_store_bx kR q il3 q q q q q (fun rb kS => ?_)
   refine WL_nil fun a ha => ?_
   obtain ⟨rfl, rfl, rfl, rfl⟩ := (by simpa only [Option.some.injEq, Prod.mk.injEq] using ah : _)
   have kT := kS.q2.p2.p2
   exact zi (X (⟨ha.sub ⟨q, q, q, trivial⟩, kT⟩))
  have ah := if_f cy ah
  refine rR <| A q (qt_eql q q) q q <| qA q q q <| B ?_
  refine Y q (fun cz => ?_) (fun cz => ?_)
  ·have ah := if_t cz ah
   refine Z <| qM q q q ?_
   obtain ⟨kU, kV, ah⟩ := D ah
   refine zd q q c60 (w_spec_l20Rd__pick bB _ bp0 A0 B0 (C0.c.c.c) ab.1 3 kU kV ak.ctx) (by rfl) ?_
   rintro _ rc ⟨rfl, kW⟩; refine ⟨_, q, ?_⟩
   have kX := ak.cN1 [_] kW
   refine A q (qt_add q q) q q <| qF uf29 fi29_2 nz3 q q q ?_
   have kY := kX.p3
   refine WL_store_bx kY q il3 q q q q q (fun re kZ => ?_)
   refine WL_nil fun a ha => ?_
   obtain ⟨rfl, rfl, rfl, rfl⟩ := (by simpa only [Option.some.injEq, Prod.mk.injEq] using ah : _)
   have k0 := kZ.q2.p2.p2
   exact zi (X (⟨ha.sub ⟨q, q, q, trivial⟩, k0⟩))
  have ah := if_f cz ah
  refine rR <| A q (qt_eql q q) q q <| qA q q q <| B ?_
  refine Y q (fun cA => ?_) (fun cA => ?_)
  ·have ah := if_t cA ah
   refine Z <| qM q q q ?_
   obtain ⟨ef, k1, ah⟩ := D ah
   refine zd q q c60 (w_spec_l20Rd__pick bB _ bp0 A0 B0 (C0.c.c.c) ab.1 32 ef k1 ak.ctx) (by rfl) ?_
   rintro _ k2 ⟨rfl, k3⟩; refine ⟨_, q, ?_⟩
   have eg := ak.cN1 [_] k3
   refine qM q q q ?_
   obtain ⟨k4, k5, ah⟩ := D ah
   refine zd q q c60 (w_spec_l20Rd__pick k2 _ bp0 A0 B0 (C0.c.c.c) ef.1 3 k4 k5 eg.ctx) (by rfl) ?_
   rintro _ rf ⟨rfl, k6⟩; refine ⟨_, q, ?_⟩
   have k7 := eg.cN1 [_] k6
   refine A q (qt_quo q q (by decide)) q q <| A q (qt_mul q q) q q <| qF uf29 fi29_1 nz3 q q q ?_
   have k8 := k7.p3
   refine WL_store_bx k8 q il3 q q q q q (fun rg k9 => ?_)
   refine WL_nil fun a ha => ?_
   obtain ⟨rfl, rfl, rfl, rfl⟩ := (by simpa only [Option.some.injEq, Prod.mk.injEq] using ah : _)
   have la := k9.q2.p2.p2
   exact zi (X (⟨ha.sub ⟨q, q, q, trivial⟩, la⟩))
  have ah := if_f cA ah
  refine rR <| A q (qt_eql q q) q q <| qA q q q <| B ?_
  refine Y q (fun cB => ?_) (fun cB => ?_)
  ·have ah := if_t cB ah
   refine rR <| qM q q q <| qF uf27 fi27_4 nz25 q q q ?_
   have lb := R ak.p1
   refine l u25 q lb q q q q <| za ak.ctx (t := ty14) (hp1_4.c.c.c.c) u25 q q q <| A q (qt_add q q) q q ?_
   obtain ⟨eh, lc, ah⟩ := D ah
   refine zd q q c60 (w_spec_l20Rd__pick bB _ bp0 A0 B0 (C0.c.c.c) ab.1 (IntKind.wrap .i64 ((List.length p1_4 : Int) + 1)) eh lc ak.ctx) (by rfl) ?_
   rintro _ rh ⟨rfl, ld⟩; refine ⟨_, q, ?_⟩
   have lf := ak.cN1 [_] ld
   refine qF uf29 fi29_1 nz3 q q q ?_
   have lg := lf.p3
   refine WL_store_bx lg q il3 q q q q q (fun lh cC => ?_)
   refine rN <| qM q q q <| qF uf27 fi27_0 nz23 q q q ?_
   have li := R cC.p2
   refine l u23 q li q q q q <| za cC.ctx (t := ty12) (hp1_0.c.c.c.c) u23 q q q <| A q (qt_max q q) q q ?_
   have ei := cC.p1
   obtain ⟨ej, lj, ah⟩ := D ah
   refine zd q q c60 (w_spec_l20Rd__pick lh _ bp0 A0 B0 (C0.c.c.c) eh.1 (if 1 > (List.length p1_0 : Int) then 1 else (List.length p1_0 : Int)) ej lj ei.ctx) (by rfl) ?_
   rintro _ ri ⟨rfl, ll⟩; refine ⟨_, q, ?_⟩
   have lm := ei.cN1 [_] ll
   refine qF uf29 fi29_2 nz3 q q q ?_
   have ln := lm.p1
   refine WL_store_bx ln q il3 q q q q q (fun lo lp => ?_)
   refine B <| Z <| qM q q q ?_
   have ek := lp.p1
   obtain ⟨lq, lr, ah⟩ := D ah
   refine zd q q c60 (w_spec_l20Rd__pick lo _ bp0 A0 B0 (C0.c.c.c) ej.1 3 lq lr ek.ctx) (by rfl) ?_
   rintro _ rj ⟨rfl, ls⟩; refine ⟨_, q, ?_⟩
   have lu := ek.cN1 [_] ls
   refine qF uf29 fi29_3 nz3 q q q ?_
   have lv := lu.p1
   refine WL_store_bx lv q il3 q q q q q (fun rk lw => ?_)
   refine WL_nil fun a ha => ?_
   obtain ⟨rfl, rfl, rfl, rfl⟩ := (by simpa only [Option.some.injEq, Prod.mk.injEq] using ah : _)
   have lx := lw.q2.p2.p2
   exact zi (X (⟨ha.sub ⟨q, q, q, trivial⟩, lx⟩))
  have ah := if_f cB ah
  refine rR <| A q (qt_eql q q) q q <| qA q q q <| B ?_
  refine Y q (fun cD => ?_) (fun cD => ?_)
  ·have ah := if_t cD ah
   refine Z <| qF uf29 fi29_1 nz3 q q q ?_
   have ly := ak.p3
   refine WL_store_bx ly q il3 q q q q q (fun rl lz => ?_)
   refine WL_nil fun a ha => ?_
   obtain ⟨rfl, rfl, rfl, rfl⟩ := (by simpa only [Option.some.injEq, Prod.mk.injEq] using ah : _)
   have lA := lz.q2.p2.p2
   exact zi (X (⟨ha.sub ⟨q, q, q, trivial⟩, lA⟩))
  have ah := if_f cD ah
  refine rR <| A q (qt_eql q q) q q <| qA q q q <| B ?_
  refine Y q (fun cE => ?_) (fun cE => ?_)
  ·have ah := if_t cE ah
   refine Z <| qM q q q <| qF uf27 fi27_4 nz25 q q q ?_
   have lB := R ak.p1
   refine l u25 q lB q q q q <| za ak.ctx (t := ty14) (hp1_4.c.c.c.c) u25 q q q <| A q (qt_add q q) q q ?_
   obtain ⟨lC, lD, ah⟩ := D ah
   refine zd q q c60 (w_spec_l20Rd__pick bB _ bp0 A0 B0 (C0.c.c.c) ab.1 (IntKind.wrap .i64 ((List.length p1_4 : Int) + 1)) lC lD ak.ctx) (by rfl) ?_
   rintro _ rm ⟨rfl, lE⟩; refine ⟨_, q, ?_⟩
   have lF := ak.cN1 [_] lE
   refine qF uf29 fi29_1 nz3 q q q ?_
   have lG := lF.p3
   refine WL_store_bx lG q il3 q q q q q (fun rn lH => ?_)
   refine WL_nil fun a ha => ?_
   obtain ⟨rfl, rfl, rfl, rfl⟩ := (by simpa only [Option.some.injEq, Prod.mk.injEq] using ah : _)
   have lI := lH.q2.p2.p2
   exact zi (X (⟨ha.sub ⟨q, q, q, trivial⟩, lI⟩))
  have ah := if_f cE ah
  refine WP_skip fun a ha => ?_
  obtain ⟨rfl, rfl, rfl, rfl⟩ := (by simpa only [Option.some.injEq, Prod.mk.injEq] using ah : _)
  have lJ := ak.q1.p2.p2.p2
  exact zi (X (⟨ha.sub ⟨q, q, q, trivial⟩, lJ⟩))
 intro a lK lL
 obtain ⟨ha, el⟩ := lL
 refine S ?_ ha
 clear ha
 refine C <| rR <| qM q q q ?_
 obtain ⟨bu, lM, h⟩ := D h
 refine zd q q c61 (w_spec_l20Rd__odd lK _ bp0 A0 B0 (C0.c.c) ee 30 bu lM el.ctx) (by rfl) ?_
 rintro _ ro ⟨rfl, lN⟩; refine ⟨_, q, ?_⟩
 have em := el.cN1 [_] lN
 refine B ?_
 obtain ⟨lO, aP, h⟩ := D h
 obtain ⟨lP, bC⟩ := lO
 refine WP_join (M := fun a w2 => (Fr a 87 [(0, pB bp0), (4, pB b5), (5, pB ao)] ∧ Holds (([.bx bp0 89 [A0, iV B1]] : List Res).flatMap Res.own) w w2 [.bx bp0 89 [A0, iV lP], .bx b5 29 [iV 0, iV 0, iV 0, iV 0], .bx ao 29 [iV (IntKind.wrap .i64 (ad + (IntKind.wrap .i64 ((IntKind.wrap .i64 (Int.tdiv aa.2 59)) * 6)))), iV aG, iV bC, iV aH]] G)) ?_ ?_
 ·refine Y q (fun cF => ?_) (fun cF => ?_)
  ·have aP := if_t cF aP
   obtain ⟨cG, lQ, aP⟩ := D aP
   refine WP_mid (Mid := fun a w2 => (Fr a 87 [(0, pB bp0), (4, pB b5), (5, pB ao)] ∧ Holds (([.bx bp0 89 [A0, iV B1]] : List Res).flatMap Res.own) w w2 [.bx bp0 89 [A0, iV cG.1], .bx b5 29 [iV 0, iV 0, iV 0, iV 0], .bx ao 29 [iV (IntKind.wrap .i64 (ad + (IntKind.wrap .i64 ((IntKind.wrap .i64 (Int.tdiv aa.2 59)) * 6)))), iV aG, iV (IntKind.wrap .i64 ((IntKind.wrap .i64 (bJ + cG.2)) - 5)), iV aH]] G)) ?_ ?_
   ·refine WP_ordersT (fun w1 w2 => Chg (([.bx bp0 89 [A0, iV bu.1]] : List Res).flatMap Res.own) w1 w2) 6 (by kernel_rfl) (fun bK lR => ?_)
    have en := em.grow lR
    have eo : Ctx bK ([.bx bp0 89 [A0, iV bu.1]] ++ ([.bx b5 29 [iV 0, iV 0, iV 0, iV 0], .bx ao 29 [iV (IntKind.wrap .i64 (ad + (IntKind.wrap .i64 ((IntKind.wrap .i64 (Int.tdiv aa.2 59)) * 6)))), iV aG, iV bJ, iV aH]] ++ G)) := en.ctx
    have aY : Holds _ bK bK [.bx bp0 89 [A0, iV bu.1]] ([.bx b5 29 [iV 0, iV 0, iV 0, iV 0], .bx ao 29 [iV (IntKind.wrap .i64 (ad + (IntKind.wrap .i64 ((IntKind.wrap .i64 (Int.tdiv aa.2 59)) * 6)))), iV aG, iV bJ, iV aH]] ++ G) := zb (Rs := [.bx bp0 89 [A0, iV bu.1]]) eo
    refine XQ (i := 0) q (by kernel_rfl) q aY.chg q (fun _ => qt_fieldAddr uf29 fi29_2 nz3 q) q q ?_
    have lS := HasB.bx (HasB.c (HasB.c (HasB.hd))) aY.ctx
    refine XT (i := 1) q (by kernel_rfl) q aY.chg q (qs_cell u3 q q (lS.cell (i := 2) q) aY.chg (Ctx.outB eo (HasB.c (HasB.hd)))) q q <| XQ (i := 2) q (by kernel_rfl) q aY.chg q (fun _ => qt_move q) q q <| X1 3 (by kernel_rfl) q <| zd q q c60 (w_spec_l20Rd__pick bK _ bp0 A0 B0 (C0.c.c) bu.1 60 cG lQ aY.ctx) (by rfl) ?_
    rintro _ rp ⟨rfl, lT⟩; refine ⟨_, q, ?_⟩
    have bL := aY.cN1 [_] lT
    refine XN bL.chg <| XQ (i := 4) q (by kernel_rfl) q bL.chg q (fun _ => qt_add q q) q q <| XQ (i := 5) q (by kernel_rfl) q bL.chg q (fun _ => qt_sub q q) q q ?_
    have lU := en.cN1 [_] bL
    refine X1 6 (by kernel_rfl) q <| qF uf29 fi29_2 nz3 q q q <| XE q <| X1 7 (by kernel_rfl) q ?_
    have lV := lU.p2
    refine WL_store_bx lV q il3 q q q q q (fun rq lW => ?_)
    refine XE q ?_
    refine XC_done (by kernel_rfl) (fun a ha => ?_)
    have lX := lW.p2.p2
    exact ⟨ha.sub ⟨q, q, q, trivial⟩, lX⟩
   intro a rr lY
   obtain ⟨ha, lZ⟩ := lY
   obtain ⟨rfl, rfl⟩ := L aP |> Prod.mk.inj
   have l0 := lZ.p2.p2.p2
   exact X (⟨ha.sub ⟨q, q, q, trivial⟩, l0⟩)
  have aP := if_f cF aP
  refine WP_skip fun a ha => ?_
  obtain ⟨rfl, rfl⟩ := L aP |> Prod.mk.inj
  have l1 := em.p2.p2.p2
  exact X (⟨ha.sub ⟨q, q, q, trivial⟩, l1⟩)
 intro a rs l2
 obtain ⟨ha, ep⟩ := l2
 refine S ?_ ha
 clear ha
 refine C <| Z ?_
 have l3 := R ep.p2
 refine zm (cs := [iV (IntKind.wrap .i64 (ad + (IntKind.wrap .i64 ((IntKind.wrap .i64 (Int.tdiv aa.2 59)) * 6)))), iV aG, iV bC, iV aH]) us29 uo29 il29 l3 q q q ?_
 change XL _ _ _ _ _ ((86, .agg #[iV (IntKind.wrap .i64 (ad + (IntKind.wrap .i64 ((IntKind.wrap .i64 (Int.tdiv aa.2 59)) * 6)))), iV aG, iV bC, iV aH]) :: _) _
 have l4 := ep.p1
 refine zl (cs' := [iV (IntKind.wrap .i64 (ad + (IntKind.wrap .i64 ((IntKind.wrap .i64 (Int.tdiv aa.2 59)) * 6)))), iV aG, iV bC, iV aH]) l4 q il29 q q q q q (fun rt er => ?_)
 refine B <| W fun a ha => ?_
 obtain rfl := L h
 have l5 := R er.p0
 have l6 := er.q0.q1
 exact retc q ha q (run_loadVar_bx (cs := [iV (IntKind.wrap .i64 (ad + (IntKind.wrap .i64 ((IntKind.wrap .i64 (Int.tdiv aa.2 59)) * 6)))), iV aG, iV bC, iV aH]) us29 uo29 il29 l5) ⟨q, l6⟩
end Go.Proofs.YtpabogkcmbkffaaGreatDoor
