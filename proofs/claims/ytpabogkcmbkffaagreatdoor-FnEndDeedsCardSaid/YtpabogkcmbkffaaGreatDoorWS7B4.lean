/- The walks: each Go function computes its shallow function. Printed by a program. -/
import Derived.Test.YtpabogkcmbkffaaGreatDoorWS7B3
set_option linter.unusedVariables false
set_option maxRecDepth 10000
namespace Go.Proofs.YtpabogkcmbkffaaGreatDoor
open Go Go.RowKit
theorem w_spec_l7Copy (w : World) (G : List Res) (A0 : Value) (B0 : LI) (C0 : Has G ty12 A0 B0) (A1 : Value) (B1 : List Int) (C1 : Has G tI A1 B1) (A2 : Value) (B2 : List Int) (C2 : Has G tI A2 B2) (B3 : Int) (A4 : Value) (B4 : LT) (C4 : Has G ty14 A4 B4) (r : (LI × (List Int) × (List Int) × Int × LT)) (h : spec_l7CopyS B0 B1 B2 B3 B4 = some r) (H : Ctx w G) : Calls Tryz.prog 33 #[.agg #[A0, A1, A2, iV B3, A4]] w fun e w' => ∃ (v1 : Value) (v2 : Value) (v3 : Value) (v4 : Value), e = .returned (.agg #[v1, v2, v3, iV r.2.2.2.1, v4]) ∧ Holds M0 w w' [.sl 55 ty12 v1 r.1, .sl 3 tI v2 r.2.1, .sl 3 tI v3 r.2.2.1, .sl 47 ty14 v4 r.2.2.2.2] G := by
 have H : Holds M0 w w [] G := zb H
 refine zg (args := [.agg #[A0, A1, A2, iV B3, A4]]) (n := 82) Tryz.func33 q q q ?_
 unfold spec_l7CopyS at h
 refine C <| Z ?_
 refine WL_box (cs := [A0, A1, A2, iV B3, A4]) H q q q q (fun b1 w2 H3 => ?_)
 refine zq (cs := [nS, nS, nS, iV 0, nS]) H3 z27 q q q (fun b5 w6 H7 => ?_)
 refine B <| C <| Z ?_
 refine zs (t := ty12) (args := []) (xs := ([] : LI)) H7 (BltL.nil) u23 j55 q q q q q q (fun v9 lp gf => ?_)
 refine qA q q q <| B <| C <| rR <| qA q q q <| B <| g ?_
 obtain ⟨eo, gg, h⟩ := D h
 have gh := gf.p1.p2
 refine fun gi ep => zp (I := fun s a w2 => match s with | (aA, df) => ∃ aw, Fr a 82 [(1, pB b1), (2, pB b5), (3, aw), (4, iV df)] ∧ Holds M0 w w2 [.bx b1 27 [A0, A1, A2, iV B3, A4], .bx b5 27 [nS, nS, nS, iV 0, nS], .sl 55 ty12 aw aA] G) (O := fun o e a w2 => match o with | q0 => e = .exit 0 ∧ ∃ bb, Fr a 82 [(1, pB b1), (2, pB b5), (3, bb)] ∧ Holds M0 w w2 [.bx b1 27 [A0, A1, A2, iV B3, A4], .bx b5 27 [nS, nS, nS, iV 0, nS], .sl 55 ty12 bb q0] G) gg ?_ ?_ ?_
 ·exact ⟨v9, ep.sub ⟨q, q, q, q, trivial⟩, gh⟩
 ·clear ep
  intro s lq a lr ao gj
  obtain ⟨aA, df⟩ := s
  obtain ⟨aw, ha, ce⟩ := gj
  refine S ?_ ha
  clear ha
  refine C <| rR <| qM q q q <| qF uf27 fi27_0 nz23 q q q ?_
  have gk := R ce.p0
  refine l u23 q gk q q q q <| za ce.ctx (t := ty12) (C0.c.c.c) u23 q q q <| A q (qt_lss q q) q q <| B ?_
  refine Y q (fun dg => ?_) (fun dg => ?_)
  ·have ao := if_t dg ao
   refine y <| C <| g ?_
   obtain ⟨dh, cf, ao⟩ := D ao
   obtain ⟨gl, cg, ao⟩ := D ao
   obtain ⟨gm, gn, ao⟩ := D ao
   obtain ⟨di, ch, ao⟩ := D ao
   obtain ⟨go, gp, ao⟩ := D ao
   refine WP_mid (Mid := fun a w2 => ∃ ci, Fr a 82 [(1, pB b1), (2, pB b5), (3, ci), (4, iV df)] ∧ Holds M0 w w2 [.bx b1 27 [A0, A1, A2, iV B3, A4], .bx b5 27 [nS, nS, nS, iV 0, nS], .sl 55 ty12 ci go] G) ?_ ?_
   ·refine WP_ordersT (fun w1 w2 => Chg (([.sl 55 ty12 aw aA] : List Res).flatMap Res.own) w1 w2) 24 (by kernel_rfl) (fun bc gq => ?_)
    have gr := ce.grow gq
    have er := gr.p2
    have aB : Ctx bc ([.sl 55 ty12 aw aA] ++ ([.bx b1 27 [A0, A1, A2, iV B3, A4], .bx b5 27 [nS, nS, nS, iV 0, nS]] ++ G)) := er.ctx
    have ag : Holds _ bc bc [.sl 55 ty12 aw aA] ([.bx b1 27 [A0, A1, A2, iV B3, A4], .bx b5 27 [nS, nS, nS, iV 0, nS]] ++ G) := zb (Rs := [.sl 55 ty12 aw aA]) aB
    refine XQ (i := 0) q (by kernel_rfl) q ag.chg q (fun _ => qt_move q) q q <| XQ (i := 1) q (by kernel_rfl) q ag.chg q (fun _ => qt_fieldAddr uf27 fi27_0 nz23 q) q q ?_
    have gs := HasB.bx (HasB.c (HasB.hd)) ag.ctx
    refine XT (i := 2) q (by kernel_rfl) q ag.chg q (qs_cell u23 q q (gs.cell (i := 0) q) ag.chg (Ctx.outB aB (HasB.hd))) q q <| XQ (i := 3) q (by kernel_rfl) q ag.chg q (fun _ => qt_move q) q q ?_
    obtain ⟨ls, lu, lv, dj⟩ := Ctx.isAt ag.ctx (C0.c.c.c) cf
    refine XT (i := 4) q (by kernel_rfl) q ag.chg q (qs_index cf dj u23 i55 q q) q q <| XQ (i := 5) q (by kernel_rfl) q ag.chg q (fun _ => qt_fieldAddr uf55 fi55_0 nz3 q) q q ?_
    obtain ⟨lw, gt, lx⟩ := ag.at (C0.c.c.c) cf dj
    obtain ⟨ly, gu, lz⟩ := AtP.fst gt
    refine XT (i := 6) q (by kernel_rfl) q ag.chg q (qs_cell u3 q q (AtP.cInt gu) ag.chg (Ctx.outHas aB (C0.c.c) cf dj)) q q <| XQ (i := 8) q (by kernel_rfl) q ag.chg q (fun _ => qt_fieldAddr uf27 fi27_0 nz23 q) q q ?_
    have gv := HasB.bx (HasB.c (HasB.hd)) ag.ctx
    refine XT (i := 9) q (by kernel_rfl) q ag.chg q (qs_cell u23 q q (gv.cell (i := 0) q) ag.chg (Ctx.outB aB (HasB.hd))) q q <| XQ (i := 10) q (by kernel_rfl) q ag.chg q (fun _ => qt_move q) q q ?_
    obtain ⟨lA, lB, lC, dk⟩ := Ctx.isAt ag.ctx (C0.c.c.c) cg
    refine XT (i := 11) q (by kernel_rfl) q ag.chg q (qs_index cg dk u23 i55 q q) q q <| XQ (i := 12) q (by kernel_rfl) q ag.chg q (fun _ => qt_fieldAddr uf55 fi55_1 nz53 q) q q ?_
    obtain ⟨lD, gw, gx⟩ := ag.at (C0.c.c.c) cg dk
    obtain ⟨lE, gy, gz⟩ := AtP.snd gw
    obtain ⟨lF, gA, gB⟩ := AtP.fst gy
    obtain ⟨gC, gD, gE⟩ := AtP.one (t := ty4) gA q
    refine XT (i := 13) q (by kernel_rfl) q ag.chg q (qs_cell u53 q q gD ag.chg (Ctx.outHas aB (C0.c.c) cg dk)) q q ?_
    have ar : Holds _ bc bc [.ro ty2 gC gl.2.1, .sl 55 ty12 aw aA] ([.bx b1 27 [A0, A1, A2, iV B3, A4], .bx b5 27 [nS, nS, nS, iV 0, nS]] ++ G) := gx _ _ _ _ gE (fun k h => (fun k h => (fun _ h => h) k (gz k h)) k (gB k h))
    refine XQ (i := 15) q (by kernel_rfl) q ar.chg q (fun _ => qt_fieldAddr uf27 fi27_0 nz23 q) q q ?_
    have gF := HasB.bx (HasB.c (HasB.c (HasB.hd))) ar.ctx
    refine XT (i := 16) q (by kernel_rfl) q ar.chg q (qs_cell u23 q q (gF.cell (i := 0) q) ar.chg (Ctx.outB aB (HasB.hd))) q q <| XQ (i := 17) q (by kernel_rfl) q ar.chg q (fun _ => qt_move q) q q ?_
    obtain ⟨lG, lH, lI, dl⟩ := Ctx.isAt ar.ctx (C0.c.c.c.c) ch
    refine XT (i := 18) q (by kernel_rfl) q ar.chg q (qs_index ch dl u23 i55 q q) q q <| XQ (i := 19) q (by kernel_rfl) q ar.chg q (fun _ => qt_fieldAddr uf55 fi55_2 nz3 q) q q ?_
    obtain ⟨lJ, gG, lK⟩ := ar.at (C0.c.c.c.c) ch dl
    obtain ⟨lL, gH, lM⟩ := AtP.snd gG
    obtain ⟨lN, gI, lO⟩ := AtP.snd gH
    refine XT (i := 20) q (by kernel_rfl) q ar.chg q (qs_cell u3 q q (AtP.cInt gI) ar.chg (Ctx.outHas aB (C0.c.c) ch dl)) q q <| X1 7 (by kernel_rfl) q ?_
    refine zs (t := ty2) (args := []) (xs := ([] : LP)) ar (BltL.nil) u53 j57 q q q q q q (fun lP lQ es => ?_)
    refine XN es.chg <| X1 14 (by kernel_rfl) q ?_
    refine zw es hR1 gn u53 j57 q q q q q q (fun et lR cj => ?_)
    refine XN cj.chg <| XQ (i := 21) q (by kernel_rfl) q cj.chg q (fun _ => qt_build (args := [(0, .tmp 22), (1, .tmp 30), (2, .tmp 36)]) (css := [#[iV dh.1], #[et], #[iV di.2.2]]) (cells := #[iV dh.1, et, iV di.2.2]) q ⟨q, (cj.ctx.sliceCells hS0), q, trivial⟩ (by kernel_rfl)) q q <| X1 22 (by kernel_rfl) q ?_
    have gJ := cj.freeze
    refine zs (t := ty12) (args := [.tmp 37]) (xs := ([(dh.1, gm, di.2.2)] : LI)) gJ (BltL.cons (Blt.pair (Blt.int) (Blt.pair (Blt.slice hO0) (Blt.int))) q (BltL.nil)) u23 j55 q q q q q q (fun lS lT eu => ?_)
    refine XN eu.chg <| X1 23 (by kernel_rfl) q ?_
    have gK := eu.p3
    refine zw gK hS1 gp u23 j55 q q q q q q (fun gL lU ew => ?_)
    refine XN ew.chg ?_
    have gM := er.cN4 [_] ew
    refine X1 24 (by kernel_rfl) q <| qA q q q <| XE q ?_
    refine XC_done (by kernel_rfl) (fun a ha => ?_)
    have gN := gM.q1.q1.q1.p2.p2
    exact ⟨gL, ha.sub ⟨q, q, q, q, trivial⟩, gN⟩
   intro a lV gO
   obtain ⟨ci, ha, gP⟩ := gO
   refine zi (X (S ?_ ha))
   refine Z <| qM q q q <| A q (qt_add q q) q q <| qA q q q <| WL_nil fun a ha => ?_
   obtain rfl := L ao
   have gQ := gP.p2.p2.p2
   exact ⟨q, ci, ha.sub ⟨q, q, q, q, trivial⟩, gQ⟩
  have ao := if_f dg ao
  refine WP_exit fun a ha => ?_
  obtain rfl := L ao
  have gR := ce.p2.p2.p2
  exact zo (⟨exit_ne, q, aw, ha.sub ⟨q, q, q, trivial⟩, gR⟩)
 intro e gi lW gS
 obtain ⟨ad, rfl⟩ : ∃ z, z = eo := ⟨eo, q⟩
 obtain ⟨rfl, gT⟩ := gS
 obtain ⟨ab, ha, gU⟩ := gT
 refine zn (X (S ?_ ha))
 refine C ?_
 obtain ⟨ah, ax, h⟩ := D h
 obtain ⟨aq, ck, h⟩ := D h
 refine WP_join (M := fun a w2 => ∃ au aj ak al cl, Fr a 82 [(1, pB b1), (2, pB b5), (5, pB au)] ∧ Holds M0 w w2 [.bx b1 27 [A0, A1, A2, iV B3, A4], .bx b5 27 [nS, nS, nS, iV 0, nS], .bx au 27 [aj, ak, al, iV B3, cl], .sl 55 ty12 aj ad, .sl 3 tI ak ah, .sl 3 tI al aq, .sl 47 ty14 cl ([])] G) ?_ ?_
 ·refine WP_ordersT (fun w1 w2 => Chg M0 w1 w2) 14 (by kernel_rfl) (fun ae gV => ?_)
  have ey := gU.grow gV
  have cm : Ctx ae ([] ++ ([.bx b1 27 [A0, A1, A2, iV B3, A4], .bx b5 27 [nS, nS, nS, iV 0, nS], .sl 55 ty12 ab ad] ++ G)) := ey.ctx
  have an : Holds _ ae ae [] ([.bx b1 27 [A0, A1, A2, iV B3, A4], .bx b5 27 [nS, nS, nS, iV 0, nS], .sl 55 ty12 ab ad] ++ G) := zb (Rs := []) cm
  refine XQ (i := 0) q (by kernel_rfl) q an.chg q (fun _ => qt_move q) q q <| XQ (i := 2) q (by kernel_rfl) q an.chg q (fun _ => qt_fieldAddr uf27 fi27_1 nz24 q) q q ?_
  have gW := HasB.bx (HasB.hd) an.ctx
  refine XT (i := 3) q (by kernel_rfl) q an.chg q (qs_cell u24 q q (gW.cell (i := 1) q) an.chg (Ctx.outB cm (HasB.hd))) q q <| XQ (i := 6) q (by kernel_rfl) q an.chg q (fun _ => qt_fieldAddr uf27 fi27_2 nz24 q) q q ?_
  have gX := HasB.bx (HasB.hd) an.ctx
  refine XT (i := 7) q (by kernel_rfl) q an.chg q (qs_cell u24 q q (gX.cell (i := 2) q) an.chg (Ctx.outB cm (HasB.hd))) q q <| XQ (i := 9) q (by kernel_rfl) q an.chg q (fun _ => qt_fieldAddr uf27 fi27_3 nz3 q) q q ?_
  have gY := HasB.bx (HasB.hd) an.ctx
  refine XT (i := 10) q (by kernel_rfl) q an.chg q (qs_cell u3 q q (gY.cell (i := 3) q) an.chg (Ctx.outB cm (HasB.hd))) q q ?_
  refine XC_name (fun af aa => ?_)
  have gZ : ∀ (cn : Nat) (co : Value) (cp : Value) (cq : Value) (cr : Value) (dm : World), Holds M0 w dm [.bx b1 27 [A0, A1, A2, iV B3, A4], .bx b5 27 [nS, nS, nS, iV 0, nS], .bx cn 27 [co, cp, cq, iV B3, cr], .sl 55 ty12 co ad, .sl 3 tI cp ah, .sl 3 tI cq aq, .sl 47 ty14 cr ([])] G → af 0 (bitA 15 32767) [(1, pB b1), (2, pB b5), (5, pB cn)] dm := by
   intro cn co cp cq cr dm g0
   rw [aa]
   refine XC_done (by kernel_rfl) (fun a ha => ?_)
   have g1 := g0.p6.p6.p6.p6.p6.p6.p6
   exact ⟨cn, co, cp, cq, cr, ha.sub ⟨q, q, q, trivial⟩, g1⟩
  have dn : ∀ (bd : Nat) (be : Value) (bf : Value) (bg : Value) (bh : Value) (aL : Value) (aM : Value) (aN : Value) (ct : World), Holds M0 ae ct [.bx bd 27 [be, bf, bg, iV 0, bh], .sl 55 ty12 be ([]), .sl 3 tI bf ([]), .sl 3 tI bg ([]), .sl 47 ty14 bh ([]), .sl 3 tI aL ah, .sl 3 tI aM aq, .sl 47 ty14 aN ([])] ([.bx b1 27 [A0, A1, A2, iV B3, A4], .bx b5 27 [nS, nS, nS, iV 0, nS], .sl 55 ty12 ab ad] ++ G) → af 1 (bitA 15 16383) [(1, pB b1), (2, pB b5), (5, pB bd), (52, .agg #[ab, aL, aM, iV B3, aN])] ct := by
   intro bd be bf bg bh aL aM aN ct g2
   rw [aa]
   have bi : Holds _ w ct [.bx bd 27 [be, bf, bg, iV 0, bh], .sl 55 ty12 be ([]), .sl 3 tI bf ([]), .sl 3 tI bg ([]), .sl 47 ty14 bh ([]), .sl 3 tI aL ah, .sl 3 tI aM aq, .sl 47 ty14 aN ([]), .bx b1 27 [A0, A1, A2, iV B3, A4], .bx b5 27 [nS, nS, nS, iV 0, nS], .sl 55 ty12 ab ad] G := ey.calledN (Rs := []) g2
   refine X1 14 (by kernel_rfl) q ?_
   refine zl (cs' := [ab, aL, aM, iV B3, aN]) bi q il27 q (T (bi.ctx.sliceOne hS10) (T (bi.ctx.sliceOne hS5) (T (bi.ctx.sliceOne hS6) (T q (T (bi.ctx.sliceOne hS7) q))))) q q q (fun lX g3 => ?_)
   refine XE q ?_
   have g4 := g3.q1.q1.q1.q1.p3.p3.p3.p6.p4.p6.p6
   exact zu aa (gZ bd ab aL aM aN _ g4) (by kernel_rfl) ⟨q, q, q, trivial⟩
  have ez : ∀ (cu : Value) (cv : Value) (cw : Value) (dq : World), Holds M0 ae dq [.sl 3 tI cu ah, .sl 3 tI cv aq, .sl 47 ty14 cw ([])] ([.bx b1 27 [A0, A1, A2, iV B3, A4], .bx b5 27 [nS, nS, nS, iV 0, nS], .sl 55 ty12 ab ad] ++ G) → af 2 (bitA 15 8191) [(1, pB b1), (2, pB b5), (52, .agg #[ab, cu, cv, iV B3, cw])] dq := by
   intro cu cv cw dq g5
   rw [aa]
   refine X1 13 (by kernel_rfl) q ?_
   refine zq (cs := [nS, nS, nS, iV 0, nS]) g5 z27 q q q (fun g6 lY eA => ?_)
   refine XN eA.chg ?_
   have g7 := eA.nS 55 ty12
   have g8 := g7.nS 3 tI
   have g9 := g8.nS 3 tI
   have hb := g9.nS 47 ty14
   have hc := hb.p7.p7.p7.p3.p4.p5.p6.p7
   exact zu aa (dn g6 (nS) (nS) (nS) (nS) cu cv cw _ hc) (by kernel_rfl) ⟨q, q, q, q, trivial⟩
  have eB : ∀ (cx : Nat) (cy : Value) (cz : Value) (cA : Value) (cB : Value) (aO : Value) (aP : Value) (dr : World), Holds M0 ae dr [.bx cx 27 [cy, cz, cA, iV 0, cB], .sl 55 ty12 cy ([]), .sl 3 tI cz ([]), .sl 3 tI cA ([]), .sl 47 ty14 cB ([]), .sl 3 tI aO ah, .sl 3 tI aP aq] ([.bx b1 27 [A0, A1, A2, iV B3, A4], .bx b5 27 [nS, nS, nS, iV 0, nS], .sl 55 ty12 ab ad] ++ G) → af 3 (bitA 15 10239) [(1, pB b1), (2, pB b5), (5, pB cx), (40, ab), (44, aO), (48, aP), (50, iV B3)] dr := by
   intro cx cy cz cA cB aO aP dr he
   rw [aa]
   refine X1 11 (by kernel_rfl) q ?_
   refine zs (t := ty14) (args := []) (xs := ([] : LT)) he (BltL.nil) u25 j47 q q q q q q (fun ds lZ aC => ?_)
   refine XN aC.chg <| XQ (i := 12) q (by kernel_rfl) q aC.chg q (fun _ => qt_build (args := [(0, .tmp 40), (1, .tmp 44), (2, .tmp 48), (3, .tmp 50), (4, .tmp 51)]) (css := [#[ab], #[aO], #[aP], #[iV B3], #[ds]]) (cells := #[ab, aO, aP, iV B3, ds]) q ⟨(aC.ctx.sliceCells hS10), (aC.ctx.sliceCells hS6), (aC.ctx.sliceCells hS7), q, (aC.ctx.sliceCells hS0), trivial⟩ (by kernel_rfl)) q q ?_
   have hf := aC.p7.p7.p7.p7.p7.p7.p7
   exact zu aa (dn cx cy cz cA cB aO aP ds _ hf) (by kernel_rfl) ⟨q, q, q, q, trivial⟩
  have cC : ∀ (cD : Nat) (cE : Value) (cF : Value) (cG : Value) (cH : Value) (aQ : Value) (dt : Value) (aR : Value) (du : World), Holds M0 ae du [.bx cD 27 [cE, cF, cG, iV 0, cH], .sl 55 ty12 cE ([]), .sl 3 tI cF ([]), .sl 3 tI cG ([]), .sl 47 ty14 cH ([]), .sl 3 tI aQ ah, .sl 3 tI dt ([]), .sl 47 ty14 aR ([])] ([.bx b1 27 [A0, A1, A2, iV B3, A4], .bx b5 27 [nS, nS, nS, iV 0, nS], .sl 55 ty12 ab ad] ++ G) → af 3 (bitA 15 12031) [(1, pB b1), (2, pB b5), (5, pB cD), (40, ab), (44, aQ), (45, dt), (47, A2), (50, iV B3), (51, aR)] du := by
   intro cD cE cF cG cH aQ dt aR du hg
   rw [aa]
   refine X1 8 (by kernel_rfl) q ?_
   have hh := hg.p6
   refine zw hh (C2.c.c.c.c.c.c.c.c.c.c.c) ck u24 j3 q q q q q q (fun dv l0 aD => ?_)
   refine XN aD.chg <| XQ (i := 12) q (by kernel_rfl) q aD.chg q (fun _ => qt_build (args := [(0, .tmp 40), (1, .tmp 44), (2, .tmp 48), (3, .tmp 50), (4, .tmp 51)]) (css := [#[ab], #[aQ], #[dv], #[iV B3], #[aR]]) (cells := #[ab, aQ, dv, iV B3, aR]) q ⟨(aD.ctx.sliceCells hS10), (aD.ctx.sliceCells hS6), (aD.ctx.sliceCells hS0), q, (aD.ctx.sliceCells hS7), trivial⟩ (by kernel_rfl)) q q ?_
   have hi := aD.p7.p1.p7.p7.p7.p7.p7.p7
   exact zu aa (dn cD cE cF cG cH aQ dv aR _ hi) (by kernel_rfl) ⟨q, q, q, q, trivial⟩
  have hj : ∀ (aE : Value) (aF : Value) (dw : World), Holds M0 ae dw [.sl 3 tI aE ah, .sl 3 tI aF aq] ([.bx b1 27 [A0, A1, A2, iV B3, A4], .bx b5 27 [nS, nS, nS, iV 0, nS], .sl 55 ty12 ab ad] ++ G) → af 4 (bitA 15 2047) [(1, pB b1), (2, pB b5), (40, ab), (44, aE), (48, aF), (50, iV B3)] dw := by
   intro aE aF dw eC
   rw [aa]
   refine zy [11, 13] (by kernel_rfl) (by simp) (allc ?_ (allc ?_ alln))
   ·refine XC_do q ?_
    refine zs (t := ty14) (args := []) (xs := ([] : LT)) eC (BltL.nil) u25 j47 q q q q q q (fun dx l1 aG => ?_)
    refine XN aG.chg <| XQ (i := 12) q (by kernel_rfl) q aG.chg q (fun _ => qt_build (args := [(0, .tmp 40), (1, .tmp 44), (2, .tmp 48), (3, .tmp 50), (4, .tmp 51)]) (css := [#[ab], #[aE], #[aF], #[iV B3], #[dx]]) (cells := #[ab, aE, aF, iV B3, dx]) q ⟨(aG.ctx.sliceCells hS5), (aG.ctx.sliceCells hS1), (aG.ctx.sliceCells hS2), q, (aG.ctx.sliceCells hS0), trivial⟩ (by kernel_rfl)) q q ?_
    have hk := aG.p2.p2
    exact zu aa (ez aE aF dx _ hk) (by kernel_rfl) ⟨q, q, q, trivial⟩
   refine XC_do q ?_
   refine zq (cs := [nS, nS, nS, iV 0, nS]) eC z27 q q q (fun hl l2 eD => ?_)
   refine XN eD.chg ?_
   have hm := eD.nS 55 ty12
   have hn := hm.nS 3 tI
   have ho := hn.nS 3 tI
   have hp := ho.nS 47 ty14
   have hq := hp.p6.p6.p2.p3.p4.p5.p6
   exact zu aa (eB hl (nS) (nS) (nS) (nS) aE aF _ hq) (by kernel_rfl) ⟨q, q, q, q, q, q, q, trivial⟩
  have dy : ∀ (aH : Value) (cI : Value) (aI : Value) (dz : World), Holds M0 ae dz [.sl 3 tI aH ah, .sl 3 tI cI ([]), .sl 47 ty14 aI ([])] ([.bx b1 27 [A0, A1, A2, iV B3, A4], .bx b5 27 [nS, nS, nS, iV 0, nS], .sl 55 ty12 ab ad] ++ G) → af 4 (bitA 15 3839) [(1, pB b1), (2, pB b5), (40, ab), (44, aH), (45, cI), (47, A2), (50, iV B3), (51, aI)] dz := by
   intro aH cI aI dz eE
   rw [aa]
   refine zy [8, 13] (by kernel_rfl) (by simp) (allc ?_ (allc ?_ alln))
   ·refine XC_do q ?_
    have hr := eE.p1
    refine zw hr (C2.c.c.c.c.c.c) ck u24 j3 q q q q q q (fun dA l3 aJ => ?_)
    refine XN aJ.chg <| XQ (i := 12) q (by kernel_rfl) q aJ.chg q (fun _ => qt_build (args := [(0, .tmp 40), (1, .tmp 44), (2, .tmp 48), (3, .tmp 50), (4, .tmp 51)]) (css := [#[ab], #[aH], #[dA], #[iV B3], #[aI]]) (cells := #[ab, aH, dA, iV B3, aI]) q ⟨(aJ.ctx.sliceCells hS5), (aJ.ctx.sliceCells hS1), (aJ.ctx.sliceCells hS0), q, (aJ.ctx.sliceCells hS2), trivial⟩ (by kernel_rfl)) q q ?_
    have hs := aJ.p2.p1.p2
    exact zu aa (ez aH dA aI _ hs) (by kernel_rfl) ⟨q, q, q, trivial⟩
   refine XC_do q ?_
   refine zq (cs := [nS, nS, nS, iV 0, nS]) eE z27 q q q (fun ht l4 eF => ?_)
   refine XN eF.chg ?_
   have hu := eF.nS 55 ty12
   have hv := hu.nS 3 tI
   have hw := hv.nS 3 tI
   have hx := hw.nS 47 ty14
   have hy := hx.p7.p7.p7.p3.p4.p5.p6.p7
   exact zu aa (cC ht (nS) (nS) (nS) (nS) aH cI aI _ hy) (by kernel_rfl) ⟨q, q, q, q, q, q, q, q, q, trivial⟩
  have dB : ∀ (bj : Nat) (bk : Value) (bl : Value) (bm : Value) (bn : Value) (bo : Value) (cJ : Value) (dC : World), Holds M0 ae dC [.bx bj 27 [bk, bl, bm, iV 0, bn], .sl 55 ty12 bk ([]), .sl 3 tI bl ([]), .sl 3 tI bm ([]), .sl 47 ty14 bn ([]), .sl 3 tI bo ah, .sl 3 tI cJ ([])] ([.bx b1 27 [A0, A1, A2, iV B3, A4], .bx b5 27 [nS, nS, nS, iV 0, nS], .sl 55 ty12 ab ad] ++ G) → af 4 (bitA 15 9983) [(1, pB b1), (2, pB b5), (5, pB bj), (40, ab), (44, bo), (45, cJ), (47, A2), (50, iV B3)] dC := by
   intro bj bk bl bm bn bo cJ dC eG
   rw [aa]
   refine zy [8, 11] (by kernel_rfl) (by simp) (allc ?_ (allc ?_ alln))
   ·refine XC_do q ?_
    have hz := eG.p6
    refine zw hz (C2.c.c.c.c.c.c.c.c.c.c) ck u24 j3 q q q q q q (fun hA l5 eH => ?_)
    refine XN eH.chg ?_
    have hC := eH.p6.p6.p6.p6.p6.p6
    exact zu aa (eB bj bk bl bm bn bo hA _ hC) (by kernel_rfl) ⟨q, q, q, q, q, q, q, trivial⟩
   refine XC_do q ?_
   refine zs (t := ty14) (args := []) (xs := ([] : LT)) eG (BltL.nil) u25 j47 q q q q q q (fun hD l6 eI => ?_)
   refine XN eI.chg ?_
   have hE := eI.p7.p7.p7.p7.p7.p7.p7
   exact zu aa (cC bj bk bl bm bn bo cJ hD _ hE) (by kernel_rfl) ⟨q, q, q, q, q, q, q, q, q, trivial⟩
  have dD : ∀ (cK : Nat) (cL : Value) (cM : Value) (cN : Value) (cO : Value) (cP : Value) (cQ : Value) (dE : World), Holds M0 ae dE [.bx cK 27 [cL, cM, cN, iV 0, cO], .sl 55 ty12 cL ([]), .sl 3 tI cM ([]), .sl 3 tI cN ([]), .sl 47 ty14 cO ([]), .sl 3 tI cP ah, .sl 47 ty14 cQ ([])] ([.bx b1 27 [A0, A1, A2, iV B3, A4], .bx b5 27 [nS, nS, nS, iV 0, nS], .sl 55 ty12 ab ad] ++ G) → af 4 (bitA 15 11999) [(1, pB b1), (2, pB b5), (5, pB cK), (40, ab), (44, cP), (47, A2), (50, iV B3), (51, cQ)] dE := by
   intro cK cL cM cN cO cP cQ dE hF
   rw [aa]
   refine X1 5 (by kernel_rfl) q ?_
   refine zs (t := tI) (args := []) (xs := ([] : List Int)) hF (BltL.nil) u24 j3 q q q q q q (fun hG l7 eJ => ?_)
   refine XN eJ.chg ?_
   have hH := eJ.p7.p1.p7.p7.p7.p7.p7.p7
   exact zu aa (cC cK cL cM cN cO cP hG cQ _ hH) (by kernel_rfl) ⟨q, q, q, q, q, q, q, q, q, trivial⟩
  have cR : ∀ (cS : Nat) (cT : Value) (cU : Value) (cV : Value) (cW : Value) (dF : Value) (cX : Value) (cY : Value) (dG : World), Holds M0 ae dG [.bx cS 27 [cT, cU, cV, iV 0, cW], .sl 55 ty12 cT ([]), .sl 3 tI cU ([]), .sl 3 tI cV ([]), .sl 47 ty14 cW ([]), .sl 3 tI dF ([]), .sl 3 tI cX ([]), .sl 47 ty14 cY ([])] ([.bx b1 27 [A0, A1, A2, iV B3, A4], .bx b5 27 [nS, nS, nS, iV 0, nS], .sl 55 ty12 ab ad] ++ G) → af 4 (bitA 15 12015) [(1, pB b1), (2, pB b5), (5, pB cS), (40, ab), (41, dF), (43, A1), (45, cX), (47, A2), (50, iV B3), (51, cY)] dG := by
   intro cS cT cU cV cW dF cX cY dG hI
   rw [aa]
   refine X1 4 (by kernel_rfl) q ?_
   have hJ := hI.p5
   refine zw hJ (C1.c.c.c.c.c.c.c.c.c.c.c) ax u24 j3 q q q q q q (fun hK l8 eK => ?_)
   refine XN eK.chg ?_
   have hL := eK.p7.p7.p2.p7.p7.p7.p7.p7
   exact zu aa (cC cS cT cU cV cW hK cX cY _ hL) (by kernel_rfl) ⟨q, q, q, q, q, q, q, q, q, trivial⟩
  have eL : ∀ (aS : Value) (bp : Value) (dH : World), Holds M0 ae dH [.sl 3 tI aS ah, .sl 3 tI bp ([])] ([.bx b1 27 [A0, A1, A2, iV B3, A4], .bx b5 27 [nS, nS, nS, iV 0, nS], .sl 55 ty12 ab ad] ++ G) → af 5 (bitA 15 1791) [(1, pB b1), (2, pB b5), (40, ab), (44, aS), (45, bp), (47, A2), (50, iV B3)] dH := by
   intro aS bp dH dI
   rw [aa]
   refine zy [8, 11, 13] (by kernel_rfl) (by simp) (allc ?_ (allc ?_ (allc ?_ alln)))
   ·refine XC_do q ?_
    have hM := dI.p1
    refine zw hM (C2.c.c.c.c.c) ck u24 j3 q q q q q q (fun hN l9 eM => ?_)
    refine XN eM.chg ?_
    have hO := eM.p1
    exact zu aa (hj aS hN _ hO) (by kernel_rfl) ⟨q, q, q, q, q, q, trivial⟩
   ·refine XC_do q ?_
    refine zs (t := ty14) (args := []) (xs := ([] : LT)) dI (BltL.nil) u25 j47 q q q q q q (fun hP ma eN => ?_)
    refine XN eN.chg ?_
    have hQ := eN.p2.p2
    exact zu aa (dy aS bp hP _ hQ) (by kernel_rfl) ⟨q, q, q, q, q, q, q, q, trivial⟩
   refine XC_do q ?_
   refine zq (cs := [nS, nS, nS, iV 0, nS]) dI z27 q q q (fun hR mb eO => ?_)
   refine XN eO.chg ?_
   have hS := eO.nS 55 ty12
   have hT := hS.nS 3 tI
   have hU := hT.nS 3 tI
   have hV := hU.nS 47 ty14
   have hW := hV.p6.p6.p2.p3.p4.p5.p6
   exact zu aa (dB hR (nS) (nS) (nS) (nS) aS bp _ hW) (by kernel_rfl) ⟨q, q, q, q, q, q, q, q, trivial⟩
  have eP : ∀ (bq : Value) (br : Value) (dJ : World), Holds M0 ae dJ [.sl 3 tI bq ah, .sl 47 ty14 br ([])] ([.bx b1 27 [A0, A1, A2, iV B3, A4], .bx b5 27 [nS, nS, nS, iV 0, nS], .sl 55 ty12 ab ad] ++ G) → af 5 (bitA 15 3807) [(1, pB b1), (2, pB b5), (40, ab), (44, bq), (47, A2), (50, iV B3), (51, br)] dJ := by
   intro bq br dJ eQ
   rw [aa]
   refine zy [5, 13] (by kernel_rfl) (by simp) (allc ?_ (allc ?_ alln))
   ·refine XC_do q ?_
    refine zs (t := tI) (args := []) (xs := ([] : List Int)) eQ (BltL.nil) u24 j3 q q q q q q (fun hX mc eR => ?_)
    refine XN eR.chg ?_
    have hY := eR.p2.p1.p2
    exact zu aa (dy bq hX br _ hY) (by kernel_rfl) ⟨q, q, q, q, q, q, q, q, trivial⟩
   refine XC_do q ?_
   refine zq (cs := [nS, nS, nS, iV 0, nS]) eQ z27 q q q (fun hZ md eS => ?_)
   refine XN eS.chg ?_
   have h0 := eS.nS 55 ty12
   have h1 := h0.nS 3 tI
   have h2 := h1.nS 3 tI
   have h3 := h2.nS 47 ty14
   have h4 := h3.p6.p6.p2.p3.p4.p5.p6
   exact zu aa (dD hZ (nS) (nS) (nS) (nS) bq br _ h4) (by kernel_rfl) ⟨q, q, q, q, q, q, q, q, trivial⟩
  have eT : ∀ (bs : Nat) (bt : Value) (bu : Value) (bv : Value) (bw : Value) (bz : Value) (dK : World), Holds M0 ae dK [.bx bs 27 [bt, bu, bv, iV 0, bw], .sl 55 ty12 bt ([]), .sl 3 tI bu ([]), .sl 3 tI bv ([]), .sl 47 ty14 bw ([]), .sl 3 tI bz ah] ([.bx b1 27 [A0, A1, A2, iV B3, A4], .bx b5 27 [nS, nS, nS, iV 0, nS], .sl 55 ty12 ab ad] ++ G) → af 5 (bitA 15 9951) [(1, pB b1), (2, pB b5), (5, pB bs), (40, ab), (44, bz), (47, A2), (50, iV B3)] dK := by
   intro bs bt bu bv bw bz dK eU
   rw [aa]
   refine zy [5, 11] (by kernel_rfl) (by simp) (allc ?_ (allc ?_ alln))
   ·refine XC_do q ?_
    refine zs (t := tI) (args := []) (xs := ([] : List Int)) eU (BltL.nil) u24 j3 q q q q q q (fun h5 me eV => ?_)
    refine XN eV.chg ?_
    have h6 := eV.p6.p6.p6.p6.p6.p6
    exact zu aa (dB bs bt bu bv bw bz h5 _ h6) (by kernel_rfl) ⟨q, q, q, q, q, q, q, q, trivial⟩
   refine XC_do q ?_
   refine zs (t := ty14) (args := []) (xs := ([] : LT)) eU (BltL.nil) u25 j47 q q q q q q (fun h7 mf eW => ?_)
   refine XN eW.chg ?_
   have h8 := eW.p6.p6.p6.p6.p6.p6
   exact zu aa (dD bs bt bu bv bw bz h7 _ h8) (by kernel_rfl) ⟨q, q, q, q, q, q, q, q, trivial⟩
  have dL : ∀ (cZ : Value) (bA : Value) (bB : Value) (dM : World), Holds M0 ae dM [.sl 3 tI cZ ([]), .sl 3 tI bA ([]), .sl 47 ty14 bB ([])] ([.bx b1 27 [A0, A1, A2, iV B3, A4], .bx b5 27 [nS, nS, nS, iV 0, nS], .sl 55 ty12 ab ad] ++ G) → af 5 (bitA 15 3823) [(1, pB b1), (2, pB b5), (40, ab), (41, cZ), (43, A1), (45, bA), (47, A2), (50, iV B3), (51, bB)] dM := by
   intro cZ bA bB dM eX
   rw [aa]
   refine zy [4, 13] (by kernel_rfl) (by simp) (allc ?_ (allc ?_ alln))
   ·refine XC_do q ?_
    refine zw eX (C1.c.c.c.c.c.c) ax u24 j3 q q q q q q (fun h9 mg eY => ?_)
    refine XN eY.chg ?_
    have ia := eY.p2.p2.p2
    exact zu aa (dy h9 bA bB _ ia) (by kernel_rfl) ⟨q, q, q, q, q, q, q, q, trivial⟩
   refine XC_do q ?_
   refine zq (cs := [nS, nS, nS, iV 0, nS]) eX z27 q q q (fun ib mh eZ => ?_)
   refine XN eZ.chg ?_
   have ic := eZ.nS 55 ty12
   have ie := ic.nS 3 tI
   have ig := ie.nS 3 tI
   have ih := ig.nS 47 ty14
   have ii := ih.p7.p7.p7.p3.p4.p5.p6.p7
   exact zu aa (cR ib (nS) (nS) (nS) (nS) cZ bA bB _ ii) (by kernel_rfl) ⟨q, q, q, q, q, q, q, q, q, q, trivial⟩
  have dN : ∀ (bC : Nat) (bD : Value) (bE : Value) (bF : Value) (bG : Value) (c0 : Value) (bH : Value) (dO : World), Holds M0 ae dO [.bx bC 27 [bD, bE, bF, iV 0, bG], .sl 55 ty12 bD ([]), .sl 3 tI bE ([]), .sl 3 tI bF ([]), .sl 47 ty14 bG ([]), .sl 3 tI c0 ([]), .sl 3 tI bH ([])] ([.bx b1 27 [A0, A1, A2, iV B3, A4], .bx b5 27 [nS, nS, nS, iV 0, nS], .sl 55 ty12 ab ad] ++ G) → af 5 (bitA 15 9967) [(1, pB b1), (2, pB b5), (5, pB bC), (40, ab), (41, c0), (43, A1), (45, bH), (47, A2), (50, iV B3)] dO := by
   intro bC bD bE bF bG c0 bH dO e0
   rw [aa]
   refine zy [4, 11] (by kernel_rfl) (by simp) (allc ?_ (allc ?_ alln))
   ·refine XC_do q ?_
    have ij := e0.p5
    refine zw ij (C1.c.c.c.c.c.c.c.c.c.c) ax u24 j3 q q q q q q (fun ik mi e1 => ?_)
    refine XN e1.chg ?_
    have il := e1.p6.p1.p6.p6.p6.p6.p6
    exact zu aa (dB bC bD bE bF bG ik bH _ il) (by kernel_rfl) ⟨q, q, q, q, q, q, q, q, trivial⟩
   refine XC_do q ?_
   refine zs (t := ty14) (args := []) (xs := ([] : LT)) e0 (BltL.nil) u25 j47 q q q q q q (fun im mj e2 => ?_)
   refine XN e2.chg ?_
   have io := e2.p7.p7.p7.p7.p7.p7.p7
   exact zu aa (cR bC bD bE bF bG c0 bH im _ io) (by kernel_rfl) ⟨q, q, q, q, q, q, q, q, q, q, trivial⟩
  have dP : ∀ (bI : Nat) (bJ : Value) (bK : Value) (bL : Value) (bM : Value) (c1 : Value) (bN : Value) (dQ : World), Holds M0 ae dQ [.bx bI 27 [bJ, bK, bL, iV 0, bM], .sl 55 ty12 bJ ([]), .sl 3 tI bK ([]), .sl 3 tI bL ([]), .sl 47 ty14 bM ([]), .sl 3 tI c1 ([]), .sl 47 ty14 bN ([])] ([.bx b1 27 [A0, A1, A2, iV B3, A4], .bx b5 27 [nS, nS, nS, iV 0, nS], .sl 55 ty12 ab ad] ++ G) → af 5 (bitA 15 11983) [(1, pB b1), (2, pB b5), (5, pB bI), (40, ab), (41, c1), (43, A1), (47, A2), (50, iV B3), (51, bN)] dQ := by
   intro bI bJ bK bL bM c1 bN dQ e3
   rw [aa]
   refine zy [4, 5] (by kernel_rfl) (by simp) (allc ?_ (allc ?_ alln))
   ·refine XC_do q ?_
    have ip := e3.p5
    refine zw ip (C1.c.c.c.c.c.c.c.c.c.c) ax u24 j3 q q q q q q (fun iq mm e4 => ?_)
    refine XN e4.chg ?_
    have ir := e4.p6.p1.p6.p6.p6.p6.p6
    exact zu aa (dD bI bJ bK bL bM iq bN _ ir) (by kernel_rfl) ⟨q, q, q, q, q, q, q, q, trivial⟩
   refine XC_do q ?_
   refine zs (t := tI) (args := []) (xs := ([] : List Int)) e3 (BltL.nil) u24 j3 q q q q q q (fun it mn e5 => ?_)
   refine XN e5.chg ?_
   have iu := e5.p7.p1.p7.p7.p7.p7.p7.p7
   exact zu aa (cR bI bJ bK bL bM c1 it bN _ iu) (by kernel_rfl) ⟨q, q, q, q, q, q, q, q, q, q, trivial⟩
  have dR : ∀ (c2 : Nat) (c3 : Value) (c4 : Value) (c5 : Value) (c6 : Value) (da : Value) (db : Value) (dS : World), Holds M0 ae dS [.bx c2 27 [c3, c4, c5, iV 0, c6], .sl 55 ty12 c3 ([]), .sl 3 tI c4 ([]), .sl 3 tI c5 ([]), .sl 47 ty14 c6 ([]), .sl 3 tI da ([]), .sl 47 ty14 db ([])] ([.bx b1 27 [A0, A1, A2, iV B3, A4], .bx b5 27 [nS, nS, nS, iV 0, nS], .sl 55 ty12 ab ad] ++ G) → af 5 (bitA 15 12013) [(1, pB b1), (2, pB b5), (5, pB c2), (40, ab), (43, A1), (45, da), (47, A2), (50, iV B3), (51, db)] dS := by
   intro c2 c3 c4 c5 c6 da db dS iv
   rw [aa]
   refine X1 1 (by kernel_rfl) q ?_
   refine zs (t := tI) (args := []) (xs := ([] : List Int)) iv (BltL.nil) u24 j3 q q q q q q (fun iw mo e6 => ?_)
   refine XN e6.chg ?_
   have ix := e6.p7.p7.p2.p7.p7.p7.p7.p7
   exact zu aa (cR c2 c3 c4 c5 c6 iw da db _ ix) (by kernel_rfl) ⟨q, q, q, q, q, q, q, q, q, q, trivial⟩
  have iy : ∀ (aT : Value) (dT : World), Holds M0 ae dT [.sl 3 tI aT ah] ([.bx b1 27 [A0, A1, A2, iV B3, A4], .bx b5 27 [nS, nS, nS, iV 0, nS], .sl 55 ty12 ab ad] ++ G) → af 6 (bitA 15 1759) [(1, pB b1), (2, pB b5), (40, ab), (44, aT), (47, A2), (50, iV B3)] dT := by
   intro aT dT dU
   rw [aa]
   refine zy [5, 11, 13] (by kernel_rfl) (by simp) (allc ?_ (allc ?_ (allc ?_ alln)))
   ·refine XC_do q ?_
    refine zs (t := tI) (args := []) (xs := ([] : List Int)) dU (BltL.nil) u24 j3 q q q q q q (fun iz mp e7 => ?_)
    refine XN e7.chg ?_
    have iA := e7.p1
    exact zu aa (eL aT iz _ iA) (by kernel_rfl) ⟨q, q, q, q, q, q, q, trivial⟩
   ·refine XC_do q ?_
    refine zs (t := ty14) (args := []) (xs := ([] : LT)) dU (BltL.nil) u25 j47 q q q q q q (fun iB mq e8 => ?_)
    refine XN e8.chg ?_
    have iC := e8.p1
    exact zu aa (eP aT iB _ iC) (by kernel_rfl) ⟨q, q, q, q, q, q, q, trivial⟩
   refine XC_do q ?_
   refine zq (cs := [nS, nS, nS, iV 0, nS]) dU z27 q q q (fun iD mr e9 => ?_)
   refine XN e9.chg ?_
   have iE := e9.nS 55 ty12
   have iF := iE.nS 3 tI
   have iG := iF.nS 3 tI
   have iH := iG.nS 47 ty14
   have iI := iH.p5.p1.p2.p3.p4.p5
   exact zu aa (eT iD (nS) (nS) (nS) (nS) aT _ iI) (by kernel_rfl) ⟨q, q, q, q, q, q, q, trivial⟩
  have fa : ∀ (bO : Value) (aU : Value) (dV : World), Holds M0 ae dV [.sl 3 tI bO ([]), .sl 3 tI aU ([])] ([.bx b1 27 [A0, A1, A2, iV B3, A4], .bx b5 27 [nS, nS, nS, iV 0, nS], .sl 55 ty12 ab ad] ++ G) → af 6 (bitA 15 1775) [(1, pB b1), (2, pB b5), (40, ab), (41, bO), (43, A1), (45, aU), (47, A2), (50, iV B3)] dV := by
   intro bO aU dV dW
   rw [aa]
   refine zy [4, 11, 13] (by kernel_rfl) (by simp) (allc ?_ (allc ?_ (allc ?_ alln)))
   ·refine XC_do q ?_
    refine zw dW (C1.c.c.c.c.c) ax u24 j3 q q q q q q (fun iJ ms fb => ?_)
    refine XN fb.chg ?_
    have iK := fb.p1.p1
    exact zu aa (eL iJ aU _ iK) (by kernel_rfl) ⟨q, q, q, q, q, q, q, trivial⟩
   ·refine XC_do q ?_
    refine zs (t := ty14) (args := []) (xs := ([] : LT)) dW (BltL.nil) u25 j47 q q q q q q (fun iL mt fc => ?_)
    refine XN fc.chg ?_
    have iM := fc.p2.p2
    exact zu aa (dL bO aU iL _ iM) (by kernel_rfl) ⟨q, q, q, q, q, q, q, q, q, trivial⟩
   refine XC_do q ?_
   refine zq (cs := [nS, nS, nS, iV 0, nS]) dW z27 q q q (fun iN mu fd => ?_)
   refine XN fd.chg ?_
   have iO := fd.nS 55 ty12
   have iP := iO.nS 3 tI
   have iQ := iP.nS 3 tI
   have iR := iQ.nS 47 ty14
   have iS := iR.p6.p6.p2.p3.p4.p5.p6
   exact zu aa (dN iN (nS) (nS) (nS) (nS) bO aU _ iS) (by kernel_rfl) ⟨q, q, q, q, q, q, q, q, q, trivial⟩
  have fe : ∀ (bP : Value) (aV : Value) (dX : World), Holds M0 ae dX [.sl 3 tI bP ([]), .sl 47 ty14 aV ([])] ([.bx b1 27 [A0, A1, A2, iV B3, A4], .bx b5 27 [nS, nS, nS, iV 0, nS], .sl 55 ty12 ab ad] ++ G) → af 6 (bitA 15 3791) [(1, pB b1), (2, pB b5), (40, ab), (41, bP), (43, A1), (47, A2), (50, iV B3), (51, aV)] dX := by
   intro bP aV dX dY
   rw [aa]
   refine zy [4, 5, 13] (by kernel_rfl) (by simp) (allc ?_ (allc ?_ (allc ?_ alln)))
   ·refine XC_do q ?_
    refine zw dY (C1.c.c.c.c.c) ax u24 j3 q q q q q q (fun iT mv ff => ?_)
    refine XN ff.chg ?_
    have iU := ff.p1.p1
    exact zu aa (eP iT aV _ iU) (by kernel_rfl) ⟨q, q, q, q, q, q, q, trivial⟩
   ·refine XC_do q ?_
    refine zs (t := tI) (args := []) (xs := ([] : List Int)) dY (BltL.nil) u24 j3 q q q q q q (fun iW mw fg => ?_)
    refine XN fg.chg ?_
    have iX := fg.p2.p1.p2
    exact zu aa (dL bP iW aV _ iX) (by kernel_rfl) ⟨q, q, q, q, q, q, q, q, q, trivial⟩
   refine XC_do q ?_
   refine zq (cs := [nS, nS, nS, iV 0, nS]) dY z27 q q q (fun iY mx fh => ?_)
   refine XN fh.chg ?_
   have iZ := fh.nS 55 ty12
   have i0 := iZ.nS 3 tI
   have i1 := i0.nS 3 tI
   have i2 := i1.nS 47 ty14
   have i4 := i2.p6.p6.p2.p3.p4.p5.p6
   exact zu aa (dP iY (nS) (nS) (nS) (nS) bP aV _ i4) (by kernel_rfl) ⟨q, q, q, q, q, q, q, q, q, trivial⟩
  have fi : ∀ (aW : Nat) (aX : Value) (aY : Value) (aZ : Value) (a0 : Value) (bQ : Value) (dZ : World), Holds M0 ae dZ [.bx aW 27 [aX, aY, aZ, iV 0, a0], .sl 55 ty12 aX ([]), .sl 3 tI aY ([]), .sl 3 tI aZ ([]), .sl 47 ty14 a0 ([]), .sl 3 tI bQ ([])] ([.bx b1 27 [A0, A1, A2, iV B3, A4], .bx b5 27 [nS, nS, nS, iV 0, nS], .sl 55 ty12 ab ad] ++ G) → af 6 (bitA 15 9935) [(1, pB b1), (2, pB b5), (5, pB aW), (40, ab), (41, bQ), (43, A1), (47, A2), (50, iV B3)] dZ := by
   intro aW aX aY aZ a0 bQ dZ d0
   rw [aa]
   refine zy [4, 5, 11] (by kernel_rfl) (by simp) (allc ?_ (allc ?_ (allc ?_ alln)))
   ·refine XC_do q ?_
    have i6 := d0.p5
    refine zw i6 (C1.c.c.c.c.c.c.c.c.c) ax u24 j3 q q q q q q (fun i7 my fj => ?_)
    refine XN fj.chg ?_
    have i8 := fj.p5.p5.p5.p5.p5
    exact zu aa (eT aW aX aY aZ a0 i7 _ i8) (by kernel_rfl) ⟨q, q, q, q, q, q, q, trivial⟩
   ·refine XC_do q ?_
    refine zs (t := tI) (args := []) (xs := ([] : List Int)) d0 (BltL.nil) u24 j3 q q q q q q (fun i9 mz fk => ?_)
    refine XN fk.chg ?_
    have ja := fk.p6.p6.p6.p6.p6.p6
    exact zu aa (dN aW aX aY aZ a0 bQ i9 _ ja) (by kernel_rfl) ⟨q, q, q, q, q, q, q, q, q, trivial⟩
   refine XC_do q ?_
   refine zs (t := ty14) (args := []) (xs := ([] : LT)) d0 (BltL.nil) u25 j47 q q q q q q (fun jb mA fl => ?_)
   refine XN fl.chg ?_
   have jc := fl.p6.p6.p6.p6.p6.p6
   exact zu aa (dP aW aX aY aZ a0 bQ jb _ jc) (by kernel_rfl) ⟨q, q, q, q, q, q, q, q, q, trivial⟩
  have fm : ∀ (bR : Value) (bS : Value) (d1 : World), Holds M0 ae d1 [.sl 3 tI bR ([]), .sl 47 ty14 bS ([])] ([.bx b1 27 [A0, A1, A2, iV B3, A4], .bx b5 27 [nS, nS, nS, iV 0, nS], .sl 55 ty12 ab ad] ++ G) → af 6 (bitA 15 3821) [(1, pB b1), (2, pB b5), (40, ab), (43, A1), (45, bR), (47, A2), (50, iV B3), (51, bS)] d1 := by
   intro bR bS d1 fn
   rw [aa]
   refine zy [1, 13] (by kernel_rfl) (by simp) (allc ?_ (allc ?_ alln))
   ·refine XC_do q ?_
    refine zs (t := tI) (args := []) (xs := ([] : List Int)) fn (BltL.nil) u24 j3 q q q q q q (fun jd mB fo => ?_)
    refine XN fo.chg ?_
    have je := fo.p2.p2.p2
    exact zu aa (dL jd bR bS _ je) (by kernel_rfl) ⟨q, q, q, q, q, q, q, q, q, trivial⟩
   refine XC_do q ?_
   refine zq (cs := [nS, nS, nS, iV 0, nS]) fn z27 q q q (fun jf mC fp => ?_)
   refine XN fp.chg ?_
   have jg := fp.nS 55 ty12
   have jh := jg.nS 3 tI
   have ji := jh.nS 3 tI
   have jj := ji.nS 47 ty14
   have jk := jj.p6.p6.p2.p3.p4.p5.p6
   exact zu aa (dR jf (nS) (nS) (nS) (nS) bR bS _ jk) (by kernel_rfl) ⟨q, q, q, q, q, q, q, q, q, trivial⟩
  have fq : ∀ (bT : Nat) (bU : Value) (bV : Value) (bW : Value) (bX : Value) (bY : Value) (d2 : World), Holds M0 ae d2 [.bx bT 27 [bU, bV, bW, iV 0, bX], .sl 55 ty12 bU ([]), .sl 3 tI bV ([]), .sl 3 tI bW ([]), .sl 47 ty14 bX ([]), .sl 3 tI bY ([])] ([.bx b1 27 [A0, A1, A2, iV B3, A4], .bx b5 27 [nS, nS, nS, iV 0, nS], .sl 55 ty12 ab ad] ++ G) → af 6 (bitA 15 9965) [(1, pB b1), (2, pB b5), (5, pB bT), (40, ab), (43, A1), (45, bY), (47, A2), (50, iV B3)] d2 := by
   intro bT bU bV bW bX bY d2 fr
   rw [aa]
   refine zy [1, 11] (by kernel_rfl) (by simp) (allc ?_ (allc ?_ alln))
   ·refine XC_do q ?_
    refine zs (t := tI) (args := []) (xs := ([] : List Int)) fr (BltL.nil) u24 j3 q q q q q q (fun jl mD fs => ?_)
    refine XN fs.chg ?_
    have jm := fs.p6.p1.p6.p6.p6.p6.p6
    exact zu aa (dN bT bU bV bW bX jl bY _ jm) (by kernel_rfl) ⟨q, q, q, q, q, q, q, q, q, trivial⟩
   refine XC_do q ?_
   refine zs (t := ty14) (args := []) (xs := ([] : LT)) fr (BltL.nil) u25 j47 q q q q q q (fun jn mE ft => ?_)
   refine XN ft.chg ?_
   have jo := ft.p6.p6.p6.p6.p6.p6
   exact zu aa (dR bT bU bV bW bX bY jn _ jo) (by kernel_rfl) ⟨q, q, q, q, q, q, q, q, q, trivial⟩
  have fu : ∀ (bZ : Nat) (b0 : Value) (b4 : Value) (b6 : Value) (b7 : Value) (b8 : Value) (d3 : World), Holds M0 ae d3 [.bx bZ 27 [b0, b4, b6, iV 0, b7], .sl 55 ty12 b0 ([]), .sl 3 tI b4 ([]), .sl 3 tI b6 ([]), .sl 47 ty14 b7 ([]), .sl 47 ty14 b8 ([])] ([.bx b1 27 [A0, A1, A2, iV B3, A4], .bx b5 27 [nS, nS, nS, iV 0, nS], .sl 55 ty12 ab ad] ++ G) → af 6 (bitA 15 11981) [(1, pB b1), (2, pB b5), (5, pB bZ), (40, ab), (43, A1), (47, A2), (50, iV B3), (51, b8)] d3 := by
   intro bZ b0 b4 b6 b7 b8 d3 fv
   rw [aa]
   refine zy [1, 5] (by kernel_rfl) (by simp) (allc ?_ (allc ?_ alln))
   ·refine XC_do q ?_
    refine zs (t := tI) (args := []) (xs := ([] : List Int)) fv (BltL.nil) u24 j3 q q q q q q (fun jp mF fw => ?_)
    refine XN fw.chg ?_
    have jq := fw.p6.p1.p6.p6.p6.p6.p6
    exact zu aa (dP bZ b0 b4 b6 b7 jp b8 _ jq) (by kernel_rfl) ⟨q, q, q, q, q, q, q, q, q, trivial⟩
   refine XC_do q ?_
   refine zs (t := tI) (args := []) (xs := ([] : List Int)) fv (BltL.nil) u24 j3 q q q q q q (fun jr mG fx => ?_)
   refine XN fx.chg ?_
   have js := fx.p6.p1.p6.p6.p6.p6.p6
   exact zu aa (dR bZ b0 b4 b6 b7 jr b8 _ js) (by kernel_rfl) ⟨q, q, q, q, q, q, q, q, q, trivial⟩
  have jt : ∀ (a1 : Value) (d4 : World), Holds M0 ae d4 [.sl 3 tI a1 ([])] ([.bx b1 27 [A0, A1, A2, iV B3, A4], .bx b5 27 [nS, nS, nS, iV 0, nS], .sl 55 ty12 ab ad] ++ G) → af 7 (bitA 15 1743) [(1, pB b1), (2, pB b5), (40, ab), (41, a1), (43, A1), (47, A2), (50, iV B3)] d4 := by
   intro a1 d4 dc
   rw [aa]
   refine zy [4, 5, 11, 13] (by kernel_rfl) (by simp) (allc ?_ (allc ?_ (allc ?_ (allc ?_ alln))))
   ·refine XC_do q ?_
    refine zw dc (C1.c.c.c.c) ax u24 j3 q q q q q q (fun ju mH fy => ?_)
    refine XN fy.chg ?_
    exact zu aa (iy ju _ fy) (by kernel_rfl) ⟨q, q, q, q, q, q, trivial⟩
   ·refine XC_do q ?_
    refine zs (t := tI) (args := []) (xs := ([] : List Int)) dc (BltL.nil) u24 j3 q q q q q q (fun jv mI fz => ?_)
    refine XN fz.chg ?_
    have jw := fz.p1
    exact zu aa (fa a1 jv _ jw) (by kernel_rfl) ⟨q, q, q, q, q, q, q, q, trivial⟩
   ·refine XC_do q ?_
    refine zs (t := ty14) (args := []) (xs := ([] : LT)) dc (BltL.nil) u25 j47 q q q q q q (fun jx mJ fA => ?_)
    refine XN fA.chg ?_
    have jy := fA.p1
    exact zu aa (fe a1 jx _ jy) (by kernel_rfl) ⟨q, q, q, q, q, q, q, q, trivial⟩
   refine XC_do q ?_
   refine zq (cs := [nS, nS, nS, iV 0, nS]) dc z27 q q q (fun jz mK fB => ?_)
   refine XN fB.chg ?_
   have jA := fB.nS 55 ty12
   have jB := jA.nS 3 tI
   have jC := jB.nS 3 tI
   have jD := jC.nS 47 ty14
   have jE := jD.p5.p1.p2.p3.p4.p5
   exact zu aa (fi jz (nS) (nS) (nS) (nS) a1 _ jE) (by kernel_rfl) ⟨q, q, q, q, q, q, q, q, trivial⟩
  have jF : ∀ (a2 : Value) (d5 : World), Holds M0 ae d5 [.sl 3 tI a2 ([])] ([.bx b1 27 [A0, A1, A2, iV B3, A4], .bx b5 27 [nS, nS, nS, iV 0, nS], .sl 55 ty12 ab ad] ++ G) → af 7 (bitA 15 1773) [(1, pB b1), (2, pB b5), (40, ab), (43, A1), (45, a2), (47, A2), (50, iV B3)] d5 := by
   intro a2 d5 d6
   rw [aa]
   refine zy [1, 11, 13] (by kernel_rfl) (by simp) (allc ?_ (allc ?_ (allc ?_ alln)))
   ·refine XC_do q ?_
    refine zs (t := tI) (args := []) (xs := ([] : List Int)) d6 (BltL.nil) u24 j3 q q q q q q (fun jG mL fC => ?_)
    refine XN fC.chg ?_
    have jH := fC.p1.p1
    exact zu aa (fa jG a2 _ jH) (by kernel_rfl) ⟨q, q, q, q, q, q, q, q, trivial⟩
   ·refine XC_do q ?_
    refine zs (t := ty14) (args := []) (xs := ([] : LT)) d6 (BltL.nil) u25 j47 q q q q q q (fun jI mM fD => ?_)
    refine XN fD.chg ?_
    have jJ := fD.p1
    exact zu aa (fm a2 jI _ jJ) (by kernel_rfl) ⟨q, q, q, q, q, q, q, q, trivial⟩
   refine XC_do q ?_
   refine zq (cs := [nS, nS, nS, iV 0, nS]) d6 z27 q q q (fun jK mN fE => ?_)
   refine XN fE.chg ?_
   have jL := fE.nS 55 ty12
   have jM := jL.nS 3 tI
   have jN := jM.nS 3 tI
   have jO := jN.nS 47 ty14
   have jP := jO.p5.p1.p2.p3.p4.p5
   exact zu aa (fq jK (nS) (nS) (nS) (nS) a2 _ jP) (by kernel_rfl) ⟨q, q, q, q, q, q, q, q, trivial⟩
  have jQ : ∀ (a3 : Value) (d7 : World), Holds M0 ae d7 [.sl 47 ty14 a3 ([])] ([.bx b1 27 [A0, A1, A2, iV B3, A4], .bx b5 27 [nS, nS, nS, iV 0, nS], .sl 55 ty12 ab ad] ++ G) → af 7 (bitA 15 3789) [(1, pB b1), (2, pB b5), (40, ab), (43, A1), (47, A2), (50, iV B3), (51, a3)] d7 := by
   intro a3 d7 d8
   rw [aa]
   refine zy [1, 5, 13] (by kernel_rfl) (by simp) (allc ?_ (allc ?_ (allc ?_ alln)))
   ·refine XC_do q ?_
    refine zs (t := tI) (args := []) (xs := ([] : List Int)) d8 (BltL.nil) u24 j3 q q q q q q (fun jR mO fF => ?_)
    refine XN fF.chg ?_
    have jS := fF.p1.p1
    exact zu aa (fe jR a3 _ jS) (by kernel_rfl) ⟨q, q, q, q, q, q, q, q, trivial⟩
   ·refine XC_do q ?_
    refine zs (t := tI) (args := []) (xs := ([] : List Int)) d8 (BltL.nil) u24 j3 q q q q q q (fun jT mP fG => ?_)
    refine XN fG.chg ?_
    have jU := fG.p1.p1
    exact zu aa (fm jT a3 _ jU) (by kernel_rfl) ⟨q, q, q, q, q, q, q, q, trivial⟩
   refine XC_do q ?_
   refine zq (cs := [nS, nS, nS, iV 0, nS]) d8 z27 q q q (fun jV mQ fH => ?_)
   refine XN fH.chg ?_
   have jW := fH.nS 55 ty12
   have jX := jW.nS 3 tI
   have jY := jX.nS 3 tI
   have jZ := jY.nS 47 ty14
   have j0 := jZ.p5.p1.p2.p3.p4.p5
   exact zu aa (fu jV (nS) (nS) (nS) (nS) a3 _ j0) (by kernel_rfl) ⟨q, q, q, q, q, q, q, q, trivial⟩
  have j1 : ∀ (a4 : Nat) (a5 : Value) (a6 : Value) (a7 : Value) (a8 : Value) (d9 : World), Holds M0 ae d9 [.bx a4 27 [a5, a6, a7, iV 0, a8], .sl 55 ty12 a5 ([]), .sl 3 tI a6 ([]), .sl 3 tI a7 ([]), .sl 47 ty14 a8 ([])] ([.bx b1 27 [A0, A1, A2, iV B3, A4], .bx b5 27 [nS, nS, nS, iV 0, nS], .sl 55 ty12 ab ad] ++ G) → af 7 (bitA 15 9933) [(1, pB b1), (2, pB b5), (5, pB a4), (40, ab), (43, A1), (47, A2), (50, iV B3)] d9 := by
   intro a4 a5 a6 a7 a8 d9 ea
   rw [aa]
   refine zy [1, 5, 11] (by kernel_rfl) (by simp) (allc ?_ (allc ?_ (allc ?_ alln)))
   ·refine XC_do q ?_
    refine zs (t := tI) (args := []) (xs := ([] : List Int)) ea (BltL.nil) u24 j3 q q q q q q (fun j2 mR fI => ?_)
    refine XN fI.chg ?_
    have j4 := fI.p5.p5.p5.p5.p5
    exact zu aa (fi a4 a5 a6 a7 a8 j2 _ j4) (by kernel_rfl) ⟨q, q, q, q, q, q, q, q, trivial⟩
   ·refine XC_do q ?_
    refine zs (t := tI) (args := []) (xs := ([] : List Int)) ea (BltL.nil) u24 j3 q q q q q q (fun j5 mS fJ => ?_)
    refine XN fJ.chg ?_
    have j6 := fJ.p5.p5.p5.p5.p5
    exact zu aa (fq a4 a5 a6 a7 a8 j5 _ j6) (by kernel_rfl) ⟨q, q, q, q, q, q, q, q, trivial⟩
   refine XC_do q ?_
   refine zs (t := ty14) (args := []) (xs := ([] : LT)) ea (BltL.nil) u25 j47 q q q q q q (fun j7 mT fK => ?_)
   refine XN fK.chg ?_
   have j8 := fK.p5.p5.p5.p5.p5
   exact zu aa (fu a4 a5 a6 a7 a8 j7 _ j8) (by kernel_rfl) ⟨q, q, q, q, q, q, q, q, trivial⟩
  rw [aa]
  refine zy [1, 5, 11, 13] (by kernel_rfl) (by simp) (allc ?_ (allc ?_ (allc ?_ (allc ?_ alln))))
  ·refine XC_do q ?_
   refine zs (t := tI) (args := []) (xs := ([] : List Int)) an (BltL.nil) u24 j3 q q q q q q (fun j9 mU fL => ?_)
   refine XN fL.chg ?_
   exact zu aa (jt j9 _ fL) (by kernel_rfl) ⟨q, q, q, q, q, q, q, trivial⟩
  ·refine XC_do q ?_
   refine zs (t := tI) (args := []) (xs := ([] : List Int)) an (BltL.nil) u24 j3 q q q q q q (fun ka mV fM => ?_)
   refine XN fM.chg ?_
   exact zu aa (jF ka _ fM) (by kernel_rfl) ⟨q, q, q, q, q, q, q, trivial⟩
  ·refine XC_do q ?_
   refine zs (t := ty14) (args := []) (xs := ([] : LT)) an (BltL.nil) u25 j47 q q q q q q (fun kb mW fN => ?_)
   refine XN fN.chg ?_
   exact zu aa (jQ kb _ fN) (by kernel_rfl) ⟨q, q, q, q, q, q, q, trivial⟩
  refine XC_do q ?_
  refine zq (cs := [nS, nS, nS, iV 0, nS]) an z27 q q q (fun kc mX fO => ?_)
  refine XN fO.chg ?_
  have kd := fO.nS 55 ty12
  have ke := kd.nS 3 tI
  have kf := ke.nS 3 tI
  have kg := kf.nS 47 ty14
  have kh := kg.p1.p2.p3.p4
  exact zu aa (j1 kc (nS) (nS) (nS) (nS) _ kh) (by kernel_rfl) ⟨q, q, q, q, q, q, q, trivial⟩
 intro a mY ki
 obtain ⟨au, aj, ak, al, cl, ha, kj⟩ := ki
 refine S ?_ ha
 clear ha
 refine C <| rR <| qA q q q <| B <| g ?_
 obtain ⟨fP, kk, h⟩ := D h
 have kl := kj.p6.p6.p6.p6.p6.p6.p6
 refine fun km fQ => zp (I := fun s a w2 => match s with | (eb, aK) => ∃ av, Fr a 82 [(1, pB b1), (2, pB b5), (5, pB au), (6, iV eb)] ∧ Holds M0 w w2 [.bx b1 27 [A0, A1, A2, iV B3, A4], .bx b5 27 [nS, nS, nS, iV 0, nS], .bx au 27 [aj, ak, al, iV B3, av], .sl 55 ty12 aj ad, .sl 3 tI ak ah, .sl 3 tI al aq, .sl 47 ty14 av aK] G) (O := fun o e a w2 => match o with | q0 => e = .exit 2 ∧ ∃ bb, Fr a 82 [(2, pB b5), (5, pB au)] ∧ Holds M0 w w2 [.bx b5 27 [nS, nS, nS, iV 0, nS], .bx au 27 [aj, ak, al, iV B3, bb], .sl 55 ty12 aj ad, .sl 3 tI ak ah, .sl 3 tI al aq, .sl 47 ty14 bb q0] G) kk ?_ ?_ ?_
 ·exact ⟨cl, fQ.sub ⟨q, q, q, q, trivial⟩, kl⟩
 ·clear fQ
  intro s mZ a kn ap ko
  obtain ⟨eb, aK⟩ := s
  obtain ⟨av, ha, a9⟩ := ko
  refine S ?_ ha
  clear ha
  refine C <| rR <| qM q q q <| qF uf27 fi27_4 nz25 q q q ?_
  have kp := R a9.p0
  refine l u25 q kp q q q q <| za a9.ctx (t := ty14) (C4.c.c.c.c.c.c.c) u25 q q q <| A q (qt_lss q q) q q <| B ?_
  refine Y q (fun ec => ?_) (fun ec => ?_)
  ·have ap := if_t ec ap
   refine y <| C <| g <| rR <| qF uf27 fi27_4 nz25 q q q ?_
   have kq := R a9.p0
   refine l u25 q kq q q q q <| qM q q q ?_
   obtain ⟨ai, fR, ap⟩ := D ap
   refine b a9.ctx (C4.c.c.c.c.c.c.c) fR u25 i47 q q q q (fun m0 m1 m2 kr => ?_)
   obtain ⟨m3, ks, kt⟩ := a9.atN (C4.c.c.c.c.c.c.c) fR kr
   refine XL_load_agg (t := ty14) us47 uo47 i47 ks q q q (fun m4 ku => ?_)
   obtain ⟨m5, m6, m7, m8, rfl, fS, kv, kw⟩ := ku
   obtain ⟨rfl, _⟩ := kv
   obtain ⟨m9, na, nb, nc, rfl, fT, kx, ky⟩ := kw
   obtain ⟨ay, rfl, kz⟩ := Rep.sl_inv kx
   obtain ⟨az, rfl, kA⟩ := Rep.sl_inv ky
   have kB : Holds _ w kn [.ro ty2 ay ai.2.1, .ro tI az ai.2.2, .bx b1 27 [A0, A1, A2, iV B3, A4], .bx b5 27 [nS, nS, nS, iV 0, nS], .bx au 27 [aj, ak, al, iV B3, av], .sl 55 ty12 aj ad, .sl 3 tI ak ah, .sl 3 tI al aq, .sl 47 ty14 av aK] G := kt [.ro ty2 ay ai.2.1, .ro tI az ai.2.2] ⟨⟨_, _, _, _, q, kz, (fun k h => (fun k h => (fun _ h => h) k (by rw [fS]; exact zx _ h)) k (by rw [fT]; exact List.mem_append_left _ h))⟩, ⟨_, _, _, _, q, kA, (fun k h => (fun k h => (fun _ h => h) k (by rw [fS]; exact zx _ h)) k (by rw [fT]; exact zx _ h))⟩, trivial⟩
   change XL _ _ _ _ _ ((64, .agg #[iV ai.1, ay, az]) :: _) _
   refine zq (cs := [iV 0, nS, nS]) kB z47 q q q (fun fU nd ed => ?_)
   refine zl (cs' := [iV ai.1, ay, az]) ed q il47 q (T q (T (ed.ctx.sliceOne hR1) (T (ed.ctx.sliceOne hR2) q))) q q q (fun ne kC => ?_)
   refine B ?_
   obtain ⟨ee, ef, ap⟩ := D ap
   obtain ⟨eg, eh, ap⟩ := D ap
   obtain ⟨kD, ei, ap⟩ := D ap
   refine WP_mid (Mid := fun a w2 => ∃ dd, Fr a 82 [(1, pB b1), (2, pB b5), (5, pB au), (6, iV eb)] ∧ Holds M0 w w2 [.bx b1 27 [A0, A1, A2, iV B3, A4], .bx b5 27 [nS, nS, nS, iV 0, nS], .bx au 27 [aj, ak, al, iV B3, dd], .sl 55 ty12 aj ad, .sl 3 tI ak ah, .sl 3 tI al aq, .sl 47 ty14 dd kD] G) ?_ ?_
   ·refine WP_ordersT (fun w1 w2 => Chg (([.sl 47 ty14 av aK] : List Res).flatMap Res.own) w1 w2) 15 (by kernel_rfl) (fun ej kE => ?_)
    have kF := kC.grow kE
    have de := kF.p9
    have b9 : Ctx ej ([.sl 47 ty14 av aK] ++ ([.bx fU 47 [iV ai.1, ay, az], .ro ty2 ay ai.2.1, .ro tI az ai.2.2, .bx b1 27 [A0, A1, A2, iV B3, A4], .bx b5 27 [nS, nS, nS, iV 0, nS], .bx au 27 [aj, ak, al, iV B3, av], .sl 55 ty12 aj ad, .sl 3 tI ak ah, .sl 3 tI al aq] ++ G)) := de.ctx
    have am : Holds _ ej ej [.sl 47 ty14 av aK] ([.bx fU 47 [iV ai.1, ay, az], .ro ty2 ay ai.2.1, .ro tI az ai.2.2, .bx b1 27 [A0, A1, A2, iV B3, A4], .bx b5 27 [nS, nS, nS, iV 0, nS], .bx au 27 [aj, ak, al, iV B3, av], .sl 55 ty12 aj ad, .sl 3 tI ak ah, .sl 3 tI al aq] ++ G) := zb (Rs := [.sl 47 ty14 av aK]) b9
    refine XQ (i := 0) q (by kernel_rfl) q am.chg q (fun _ => qt_fieldAddr uf27 fi27_4 nz25 q) q q ?_
    have kG := HasB.bx (HasB.c (HasB.c (HasB.c (HasB.c (HasB.c (HasB.c (HasB.hd))))))) am.ctx
    refine XT (i := 1) q (by kernel_rfl) q am.chg q (qs_cell u25 q q (kG.cell (i := 4) q) am.chg (Ctx.outB b9 (HasB.c (HasB.c (HasB.c (HasB.c (HasB.c (HasB.hd)))))))) q q <| XQ (i := 2) q (by kernel_rfl) q am.chg q (fun _ => qt_fieldAddr uf47 fi47_0 nz3 q) q q ?_
    have kH := HasB.bx (HasB.c (HasB.hd)) am.ctx
    refine XT (i := 3) q (by kernel_rfl) q am.chg q (qs_cell u3 q q (kH.cell (i := 0) q) am.chg (Ctx.outB b9 (HasB.hd))) q q <| XQ (i := 5) q (by kernel_rfl) q am.chg q (fun _ => qt_fieldAddr uf47 fi47_1 nz45 q) q q ?_
    have kI := HasB.bx (HasB.c (HasB.hd)) am.ctx
    refine XT (i := 6) q (by kernel_rfl) q am.chg q (qs_cell u45 q q (kI.cell (i := 1) q) am.chg (Ctx.outB b9 (HasB.hd))) q q <| XQ (i := 9) q (by kernel_rfl) q am.chg q (fun _ => qt_fieldAddr uf47 fi47_2 nz24 q) q q ?_
    have kJ := HasB.bx (HasB.c (HasB.hd)) am.ctx
    refine XT (i := 10) q (by kernel_rfl) q am.chg q (qs_cell u24 q q (kJ.cell (i := 2) q) am.chg (Ctx.outB b9 (HasB.hd))) q q ?_
    refine zy [4, 8] (by kernel_rfl) (by simp) (allc ?_ (allc ?_ alln))
    ·refine XC_do q ?_
     refine zs (t := ty2) (args := []) (xs := ([] : LP)) am (BltL.nil) u45 j49 q q q q q q (fun nf ng ek => ?_)
     refine XN ek.chg ?_
     refine zy [7, 8] (by kernel_rfl) (by simp) (allc ?_ (allc ?_ alln))
     ·refine XC_do q ?_
      refine zw ek hR3 ef u45 j49 q q q q q q (fun fV nh fW => ?_)
      refine XN fW.chg <| X1 8 (by kernel_rfl) q ?_
      refine zs (t := tI) (args := []) (xs := ([] : List Int)) fW (BltL.nil) u24 j3 q q q q q q (fun ni nj fX => ?_)
      refine XN fX.chg <| X1 11 (by kernel_rfl) q ?_
      refine zw fX hR5 eh u24 j3 q q q q q q (fun fY nk ca => ?_)
      refine XN ca.chg <| XQ (i := 12) q (by kernel_rfl) q ca.chg q (fun _ => qt_build (args := [(0, .tmp 68), (1, .tmp 72), (2, .tmp 76)]) (css := [#[iV ai.1], #[fV], #[fY]]) (cells := #[iV ai.1, fV, fY]) q ⟨q, (ca.ctx.sliceCells hS1), (ca.ctx.sliceCells hS0), trivial⟩ (by kernel_rfl)) q q <| X1 13 (by kernel_rfl) q ?_
      have kK := ca.p1
      have kL := kK.freeze
      have kM := kL.p1
      have kN := kM.freeze
      refine zs (t := ty14) (args := [.tmp 77]) (xs := ([(ai.1, ee, eg)] : LT)) kN (BltL.cons (Blt.pair (Blt.int) (Blt.pair (Blt.slice hO1) (Blt.slice hO0))) q (BltL.nil)) u25 j47 q q q q q q (fun nl nm fZ => ?_)
      refine XN fZ.chg <| X1 14 (by kernel_rfl) q ?_
      have kO := fZ.p3
      refine zw kO hS1 ei u25 j47 q q q q q q (fun kP nn f0 => ?_)
      refine XN f0.chg ?_
      have kQ := de.cN4 [_] f0
      refine X1 15 (by kernel_rfl) q <| qF uf27 fi27_4 nz25 q q q <| XE q <| X1 16 (by kernel_rfl) q ?_
      have el := kQ.p9
      refine WL_store_bx el q il25 (el.ctx.sliceCells hS1) (el.ctx.sliceOne hS1) q q q (fun np kR => ?_)
      refine XE q ?_
      refine XC_done (by kernel_rfl) (fun a ha => ?_)
      have kS := kR.q2.q2.q2.q2.q2.q2.p1.p6.p6.p6.p4.p6.p6
      exact ⟨kP, ha.sub ⟨q, q, q, q, trivial⟩, kS⟩
     refine XC_do q ?_
     refine zs (t := tI) (args := []) (xs := ([] : List Int)) ek (BltL.nil) u24 j3 q q q q q q (fun nq nr f1 => ?_)
     refine XN f1.chg <| X1 7 (by kernel_rfl) q ?_
     have kT := f1.p1
     refine zw kT hR4 ef u45 j49 q q q q q q (fun f2 nu f3 => ?_)
     refine XN f3.chg <| X1 11 (by kernel_rfl) q ?_
     have kU := f3.p1
     refine zw kU hR5 eh u24 j3 q q q q q q (fun f4 nv cb => ?_)
     refine XN cb.chg <| XQ (i := 12) q (by kernel_rfl) q cb.chg q (fun _ => qt_build (args := [(0, .tmp 68), (1, .tmp 72), (2, .tmp 76)]) (css := [#[iV ai.1], #[f2], #[f4]]) (cells := #[iV ai.1, f2, f4]) q ⟨q, (cb.ctx.sliceCells hS1), (cb.ctx.sliceCells hS0), trivial⟩ (by kernel_rfl)) q q <| X1 13 (by kernel_rfl) q ?_
     have kV := cb.p1
     have kW := kV.freeze
     have kX := kW.p1
     have kY := kX.freeze
     refine zs (t := ty14) (args := [.tmp 77]) (xs := ([(ai.1, ee, eg)] : LT)) kY (BltL.cons (Blt.pair (Blt.int) (Blt.pair (Blt.slice hO1) (Blt.slice hO0))) q (BltL.nil)) u25 j47 q q q q q q (fun nw nx f5 => ?_)
     refine XN f5.chg <| X1 14 (by kernel_rfl) q ?_
     have kZ := f5.p3
     refine zw kZ hS1 ei u25 j47 q q q q q q (fun k0 ny f6 => ?_)
     refine XN f6.chg ?_
     have k1 := de.cN4 [_] f6
     refine X1 15 (by kernel_rfl) q <| qF uf27 fi27_4 nz25 q q q <| XE q <| X1 16 (by kernel_rfl) q ?_
     have em := k1.p9
     refine WL_store_bx em q il25 (em.ctx.sliceCells hS1) (em.ctx.sliceOne hS1) q q q (fun nz k2 => ?_)
     refine XE q ?_
     refine XC_done (by kernel_rfl) (fun a ha => ?_)
     have k3 := k2.q2.q2.q2.q2.q2.q2.p1.p6.p6.p6.p4.p6.p6
     exact ⟨k0, ha.sub ⟨q, q, q, q, trivial⟩, k3⟩
    refine XC_do q ?_
    refine zs (t := tI) (args := []) (xs := ([] : List Int)) am (BltL.nil) u24 j3 q q q q q q (fun nA nB f7 => ?_)
    refine XN f7.chg <| X1 4 (by kernel_rfl) q ?_
    refine zs (t := ty2) (args := []) (xs := ([] : LP)) f7 (BltL.nil) u45 j49 q q q q q q (fun nC nE f8 => ?_)
    refine XN f8.chg <| X1 7 (by kernel_rfl) q ?_
    refine zw f8 hR4 ef u45 j49 q q q q q q (fun f9 nF ga => ?_)
    refine XN ga.chg <| X1 11 (by kernel_rfl) q ?_
    have k4 := ga.p1
    refine zw k4 hR5 eh u24 j3 q q q q q q (fun gb nG cc => ?_)
    refine XN cc.chg <| XQ (i := 12) q (by kernel_rfl) q cc.chg q (fun _ => qt_build (args := [(0, .tmp 68), (1, .tmp 72), (2, .tmp 76)]) (css := [#[iV ai.1], #[f9], #[gb]]) (cells := #[iV ai.1, f9, gb]) q ⟨q, (cc.ctx.sliceCells hS1), (cc.ctx.sliceCells hS0), trivial⟩ (by kernel_rfl)) q q <| X1 13 (by kernel_rfl) q ?_
    have k5 := cc.p1
    have k6 := k5.freeze
    have k7 := k6.p1
    have k8 := k7.freeze
    refine zs (t := ty14) (args := [.tmp 77]) (xs := ([(ai.1, ee, eg)] : LT)) k8 (BltL.cons (Blt.pair (Blt.int) (Blt.pair (Blt.slice hO1) (Blt.slice hO0))) q (BltL.nil)) u25 j47 q q q q q q (fun nH nI gc => ?_)
    refine XN gc.chg <| X1 14 (by kernel_rfl) q ?_
    have k9 := gc.p3
    refine zw k9 hS1 ei u25 j47 q q q q q q (fun la nJ gd => ?_)
    refine XN gd.chg ?_
    have lb := de.cN4 [_] gd
    refine X1 15 (by kernel_rfl) q <| qF uf27 fi27_4 nz25 q q q <| XE q <| X1 16 (by kernel_rfl) q ?_
    have en := lb.p9
    refine WL_store_bx en q il25 (en.ctx.sliceCells hS1) (en.ctx.sliceOne hS1) q q q (fun nK lc => ?_)
    refine XE q ?_
    refine XC_done (by kernel_rfl) (fun a ha => ?_)
    have ld := lc.q2.q2.q2.q2.q2.q2.p1.p6.p6.p6.p4.p6.p6
    exact ⟨la, ha.sub ⟨q, q, q, q, trivial⟩, ld⟩
   intro a nL lf
   obtain ⟨dd, ha, lg⟩ := lf
   refine zi (X (S ?_ ha))
   refine Z <| qM q q q <| A q (qt_add q q) q q <| qA q q q <| WL_nil fun a ha => ?_
   obtain rfl := L ap
   have lh := lg.p6.p6.p6.p6.p6.p6.p6
   exact ⟨q, dd, ha.sub ⟨q, q, q, q, trivial⟩, lh⟩
  have ap := if_f ec ap
  refine WP_exit fun a ha => ?_
  obtain rfl := L ap
  have li := a9.q0.p5.p5.p5.p5.p5.p5
  exact zo (⟨exit_ne, q, av, ha.sub ⟨q, q, trivial⟩, li⟩)
 intro e km nM lj
 obtain ⟨nN, rfl⟩ : ∃ z, z = fP := ⟨fP, q⟩
 obtain ⟨rfl, ll⟩ := lj
 obtain ⟨cd, ha, ba⟩ := ll
 refine zn (X (S ?_ ha))
 refine C <| Z ?_
 have lm := R ba.p1
 refine zm (cs := [aj, ak, al, iV B3, cd]) us27 uo27 il27 lm q q q ?_
 change XL _ _ _ _ _ ((81, .agg #[aj, ak, al, iV B3, cd]) :: _) _
 refine zl (cs' := [aj, ak, al, iV B3, cd]) ba q il27 q (T (ba.ctx.sliceOne hS2) (T (ba.ctx.sliceOne hS3) (T (ba.ctx.sliceOne hS4) (T q (T (ba.ctx.sliceOne hS5) q))))) q q q (fun nO ge => ?_)
 refine B <| W fun a ha => ?_
 obtain rfl := L h
 have ln := R ge.p0
 have lo := ge.q0.q0.p3.p3.p3.p3
 exact retc q ha q (run_loadVar_bx (cs := [aj, ak, al, iV B3, cd]) us27 uo27 il27 ln) ⟨aj, ak, al, cd, q, lo⟩
end Go.Proofs.YtpabogkcmbkffaaGreatDoor
