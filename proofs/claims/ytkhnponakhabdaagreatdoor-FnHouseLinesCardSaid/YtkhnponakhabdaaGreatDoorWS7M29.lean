/- The walks: each Go function computes its shallow function. Printed by a program. -/
import Derived.Test.YtkhnponakhabdaaGreatDoorWS7M28
set_option linter.unusedVariables false
set_option maxRecDepth 10000
set_option maxHeartbeats 8000000
namespace Go.Proofs.YtkhnponakhabdaaGreatDoor
open Go Go.RowKit
theorem w_laws_FnHouseLines (w : World) (G : List Res) (hGl : Glob G) (hGm : GlobM G) (hGp : GlobP G) (vp0 : Value) (p0 : List Int) (hp0 : HasRo G (.int .u8) vp0 p0) (r : Bool) (h : laws_FnHouseLinesS p0 = some r) (H : Ctx w G) : Calls Tryz.prog 3 #[vp0] w fun e w' => e = .returned (.bool r) ∧ Holds M0 w w' [] G := by
 refine F0 150 H Tryz.func3 q fun H => ?_
 refine rR <| qa q <| B <| C <| rR <| qm q <| qz H.ctx (hp0.has) u22 q <| qi (qt_gtr q q) q <| B ?_
 refine Yh q h (fun h => ?_) (fun h => ?_)
 ·cases h
  exact rR <| qa q <| B <| W fun a ha => m (ret1 q ha q ⟨q, H⟩)
 refine y <| rR <| qm q <| O h fun x1 ck h => U5 q c6 (w_spec_DrawHouseLines ck (hp0) H.ctx) fun v5 v6 v7 v8 v9 w3 H4 => have cl := H.cN5 [] H4; qm q <| qi (zv q q) q <| qi (zv q q) q <| zq (cs := [nS, nS, nS, iV 0, nS]) cl z27 q q q fun a3 dK a4 => zl (cs' := [v5, v6, v7, iV x1.1.2.2.2.1, v8]) a4 q il27 q (T (a4.ctx.sliceOne hS1) (T (a4.ctx.sliceOne hS2) (T (a4.ctx.sliceOne hS3) (T q (T (a4.ctx.sliceOne hS4) q))))) q q q fun dL bi => qa q <| rN <| eA bi.p0 us27 uo27 il27 q <| qm q <| O h fun aa cm h => zd q q c7 (w_impl_HouseLines cm hGl.c.c.c.c.c.c hGm.c.c.c.c.c.c hGp.c.c.c.c.c.c hS1 hS2 hS3 hS4 hS5 bi.ctx) q ?_
 rintro _ dM ⟨ae, dN, dO, af, ag, ah, cn, co, aj, rfl, cp⟩; refine ⟨_, q, ?_⟩
 refine have cq := bi.cN5 [] cp; qm q <| qi (zv q q) q <| qi (zv q q) q <| zq (cs := [nS, nS, nS, iV 0, nS]) cq z27 q q q fun ak dP bO => have bd := bO.viewG (Vw.c (Vw.d (Vw.c (Vw.c (Vw.d (Vw.c (Vw.c (Vw.c (Vw.c (Vw.c (Vw.c (Vw.c Vw.refl)))))))))))); zl (cs' := [ae, af, ag, iV aa.1.2.2.2.1, ah]) bO q il27 q (T (bd.sliceOne hR1) (T (bd.sliceOne hS2) (T (bd.sliceOne hS3) (T q (T (bd.sliceOne hR4) q))))) q q q fun bP bQ => qa q <| rN <| eA bQ.p6 us27 uo27 il27 q <| qm q <| ?_
 have ct : Holds _ w bP [.ro ty12 ae aa.1.1, .bx ak 27 [ae, af, ag, iV aa.1.2.2.2.1, ah], .sl 3 tI af aa.1.2.1, .sl 3 tI ag aa.1.2.2.1, dpR 38 dt16 ah cn aa.1.2.2.2.2 co, .sl 9 .str aj aa.2, .bx a3 27 [v5, v6, v7, iV x1.1.2.2.2.1, v8], .sl 70 ty12 v5 x1.1.1, .sl 3 tI v6 x1.1.2.1, .sl 3 tI v7 x1.1.2.2.1, .sl 38 ty14 v8 x1.1.2.2.2.2, .sl 9 .str v9 x1.2] G := bQ.p1.freezeD
 have bR : Holds _ w bP [.ro ty14 ah aa.1.2.2.2.2, .ro ty12 ae aa.1.1, .bx ak 27 [ae, af, ag, iV aa.1.2.2.2.1, ah], .sl 3 tI af aa.1.2.1, .sl 3 tI ag aa.1.2.2.1, .sl 9 .str aj aa.2, .bx a3 27 [v5, v6, v7, iV x1.1.2.2.2.1, v8], .sl 70 ty12 v5 x1.1.1, .sl 3 tI v6 x1.1.2.1, .sl 3 tI v7 x1.1.2.2.1, .sl 38 ty14 v8 x1.1.2.2.2.2, .sl 9 .str v9 x1.2] G := ct.p4.freezeD
 refine O h fun al cv h => U5 q c8 (w_spec_HouseLines cv hS7 hS8 hS9 hS10 hS11 bR.ctx) fun aG aH aI aJ bj dQ cw => have cx := bR.cN5 [] cw; qm q <| qi (zv q q) q <| qi (zv q q) q <| zq (cs := [nS, nS, nS, iV 0, nS]) cx z27 q q q fun bk dR a5 => zl (cs' := [aG, aH, aI, iV al.1.2.2.2.1, aJ]) a5 q il27 q (T (a5.ctx.sliceOne hS1) (T (a5.ctx.sliceOne hS2) (T (a5.ctx.sliceOne hS3) (T q (T (a5.ctx.sliceOne hS4) q))))) q q q fun dS a6 => qa q <| B <| C <| C <| zk <| eA a6.p8 us27 uo27 il27 q <| eA a6.p0 us27 uo27 il27 q <| O h fun dT cy h => qc q c9 a6 (fun _ => w_laws_sameHouse cy hR7 hS9 hS10 hR6 hS1 hS2 hS3 hS4) <| qi (qt_not q) q <| qm q <| O h fun cz aM h => ?_
 refine Go (res := cz) 4 (if_t · aM) (fun a7 dU cA => ?_) ?_
 ·exact have aM := if_f a7 aM; jm a7 q <| jm a7 q <| O aM fun dV cB aM => jc a7 q c10 a6 (fun _ => w_laws_sameTexts cB hS11 hS5) <| ji (qt_not q) a7 q <| cA 4 q q q aM
 refine Qn a6 fun a ha dW a8 => X <| S1 ha ?_
 refine Yh q h (fun h => ?_) (fun h => ?_)
 ·cases h
  exact rR <| qa q <| B <| W fun a ha => m (ret1 q ha q ⟨q, a8.q0.q0.q0.q0.q0.q0.q0.q0.q0.q0.q0.q0.q0.q0.q0.q0.q0.q0⟩)
 refine y <| C <| C <| zk <| eA a8.p12 us27 uo27 il27 q <| O h fun cD cE h => qc q c11 a8 (fun _ => w_spec_HouseValid cE hS13 hS14 hS15 hS16) <| qi (qt_not q) q <| qm q ?_
 refine Go (res := ((!cD) || (decide ((List.length x1.2 : Int) > 40)))) 3 os (fun be dX cF => ?_) ?_
 ·exact jm be q <| jz a8.ctx hS17 u28 be q <| ji (qt_gtr q q) be q <| cF 3 q q q (oi be)
 refine Qn a8 fun a ha dY aK => X <| S1 ha ?_
 refine Yh q h (fun h => ?_) (fun h => ?_)
 ·refine C <| zk <| qm q <| qz aK.ctx hS11 u28 q <| qi (qt_eql q q) q <| qm q <| O h fun cG aN h => ?_
  refine Ga (res := cG) 2 (if_f · aN) (fun bl dZ cH => ?_) ?_
  ·exact have aN := if_t bl aN; jA aK.p8 us27 uo27 il27 bl q <| O aN fun d0 cI aN => jc bl q c12 aK (fun _ => w_laws_noHouse cI hR7 hS9 hS10 hR6) <| cH 2 q q q aN
  refine qm q <| O h fun cJ aO h => ?_
  refine Ga (res := cJ) 1 (if_f · aO) (fun bS d1 cK => ?_) ?_
  ·exact have aO := if_t bS aO; O aO fun cL cM aO => QC (J q bS) q c13 (fun w' hb => w_laws_alive w' _  cL cM (aK.grow hb).ctx) (by rfl) <| cK 1 q q q aO
  refine qa q <| Qn aK fun a ha d2 cN => X <| S1 ha <| W fun a ha => ?_
  obtain rfl := L h
  exact m (ret1 q ha q ⟨q, cN.q0.q0.q0.q0.q0.q0.q0.q0.q0.q0.q0.q0.q0.q0.q0.q0.q0.q0⟩)
 refine y <| rR <| qm q <| qz aK.ctx hS17 u28 q <| qi (qt_quo q q (by decide)) q <| qa q <| B <| C <| O h fun d3 bm h => O h fun ab bT h => ?_
 refine WP_join (M := fun a w2 => ∃ aP aq bn bo ar au av bp bq ao, Fr a 150 [(4, v9), (5, pB ak), (6, aj), (9, iV (IntKind.wrap .i64 (Int.tdiv (List.length x1.2 : Int) 2))), (10, pB aP), (11, ao)] ∧ Holds M0 w w2 [.sl 9 .str v9 x1.2, .bx ak 27 [ae, af, ag, iV aa.1.2.2.2.1, ah], .ro ty12 ae aa.1.1, .sl 3 tI af aa.1.2.1, .sl 3 tI ag aa.1.2.2.1, .ro ty14 ah aa.1.2.2.2.2, .sl 9 .str aj aa.2, .bx aP 27 [aq, ar, au, iV ab.1.2.2.2.1, av], dpR 70 dt15 aq bn ab.1.1 bo, .sl 3 tI ar ab.1.2.1, .sl 3 tI au ab.1.2.2.1, dpR 38 dt16 av bp ab.1.2.2.2.2 bq, .sl 9 .str ao ab.2] G) ?_ ?_
 ·refine WP_ordersT (fun w1 w2 => Chg M0 w1 w2) 10 (by kernel_rfl) fun br cP => have bU := aK.grow cP; ?_
  have bV : Ctx br ([] ++ ([.bx bk 27 [aG, aH, aI, iV al.1.2.2.2.1, aJ], .sl 70 ty12 aG al.1.1, .sl 3 tI aH al.1.2.1, .sl 3 tI aI al.1.2.2.1, .sl 38 ty14 aJ al.1.2.2.2.2, .sl 9 .str bj al.2, .ro ty14 ah aa.1.2.2.2.2, .ro ty12 ae aa.1.1, .bx ak 27 [ae, af, ag, iV aa.1.2.2.2.1, ah], .sl 3 tI af aa.1.2.1, .sl 3 tI ag aa.1.2.2.1, .sl 9 .str aj aa.2, .bx a3 27 [v5, v6, v7, iV x1.1.2.2.2.1, v8], .sl 70 ty12 v5 x1.1.1, .sl 3 tI v6 x1.1.2.1, .sl 3 tI v7 x1.1.2.2.1, .sl 38 ty14 v8 x1.1.2.2.2.2, .sl 9 .str v9 x1.2] ++ G)) := bU.ctx
  have cQ : Holds _ br br [] ([.bx bk 27 [aG, aH, aI, iV al.1.2.2.2.1, aJ], .sl 70 ty12 aG al.1.1, .sl 3 tI aH al.1.2.1, .sl 3 tI aI al.1.2.2.1, .sl 38 ty14 aJ al.1.2.2.2.2, .sl 9 .str bj al.2, .ro ty14 ah aa.1.2.2.2.2, .ro ty12 ae aa.1.1, .bx ak 27 [ae, af, ag, iV aa.1.2.2.2.1, ah], .sl 3 tI af aa.1.2.1, .sl 3 tI ag aa.1.2.2.1, .sl 9 .str aj aa.2, .bx a3 27 [v5, v6, v7, iV x1.1.2.2.2.1, v8], .sl 70 ty12 v5 x1.1.1, .sl 3 tI v6 x1.1.2.1, .sl 3 tI v7 x1.1.2.2.1, .sl 38 ty14 v8 x1.1.2.2.2.2, .sl 9 .str v9 x1.2] ++ G) := zb (Rs := []) bV
  refine have Hc := cQ; have cR := HasB.bx (HasB.c (HasB.c (HasB.c (HasB.c (HasB.c (HasB.c (HasB.c (HasB.c (HasB.c (HasB.c (HasB.c (HasB.c (HasB.hd))))))))))))) Hc.ctx; XT (i := 0) q (by kernel_rfl) q Hc.chg q (qs_agg (cs := [v5, v6, v7, iV x1.1.2.2.2.1, v8]) us27 uo27 il27 q (fun j z hj => by rw [Nat.zero_add]; exact cR.cell hj) Hc.chg (Ctx.outB bV (HasB.c (HasB.c (HasB.c (HasB.c (HasB.c (HasB.c (HasB.c (HasB.c (HasB.c (HasB.c (HasB.c (HasB.c (HasB.hd))))))))))))))) q q ?_
  change XC _ _ _ _ _ _ _ _ ((71, .agg #[v5, v6, v7, iV x1.1.2.2.2.1, v8]) :: _) _
  refine XQ (i := 1) q (by kernel_rfl) q Hc.chg q (fun _ => qt_move q) q q <| XQ (i := 2) q (by kernel_rfl) q Hc.chg q (fun _ => qt_move q) q q <| XT (i := 3) q (by kernel_rfl) q Hc.chg q (qs_slice Hc.ctx hS17 bm u28 i9 q ⟨_, q⟩ q) q q ?_
  repeat' first
   | refine XDo 4 q <| zd q q c7 (w_impl_HouseLines bT hGl.c.c.c.c.c.c.c.c.c.c.c.c.c.c.c.c.c.c hGm.c.c.c.c.c.c.c.c.c.c.c.c.c.c.c.c.c.c hGp.c.c.c.c.c.c.c.c.c.c.c.c.c.c.c.c.c.c hS13 hS14 hS15 hS16 (Has.sub hS17 bm) Hc.ctx) q ?_; rintro _ _ ⟨aQ, bs, bt, aR, aS, aT, bu, bv, bw, rfl, HK⟩; refine ⟨_, q, ?_⟩; have Hc := Hc.cN5 [] HK; refine XN Hc.chg <| XQ (i := 5) q (by kernel_rfl) q Hc.chg q (fun _ => qt_move q) q q <| XQ (i := 6) q (by kernel_rfl) q Hc.chg q (fun _ => zv q q) q q <| XQ (i := 7) q (by kernel_rfl) q Hc.chg q (fun _ => zv q q) q q ?_
   | refine XDo 4 q <| zd q q c7 (w_impl_HouseLines bT hGl.c.c.c.c.c.c.c.c.c.c.c.c.c.c.c.c.c.c.c hGm.c.c.c.c.c.c.c.c.c.c.c.c.c.c.c.c.c.c.c hGp.c.c.c.c.c.c.c.c.c.c.c.c.c.c.c.c.c.c.c hS14 hS15 hS16 hS17 (Has.sub hS18 bm) Hc.ctx) q ?_; rintro _ _ ⟨aQ, bs, bt, aR, aS, aT, bu, bv, bw, rfl, HK⟩; refine ⟨_, q, ?_⟩; have Hc := Hc.cN5 [] HK; refine XN Hc.chg <| XQ (i := 5) q (by kernel_rfl) q Hc.chg q (fun _ => qt_move q) q q <| XQ (i := 6) q (by kernel_rfl) q Hc.chg q (fun _ => zv q q) q q <| XQ (i := 7) q (by kernel_rfl) q Hc.chg q (fun _ => zv q q) q q ?_
   | refine XDo 8 q ?_; refine zq (cs := [nS, nS, nS, iV 0, nS]) Hc z27 q q q (fun bW _ Hc => ?_); refine XN Hc.chg ?_
   | refine XDo 9 q ?_; have aD := Hc.viewG (Vw.c (Vw.d (Vw.c (Vw.c (Vw.d (Vw.c Vw.refl)))))); refine zl (cs' := [aQ, aR, aS, iV ab.1.2.2.2.1, aT]) Hc q il27 q (T (aD.sliceOne hR1) (T (aD.sliceOne hS2) (T (aD.sliceOne hS3) (T q (T (aD.sliceOne hR4) q))))) q q q (fun _ Hc => ?_); refine XN Hc.chg ?_
   | refine XDo 9 q ?_; have Hc := Hc.p5; have aD := Hc.viewG (Vw.c (Vw.d (Vw.c (Vw.c (Vw.d (Vw.c Vw.refl)))))); refine zl (cs' := [aQ, aR, aS, iV ab.1.2.2.2.1, aT]) Hc q il27 q (T (aD.sliceOne hR1) (T (aD.sliceOne hS2) (T (aD.sliceOne hS3) (T q (T (aD.sliceOne hR4) q))))) q q q (fun _ Hc => ?_); refine XN Hc.chg ?_
   | have Hc : Holds _ _ _ [.bx bW 27 [aQ, aR, aS, iV ab.1.2.2.2.1, aT], dpR 70 dt15 aQ bs ab.1.1 bt, .sl 3 tI aR ab.1.2.1, .sl 3 tI aS ab.1.2.2.1, dpR 38 dt16 aT bu ab.1.2.2.2.2 bv, .sl 9 .str bw ab.2, .bx bk 27 [aG, aH, aI, iV al.1.2.2.2.1, aJ], .sl 70 ty12 aG al.1.1, .sl 3 tI aH al.1.2.1, .sl 3 tI aI al.1.2.2.1, .sl 38 ty14 aJ al.1.2.2.2.2, .sl 9 .str bj al.2, .ro ty14 ah aa.1.2.2.2.2, .ro ty12 ae aa.1.1, .bx ak 27 [ae, af, ag, iV aa.1.2.2.2.1, ah], .sl 3 tI af aa.1.2.1, .sl 3 tI ag aa.1.2.2.1, .sl 9 .str aj aa.2, .bx a3 27 [v5, v6, v7, iV x1.1.2.2.2.1, v8], .sl 70 ty12 v5 x1.1.1, .sl 3 tI v6 x1.1.2.1, .sl 3 tI v7 x1.1.2.2.1, .sl 38 ty14 v8 x1.1.2.2.2.2, .sl 9 .str v9 x1.2] G := bU.calledN (Rs := []) Hc; refine XDo 10 q <| qa q <| XE q ?_
   | refine XV [4, 8] (by decide +kernel) q (allc ?_ (allc ?_ alln))
   | refine XV [8] (by decide +kernel) q (allc ?_ alln)
   | refine XV [9] (by decide +kernel) q (allc ?_ alln)
   | refine XV [10] (by decide +kernel) q (allc ?_ alln)
   | refine XV [4] (by decide +kernel) q (allc ?_ alln)
   | refine XC_done (by decide +kernel) (fun a ha => ?_); have Hc := ((((((((((((((((((((((((Hc.q6).q6).q6).q6).q6).q6).q12).q12).q12).q12).q12).p5).p5).p5).p5).p5).p5).p11).p7).p11).p11).p10).p11).p12); exact ⟨bW, aQ, bs, bt, aR, aS, aT, bu, bv, bw, ha.s, Hc⟩
 rintro a d4 ⟨aP, aq, bn, bo, ar, au, av, bp, bq, ao, ha, cS⟩
 refine S1 ha <| C <| O h fun d5 bz h => O h fun ad bX h => ?_
 refine WP_join (M := fun a w2 => ∃ aw ax aU aV ay az aA aW aX aB, Fr a 150 [(4, v9), (5, pB ak), (6, aj), (11, ao), (12, pB aw), (13, aB)] ∧ Holds M0 w w2 [.sl 9 .str v9 x1.2, .bx ak 27 [ae, af, ag, iV aa.1.2.2.2.1, ah], .ro ty12 ae aa.1.1, .sl 3 tI af aa.1.2.1, .sl 3 tI ag aa.1.2.2.1, .ro ty14 ah aa.1.2.2.2.2, .sl 9 .str aj aa.2, .sl 9 .str ao ab.2, .bx aw 27 [ax, ay, az, iV ad.1.2.2.2.1, aA], dpR 70 dt15 ax aU ad.1.1 aV, .sl 3 tI ay ad.1.2.1, .sl 3 tI az ad.1.2.2.1, dpR 38 dt16 aA aW ad.1.2.2.2.2 aX, .sl 9 .str aB ad.2] G) ?_ ?_
 ·refine WP_ordersT (fun w1 w2 => Chg M0 w1 w2) 10 (by kernel_rfl) fun bA cT => have bY := cS.grow cT; ?_
  have bZ : Ctx bA ([] ++ ([.sl 9 .str v9 x1.2, .bx ak 27 [ae, af, ag, iV aa.1.2.2.2.1, ah], .ro ty12 ae aa.1.1, .sl 3 tI af aa.1.2.1, .sl 3 tI ag aa.1.2.2.1, .ro ty14 ah aa.1.2.2.2.2, .sl 9 .str aj aa.2, .bx aP 27 [aq, ar, au, iV ab.1.2.2.2.1, av], .ro ty12 aq ab.1.1, .sl 3 tI ar ab.1.2.1, .sl 3 tI au ab.1.2.2.1, .ro ty14 av ab.1.2.2.2.2, .sl 9 .str ao ab.2] ++ G)) := bY.viewG (Vw.c (Vw.c (Vw.c (Vw.c (Vw.c (Vw.c (Vw.c (Vw.c (Vw.d (Vw.c (Vw.c (Vw.d (Vw.c Vw.refl)))))))))))))
  have cU : Holds _ bA bA [] ([.sl 9 .str v9 x1.2, .bx ak 27 [ae, af, ag, iV aa.1.2.2.2.1, ah], .ro ty12 ae aa.1.1, .sl 3 tI af aa.1.2.1, .sl 3 tI ag aa.1.2.2.1, .ro ty14 ah aa.1.2.2.2.2, .sl 9 .str aj aa.2, .bx aP 27 [aq, ar, au, iV ab.1.2.2.2.1, av], .ro ty12 aq ab.1.1, .sl 3 tI ar ab.1.2.1, .sl 3 tI au ab.1.2.2.1, .ro ty14 av ab.1.2.2.2.2, .sl 9 .str ao ab.2] ++ G) := zb (Rs := []) bZ
  refine have Hc := cU; have cV := HasB.bx (HasB.c (HasB.c (HasB.c (HasB.c (HasB.c (HasB.c (HasB.c (HasB.hd)))))))) Hc.ctx; XT (i := 0) q (by kernel_rfl) q Hc.chg q (qs_agg (cs := [aq, ar, au, iV ab.1.2.2.2.1, av]) us27 uo27 il27 q (fun j z hj => by rw [Nat.zero_add]; exact cV.cell hj) Hc.chg (Ctx.outB bZ (HasB.c (HasB.c (HasB.c (HasB.c (HasB.c (HasB.c (HasB.c (HasB.hd)))))))))) q q ?_
  change XC _ _ _ _ _ _ _ _ ((79, .agg #[aq, ar, au, iV ab.1.2.2.2.1, av]) :: _) _
  refine XQ (i := 1) q (by kernel_rfl) q Hc.chg q (fun _ => qt_move q) q q <| XQ (i := 2) q (by kernel_rfl) q Hc.chg q (fun _ => qt_move q) q q <| XT (i := 3) q (by kernel_rfl) q Hc.chg q (qs_slice Hc.ctx hS0 bz u28 i9 ⟨_, q⟩ q q) q q ?_
  repeat' first
   | refine XDo 4 q <| zd q q c7 (w_impl_HouseLines bX hGl.c.c.c.c.c.c.c.c.c.c.c.c.c hGm.c.c.c.c.c.c.c.c.c.c.c.c.c hGp.c.c.c.c.c.c.c.c.c.c.c.c.c hR8 hS9 hS10 hR11 (Has.sub hS0 bz) Hc.ctx) q ?_; rintro _ _ ⟨aY, bB, bC, aZ, a0, a1, bD, bE, bF, rfl, HK⟩; refine ⟨_, q, ?_⟩; have Hc := Hc.cN5 [] HK; refine XN Hc.chg <| XQ (i := 5) q (by kernel_rfl) q Hc.chg q (fun _ => qt_move q) q q <| XQ (i := 6) q (by kernel_rfl) q Hc.chg q (fun _ => zv q q) q q <| XQ (i := 7) q (by kernel_rfl) q Hc.chg q (fun _ => zv q q) q q ?_
   | refine XDo 4 q <| zd q q c7 (w_impl_HouseLines bX hGl.c.c.c.c.c.c.c.c.c.c.c.c.c.c hGm.c.c.c.c.c.c.c.c.c.c.c.c.c.c hGp.c.c.c.c.c.c.c.c.c.c.c.c.c.c hR9 hS10 hS11 hR12 (Has.sub hS1 bz) Hc.ctx) q ?_; rintro _ _ ⟨aY, bB, bC, aZ, a0, a1, bD, bE, bF, rfl, HK⟩; refine ⟨_, q, ?_⟩; have Hc := Hc.cN5 [] HK; refine XN Hc.chg <| XQ (i := 5) q (by kernel_rfl) q Hc.chg q (fun _ => qt_move q) q q <| XQ (i := 6) q (by kernel_rfl) q Hc.chg q (fun _ => zv q q) q q <| XQ (i := 7) q (by kernel_rfl) q Hc.chg q (fun _ => zv q q) q q ?_
   | refine XDo 8 q ?_; refine zq (cs := [nS, nS, nS, iV 0, nS]) Hc z27 q q q (fun b0 _ Hc => ?_); refine XN Hc.chg ?_
   | refine XDo 9 q ?_; have aE := Hc.viewG (Vw.c (Vw.d (Vw.c (Vw.c (Vw.d (Vw.c Vw.refl)))))); refine zl (cs' := [aY, aZ, a0, iV ad.1.2.2.2.1, a1]) Hc q il27 q (T (aE.sliceOne hR1) (T (aE.sliceOne hS2) (T (aE.sliceOne hS3) (T q (T (aE.sliceOne hR4) q))))) q q q (fun _ Hc => ?_); refine XN Hc.chg ?_
   | refine XDo 9 q ?_; have Hc := Hc.p5; have aE := Hc.viewG (Vw.c (Vw.d (Vw.c (Vw.c (Vw.d (Vw.c Vw.refl)))))); refine zl (cs' := [aY, aZ, a0, iV ad.1.2.2.2.1, a1]) Hc q il27 q (T (aE.sliceOne hR1) (T (aE.sliceOne hS2) (T (aE.sliceOne hS3) (T q (T (aE.sliceOne hR4) q))))) q q q (fun _ Hc => ?_); refine XN Hc.chg ?_
   | have Hc : Holds _ _ _ [.bx b0 27 [aY, aZ, a0, iV ad.1.2.2.2.1, a1], dpR 70 dt15 aY bB ad.1.1 bC, .sl 3 tI aZ ad.1.2.1, .sl 3 tI a0 ad.1.2.2.1, dpR 38 dt16 a1 bD ad.1.2.2.2.2 bE, .sl 9 .str bF ad.2, .sl 9 .str v9 x1.2, .bx ak 27 [ae, af, ag, iV aa.1.2.2.2.1, ah], .ro ty12 ae aa.1.1, .sl 3 tI af aa.1.2.1, .sl 3 tI ag aa.1.2.2.1, .ro ty14 ah aa.1.2.2.2.2, .sl 9 .str aj aa.2, .bx aP 27 [aq, ar, au, iV ab.1.2.2.2.1, av], dpR 70 dt15 aq bn ab.1.1 bo, .sl 3 tI ar ab.1.2.1, .sl 3 tI au ab.1.2.2.1, dpR 38 dt16 av bp ab.1.2.2.2.2 bq, .sl 9 .str ao ab.2] G := bY.calledV (Rs := []) Hc (zc Pure.bx (zc Pure.dp (zc (Pure.sl q) (zc (Pure.sl q) (zc Pure.dp (zc (Pure.sl q) all_nil)))))); refine XDo 10 q <| qa q <| XE q ?_
   | refine XV [4, 8] (by decide +kernel) q (allc ?_ (allc ?_ alln))
   | refine XV [8] (by decide +kernel) q (allc ?_ alln)
   | refine XV [9] (by decide +kernel) q (allc ?_ alln)
   | refine XV [10] (by decide +kernel) q (allc ?_ alln)
   | refine XV [4] (by decide +kernel) q (allc ?_ alln)
   | refine XC_done (by decide +kernel) (fun a ha => ?_); have Hc := (((((((((((((((((((Hc.q13).q13).q13).q13).q13).p5).p5).p5).p5).p5).p5).p13).p13).p13).p13).p13).p13).p13).p13); exact ⟨b0, aY, bB, bC, aZ, a0, a1, bD, bE, bF, ha.s, Hc⟩
 rintro a d6 ⟨aw, ax, aU, aV, ay, az, aA, aW, aX, aB, ha, cW⟩
 refine S1 ha <| C <| rR <| qa q <| B <| g <| O h fun bG cX h => ?_
 refine fun d7 cZ => zp (I := fun b4 a w2 => (Fr a 150 [(4, v9), (5, pB ak), (6, aj), (11, ao), (12, pB aw), (13, aB), (14, iV b4)] ∧ Holds M0 w w2 [.sl 9 .str v9 x1.2, .bx ak 27 [ae, af, ag, iV aa.1.2.2.2.1, ah], .ro ty12 ae aa.1.1, .sl 3 tI af aa.1.2.1, .sl 3 tI ag aa.1.2.2.1, .ro ty14 ah aa.1.2.2.2.2, .sl 9 .str aj aa.2, .sl 9 .str ao ab.2, .bx aw 27 [ax, ay, az, iV ad.1.2.2.2.1, aA], dpR 70 dt15 ax aU ad.1.1 aV, .sl 3 tI ay ad.1.2.1, .sl 3 tI az ad.1.2.2.1, dpR 38 dt16 aA aW ad.1.2.2.2.2 aX, .sl 9 .str aB ad.2] G)) (O := fun o e a w2 => match o with | .inl _ => e = .exit 0 ∧ (Fr a 150 [(4, v9), (5, pB ak), (6, aj), (11, ao), (12, pB aw), (13, aB)] ∧ Holds M0 w w2 [.sl 9 .str v9 x1.2, .bx ak 27 [ae, af, ag, iV aa.1.2.2.2.1, ah], .ro ty12 ae aa.1.1, .sl 3 tI af aa.1.2.1, .sl 3 tI ag aa.1.2.2.1, .ro ty14 ah aa.1.2.2.2.2, .sl 9 .str aj aa.2, .sl 9 .str ao ab.2, .bx aw 27 [ax, ay, az, iV ad.1.2.2.2.1, aA], dpR 70 dt15 ax aU ad.1.1 aV, .sl 3 tI ay ad.1.2.1, .sl 3 tI az ad.1.2.2.1, dpR 38 dt16 aA aW ad.1.2.2.2.2 aX, .sl 9 .str aB ad.2] G) | .inr q0 => e = .ret ∧ (Fr a 150 [(2, .bool q0)] ∧ Holds M0 w w2 [] G)) cX ?_ ?_ ?_
 ·exact ⟨cZ.s, cW.p13.p13.p13.p13.p13.p13.p13.p13.p13.p13.p13.p13.p13.p13⟩
 ·rintro b4 _ a d8 aC ⟨ha, a9⟩
  refine S1 ha <| C <| rR <| qm q <| qm q <| have b5 := a9.viewG (Vw.c (Vw.c (Vw.c (Vw.c (Vw.c (Vw.c (Vw.c (Vw.c (Vw.c (Vw.d (Vw.c (Vw.c (Vw.d (Vw.c Vw.refl)))))))))))))); qz b5 hS6 u28 q <| qi (qt_lss q q) q <| B ?_
  refine Yh q aC (fun aC => ?_) (fun aC => ?_)
  ·refine y <| C <| g <| rR <| qm q <| qm q <| O aC fun d9 b6 aC => qb b5 hS6 b6 u28 i9 q fun ea eb ec c0 => eS u9 (a9.el hS6 b6 c0) q <| qi (qt_seql q q) q <| B ?_
   refine Yh q aC (fun aC => ?_) (fun aC => ?_)
   ·cases aC
    exact rR <| qa q <| B <| W fun a ha => zj (m (⟨ret_ne, q, ha.s, a9.q0.q0.q0.q0.q0.q0.q0.q0.q0.q0.q0.q0.q0.q0⟩))
   cases aC
   exact WP_skip fun a ha => zi <| X <| S1 ha <| Z <| qm q <| qi (qt_add q q) q <| qa q <| WL_nil fun a ha => ⟨q, ha.s, a9.p13.p13.p13.p13.p13.p13.p13.p13.p13.p13.p13.p13.p13.p13⟩
  cases aC
  exact WP_exit fun a ha => zo (⟨exit_ne, q, ha.s, a9.p13.p13.p13.p13.p13.p13.p13.p13.p13.p13.p13.p13.p13.p13⟩)
 intro e a ed b7
 rcases bG with bG | bG
 ·obtain ⟨rfl, ha, b8⟩ := b7
  refine zn <| X <| S1 ha <| rR <| qf uf27 fi27_3 nz3 q <| ql u3 b8.p1 q <| qa q <| B <| C <| rR <| qa q <| B <| g <| O h fun bH c4 h => ?_
  refine fun ee da => zp (I := fun (b9, ca) a w2 => (Fr a 150 [(4, v9), (5, pB ak), (6, aj), (11, ao), (12, pB aw), (13, aB), (15, iV b9), (16, iV ca)] ∧ Holds M0 w w2 [.sl 9 .str v9 x1.2, .bx ak 27 [ae, af, ag, iV aa.1.2.2.2.1, ah], .ro ty12 ae aa.1.1, .sl 3 tI af aa.1.2.1, .sl 3 tI ag aa.1.2.2.1, .ro ty14 ah aa.1.2.2.2.2, .sl 9 .str aj aa.2, .sl 9 .str ao ab.2, .bx aw 27 [ax, ay, az, iV ad.1.2.2.2.1, aA], dpR 70 dt15 ax aU ad.1.1 aV, .sl 3 tI ay ad.1.2.1, .sl 3 tI az ad.1.2.2.1, dpR 38 dt16 aA aW ad.1.2.2.2.2 aX, .sl 9 .str aB ad.2] G)) (O := fun q0 e a w2 => e = .exit 2 ∧ (Fr a 150 [(4, v9), (5, pB ak), (6, aj), (11, ao), (12, pB aw), (13, aB), (15, iV q0)] ∧ Holds M0 w w2 [.sl 9 .str v9 x1.2, .bx ak 27 [ae, af, ag, iV aa.1.2.2.2.1, ah], .ro ty12 ae aa.1.1, .sl 3 tI af aa.1.2.1, .sl 3 tI ag aa.1.2.2.1, .ro ty14 ah aa.1.2.2.2.2, .sl 9 .str aj aa.2, .sl 9 .str ao ab.2, .bx aw 27 [ax, ay, az, iV ad.1.2.2.2.1, aA], dpR 70 dt15 ax aU ad.1.1 aV, .sl 3 tI ay ad.1.2.1, .sl 3 tI az ad.1.2.2.1, dpR 38 dt16 aA aW ad.1.2.2.2.2 aX, .sl 9 .str aB ad.2] G)) c4 ?_ ?_ ?_
  ·exact ⟨da.s, b8.p13.p13.p13.p13.p13.p13.p13.p13.p13.p13.p13.p13.p13.p13⟩
  ·rintro ⟨b9, ca⟩ _ a ef aL ⟨ha, ba⟩
   refine S1 ha <| C <| rR <| qm q <| qf uf27 fi27_4 nz25 q <| ql u25 ba.p1 q <| have cb := ba.viewG (Vw.c (Vw.c (Vw.c (Vw.c (Vw.c (Vw.c (Vw.c (Vw.c (Vw.c (Vw.d (Vw.c (Vw.c (Vw.d (Vw.c Vw.refl)))))))))))))); qz cb hR5 u25 q <| qi (qt_lss q q) q <| B ?_
   refine Yh q aL (fun aL => ?_) (fun aL => ?_)
   ·refine y <| C <| g <| Z <| qm q <| qf uf27 fi27_4 nz25 q <| ql u25 ba.p1 q <| qm q <| O aL fun eg cc aL => qb cb hR5 cc u25 i38 q fun eh ei ej db => qf uf38 fi38_2 nz24 q <| eV u24 (ba.el hR5 cc db).s.s q fun ek cd => have dc := cd.viewG (Vw.c (Vw.c (Vw.c (Vw.c (Vw.c (Vw.c (Vw.c (Vw.c (Vw.c (Vw.c (Vw.d (Vw.c (Vw.c (Vw.d (Vw.c Vw.refl))))))))))))))); qz dc hR0 u24 q <| qi (qt_mul q q) q <| qi (qt_add q q) q <| qa q <| WL_nil fun a ha => zi <| X <| S1 ha <| Z <| qm q <| qi (qt_add q q) q <| qa q <| WL_nil fun a ha => ?_
    cases aL
    exact ⟨q, ha.s, cd.q0.p13.p13.p13.p13.p13.p13.p13.p13.p13.p13.p13.p13.p13.p13⟩
   cases aL
   exact WP_exit fun a ha => zo (⟨exit_ne, q, ha.s, ba.p13.p13.p13.p13.p13.p13.p13.p13.p13.p13.p13.p13.p13.p13⟩)
  rintro _ a em ⟨rfl, ha, bI⟩
  refine zn <| X <| S1 ha <| rR <| eA bI.p1 us27 uo27 il27 q <| O h fun aF df h => have dg := bI.viewG (Vw.c (Vw.c (Vw.c (Vw.c (Vw.c (Vw.c (Vw.c (Vw.c (Vw.c (Vw.d (Vw.c (Vw.c (Vw.d (Vw.c Vw.refl)))))))))))))); zd q q c14 (w_impl_HouseLine df hGl.c.c.c.c.c.c.c.c.c.c.c.c.c.c hGm.c.c.c.c.c.c.c.c.c.c.c.c.c.c hGp.c.c.c.c.c.c.c.c.c.c.c.c.c.c hR2 hS3 hS4 hR5 dg) q ?_
  rintro _ en ⟨bJ, dh, di, bK, bL, bM, dj, dk, rfl, dl⟩; refine ⟨_, q, ?_⟩
  refine have dm := bI.cV4 [] dl (zc Pure.dp (zc (Pure.sl q) (zc (Pure.sl q) (zc Pure.dp all_nil)))); qm q <| qi (zv q q) q <| qi (zv q q) q <| zq (cs := [nS, nS, nS, iV 0, nS]) dm z27 q q q fun ce eo cf => have bf := cf.viewG (Vw.c (Vw.d (Vw.c (Vw.c (Vw.d (Vw.c (Vw.c (Vw.c (Vw.c (Vw.c (Vw.c (Vw.c (Vw.c (Vw.c (Vw.d (Vw.c (Vw.c (Vw.d (Vw.c Vw.refl))))))))))))))))))); zl (cs' := [bJ, bK, bL, iV aF.1.2.2.2.1, bM]) cf q il27 q (T (bf.sliceOne hR1) (T (bf.sliceOne hS2) (T (bf.sliceOne hS3) (T q (T (bf.sliceOne hR4) q))))) q q q fun ep bg => qa q <| rN <| eA bg.p13 us27 uo27 il27 q <| eA bg.p6 us27 uo27 il27 q <| O h fun dn dq h => have dr := bg.viewG (Vw.c (Vw.d (Vw.c (Vw.c (Vw.d (Vw.c (Vw.c (Vw.c (Vw.c (Vw.c (Vw.c (Vw.c (Vw.c (Vw.c (Vw.d (Vw.c (Vw.c (Vw.d (Vw.c Vw.refl))))))))))))))))))); U0 q c9 (w_laws_sameHouse dq hR14 hS15 hS16 hR17 hR7 hS8 hS9 hR10 dr) fun er ds => ?_
  refine have cg := bg.cV0 [] ds all_nil; qm q <| O h fun ch ap h => ?_
  obtain ⟨bN, rfl⟩ : ∃ z, z = ch := ⟨ch, q⟩
  refine WL_cutM 8 (fun a w2 => (Fr a 150 [(4, v9), (6, aj), (15, iV bH), (17, pB ce), (132, .bool bN)] ∧ Holds M0 w w2 [.sl 9 .str v9 x1.2, .sl 9 .str aj aa.2, .bx ce 27 [bJ, bK, bL, iV aF.1.2.2.2.1, bM], dpR 70 dt15 bJ dh aF.1.1 di, .sl 3 tI bK aF.1.2.1, .sl 3 tI bL aF.1.2.2.1, dpR 38 dt16 bM dj aF.1.2.2.2.2 dk] G)) ?_ ?_
  ·rcases btf dn with am | am
   ·refine have ap := if_t am ap; zs (t := .str) (args := []) (xs := ([] : List (List UInt8))) cg (BltL.nil) u28 j9 q q q q (J q am) q fun es et dt => jm am q <| O ap fun eu du ap => zw dt hS13 du u28 j9 q q (J q am) q q q fun ew ey dv => jm am q <| O ap fun ez dw ap => zw dv hS19 dw u28 j9 q q (J q am) q q q fun eC eD ci => jm am q <| O ap fun eE dx ap => have dy := ci.viewG (Vw.c (Vw.c (Vw.d (Vw.c (Vw.c (Vw.d (Vw.c (Vw.c (Vw.c (Vw.c (Vw.c (Vw.c (Vw.c (Vw.c (Vw.c (Vw.d (Vw.c (Vw.c (Vw.d (Vw.c Vw.refl)))))))))))))))))))); V0 (J q am) q c10 (w_laws_sameTexts dx hS0 hS12 dy) q fun eF dz => have dA := ci.cV0 [] dz all_nil; qi (ze q am q) q <| WL_nil fun a ha => ?_
    obtain rfl := L ap
    exact X ⟨ha.s, dA.q0.q6.q6.q6.q6.q6.q7.q7.q7.q7.q7.q7.q7.p4.p4.p4.p4.p4.p6.p6⟩
   refine have ap := if_f am ap; qS q am q q <| qS q am q q <| qS q am q q <| qS q am q q <| qS q am q q <| qS q am q q <| qS q am q q <| qi (zf q am q) q <| WL_nil fun a ha => ?_
   obtain rfl := L ap
   exact X ⟨ha.s, cg.q6.q6.q6.q6.q6.q7.q7.q7.q7.q7.q7.q7.p4.p4.p4.p4.p4.p6.p6⟩
  intro a eG dD
  obtain ⟨ha, bh⟩ := dD
  refine SL_app ?_ ha
  clear ha
  refine qm q ?_
  refine Ha (res := (bN && ((List.length aa.2 : Int) == (List.length x1.2 : Int)))) 5 an (fun a2 eH dE => ?_) ?_
  ·exact jm a2 q <| have cj := bh.viewG (Vw.c (Vw.c (Vw.c (Vw.d (Vw.c (Vw.c (Vw.d Vw.refl))))))); jz cj hS1 u28 a2 q <| jm a2 q <| jz cj hS0 u28 a2 q <| ji (qt_eql q q) a2 q <| dE 5 q q q (ai a2)
  refine qm q ?_
  refine Ha (res := ((bN && ((List.length aa.2 : Int) == (List.length x1.2 : Int))) && ((decide (bH > 99999)) || ((List.length aF.1.2.2.2.2 : Int) == 0)))) 8 an (fun bb eJ dF => ?_) ?_
  ·refine jm bb q <| ji (qt_gtr q q) bb q <| jm bb q ?_
   refine Ho (res := ((decide (bH > 99999)) || ((List.length aF.1.2.2.2.2 : Int) == 0))) (hw := (J q bb)) 4 os (fun bc eK dG => ?_) ?_
   ·exact jf uf27 fi27_4 nz25 bc q <| jl u25 bh.p2 bc q <| have dH := bh.viewG (Vw.c (Vw.c (Vw.c (Vw.d (Vw.c (Vw.c (Vw.d Vw.refl))))))); jz dH hR6 u25 bc q <| ji (qt_eql q q) bc q <| dG 4 q q q (oi bc)
   exact dF 4 q q q (ai bb)
  cases h
  exact qa q <| B <| W fun a ha => ret1 q ha q ⟨q, bh.q0.q0.q0.q0.q0.q0.q0⟩
 obtain ⟨rfl, ha, dJ⟩ := b7
 obtain rfl := L h
 exact zj (m (ret1 q ha q ⟨q, dJ⟩))
end Go.Proofs.YtkhnponakhabdaaGreatDoor
