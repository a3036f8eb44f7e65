/- The walks: each Go function computes its shallow function. Printed by a program. -/
import Derived.Test.YtpabogkcmbkffaaGreatDoorWS7C5
set_option linter.unusedVariables false
set_option maxRecDepth 10000
set_option maxHeartbeats 8000000
namespace Go.Proofs.YtpabogkcmbkffaaGreatDoor
open Go Go.RowKit
theorem w_impl_copyHouse (w : World) (G : List Res) (A0 : Value) (B0 : LI) (C0 : Has G ty10 A0 B0) (A1 : Value) (B1 : List Int) (C1 : Has G tI A1 B1) (A2 : Value) (B2 : List Int) (C2 : Has G tI A2 B2) (B3 : Int) (A4 : Value) (B4 : LT) (C4 : Has G ty12 A4 B4) (r : (LI × (List Int) × (List Int) × Int × LT)) (h : impl_copyHouseS B0 B1 B2 B3 B4 = some r) (H : Ctx w G) : Calls Tryz.prog 27 #[.agg #[A0, A1, A2, iV B3, A4]] w fun e w' => ∃ (v1 : Value) (csv1 : List Value) (Fv1 : List Nat) (v4 : Value) (v5 : Value) (v6 : Value) (csv6 : List Value) (Fv6 : List Nat), e = .returned (.agg #[v1, v4, v5, iV r.2.2.2.1, v6]) ∧ Holds M0 w w' [dpR 55 dt13 v1 csv1 r.1 Fv1, .sl 3 tI v4 r.2.1, .sl 3 tI v5 r.2.2.1, dpR 47 dt14 v6 csv6 r.2.2.2.2 Fv6] G := by
 have H : Holds M0 w w [] G := zb H
 refine zg (args := [.agg #[A0, A1, A2, iV B3, A4]]) (n := 55) Tryz.func27 q q q ?_
 unfold impl_copyHouseS at h
 refine C <| Z ?_
 refine WL_box (cs := [A0, A1, A2, iV B3, A4]) H q q q q (fun b1 w2 H3 => ?_)
 refine zq (cs := [nS, nS, nS, iV 0, nS]) H3 z27 q q q (fun b5 w6 H7 => ?_)
 refine B <| C ?_
 obtain ⟨ai, bg, h⟩ := D h
 obtain ⟨aj, bh, h⟩ := D h
 refine WP_join (M := fun a w2 => ∃ ad aM aU aV aa ab ah aA aB, Fr a 55 [(1, pB b1), (2, pB b5), (3, pB ad)] ∧ Holds M0 w w2 [.bx b1 27 [A0, A1, A2, iV B3, A4], .bx b5 27 [nS, nS, nS, iV 0, nS], .bx ad 27 [aM, aa, ab, iV B3, ah], dpR 55 dt13 aM aU ([]) aV, .sl 3 tI aa ai, .sl 3 tI ab aj, dpR 47 dt14 ah aA ([]) aB] G) ?_ ?_
 ·refine WP_ordersT (fun w1 w2 => Chg M0 w1 w2) 10 (by kernel_rfl) (fun aW bD => ?_)
  have aN := H7.grow bD
  have aO : Ctx aW ([] ++ ([.bx b5 27 [nS, nS, nS, iV 0, nS], .bx b1 27 [A0, A1, A2, iV B3, A4]] ++ G)) := aN.ctx
  have bE : Holds _ aW aW [] ([.bx b5 27 [nS, nS, nS, iV 0, nS], .bx b1 27 [A0, A1, A2, iV B3, A4]] ++ G) := zb (Rs := []) aO
  have Hc := bE
  repeat' first
   | refine XDo 2 q <| zd q q c62 (w_impl_copyInts _ _ A1 B1 (C1.c.c) ai bg Hc.ctx) (by rfl) ?_; rintro _ _ ⟨aq, rfl, HK⟩; refine ⟨_, q, ?_⟩; have Hc := Hc.cN1 [] HK; refine XN Hc.chg ?_
   | refine XDo 2 q <| zd q q c62 (w_impl_copyInts _ _ A1 B1 (C1.c.c.c) ai bg Hc.ctx) (by rfl) ?_; rintro _ _ ⟨aq, rfl, HK⟩; refine ⟨_, q, ?_⟩; have Hc := Hc.cN1 [] HK; refine XN Hc.chg ?_
   | refine XDo 5 q <| zd q q c62 (w_impl_copyInts _ _ A2 B2 (C2.c.c.c) aj bh Hc.ctx) (by rfl) ?_; rintro _ _ ⟨ar, rfl, HK⟩; refine ⟨_, q, ?_⟩; have Hc := Hc.cN1 [] HK; refine XN Hc.chg ?_
   | refine XDo 5 q <| zd q q c62 (w_impl_copyInts _ _ A2 B2 (C2.c.c.c.c) aj bh Hc.ctx) (by rfl) ?_; rintro _ _ ⟨ar, rfl, HK⟩; refine ⟨_, q, ?_⟩; have Hc := Hc.cN1 [] HK; refine XN Hc.chg ?_
   | refine XDo 9 q ?_; refine zq (cs := [nS, nS, nS, iV 0, nS]) Hc z27 q q q (fun bF _ Hc => ?_); refine XN Hc.chg ?_
   | have Hc := aN.cN3 [] Hc; refine XDo 10 q ?_; refine zl (cs' := [nS, aq, ar, iV B3, nS]) Hc q il27 q (T q (T (Hc.ctx.sliceOne hS2) (T (Hc.ctx.sliceOne hS1) (T q (T q q))))) q q q (fun _ Hc => ?_); refine XE q ?_
   | have Hc := aN.cN3 [] Hc; refine XDo 10 q ?_; have Hc := Hc.p1; refine zl (cs' := [nS, aq, ar, iV B3, nS]) Hc q il27 q (T q (T (Hc.ctx.sliceOne hS2) (T (Hc.ctx.sliceOne hS1) (T q (T q q))))) q q q (fun _ Hc => ?_); refine XE q ?_
   | have Hc := aN.cN3 [] Hc; refine XDo 10 q ?_; have Hc := Hc.p2; refine zl (cs' := [nS, aq, ar, iV B3, nS]) Hc q il27 q (T q (T (Hc.ctx.sliceOne hS2) (T (Hc.ctx.sliceOne hS1) (T q (T q q))))) q q q (fun _ Hc => ?_); refine XE q ?_
   | refine XQ (i := 0) q (by decide +kernel) q Hc.chg q (fun _ => qt_fieldAddr uf27 fi27_1 nz24 q) q q ?_
   | have bG := HasB.bx (HasB.c (HasB.hd)) Hc.ctx; refine XT (i := 1) q (by decide +kernel) q Hc.chg q (qs_cell u24 q q (bG.cell (i := 1) q) Hc.chg (Ctx.outB aO (HasB.c (HasB.hd)))) q q ?_
   | refine XQ (i := 3) q (by decide +kernel) q Hc.chg q (fun _ => qt_fieldAddr uf27 fi27_2 nz24 q) q q ?_
   | have bH := HasB.bx (HasB.c (HasB.hd)) Hc.ctx; refine XT (i := 4) q (by decide +kernel) q Hc.chg q (qs_cell u24 q q (bH.cell (i := 2) q) Hc.chg (Ctx.outB aO (HasB.c (HasB.hd)))) q q ?_
   | refine XQ (i := 6) q (by decide +kernel) q Hc.chg q (fun _ => qt_fieldAddr uf27 fi27_3 nz3 q) q q ?_
   | have bI := HasB.bx (HasB.c (HasB.hd)) Hc.ctx; refine XT (i := 7) q (by decide +kernel) q Hc.chg q (qs_cell u3 q q (bI.cell (i := 3) q) Hc.chg (Ctx.outB aO (HasB.c (HasB.hd)))) q q ?_
   | refine XQ (i := 8) q (by decide +kernel) q Hc.chg q (fun _ => qt_build (args := [(1, .tmp 10), (2, .tmp 13), (3, .tmp 15)]) (css := [#[aq], #[ar], #[iV B3]]) (cells := #[nS, aq, ar, iV B3, nS]) q ⟨(Hc.ctx.sliceCells hS1), (Hc.ctx.sliceCells hS0), q, trivial⟩ (by kernel_rfl)) q q ?_
   | refine XQ (i := 8) q (by decide +kernel) q Hc.chg q (fun _ => qt_build (args := [(1, .tmp 10), (2, .tmp 13), (3, .tmp 15)]) (css := [#[aq], #[ar], #[iV B3]]) (cells := #[nS, aq, ar, iV B3, nS]) q ⟨(Hc.ctx.sliceCells hS2), (Hc.ctx.sliceCells hS0), q, trivial⟩ (by kernel_rfl)) q q ?_
   | refine XV [2, 9] (by decide +kernel) q (allc ?_ (allc ?_ alln))
   | refine XV [5, 9] (by decide +kernel) q (allc ?_ (allc ?_ alln))
   | refine XV [9] (by decide +kernel) q (allc ?_ alln)
   | refine XV [10] (by decide +kernel) q (allc ?_ alln)
   | refine XV [5] (by decide +kernel) q (allc ?_ alln)
   | refine XV [2] (by decide +kernel) q (allc ?_ alln)
   | refine XC_done (by decide +kernel) (fun a ha => ?_); have Hc := Hc.nD 55 dt13; have Hc := Hc.nD 47 dt14; have Hc := ((((((Hc.p3).p4).p3).p4).p5).p6); exact ⟨bF, (nS), [], [], aq, ar, (nS), [], [], ha.sub ⟨q, q, q, trivial⟩, Hc⟩
 intro a di bJ
 obtain ⟨ad, aM, aU, aV, aa, ab, ah, aA, aB, ha, aX⟩ := bJ
 refine S ?_ ha
 clear ha
 refine C <| rR <| qF uf27 fi27_0 nz23 q q q ?_
 have bK := R aX.p0
 refine l u23 q bK q q q q ?_
 have bL := aX.viewG (Vw.c (Vw.c (Vw.c (Vw.d (Vw.c (Vw.c (Vw.d Vw.refl)))))))
 refine za bL (t := ty10) (C0.c.c.c.c.c.c.c) u23 q q q <| qM q q q <| B <| g ?_
 obtain ⟨bi, bM, h⟩ := D h
 have bN := aX.p6.p6.p6.p6.p6.p6.p6
 refine fun bO bj => zp (I := fun s a w2 => match s with | (aY, aC) => ∃ al aw ax, Fr a 55 [(1, pB b1), (2, pB b5), (3, pB ad), (18, A0), (19, iV (List.length B0 : Int)), (20, iV aY)] ∧ Holds M0 w w2 [.bx b1 27 [A0, A1, A2, iV B3, A4], .bx b5 27 [nS, nS, nS, iV 0, nS], .bx ad 27 [al, aa, ab, iV B3, ah], dpR 55 dt13 al aw aC ax, .sl 3 tI aa ai, .sl 3 tI ab aj, dpR 47 dt14 ah aA ([]) aB] G) (O := fun o e a w2 => match o with | q0 => e = .exit 0 ∧ ∃ aF aZ a0, Fr a 55 [(1, pB b1), (2, pB b5), (3, pB ad)] ∧ Holds M0 w w2 [.bx b1 27 [A0, A1, A2, iV B3, A4], .bx b5 27 [nS, nS, nS, iV 0, nS], .bx ad 27 [aF, aa, ab, iV B3, ah], dpR 55 dt13 aF aZ q0 a0, .sl 3 tI aa ai, .sl 3 tI ab aj, dpR 47 dt14 ah aA ([]) aB] G) bM ?_ ?_ ?_
 ·exact ⟨aM, aU, aV, bj.sub ⟨q, q, q, q, q, q, trivial⟩, bN⟩
 ·clear bj
  intro s dj a bP am bQ
  obtain ⟨aY, aC⟩ := s
  obtain ⟨al, aw, ax, ha, a1⟩ := bQ
  refine S ?_ ha
  clear ha
  refine rR <| A q (qt_lss q q) q q <| B <| C ?_
  refine Y q (fun a2 => ?_) (fun a2 => ?_)
  ·have am := if_t a2 am
   refine y <| C <| g <| C <| Z ?_
   obtain ⟨ae, bk, am⟩ := D am
   have bR := a1.viewG (Vw.c (Vw.c (Vw.c (Vw.d (Vw.c (Vw.c (Vw.d Vw.refl)))))))
   refine b bR (C0.c.c.c.c.c.c.c) bk u23 i55 q q q q (fun dk dl dm bS => ?_)
   obtain ⟨dn, bT, bU⟩ := a1.atN (C0.c.c.c.c.c.c.c) bk bS
   refine XL_load_agg (t := ty10) us55 uo55 i55 bT q q q (fun dq bV => ?_)
   obtain ⟨dr, ds, dt, du, rfl, bW, bX, bY⟩ := bV
   obtain ⟨rfl, _⟩ := bX
   obtain ⟨dv, dw, dx, dy, rfl, bZ, b0, b4⟩ := bY
   obtain ⟨ao, rfl, b6⟩ := Rep.sl_inv b0
   obtain ⟨rfl, _⟩ := b4
   have b7 : Holds _ w bP [.ro ty2 ao ae.2.1, .bx b1 27 [A0, A1, A2, iV B3, A4], .bx b5 27 [nS, nS, nS, iV 0, nS], .bx ad 27 [al, aa, ab, iV B3, ah], dpR 55 dt13 al aw aC ax, .sl 3 tI aa ai, .sl 3 tI ab aj, dpR 47 dt14 ah aA ([]) aB] G := bU [.ro ty2 ao ae.2.1] ⟨⟨_, _, _, _, q, b6, (fun k h => (fun k h => (fun _ h => h) k (by rw [bW]; exact zx _ h)) k (by rw [bZ]; exact List.mem_append_left _ h))⟩, trivial⟩
   change XL _ _ _ _ _ ((23, .agg #[iV ae.1, ao, iV ae.2.2]) :: _) _
   refine zq (cs := [iV 0, nS, iV 0]) b7 z55 q q q (fun bl dz bm => ?_)
   have b8 := bm.viewG (Vw.c (Vw.c (Vw.c (Vw.c (Vw.c (Vw.d (Vw.c (Vw.c (Vw.d Vw.refl)))))))))
   refine zl (cs' := [iV ae.1, ao, iV ae.2.2]) bm q il55 q (T q (T (b8.sliceOne hR1) (T q q))) q q q (fun dA b9 => ?_)
   refine B ?_
   obtain ⟨ap, ca, am⟩ := D am
   obtain ⟨cb, cc, am⟩ := D am
   refine WP_mid (Mid := fun a w2 => ∃ aP a3 a4, Fr a 55 [(1, pB b1), (2, pB b5), (3, pB ad), (18, A0), (19, iV (List.length B0 : Int)), (20, iV aY)] ∧ Holds M0 w w2 [.bx b1 27 [A0, A1, A2, iV B3, A4], .bx b5 27 [nS, nS, nS, iV 0, nS], .bx ad 27 [aP, aa, ab, iV B3, ah], dpR 55 dt13 aP a3 cb a4, .sl 3 tI aa ai, .sl 3 tI ab aj, dpR 47 dt14 ah aA ([]) aB] G) ?_ ?_
   ·refine WP_ordersT (fun w1 w2 => Chg (([dpR 55 dt13 al aw aC ax] : List Res).flatMap Res.own) w1 w2) 6 (by kernel_rfl) (fun a5 cd => ?_)
    have ce := b9.grow cd
    have bn := ce.p5
    have a6 : Ctx a5 ([dpR 55 dt13 al aw aC ax] ++ ([.bx bl 55 [iV ae.1, ao, iV ae.2.2], .ro ty2 ao ae.2.1, .bx b1 27 [A0, A1, A2, iV B3, A4], .bx b5 27 [nS, nS, nS, iV 0, nS], .bx ad 27 [al, aa, ab, iV B3, ah], .sl 3 tI aa ai, .sl 3 tI ab aj, .ro ty12 ah ([])] ++ G)) := bn.viewG (Vw.c (Vw.c (Vw.c (Vw.c (Vw.c (Vw.c (Vw.c (Vw.c (Vw.d Vw.refl)))))))))
    have cf : Holds _ a5 a5 [dpR 55 dt13 al aw aC ax] ([.bx bl 55 [iV ae.1, ao, iV ae.2.2], .ro ty2 ao ae.2.1, .bx b1 27 [A0, A1, A2, iV B3, A4], .bx b5 27 [nS, nS, nS, iV 0, nS], .bx ad 27 [al, aa, ab, iV B3, ah], .sl 3 tI aa ai, .sl 3 tI ab aj, .ro ty12 ah ([])] ++ G) := zb (Rs := [dpR 55 dt13 al aw aC ax]) a6
    have Hc := cf
    repeat' first
     | refine XDo 3 q ?_; have cg := Hc.viewG (Vw.d Vw.refl); refine zd q q c63 (w_impl_copyItem _ _ ae.1 ao ae.2.1 hR2 ae.2.2 ap ca cg) (by rfl) ?_; rintro _ _ ⟨a7, rfl, HK⟩; refine ⟨_, q, ?_⟩; have Hc := Hc.cV1 [] HK (zc (Pure.sl q) all_nil); refine XN Hc.chg ?_
     | refine XDo 4 q ?_; refine WL_buildD (Rs := [.sl 57 ty2 a7 ap.2.1]) (d := dt13) (args := [.tmp 27]) (xs := ([(ap.1, ap.2.1, ap.2.2)] : LI)) Hc (DBltL.one (cs' := [iV ap.1, a7, iV ap.2.2]) (DBlt.cast (DBlt.pair (DBlt.int (k := .i64) (n := ap.1)) (DBlt.pair (DBlt.sl (e := 57) (t := ty2) (v := a7) (x := ap.2.1) q) (DBlt.int (k := .i64) (n := ap.2.2)))) q q) q) u23 j55 q q q q q q (fun dB dC dD _ Hc => ?_); refine XN Hc.chg ?_
     | refine XDo 5 q ?_; have Hc := Hc.p1; refine WL_appendD Hc cc u23 j55 q q q q q q (fun ch ci cj _ Hc => ?_); refine XN Hc.chg ?_
     | have Hc := bn.cV1 [_] Hc (zc Pure.dp all_nil); refine XDo 6 q <| qF uf27 fi27_0 nz23 q q q <| XE q ?_
     | refine XDo 7 q ?_; have Hc := Hc.p5; have bo := Hc.viewG (Vw.c (Vw.d (Vw.c (Vw.c (Vw.c (Vw.c (Vw.c (Vw.c (Vw.d Vw.refl))))))))); refine WL_store_bx Hc q il23 (bo.sliceCells hR1) (bo.sliceOne hR1) q q q (fun _ Hc => ?_); refine XE q ?_
     | refine XQ (i := 0) q (by decide +kernel) q Hc.chg q (fun _ => qt_fieldAddr uf27 fi27_0 nz23 q) q q ?_
     | have ck := HasB.bx (HasB.c (HasB.c (HasB.c (HasB.c (HasB.c (HasB.hd)))))) Hc.ctx; refine XT (i := 1) q (by decide +kernel) q Hc.chg q (qs_cell u23 q q (ck.cell (i := 0) q) Hc.chg (Ctx.outB a6 (HasB.c (HasB.c (HasB.c (HasB.c (HasB.hd))))))) q q ?_
     | have cl := HasB.bx (HasB.c (HasB.hd)) Hc.ctx; refine XT (i := 2) q (by decide +kernel) q Hc.chg q (qs_agg (cs := [iV ae.1, ao, iV ae.2.2]) us55 uo55 il55 q (fun j z hj => by rw [Nat.zero_add]; exact cl.cell hj) Hc.chg (Ctx.outB a6 (HasB.hd))) q q ?_; change XC _ _ _ _ _ _ _ _ ((26, .agg #[iV ae.1, ao, iV ae.2.2]) :: _) _
     | refine XV [3] (by decide +kernel) q (allc ?_ alln)
     | refine XV [4] (by decide +kernel) q (allc ?_ alln)
     | refine XV [5] (by decide +kernel) q (allc ?_ alln)
     | refine XV [6] (by decide +kernel) q (allc ?_ alln)
     | refine XV [7] (by decide +kernel) q (allc ?_ alln)
     | refine XC_done (by decide +kernel) (fun a ha => ?_); have Hc := (((((((((Hc.q2).q2).p6).p6).p6).p4).p4).p6).p6); exact ⟨ch, ci, cj, ha.sub ⟨q, q, q, q, q, q, trivial⟩, Hc⟩
   intro a dE cm
   obtain ⟨aP, a3, a4, ha, cn⟩ := cm
   refine zi (X (S ?_ ha))
   refine Z <| A q (qt_add q q) q q <| qM q q q <| WL_nil fun a ha => ?_
   obtain rfl := L am
   have co := cn.p6.p6.p6.p6.p6.p6.p6
   exact ⟨q, aP, a3, a4, ha.sub ⟨q, q, q, q, q, q, trivial⟩, co⟩
  have am := if_f a2 am
  refine WP_exit fun a ha => ?_
  obtain rfl := L am
  have cp := a1.p6.p6.p6.p6.p6.p6.p6
  exact zo (⟨exit_ne, q, al, aw, ax, ha.sub ⟨q, q, q, trivial⟩, cp⟩)
 intro e bO dF cq
 obtain ⟨aE, rfl⟩ : ∃ z, z = bi := ⟨bi, q⟩
 obtain ⟨rfl, cr⟩ := cq
 obtain ⟨ag, aG, aH, ha, a8⟩ := cr
 refine zn (X (S ?_ ha))
 refine C <| rR <| qF uf27 fi27_4 nz25 q q q ?_
 have ct := R a8.p0
 refine l u25 q ct q q q q ?_
 have cu := a8.viewG (Vw.c (Vw.c (Vw.c (Vw.d (Vw.c (Vw.c (Vw.d Vw.refl)))))))
 refine za cu (t := ty12) (C4.c.c.c.c.c.c.c) u25 q q q <| qM q q q <| B <| g ?_
 obtain ⟨bp, cv, h⟩ := D h
 have cw := a8.q0.p5.p5.p5.p5.p5.p5
 refine fun cx bq => zp (I := fun s a w2 => match s with | (a9, aD) => ∃ an ay az, Fr a 55 [(2, pB b5), (3, pB ad), (33, A4), (34, iV (List.length B4 : Int)), (35, iV a9)] ∧ Holds M0 w w2 [.bx b5 27 [nS, nS, nS, iV 0, nS], .bx ad 27 [ag, aa, ab, iV B3, an], dpR 55 dt13 ag aG aE aH, .sl 3 tI aa ai, .sl 3 tI ab aj, dpR 47 dt14 an ay aD az] G) (O := fun o e a w2 => match o with | q0 => e = .exit 2 ∧ ∃ aF aZ a0, Fr a 55 [(2, pB b5), (3, pB ad)] ∧ Holds M0 w w2 [.bx b5 27 [nS, nS, nS, iV 0, nS], .bx ad 27 [ag, aa, ab, iV B3, aF], dpR 55 dt13 ag aG aE aH, .sl 3 tI aa ai, .sl 3 tI ab aj, dpR 47 dt14 aF aZ q0 a0] G) cv ?_ ?_ ?_
 ·exact ⟨ah, aA, aB, bq.sub ⟨q, q, q, q, q, trivial⟩, cw⟩
 ·clear bq
  intro s dG a cy ak cz
  obtain ⟨a9, aD⟩ := s
  obtain ⟨an, ay, az, ha, ba⟩ := cz
  refine S ?_ ha
  clear ha
  refine rR <| A q (qt_lss q q) q q <| B <| C ?_
  refine Y q (fun bb => ?_) (fun bb => ?_)
  ·have ak := if_t bb ak
   refine y <| C <| g <| C <| Z ?_
   obtain ⟨af, br, ak⟩ := D ak
   have cA := ba.viewG (Vw.c (Vw.c (Vw.d (Vw.c (Vw.c (Vw.d Vw.refl))))))
   refine b cA (C4.c.c.c.c.c.c) br u25 i47 q q q q (fun dH dI dJ cB => ?_)
   obtain ⟨dK, cC, cD⟩ := ba.atN (C4.c.c.c.c.c.c) br cB
   refine XL_load_agg (t := ty12) us47 uo47 i47 cC q q q (fun dL cE => ?_)
   obtain ⟨dM, dN, dO, dP, rfl, bs, cF, cG⟩ := cE
   obtain ⟨rfl, _⟩ := cF
   obtain ⟨dQ, dR, dS, dT, rfl, bt, cH, cI⟩ := cG
   obtain ⟨au, rfl, cJ⟩ := Rep.sl_inv cH
   obtain ⟨av, rfl, cK⟩ := Rep.sl_inv cI
   have cL : Holds _ w cy [.ro ty2 au af.2.1, .ro tI av af.2.2, .bx b5 27 [nS, nS, nS, iV 0, nS], .bx ad 27 [ag, aa, ab, iV B3, an], dpR 55 dt13 ag aG aE aH, .sl 3 tI aa ai, .sl 3 tI ab aj, dpR 47 dt14 an ay aD az] G := cD [.ro ty2 au af.2.1, .ro tI av af.2.2] ⟨⟨_, _, _, _, q, cJ, (fun k h => (fun k h => (fun _ h => h) k (by rw [bs]; exact zx _ h)) k (by rw [bt]; exact List.mem_append_left _ h))⟩, ⟨_, _, _, _, q, cK, (fun k h => (fun k h => (fun _ h => h) k (by rw [bs]; exact zx _ h)) k (by rw [bt]; exact zx _ h))⟩, trivial⟩
   change XL _ _ _ _ _ ((38, .agg #[iV af.1, au, av]) :: _) _
   refine zq (cs := [iV 0, nS, nS]) cL z47 q q q (fun bu dU bv => ?_)
   have bw := bv.viewG (Vw.c (Vw.c (Vw.c (Vw.c (Vw.c (Vw.d (Vw.c (Vw.c (Vw.d Vw.refl)))))))))
   refine zl (cs' := [iV af.1, au, av]) bv q il47 q (T q (T (bw.sliceOne hR1) (T (bw.sliceOne hR2) q))) q q q (fun dV cM => ?_)
   refine B ?_
   obtain ⟨aQ, cN, ak⟩ := D ak
   obtain ⟨aR, cO, ak⟩ := D ak
   obtain ⟨cP, cQ, ak⟩ := D ak
   refine WP_mid (Mid := fun a w2 => ∃ aS bc bd, Fr a 55 [(2, pB b5), (3, pB ad), (33, A4), (34, iV (List.length B4 : Int)), (35, iV a9)] ∧ Holds M0 w w2 [.bx b5 27 [nS, nS, nS, iV 0, nS], .bx ad 27 [ag, aa, ab, iV B3, aS], dpR 55 dt13 ag aG aE aH, .sl 3 tI aa ai, .sl 3 tI ab aj, dpR 47 dt14 aS bc cP bd] G) ?_ ?_
   ·refine WP_ordersT (fun w1 w2 => Chg (([dpR 47 dt14 an ay aD az] : List Res).flatMap Res.own) w1 w2) 13 (by kernel_rfl) (fun be cR => ?_)
    have cS := cM.grow cR
    have bz := cS.p8
    have aI : Ctx be ([dpR 47 dt14 an ay aD az] ++ ([.bx bu 47 [iV af.1, au, av], .ro ty2 au af.2.1, .ro tI av af.2.2, .bx b5 27 [nS, nS, nS, iV 0, nS], .bx ad 27 [ag, aa, ab, iV B3, an], .ro ty10 ag aE, .sl 3 tI aa ai, .sl 3 tI ab aj] ++ G)) := bz.viewG (Vw.c (Vw.c (Vw.c (Vw.c (Vw.c (Vw.c (Vw.d (Vw.c (Vw.c Vw.refl)))))))))
    have cT : Holds _ be be [dpR 47 dt14 an ay aD az] ([.bx bu 47 [iV af.1, au, av], .ro ty2 au af.2.1, .ro tI av af.2.2, .bx b5 27 [nS, nS, nS, iV 0, nS], .bx ad 27 [ag, aa, ab, iV B3, an], .ro ty10 ag aE, .sl 3 tI aa ai, .sl 3 tI ab aj] ++ G) := zb (Rs := [dpR 47 dt14 an ay aD az]) aI
    have Hc := cT
    repeat' first
     | refine XDo 6 q ?_; have cU := Hc.viewG (Vw.d Vw.refl); refine zd q q c64 (w_impl_copyTicket _ _ au af.2.1 hR2 aQ cN cU) (by rfl) ?_; rintro _ _ ⟨aJ, rfl, HK⟩; refine ⟨_, q, ?_⟩; have Hc := Hc.cV1 [] HK (zc (Pure.sl q) all_nil); refine XN Hc.chg ?_
     | refine XDo 9 q ?_; have cV := Hc.viewG (Vw.c (Vw.d Vw.refl)); refine zd q q c62 (w_impl_copyInts _ _ av af.2.2 hR4 aR cO cV) (by rfl) ?_; rintro _ _ ⟨aK, rfl, HK⟩; refine ⟨_, q, ?_⟩; have Hc := Hc.cV1 [] HK (zc (Pure.sl q) all_nil); refine XN Hc.chg ?_
     | refine XDo 11 q ?_; have Hc := Hc.p1; refine WL_buildD (Rs := [.sl 49 ty2 aJ aQ, .sl 3 tI aK aR]) (d := dt14) (args := [.tmp 49]) (xs := ([(af.1, aQ, aR)] : LT)) Hc (DBltL.one (cs' := [iV af.1, aJ, aK]) (DBlt.cast (DBlt.pair (DBlt.int (k := .i64) (n := af.1)) (DBlt.pair (DBlt.sl (e := 49) (t := ty2) (v := aJ) (x := aQ) q) (DBlt.sl (e := 3) (t := tI) (v := aK) (x := aR) q))) q q) q) u25 j47 q q q q q q (fun dW dX dY _ Hc => ?_); refine XN Hc.chg ?_
     | refine XDo 12 q ?_; have Hc := Hc.p1; refine WL_appendD Hc cQ u25 j47 q q q q q q (fun cW cX cY _ Hc => ?_); refine XN Hc.chg ?_
     | have Hc := bz.cV1 [_] Hc (zc Pure.dp all_nil); refine XDo 13 q <| qF uf27 fi27_4 nz25 q q q <| XE q ?_
     | refine XDo 14 q ?_; have Hc := Hc.p5; have bA := Hc.viewG (Vw.c (Vw.d (Vw.c (Vw.c (Vw.c (Vw.c (Vw.d (Vw.c (Vw.c Vw.refl))))))))); refine WL_store_bx Hc q il25 (bA.sliceCells hR1) (bA.sliceOne hR1) q q q (fun _ Hc => ?_); refine XE q ?_
     | refine XQ (i := 0) q (by decide +kernel) q Hc.chg q (fun _ => qt_fieldAddr uf27 fi27_4 nz25 q) q q ?_
     | have cZ := HasB.bx (HasB.c (HasB.c (HasB.c (HasB.c (HasB.c (HasB.hd)))))) Hc.ctx; refine XT (i := 1) q (by decide +kernel) q Hc.chg q (qs_cell u25 q q (cZ.cell (i := 4) q) Hc.chg (Ctx.outB aI (HasB.c (HasB.c (HasB.c (HasB.c (HasB.hd))))))) q q ?_
     | refine XQ (i := 2) q (by decide +kernel) q Hc.chg q (fun _ => qt_fieldAddr uf47 fi47_0 nz3 q) q q ?_
     | have c0 := HasB.bx (HasB.c (HasB.hd)) Hc.ctx; refine XT (i := 3) q (by decide +kernel) q Hc.chg q (qs_cell u3 q q (c0.cell (i := 0) q) Hc.chg (Ctx.outB aI (HasB.hd))) q q ?_
     | refine XQ (i := 4) q (by decide +kernel) q Hc.chg q (fun _ => qt_fieldAddr uf47 fi47_1 nz45 q) q q ?_
     | have c1 := HasB.bx (HasB.c (HasB.hd)) Hc.ctx; refine XT (i := 5) q (by decide +kernel) q Hc.chg q (qs_cell u45 q q (c1.cell (i := 1) q) Hc.chg (Ctx.outB aI (HasB.hd))) q q ?_
     | refine XQ (i := 7) q (by decide +kernel) q Hc.chg q (fun _ => qt_fieldAddr uf47 fi47_2 nz24 q) q q ?_
     | have c2 := HasB.bx (HasB.c (HasB.hd)) Hc.ctx; refine XT (i := 8) q (by decide +kernel) q Hc.chg q (qs_cell u24 q q (c2.cell (i := 2) q) Hc.chg (Ctx.outB aI (HasB.hd))) q q ?_
     | have bB := Hc.viewG (Vw.c (Vw.c (Vw.d Vw.refl))); refine XQ (i := 10) q (by decide +kernel) q Hc.chg q (fun _ => qt_build (args := [(0, .tmp 42), (1, .tmp 45), (2, .tmp 48)]) (css := [#[iV af.1], #[aJ], #[aK]]) (cells := #[iV af.1, aJ, aK]) q ⟨q, (bB.sliceCells hS1), (bB.sliceCells hS0), trivial⟩ (by kernel_rfl)) q q ?_
     | refine XV [6] (by decide +kernel) q (allc ?_ alln)
     | refine XV [9] (by decide +kernel) q (allc ?_ alln)
     | refine XV [11] (by decide +kernel) q (allc ?_ alln)
     | refine XV [12] (by decide +kernel) q (allc ?_ alln)
     | refine XV [13] (by decide +kernel) q (allc ?_ alln)
     | refine XV [14] (by decide +kernel) q (allc ?_ alln)
     | refine XC_done (by decide +kernel) (fun a ha => ?_); have Hc := (((((((((Hc.q2).q2).q2).p1).p5).p5).p5).p4).p5); exact ⟨cW, cX, cY, ha.sub ⟨q, q, q, q, q, trivial⟩, Hc⟩
   intro a dZ c3
   obtain ⟨aS, bc, bd, ha, c4⟩ := c3
   refine zi (X (S ?_ ha))
   refine Z <| A q (qt_add q q) q q <| qM q q q <| WL_nil fun a ha => ?_
   obtain rfl := L ak
   have c5 := c4.p5.p5.p5.p5.p5.p5
   exact ⟨q, aS, bc, bd, ha.sub ⟨q, q, q, q, q, trivial⟩, c5⟩
  have ak := if_f bb ak
  refine WP_exit fun a ha => ?_
  obtain rfl := L ak
  have da := ba.p5.p5.p5.p5.p5.p5
  exact zo (⟨exit_ne, q, an, ay, az, ha.sub ⟨q, q, trivial⟩, da⟩)
 intro e cx d0 db
 obtain ⟨d1, rfl⟩ : ∃ z, z = bp := ⟨bp, q⟩
 obtain ⟨rfl, dc⟩ := db
 obtain ⟨aL, dd, de, ha, bf⟩ := dc
 refine zn (X (S ?_ ha))
 refine C <| Z ?_
 have df := R bf.p1
 refine zm (cs := [ag, aa, ab, iV B3, aL]) us27 uo27 il27 df q q q ?_
 change XL _ _ _ _ _ ((54, .agg #[ag, aa, ab, iV B3, aL]) :: _) _
 have aT := bf.viewG (Vw.c (Vw.c (Vw.d (Vw.c (Vw.c (Vw.d Vw.refl))))))
 refine zl (cs' := [ag, aa, ab, iV B3, aL]) bf q il27 q (T (aT.sliceOne hR2) (T (aT.sliceOne hS3) (T (aT.sliceOne hS4) (T q (T (aT.sliceOne hR5) q))))) q q q (fun d2 bC => ?_)
 refine B <| W fun a ha => ?_
 obtain rfl := L h
 have dg := R bC.p0
 have dh := bC.q0.q0.p3.p3.p3.p3
 exact retc q ha q (run_loadVar_bx (cs := [ag, aa, ab, iV B3, aL]) us27 uo27 il27 dg) ⟨ag, aG, aH, aa, ab, aL, dd, de, q, dh⟩
theorem w_impl_isItem (w : World) (G : List Res) (bp0 : Nat) (A0 : Value) (B0 : LI) (C0 : Has G ty10 A0 B0) (A1 : Value) (B1 : List Int) (C1 : Has G tI A1 B1) (A2 : Value) (B2 : List Int) (C2 : Has G tI A2 B2) (B3 : Int) (A4 : Value) (B4 : LT) (C4 : Has G ty12 A4 B4) (p1 : Int) (p2 : Bool) (r : Bool) (h : impl_isItemS B0 B1 B2 B3 B4 p1 p2 = some r) (H : Ctx w ([.bx bp0 27 [A0, A1, A2, iV B3, A4]] ++ G)) : Calls Tryz.prog 65 #[pB bp0, iV p1, .bool p2] w fun e w' => e = .returned (.bool r) ∧ Holds (([.bx bp0 27 [A0, A1, A2, iV B3, A4]] : List Res).flatMap Res.own) w w' [.bx bp0 27 [A0, A1, A2, iV B3, A4]] G := by
 have H : Holds (([.bx bp0 27 [A0, A1, A2, iV B3, A4]] : List Res).flatMap Res.own) w w [.bx bp0 27 [A0, A1, A2, iV B3, A4]] G := zb H
 refine zg (args := [pB bp0, iV p1, .bool p2]) (n := 31) Tryz.func65 q q q ?_
 unfold impl_isItemS at h
 refine rR <| qA q q q <| rN <| qM q q q <| A q (qt_geq q q) q q <| qM q q q ?_
 refine zh 8 17 (.bool ((decide (p1 ≥ 0)) && (decide (p1 < (List.length B0 : Int))))) ?_ (fun md hmd hk => ?_)
 rotate_left
 ·obtain ⟨Q, rfl⟩ := Md.seq_of hmd
  rcases btf (decide (p1 ≥ 0)) with ab | ab
  ·skip
   refine qM (J q ab) q q <| qM (J q ab) q q <| qN (J q ab) q q <| qF uf27 fi27_0 nz23 (J q ab) q q ?_
   have af := R H.p0
   refine l u23 q af q (J q ab) q q <| za H.ctx (t := ty10) (C0.c) u23 (J q ab) q q <| A (J q ab) (qt_lss q q) q q <| A q (ze q ab q) q q ?_
   exact hk _ (p (by rw [ab]; rfl) (cfn 7 q (u)))
  skip
  refine qS q ab q q <| qS q ab q q <| qS q ab q q <| qS q ab q q <| qS q ab q q <| qS q ab q q <| qS q ab q q <| A q (zf q ab q) q q ?_
  exact hk _ (p (by rw [ab]; rfl) (cfn 7 q (u)))
 refine qM q q q ?_
 obtain ⟨b3, ad, h⟩ := D h
 refine zh 12 30 (.bool b3) ?_ (fun md hmd hk => ?_)
 rotate_left
 ·obtain ⟨Q, rfl⟩ := Md.seq_of hmd
  rcases btf ((decide (p1 ≥ 0)) && (decide (p1 < (List.length B0 : Int)))) with aa | aa
  ·skip
   have ad := if_t aa ad
   refine qM (J q aa) q q <| qN (J q aa) q q <| qF uf27 fi27_0 nz23 (J q aa) q q ?_
   have ag := R H.p0
   refine l u23 q ag q (J q aa) q q <| qM (J q aa) q q ?_
   obtain ⟨x7, ae, ad⟩ := D ad
   refine b H.ctx (C0.c) ae u23 i55 (J q aa) q q q (fun b9 ak al ah => ?_)
   refine qF uf55 fi55_0 nz3 (J q aa) q q ?_
   obtain ⟨am, ai, an⟩ := H.at (C0.c) ae ah
   obtain ⟨ao, aj, ap⟩ := AtP.fst ai
   refine zt (k := .i64) u3 q aj (J q aa) q q <| A (J q aa) (qt_gtr q q) q q <| qM (J q aa) q q <| A (J q aa) (qt_beql u4 q q) q q <| A q (ze q aa q) q q ?_
   exact hk _ (p (vb ad) (cfn 11 q (u)))
  skip
  refine qS q aa q q <| qS q aa q q <| qS q aa q q <| qS q aa q q <| qS q aa q q <| qS q aa q q <| qS q aa q q <| qS q aa q q <| qS q aa q q <| qS q aa q q ?_
  refine qS q aa q q <| A q (zf q aa q) q q ?_
  exact hk _ (p (vb (if_f aa ad)) (cfn 11 q (u)))
 refine qA q q q <| B <| W fun a ha => ?_
 obtain rfl := L h
 exact ret1 q ha q ⟨q, H⟩
theorem w_impl_doBuy (w : World) (G : List Res) (bp0 : Nat) (A0 : Value) (B0 : LI) (csp0_0 : List Value) (Fp0_0 : List Nat) (A1 : Value) (B1 : List Int) (A2 : Value) (B2 : List Int) (B3 : Int) (A4 : Value) (B4 : LT) (csp0_4 : List Value) (Fp0_4 : List Nat) (p1 : Int) (p2 : Int) (r : (List Int) × Int × Bool) (h : impl_doBuyS B0 B1 B2 B3 B4 p1 p2 = some r) (H : Ctx w ([.bx bp0 27 [A0, A1, A2, iV B3, A4], dpR 55 dt13 A0 csp0_0 B0 Fp0_0, .sl 3 tI A1 B1, .sl 3 tI A2 B2, dpR 47 dt14 A4 csp0_4 B4 Fp0_4] ++ G)) : Calls Tryz.prog 28 #[pB bp0, iV p1, iV p2] w fun e w' => e = .returned (.bool r.2.2) ∧ Holds (([.bx bp0 27 [A0, A1, A2, iV B3, A4], dpR 55 dt13 A0 csp0_0 B0 Fp0_0, .sl 3 tI A1 B1, .sl 3 tI A2 B2, dpR 47 dt14 A4 csp0_4 B4 Fp0_4] : List Res).flatMap Res.own) w w' [.bx bp0 27 [A0, A1, A2, iV r.2.1, A4], dpR 55 dt13 A0 csp0_0 B0 Fp0_0, .sl 3 tI A1 B1, .sl 3 tI A2 r.1, dpR 47 dt14 A4 csp0_4 B4 Fp0_4] G := by
 have H : Holds (([.bx bp0 27 [A0, A1, A2, iV B3, A4], dpR 55 dt13 A0 csp0_0 B0 Fp0_0, .sl 3 tI A1 B1, .sl 3 tI A2 B2, dpR 47 dt14 A4 csp0_4 B4 Fp0_4] : List Res).flatMap Res.own) w w [.bx bp0 27 [A0, A1, A2, iV B3, A4], dpR 55 dt13 A0 csp0_0 B0 Fp0_0, .sl 3 tI A1 B1, .sl 3 tI A2 B2, dpR 47 dt14 A4 csp0_4 B4 Fp0_4] G := zb H
 refine zg (args := [pB bp0, iV p1, iV p2]) (n := 45) Tryz.func28 q q q ?_
 unfold impl_doBuyS at h
 refine rR <| qA q q q <| B <| C <| rR <| qM q q q <| qM q q q ?_
 obtain ⟨x1, ak, h⟩ := D h
 have V3 := H.viewG (Vw.c (Vw.d (Vw.c (Vw.c (Vw.d Vw.refl)))))
 refine zd q q c65 (w_impl_isItem w _ bp0 A0 B0 hR0 A1 B1 hS1 A2 B2 hS2 B3 A4 B4 hR3 p1 false x1 ak V3) (by rfl) ?_
 rintro _ w4 ⟨rfl, H5⟩; refine ⟨_, q, ?_⟩
 have H6 := H.cV1 [_] H5 (zc Pure.bx all_nil)
 refine A q (qt_not q) q q <| qM q q q ?_
 refine zh 3 14 (.bool ((!x1) || (decide (p2 < 1)))) ?_ (fun md hmd hk => ?_)
 rotate_left
 ·obtain ⟨Q, rfl⟩ := Md.seq_of hmd
  rcases btf (!x1) with aa | aa
  ·skip
   refine qS q aa q q <| qS q aa q q <| A q (ze q aa q) q q ?_
   exact hk _ (p (by rw [aa]; rfl) (cfn 2 q (u)))
  skip
  refine qM (J q aa) q q <| A (J q aa) (qt_lss q q) q q <| A q (zf q aa q) q q ?_
  exact hk _ (p (by rw [aa]; rfl) (cfn 2 q (u)))
 refine qM q q q ?_
 refine zh 3 18 (.bool (((!x1) || (decide (p2 < 1))) || (decide (p2 > 50)))) ?_ (fun md hmd hk => ?_)
 rotate_left
 ·obtain ⟨Q, rfl⟩ := Md.seq_of hmd
  rcases btf ((!x1) || (decide (p2 < 1))) with ab | ab
  ·skip
   refine qS q ab q q <| qS q ab q q <| A q (ze q ab q) q q ?_
   exact hk _ (p (by rw [ab]; rfl) (cfn 2 q (u)))
  skip
  refine qM (J q ab) q q <| A (J q ab) (qt_gtr q q) q q <| A q (zf q ab q) q q ?_
  exact hk _ (p (by rw [ab]; rfl) (cfn 2 q (u)))
 refine B ?_
 refine Y q (fun af => ?_) (fun af => ?_)
 ·have h := if_t af h
  refine rR <| qA q q q <| B <| W fun a ha => ?_
  obtain rfl := L h
  have al := H6.p4.p4.p4.p4.p4
  exact m (ret1 q ha q ⟨q, al⟩)
 have h := if_f af h
 refine y <| C ?_
 refine WP_tail 13 (by kernel_rfl) (by kernel_rfl) (fun aC am => ?_)
 have ad := H6.grow am
 refine qM q q q <| qN q q q <| qF uf27 fi27_3 nz3 q q q ?_
 have an := R ad.p0
 refine l u3 q an q q q q <| qM q q q <| qM q q q <| qN q q q <| qF uf27 fi27_1 nz24 q q q ?_
 have ao := R ad.p0
 refine l u24 q ao q q q q <| qM q q q ?_
 obtain ⟨aD, ag, h⟩ := D h
 have ap := ad.viewG (Vw.c (Vw.d (Vw.c (Vw.c (Vw.d Vw.refl)))))
 refine b ap hS2 ag u24 i3 q q q q (fun aE aF aG aq => ?_)
 obtain ⟨aH, ar, aI⟩ := ad.at hS2 ag aq
 refine zt (k := .i64) u3 q ar q q q <| A q (qt_mul q q) q q <| SL_nil <| A q (qt_sub q q) q q <| qN q q q <| qF uf27 fi27_3 nz3 q q q ?_
 refine WL_store_bx ad q il3 q q q q q (fun aJ ae => ?_)
 refine rN <| qM q q q <| qN q q q <| qF uf27 fi27_2 nz24 q q q ?_
 have au := R ae.p0
 refine l u24 q au q q q q <| qM q q q ?_
 obtain ⟨av, ah, h⟩ := D h
 have ai := ae.viewG (Vw.c (Vw.d (Vw.c (Vw.c (Vw.d Vw.refl)))))
 refine b ai hS3 ah u24 i3 q q q q (fun aK aL aM aw => ?_)
 obtain ⟨aN, ax, aO⟩ := ae.at hS3 ah aw
 refine zt (k := .i64) u3 q ax q q q <| qM q q q <| A q (qt_add q q) q q ?_
 obtain ⟨aP, aj, h⟩ := D h
 refine b ai hS3 aj u24 i3 q q q q (fun aQ aR aS ay => ?_)
 have az := ae.p3
 refine WL_storeH (fo := 0) (cs' := [iV (IntKind.wrap .i64 (av + p2))]) az aj ay (Upd.whole (Blt.int)) q il3 q q q q (fun aT aA => ?_)
 refine rN <| qA q q q <| B <| W fun a ha => ?_
 obtain rfl := L h
 have aB := aA.p4.p1.p4.p4.p4
 exact ret1 q ha q ⟨q, aB⟩
theorem w_impl_runMakes (w : World) (G : List Res) (B0 : Int) (A1 : Value) (B1 : LP) (C1 : Has G ty2 A1 B1) (B2 : Int) (r : Int) (h : impl_runMakesS B0 B1 B2 = some r) (H : Ctx w G) : Calls Tryz.prog 91 #[.agg #[iV B0, A1, iV B2]] w fun e w' => e = .returned (iV r) ∧ Holds M0 w w' [] G := by
 have H : Holds M0 w w [] G := zb H
 refine zg (args := [.agg #[iV B0, A1, iV B2]]) (n := 8) Tryz.func91 q q q ?_
 unfold impl_runMakesS at h
 refine C <| Z ?_
 refine WL_box (cs := [iV B0, A1, iV B2]) H q q q q (fun b1 w2 H3 => ?_)
 refine qA q q q <| B <| C <| rR <| qF uf55 fi55_0 nz3 q q q ?_
 have ab := R H3.p0
 refine l u3 q ab q q q q <| A q (qt_eql q q) q q <| B ?_
 refine Y q (fun aa => ?_) (fun aa => ?_)
 ·have h := if_t aa h
  refine rR <| qA q q q <| B <| W fun a ha => ?_
  obtain rfl := L h
  have H7 := H3.q0
  exact m (ret1 q ha q ⟨q, H7⟩)
 have h := if_f aa h
 refine y <| rR <| qF uf55 fi55_0 nz3 q q q ?_
 have ad := R H3.p0
 refine l u3 q ad q q q q <| qA q q q <| B <| W fun a ha => ?_
 obtain rfl := L h
 have H9 := H3.q0
 exact ret1 q ha q ⟨q, H9⟩
theorem w_impl_MakeRun (w : World) (G : List Res) (vp0 : Value) (p0 : LI) (hp0 : Has G ty10 vp0 p0) (vp1 : Value) (p1 : List Int) (hp1 : Has G tI vp1 p1) (A2_0 : Value) (p2_0 : List Int) (hp2_0 : Has G tI A2_0 p2_0) (A2_1 : Value) (p2_1 : List Int) (hp2_1 : Has G tI A2_1 p2_1) (r : (List Int) × Bool) (h : impl_MakeRunS p0 p1 p2_0 p2_1 = some r) (H : Ctx w G) : Calls Tryz.prog 66 #[vp0, vp1, .agg #[A2_0, A2_1]] w fun e w' => ∃ (v1 : Value), e = .returned (.tuple #[v1, .bool r.2]) ∧ Holds M0 w w' [.sl 3 tI v1 r.1] G := by
 have H : Holds M0 w w [] G := zb H
 refine zg (args := [vp0, vp1, .agg #[A2_0, A2_1]]) (n := 85) Tryz.func66 q q q ?_
 unfold impl_MakeRunS at h
 refine C <| Z ?_
 refine WL_box (cs := [A2_0, A2_1]) H q q q q (fun b1 w2 H3 => ?_)
 refine qA q q q <| qA q q q <| B <| C <| C <| zk <| qM q q q ?_
 obtain ⟨x5, a6, h⟩ := D h
 refine QC q q c76 (fun w' hb => w_impl_ItemsValid w' _ vp0 p0 (hp0.c) x5 a6 (H3.grow hb).ctx) (by rfl) <| A q (qt_not q) q q <| qM q q q ?_
 obtain ⟨b7, al, h⟩ := D h
 refine zh 6 22 (.bool b7) ?_ (fun md hmd hk => ?_)
 rotate_left
 ·obtain ⟨K, rfl⟩ := zr hmd
  rcases btf (!x5) with ah | ah
  ·skip
   refine qS q ah q q <| qS q ah q q <| qS q ah q q <| qS q ah q q <| qS q ah q q <| A q (ze q ah q) q q ?_
   exact hk _ (p (vb (if_t ah al)) (cfn 5 q (u)))
  skip
  have al := if_f ah al
  refine qM (J q ah) q q <| qM (J q ah) q q <| za H3.ctx (t := ty10) (hp0.c) u23 (J q ah) q q ?_
  obtain ⟨a7, a8, al⟩ := D al
  refine QC (J q ah) q c42 (fun w' hb => w_impl_amountsOk w' _ vp1 p1 (hp1.c) (List.length p0 : Int) 50 a7 a8 (H3.grow hb).ctx) (by rfl) <| A (J q ah) (qt_not q) q q <| A q (zf q ah q) q q ?_
  exact hk _ (p (vb al) (cfn 5 q (u)))
 refine qM q q q ?_
 obtain ⟨a9, am, h⟩ := D h
 refine zh 7 30 (.bool a9) ?_ (fun md hmd hk => ?_)
 rotate_left
 ·obtain ⟨K, rfl⟩ := zr hmd
  rcases btf b7 with af | af
  ·skip
   refine qS q af q q <| qS q af q q <| qS q af q q <| qS q af q q <| qS q af q q <| qS q af q q <| A q (ze q af q) q q ?_
   exact hk _ (p (vb (if_t af am)) (cfn 6 q (u)))
  skip
  have am := if_f af am
  refine qF uf101 fi101_0 nz24 (J q af) q q ?_
  have ba := R H3.p0
  refine l u24 q ba q (J q af) q q <| qM (J q af) q q <| za H3.ctx (t := ty10) (hp0.c) u23 (J q af) q q ?_
  obtain ⟨bb, bc, am⟩ := D am
  refine QC (J q af) q c42 (fun w' hb => w_impl_amountsOk w' _ A2_0 p2_0 (hp2_0.c) (List.length p0 : Int) 9999999 bb bc (H3.grow hb).ctx) (by rfl) <| A (J q af) (qt_not q) q q <| A q (zf q af q) q q ?_
  exact hk _ (p (vb am) (cfn 6 q (u)))
 refine QL_nil fun a ha bd be => ?_
 have aB := H3.grow be
 refine X (S ?_ ha)
 refine Y q (fun aC => ?_) (fun aC => ?_)
 ·have h := if_t aC h
  refine rR <| qA q q q <| qA q q q <| B <| W fun a ha => ?_
  obtain rfl := L h
  have bf := aB.nS 3 tI
  have bg := bf.q1
  exact m (ret2 q ha q q ⟨(nS), q, bg⟩)
 have h := if_f aC h
 refine y <| rR <| qM q q q ?_
 obtain ⟨bh, bi, h⟩ := D h
 refine zd q q c62 (w_impl_copyInts bd _ vp1 p1 (hp1.c) bh bi aB.ctx) (by rfl) ?_
 rintro _ cC ⟨ai, rfl, bj⟩; refine ⟨_, q, ?_⟩
 have aN := aB.cN1 [] bj
 refine qA q q q <| B <| C <| rR <| qM q q q <| za aN.ctx (t := ty10) (hp0.c.c) u23 q q q <| qM q q q <| B <| g ?_
 obtain ⟨an, bk, h⟩ := D h
 have bl := aN.p1
 refine fun bm aO => zp (I := fun s a w2 => match s with | (ak, aD) => (Fr a 85 [(5, pB b1), (8, ai), (33, vp0), (34, iV (List.length p0 : Int)), (35, iV ak)] ∧ Holds M0 w w2 [.bx b1 101 [A2_0, A2_1], .sl 3 tI ai aD] G)) (O := fun o e a w2 => match o with | .inl q0 => e = .exit 0 ∧ (Fr a 85 [(8, ai)] ∧ Holds M0 w w2 [.sl 3 tI ai q0] G) | .inr (q0, q1, q2) => e = .ret ∧ ∃ aq, Fr a 85 [(6, aq), (7, .bool q1)] ∧ Holds M0 w w2 [.sl 3 tI aq q0] G) bk ?_ ?_ ?_
 ·exact ⟨aO.sub ⟨q, q, q, q, q, trivial⟩, bl⟩
 ·clear aO
  intro s cD a bn ae bo
  obtain ⟨ak, aD⟩ := s
  obtain ⟨ha, aE⟩ := bo
  refine S ?_ ha
  clear ha
  refine rR <| A q (qt_lss q q) q q <| B <| C ?_
  refine Y q (fun aF => ?_) (fun aF => ?_)
  ·have ae := if_t aF ae
   refine y <| C <| g <| rR <| qM q q q ?_
   obtain ⟨aa, aP, ae⟩ := D ae
   refine b aE.ctx (hp0.c.c) aP u23 i55 q q q q (fun cE cF cG bp => ?_)
   obtain ⟨cH, bq, br⟩ := aE.atN (hp0.c.c) aP bp
   refine XL_load_agg (t := ty10) us55 uo55 i55 bq q q q (fun cI bs => ?_)
   obtain ⟨c54, c55, cJ, cK, rfl, bt, bu, bv⟩ := bs
   obtain ⟨rfl, _⟩ := bu
   obtain ⟨c61, c62, cL, cM, rfl, bw, bz, bA⟩ := bv
   obtain ⟨ag, rfl, bB⟩ := Rep.sl_inv bz
   obtain ⟨rfl, _⟩ := bA
   have bC : Holds _ w bn [.ro ty2 ag aa.2.1, .bx b1 101 [A2_0, A2_1], .sl 3 tI ai aD] G := br [.ro ty2 ag aa.2.1] ⟨⟨_, _, _, _, q, bB, (fun k h => (fun k h => (fun _ h => h) k (by rw [bt]; exact zx _ h)) k (by rw [bw]; exact List.mem_append_left _ h))⟩, trivial⟩
   change XL _ _ _ _ _ ((39, .agg #[iV aa.1, ag, iV aa.2.2]) :: _) _
   refine zq (cs := [iV 0, nS, iV 0]) bC z55 q q q (fun ao cN aQ => ?_)
   refine qA q q q ?_
   refine zl (cs' := [iV aa.1, ag, iV aa.2.2]) aQ q il55 q (T q (T (aQ.ctx.sliceOne hR1) (T q q))) q q q (fun cO aG => ?_)
   refine B <| C <| rR <| qF uf55 fi55_1 nz53 q q q ?_
   have bD := R aG.p0
   refine l u53 q bD q q q q <| za aG.ctx (t := ty2) hR1 u53 q q q <| qM q q q <| B <| g ?_
   obtain ⟨ap, bE, ae⟩ := D ae
   have bF := aG.p1.p1.p3.p3
   refine fun bG aR => zp (I := fun s a w2 => match s with | (aS, aT) => (Fr a 85 [(5, pB b1), (8, ai), (9, iV ak), (10, pB ao), (33, vp0), (34, iV (List.length p0 : Int)), (35, iV ak), (41, ag), (42, iV (List.length aa.2.1 : Int)), (43, iV aS)] ∧ Holds M0 w w2 [.bx b1 101 [A2_0, A2_1], .sl 3 tI ai aT, .bx ao 55 [iV aa.1, ag, iV aa.2.2], .ro ty2 ag aa.2.1] G)) (O := fun o e a w2 => match o with | .inl q0 => e = .exit 2 ∧ (Fr a 85 [(5, pB b1), (8, ai), (9, iV ak), (10, pB ao), (33, vp0), (34, iV (List.length p0 : Int)), (35, iV ak)] ∧ Holds M0 w w2 [.bx b1 101 [A2_0, A2_1], .sl 3 tI ai q0, .bx ao 55 [iV aa.1, ag, iV aa.2.2], .ro ty2 ag aa.2.1] G) | .inr (q0, q1, q2) => e = .ret ∧ ∃ aq, Fr a 85 [(6, aq), (7, .bool q1)] ∧ Holds M0 w w2 [.sl 3 tI aq q0] G) bE ?_ ?_ ?_
   ·exact ⟨aR.sub ⟨q, q, q, q, q, q, q, q, q, q, trivial⟩, bF⟩
   ·clear aR
    intro s cP a cQ ad bH
    obtain ⟨aS, aT⟩ := s
    obtain ⟨ha, aw⟩ := bH
    refine S ?_ ha
    clear ha
    refine rR <| A q (qt_lss q q) q q <| B <| C ?_
    refine Y q (fun aH => ?_) (fun aH => ?_)
    ·have ad := if_t aH ad
     refine y <| C <| g <| C <| Z ?_
     obtain ⟨ar, aU, ad⟩ := D ad
     refine b aw.ctx hR3 aU u53 i57 q q q q (fun cR cS cT bI => ?_)
     obtain ⟨cU, bJ, cV⟩ := aw.atN hR3 aU bI
     refine XL_load_agg (t := ty2) us57 uo57 i57 bJ q q q (fun cW bK => ?_)
     obtain ⟨c103, cX, cY, cZ, rfl, c0, bL, bM⟩ := bK
     obtain ⟨rfl, _⟩ := bL
     obtain ⟨rfl, _⟩ := bM
     change XL _ _ _ _ _ ((46, .agg #[iV ar.1, iV ar.2]) :: _) _
     refine zq (cs := [iV 0, iV 0]) aw z57 q q q (fun c1 c2 bN => ?_)
     refine zl (cs' := [iV ar.1, iV ar.2]) bN q il57 q q q q q (fun c3 bO => ?_)
     refine B <| C ?_
     refine WP_tail 13 (by kernel_rfl) (by kernel_rfl) (fun c4 bP => ?_)
     have aj := bO.grow bP
     refine qM q q q <| qF uf57 fi57_0 nz3 q q q ?_
     have bQ := R aj.p0
     refine l u3 q bQ q q q q ?_
     obtain ⟨bR, aV, ad⟩ := D ad
     refine b aj.ctx hS2 aV u24 i3 q q q q (fun c5 da db bS => ?_)
     obtain ⟨dc, bT, dd⟩ := aj.at hS2 aV bS
     refine zt (k := .i64) u3 q bT q q q <| qF uf101 fi101_0 nz24 q q q ?_
     have bU := R aj.p1
     refine l u24 q bU q q q q <| qM q q q ?_
     obtain ⟨bV, aW, ad⟩ := D ad
     refine b aj.ctx (hp2_0.c.c.c.c.c) aW u24 i3 q q q q (fun de df dg bW => ?_)
     obtain ⟨dh, bX, di⟩ := aj.at (hp2_0.c.c.c.c.c) aW bW
     refine zt (k := .i64) u3 q bX q q q <| qF uf57 fi57_1 nz3 q q q ?_
     have bY := R aj.p0
     refine l u3 q bY q q q q <| A q (qt_mul q q) q q <| SL_nil <| A q (qt_sub q q) q q ?_
     obtain ⟨dj, aX, ad⟩ := D ad
     refine b aj.ctx hS2 aX u24 i3 q q q q (fun dk dl dm bZ => ?_)
     have b0 := aj.p2
     refine WL_storeH (fo := 0) (cs' := [iV (IntKind.wrap .i64 (bR - (IntKind.wrap .i64 (bV * ar.2))))]) b0 aX bZ (Upd.whole (Blt.int)) q il3 q q q q (fun dn au => ?_)
     refine rN <| qM q q q <| qF uf57 fi57_0 nz3 q q q ?_
     have b4 := R au.p1
     refine l u3 q b4 q q q q ?_
     obtain ⟨dq, aY, ad⟩ := D ad
     refine b au.ctx hS0 aY u24 i3 q q q q (fun dr ds dt b5 => ?_)
     obtain ⟨du, b6, dv⟩ := au.at hS0 aY b5
     refine zt (k := .i64) u3 q b6 q q q <| A q (qt_lss q q) q q <| B ?_
     refine Y q (fun aI => ?_) (fun aI => ?_)
     ·have ad := if_t aI ad
      refine rR <| qA q q q <| qA q q q <| B <| W fun a ha => ?_
      obtain rfl := L ad
      have b8 := au.nS 3 tI
      have b9 := b8.q1.q1.q1.q1.q1
      exact zj (m (⟨ret_ne, q, (nS), ha.sub ⟨q, q, trivial⟩, b9⟩))
     have ad := if_f aI ad
     refine WP_skip fun a ha => ?_
     refine zi (X (S ?_ ha))
     refine Z <| A q (qt_add q q) q q <| qM q q q <| WL_nil fun a ha => ?_
     obtain rfl := L ad
     have ca := au.q1.p3.p3.p2.p3
     exact ⟨q, ha.sub ⟨q, q, q, q, q, q, q, q, q, q, trivial⟩, ca⟩
    have ad := if_f aH ad
    refine WP_exit fun a ha => ?_
    obtain rfl := L ad
    have cb := aw.p3.p3.p3.p3
    exact zo (⟨exit_ne, q, ha.sub ⟨q, q, q, q, q, q, q, trivial⟩, cb⟩)
   intro e bG dw aZ
   rcases ap with ap | ap
   ·skip
    obtain ⟨aJ, rfl⟩ : ∃ z, z = ap := ⟨ap, q⟩
    obtain ⟨rfl, cc⟩ := aZ
    obtain ⟨ha, cd⟩ := cc
    refine zn (X (S ?_ ha))
    obtain ⟨a0, ax, ae⟩ := D ae
    obtain ⟨a1, ay, ae⟩ := D ae
    obtain ⟨aK, ce, ae⟩ := D ae
    obtain ⟨dx, a2, ae⟩ := D ae
    refine WP_mid (Mid := fun a w2 => (Fr a 85 [(5, pB b1), (8, ai), (33, vp0), (34, iV (List.length p0 : Int)), (35, iV ak)] ∧ Holds M0 w w2 [.bx b1 101 [A2_0, A2_1], .sl 3 tI ai (List.set aJ (Int.toNat ak) (IntKind.wrap .i64 (a0 + (IntKind.wrap .i64 (a1 * aK)))))] G)) ?_ ?_
    ·refine WP_ordersT (fun w1 w2 => Chg M0 w1 w2) 13 (by kernel_rfl) (fun az cf => ?_)
     have a3 := cd.grow cf
     have av : Ctx az ([] ++ ([.bx b1 101 [A2_0, A2_1], .sl 3 tI ai aJ, .bx ao 55 [iV aa.1, ag, iV aa.2.2], .ro ty2 ag aa.2.1] ++ G)) := a3.ctx
     have ab : Holds _ az az [] ([.bx b1 101 [A2_0, A2_1], .sl 3 tI ai aJ, .bx ao 55 [iV aa.1, ag, iV aa.2.2], .ro ty2 ag aa.2.1] ++ G) := zb (Rs := []) av
     refine XQ (i := 0) q (by kernel_rfl) q ab.chg q (fun _ => qt_move q) q q <| XQ (i := 1) q (by kernel_rfl) q ab.chg q (fun _ => qt_move q) q q ?_
     obtain ⟨dy, dz, dA, aL⟩ := Ctx.isAt ab.ctx hS1 ax
     refine XT (i := 2) q (by kernel_rfl) q ab.chg q (qs_index ax aL u24 i3 q q) q q ?_
     obtain ⟨dB, cg, dC⟩ := ab.at hS1 ax aL
     refine XT (i := 3) q (by kernel_rfl) q ab.chg q (qs_cell u3 q q (AtP.cInt cg) ab.chg (Ctx.outHas av hS1 ax aL)) q q <| XQ (i := 4) q (by kernel_rfl) q ab.chg q (fun _ => qt_fieldAddr uf101 fi101_0 nz24 q) q q ?_
     have ch := HasB.bx (HasB.hd) ab.ctx
     refine XT (i := 5) q (by kernel_rfl) q ab.chg q (qs_cell u24 q q (ch.cell (i := 0) q) ab.chg (Ctx.outB av (HasB.hd))) q q <| XQ (i := 6) q (by kernel_rfl) q ab.chg q (fun _ => qt_move q) q q ?_
     obtain ⟨dD, dE, dF, aM⟩ := Ctx.isAt ab.ctx (hp2_0.c.c.c.c) ay
     refine XT (i := 7) q (by kernel_rfl) q ab.chg q (qs_index ay aM u24 i3 q q) q q ?_
     obtain ⟨dG, ci, dH⟩ := ab.at (hp2_0.c.c.c.c) ay aM
     refine XT (i := 8) q (by kernel_rfl) q ab.chg q (qs_cell u3 q q (AtP.cInt ci) ab.chg (Ctx.outHas av (hp2_0.c.c.c.c) ay aM)) q q ?_
     have cj := HasB.bx (HasB.c (HasB.c (HasB.hd))) ab.ctx
     refine XT (i := 9) q (by kernel_rfl) q ab.chg q (qs_agg (cs := [iV aa.1, ag, iV aa.2.2]) us55 uo55 il55 q (fun j z hj => by rw [Nat.zero_add]; exact cj.cell hj) ab.chg (Ctx.outB av (HasB.c (HasB.c (HasB.hd))))) q q ?_
     change XC _ _ _ _ _ _ _ _ ((78, .agg #[iV aa.1, ag, iV aa.2.2]) :: _) _
     refine X1 10 (by kernel_rfl) q <| zd q q c91 (w_impl_runMakes az _ aa.1 ag aa.2.1 hR3 aa.2.2 aK ce ab.ctx) (by rfl) ?_
     rintro _ dI ⟨rfl, ck⟩; refine ⟨_, q, ?_⟩
     have aA := ab.cN0 [] ck
     refine XN aA.chg <| XQ (i := 11) q (by kernel_rfl) q aA.chg q (fun _ => qt_mul q q) q q <| XQ (i := 12) q (by kernel_rfl) q aA.chg q (fun _ => qt_add q q) q q ?_
     have a4 := a3.cN0 [] aA
     refine X1 13 (by kernel_rfl) q ?_
     refine b a4.ctx hS1 a2 u24 i3 q q q q (fun dJ dK dL cl => ?_)
     refine XE q <| X1 14 (by kernel_rfl) q ?_
     have cm := a4.p1
     refine WL_storeH (fo := 0) (cs' := [iV (IntKind.wrap .i64 (a0 + (IntKind.wrap .i64 (a1 * aK))))]) cm a2 cl (Upd.whole (Blt.int)) q il3 q q q q (fun dM cn => ?_)
     refine XE q ?_
     refine XC_done (by kernel_rfl) (fun a ha => ?_)
     have co := cn.q2.q2.p1
     exact ⟨ha.sub ⟨q, q, q, q, q, trivial⟩, co⟩
    intro a dN cp
    obtain ⟨ha, cq⟩ := cp
    refine zi (X (S ?_ ha))
    refine Z <| A q (qt_add q q) q q <| qM q q q <| WL_nil fun a ha => ?_
    obtain rfl := L ae
    have cr := cq.p1.p1
    exact ⟨q, ha.sub ⟨q, q, q, q, q, trivial⟩, cr⟩
   skip
   obtain ⟨dO, dP, dQ⟩ := ap
   obtain ⟨rfl, ct⟩ := aZ
   obtain ⟨cu, ha, cv⟩ := ct
   obtain rfl := L ae
   exact zj (m (zj (m (⟨ret_ne, q, cu, ha.sub ⟨q, q, trivial⟩, cv⟩))))
  have ae := if_f aF ae
  refine WP_exit fun a ha => ?_
  obtain rfl := L ae
  have cw := aE.q0
  exact zo (⟨exit_ne, q, ha.sub ⟨q, trivial⟩, cw⟩)
 intro e bm dR a5
 rcases an with an | an
 ·skip
  obtain ⟨dS, rfl⟩ : ∃ z, z = an := ⟨an, q⟩
  obtain ⟨rfl, cx⟩ := a5
  obtain ⟨ha, cy⟩ := cx
  refine zn (X (S ?_ ha))
  refine rR <| qM q q q <| qA q q q <| qA q q q <| B <| W fun a ha => ?_
  obtain rfl := L h
  exact ret2 q ha q q ⟨ai, q, cy⟩
 skip
 obtain ⟨dT, dU, dV⟩ := an
 obtain ⟨rfl, cz⟩ := a5
 obtain ⟨cA, ha, cB⟩ := cz
 obtain rfl := L h
 exact zj (m (ret2 q ha q q ⟨cA, q, cB⟩))
theorem w_impl_doMake (w : World) (G : List Res) (bp0 : Nat) (A0 : Value) (B0 : LI) (csp0_0 : List Value) (Fp0_0 : List Nat) (A1 : Value) (B1 : List Int) (A2 : Value) (B2 : List Int) (B3 : Int) (A4 : Value) (B4 : LT) (csp0_4 : List Value) (Fp0_4 : List Nat) (p1 : Int) (p2 : Int) (r : (List Int) × Bool) (h : impl_doMakeS B0 B1 B2 B3 B4 p1 p2 = some r) (H : Ctx w ([.bx bp0 27 [A0, A1, A2, iV B3, A4], dpR 55 dt13 A0 csp0_0 B0 Fp0_0, .sl 3 tI A1 B1, .sl 3 tI A2 B2, dpR 47 dt14 A4 csp0_4 B4 Fp0_4] ++ G)) : Calls Tryz.prog 29 #[pB bp0, iV p1, iV p2] w fun e w' => ∃ (wp0_2 : Value), e = .returned (.bool r.2) ∧ Holds (([.bx bp0 27 [A0, A1, A2, iV B3, A4], dpR 55 dt13 A0 csp0_0 B0 Fp0_0, .sl 3 tI A1 B1, .sl 3 tI A2 B2, dpR 47 dt14 A4 csp0_4 B4 Fp0_4] : List Res).flatMap Res.own) w w' [.bx bp0 27 [A0, A1, wp0_2, iV B3, A4], dpR 55 dt13 A0 csp0_0 B0 Fp0_0, .sl 3 tI A1 B1, .sl 3 tI wp0_2 r.1, dpR 47 dt14 A4 csp0_4 B4 Fp0_4] G := by
 have H : Holds (([.bx bp0 27 [A0, A1, A2, iV B3, A4], dpR 55 dt13 A0 csp0_0 B0 Fp0_0, .sl 3 tI A1 B1, .sl 3 tI A2 B2, dpR 47 dt14 A4 csp0_4 B4 Fp0_4] : List Res).flatMap Res.own) w w [.bx bp0 27 [A0, A1, A2, iV B3, A4], dpR 55 dt13 A0 csp0_0 B0 Fp0_0, .sl 3 tI A1 B1, .sl 3 tI A2 B2, dpR 47 dt14 A4 csp0_4 B4 Fp0_4] G := zb H
 refine zg (args := [pB bp0, iV p1, iV p2]) (n := 53) Tryz.func29 q q q ?_
 unfold impl_doMakeS at h
 refine rR <| qA q q q <| B <| C <| rR <| qM q q q <| qM q q q ?_
 obtain ⟨x1, aA, h⟩ := D h
 have V3 := H.viewG (Vw.c (Vw.d (Vw.c (Vw.c (Vw.d Vw.refl)))))
 refine zd q q c65 (w_impl_isItem w _ bp0 A0 B0 hR0 A1 B1 hS1 A2 B2 hS2 B3 A4 B4 hR3 p1 true x1 aA V3) (by rfl) ?_
 rintro _ w4 ⟨rfl, H5⟩; refine ⟨_, q, ?_⟩
 have H6 := H.cV1 [_] H5 (zc Pure.bx all_nil)
 refine A q (qt_not q) q q <| qM q q q ?_
 refine zh 3 17 (.bool ((!x1) || (decide (p2 < 1)))) ?_ (fun md hmd hk => ?_)
 rotate_left
 ·obtain ⟨Q, rfl⟩ := Md.seq_of hmd
  rcases btf (!x1) with ad | ad
  ·skip
   refine qS q ad q q <| qS q ad q q <| A q (ze q ad q) q q ?_
   exact hk _ (p (by rw [ad]; rfl) (cfn 2 q (u)))
  skip
  refine qM (J q ad) q q <| A (J q ad) (qt_lss q q) q q <| A q (zf q ad q) q q ?_
  exact hk _ (p (by rw [ad]; rfl) (cfn 2 q (u)))
 refine qM q q q ?_
 refine zh 3 21 (.bool (((!x1) || (decide (p2 < 1))) || (decide (p2 > 50)))) ?_ (fun md hmd hk => ?_)
 rotate_left
 ·obtain ⟨Q, rfl⟩ := Md.seq_of hmd
  rcases btf ((!x1) || (decide (p2 < 1))) with ae | ae
  ·skip
   refine qS q ae q q <| qS q ae q q <| A q (ze q ae q) q q ?_
   exact hk _ (p (by rw [ae]; rfl) (cfn 2 q (u)))
  skip
  refine qM (J q ae) q q <| A (J q ae) (qt_gtr q q) q q <| A q (zf q ae q) q q ?_
  exact hk _ (p (by rw [ae]; rfl) (cfn 2 q (u)))
 refine B ?_
 refine Y q (fun am => ?_) (fun am => ?_)
 ·have h := if_t am h
  refine rR <| qA q q q <| B <| W fun a ha => ?_
  obtain rfl := L h
  have aB := H6.p4.p4.p4.p4.p4
  exact m (ret1 q ha q ⟨A2, q, aB⟩)
 have h := if_f am h
 refine y <| rR <| qM q q q <| qN q q q <| qF uf27 fi27_0 nz23 q q q ?_
 have aC := R H6.p0
 refine l u23 q aC q q q q ?_
 have aD := H6.viewG (Vw.c (Vw.d (Vw.c (Vw.c (Vw.d Vw.refl)))))
 refine za aD (t := ty10) hR1 u23 q q q ?_
 obtain ⟨an, aE, h⟩ := D h
 refine WL_makeH H6 aE u24 j3 q (fun _ => ⟨q, q⟩) q q q q q (fun ab a3 ar => ?_)
 have aF := ar.viewG (Vw.c (Vw.c (Vw.d (Vw.c (Vw.c (Vw.d Vw.refl))))))
 refine A q (qt_build (args := [(0, .tmp 27)]) (css := [#[ab]]) (cells := #[ab, nS]) q ⟨(aF.sliceCells hS0), trivial⟩ (by kernel_rfl)) q q ?_
 refine zq (cs := [nS, nS]) ar z101 q q q (fun au a4 av => ?_)
 have aG := av.viewG (Vw.c (Vw.c (Vw.c (Vw.d (Vw.c (Vw.c (Vw.d Vw.refl)))))))
 refine zl (cs' := [ab, nS]) av q il101 q (T (aG.sliceOne hS1) (T q q)) q q q (fun a5 ao => ?_)
 refine rN <| qF uf101 fi101_0 nz24 q q q ?_
 have aH := R ao.p0
 refine l u24 q aH q q q q <| qM q q q <| qM q q q ?_
 obtain ⟨a6, aw, h⟩ := D h
 have aI := ao.viewG (Vw.c (Vw.c (Vw.c (Vw.d (Vw.c (Vw.c (Vw.d Vw.refl)))))))
 refine b aI hS1 aw u24 i3 q q q q (fun a7 a8 a9 aJ => ?_)
 have aK := ao.p1
 refine WL_storeH (fo := 0) (cs' := [iV p2]) aK aw aJ (Upd.whole (Blt.int)) q il3 q q q q (fun ba aL => ?_)
 refine B <| C ?_
 obtain ⟨ah, aM, h⟩ := D h
 refine WP_join (M := fun a w2 => ∃ ai, Fr a 53 [(0, pB bp0), (8, ai), (9, .bool ah.2)] ∧ Holds (([.bx bp0 27 [A0, A1, A2, iV B3, A4], dpR 55 dt13 A0 csp0_0 B0 Fp0_0, .sl 3 tI A1 B1, .sl 3 tI A2 B2, dpR 47 dt14 A4 csp0_4 B4 Fp0_4] : List Res).flatMap Res.own) w w2 [.bx bp0 27 [A0, A1, A2, iV B3, A4], dpR 55 dt13 A0 csp0_0 B0 Fp0_0, .sl 3 tI A1 B1, .sl 3 tI A2 B2, dpR 47 dt14 A4 csp0_4 B4 Fp0_4, .sl 3 tI ai ah.1] G) ?_ ?_
 ·refine WP_ordersT (fun w1 w2 => Chg M0 w1 w2) 14 (by kernel_rfl) (fun aj aN => ?_)
  have ax := aL.grow aN
  have ak : Ctx aj ([] ++ ([.sl 3 tI ab (List.set an (Int.toNat p1) p2), .bx au 101 [ab, nS], .bx bp0 27 [A0, A1, A2, iV B3, A4], .ro ty10 A0 B0, .sl 3 tI A1 B1, .sl 3 tI A2 B2, .ro ty12 A4 B4] ++ G)) := ax.viewG (Vw.c (Vw.c (Vw.c (Vw.d (Vw.c (Vw.c (Vw.d Vw.refl)))))))
  have aa : Holds _ aj aj [] ([.sl 3 tI ab (List.set an (Int.toNat p1) p2), .bx au 101 [ab, nS], .bx bp0 27 [A0, A1, A2, iV B3, A4], .ro ty10 A0 B0, .sl 3 tI A1 B1, .sl 3 tI A2 B2, .ro ty12 A4 B4] ++ G) := zb (Rs := []) ak
  refine XQ (i := 0) q (by kernel_rfl) q aa.chg q (fun _ => qt_move q) q q <| XQ (i := 1) q (by kernel_rfl) q aa.chg q (fun _ => qt_nilCheck q) q q <| XQ (i := 2) q (by kernel_rfl) q aa.chg q (fun _ => qt_fieldAddr uf27 fi27_0 nz23 q) q q ?_
  have aO := HasB.bx (HasB.c (HasB.c (HasB.hd))) aa.ctx
  refine XT (i := 3) q (by kernel_rfl) q aa.chg q (qs_cell u23 q q (aO.cell (i := 0) q) aa.chg (Ctx.outB ak (HasB.c (HasB.c (HasB.hd))))) q q <| XQ (i := 4) q (by kernel_rfl) q aa.chg q (fun _ => qt_move q) q q <| XQ (i := 5) q (by kernel_rfl) q aa.chg q (fun _ => qt_nilCheck q) q q <| XQ (i := 6) q (by kernel_rfl) q aa.chg q (fun _ => qt_fieldAddr uf27 fi27_2 nz24 q) q q ?_
  have aP := HasB.bx (HasB.c (HasB.c (HasB.hd))) aa.ctx
  refine XT (i := 7) q (by kernel_rfl) q aa.chg q (qs_cell u24 q q (aP.cell (i := 2) q) aa.chg (Ctx.outB ak (HasB.c (HasB.c (HasB.hd))))) q q ?_
  have aQ := HasB.bx (HasB.c (HasB.hd)) aa.ctx
  refine XT (i := 8) q (by kernel_rfl) q aa.chg q (qs_agg (cs := [ab, nS]) us101 uo101 il101 q (fun j z hj => by rw [Nat.zero_add]; exact aQ.cell hj) aa.chg (Ctx.outB ak (HasB.c (HasB.hd)))) q q ?_
  change XC _ _ _ _ _ _ _ _ ((43, .agg #[ab, nS]) :: _) _
  refine X1 9 (by kernel_rfl) q <| zd q q c66 (w_impl_MakeRun aj _ A0 B0 hR3 A2 B2 hS5 ab (List.set an (Int.toNat p1) p2) hS0 (nS) ([] : List Int) (HasRo.has HasRo.nil) ah aM aa.ctx) (by rfl) ?_
  rintro _ bb ⟨aR, rfl, aS⟩; refine ⟨_, q, ?_⟩
  have af := aa.cN1 [] aS
  refine XN af.chg <| XQ (i := 10) q (by kernel_rfl) q af.chg q (fun _ => qt_move q) q q <| XQ (i := 11) q (by kernel_rfl) q af.chg q (fun _ => zv q q) q q <| XQ (i := 12) q (by kernel_rfl) q af.chg q (fun _ => zv q q) q q <| XQ (i := 13) q (by kernel_rfl) q af.chg q (fun _ => qt_assign q) q q ?_
  have aT := ax.cV1 [] af (zc (Pure.sl q) all_nil)
  refine X1 14 (by kernel_rfl) q <| qA q q q <| XE q ?_
  refine XC_done (by kernel_rfl) (fun a ha => ?_)
  have aU := aT.q1.q1.p5.p5.p5.p5.p5
  exact ⟨aR, ha.sub ⟨q, q, q, trivial⟩, aU⟩
 intro a bc aV
 obtain ⟨ai, ha, ap⟩ := aV
 refine S ?_ ha
 clear ha
 refine C <| rR <| qM q q q <| B ?_
 obtain ⟨ay, ag, h⟩ := D h
 obtain ⟨aW, rfl⟩ : ∃ z, z = ay := ⟨ay, q⟩
 refine WP_join (M := fun a w2 => ∃ al, Fr a 53 [(0, pB bp0), (9, .bool ah.2)] ∧ Holds (([.bx bp0 27 [A0, A1, A2, iV B3, A4], dpR 55 dt13 A0 csp0_0 B0 Fp0_0, .sl 3 tI A1 B1, .sl 3 tI A2 B2, dpR 47 dt14 A4 csp0_4 B4 Fp0_4] : List Res).flatMap Res.own) w w2 [.bx bp0 27 [A0, A1, al, iV B3, A4], dpR 55 dt13 A0 csp0_0 B0 Fp0_0, .sl 3 tI A1 B1, .sl 3 tI al aW, dpR 47 dt14 A4 csp0_4 B4 Fp0_4] G) ?_ ?_
 ·refine Y q (fun aq => ?_) (fun aq => ?_)
  ·have ag := if_t aq ag
   refine Z <| qM q q q <| qM q q q <| qN q q q <| qF uf27 fi27_2 nz24 q q q ?_
   have az := ap.viewG (Vw.c (Vw.d (Vw.c (Vw.c (Vw.d (Vw.c Vw.refl))))))
   refine WL_store_bx ap q il24 (az.sliceCells hS5) (az.sliceOne hS5) q q q (fun bd aX => ?_)
   refine WL_nil fun a ha => ?_
   obtain rfl := L ag
   have aY := aX.q3.p3.p4.p4.p4.p4
   exact X (⟨ai, ha.sub ⟨q, q, trivial⟩, aY⟩)
  have ag := if_f aq ag
  refine WP_skip fun a ha => ?_
  obtain rfl := L ag
  have aZ := ap.q5.p4.p4.p4.p4.p4
  exact X (⟨A2, ha.sub ⟨q, q, trivial⟩, aZ⟩)
 intro a be a0
 obtain ⟨al, ha, a1⟩ := a0
 refine S ?_ ha
 clear ha
 refine rR <| qM q q q <| qA q q q <| B <| W fun a ha => ?_
 obtain rfl := L h
 have a2 := a1.p4.p4.p4.p4.p4
 exact ret1 q ha q ⟨al, q, a2⟩
theorem w_impl_doOrder (w : World) (G : List Res) (bp0 : Nat) (A0 : Value) (B0 : LI) (csp0_0 : List Value) (Fp0_0 : List Nat) (A1 : Value) (B1 : List Int) (A2 : Value) (B2 : List Int) (B3 : Int) (A4 : Value) (B4 : LT) (csp0_4 : List Value) (Fp0_4 : List Nat) (p1 : Int) (p2 : Int) (p3 : Int) (r : (List Int) × LT × Bool) (h : impl_doOrderS B0 B1 B2 B3 B4 p1 p2 p3 = some r) (H : Ctx w ([.bx bp0 27 [A0, A1, A2, iV B3, A4], dpR 55 dt13 A0 csp0_0 B0 Fp0_0, .sl 3 tI A1 B1, .sl 3 tI A2 B2, dpR 47 dt14 A4 csp0_4 B4 Fp0_4] ++ G)) : Calls Tryz.prog 30 #[pB bp0, iV p1, iV p2, iV p3] w fun e w' => ∃ (dsp0_4 : List Value) (Ep0_4 : List Nat), e = .returned (.bool r.2.2) ∧ Holds (([.bx bp0 27 [A0, A1, A2, iV B3, A4], dpR 55 dt13 A0 csp0_0 B0 Fp0_0, .sl 3 tI A1 B1, .sl 3 tI A2 B2, dpR 47 dt14 A4 csp0_4 B4 Fp0_4] : List Res).flatMap Res.own) w w' [.bx bp0 27 [A0, A1, A2, iV B3, A4], dpR 55 dt13 A0 csp0_0 B0 Fp0_0, .sl 3 tI A1 B1, .sl 3 tI A2 r.1, dpR 47 dt14 A4 dsp0_4 r.2.1 Ep0_4] G := by
 have H : Holds (([.bx bp0 27 [A0, A1, A2, iV B3, A4], dpR 55 dt13 A0 csp0_0 B0 Fp0_0, .sl 3 tI A1 B1, .sl 3 tI A2 B2, dpR 47 dt14 A4 csp0_4 B4 Fp0_4] : List Res).flatMap Res.own) w w [.bx bp0 27 [A0, A1, A2, iV B3, A4], dpR 55 dt13 A0 csp0_0 B0 Fp0_0, .sl 3 tI A1 B1, .sl 3 tI A2 B2, dpR 47 dt14 A4 csp0_4 B4 Fp0_4] G := zb H
 refine zg (args := [pB bp0, iV p1, iV p2, iV p3]) (n := 79) Tryz.func30 q q q ?_
 unfold impl_doOrderS at h
 refine rR <| qA q q q <| B <| C <| rR <| qM q q q <| A q (qt_lss q q) q q <| qM q q q ?_
 refine zh 8 20 (.bool ((decide (p1 < 0)) || (decide (p1 ≥ (List.length B4 : Int))))) ?_ (fun md hmd hk => ?_)
 rotate_left
 ·obtain ⟨Q, rfl⟩ := Md.seq_of hmd
  rcases btf (decide (p1 < 0)) with ad | ad
  ·skip
   refine qS q ad q q <| qS q ad q q <| qS q ad q q <| qS q ad q q <| qS q ad q q <| qS q ad q q <| qS q ad q q <| A q (ze q ad q) q q ?_
   exact hk _ (p (by rw [ad]; rfl) (cfn 7 q (u)))
  skip
  refine qM (J q ad) q q <| qM (J q ad) q q <| qN (J q ad) q q <| qF uf27 fi27_4 nz25 (J q ad) q q ?_
  have aF := R H.p0
  refine l u25 q aF q (J q ad) q q ?_
  have V3 := H.viewG (Vw.c (Vw.d (Vw.c (Vw.c (Vw.d Vw.refl)))))
  refine za V3 (t := ty12) hR4 u25 (J q ad) q q <| A (J q ad) (qt_geq q q) q q <| A q (zf q ad q) q q ?_
  exact hk _ (p (by rw [ad]; rfl) (cfn 7 q (u)))
 refine B ?_
 refine Y q (fun an => ?_) (fun an => ?_)
 ·have h := if_t an h
  refine rR <| qA q q q <| B <| W fun a ha => ?_
  obtain rfl := L h
  have H5 := H.p4.p4.p4.p4.p4
  exact m (ret1 q ha q ⟨csp0_4, Fp0_4, q, H5⟩)
 have h := if_f an h
 refine y <| rR <| qM q q q <| qN q q q <| qF uf27 fi27_4 nz25 q q q ?_
 have aG := R H.p0
 refine l u25 q aG q q q q <| qM q q q ?_
 obtain ⟨x7, ag, h⟩ := D h
 have aH := H.viewG (Vw.c (Vw.d (Vw.c (Vw.c (Vw.d Vw.refl)))))
 refine b aH hR4 ag u25 i47 q q q q (fun b9 aI bD ah => ?_)
 refine qA q q q <| B <| C <| C ?_
 obtain ⟨al, ax, h⟩ := D h
 obtain ⟨ao, ay, h⟩ := D h
 obtain ⟨aJ, az, h⟩ := D h
 refine WP_join (M := fun a w2 => (Fr a 79 [(0, pB bp0), (2, iV p2), (3, iV p3), (9, .pointer (some ⟨b9, (aI + Int.toNat p1 * Ty.size ty12), none⟩)), (48, .bool aJ)] ∧ Holds (([.bx bp0 27 [A0, A1, A2, iV B3, A4], dpR 55 dt13 A0 csp0_0 B0 Fp0_0, .sl 3 tI A1 B1, .sl 3 tI A2 B2, dpR 47 dt14 A4 csp0_4 B4 Fp0_4] : List Res).flatMap Res.own) w w2 [.bx bp0 27 [A0, A1, A2, iV B3, A4], dpR 55 dt13 A0 csp0_0 B0 Fp0_0, .sl 3 tI A1 B1, .sl 3 tI A2 B2, dpR 47 dt14 A4 csp0_4 B4 Fp0_4] G)) ?_ ?_
 ·refine WP_ordersT (fun w1 w2 => Chg M0 w1 w2) 22 (by kernel_rfl) (fun aj aK => ?_)
  have ap := H.grow aK
  have ai : Ctx aj ([] ++ ([.bx bp0 27 [A0, A1, A2, iV B3, A4], .ro ty10 A0 B0, .sl 3 tI A1 B1, .sl 3 tI A2 B2, .ro ty12 A4 B4] ++ G)) := ap.viewG (Vw.c (Vw.d (Vw.c (Vw.c (Vw.d Vw.refl)))))
  have aa : Holds _ aj aj [] ([.bx bp0 27 [A0, A1, A2, iV B3, A4], .ro ty10 A0 B0, .sl 3 tI A1 B1, .sl 3 tI A2 B2, .ro ty12 A4 B4] ++ G) := zb (Rs := []) ai
  rcases btf (!ao) with ab | ab
  ·skip
   have aL := if_t ab az
   obtain rfl := L aL
   refine XQ (i := 0) q (by kernel_rfl) q aa.chg q (fun _ => qt_move q) q q <| XQ (i := 1) q (by kernel_rfl) q aa.chg q (fun _ => qt_nilCheck q) q q <| XQ (i := 2) q (by kernel_rfl) q aa.chg q (fun _ => qt_fieldAddr uf27 fi27_0 nz23 q) q q ?_
   have aM := HasB.bx (HasB.hd) aa.ctx
   refine XT (i := 3) q (by kernel_rfl) q aa.chg q (qs_cell u23 q q (aM.cell (i := 0) q) aa.chg (Ctx.outB ai (HasB.hd))) q q <| XQ (i := 4) q (by kernel_rfl) q aa.chg q (fun _ => qt_move q) q q <| XQ (i := 5) q (by kernel_rfl) q aa.chg q (fun _ => qt_nilCheck q) q q <| XQ (i := 6) q (by kernel_rfl) q aa.chg q (fun _ => qt_fieldAddr uf47 fi47_0 nz3 q) q q ?_
   obtain ⟨bE, aN, bF⟩ := aa.at hR4 ag ah
   obtain ⟨bG, aO, bH⟩ := AtP.fst aN
   refine XT (i := 7) q (by kernel_rfl) q aa.chg q (qs_cell u3 q q (AtP.cInt aO) aa.chg (Ctx.outHas ai hR4 ag ah)) q q <| XQ (i := 9) q (by kernel_rfl) q aa.chg q (fun _ => qt_move q) q q <| X1 8 (by kernel_rfl) q <| zd q q c68 (w_impl_FreeOf aj _ A0 B0 hR1 x7.1 al ax aa.ctx) (by rfl) ?_
   rintro _ aP ⟨aQ, rfl, aR⟩; refine ⟨_, q, ?_⟩
   have aq := aa.cN1 [] aR
   refine XN aq.chg <| X1 10 (by kernel_rfl) q <| zd q q c67 (w_slices_Contains___int_int aP _ aQ al hS0 p2 ao ay aq.ctx) (by rfl) ?_
   rintro _ bI ⟨rfl, aS⟩; refine ⟨_, q, ?_⟩
   have af := aq.cN0 [] aS
   refine XN af.chg <| XQ (i := 11) q (by kernel_rfl) q af.chg q (fun _ => qt_not q) q q <| XQ (i := 12) q (by kernel_rfl) q af.chg q (fun _ => qt_move q) q q <| XS (i := 13) q (by kernel_rfl) q af.chg q ab q q <| XS (i := 14) q (by kernel_rfl) q af.chg q ab q q <| XS (i := 15) q (by kernel_rfl) q af.chg q ab q q <| XS (i := 16) q (by kernel_rfl) q af.chg q ab q q <| XS (i := 17) q (by kernel_rfl) q af.chg q ab q q <| XS (i := 18) q (by kernel_rfl) q af.chg q ab q q <| XS (i := 19) q (by kernel_rfl) q af.chg q ab q q ?_
   refine XS (i := 20) q (by kernel_rfl) q af.chg q ab q q <| XQ (i := 21) q (by kernel_rfl) q af.chg q (fun _ => ze q ab q) q q ?_
   have aT := ap.cV1 [] af (zc (Pure.sl q) all_nil)
   refine XC_done (by kernel_rfl) (fun a ha => ?_)
   have aU := aT.q0.p4.p4.p4.p4.p4
   exact ⟨ha.sub ⟨q, q, q, q, q, trivial⟩, aU⟩
  skip
  have ar := if_f ab az
  obtain ⟨bJ, am, ar⟩ := D ar
  obtain rfl := L ar
  refine XQ (i := 0) q (by kernel_rfl) q aa.chg q (fun _ => qt_move q) q q <| XQ (i := 1) q (by kernel_rfl) q aa.chg q (fun _ => qt_nilCheck q) q q <| XQ (i := 2) q (by kernel_rfl) q aa.chg q (fun _ => qt_fieldAddr uf27 fi27_0 nz23 q) q q ?_
  have aV := HasB.bx (HasB.hd) aa.ctx
  refine XT (i := 3) q (by kernel_rfl) q aa.chg q (qs_cell u23 q q (aV.cell (i := 0) q) aa.chg (Ctx.outB ai (HasB.hd))) q q <| XQ (i := 4) q (by kernel_rfl) q aa.chg q (fun _ => qt_move q) q q <| XQ (i := 5) q (by kernel_rfl) q aa.chg q (fun _ => qt_nilCheck q) q q <| XQ (i := 6) q (by kernel_rfl) q aa.chg q (fun _ => qt_fieldAddr uf47 fi47_0 nz3 q) q q ?_
  obtain ⟨bK, aW, bL⟩ := aa.at hR4 ag ah
  obtain ⟨bM, aX, bN⟩ := AtP.fst aW
  refine XT (i := 7) q (by kernel_rfl) q aa.chg q (qs_cell u3 q q (AtP.cInt aX) aa.chg (Ctx.outHas ai hR4 ag ah)) q q <| XQ (i := 9) q (by kernel_rfl) q aa.chg q (fun _ => qt_move q) q q <| X1 8 (by kernel_rfl) q <| zd q q c68 (w_impl_FreeOf aj _ A0 B0 hR1 x7.1 al ax aa.ctx) (by rfl) ?_
  rintro _ aY ⟨aZ, rfl, a0⟩; refine ⟨_, q, ?_⟩
  have au := aa.cN1 [] a0
  refine XN au.chg <| X1 10 (by kernel_rfl) q <| zd q q c67 (w_slices_Contains___int_int aY _ aZ al hS0 p2 ao ay au.ctx) (by rfl) ?_
  rintro _ bO ⟨rfl, a1⟩; refine ⟨_, q, ?_⟩
  have ae := au.cN0 [] a1
  refine XN ae.chg <| XQ (i := 11) q (by kernel_rfl) q ae.chg q (fun _ => qt_not q) q q <| XQ (i := 12) q (by kernel_rfl) q ae.chg q (fun _ => qt_move q) q q <| XQ (i := 13) q (by kernel_rfl) q ae.chg (J q ab) (fun _ => qt_move q) q q <| XQ (i := 14) q (by kernel_rfl) q ae.chg (J q ab) (fun _ => qt_nilCheck q) q q <| XQ (i := 15) q (by kernel_rfl) q ae.chg (J q ab) (fun _ => qt_fieldAddr uf27 fi27_2 nz24 q) q q ?_
  have a2 := HasB.bx (HasB.c (HasB.hd)) ae.ctx
  refine XT (i := 16) q (by kernel_rfl) q ae.chg (J q ab) (qs_cell u24 q q (a2.cell (i := 2) q) ae.chg (Ctx.outB ai (HasB.hd))) q q <| XQ (i := 17) q (by kernel_rfl) q ae.chg (J q ab) (fun _ => qt_move q) q q ?_
  obtain ⟨bP, bQ, bR, av⟩ := Ctx.isAt ae.ctx hS4 am
  refine XT (i := 18) q (by kernel_rfl) q ae.chg (J q ab) (qs_index am av u24 i3 q q) q q ?_
  obtain ⟨bS, a3, bT⟩ := ae.at hS4 am av
  refine XT (i := 19) q (by kernel_rfl) q ae.chg (J q ab) (qs_cell u3 q q (AtP.cInt a3) ae.chg (Ctx.outHas ai hS3 am av)) q q <| XQ (i := 20) q (by kernel_rfl) q ae.chg (J q ab) (fun _ => qt_lss q q) q q <| XQ (i := 21) q (by kernel_rfl) q ae.chg q (fun _ => zf q ab q) q q ?_
  have a4 := ap.cV1 [] ae (zc (Pure.sl q) all_nil)
  refine XC_done (by kernel_rfl) (fun a ha => ?_)
  have a5 := a4.q0.p4.p4.p4.p4.p4
  exact ⟨ha.sub ⟨q, q, q, q, q, trivial⟩, a5⟩
 intro a bU a6
 obtain ⟨ha, ak⟩ := a6
 refine S ?_ ha
 clear ha
 refine Y q (fun aw => ?_) (fun aw => ?_)
 ·have h := if_t aw h
  refine rR <| qA q q q <| B <| W fun a ha => ?_
  obtain rfl := L h
  have a7 := ak.p4.p4.p4.p4.p4
  exact m (ret1 q ha q ⟨csp0_4, Fp0_4, q, a7⟩)
 have h := if_f aw h
 refine y <| rR <| qM q q q <| qN q q q <| qF uf27 fi27_2 nz24 q q q ?_
 have a8 := R ak.p0
 refine l u24 q a8 q q q q <| qM q q q ?_
 obtain ⟨a9, aA, h⟩ := D h
 have aB := ak.viewG (Vw.c (Vw.d (Vw.c (Vw.c (Vw.d Vw.refl)))))
 refine b aB hS3 aA u24 i3 q q q q (fun bV bW bX ba => ?_)
 obtain ⟨bY, bb, bZ⟩ := ak.at hS3 aA ba
 refine zt (k := .i64) u3 q bb q q q <| A q (qt_sub q q) q q ?_
 obtain ⟨b0, aC, h⟩ := D h
 refine b aB hS3 aC u24 i3 q q q q (fun b4 b5 b6 bc => ?_)
 have bd := ak.p3
 refine WL_storeH (fo := 0) (cs' := [iV (IntKind.wrap .i64 (a9 - 1))]) bd aC bc (Upd.whole (Blt.int)) q il3 q q q q (fun b7 be => ?_)
 refine rN <| qM q q q <| qM q q q <| qN q q q <| qF uf47 fi47_1 nz45 q q q ?_
 have aD := be.p4
 obtain ⟨b8, bf, bg, ca, cb, cc⟩ := Holds.ns aD ((Foc.snd (Foc.fst Foc.refl))) ag ah
 refine XL_load_cell u45 q bg q q q <| qM q q q <| A q (qt_build (args := [(0, .tmp 63), (1, .const (iV 0))]) (css := [#[iV p3], #[iV 0]]) (cells := #[iV p3, iV 0]) q ⟨q, q, trivial⟩ (by kernel_rfl)) q q ?_
 refine zs (t := ty2) (args := [.tmp 64]) (xs := ([(p3, 0)] : LP)) aD (BltL.cons (Blt.pair (Blt.int) (Blt.int)) q (BltL.nil)) u45 j49 q q q q q q (fun cd ce bh => ?_)
 have bi := bh.p1
 obtain ⟨cf, bj⟩ := Holds.borrow bi ((Foc.snd (Foc.fst Foc.refl))) ag bf
 obtain ⟨cg, bk, h⟩ := D h
 refine zw bj hS2 bk u45 j49 q q q q q q (fun ch ci bl => ?_)
 refine qN q q q <| qF uf47 fi47_1 nz45 q q q ?_
 have bm := bl.p1
 have bn := bm.p1
 refine WL_storeHole q bn ah il45 q q q (fun cj ck cl aE => ?_)
 refine rN <| qM q q q <| qM q q q <| qN q q q <| qF uf47 fi47_2 nz24 q q q ?_
 obtain ⟨cm, bo, bp, cn, co, cp⟩ := Holds.ns aE ((Foc.snd (Foc.snd Foc.refl))) (geti_set ag) (set_len ah)
 refine XL_load_cell u24 q bp q q q <| qM q q q ?_
 refine zs (t := tI) (args := [.tmp 74]) (xs := ([p2] : List Int)) aE (BltL.cons (Blt.int) q (BltL.nil)) u24 j3 q q q q q q (fun cq cr bq => ?_)
 have br := bq.p1
 obtain ⟨cs, bs⟩ := Holds.borrow br ((Foc.snd (Foc.snd Foc.refl))) (geti_set ag) bo
 obtain ⟨ct, bt, h⟩ := D h
 refine zw bs hS2 bt u24 j3 q q q q q q (fun cu cv bu => ?_)
 refine qN q q q <| qF uf47 fi47_2 nz24 q q q ?_
 have bv := bu.p1
 have bw := bv.p1
 refine WL_storeHole q bw (set_len ah) il24 q q q (fun bz bA cw bB => ?_)
 refine rN <| qA q q q <| B <| W fun a ha => ?_
 obtain rfl := L h
 have bC := bB.q1.q1.p1.p4.p4.p4
 exact ret1 q ha q ⟨bz, bA, q, bC⟩
theorem w_impl_kitchenOf (w : World) (G : List Res) (A0 : Value) (B0 : LI) (C0 : Has G ty10 A0 B0) (A1 : Value) (B1 : List Int) (C1 : Has G tI A1 B1) (A2 : Value) (B2 : List Int) (C2 : Has G tI A2 B2) (B3 : Int) (A4 : Value) (B4 : LT) (C4 : Has G ty12 A4 B4) (r : (List LP)) (h : impl_kitchenOfS B0 B1 B2 B3 B4 = some r) (H : Ctx w G) : Calls Tryz.prog 47 #[.agg #[A0, A1, A2, iV B3, A4]] w fun e w' => ∃ (v1 : Value) (csv1 : List Value) (Fv1 : List Nat), e = .returned (v1) ∧ Holds M0 w w' [dpR 45 dt6 v1 csv1 r Fv1] G := by
 have H : Holds M0 w w [] G := zb H
 refine zg (args := [.agg #[A0, A1, A2, iV B3, A4]]) (n := 26) Tryz.func47 q q q ?_
 unfold impl_kitchenOfS at h
 refine C <| Z ?_
 refine WL_box (cs := [A0, A1, A2, iV B3, A4]) H q q q q (fun b1 w2 H3 => ?_)
 refine qA q q q <| rN <| qF uf27 fi27_4 nz25 q q q ?_
 have aB := R H3.p0
 refine l u25 q aB q q q q <| za H3.ctx (t := ty12) (C4.c) u25 q q q ?_
 obtain ⟨x6, aC, h⟩ := D h
 refine WL_makeD (d := dt6) H3 aC u81 j45 q (DBlt.cast (DBlt.nil (e := 49) (d := dt3)) q q) q q q q q (fun v8 aD aE w9 ah => ?_)
 refine qA q q q <| B <| C <| rR <| qF uf27 fi27_4 nz25 q q q ?_
 have aF := R ah.p1
 refine l u25 q aF q q q q ?_
 have aG := ah.viewG (Vw.d (Vw.c Vw.refl))
 refine za aG (t := ty12) (C4.c.c) u25 q q q <| qM q q q <| B <| g ?_
 obtain ⟨ao, aH, h⟩ := D h
 have aI := ah.q1
 refine fun aJ ap => zp (I := fun s a w2 => match s with | (aq, ai) => ∃ ae af, Fr a 26 [(3, v8), (11, A4), (12, iV (List.length B4 : Int)), (13, iV aq)] ∧ Holds M0 w w2 [dpR 45 dt6 v8 ae ai af] G) (O := fun o e a w2 => match o with | q0 => e = .exit 0 ∧ ∃ aK aL, Fr a 26 [(3, v8)] ∧ Holds M0 w w2 [dpR 45 dt6 v8 aK q0 aL] G) aH ?_ ?_ ?_
 ·exact ⟨aD, aE, ap.sub ⟨q, q, q, q, trivial⟩, aI⟩
 ·clear ap
  intro s bi a aM aa aN
  obtain ⟨aq, ai⟩ := s
  obtain ⟨ae, af, ha, aj⟩ := aN
  refine S ?_ ha
  clear ha
  refine rR <| A q (qt_lss q q) q q <| B <| C ?_
  refine Y q (fun ak => ?_) (fun ak => ?_)
  ·have aa := if_t ak aa
   refine y <| C <| g <| rR <| qM q q q ?_
   obtain ⟨ab, ar, aa⟩ := D aa
   have aO := aj.viewG (Vw.d Vw.refl)
   refine b aO (C4.c) ar u25 i47 q q q q (fun bj bk bl aP => ?_)
   obtain ⟨bm, aQ, aR⟩ := aj.atN (C4.c) ar aP
   refine XL_load_agg (t := ty12) us47 uo47 i47 aQ q q q (fun bn aS => ?_)
   obtain ⟨c41, c42, bo, bp, rfl, au, aT, aU⟩ := aS
   obtain ⟨rfl, _⟩ := aT
   obtain ⟨bq, c49, br, bs, rfl, av, aV, aW⟩ := aU
   obtain ⟨ad, rfl, aX⟩ := Rep.sl_inv aV
   obtain ⟨ag, rfl, aY⟩ := Rep.sl_inv aW
   have aZ : Holds _ w aM [.ro ty2 ad ab.2.1, .ro tI ag ab.2.2, dpR 45 dt6 v8 ae ai af] G := aR [.ro ty2 ad ab.2.1, .ro tI ag ab.2.2] ⟨⟨_, _, _, _, q, aX, (fun k h => (fun k h => (fun _ h => h) k (by rw [au]; exact zx _ h)) k (by rw [av]; exact List.mem_append_left _ h))⟩, ⟨_, _, _, _, q, aY, (fun k h => (fun k h => (fun _ h => h) k (by rw [au]; exact zx _ h)) k (by rw [av]; exact zx _ h))⟩, trivial⟩
   change XL _ _ _ _ _ ((17, .agg #[iV ab.1, ad, ag]) :: _) _
   refine zq (cs := [iV 0, nS, nS]) aZ z47 q q q (fun bt bu aw => ?_)
   refine qA q q q ?_
   have ax := aw.viewG (Vw.c (Vw.c (Vw.c (Vw.d Vw.refl))))
   refine zl (cs' := [iV ab.1, ad, ag]) aw q il47 q (T q (T (ax.sliceOne hR1) (T (ax.sliceOne hR2) q))) q q q (fun a0 al => ?_)
   refine B <| Z <| qM q q q <| qM q q q <| qF uf47 fi47_1 nz45 q q q ?_
   have a1 := R al.p0
   refine l u45 q a1 q q q q ?_
   obtain ⟨am, a2, aa⟩ := D aa
   have a3 := al.viewG (Vw.c (Vw.c (Vw.c (Vw.d Vw.refl))))
   refine zd q q c64 (w_impl_copyTicket a0 _ ad ab.2.1 hR1 am a2 a3) (by rfl) ?_
   rintro _ bv ⟨an, rfl, a4⟩; refine ⟨_, q, ?_⟩
   have ay := al.cV1 [] a4 (zc (Pure.sl q) all_nil)
   obtain ⟨bw, az, aa⟩ := D aa
   have a5 := ay.viewG (Vw.c (Vw.c (Vw.c (Vw.c (Vw.d Vw.refl)))))
   refine b a5 hR4 az u81 i45 q q q q (fun bz bA bB a6 => ?_)
   have a7 := ay.p4
   have aA := a7.p1
   have a8 := aA.viewG (Vw.c (Vw.d (Vw.c (Vw.c (Vw.c Vw.refl)))))
   refine WL_storeD (Rs := [.sl 49 ty2 an am]) (fo := 0) (cs' := [an]) aA az a6 (Foc.refl) (DBlt.cast (DBlt.sl (e := 49) (t := ty2) (v := an) (x := am) q) q q) (a8.sliceList hS0) il45 q q q (fun a9 ba bC bb => ?_)
   refine WL_nil fun a ha => ?_
   refine zi (X (S ?_ ha))
   refine Z <| A q (qt_add q q) q q <| qM q q q <| WL_nil fun a ha => ?_
   obtain rfl := L aa
   have bc := bb.q1.q1.q1
   exact ⟨q, a9, ba, ha.sub ⟨q, q, q, q, trivial⟩, bc⟩
  have aa := if_f ak aa
  refine WP_exit fun a ha => ?_
  obtain rfl := L aa
  exact zo (⟨exit_ne, q, ae, af, ha.sub ⟨q, trivial⟩, aj⟩)
 intro e aJ bD bd
 obtain ⟨bE, rfl⟩ : ∃ z, z = ao := ⟨ao, q⟩
 obtain ⟨rfl, be⟩ := bd
 obtain ⟨bf, bg, ha, bh⟩ := be
 refine zn (X (S ?_ ha))
 refine rR <| qM q q q <| qA q q q <| B <| W fun a ha => ?_
 obtain rfl := L h
 exact ret1 q ha q ⟨v8, bf, bg, q, bh⟩
theorem w_impl_KitchenValid (w : World) (G : List Res) (vp0 : Value) (p0 : List LP) (hp0 : Has G ty4 vp0 p0) (r : Bool) (h : impl_KitchenValidS p0 = some r) (H : Ctx w G) : Calls Tryz.prog 83 #[vp0] w fun e w' => e = .returned (.bool r) ∧ Holds M0 w w' [] G := by
 have H : Holds M0 w w [] G := zb H
 refine zg (args := [vp0]) (n := 18) Tryz.func83 q q q ?_
 unfold impl_KitchenValidS at h
 refine rR <| qA q q q <| B <| C <| rR <| qM q q q <| za H.ctx (t := ty4) (hp0) u81 q q q <| A q (qt_gtr q q) q q ?_
 refine B ?_
 refine Y q (fun ab => ?_) (fun ab => ?_)
 ·have h := if_t ab h
  refine rR <| qA q q q <| B <| W fun a ha => ?_
  obtain rfl := L h
  exact m (ret1 q ha q ⟨q, H⟩)
 have h := if_f ab h
 refine y <| C <| rR <| qM q q q <| za H.ctx (t := ty4) (hp0) u81 q q q <| qM q q q <| B <| g ?_
 obtain ⟨o3, an, h⟩ := D h
 refine fun a5 ag => zp (I := fun s a w2 => match s with | s2 => (Fr a 18 [(8, vp0), (9, iV (List.length p0 : Int)), (10, iV s2)] ∧ Holds M0 w w2 [] G)) (O := fun o e a w2 => match o with | .inl _ => e = .exit 0 ∧ (Fr a 18 [] ∧ Holds M0 w w2 [] G) | .inr q0 => e = .ret ∧ (Fr a 18 [(2, .bool q0)] ∧ Holds M0 w w2 [] G)) an ?_ ?_ ?_
 ·exact ⟨ag.sub ⟨q, q, q, trivial⟩, H⟩
 ·clear ag
  intro s o9 a w7 aa ao
  obtain ⟨s2, rfl⟩ : ∃ z, z = s := ⟨s, q⟩
  obtain ⟨ha, ad⟩ := ao
  refine S ?_ ha
  clear ha
  refine rR <| A q (qt_lss q q) q q <| B <| C ?_
  refine Y q (fun ae => ?_) (fun ae => ?_)
  ·have aa := if_t ae aa
   refine y <| C <| g <| C <| Z ?_
   obtain ⟨ah, ai, aa⟩ := D aa
   refine b ad.ctx (hp0) ai u81 i45 q q q q (fun aE aF aG ap => ?_)
   obtain ⟨aH, aq, ar⟩ := ad.at (hp0) ai ap
   refine XL_load (t := ty4) u45 q q aq q q q (fun aj au => ?_)
   have ak : Holds _ w w7 [.ro ty2 aj ah] G := ar _ _ _ _ au (fun _ h => h)
   refine qA q q q <| B <| C <| zk <| qM q q q ?_
   obtain ⟨av, aw, aa⟩ := D aa
   refine QC q q c77 (fun w' hb => w_impl_TicketValid w' _ aj ah hR0 av aw (ak.grow hb).ctx) (by rfl) <| A q (qt_not q) q q <| QL_nil fun a ha aI ax => ?_
   have al := ak.grow ax
   refine X (S ?_ ha)
   refine Y q (fun af => ?_) (fun af => ?_)
   ·have aa := if_t af aa
    refine rR <| qA q q q <| B <| W fun a ha => ?_
    obtain rfl := L aa
    have ay := al.q0
    exact zj (m (⟨ret_ne, q, ha.sub ⟨q, trivial⟩, ay⟩))
   have aa := if_f af aa
   refine WP_skip fun a ha => ?_
   refine zi (X (S ?_ ha))
   refine Z <| A q (qt_add q q) q q <| qM q q q <| WL_nil fun a ha => ?_
   obtain rfl := L aa
   have az := al.q0
   exact ⟨q, ha.sub ⟨q, q, q, trivial⟩, az⟩
  have aa := if_f ae aa
  refine WP_exit fun a ha => ?_
  obtain rfl := L aa
  exact zo (⟨exit_ne, q, ha.sub trivial, ad⟩)
 intro e a5 aJ am
 rcases o3 with o3 | o3
 ·skip
  obtain ⟨rfl, aA⟩ := am
  obtain ⟨ha, aB⟩ := aA
  refine zn (X (S ?_ ha))
  refine rR <| qA q q q <| B <| W fun a ha => ?_
  obtain rfl := L h
  exact ret1 q ha q ⟨q, aB⟩
 skip
 obtain ⟨aK, rfl⟩ : ∃ z, z = o3 := ⟨o3, q⟩
 obtain ⟨rfl, aC⟩ := am
 obtain ⟨ha, aD⟩ := aC
 obtain rfl := L h
 exact zj (m (ret1 q ha q ⟨q, aD⟩))
theorem w_impl_copyKitchen (w : World) (G : List Res) (vp0 : Value) (p0 : List LP) (hp0 : Has G ty4 vp0 p0) (r : (List LP)) (h : impl_copyKitchenS p0 = some r) (H : Ctx w G) : Calls Tryz.prog 94 #[vp0] w fun e w' => ∃ (v1 : Value) (csv1 : List Value) (Fv1 : List Nat), e = .returned (v1) ∧ Holds M0 w w' [dpR 45 dt6 v1 csv1 r Fv1] G := by
 have H : Holds M0 w w [] G := zb H
 refine zg (args := [vp0]) (n := 26) Tryz.func94 q q q ?_
 unfold impl_copyKitchenS at h
 refine rR <| qA q q q <| B <| C <| rR <| qM q q q <| za H.ctx (t := ty4) (hp0) u81 q q q <| A q (qt_eql q q) q q ?_
 refine B ?_
 refine Y q (fun ae => ?_) (fun ae => ?_)
 ·have h := if_t ae h
  refine rR <| qA q q q <| B <| W fun a ha => ?_
  obtain rfl := L h
  have H2 := H.nD 45 dt6
  exact m (ret1 q ha q ⟨(nS), [], [], q, H2⟩)
 have h := if_f ae h
 refine y <| rR <| qM q q q <| za H.ctx (t := ty4) (hp0) u81 q q q ?_
 obtain ⟨x3, ax, h⟩ := D h
 refine WL_makeD (d := dt6) H ax u81 j45 q (DBlt.cast (DBlt.nil (e := 49) (d := dt3)) q q) q q q q q (fun v5 ay F9 w6 H7 => ?_)
 refine qA q q q <| B <| C <| rR <| qM q q q ?_
 have az := H7.viewG (Vw.d Vw.refl)
 refine za az (t := ty4) (hp0.c) u81 q q q <| qM q q q <| B <| g ?_
 obtain ⟨ak, aA, h⟩ := D h
 refine fun aB al => zp (I := fun s a w2 => match s with | (am, af) => ∃ ab ad, Fr a 26 [(3, v5), (12, vp0), (13, iV (List.length p0 : Int)), (14, iV am)] ∧ Holds M0 w w2 [dpR 45 dt6 v5 ab af ad] G) (O := fun o e a w2 => match o with | q0 => e = .exit 0 ∧ ∃ aC aD, Fr a 26 [(3, v5)] ∧ Holds M0 w w2 [dpR 45 dt6 v5 aC q0 aD] G) aA ?_ ?_ ?_
 ·exact ⟨ay, F9, al.sub ⟨q, q, q, q, trivial⟩, H7⟩
 ·clear al
  intro s a0 a an aa aE
  obtain ⟨am, af⟩ := s
  obtain ⟨ab, ad, ha, ag⟩ := aE
  refine S ?_ ha
  clear ha
  refine rR <| A q (qt_lss q q) q q <| B <| C ?_
  refine Y q (fun ah => ?_) (fun ah => ?_)
  ·have aa := if_t ah aa
   refine y <| C <| g <| rR <| qM q q q ?_
   obtain ⟨ao, ap, aa⟩ := D aa
   have aF := ag.viewG (Vw.d Vw.refl)
   refine b aF (hp0.c) ap u81 i45 q q q q (fun a1 a2 a3 aG => ?_)
   obtain ⟨a4, aH, aI⟩ := ag.at (hp0.c) ap aG
   refine XL_load (t := ty4) u45 q q aH q q q (fun aq aJ => ?_)
   have ar : Holds _ w an [.ro ty2 aq ao, dpR 45 dt6 v5 ab af ad] G := aI _ _ _ _ aJ (fun _ h => h)
   refine qA q q q <| qA q q q <| B <| Z <| qM q q q <| qM q q q <| qM q q q ?_
   obtain ⟨ai, aK, aa⟩ := D aa
   have aL := ar.viewG (Vw.c (Vw.d Vw.refl))
   refine zd q q c64 (w_impl_copyTicket an _ aq ao hR0 ai aK aL) (by rfl) ?_
   rintro _ a5 ⟨aj, rfl, aM⟩; refine ⟨_, q, ?_⟩
   have au := ar.cV1 [] aM (zc (Pure.sl q) all_nil)
   obtain ⟨a6, av, aa⟩ := D aa
   have aN := au.viewG (Vw.c (Vw.c (Vw.d Vw.refl)))
   refine b aN hR2 av u81 i45 q q q q (fun a7 a8 a9 aO => ?_)
   have aP := au.p2
   have aw := aP.p1
   have aQ := aw.viewG (Vw.c (Vw.d (Vw.c Vw.refl)))
   refine WL_storeD (Rs := [.sl 49 ty2 aj ai]) (fo := 0) (cs' := [aj]) aw av aO (Foc.refl) (DBlt.cast (DBlt.sl (e := 49) (t := ty2) (v := aj) (x := ai) q) q q) (aQ.sliceList hS0) il45 q q q (fun aR aS ba aT => ?_)
   refine WL_nil fun a ha => ?_
   refine zi (X (S ?_ ha))
   refine Z <| A q (qt_add q q) q q <| qM q q q <| WL_nil fun a ha => ?_
   obtain rfl := L aa
   have aU := aT.q1
   exact ⟨q, aR, aS, ha.sub ⟨q, q, q, q, trivial⟩, aU⟩
  have aa := if_f ah aa
  refine WP_exit fun a ha => ?_
  obtain rfl := L aa
  exact zo (⟨exit_ne, q, ab, ad, ha.sub ⟨q, trivial⟩, ag⟩)
 intro e aB bb aV
 obtain ⟨bc, rfl⟩ : ∃ z, z = ak := ⟨ak, q⟩
 obtain ⟨rfl, aW⟩ := aV
 obtain ⟨aX, aY, ha, aZ⟩ := aW
 refine zn (X (S ?_ ha))
 refine rR <| qM q q q <| qA q q q <| B <| W fun a ha => ?_
 obtain rfl := L h
 exact ret1 q ha q ⟨v5, aX, aY, q, aZ⟩
theorem w_impl_firstIn (w : World) (G : List Res) (vp0 : Value) (p0 : List LP) (hp0 : Has G ty4 vp0 p0) (p1 : Int) (r : Int × Int) (h : impl_firstInS p0 p1 = some r) (H : Ctx w G) : Calls Tryz.prog 95 #[vp0, iV p1] w fun e w' => e = .returned (.tuple #[iV r.1, iV r.2]) ∧ Holds M0 w w' [] G := by
 have H : Holds M0 w w [] G := zb H
 refine zg (args := [vp0, iV p1]) (n := 32) Tryz.func95 q q q ?_
 unfold impl_firstInS at h
 refine rR <| qA q q q <| qA q q q <| B <| C <| rR <| qM q q q <| za H.ctx (t := ty4) (hp0) u81 q q q ?_
 refine qM q q q <| B <| g ?_
 obtain ⟨o2, ax, h⟩ := D h
 refine fun a4 an => zp (I := fun s a w2 => match s with | s1 => (Fr a 32 [(1, iV p1), (10, vp0), (11, iV (List.length p0 : Int)), (12, iV s1)] ∧ Holds M0 w w2 [] G)) (O := fun o e a w2 => match o with | .inl _ => e = .exit 0 ∧ (Fr a 32 [] ∧ Holds M0 w w2 [] G) | .inr (q0, q1) => e = .ret ∧ (Fr a 32 [(4, iV q0), (5, iV q1)] ∧ Holds M0 w w2 [] G)) ax ?_ ?_ ?_
 ·exact ⟨an.sub ⟨q, q, q, q, trivial⟩, H⟩
 ·clear an
  intro s o8 a w6 ab ay
  obtain ⟨s1, rfl⟩ : ∃ z, z = s := ⟨s, q⟩
  obtain ⟨ha, ag⟩ := ay
  refine S ?_ ha
  clear ha
  refine rR <| A q (qt_lss q q) q q <| B <| C ?_
  refine Y q (fun ah => ?_) (fun ah => ?_)
  ·have ab := if_t ah ab
   refine y <| C <| g <| rR <| qM q q q ?_
   obtain ⟨ai, ao, ab⟩ := D ab
   refine b ag.ctx (hp0) ao u81 i45 q q q q (fun aY aZ a0 az => ?_)
   obtain ⟨a1, aA, aB⟩ := ag.at (hp0) ao az
   refine XL_load (t := ty4) u45 q q aA q q q (fun aj aC => ?_)
   have ap : Holds _ w w6 [.ro ty2 aj ai] G := aB _ _ _ _ aC (fun _ h => h)
   refine qA q q q <| qA q q q <| rN <| qM q q q <| za ap.ctx (t := ty2) hR0 u45 q q q <| qM q q q <| B <| g ?_
   obtain ⟨ad, aD, ab⟩ := D ab
   refine fun aE aq => zp (I := fun s a w2 => match s with | ar => (Fr a 32 [(1, iV p1), (6, iV s1), (10, vp0), (11, iV (List.length p0 : Int)), (12, iV s1), (17, aj), (18, iV (List.length ai : Int)), (19, iV ar)] ∧ Holds M0 w w2 [.ro ty2 aj ai] G)) (O := fun o e a w2 => match o with | .inl _ => e = .exit 2 ∧ (Fr a 32 [(1, iV p1), (10, vp0), (11, iV (List.length p0 : Int)), (12, iV s1)] ∧ Holds M0 w w2 [] G) | .inr (q0, q1) => e = .ret ∧ (Fr a 32 [(4, iV q0), (5, iV q1)] ∧ Holds M0 w w2 [] G)) aD ?_ ?_ ?_
   ·exact ⟨aq.sub ⟨q, q, q, q, q, q, q, q, trivial⟩, ap⟩
   ·clear aq
    intro s a2 a a3 aa aF
    obtain ⟨ar, rfl⟩ : ∃ z, z = s := ⟨s, q⟩
    obtain ⟨ha, ae⟩ := aF
    refine S ?_ ha
    clear ha
    refine rR <| A q (qt_lss q q) q q <| B <| C ?_
    refine Y q (fun ak => ?_) (fun ak => ?_)
    ·have aa := if_t ak aa
     refine y <| C <| g <| rR <| qM q q q ?_
     obtain ⟨af, au, aa⟩ := D aa
     refine b ae.ctx hR0 au u45 i49 q q q q (fun a5 a6 a7 aG => ?_)
     obtain ⟨a8, aH, a9⟩ := ae.atN hR0 au aG
     refine XL_load_agg (t := ty2) us49 uo49 i49 aH q q q (fun ba aI => ?_)
     obtain ⟨bb, c47, bc, bd, rfl, be, aJ, aK⟩ := aI
     obtain ⟨rfl, _⟩ := aJ
     obtain ⟨rfl, _⟩ := aK
     change XL _ _ _ _ _ ((23, .agg #[iV af.1, iV af.2]) :: _) _
     refine zq (cs := [iV 0, iV 0]) ae z49 q q q (fun bf bg aL => ?_)
     refine qA q q q ?_
     refine zl (cs' := [iV af.1, iV af.2]) aL q il49 q q q q q (fun bh al => ?_)
     refine rN <| qF uf49 fi49_1 nz3 q q q ?_
     have aM := R al.p0
     refine l u3 q aM q q q q <| qM q q q <| A q (qt_eql q q) q q <| B ?_
     refine Y q (fun am => ?_) (fun am => ?_)
     ·have aa := if_t am aa
      refine rR <| qM q q q <| qM q q q <| qA q q q <| qA q q q <| B <| W fun a ha => ?_
      obtain rfl := L aa
      have aN := al.q0.q0
      exact zj (m (⟨ret_ne, q, ha.sub ⟨q, q, trivial⟩, aN⟩))
     have aa := if_f am aa
     refine WP_skip fun a ha => ?_
     refine zi (X (S ?_ ha))
     refine Z <| A q (qt_add q q) q q <| qM q q q <| WL_nil fun a ha => ?_
     obtain rfl := L aa
     have aO := al.q0
     exact ⟨q, ha.sub ⟨q, q, q, q, q, q, q, q, trivial⟩, aO⟩
    have aa := if_f ak aa
    refine WP_exit fun a ha => ?_
    obtain rfl := L aa
    have aP := ae.q0
    exact zo (⟨exit_ne, q, ha.sub ⟨q, q, q, q, trivial⟩, aP⟩)
   intro e aE bi av
   rcases ad with ad | ad
   ·skip
    obtain ⟨rfl, aQ⟩ := av
    obtain ⟨ha, aR⟩ := aQ
    refine zn (zi (X (S ?_ ha)))
    refine Z <| A q (qt_add q q) q q <| qM q q q <| WL_nil fun a ha => ?_
    obtain rfl := L ab
    exact ⟨q, ha.sub ⟨q, q, q, q, trivial⟩, aR⟩
   skip
   obtain ⟨bj, bk⟩ := ad
   obtain ⟨rfl, aS⟩ := av
   obtain ⟨ha, aT⟩ := aS
   obtain rfl := L ab
   exact zj (zj (m (⟨ret_ne, q, ha.sub ⟨q, q, trivial⟩, aT⟩)))
  have ab := if_f ah ab
  refine WP_exit fun a ha => ?_
  obtain rfl := L ab
  exact zo (⟨exit_ne, q, ha.sub trivial, ag⟩)
 intro e a4 bl aw
 rcases o2 with o2 | o2
 ·skip
  obtain ⟨rfl, aU⟩ := aw
  obtain ⟨ha, aV⟩ := aU
  refine zn (X (S ?_ ha))
  refine rR <| qA q q q <| qA q q q <| B <| W fun a ha => ?_
  obtain rfl := L h
  exact ret2 q ha q q ⟨q, aV⟩
 skip
 obtain ⟨bm, bn⟩ := o2
 obtain ⟨rfl, aW⟩ := aw
 obtain ⟨ha, aX⟩ := aW
 obtain rfl := L h
 exact zj (m (ret2 q ha q q ⟨q, aX⟩))
theorem w_impl_stateAfter (w : World) (G : List Res) (p0 : Int) (p1 : Int) (r : Int × Bool) (h : impl_stateAfterS p0 p1 = some r) (H : Ctx w G) : Calls Tryz.prog 120 #[iV p0, iV p1] w fun e w' => e = .returned (.tuple #[iV r.1, .bool r.2]) ∧ Holds M0 w w' [] G := by
 have H : Holds M0 w w [] G := zb H
 refine zg (args := [iV p0, iV p1]) (n := 31) Tryz.func120 q q q ?_
 unfold impl_stateAfterS at h
 refine rR <| qA q q q <| qA q q q <| B <| C <| rR <| qM q q q <| B ?_
 refine g <| rR <| A q (qt_eql q q) q q <| qA q q q <| B ?_
 refine Y q (fun ad => ?_) (fun ad => ?_)
 ·have h := if_t ad h
  refine rR <| qM q q q <| A q (qt_eql q q) q q <| B ?_
  refine Y q (fun ae => ?_) (fun ae => ?_)
  ·have h := if_t ae h
   refine rR <| qA q q q <| qA q q q <| B <| W fun a ha => ?_
   obtain rfl := L h
   exact zj (m (ret2 q ha q q ⟨q, H⟩))
  have h := if_f ae h
  refine WP_skip fun a ha => ?_
  refine zi (X (S ?_ ha))
  refine rR <| qA q q q <| qA q q q <| B <| W fun a ha => ?_
  obtain rfl := L h
  exact ret2 q ha q q ⟨q, H⟩
 have h := if_f ad h
 refine rR <| A q (qt_eql q q) q q <| qA q q q <| B ?_
 refine Y q (fun af => ?_) (fun af => ?_)
 ·have h := if_t af h
  refine rR <| qM q q q <| A q (qt_eql q q) q q <| B ?_
  refine Y q (fun ag => ?_) (fun ag => ?_)
  ·have h := if_t ag h
   refine rR <| qA q q q <| qA q q q <| B <| W fun a ha => ?_
   obtain rfl := L h
   exact zj (m (ret2 q ha q q ⟨q, H⟩))
  have h := if_f ag h
  refine WP_skip fun a ha => ?_
  refine zi (X (S ?_ ha))
  refine rR <| qA q q q <| qA q q q <| B <| W fun a ha => ?_
  obtain rfl := L h
  exact ret2 q ha q q ⟨q, H⟩
 have h := if_f af h
 refine rR <| A q (qt_eql q q) q q <| qA q q q <| B ?_
 refine Y q (fun ah => ?_) (fun ah => ?_)
 ·have h := if_t ah h
  refine rR <| qM q q q <| A q (qt_eql q q) q q <| B ?_
  refine Y q (fun ai => ?_) (fun ai => ?_)
  ·have h := if_t ai h
   refine rR <| qA q q q <| qA q q q <| B <| W fun a ha => ?_
   obtain rfl := L h
   exact zj (m (ret2 q ha q q ⟨q, H⟩))
  have h := if_f ai h
  refine WP_skip fun a ha => ?_
  refine zi (X (S ?_ ha))
  refine rR <| qA q q q <| qA q q q <| B <| W fun a ha => ?_
  obtain rfl := L h
  exact ret2 q ha q q ⟨q, H⟩
 have h := if_f ah h
 refine rR <| A q (qt_eql q q) q q <| qA q q q <| B ?_
 refine Y q (fun aj => ?_) (fun aj => ?_)
 ·have h := if_t aj h
  refine rR <| qM q q q <| A q (qt_eql q q) q q <| qM q q q ?_
  refine zh 3 26 (.bool ((p0 == 0) || (p0 == 1))) ?_ (fun md hmd hk => ?_)
  rotate_left
  ·obtain ⟨Q, rfl⟩ := Md.seq_of hmd
   rcases btf (p0 == 0) with aa | aa
   ·skip
    refine qS q aa q q <| qS q aa q q <| A q (ze q aa q) q q ?_
    exact hk _ (p (by rw [aa]; rfl) (cfn 2 q (u)))
   skip
   refine qM (J q aa) q q <| A (J q aa) (qt_eql q q) q q <| A q (zf q aa q) q q ?_
   exact hk _ (p (by rw [aa]; rfl) (cfn 2 q (u)))
  refine qM q q q ?_
  refine zh 3 30 (.bool (((p0 == 0) || (p0 == 1)) || (p0 == 2))) ?_ (fun md hmd hk => ?_)
  rotate_left
  ·obtain ⟨Q, rfl⟩ := Md.seq_of hmd
   rcases btf ((p0 == 0) || (p0 == 1)) with ab | ab
   ·skip
    refine qS q ab q q <| qS q ab q q <| A q (ze q ab q) q q ?_
    exact hk _ (p (by rw [ab]; rfl) (cfn 2 q (u)))
   skip
   refine qM (J q ab) q q <| A (J q ab) (qt_eql q q) q q <| A q (zf q ab q) q q ?_
   exact hk _ (p (by rw [ab]; rfl) (cfn 2 q (u)))
  refine B ?_
  refine Y q (fun ak => ?_) (fun ak => ?_)
  ·have h := if_t ak h
   refine rR <| qA q q q <| qA q q q <| B <| W fun a ha => ?_
   obtain rfl := L h
   exact zj (m (ret2 q ha q q ⟨q, H⟩))
  have h := if_f ak h
  refine WP_skip fun a ha => ?_
  refine zi (X (S ?_ ha))
  refine rR <| qA q q q <| qA q q q <| B <| W fun a ha => ?_
  obtain rfl := L h
  exact ret2 q ha q q ⟨q, H⟩
 have h := if_f aj h
 refine WP_skip fun a ha => ?_
 refine zi (X (S ?_ ha))
 refine rR <| qA q q q <| qA q q q <| B <| W fun a ha => ?_
 obtain rfl := L h
 exact ret2 q ha q q ⟨q, H⟩
end Go.Proofs.YtpabogkcmbkffaaGreatDoor
