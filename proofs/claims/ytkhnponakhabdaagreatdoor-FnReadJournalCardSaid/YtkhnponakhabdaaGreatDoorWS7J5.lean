/- The walks: each Go function computes its shallow function. Printed by a program. -/
import Derived.Test.YtkhnponakhabdaaGreatDoorWS7J4
set_option linter.unusedVariables false
set_option maxRecDepth 10000
set_option maxHeartbeats 8000000
namespace Go.Proofs.YtkhnponakhabdaaGreatDoor
open Go Go.RowKit
theorem w_spec_ReadJournal {w G p0 r} (h : spec_ReadJournalS p0 = some r) (H : Ctx w G) : Calls Tryz.prog 20 #[strV p0] w fun e w' => ∃ (v1 : Value), e = .returned (.tuple #[v1, iV r.2]) ∧ Holds M0 w w' [.sl 52 ty10 v1 r.1] G := by
 refine F0 40 H Tryz.func20 q fun H => ?_
 refine rR <| qa q <| qa q <| B <| C <| Z <| zs (t := ty10) (args := []) (xs := ([] : List (Int × Int × Int × Int))) H (BltL.nil) u44 j52 q q q q q q fun v1 w2 H3 => qa q <| rN <| qa q <| B <| C <| rR <| qa q <| B <| g <| O h fun o8 aj h => ?_
 refine fun aF ak => zp (I := fun (s5, s6, s7) a w2 => ∃ ad, Fr a 40 [(0, strV p0), (4, ad), (5, iV s6), (6, iV s7)] ∧ Holds M0 w w2 [.sl 52 ty10 ad s5] G) (O := fun o e a w2 => match o with | .inl (q0, q1) => e = .exit 0 ∧ ∃ ae, Fr a 40 [(4, ae), (5, iV q1)] ∧ Holds M0 w w2 [.sl 52 ty10 ae q0] G | .inr (q0, q1) => e = .ret ∧ ∃ ae, Fr a 40 [(2, ae), (3, iV q1)] ∧ Holds M0 w w2 [.sl 52 ty10 ae q0] G) aj ?_ ?_ ?_
 ·exact ⟨v1, ak.s, H3⟩
 ·rintro ⟨s5, s6, s7⟩ _ a aG aa ⟨ad, ha, af⟩
  refine S1 ha <| C <| rR <| qm q <| qm q <| qi (qt_slen u9 q) q <| qi (qt_lss q q) q <| B ?_
  refine Yh q aa (fun aa => ?_) (fun aa => ?_)
  ·refine y <| C <| g <| rR <| qm q <| qm q <| O aa fun aH al aa => qi (qt_sidx u9 q q al) q <| qi (qt_eql q q) q <| B ?_
   refine Yh q aa (fun aa => ?_) (fun aa => ?_)
   ·refine rR <| qm q <| qm q <| qm q <| O aa fun aI am aa => qi (qt_ssub u9 ⟨_, q⟩ ⟨_, q⟩ q am) q <| O aa fun ab ao aa => U0 q c47 (w_spec_ReadDeed ao af.ctx) fun aJ ap => have aq := af.cN0 [] ap; qm q <| qi (zv q q) q <| qi (zv q q) q <| zq (cs := [iV 0, iV 0, iV 0, iV 0]) aq z52 q q q fun aK aL ar => zl (cs' := [iV ab.1.1, iV ab.1.2.1, iV ab.1.2.2.1, iV ab.1.2.2.2]) ar q il52 q q q q q fun aM ag => qa q <| B <| C <| rR <| qm q <| qi (qt_not q) q <| B ?_
    refine Yh q aa (fun aa => ?_) (fun aa => ?_)
    ·cases aa
     exact rR <| qm q <| qm q <| qa q <| qa q <| B <| W fun a ha => m (zj (m (⟨ret_ne, q, ad, ha.s, ag.q0⟩)))
    refine y <| rR <| qm q <| eA ag.p0 us52 uo52 il52 q <| zs (t := ty10) (args := [.tmp 33]) (xs := ([(ab.1.1, ab.1.2.1, ab.1.2.2.1, ab.1.2.2.2)] : List (Int × Int × Int × Int))) ag (BltL.cons (Blt.pair (Blt.int) (Blt.pair (Blt.int) (Blt.pair (Blt.int) (Blt.int)))) q (BltL.nil)) u44 j52 q q q q q q fun aN aO av => O aa fun aP ax aa => zw av.p2 hS1 ax u44 j52 q q q q q q fun ay aQ az => qa q <| B <| Z <| qm q <| qi (qt_add q q) q <| qa q <| WL_nil fun a ha => zi <| X <| S1 ha <| Z <| qm q <| qi (qt_add q q) q <| qa q <| WL_nil fun a ha => ?_
    cases aa
    exact ⟨q, ay, ha.s, az.q1.q1⟩
   cases aa
   exact WP_skip fun a ha => zi <| X <| S1 ha <| Z <| qm q <| qi (qt_add q q) q <| qa q <| WL_nil fun a ha => ⟨q, ad, ha.s, af⟩
  cases aa
  exact WP_exit fun a ha => zo (⟨exit_ne, q, ad, ha.s, af⟩)
 intro e a aR ah
 rcases o8 with o8 | o8
 ·obtain ⟨aS, aT⟩ := o8
  obtain ⟨rfl, aB, ha, aC⟩ := ah
  cases h
  exact zn <| X <| S1 ha <| rR <| qm q <| qm q <| qa q <| qa q <| B <| W fun a ha => ret2 q ha q q ⟨aB, q, aC⟩
 obtain ⟨aU, aV⟩ := o8
 obtain ⟨rfl, aD, ha, aE⟩ := ah
 cases h
 exact zj (m (ret2 q ha q q ⟨aD, q, aE⟩))
theorem w_laws_sameDeeds {w G vp0 p0 vp1 p1 r} (h : laws_sameDeedsS p0 p1 = some r) (hp0 : Has G ty10 vp0 p0) (hp1 : Has G ty10 vp1 p1) (H : Ctx w G) : Calls Tryz.prog 21 #[vp0, vp1] w fun e w' => e = .returned (.bool r) ∧ Holds M0 w w' [] G := by
 refine F0 26 H Tryz.func21 q fun H => ?_
 refine rR <| qa q <| B <| C <| rR <| qm q <| qz H.ctx (hp0) u44 q <| qm q <| qz H.ctx (hp1) u44 q <| qi (qt_neq q q) q <| B ?_
 refine Yh q h (fun h => ?_) (fun h => ?_)
 ·cases h
  exact rR <| qa q <| B <| W fun a ha => m (ret1 q ha q ⟨q, H⟩)
 refine y <| C <| rR <| qa q <| B <| g <| O h fun o2 ak h => ?_
 refine fun a4 al => zp (I := fun s1 a w2 => (Fr a 26 [(0, vp0), (1, vp1), (5, iV s1)] ∧ Holds M0 w w2 [] G)) (O := fun o e a w2 => match o with | .inl _ => e = .exit 0 ∧ (Fr a 26 [] ∧ Holds M0 w w2 [] G) | .inr q0 => e = .ret ∧ (Fr a 26 [(4, .bool q0)] ∧ Holds M0 w w2 [] G)) ak ?_ ?_ ?_
 ·exact ⟨al.s, H⟩
 ·rintro s1 _ a w6 aa ⟨ha, ae⟩
  refine S1 ha <| C <| rR <| qm q <| qm q <| qz ae.ctx (hp0) u44 q <| qi (qt_lss q q) q <| B ?_
  refine Yh q aa (fun aa => ?_) (fun aa => ?_)
  ·refine y <| C <| g <| C <| WP_quiet (by kernel_rfl) (by kernel_rfl) <| qm q <| qm q <| O aa fun ab af aa => qe ae (hp0) af u44 i52 q fun _ _ am => lP [iV ab.1, iV ab.2.1, iV ab.2.2.1, iV ab.2.2.2] us52 uo52 i52 am q q q q <| qm q <| qm q <| O aa fun ad ag aa => qe ae (hp1) ag u44 i52 q fun _ _ ao => lP [iV ad.1, iV ad.2.1, iV ad.2.2.1, iV ad.2.2.2] us52 uo52 i52 ao q q q q <| qi (qt_neqA q q (by kernel_rfl) (eqs52 ab.1 ad.1 ab.2.1 ad.2.1 ab.2.2.1 ad.2.2.1 ab.2.2.2 ad.2.2.2)) q <| Qn ae fun a ha az ah => X <| S1 ha ?_
   refine Yh q aa (fun aa => ?_) (fun aa => ?_)
   ·cases aa
    exact rR <| qa q <| B <| W fun a ha => zj (m (⟨ret_ne, q, ha.s, ah⟩))
   cases aa
   exact WP_skip fun a ha => zi <| X <| S1 ha <| Z <| qm q <| qi (qt_add q q) q <| qa q <| WL_nil fun a ha => ⟨q, ha.s, ah⟩
  cases aa
  exact WP_exit fun a ha => zo (⟨exit_ne, q, ha.s, ae⟩)
 intro e a aA aj
 rcases o2 with o2 | o2
 ·obtain ⟨rfl, ha, ap⟩ := aj
  cases h
  exact zn <| X <| S1 ha <| rR <| qa q <| B <| W fun a ha => ret1 q ha q ⟨q, ap⟩
 obtain ⟨rfl, ha, aq⟩ := aj
 obtain rfl := L h
 exact zj (m (ret1 q ha q ⟨q, aq⟩))
theorem w_spec_DrawHouseRun {w G vp0 p0 r} (h : spec_DrawHouseRunS p0 = some r) (hp0 : HasRo G (.int .u8) vp0 p0) (H : Ctx w G) : Calls Tryz.prog 22 #[vp0] w fun e w' => ∃ (v1 : Value) (v2 : Value) (v3 : Value) (v4 : Value) (v5 : Value), e = .returned (.tuple #[.agg #[v1, v2, v3, iV r.1.2.2.2.1, v4], v5]) ∧ Holds M0 w w' [.ro ty12 v1 r.1.1, .ro tI v2 r.1.2.1, .ro tI v3 r.1.2.2.1, .ro ty14 v4 r.1.2.2.2.2, .sl 52 ty10 v5 r.2] G := by
 refine F0 14 H Tryz.func22 q fun H => ?_
 refine C <| Z <| zq (cs := [nS, nS, nS, iV 0, nS]) H z27 q q q fun b1 w2 H3 => qa q <| rN <| qm q <| O h fun x5 ax h => U2 q c27 (w_spec_l20Open ax (hp0.c) H3.ctx) fun v9 am w7 H8 => have ay := H3.cN2 [] H8; qa q <| rN <| qm q <| have ar := ay.p1; O h fun aa az h => U4 q c28 (w_spec_l20House az hR0 ar.ctx) fun ab ad ae af aW aA => have aB := ar.cN5 [_] aA; zq (cs := [nS, nS, nS, iV 0, nS]) aB z27 q q q fun au aX ag => zl (cs' := [ab, ad, ae, iV aa.2.2.2.2.1, af]) ag q il27 q (T (ag.ctx.sliceOne hS1) (T (ag.ctx.sliceOne hS2) (T (ag.ctx.sliceOne hS3) (T q (T (ag.ctx.sliceOne hS4) q))))) q q q fun aY aC => B <| C <| ?_
 refine O h fun aL aM h => ?_
 refine WP_join (M := fun a w2 => ∃ ao ah aj ak al, Fr a 14 [(2, pB b1), (3, ao)] ∧ Holds M0 w w2 [.bx b1 27 [ah, aj, ak, iV aa.2.2.2.2.1, al], .ro ty12 ah aa.2.1, .ro tI aj aa.2.2.1, .ro tI ak aa.2.2.2.1, .ro ty14 al aa.2.2.2.2.2, .sl 52 ty10 ao aL.2] G) ?_ ?_
 ·refine WP_ordersT (fun w1 w2 => Chg (([.bx am 118 [v9, iV aa.1], .bx b1 27 [nS, nS, nS, iV 0, nS]] : List Res).flatMap Res.own) w1 w2) 5 (by kernel_rfl) fun ap aN => have aO := aC.p1.freeze.p2.freeze.p3.freeze.p4.freeze.grow aN; have av := aO.p7.p6; ?_
  have aq : Ctx ap ([.bx am 118 [v9, iV aa.1], .bx b1 27 [nS, nS, nS, iV 0, nS]] ++ ([.ro ty14 af aa.2.2.2.2.2, .ro tI ae aa.2.2.2.1, .ro tI ad aa.2.2.1, .ro ty12 ab aa.2.1, .bx au 27 [ab, ad, ae, iV aa.2.2.2.2.1, af], .ro (.int .u8) v9 x5.1] ++ G)) := av.ctx
  have aQ : Holds _ ap ap [.bx am 118 [v9, iV aa.1], .bx b1 27 [nS, nS, nS, iV 0, nS]] ([.ro ty14 af aa.2.2.2.2.2, .ro tI ae aa.2.2.2.1, .ro tI ad aa.2.2.1, .ro ty12 ab aa.2.1, .bx au 27 [ab, ad, ae, iV aa.2.2.2.2.1, af], .ro (.int .u8) v9 x5.1] ++ G) := zb (Rs := [.bx am 118 [v9, iV aa.1], .bx b1 27 [nS, nS, nS, iV 0, nS]]) aq
  refine have Hc := aQ; have aR := HasB.bx (HasB.c (HasB.c (HasB.c (HasB.c (HasB.c (HasB.c (HasB.hd))))))) Hc.ctx; XT (i := 0) q (by kernel_rfl) q Hc.chg q (qs_agg (cs := [ab, ad, ae, iV aa.2.2.2.2.1, af]) us27 uo27 il27 q (fun j z hj => by rw [Nat.zero_add]; exact aR.cell hj) Hc.chg (Ctx.outB aq (HasB.c (HasB.c (HasB.c (HasB.c (HasB.hd))))))) q q ?_
  change XC _ _ _ _ _ _ _ _ ((10, .agg #[ab, ad, ae, iV aa.2.2.2.2.1, af]) :: _) _
  refine XQ (i := 1) q (by kernel_rfl) q Hc.chg q (fun _ => qt_move q) q q <| have aS := HasB.bx (HasB.c (HasB.c (HasB.c (HasB.c (HasB.c (HasB.c (HasB.hd))))))) Hc.ctx; XT (i := 2) q (by kernel_rfl) q Hc.chg q (qs_agg (cs := [ab, ad, ae, iV aa.2.2.2.2.1, af]) us27 uo27 il27 q (fun j z hj => by rw [Nat.zero_add]; exact aS.cell hj) Hc.chg (Ctx.outB aq (HasB.c (HasB.c (HasB.c (HasB.c (HasB.hd))))))) q q ?_
  change XC _ _ _ _ _ _ _ _ ((12, .agg #[ab, ad, ae, iV aa.2.2.2.2.1, af]) :: _) _
  repeat' first
   | refine XDo 3 q <| U1 q c65 (w_spec_l20HouseDeeds aM hR6 hO4 hO3 hO2 hO1 Hc.ctx) fun aT _ HK => ?_; have Hc := Hc.cN2 [_] HK; refine XN Hc.chg ?_
   | refine XDo 4 q ?_; have Hc := Hc.p2; refine zl (cs' := [ab, ad, ae, iV aa.2.2.2.2.1, af]) Hc q il27 q (T (Hc.ctx.sliceOne hR6) (T (Hc.ctx.sliceOne hR5) (T (Hc.ctx.sliceOne hR4) (T q (T (Hc.ctx.sliceOne hR3) q))))) q q q (fun _ Hc => ?_); refine XN Hc.chg ?_
   | have Hc := av.cN3 [_, _] Hc; refine XDo 5 q <| qa q <| XE q ?_
   | refine XV [3] (by decide +kernel) q (allc ?_ alln)
   | refine XV [4] (by decide +kernel) q (allc ?_ alln)
   | refine XV [5] (by decide +kernel) q (allc ?_ alln)
   | refine XC_done (by decide +kernel) (fun a ha => ?_); have Hc := (((((((((Hc.q2).q6).q6).p1).p2).p3).p4).p5).p5); exact ⟨aT, ab, ad, ae, af, ha.s, Hc⟩
 rintro a aZ ⟨ao, ah, aj, ak, al, ha, aw⟩
 cases h
 exact S1 ha <| W fun a ha => have aU := R aw.p0; retct q ha q q (run_loadVar_bx (cs := [ah, aj, ak, iV aa.2.2.2.2.1, al]) us27 uo27 il27 aU) ⟨ah, aj, ak, al, ao, q, aw.q0.p4.p4.p4.p4.p4⟩
theorem w_impl_onlyNamed {w G B0 B1 B2 B3 r} (h : impl_onlyNamedS B0 B1 B2 B3 = some r) (hGl : Glob G) (H : Ctx w G) : Calls Tryz.prog 66 #[.agg #[iV B0, iV B1, iV B2, iV B3]] w fun e w' => e = .returned (.bool r) ∧ Holds M0 w w' [] G := by
 refine F0 34 H Tryz.func66 q fun H => ?_
 refine C <| Z <| WL_box (cs := [iV B0, iV B1, iV B2, iV B3]) H q q q q fun b1 w2 H3 => qa q <| B <| C <| rR <| qf uf52 fi52_0 nz3 q <| ql u3 H3.p0 q <| qi (qt_lss q q) q <| qm q ?_
 refine Ho (res := ((decide (B0 < 0)) || (decide (B0 > 5)))) 3 os (fun ae K7 ao => ?_) ?_
 ·exact jf uf52 fi52_0 nz3 ae q <| jl u3 H3.p0 ae q <| ji (qt_gtr q q) ae q <| ao 3 q q q (oi ae)
 refine B ?_
 refine Yh q h (fun h => ?_) (fun h => ?_)
 ·cases h
  exact rR <| qa q <| B <| W fun a ha => m (ret1 q ha q ⟨q, H3.q0⟩)
 refine y <| rR <| qf uf52 fi52_1 nz3 q <| ql u3 H3.p0 q <| qf uf52 fi52_2 nz3 q <| ql u3 H3.p0 q <| qf uf52 fi52_3 nz3 q <| ql u3 H3.p0 q <| qi (qt_build (args := [(0, .tmp 15), (1, .tmp 17), (2, .tmp 19)]) (css := [#[iV B1], #[iV B2], #[iV B3]]) (cells := #[iV B1, iV B2, iV B3]) q ⟨q, q, q, trivial⟩ (by kernel_rfl)) q <| zq (cs := [iV 0, iV 0, iV 0]) H3 z100 q q q fun ag aG aq => zl (cs' := [iV B1, iV B2, iV B3]) aq q il100 q q q q q fun ar au => ?_
 have ab : Holds _ w ar [.sl 100 tI (.slice (some ⟨ag, 0, none⟩) 3 3) ([B1, B2, B3] : List Int), .bx b1 52 [iV B0, iV B1, iV B2, iV B3]] G := Holds.bx_sl (t := tI) (xs := [B1, B2, B3]) au (fun _ => ⟨[_], _, [], [], q, q, ⟨q, q⟩, ⟨[_], _, [], [], q, q, ⟨q, q⟩, ⟨[_], _, [], [], q, q, ⟨q, q⟩, ⟨q, q⟩⟩⟩⟩) q q
 refine B <| C <| rR <| qf uf52 fi52_0 nz3 q <| ql u3 ab.p1 q <| O h fun av aj h => XL_indexA ab.ctx (hGl.2.c.c.has) q aj u102 i3 q q q q fun aH aI aJ aw => eI u3 (ab.el (hGl.2.c.c.has) aj aw) q <| O h fun ax af h => XL_sliceA ab.ctx hS0 q af u100 i3 ⟨_, q⟩ q q q q <| qz ab.ctx (Has.sub hS0 af) u24 q <| qm q <| B <| g <| O h fun ah ay h => ?_
 refine fun aK aA => zp (I := fun ak a w2 => (Fr a 34 [(25, (subV (Ty.size tI) (.slice (some ⟨ag, 0, none⟩) 3 3) (Int.toNat av) (Int.toNat (List.length ([B1, B2, B3] : List Int) : Int)))), (26, iV (List.length ax : Int)), (27, iV ak)] ∧ Holds M0 w w2 [.sl 100 tI (.slice (some ⟨ag, 0, none⟩) 3 3) ([B1, B2, B3] : List Int)] G)) (O := fun o e a w2 => match o with | .inl _ => e = .exit 0 ∧ (Fr a 34 [] ∧ Holds M0 w w2 [] G) | .inr q0 => e = .ret ∧ (Fr a 34 [(2, .bool q0)] ∧ Holds M0 w w2 [] G)) ay ?_ ?_ ?_
 ·exact ⟨aA.s, ab.q1⟩
 ·rintro ak _ a aL aa ⟨ha, ad⟩
  refine S1 ha <| rR <| qi (qt_lss q q) q <| B <| C ?_
  refine Yh q aa (fun aa => ?_) (fun aa => ?_)
  ·refine y <| C <| g <| rR <| O aa fun aM al aa => qe ad (Has.sub hS0 af) al u24 i3 q fun _ _ aB => eI u3 aB q <| qa q <| rN <| qm q <| qi (qt_neq q q) q <| B ?_
   refine Yh q aa (fun aa => ?_) (fun aa => ?_)
   ·cases aa
    exact rR <| qa q <| B <| W fun a ha => zj (m (⟨ret_ne, q, ha.s, ad.q0⟩))
   cases aa
   exact WP_skip fun a ha => zi <| X <| S1 ha <| Z <| qi (qt_add q q) q <| qm q <| WL_nil fun a ha => ⟨q, ha.s, ad⟩
  cases aa
  exact WP_exit fun a ha => zo (⟨exit_ne, q, ha.s, ad.q0⟩)
 intro e a aQ am
 rcases ah with ah | ah
 ·obtain ⟨rfl, ha, aE⟩ := am
  cases h
  exact zn <| X <| S1 ha <| rR <| qa q <| B <| W fun a ha => ret1 q ha q ⟨q, aE⟩
 obtain ⟨rfl, ha, aF⟩ := am
 obtain rfl := L h
 exact zj (m (ret1 q ha q ⟨q, aF⟩))
theorem w_impl_DeedText {w G B0 B1 B2 B3 r} (h : impl_DeedTextS B0 B1 B2 B3 = some r) (hGl : Glob G) (hGp : GlobP G) (H : Ctx w G) : Calls Tryz.prog 23 #[.agg #[iV B0, iV B1, iV B2, iV B3]] w fun e w' => e = .returned (strV r) ∧ Holds M0 w w' [] G := by
 refine F0 44 H Tryz.func23 q fun H => ?_
 refine C <| Z <| WL_box (cs := [iV B0, iV B1, iV B2, iV B3]) H q q q q fun b1 w2 H3 => qa q <| B <| C <| C <| zk <| eA H3.p0 us52 uo52 il52 q <| O h fun x6 au h => qc q c66 H3 (fun _ => w_impl_onlyNamed au hGl.c) <| qi (qt_not q) q <| Qn H3 fun a ha w8 ae => X <| S1 ha ?_
 refine Yh q h (fun h => ?_) (fun h => ?_)
 ·cases h
  exact rR <| qa q <| B <| W fun a ha => m (ret1 q ha q ⟨q, ae.q0⟩)
 refine y <| rR <| qf uf52 fi52_1 nz3 q <| ql u3 ae.p0 q <| qf uf52 fi52_2 nz3 q <| ql u3 ae.p0 q <| qf uf52 fi52_3 nz3 q <| ql u3 ae.p0 q <| qi (qt_build (args := [(0, .tmp 11), (1, .tmp 13), (2, .tmp 15)]) (css := [#[iV B1], #[iV B2], #[iV B3]]) (cells := #[iV B1, iV B2, iV B3]) q ⟨q, q, q, trivial⟩ (by kernel_rfl)) q <| zq (cs := [iV 0, iV 0, iV 0]) ae z100 q q q fun ag aR aw => zl (cs' := [iV B1, iV B2, iV B3]) aw q il100 q q q q q fun ax ay => ?_
 have ab : Holds _ w ax [.sl 100 tI (.slice (some ⟨ag, 0, none⟩) 3 3) ([B1, B2, B3] : List Int), .bx b1 52 [iV B0, iV B1, iV B2, iV B3]] G := Holds.bx_sl (t := tI) (xs := [B1, B2, B3]) ay (fun _ => ⟨[_], _, [], [], q, q, ⟨q, q⟩, ⟨[_], _, [], [], q, q, ⟨q, q⟩, ⟨[_], _, [], [], q, q, ⟨q, q⟩, ⟨q, q⟩⟩⟩⟩) q q
 refine rN <| qf uf52 fi52_0 nz3 q <| ql u3 ab.p1 q <| O h fun aS al h => XL_indexA ab.ctx (hGl.1.c.c.has) q al u101 i9 q q q q fun aT aU aV az => eS u9 (ab.el (hGl.1.c.c.has) al az) q <| qa q <| B <| C <| rR <| qf uf52 fi52_0 nz3 q <| ql u3 ab.p1 q <| O h fun aA am h => XL_indexA ab.ctx (hGl.2.c.c.has) q am u102 i3 q q q q fun aW aX aY aB => eI u3 (ab.el (hGl.2.c.c.has) am aB) q <| O h fun aC af h => XL_sliceA ab.ctx hS0 q af u100 i3 q ⟨_, q⟩ q q q <| qz ab.ctx (Has.sub hS0 af) u24 q <| qm q <| B <| g <| O h fun ah aD h => ?_
 refine fun aZ aF => zp (I := fun (ao, ap) a w2 => (Fr a 44 [(4, strV ao), (25, (subV (Ty.size tI) (.slice (some ⟨ag, 0, none⟩) 3 3) (Int.toNat 0) (Int.toNat aA))), (26, iV (List.length aC : Int)), (27, iV ap)] ∧ Holds M0 w w2 [.sl 100 tI (.slice (some ⟨ag, 0, none⟩) 3 3) ([B1, B2, B3] : List Int)] G)) (O := fun o e a w2 => match o with | .inl q0 => e = .exit 0 ∧ (Fr a 44 [(4, strV q0)] ∧ Holds M0 w w2 [] G) | .inr q0 => e = .ret ∧ (Fr a 44 [(2, strV q0)] ∧ Holds M0 w w2 [] G)) aD ?_ ?_ ?_
 ·exact ⟨aF.s, ab.q1⟩
 ·rintro ⟨ao, ap⟩ _ a a0 aa ⟨ha, ad⟩
  refine S1 ha <| rR <| qi (qt_lss q q) q <| B <| C ?_
  refine Yh q aa (fun aa => ?_) (fun aa => ?_)
  ·refine y <| C <| g <| rR <| O aa fun aj aq aa => qe ad (Has.sub hS0 af) aq u24 i3 q fun _ _ aG => eI u3 aG q <| qa q <| B <| C <| rR <| qm q <| qi (qt_lss q q) q <| qm q ?_
   refine Ho (res := ((decide (aj < 0)) || (decide (aj > 999)))) 2 os (fun ak a4 aH => ?_) ?_
   ·exact jm ak q <| ji (qt_gtr q q) ak q <| aH 2 q q q (oi ak)
   refine B ?_
   refine Yh q aa (fun aa => ?_) (fun aa => ?_)
   ·cases aa
    exact rR <| qa q <| B <| W fun a ha => m (zj (m (⟨ret_ne, q, ha.s, ad.q0⟩)))
   refine y <| zk <| qm q <| qm q <| O aa fun aJ aK aa => QC q q c67 (fun w' hb => w_strconv_Itoa w' _ hGp.c aj aJ aK (ad.grow hb).ctx) (by rfl) <| O aa fun a5 aL aa => qi (qt_sadd q q aL) q <| O aa fun a6 aM aa => qi (qt_sadd q q aM) q <| qa q <| Qn ad fun a ha a7 aN => zi <| X <| S1 ha <| Z <| qi (qt_add q q) q <| qm q <| WL_nil fun a ha => ?_
   cases aa
   exact ⟨q, ha.s, aN⟩
  cases aa
  exact WP_exit fun a ha => zo (⟨exit_ne, q, ha.s, ad.q0⟩)
 intro e a a8 ar
 rcases ah with ah | ah
 ·obtain ⟨rfl, ha, aP⟩ := ar
  refine zn <| X <| S1 ha <| rR <| qm q <| qa q <| B <| W fun a ha => ?_
  obtain rfl := L h
  exact ret1 q ha q ⟨q, aP⟩
 obtain ⟨rfl, ha, aQ⟩ := ar
 obtain rfl := L h
 exact zj (m (ret1 q ha q ⟨q, aQ⟩))
theorem w_impl_partsValid {w G vp0 p0 p1 r} (h : impl_partsValidS p0 p1 = some r) (hp0 : Has G ty2 vp0 p0) (H : Ctx w G) : Calls Tryz.prog 119 #[vp0, iV p1] w fun e w' => e = .returned (.bool r) ∧ Holds M0 w w' [] G := by
 refine F0 45 H Tryz.func119 q fun H => ?_
 refine rR <| qa q <| B <| C <| rR <| qm q <| qz H.ctx (hp0) u68 q <| qi (qt_lss q q) q <| qm q ?_
 refine Ho (res := ((decide ((List.length p0 : Int) < 1)) || (decide ((List.length p0 : Int) > 3)))) 3 os (fun af K2 am => ?_) ?_
 ·exact jm af q <| jz H.ctx (hp0) u68 af q <| ji (qt_gtr q q) af q <| am 3 q q q (oi af)
 refine B ?_
 refine Yh q h (fun h => ?_) (fun h => ?_)
 ·cases h
  exact rR <| qa q <| B <| W fun a ha => m (ret1 q ha q ⟨q, H⟩)
 refine y <| rR <| qa q <| B <| C <| rR <| qm q <| qz H.ctx (hp0) u68 q <| qm q <| B <| g <| O h fun o6 ao h => ?_
 refine fun a8 ap => zp (I := fun (s4, s5) a w2 => (Fr a 45 [(1, iV p1), (5, iV s4), (16, vp0), (17, iV (List.length p0 : Int)), (18, iV s5)] ∧ Holds M0 w w2 [] G)) (O := fun o e a w2 => match o with | .inl _ => e = .exit 0 ∧ (Fr a 45 [] ∧ Holds M0 w w2 [] G) | .inr q0 => e = .ret ∧ (Fr a 45 [(4, .bool q0)] ∧ Holds M0 w w2 [] G)) ao ?_ ?_ ?_
 ·exact ⟨ap.s, H⟩
 ·rintro ⟨s4, s5⟩ _ a aB ab ⟨ha, ag⟩
  refine S1 ha <| rR <| qi (qt_lss q q) q <| B <| C ?_
  refine Yh q ab (fun ab => ?_) (fun ab => ?_)
  ·refine y <| C <| g <| rR <| O ab fun aa ak ab => qe ag (hp0) ak u68 i79 q fun _ _ aq => lP [iV aa.1, iV aa.2] us79 uo79 i79 aq q q q q <| zq (cs := [iV 0, iV 0]) ag z79 q q q fun aF aG ar => zl (cs' := [iV aa.1, iV aa.2]) ar q il79 q q q q q fun aH ad => B <| C <| rR <| qf uf79 fi79_0 nz3 q <| ql u3 ad.p0 q <| qm q <| qi (qt_leq q q) q <| qm q ?_
   refine Ho (res := ((decide (aa.1 ≤ s4)) || (decide (aa.1 ≥ p1)))) 4 os (fun ae aI au => ?_) ?_
   ·exact jf uf79 fi79_0 nz3 ae q <| jl u3 ad.p0 ae q <| jm ae q <| ji (qt_geq q q) ae q <| au 4 q q q (oi ae)
   refine qm q ?_
   refine Ho (res := (((decide (aa.1 ≤ s4)) || (decide (aa.1 ≥ p1))) || (decide (aa.2 < 1)))) 3 os (fun ah aJ av => ?_) ?_
   ·exact jf uf79 fi79_1 nz3 ah q <| jl u3 ad.p0 ah q <| ji (qt_lss q q) ah q <| av 3 q q q (oi ah)
   refine qm q ?_
   refine Ho (res := ((((decide (aa.1 ≤ s4)) || (decide (aa.1 ≥ p1))) || (decide (aa.2 < 1))) || (decide (aa.2 > 6)))) 3 os (fun aj aK aw => ?_) ?_
   ·exact jf uf79 fi79_1 nz3 aj q <| jl u3 ad.p0 aj q <| ji (qt_gtr q q) aj q <| aw 3 q q q (oi aj)
   refine B ?_
   refine Yh q ab (fun ab => ?_) (fun ab => ?_)
   ·cases ab
    exact rR <| qa q <| B <| W fun a ha => m (zj (m (⟨ret_ne, q, ha.s, ad.q0⟩)))
   cases ab
   exact y <| Z <| qf uf79 fi79_0 nz3 q <| ql u3 ad.p0 q <| qa q <| WL_nil fun a ha => zi <| X <| S1 ha <| Z <| qi (qt_add q q) q <| qm q <| WL_nil fun a ha => ⟨q, ha.s, ad.q0⟩
  cases ab
  exact WP_exit fun a ha => zo (⟨exit_ne, q, ha.s, ag⟩)
 intro e a aL al
 rcases o6 with o6 | o6
 ·obtain ⟨rfl, ha, az⟩ := al
  cases h
  exact zn <| X <| S1 ha <| rR <| qa q <| B <| W fun a ha => ret1 q ha q ⟨q, az⟩
 obtain ⟨rfl, ha, aA⟩ := al
 obtain rfl := L h
 exact zj (m (ret1 q ha q ⟨q, aA⟩))
theorem w_impl_itemValid {w G B0 A1 B1 B2 p1 r} (h : impl_itemValidS B0 B1 B2 p1 = some r) (C1 : Has G ty2 A1 B1) (H : Ctx w G) : Calls Tryz.prog 88 #[.agg #[iV B0, A1, iV B2], iV p1] w fun e w' => e = .returned (.bool r) ∧ Holds M0 w w' [] G := by
 refine F0 34 H Tryz.func88 q fun H => ?_
 refine C <| Z <| WL_box (cs := [iV B0, A1, iV B2]) H q q q q fun b1 w2 H3 => qa q <| B <| C <| rR <| qf uf70 fi70_2 nz3 q <| ql u3 H3.p0 q <| qi (qt_lss q q) q <| qm q ?_
 refine Ho (res := ((decide (B2 < 0)) || (decide (B2 > 31)))) 3 os (fun ad K7 af => ?_) ?_
 ·exact jf uf70 fi70_2 nz3 ad q <| jl u3 H3.p0 ad q <| ji (qt_gtr q q) ad q <| af 3 q q q (oi ad)
 refine B ?_
 refine Yh q h (fun h => ?_) (fun h => ?_)
 ·cases h
  exact rR <| qa q <| B <| W fun a ha => m (ret1 q ha q ⟨q, H3.q0⟩)
 refine y <| C <| rR <| qf uf70 fi70_0 nz3 q <| ql u3 H3.p0 q <| qi (qt_eql q q) q <| B ?_
 refine Yh q h (fun h => ?_) (fun h => ?_)
 ·cases h
  exact rR <| qf uf70 fi70_1 nz68 q <| ql u68 H3.p0 q <| qz H3.ctx (C1.c) u68 q <| qi (qt_eql q q) q <| qa q <| B <| W fun a ha => m (ret1 q ha q ⟨q, H3.q0⟩)
 refine y <| C <| zk <| qf uf70 fi70_0 nz3 q <| ql u3 H3.p0 q <| qi (qt_geq q q) q <| qm q ?_
 refine Ga (res := ((decide (B0 ≥ 1)) && (decide (B0 ≤ 6)))) 3 an (fun ae aq aj => ?_) ?_
 ·exact jf uf70 fi70_0 nz3 ae q <| jl u3 H3.p0 ae q <| ji (qt_leq q q) ae q <| aj 3 q q q (ai ae)
 refine qm q <| O h fun ak aa h => ?_
 refine Ga (res := ak) 4 (if_f · aa) (fun ab ar al => ?_) ?_
 ·exact have aa := if_t ab aa; jf uf70 fi70_1 nz68 ab q <| jl u68 H3.p0 ab q <| jm ab q <| O aa fun au am aa => jc ab q c119 H3 (fun _ => w_impl_partsValid am (C1.c)) <| al 4 q q q aa
 refine qa q <| Qn H3 fun a ha av ao => X <| S1 ha <| W fun a ha => ?_
 obtain rfl := L h
 exact ret1 q ha q ⟨q, ao.q0⟩
theorem w_impl_ItemsValid {w G vp0 p0 r} (h : impl_ItemsValidS p0 = some r) (hp0 : Has G ty12 vp0 p0) (H : Ctx w G) : Calls Tryz.prog 103 #[vp0] w fun e w' => e = .returned (.bool r) ∧ Holds M0 w w' [] G := by
 refine F0 20 H Tryz.func103 q fun H => ?_
 refine rR <| qa q <| B <| C <| rR <| qm q <| qz H.ctx (hp0) u23 q <| qi (qt_gtr q q) q <| B ?_
 refine Yh q h (fun h => ?_) (fun h => ?_)
 ·cases h
  exact rR <| qa q <| B <| W fun a ha => m (ret1 q ha q ⟨q, H⟩)
 refine y <| C <| rR <| qm q <| qz H.ctx (hp0) u23 q <| qm q <| B <| g <| O h fun o2 al h => ?_
 refine fun a4 am => zp (I := fun s1 a w2 => (Fr a 20 [(8, vp0), (9, iV (List.length p0 : Int)), (10, iV s1)] ∧ Holds M0 w w2 [] G)) (O := fun o e a w2 => match o with | .inl _ => e = .exit 0 ∧ (Fr a 20 [] ∧ Holds M0 w w2 [] G) | .inr q0 => e = .ret ∧ (Fr a 20 [(2, .bool q0)] ∧ Holds M0 w w2 [] G)) al ?_ ?_ ?_
 ·exact ⟨am.s, H⟩
 ·rintro s1 _ a w6 aa ⟨ha, ae⟩
  refine S1 ha <| rR <| qi (qt_lss q q) q <| B <| C ?_
  refine Yh q aa (fun aa => ?_) (fun aa => ?_)
  ·refine y <| C <| g <| rR <| qm q <| O aa fun ab ag aa => qb ae.ctx (hp0) ag u23 i70 q fun aH aI aJ ao => ?_
   obtain ⟨aK, ap, aq⟩ := ae.atN (hp0) ag ao
   refine XL_load_agg (t := ty12) us70 uo70 i70 ap q q q fun aL ar => ?_
   obtain ⟨c22, c23, aM, aN, rfl, au, av, aw⟩ := ar
   obtain ⟨rfl, _⟩ := av
   obtain ⟨c29, aO, aP, aQ, rfl, ax, ay, az⟩ := aw
   obtain ⟨ad, rfl, aA⟩ := Rep.sl_inv ay
   obtain ⟨rfl, _⟩ := az
   have aB : Holds _ w w6 [.ro ty2 ad ab.2.1] G := aq [.ro ty2 ad ab.2.1] ⟨⟨_, _, _, _, q, aA, (fun k h => (fun k h => (fun _ h => h) k (by rw [au]; exact zx _ h)) k (by rw [ax]; exact List.mem_append_left _ h))⟩, trivial⟩
   change XL _ _ _ _ _ ((14, .agg #[iV ab.1, ad, iV ab.2.2]) :: _) _
   refine zq (cs := [iV 0, nS, iV 0]) aB z70 q q q fun aR aS ah => qa q <| zl (cs' := [iV ab.1, ad, iV ab.2.2]) ah q il70 q (T q (T (ah.ctx.sliceOne hR1) (T q q))) q q q fun aT af => B <| C <| zk <| eA af.p0 us70 uo70 il70 q <| qm q <| O aa fun aU aC aa => qc q c88 af (fun _ => w_impl_itemValid aC hR1) <| qi (qt_not q) q <| Qn af fun a ha aV aj => X <| S1 ha ?_
   refine Yh q aa (fun aa => ?_) (fun aa => ?_)
   ·cases aa
    exact rR <| qa q <| B <| W fun a ha => zj (m (⟨ret_ne, q, ha.s, aj.q0.q0⟩))
   cases aa
   exact WP_skip fun a ha => zi <| X <| S1 ha <| Z <| qi (qt_add q q) q <| qm q <| WL_nil fun a ha => ⟨q, ha.s, aj.q0.q0⟩
  cases aa
  exact WP_exit fun a ha => zo (⟨exit_ne, q, ha.s, ae⟩)
 intro e a aW ak
 rcases o2 with o2 | o2
 ·obtain ⟨rfl, ha, aF⟩ := ak
  cases h
  exact zn <| X <| S1 ha <| rR <| qa q <| B <| W fun a ha => ret1 q ha q ⟨q, aF⟩
 obtain ⟨rfl, ha, aG⟩ := ak
 obtain rfl := L h
 exact zj (m (ret1 q ha q ⟨q, aG⟩))
theorem w_impl_amountsOk {w G vp0 p0 p1 p2 r} (h : impl_amountsOkS p0 p1 p2 = some r) (hp0 : Has G tI vp0 p0) (H : Ctx w G) : Calls Tryz.prog 59 #[vp0, iV p1, iV p2] w fun e w' => e = .returned (.bool r) ∧ Holds M0 w w' [] G := by
 refine F0 27 H Tryz.func59 q fun H => ?_
 refine rR <| qa q <| B <| C <| rR <| qm q <| qz H.ctx (hp0) u24 q <| qm q <| qi (qt_neq q q) q <| B ?_
 refine Yh q h (fun h => ?_) (fun h => ?_)
 ·cases h
  exact rR <| qa q <| B <| W fun a ha => m (ret1 q ha q ⟨q, H⟩)
 refine y <| C <| rR <| qm q <| qz H.ctx (hp0) u24 q <| qm q <| B <| g <| O h fun o2 ah h => ?_
 refine fun a4 aj => zp (I := fun s1 a w2 => (Fr a 27 [(2, iV p2), (13, vp0), (14, iV (List.length p0 : Int)), (15, iV s1)] ∧ Holds M0 w w2 [] G)) (O := fun o e a w2 => match o with | .inl _ => e = .exit 0 ∧ (Fr a 27 [] ∧ Holds M0 w w2 [] G) | .inr q0 => e = .ret ∧ (Fr a 27 [(6, .bool q0)] ∧ Holds M0 w w2 [] G)) ah ?_ ?_ ?_
 ·exact ⟨aj.s, H⟩
 ·rintro s1 _ a w6 aa ⟨ha, ab⟩
  refine S1 ha <| rR <| qi (qt_lss q q) q <| B <| C ?_
  refine Yh q aa (fun aa => ?_) (fun aa => ?_)
  ·refine y <| C <| g <| rR <| O aa fun ae af aa => qe ab (hp0) af u24 i3 q fun _ _ ak => eI u3 ak q <| qa q <| rN <| qm q <| qi (qt_lss q q) q <| qm q ?_
   refine Ho (res := ((decide (ae < 0)) || (decide (ae > p2)))) 3 os (fun ad au al => ?_) ?_
   ·exact jm ad q <| jm ad q <| ji (qt_gtr q q) ad q <| al 3 q q q (oi ad)
   refine B ?_
   refine Yh q aa (fun aa => ?_) (fun aa => ?_)
   ·cases aa
    exact rR <| qa q <| B <| W fun a ha => zj (m (⟨ret_ne, q, ha.s, ab⟩))
   cases aa
   exact WP_skip fun a ha => zi <| X <| S1 ha <| Z <| qi (qt_add q q) q <| qm q <| WL_nil fun a ha => ⟨q, ha.s, ab⟩
  cases aa
  exact WP_exit fun a ha => zo (⟨exit_ne, q, ha.s, ab⟩)
 intro e a av ag
 rcases o2 with o2 | o2
 ·obtain ⟨rfl, ha, am⟩ := ag
  cases h
  exact zn <| X <| S1 ha <| rR <| qa q <| B <| W fun a ha => ret1 q ha q ⟨q, am⟩
 obtain ⟨rfl, ha, ao⟩ := ag
 obtain rfl := L h
 exact zj (m (ret1 q ha q ⟨q, ao⟩))
theorem w_impl_PricesValid {w G vp0 p0 vp1 p1 r} (h : impl_PricesValidS p0 p1 = some r) (hp0 : Has G ty12 vp0 p0) (hp1 : Has G tI vp1 p1) (H : Ctx w G) : Calls Tryz.prog 58 #[vp0, vp1] w fun e w' => e = .returned (.bool r) ∧ Holds M0 w w' [] G := by
 refine F0 13 H Tryz.func58 q fun H => ?_
 refine rR <| qa q <| B <| C <| zk <| qm q <| O h fun x1 ad h => qc q c103 H (fun _ => w_impl_ItemsValid ad (hp0)) <| qm q <| O h fun b3 aa h => ?_
 refine Ga (res := b3) 4 (if_f · aa) (fun ab K6 ae => ?_) ?_
 ·exact have aa := if_t ab aa; jm ab q <| jm ab q <| jz H.ctx (hp0) u23 ab q <| O aa fun x8 af aa => jc ab q c59 H (fun _ => w_impl_amountsOk af (hp1)) <| ae 4 q q q aa
 refine qa q <| Qn H fun a ha ah ag => X <| S1 ha <| W fun a ha => ?_
 obtain rfl := L h
 exact ret1 q ha q ⟨q, ag⟩
theorem w_impl_finished {w G B0 B1 r} (h : impl_finishedS B0 B1 = some r) (H : Ctx w G) : Calls Tryz.prog 122 #[.agg #[iV B0, iV B1]] w fun e w' => e = .returned (.bool r) ∧ Holds M0 w w' [] G := by
 refine F0 11 H Tryz.func122 q fun H => ?_
 unfold impl_finishedS at h
 refine C <| Z <| WL_box (cs := [iV B0, iV B1]) H q q q q fun b1 w2 H3 => qa q <| rN <| qf uf123 fi123_1 nz3 q <| ql u3 H3.p0 q <| qi (qt_eql q q) q <| qm q ?_
 refine Ho (res := ((B1 == 3) || (B1 == 4))) 3 os (fun aa K7 ab => ?_) ?_
 ·exact jf uf123 fi123_1 nz3 aa q <| jl u3 H3.p0 aa q <| ji (qt_eql q q) aa q <| ab 3 q q q (oi aa)
 cases h
 exact qa q <| B <| W fun a ha => ret1 q ha q ⟨q, H3.q0⟩
theorem w_impl_reached {w G vp0 p0 p1 r} (h : impl_reachedS p0 p1 = some r) (hp0 : Has G ty2 vp0 p0) (H : Ctx w G) : Calls Tryz.prog 128 #[vp0, iV p1] w fun e w' => e = .returned (.bool r) ∧ Holds M0 w w' [] G := by
 refine F0 23 H Tryz.func128 q fun H => ?_
 refine rR <| qa q <| B <| C <| rR <| qm q <| qz H.ctx (hp0) u36 q <| qm q <| B <| g <| O h fun o2 al h => ?_
 refine fun a4 am => zp (I := fun s1 a w2 => (Fr a 23 [(1, iV p1), (7, vp0), (8, iV (List.length p0 : Int)), (9, iV s1)] ∧ Holds M0 w w2 [] G)) (O := fun o e a w2 => match o with | .inl _ => e = .exit 0 ∧ (Fr a 23 [] ∧ Holds M0 w w2 [] G) | .inr q0 => e = .ret ∧ (Fr a 23 [(4, .bool q0)] ∧ Holds M0 w w2 [] G)) al ?_ ?_ ?_
 ·exact ⟨am.s, H⟩
 ·rintro s1 _ a w6 aa ⟨ha, ad⟩
  refine S1 ha <| rR <| qi (qt_lss q q) q <| B <| C ?_
  refine Yh q aa (fun aa => ?_) (fun aa => ?_)
  ·refine y <| C <| g <| rR <| O aa fun ae ah aa => qe ad (hp0) ah u36 i123 q fun _ _ ao => lP [iV ae.1, iV ae.2] us123 uo123 i123 ao q q q q <| zq (cs := [iV 0, iV 0]) ad z123 q q q fun aC aD ap => zl (cs' := [iV ae.1, iV ae.2]) ap q il123 q q q q q fun aE af => B <| C <| zk <| qf uf123 fi123_0 nz3 q <| ql u3 af.p0 q <| qm q <| qi (qt_lss q q) q <| qm q <| O aa fun aq ab aa => ?_
   refine Ga (res := aq) 3 (if_f · ab) (fun ag aF ar => ?_) ?_
   ·exact have ab := if_t ag ab; jA af.p0 us123 uo123 il123 ag q <| O ab fun aG au ab => jc ag q c122 af (fun _ => w_impl_finished au) <| ji (qt_not q) ag q <| ar 3 q q q ab
   refine Qn af fun a ha aH aj => X <| S1 ha ?_
   refine Yh q aa (fun aa => ?_) (fun aa => ?_)
   ·cases aa
    exact rR <| qa q <| B <| W fun a ha => zj (m (⟨ret_ne, q, ha.s, aj.q0⟩))
   cases aa
   exact WP_skip fun a ha => zi <| X <| S1 ha <| Z <| qi (qt_add q q) q <| qm q <| WL_nil fun a ha => ⟨q, ha.s, aj.q0⟩
  cases aa
  exact WP_exit fun a ha => zo (⟨exit_ne, q, ha.s, ad⟩)
 intro e a aI ak
 rcases o2 with o2 | o2
 ·obtain ⟨rfl, ha, ax⟩ := ak
  cases h
  exact zn <| X <| S1 ha <| rR <| qa q <| B <| W fun a ha => ret1 q ha q ⟨q, ax⟩
 obtain ⟨rfl, ha, ay⟩ := ak
 obtain rfl := L h
 exact zj (m (ret1 q ha q ⟨q, ay⟩))
theorem w_impl_TicketValid {w G vp0 p0 r} (h : impl_TicketValidS p0 = some r) (hp0 : Has G ty2 vp0 p0) (H : Ctx w G) : Calls Tryz.prog 104 #[vp0] w fun e w' => e = .returned (.bool r) ∧ Holds M0 w w' [] G := by
 refine F0 57 H Tryz.func104 q fun H => ?_
 refine rR <| qa q <| B <| C <| rR <| qm q <| qz H.ctx (hp0) u36 q <| qi (qt_gtr q q) q <| B ?_
 refine Yh q h (fun h => ?_) (fun h => ?_)
 ·cases h
  exact rR <| qa q <| B <| W fun a ha => m (ret1 q ha q ⟨q, H⟩)
 refine y <| C <| rR <| qm q <| qz H.ctx (hp0) u36 q <| qm q <| B <| g <| O h fun o2 aB h => ?_
 refine fun a4 aC => zp (I := fun s1 a w2 => (Fr a 57 [(0, vp0), (10, vp0), (11, iV (List.length p0 : Int)), (12, iV s1)] ∧ Holds M0 w w2 [] G)) (O := fun o e a w2 => match o with | .inl _ => e = .exit 0 ∧ (Fr a 57 [(0, vp0)] ∧ Holds M0 w w2 [] G) | .inr q0 => e = .ret ∧ (Fr a 57 [(2, .bool q0)] ∧ Holds M0 w w2 [] G)) aB ?_ ?_ ?_
 ·exact ⟨aC.s, H⟩
 ·rintro s1 _ a w6 ad ⟨ha, ak⟩
  refine S1 ha <| rR <| qi (qt_lss q q) q <| B <| C ?_
  refine Yh q ad (fun ad => ?_) (fun ad => ?_)
  ·refine y <| C <| g <| rR <| O ad fun aa au ad => qe ak (hp0) au u36 i123 q fun _ _ aD => lP [iV aa.1, iV aa.2] us123 uo123 i123 aD q q q q <| zq (cs := [iV 0, iV 0]) ak z123 q q q fun a0 a1 aE => zl (cs' := [iV aa.1, iV aa.2]) aE q il123 q q q q q fun a2 ae => rN <| qf uf123 fi123_0 nz3 q <| ql u3 ae.p0 q <| qi (qt_lss q q) q <| qm q ?_
   refine Ho (res := ((decide (aa.1 < 0)) || (decide (aa.1 > 2)))) 3 os (fun al a3 aF => ?_) ?_
   ·exact jf uf123 fi123_0 nz3 al q <| jl u3 ae.p0 al q <| ji (qt_gtr q q) al q <| aF 3 q q q (oi al)
   refine qm q ?_
   refine Ho (res := (((decide (aa.1 < 0)) || (decide (aa.1 > 2))) || (decide (aa.2 < 0)))) 3 os (fun am a5 aG => ?_) ?_
   ·exact jf uf123 fi123_1 nz3 am q <| jl u3 ae.p0 am q <| ji (qt_lss q q) am q <| aG 3 q q q (oi am)
   refine qm q ?_
   refine Ho (res := ((((decide (aa.1 < 0)) || (decide (aa.1 > 2))) || (decide (aa.2 < 0))) || (decide (aa.2 > 4)))) 3 os (fun ao a6 aH => ?_) ?_
   ·exact jf uf123 fi123_1 nz3 ao q <| jl u3 ae.p0 ao q <| ji (qt_gtr q q) ao q <| aH 3 q q q (oi ao)
   refine B ?_
   refine Yh q ad (fun ad => ?_) (fun ad => ?_)
   ·cases ad
    exact rR <| qa q <| B <| W fun a ha => zj (m (⟨ret_ne, q, ha.s, ae.q0⟩))
   cases ad
   exact WP_skip fun a ha => zi <| X <| S1 ha <| Z <| qi (qt_add q q) q <| qm q <| WL_nil fun a ha => ⟨q, ha.s, ae.q0⟩
  cases ad
  exact WP_exit fun a ha => zo (⟨exit_ne, q, ha.s, ak⟩)
 intro e a a7 av
 rcases o2 with o2 | o2
 ·obtain ⟨rfl, ha, aw⟩ := av
  refine zn <| X <| S1 ha <| C <| rR <| qm q <| qz aw.ctx (hp0) u36 q <| qm q <| B <| g <| O h fun ar aK h => ?_
  refine fun a8 aL => zp (I := fun ax a w2 => (Fr a 57 [(0, vp0), (35, vp0), (36, iV (List.length p0 : Int)), (37, iV ax)] ∧ Holds M0 w w2 [] G)) (O := fun o e a w2 => match o with | .inl _ => e = .exit 2 ∧ (Fr a 57 [] ∧ Holds M0 w w2 [] G) | .inr q0 => e = .ret ∧ (Fr a 57 [(2, .bool q0)] ∧ Holds M0 w w2 [] G)) aK ?_ ?_ ?_
  ·exact ⟨aL.s, aw⟩
  ·rintro ax _ a a9 ab ⟨ha, ap⟩
   refine S1 ha <| rR <| qi (qt_lss q q) q <| B <| C ?_
   refine Yh q ab (fun ab => ?_) (fun ab => ?_)
   ·refine y <| C <| g <| rR <| O ab fun af ay ab => qe ap (hp0) ay u36 i123 q fun _ _ aM => lP [iV af.1, iV af.2] us123 uo123 i123 aM q q q q <| zq (cs := [iV 0, iV 0]) ap z123 q q q fun bd be aN => zl (cs' := [iV af.1, iV af.2]) aN q il123 q q q q q fun bf aj => B <| C <| zk <| qf uf123 fi123_1 nz3 q <| ql u3 aj.p0 q <| qi (qt_neq q q) q <| qm q ?_
    refine Ga (res := ((af.2 != 0) && (af.2 != 4))) 3 an (fun aq bg aO => ?_) ?_
    ·exact jf uf123 fi123_1 nz3 aq q <| jl u3 aj.p0 aq q <| ji (qt_neq q q) aq q <| aO 3 q q q (ai aq)
    refine qm q <| O ab fun aP ag ab => ?_
    refine Ga (res := aP) 5 (if_f · ag) (fun ah bh aQ => ?_) ?_
    ·exact have ag := if_t ah ag; jm ah q <| jf uf123 fi123_0 nz3 ah q <| jl u3 aj.p0 ah q <| O ag fun bi aR ag => jc ah q c128 aj (fun _ => w_impl_reached aR (hp0.c)) <| ji (qt_not q) ah q <| aQ 5 q q q ag
    refine Qn aj fun a ha bj az => X <| S1 ha ?_
    refine Yh q ab (fun ab => ?_) (fun ab => ?_)
    ·cases ab
     exact rR <| qa q <| B <| W fun a ha => zj (m (⟨ret_ne, q, ha.s, az.q0⟩))
    cases ab
    exact WP_skip fun a ha => zi <| X <| S1 ha <| Z <| qi (qt_add q q) q <| qm q <| WL_nil fun a ha => ⟨q, ha.s, az.q0⟩
   cases ab
   exact WP_exit fun a ha => zo (⟨exit_ne, q, ha.s, ap⟩)
  intro e a bk aA
  rcases ar with ar | ar
  ·obtain ⟨rfl, ha, aU⟩ := aA
   cases h
   exact zn <| X <| S1 ha <| rR <| qa q <| B <| W fun a ha => ret1 q ha q ⟨q, aU⟩
  obtain ⟨rfl, ha, aV⟩ := aA
  obtain rfl := L h
  exact zj (m (ret1 q ha q ⟨q, aV⟩))
 obtain ⟨rfl, ha, aW⟩ := av
 obtain rfl := L h
 exact zj (m (ret1 q ha q ⟨q, aW⟩))
theorem w_impl_UsesOf {w G vp0 p0 p1 r} (h : impl_UsesOfS p0 p1 = some r) (hp0 : Has G ty12 vp0 p0) (H : Ctx w G) : Calls Tryz.prog 142 #[vp0, iV p1] w fun e w' => e = .returned (iV r) ∧ Holds M0 w w' [] G := by
 refine F0 51 H Tryz.func142 q fun H => ?_
 refine rR <| qa q <| B <| C <| C <| zk <| qm q <| O h fun x1 ax h => qc q c103 H (fun _ => w_impl_ItemsValid ax (hp0)) <| qi (qt_not q) q <| qm q ?_
 refine Go (res := ((!x1) || (decide (p1 < 0)))) 2 os (fun aj K4 ay => ?_) ?_
 ·exact jm aj q <| ji (qt_lss q q) aj q <| ay 2 q q q (oi aj)
 refine qm q ?_
 refine Go (res := (((!x1) || (decide (p1 < 0))) || (decide (p1 ≥ (List.length p0 : Int))))) 4 os (fun ad K7 az => ?_) ?_
 ·exact jm ad q <| jm ad q <| jz H.ctx (hp0) u23 ad q <| ji (qt_geq q q) ad q <| az 4 q q q (oi ad)
 refine Qn H fun a ha w9 ak => X <| S1 ha ?_
 refine Yh q h (fun h => ?_) (fun h => ?_)
 ·cases h
  exact rR <| qa q <| B <| W fun a ha => m (ret1 q ha q ⟨q, ak⟩)
 refine y <| rR <| qm q <| O h fun aO aA h => qi (qt_shlO q q aA) q <| qa q <| B <| C <| C <| Z <| qm q <| qa q <| B <| g <| O h fun aP aB h => ?_
 refine fun aQ aC => zp (I := fun (al, ae) a w2 => (Fr a 51 [(0, vp0), (5, iV al), (6, iV ae)] ∧ Holds M0 w w2 [] G)) (O := fun q0 e a w2 => e = .exit 0 ∧ (Fr a 51 [(5, iV q0)] ∧ Holds M0 w w2 [] G)) aB ?_ ?_ ?_
 ·exact ⟨aC.s, ak⟩
 ·rintro ⟨al, ae⟩ _ a aR aa ⟨ha, af⟩
  refine S1 ha <| C <| rR <| qm q <| qi (qt_geq q q) q <| B ?_
  refine Yh q aa (fun aa => ?_) (fun aa => ?_)
  ·refine y <| C <| g <| C <| rR <| qm q <| qm q <| O aa fun aS aD aa => qi (qt_shlO q q aD) q <| qi (qt_and q q) q <| qi (qt_eql q q) q <| B ?_
   refine Yh q aa (fun aa => ?_) (fun aa => ?_)
   ·cases aa
    exact WP_exit fun a ha => zo <| zn <| X <| S1 ha <| Z <| qm q <| qi (qt_sub q q) q <| qa q <| WL_nil fun a ha => ⟨q, ha.s, af⟩
   refine y <| rR <| qm q <| qm q <| O aa fun am ao aa => qe af (hp0) ao u23 i70 q fun _ _ aE => qf uf70 fi70_1 nz68 q <| eV u68 aE.s.f q fun ap aq => qz aq.ctx hR0 u68 q <| qm q <| B <| g <| O aa fun aW aF aa => ?_
   refine fun aX aG => zp (I := fun (ar, au) a w2 => (Fr a 51 [(0, vp0), (5, iV ar), (6, iV ae), (38, ap), (39, iV (List.length am.2.1 : Int)), (40, iV au)] ∧ Holds M0 w w2 [.ro ty2 ap am.2.1] G)) (O := fun q0 e a w2 => e = .exit 2 ∧ (Fr a 51 [(0, vp0), (5, iV q0), (6, iV ae)] ∧ Holds M0 w w2 [] G)) aF ?_ ?_ ?_
   ·exact ⟨aG.s, aq⟩
   ·rintro ⟨ar, au⟩ _ a aY ab ⟨ha, ag⟩
    refine S1 ha <| rR <| qi (qt_lss q q) q <| B <| C ?_
    refine Yh q ab (fun ab => ?_) (fun ab => ?_)
    ·refine y <| C <| g <| rR <| O ab fun ah av ab => qe ag hR0 av u68 i79 q fun _ _ aH => lP [iV ah.1, iV ah.2] us79 uo79 i79 aH q q q q <| zq (cs := [iV 0, iV 0]) ag z79 q q q fun a2 a3 aI => zl (cs' := [iV ah.1, iV ah.2]) aI q il79 q q q q q fun a4 aw => B <| Z <| qm q <| qf uf79 fi79_0 nz3 q <| ql u3 aw.p0 q <| O ab fun a5 aJ ab => qi (qt_shlO q q aJ) q <| qi (qt_or q q) q <| qa q <| WL_nil fun a ha => zi <| X <| S1 ha <| Z <| qi (qt_add q q) q <| qm q <| WL_nil fun a ha => ?_
     cases ab
     exact ⟨q, ha.s, aw.q0⟩
    cases ab
    exact WP_exit fun a ha => zo (⟨exit_ne, q, ha.s, ag.q0⟩)
   rintro _ a a6 ⟨rfl, ha, aM⟩
   cases aa
   exact zn <| zi <| X <| S1 ha <| Z <| qm q <| qi (qt_sub q q) q <| qa q <| WL_nil fun a ha => ⟨q, ha.s, aM⟩
  cases aa
  exact WP_exit fun a ha => zo (⟨exit_ne, q, ha.s, af⟩)
 rintro _ a a7 ⟨rfl, ha, aN⟩
 refine zn <| X <| S1 ha <| rR <| qm q <| qa q <| B <| W fun a ha => ?_
 obtain rfl := L h
 exact ret1 q ha q ⟨q, aN⟩
theorem w_impl_MarksOf {w G vp0 p0 p1 r} (h : impl_MarksOfS p0 p1 = some r) (hp0 : Has G ty12 vp0 p0) (H : Ctx w G) : Calls Tryz.prog 124 #[vp0, iV p1] w fun e w' => e = .returned (iV r) ∧ Holds M0 w w' [] G := by
 refine F0 32 H Tryz.func124 q fun H => ?_
 refine rR <| qa q <| B <| C <| zk <| qm q <| qm q <| O h fun x1 aj h => qc q c142 H (fun _ => w_impl_UsesOf aj (hp0)) <| qa q <| Qn H fun a ha w3 H5 => X <| S1 ha <| C <| rR <| qm q <| qi (qt_lss q q) q <| B ?_
 refine Yh q h (fun h => ?_) (fun h => ?_)
 ·cases h
  exact rR <| qa q <| B <| W fun a ha => m (ret1 q ha q ⟨q, H5⟩)
 refine y <| rR <| qa q <| B <| C <| rR <| qm q <| qz H5.ctx (hp0) u23 q <| qm q <| B <| g <| O h fun o9 ak h => ?_
 refine fun aG al => zp (I := fun (s7, s8) a w2 => (Fr a 32 [(5, iV x1), (6, iV s7), (14, vp0), (15, iV (List.length p0 : Int)), (16, iV s8)] ∧ Holds M0 w w2 [] G)) (O := fun q0 e a w2 => e = .exit 0 ∧ (Fr a 32 [(6, iV q0)] ∧ Holds M0 w w2 [] G)) ak ?_ ?_ ?_
 ·exact ⟨al.s, H5⟩
 ·rintro ⟨s7, s8⟩ _ a am aa ⟨ha, ae⟩
  refine S1 ha <| rR <| qi (qt_lss q q) q <| B <| C ?_
  refine Yh q aa (fun aa => ?_) (fun aa => ?_)
  ·refine y <| C <| g <| rR <| qm q <| O aa fun ab ag aa => qb ae.ctx (hp0) ag u23 i70 q fun aH aI aJ ao => ?_
   obtain ⟨aK, ap, aq⟩ := ae.atN (hp0) ag ao
   refine XL_load_agg (t := ty12) us70 uo70 i70 ap q q q fun aL ar => ?_
   obtain ⟨c29, aM, aN, aO, rfl, au, av, aw⟩ := ar
   obtain ⟨rfl, _⟩ := av
   obtain ⟨c36, c37, aP, aQ, rfl, ax, ay, az⟩ := aw
   obtain ⟨ad, rfl, aA⟩ := Rep.sl_inv ay
   obtain ⟨rfl, _⟩ := az
   have aB : Holds _ w am [.ro ty2 ad ab.2.1] G := aq [.ro ty2 ad ab.2.1] ⟨⟨_, _, _, _, q, aA, (fun k h => (fun k h => (fun _ h => h) k (by rw [au]; exact zx _ h)) k (by rw [ax]; exact List.mem_append_left _ h))⟩, trivial⟩
   change XL _ _ _ _ _ ((20, .agg #[iV ab.1, ad, iV ab.2.2]) :: _) _
   refine zq (cs := [iV 0, nS, iV 0]) aB z70 q q q fun aR aS ah => qa q <| zl (cs' := [iV ab.1, ad, iV ab.2.2]) ah q il70 q (T q (T (ah.ctx.sliceOne hR1) (T q q))) q q q fun aT af => rN <| qm q <| qm q <| O aa fun aU aC aa => qi (qt_shlO q q aC) q <| qi (qt_and q q) q <| qi (qt_neq q q) q <| B ?_
   refine Yh q aa (fun aa => ?_) (fun aa => ?_)
   ·cases aa
    exact Z <| qm q <| qf uf70 fi70_2 nz3 q <| ql u3 af.p0 q <| qi (qt_or q q) q <| qa q <| WL_nil fun a ha => zi <| X <| S1 ha <| Z <| qi (qt_add q q) q <| qm q <| WL_nil fun a ha => ⟨q, ha.s, af.q0.q0⟩
   cases aa
   exact WP_skip fun a ha => zi <| X <| S1 ha <| Z <| qi (qt_add q q) q <| qm q <| WL_nil fun a ha => ⟨q, ha.s, af.q0.q0⟩
  cases aa
  exact WP_exit fun a ha => zo (⟨exit_ne, q, ha.s, ae⟩)
 rintro _ a aV ⟨rfl, ha, aF⟩
 refine zn <| X <| S1 ha <| rR <| qm q <| qa q <| B <| W fun a ha => ?_
 obtain rfl := L h
 exact ret1 q ha q ⟨q, aF⟩
theorem w_impl_FreeOf {w G vp0 p0 p1 r} (h : impl_FreeOfS p0 p1 = some r) (hp0 : Has G ty12 vp0 p0) (H : Ctx w G) : Calls Tryz.prog 95 #[vp0, iV p1] w fun e w' => ∃ (v1 : Value), e = .returned (v1) ∧ Holds M0 w w' [.sl 3 tI v1 r] G := by
 refine F0 43 H Tryz.func95 q fun H => ?_
 refine rR <| qa q <| B <| C <| C <| zk <| qm q <| O h fun x1 aw h => qc q c103 H (fun _ => w_impl_ItemsValid aw (hp0)) <| qi (qt_not q) q <| qm q ?_
 refine Go (res := ((!x1) || (decide (p1 < 0)))) 2 os (fun ah K4 ax => ?_) ?_
 ·exact jm ah q <| ji (qt_lss q q) ah q <| ax 2 q q q (oi ah)
 refine qm q ?_
 refine Go (res := (((!x1) || (decide (p1 < 0))) || (decide (p1 > 31)))) 2 os (fun aj K7 ay => ?_) ?_
 ·exact jm aj q <| ji (qt_gtr q q) aj q <| ay 2 q q q (oi aj)
 refine Qn H fun a ha w9 ak => X <| S1 ha ?_
 refine Yh q h (fun h => ?_) (fun h => ?_)
 ·cases h
  exact rR <| qa q <| B <| W fun a ha => have az := ak.nS 3 tI; m (ret1 q ha q ⟨(nS), q, az⟩)
 refine y <| rR <| qa q <| B <| C <| rR <| qm q <| qz ak.ctx (hp0) u23 q <| qm q <| B <| g <| have aA := ak.nS 3 tI; O h fun a2 aB h => ?_
 refine fun a3 aC => zp (I := fun (al, am) a w2 => ∃ ad, Fr a 43 [(0, vp0), (1, iV p1), (5, ad), (19, vp0), (20, iV (List.length p0 : Int)), (21, iV am)] ∧ Holds M0 w w2 [.sl 3 tI ad al] G) (O := fun q0 e a w2 => e = .exit 0 ∧ ∃ aq, Fr a 43 [(5, aq)] ∧ Holds M0 w w2 [.sl 3 tI aq q0] G) aB ?_ ?_ ?_
 ·exact ⟨(nS), aC.s, aA⟩
 ·rintro ⟨al, am⟩ _ a aD aa ⟨ad, ha, ao⟩
  refine S1 ha <| rR <| qi (qt_lss q q) q <| B <| C ?_
  refine Yh q aa (fun aa => ?_) (fun aa => ?_)
  ·refine y <| C <| g <| rR <| qm q <| O aa fun ae ar aa => qb ao.ctx (hp0.c) ar u23 i70 q fun a4 a5 a6 aE => ?_
   obtain ⟨a7, aF, aG⟩ := ao.atN (hp0.c) ar aE
   refine XL_load_agg (t := ty12) us70 uo70 i70 aF q q q fun a8 aH => ?_
   obtain ⟨c37, c38, a9, ba, rfl, aI, aJ, aK⟩ := aH
   obtain ⟨rfl, _⟩ := aJ
   obtain ⟨c44, c45, bb, bc, rfl, aL, aM, aN⟩ := aK
   obtain ⟨ag, rfl, aO⟩ := Rep.sl_inv aM
   obtain ⟨rfl, _⟩ := aN
   have aP : Holds _ w aD [.ro ty2 ag ae.2.1, .sl 3 tI ad al] G := aG [.ro ty2 ag ae.2.1] ⟨⟨_, _, _, _, q, aO, (fun k h => (fun k h => (fun _ h => h) k (by rw [aI]; exact zx _ h)) k (by rw [aL]; exact List.mem_append_left _ h))⟩, trivial⟩
   change XL _ _ _ _ _ ((25, .agg #[iV ae.1, ag, iV ae.2.2]) :: _) _
   refine zq (cs := [iV 0, nS, iV 0]) aP z70 q q q fun bd be au => qa q <| zl (cs' := [iV ae.1, ag, iV ae.2.2]) au q il70 q (T q (T (au.ctx.sliceOne hR1) (T q q))) q q q fun bf ap => B <| C <| zk <| qf uf70 fi70_0 nz3 q <| ql u3 ap.p0 q <| qi (qt_gtr q q) q <| qm q <| O aa fun aQ af aa => ?_
   refine Ga (res := aQ) 6 (if_f · af) (fun ab bg aR => ?_) ?_
   ·exact have af := if_t ab af; jm ab q <| jm ab q <| O af fun bh aS af => jc ab q c124 ap (fun _ => w_impl_MarksOf aS (hp0.c.c.c)) <| jm ab q <| ji (qt_and q q) ab q <| ji (qt_eql q q) ab q <| aR 6 q q q af
   refine Qn ap fun a ha bi av => X <| S1 ha ?_
   refine Yh q aa (fun aa => ?_) (fun aa => ?_)
   ·refine Z <| qm q <| qm q <| zs (t := tI) (args := [.tmp 38]) (xs := ([am] : List Int)) av (BltL.cons (Blt.int) q (BltL.nil)) u24 j3 q q q q q q fun bj bk aT => O aa fun bl aV aa => zw aT.p3 hS1 aV u24 j3 q q q q q q fun aW bm aX => qa q <| WL_nil fun a ha => zi <| X <| S1 ha <| Z <| qi (qt_add q q) q <| qm q <| WL_nil fun a ha => ?_
    cases aa
    exact ⟨q, aW, ha.s, aX.q1.q1.q1⟩
   cases aa
   exact WP_skip fun a ha => zi <| X <| S1 ha <| Z <| qi (qt_add q q) q <| qm q <| WL_nil fun a ha => ⟨q, ad, ha.s, av.q0.q0⟩
  cases aa
  exact WP_exit fun a ha => zo (⟨exit_ne, q, ad, ha.s, ao⟩)
 rintro _ a bn ⟨rfl, a0, ha, a1⟩
 refine zn <| X <| S1 ha <| rR <| qm q <| qa q <| B <| W fun a ha => ?_
 obtain rfl := L h
 exact ret1 q ha q ⟨a0, q, a1⟩
theorem w_slices_Index___int_int {w G vp0 p0 p1 r} (h : slices_Index___int_intS p0 p1 = some r) (hp0 : Has G tI vp0 p0) (H : Ctx w G) : Calls Tryz.prog 129 #[vp0, iV p1] w fun e w' => e = .returned (iV r) ∧ Holds M0 w w' [] G := by
 refine F0 19 H Tryz.func129 q fun H => ?_
 refine rR <| qa q <| B <| C <| rR <| qm q <| qz H.ctx (hp0) u24 q <| qm q <| B <| g <| O h fun o2 ae h => ?_
 refine fun a4 af => zp (I := fun s1 a w2 => (Fr a 19 [(0, vp0), (1, iV p1), (7, iV (List.length p0 : Int)), (8, iV s1)] ∧ Holds M0 w w2 [] G)) (O := fun o e a w2 => match o with | .inl _ => e = .exit 0 ∧ (Fr a 19 [] ∧ Holds M0 w w2 [] G) | .inr q0 => e = .ret ∧ (Fr a 19 [(4, iV q0)] ∧ Holds M0 w w2 [] G)) ae ?_ ?_ ?_
 ·exact ⟨af.s, H⟩
 ·rintro s1 _ a w6 aa ⟨ha, ab⟩
  refine S1 ha <| rR <| qi (qt_lss q q) q <| B <| C ?_
  refine Yh q aa (fun aa => ?_) (fun aa => ?_)
  ·refine y <| C <| g <| rR <| qm q <| qa q <| B <| C <| Z <| qm q <| qm q <| qm q <| O aa fun ak ad aa => qe ab (hp0) ad u24 i3 q fun _ _ ag => eI u3 ag q <| qi (qt_eql q q) q <| B ?_
   refine Yh q aa (fun aa => ?_) (fun aa => ?_)
   ·cases aa
    exact rR <| qm q <| qa q <| B <| W fun a ha => zj (m (⟨ret_ne, q, ha.s, ab⟩))
   cases aa
   exact WP_skip fun a ha => zi <| X <| S1 ha <| Z <| qi (qt_add q q) q <| qm q <| WL_nil fun a ha => ⟨q, ha.s, ab⟩
  cases aa
  exact WP_exit fun a ha => zo (⟨exit_ne, q, ha.s, ab⟩)
 intro e a ap hO18
 rcases o2 with o2 | o2
 ·obtain ⟨rfl, ha, ah⟩ := hO18
  cases h
  exact zn <| X <| S1 ha <| rR <| qa q <| B <| W fun a ha => ret1 q ha q ⟨q, ah⟩
 obtain ⟨rfl, ha, aj⟩ := hO18
 obtain rfl := L h
 exact zj (m (ret1 q ha q ⟨q, aj⟩))
theorem w_slices_Contains___int_int {w G vp0 p0 p1 r} (h : slices_Contains___int_intS p0 p1 = some r) (hp0 : Has G tI vp0 p0) (H : Ctx w G) : Calls Tryz.prog 105 #[vp0, iV p1] w fun e w' => e = .returned (.bool r) ∧ Holds M0 w w' [] G := by
 refine F0 9 H Tryz.func105 q fun H => ?_
 refine rR <| qa q <| B <| C <| zk <| qm q <| qm q <| O h fun x1 aa h => qc q c129 H (fun _ => w_slices_Index___int_int aa (hp0)) <| qi (qt_geq q q) q <| qa q <| Qn H fun a ha w3 H5 => X <| S1 ha <| W fun a ha => ?_
 cases h
 exact ret1 q ha q ⟨q, H5⟩
theorem w_impl_tableValid {w G vp0 p0 p1_0 A1_1 p1_1 A1_2 p1_2 r} (h : impl_tableValidS p0 p1_0 p1_1 p1_2 = some r) (hp0 : Has G ty12 vp0 p0) (hp1_1 : Has G ty2 A1_1 p1_1) (hp1_2 : Has G tI A1_2 p1_2) (H : Ctx w G) : Calls Tryz.prog 60 #[vp0, .agg #[iV p1_0, A1_1, A1_2]] w fun e w' => e = .returned (.bool r) ∧ Holds M0 w w' [] G := by
 refine F0 47 H Tryz.func60 q fun H => ?_
 refine C <| Z <| WL_box (cs := [iV p1_0, A1_1, A1_2]) H q q q q fun b1 w2 H3 => qa q <| B <| C <| C <| zk <| qf uf38 fi38_0 nz3 q <| ql u3 H3.p0 q <| qi (qt_lss q q) q <| qm q ?_
 refine Go (res := ((decide (p1_0 < 0)) || (decide (p1_0 > 31)))) 3 os (fun ag K7 au => ?_) ?_
 ·exact jf uf38 fi38_0 nz3 ag q <| jl u3 H3.p0 ag q <| ji (qt_gtr q q) ag q <| au 3 q q q (oi ag)
 refine qm q <| O h fun al ad h => ?_
 refine Go (res := al) 4 (if_t · ad) (fun ae aL av => ?_) ?_
 ·exact have ad := if_f ae ad; jf uf38 fi38_1 nz36 ae q <| jl u36 H3.p0 ae q <| O ad fun aM aw ad => jc ae q c104 H3 (fun _ => w_impl_TicketValid aw (hp1_1.c)) <| ji (qt_not q) ae q <| av 4 q q q ad
 refine qm q ?_
 refine Go (res := (al || ((List.length p1_2 : Int) != (List.length p1_1 : Int)))) 7 os (fun ab aN ax => ?_) ?_
 ·exact jf uf38 fi38_2 nz24 ab q <| jl u24 H3.p0 ab q <| jz H3.ctx (hp1_2.c) u24 ab q <| jf uf38 fi38_1 nz36 ab q <| jl u36 H3.p0 ab q <| jz H3.ctx (hp1_1.c) u36 ab q <| ji (qt_neq q q) ab q <| ax 7 q q q (oi ab)
 refine Qn H3 fun a ha aO ah => X <| S1 ha ?_
 refine Yh q h (fun h => ?_) (fun h => ?_)
 ·cases h
  exact rR <| qa q <| B <| W fun a ha => m (ret1 q ha q ⟨q, ah.q0⟩)
 refine y <| rR <| qm q <| qf uf38 fi38_0 nz3 q <| ql u3 ah.p0 q <| O h fun az aA h => U1 q c95 (w_impl_FreeOf aA (hp0.c) ah.ctx) fun am aP aB => have aj := ah.cN1 [] aB; qa q <| B <| C <| rR <| qf uf38 fi38_2 nz24 q <| ql u24 aj.p1 q <| qz aj.ctx (hp1_2.c.c) u24 q <| qm q <| B <| g <| O h fun ak aC h => ?_
 refine fun aQ aE => zp (I := fun ao a w2 => (Fr a 47 [(5, am), (36, A1_2), (37, iV (List.length p1_2 : Int)), (38, iV ao)] ∧ Holds M0 w w2 [.sl 3 tI am az] G)) (O := fun o e a w2 => match o with | .inl _ => e = .exit 0 ∧ (Fr a 47 [] ∧ Holds M0 w w2 [] G) | .inr q0 => e = .ret ∧ (Fr a 47 [(4, .bool q0)] ∧ Holds M0 w w2 [] G)) aC ?_ ?_ ?_
 ·exact ⟨aE.s, aj.q1⟩
 ·rintro ao _ a aR aa ⟨ha, af⟩
  refine S1 ha <| rR <| qi (qt_lss q q) q <| B <| C ?_
  refine Yh q aa (fun aa => ?_) (fun aa => ?_)
  ·refine y <| C <| g <| rR <| O aa fun aS ap aa => qe af (hp1_2.c) ap u24 i3 q fun _ _ aF => eI u3 aF q <| qa q <| B <| C <| zk <| qm q <| qm q <| O aa fun aW aG aa => qc q c105 af (fun _ => w_slices_Contains___int_int aG hS0) <| qi (qt_not q) q <| Qn af fun a ha aX aq => X <| S1 ha ?_
   refine Yh q aa (fun aa => ?_) (fun aa => ?_)
   ·cases aa
    exact rR <| qa q <| B <| W fun a ha => zj (m (⟨ret_ne, q, ha.s, aq.q0⟩))
   cases aa
   exact WP_skip fun a ha => zi <| X <| S1 ha <| Z <| qi (qt_add q q) q <| qm q <| WL_nil fun a ha => ⟨q, ha.s, aq⟩
  cases aa
  exact WP_exit fun a ha => zo (⟨exit_ne, q, ha.s, af.q0⟩)
 intro e a aY ar
 rcases ak with ak | ak
 ·obtain ⟨rfl, ha, aJ⟩ := ar
  cases h
  exact zn <| X <| S1 ha <| rR <| qa q <| B <| W fun a ha => ret1 q ha q ⟨q, aJ⟩
 obtain ⟨rfl, ha, aK⟩ := ar
 obtain rfl := L h
 exact zj (m (ret1 q ha q ⟨q, aK⟩))
theorem w_impl_HouseValid {w G A0 B0 A1 B1 A2 B2 B3 A4 B4 r} (h : impl_HouseValidS B0 B1 B2 B3 B4 = some r) (C0 : Has G ty12 A0 B0) (C1 : Has G tI A1 B1) (C2 : Has G tI A2 B2) (C4 : Has G ty14 A4 B4) (H : Ctx w G) : Calls Tryz.prog 17 #[.agg #[A0, A1, A2, iV B3, A4]] w fun e w' => e = .returned (.bool r) ∧ Holds M0 w w' [] G := by
 refine F0 47 H Tryz.func17 q fun H => ?_
 refine C <| Z <| WL_box (cs := [A0, A1, A2, iV B3, A4]) H q q q q fun b1 w2 H3 => qa q <| B <| C <| C <| zk <| qf uf27 fi27_0 nz23 q <| ql u23 H3.p0 q <| qf uf27 fi27_1 nz24 q <| ql u24 H3.p0 q <| O h fun x7 ay h => qc q c58 H3 (fun _ => w_impl_PricesValid ay (C0.c) (C1.c)) <| qi (qt_not q) q <| qm q <| O h fun b9 ae h => ?_
 refine Go (res := b9) 7 (if_t · ae) (fun ad aZ az => ?_) ?_
 ·exact have ae := if_f ad ae; jf uf27 fi27_2 nz24 ad q <| jl u24 H3.p0 ad q <| jf uf27 fi27_0 nz23 ad q <| jl u23 H3.p0 ad q <| jz H3.ctx (C0.c) u23 ad q <| O ae fun a0 aA ae => jc ad q c59 H3 (fun _ => w_impl_amountsOk aA (C2.c)) <| ji (qt_not q) ad q <| az 7 q q q ae
 refine Qn H3 fun a ha a1 ab => X <| S1 ha ?_
 refine Yh q h (fun h => ?_) (fun h => ?_)
 ·cases h
  exact rR <| qa q <| B <| W fun a ha => m (ret1 q ha q ⟨q, ab.q0⟩)
 refine y <| C <| rR <| qf uf27 fi27_3 nz3 q <| ql u3 ab.p0 q <| qi (qt_lss q q) q <| qm q ?_
 refine Ho (res := ((decide (B3 < 0)) || (decide (B3 > 99999)))) 3 os (fun ah a2 aC => ?_) ?_
 ·exact jf uf27 fi27_3 nz3 ah q <| jl u3 ab.p0 ah q <| ji (qt_gtr q q) ah q <| aC 3 q q q (oi ah)
 refine qm q ?_
 refine Ho (res := (((decide (B3 < 0)) || (decide (B3 > 99999))) || (decide ((List.length B4 : Int) > 4)))) 4 os (fun ag a3 aD => ?_) ?_
 ·exact jf uf27 fi27_4 nz25 ag q <| jl u25 ab.p0 ag q <| jz ab.ctx (C4.c) u25 ag q <| ji (qt_gtr q q) ag q <| aD 4 q q q (oi ag)
 refine B ?_
 refine Yh q h (fun h => ?_) (fun h => ?_)
 ·cases h
  exact rR <| qa q <| B <| W fun a ha => m (ret1 q ha q ⟨q, ab.q0⟩)
 refine y <| C <| rR <| qf uf27 fi27_4 nz25 q <| ql u25 ab.p0 q <| qz ab.ctx (C4.c) u25 q <| qm q <| B <| g <| O h fun am aF h => ?_
 refine fun a4 aG => zp (I := fun aq a w2 => (Fr a 47 [(1, pB b1), (35, A4), (36, iV (List.length B4 : Int)), (37, iV aq)] ∧ Holds M0 w w2 [.bx b1 27 [A0, A1, A2, iV B3, A4]] G)) (O := fun o e a w2 => match o with | .inl _ => e = .exit 0 ∧ (Fr a 47 [] ∧ Holds M0 w w2 [] G) | .inr q0 => e = .ret ∧ (Fr a 47 [(2, .bool q0)] ∧ Holds M0 w w2 [] G)) aF ?_ ?_ ?_
 ·exact ⟨aG.s, ab⟩
 ·rintro aq _ a aH aa ⟨ha, ao⟩
  refine S1 ha <| rR <| qi (qt_lss q q) q <| B <| C ?_
  refine Yh q aa (fun aa => ?_) (fun aa => ?_)
  ·refine y <| C <| g <| rR <| O aa fun af ar aa => qb ao.ctx (C4.c) ar u25 i38 q fun a5 a6 a7 aI => ?_
   obtain ⟨a8, aJ, aK⟩ := ao.atN (C4.c) ar aI
   refine XL_load_agg (t := ty14) us38 uo38 i38 aJ q q q fun a9 aL => ?_
   obtain ⟨ba, c56, bb, bc, rfl, au, aM, aN⟩ := aL
   obtain ⟨rfl, _⟩ := aM
   obtain ⟨c62, c63, bd, be, rfl, av, aO, aP⟩ := aN
   obtain ⟨aj, rfl, aQ⟩ := Rep.sl_inv aO
   obtain ⟨ak, rfl, aR⟩ := Rep.sl_inv aP
   have aS : Holds _ w aH [.ro ty2 aj af.2.1, .ro tI ak af.2.2, .bx b1 27 [A0, A1, A2, iV B3, A4]] G := aK [.ro ty2 aj af.2.1, .ro tI ak af.2.2] ⟨⟨_, _, _, _, q, aQ, (fun k h => (fun k h => (fun _ h => h) k (by rw [au]; exact zx _ h)) k (by rw [av]; exact List.mem_append_left _ h))⟩, ⟨_, _, _, _, q, aR, (fun k h => (fun k h => (fun _ h => h) k (by rw [au]; exact zx _ h)) k (by rw [av]; exact zx _ h))⟩, trivial⟩
   change XL _ _ _ _ _ ((40, .agg #[iV af.1, aj, ak]) :: _) _
   refine zq (cs := [iV 0, nS, nS]) aS z38 q q q fun bf bg ap => zl (cs' := [iV af.1, aj, ak]) ap q il38 q (T q (T (ap.ctx.sliceOne hR1) (T (ap.ctx.sliceOne hR2) q))) q q q fun bh al => B <| C <| zk <| qf uf27 fi27_0 nz23 q <| ql u23 al.p3 q <| eA al.p0 us38 uo38 il38 q <| O aa fun bi aT aa => qc q c60 al (fun _ => w_impl_tableValid aT (C0.c.c.c.c) hR1 hR2) <| qi (qt_not q) q <| Qn al fun a ha bj aw => X <| S1 ha ?_
   refine Yh q aa (fun aa => ?_) (fun aa => ?_)
   ·cases aa
    exact rR <| qa q <| B <| W fun a ha => zj (m (⟨ret_ne, q, ha.s, aw.q0.q0.q0.q0⟩))
   cases aa
   exact WP_skip fun a ha => zi <| X <| S1 ha <| Z <| qi (qt_add q q) q <| qm q <| WL_nil fun a ha => ⟨q, ha.s, aw.q0.q0.q0⟩
  cases aa
  exact WP_exit fun a ha => zo (⟨exit_ne, q, ha.s, ao.q0⟩)
 intro e a bk ax
 rcases am with am | am
 ·obtain ⟨rfl, ha, aX⟩ := ax
  cases h
  exact zn <| X <| S1 ha <| rR <| qa q <| B <| W fun a ha => ret1 q ha q ⟨q, aX⟩
 obtain ⟨rfl, ha, aY⟩ := ax
 obtain rfl := L h
 exact zj (m (ret1 q ha q ⟨q, aY⟩))
theorem w_impl_copyInts {w G vp0 p0 r} (h : impl_copyIntsS p0 = some r) (hp0 : Has G tI vp0 p0) (H : Ctx w G) : Calls Tryz.prog 81 #[vp0] w fun e w' => ∃ (v1 : Value), e = .returned (v1) ∧ Holds M0 w w' [.sl 3 tI v1 r] G := by
 refine F0 14 H Tryz.func81 q fun H => ?_
 refine rR <| qa q <| B <| C <| rR <| qm q <| qz H.ctx (hp0) u24 q <| qi (qt_eql q q) q <| B ?_
 refine Yh q h (fun h => ?_) (fun h => ?_)
 ·cases h
  exact rR <| qa q <| B <| W fun a ha => have H1 := H.nS 3 tI; m (ret1 q ha q ⟨(nS), q, H1⟩)
 refine y <| rR <| qm q <| qz H.ctx (hp0) u24 q <| O h fun x2 aa h => WL_makeH H aa u24 j3 q (fun _ => ⟨q, q⟩) q q q q q fun v4 w5 H6 => qa q <| rN <| qm q <| qm q <| WL_copyH q H6 (hp0.c) q u24 i3 q q q q fun w8 H9 => rN <| qm q <| qa q <| B <| W fun a ha => ?_
 cases h
 exact ret1 q ha q ⟨v4, q, H9⟩
theorem w_impl_copyItem {w G B0 A1 B1 B2 r} (h : impl_copyItemS B0 B1 B2 = some r) (C1 : Has G ty2 A1 B1) (H : Ctx w G) : Calls Tryz.prog 82 #[.agg #[iV B0, A1, iV B2]] w fun e w' => ∃ (v1 : Value), e = .returned (.agg #[iV r.1, v1, iV r.2.2]) ∧ Holds M0 w w' [.sl 79 ty2 v1 r.2.1] G := by
 refine F0 24 H Tryz.func82 q fun H => ?_
 refine C <| Z <| WL_box (cs := [iV B0, A1, iV B2]) H q q q q fun b1 w2 H3 => zq (cs := [iV 0, nS, iV 0]) H3 z70 q q q fun b5 w6 H7 => rN <| qf uf70 fi70_0 nz3 q <| ql u3 H7.p1 q <| qf uf70 fi70_2 nz3 q <| ql u3 H7.p1 q <| qi (qt_build (args := [(0, .tmp 5), (2, .tmp 7)]) (css := [#[iV B0], #[iV B2]]) (cells := #[iV B0, nS, iV B2]) q ⟨q, q, trivial⟩ (by kernel_rfl)) q <| zq (cs := [iV 0, nS, iV 0]) H7 z70 q q q fun ah az ak => zl (cs' := [iV B0, nS, iV B2]) ak q il70 q q q q q fun aA ab => B <| C <| rR <| qf uf70 fi70_1 nz68 q <| ql u68 ab.p2 q <| qz ab.ctx (C1.c.c.c) u68 q <| qi (qt_gtr q q) q <| B <| O h fun al aa h => ?_
 refine WP_join (M := fun a w2 => ∃ ad, Fr a 24 [(2, pB b5), (3, pB ah)] ∧ Holds M0 w w2 [.bx b5 70 [iV 0, nS, iV 0], .bx ah 70 [iV B0, ad, iV B2], .sl 79 ty2 ad al] G) ?_ ?_
 ·refine Yh q aa (fun aa => ?_) (fun aa => ?_)
  ·refine rR <| qf uf70 fi70_1 nz68 q <| ql u68 ab.p2 q <| qz ab.ctx (C1.c.c.c) u68 q <| O aa fun aB am aa => WL_makeH ab am u68 j79 q (fun _ => ⟨_, _, [], [], q, q, ⟨q, q⟩, ⟨q, q⟩⟩) q q q q q fun ao aC ap => qf uf70 fi70_1 nz68 q <| have ae := ap.p1; WL_store_bx ae q il68 (ae.ctx.sliceCells hS1) (ae.ctx.sliceOne hS1) q q q fun aD af => B <| Z <| qf uf70 fi70_1 nz68 q <| ql u68 af.p0 q <| qf uf70 fi70_1 nz68 q <| ql u68 af.p3 q <| WL_copyH q af.p1 (C1.c.c.c.c) q u68 i79 q q q q fun aE ar => WL_nil fun a ha => ?_
   cases aa
   exact X (⟨ao, ha.s, ar.q3.p1.p2⟩)
  cases aa
  exact WP_skip fun a ha => have av := ab.nS 79 ty2; X (⟨(nS), ha.s, av.q3.p1.p2⟩)
 rintro a aF ⟨ad, ha, ag⟩
 cases h
 exact S1 ha <| rR <| eA ag.p1 us70 uo70 il70 q <| zl (cs' := [iV B0, ad, iV B2]) ag q il70 q (T q (T (ag.ctx.sliceOne hS2) (T q q))) q q q fun aG aj => B <| W fun a ha => have ax := R aj.p0; retc q ha q (run_loadVar_bx (cs := [iV B0, ad, iV B2]) us70 uo70 il70 ax) ⟨ad, q, aj.q0.q0⟩
theorem w_impl_copyTicket {w G vp0 p0 r} (h : impl_copyTicketS p0 = some r) (hp0 : Has G ty2 vp0 p0) (H : Ctx w G) : Calls Tryz.prog 83 #[vp0] w fun e w' => ∃ (v1 : Value), e = .returned (v1) ∧ Holds M0 w w' [.sl 123 ty2 v1 r] G := by
 refine F0 14 H Tryz.func83 q fun H => ?_
 refine rR <| qa q <| B <| C <| rR <| qm q <| qz H.ctx (hp0) u36 q <| qi (qt_eql q q) q <| B ?_
 refine Yh q h (fun h => ?_) (fun h => ?_)
 ·cases h
  exact rR <| qa q <| B <| W fun a ha => have H1 := H.nS 123 ty2; m (ret1 q ha q ⟨(nS), q, H1⟩)
 refine y <| rR <| qm q <| qz H.ctx (hp0) u36 q <| O h fun x2 aa h => WL_makeH H aa u36 j123 q (fun _ => ⟨_, _, [], [], q, q, ⟨q, q⟩, ⟨q, q⟩⟩) q q q q q fun v4 w5 H6 => qa q <| rN <| qm q <| qm q <| WL_copyH q H6 (hp0.c) q u36 i123 q q q q fun w8 H9 => rN <| qm q <| qa q <| B <| W fun a ha => ?_
 cases h
 exact ret1 q ha q ⟨v4, q, H9⟩
theorem w_impl_copyHouse {w G A0 B0 A1 B1 A2 B2 B3 A4 B4 r} (h : impl_copyHouseS B0 B1 B2 B3 B4 = some r) (C0 : Has G ty12 A0 B0) (C1 : Has G tI A1 B1) (C2 : Has G tI A2 B2) (C4 : Has G ty14 A4 B4) (H : Ctx w G) : Calls Tryz.prog 32 #[.agg #[A0, A1, A2, iV B3, A4]] w fun e w' => ∃ (v1 : Value) (csv1 : List Value) (Fv1 : List Nat) (v4 : Value) (v5 : Value) (v6 : Value) (csv6 : List Value) (Fv6 : List Nat), e = .returned (.agg #[v1, v4, v5, iV r.2.2.2.1, v6]) ∧ Holds M0 w w' [dpR 70 dt15 v1 csv1 r.1 Fv1, .sl 3 tI v4 r.2.1, .sl 3 tI v5 r.2.2.1, dpR 38 dt16 v6 csv6 r.2.2.2.2 Fv6] G := by
 refine F0 55 H Tryz.func32 q fun H => ?_
 refine C <| Z <| WL_box (cs := [A0, A1, A2, iV B3, A4]) H q q q q fun b1 w2 H3 => zq (cs := [nS, nS, nS, iV 0, nS]) H3 z27 q q q fun b5 w6 H7 => B <| C <| O h fun aj bh h => O h fun ak aT h => ?_
 refine WP_join (M := fun a w2 => ∃ ad aN aU aV aa ab af aC aD, Fr a 55 [(1, pB b1), (2, pB b5), (3, pB ad)] ∧ Holds M0 w w2 [.bx b1 27 [A0, A1, A2, iV B3, A4], .bx b5 27 [nS, nS, nS, iV 0, nS], .bx ad 27 [aN, aa, ab, iV B3, af], dpR 70 dt15 aN aU ([]) aV, .sl 3 tI aa aj, .sl 3 tI ab ak, dpR 38 dt16 af aC ([]) aD] G) ?_ ?_
 ·refine WP_ordersT (fun w1 w2 => Chg M0 w1 w2) 10 (by kernel_rfl) fun aW bz => have aO := H7.grow bz; ?_
  have aP : Ctx aW ([] ++ ([.bx b5 27 [nS, nS, nS, iV 0, nS], .bx b1 27 [A0, A1, A2, iV B3, A4]] ++ G)) := aO.ctx
  have bA : Holds _ aW aW [] ([.bx b5 27 [nS, nS, nS, iV 0, nS], .bx b1 27 [A0, A1, A2, iV B3, A4]] ++ G) := zb (Rs := []) aP
  refine have Hc := bA; XQ (i := 0) q (by kernel_rfl) q Hc.chg q (fun _ => qt_fieldAddr uf27 fi27_1 nz24 q) q q <| have bB := HasB.bx (HasB.c (HasB.hd)) Hc.ctx; XT (i := 1) q (by kernel_rfl) q Hc.chg q (qs_cell u24 q q (bB.cell (i := 1) q) Hc.chg (Ctx.outB aP (HasB.c (HasB.hd)))) q q <| XQ (i := 3) q (by kernel_rfl) q Hc.chg q (fun _ => qt_fieldAddr uf27 fi27_2 nz24 q) q q <| have bC := HasB.bx (HasB.c (HasB.hd)) Hc.ctx; XT (i := 4) q (by kernel_rfl) q Hc.chg q (qs_cell u24 q q (bC.cell (i := 2) q) Hc.chg (Ctx.outB aP (HasB.c (HasB.hd)))) q q <| XQ (i := 6) q (by kernel_rfl) q Hc.chg q (fun _ => qt_fieldAddr uf27 fi27_3 nz3 q) q q <| have bD := HasB.bx (HasB.c (HasB.hd)) Hc.ctx; XT (i := 7) q (by kernel_rfl) q Hc.chg q (qs_cell u3 q q (bD.cell (i := 3) q) Hc.chg (Ctx.outB aP (HasB.c (HasB.hd)))) q q ?_
  repeat' first
   | refine XDo 2 q <| U1 q c81 (w_impl_copyInts bh (C1.c.c) Hc.ctx) fun aq _ HK => ?_; have Hc := Hc.cN1 [] HK; refine XN Hc.chg ?_
   | refine XDo 2 q <| U1 q c81 (w_impl_copyInts bh (C1.c.c.c) Hc.ctx) fun aq _ HK => ?_; have Hc := Hc.cN1 [] HK; refine XN Hc.chg ?_
   | refine XDo 5 q <| U1 q c81 (w_impl_copyInts aT (C2.c.c.c) Hc.ctx) fun am _ HK => ?_; have Hc := Hc.cN1 [] HK; refine XN Hc.chg <| XQ (i := 8) q (by kernel_rfl) q Hc.chg q (fun _ => qt_build (args := [(1, .tmp 10), (2, .tmp 13), (3, .tmp 15)]) (css := [#[aq], #[am], #[iV B3]]) (cells := #[nS, aq, am, iV B3, nS]) q ⟨(Hc.ctx.sliceCells hS1), (Hc.ctx.sliceCells hS0), q, trivial⟩ (by kernel_rfl)) q q ?_
   | refine XDo 5 q <| U1 q c81 (w_impl_copyInts aT (C2.c.c.c.c) Hc.ctx) fun am _ HK => ?_; have Hc := Hc.cN1 [] HK; refine XN Hc.chg <| XQ (i := 8) q (by kernel_rfl) q Hc.chg q (fun _ => qt_build (args := [(1, .tmp 10), (2, .tmp 13), (3, .tmp 15)]) (css := [#[aq], #[am], #[iV B3]]) (cells := #[nS, aq, am, iV B3, nS]) q ⟨(Hc.ctx.sliceCells hS2), (Hc.ctx.sliceCells hS0), q, trivial⟩ (by kernel_rfl)) q q ?_
   | refine XDo 5 q <| U1 q c81 (w_impl_copyInts aT (C2.c.c.c.c) Hc.ctx) fun am _ HK => ?_; have Hc := Hc.cN1 [] HK; refine XN Hc.chg <| XQ (i := 8) q (by kernel_rfl) q Hc.chg q (fun _ => qt_build (args := [(1, .tmp 10), (2, .tmp 13), (3, .tmp 15)]) (css := [#[aq], #[am], #[iV B3]]) (cells := #[nS, aq, am, iV B3, nS]) q ⟨(Hc.ctx.sliceCells hS1), (Hc.ctx.sliceCells hS0), q, trivial⟩ (by kernel_rfl)) q q ?_
   | refine XDo 9 q ?_; refine zq (cs := [nS, nS, nS, iV 0, nS]) Hc z27 q q q (fun bE _ Hc => ?_); refine XN Hc.chg ?_
   | have Hc := aO.cN3 [] Hc; refine XDo 10 q ?_; refine zl (cs' := [nS, aq, am, iV B3, nS]) Hc q il27 q (T q (T (Hc.ctx.sliceOne hS2) (T (Hc.ctx.sliceOne hS1) (T q (T q q))))) q q q (fun _ Hc => ?_); refine XE q ?_
   | have Hc := aO.cN3 [] Hc; refine XDo 10 q ?_; have Hc := Hc.p1; refine zl (cs' := [nS, aq, am, iV B3, nS]) Hc q il27 q (T q (T (Hc.ctx.sliceOne hS2) (T (Hc.ctx.sliceOne hS1) (T q (T q q))))) q q q (fun _ Hc => ?_); refine XE q ?_
   | have Hc := aO.cN3 [] Hc; refine XDo 10 q ?_; have Hc := Hc.p2; refine zl (cs' := [nS, aq, am, iV B3, nS]) Hc q il27 q (T q (T (Hc.ctx.sliceOne hS2) (T (Hc.ctx.sliceOne hS1) (T q (T q q))))) q q q (fun _ Hc => ?_); refine XE q ?_
   | refine XV [2, 9] (by decide +kernel) q (allc ?_ (allc ?_ alln))
   | refine XV [5, 9] (by decide +kernel) q (allc ?_ (allc ?_ alln))
   | refine XV [9] (by decide +kernel) q (allc ?_ alln)
   | refine XV [10] (by decide +kernel) q (allc ?_ alln)
   | refine XV [5] (by decide +kernel) q (allc ?_ alln)
   | refine XV [2] (by decide +kernel) q (allc ?_ alln)
   | refine XC_done (by decide +kernel) (fun a ha => ?_); have Hc := Hc.nD 70 dt15; have Hc := Hc.nD 38 dt16; have Hc := ((((((Hc.p3).p4).p3).p4).p5).p6); exact ⟨bE, (nS), [], [], aq, am, (nS), [], [], ha.s, Hc⟩
 rintro a cY ⟨ad, aN, aU, aV, aa, ab, af, aC, aD, ha, aX⟩
 refine S1 ha <| C <| rR <| qf uf27 fi27_0 nz23 q <| ql u23 aX.p0 q <| have bF := aX.viewG (Vw.c (Vw.c (Vw.c (Vw.d (Vw.c (Vw.c (Vw.d Vw.refl))))))); qz bF (C0.c.c.c.c.c.c.c) u23 q <| qm q <| B <| g <| O h fun aG bG h => ?_
 refine fun cZ bI => zp (I := fun (aY, aE) a w2 => ∃ ao aw ax, Fr a 55 [(1, pB b1), (2, pB b5), (3, pB ad), (18, A0), (19, iV (List.length B0 : Int)), (20, iV aY)] ∧ Holds M0 w w2 [.bx b1 27 [A0, A1, A2, iV B3, A4], .bx b5 27 [nS, nS, nS, iV 0, nS], .bx ad 27 [ao, aa, ab, iV B3, af], dpR 70 dt15 ao aw aE ax, .sl 3 tI aa aj, .sl 3 tI ab ak, dpR 38 dt16 af aC ([]) aD] G) (O := fun q0 e a w2 => e = .exit 0 ∧ ∃ aH aZ a0, Fr a 55 [(1, pB b1), (2, pB b5), (3, pB ad)] ∧ Holds M0 w w2 [.bx b1 27 [A0, A1, A2, iV B3, A4], .bx b5 27 [nS, nS, nS, iV 0, nS], .bx ad 27 [aH, aa, ab, iV B3, af], dpR 70 dt15 aH aZ q0 a0, .sl 3 tI aa aj, .sl 3 tI ab ak, dpR 38 dt16 af aC ([]) aD] G) bG ?_ ?_ ?_
 ·exact ⟨aN, aU, aV, bI.s, aX.p6.p6.p6.p6.p6.p6.p6⟩
 ·rintro ⟨aY, aE⟩ _ a bJ ar ⟨ao, aw, ax, ha, a1⟩
  refine S1 ha <| rR <| qi (qt_lss q q) q <| B <| C ?_
  refine Yh q ar (fun ar => ?_) (fun ar => ?_)
  ·refine y <| C <| g <| rR <| O ar fun ag bi ar => have bK := a1.viewG (Vw.c (Vw.c (Vw.c (Vw.d (Vw.c (Vw.c (Vw.d Vw.refl))))))); qb bK (C0.c.c.c.c.c.c.c) bi u23 i70 q fun c0 c1 c2 bL => ?_
   obtain ⟨c3, bM, bN⟩ := a1.atN (C0.c.c.c.c.c.c.c) bi bL
   refine XL_load_agg (t := ty12) us70 uo70 i70 bM q q q fun c4 bO => ?_
   obtain ⟨c5, c6, c7, c8, rfl, bP, bQ, bR⟩ := bO
   obtain ⟨rfl, _⟩ := bQ
   obtain ⟨da, db, dc, dd, rfl, bS, bT, bU⟩ := bR
   obtain ⟨au, rfl, bV⟩ := Rep.sl_inv bT
   obtain ⟨rfl, _⟩ := bU
   have bW : Holds _ w bJ [.ro ty2 au ag.2.1, .bx b1 27 [A0, A1, A2, iV B3, A4], .bx b5 27 [nS, nS, nS, iV 0, nS], .bx ad 27 [ao, aa, ab, iV B3, af], dpR 70 dt15 ao aw aE ax, .sl 3 tI aa aj, .sl 3 tI ab ak, dpR 38 dt16 af aC ([]) aD] G := bN [.ro ty2 au ag.2.1] ⟨⟨_, _, _, _, q, bV, (fun k h => (fun k h => (fun _ h => h) k (by rw [bP]; exact zx _ h)) k (by rw [bS]; exact List.mem_append_left _ h))⟩, trivial⟩
   change XL _ _ _ _ _ ((23, .agg #[iV ag.1, au, iV ag.2.2]) :: _) _
   refine zq (cs := [iV 0, nS, iV 0]) bW z70 q q q fun bj de bk => have bX := bk.viewG (Vw.c (Vw.c (Vw.c (Vw.c (Vw.c (Vw.d (Vw.c (Vw.c (Vw.d Vw.refl))))))))); zl (cs' := [iV ag.1, au, iV ag.2.2]) bk q il70 q (T q (T (bX.sliceOne hR1) (T q q))) q q q fun df bY => B <| O ar fun av bZ ar => O ar fun b0 b4 ar => ?_
   refine WP_mid (Mid := fun a w2 => ∃ aQ a2 a3, Fr a 55 [(1, pB b1), (2, pB b5), (3, pB ad), (18, A0), (19, iV (List.length B0 : Int)), (20, iV aY)] ∧ Holds M0 w w2 [.bx b1 27 [A0, A1, A2, iV B3, A4], .bx b5 27 [nS, nS, nS, iV 0, nS], .bx ad 27 [aQ, aa, ab, iV B3, af], dpR 70 dt15 aQ a2 b0 a3, .sl 3 tI aa aj, .sl 3 tI ab ak, dpR 38 dt16 af aC ([]) aD] G) ?_ ?_
   ·refine WP_ordersT (fun w1 w2 => Chg (([dpR 70 dt15 ao aw aE ax] : List Res).flatMap Res.own) w1 w2) 6 (by kernel_rfl) fun a4 b6 => have b7 := bY.grow b6; have bl := b7.p5; ?_
    have a5 : Ctx a4 ([dpR 70 dt15 ao aw aE ax] ++ ([.bx bj 70 [iV ag.1, au, iV ag.2.2], .ro ty2 au ag.2.1, .bx b1 27 [A0, A1, A2, iV B3, A4], .bx b5 27 [nS, nS, nS, iV 0, nS], .bx ad 27 [ao, aa, ab, iV B3, af], .sl 3 tI aa aj, .sl 3 tI ab ak, .ro ty14 af ([])] ++ G)) := bl.viewG (Vw.c (Vw.c (Vw.c (Vw.c (Vw.c (Vw.c (Vw.c (Vw.c (Vw.d Vw.refl)))))))))
    have b8 : Holds _ a4 a4 [dpR 70 dt15 ao aw aE ax] ([.bx bj 70 [iV ag.1, au, iV ag.2.2], .ro ty2 au ag.2.1, .bx b1 27 [A0, A1, A2, iV B3, A4], .bx b5 27 [nS, nS, nS, iV 0, nS], .bx ad 27 [ao, aa, ab, iV B3, af], .sl 3 tI aa aj, .sl 3 tI ab ak, .ro ty14 af ([])] ++ G) := zb (Rs := [dpR 70 dt15 ao aw aE ax]) a5
    refine have Hc := b8; XQ (i := 0) q (by kernel_rfl) q Hc.chg q (fun _ => qt_fieldAddr uf27 fi27_0 nz23 q) q q <| have b9 := HasB.bx (HasB.c (HasB.c (HasB.c (HasB.c (HasB.c (HasB.hd)))))) Hc.ctx; XT (i := 1) q (by kernel_rfl) q Hc.chg q (qs_cell u23 q q (b9.cell (i := 0) q) Hc.chg (Ctx.outB a5 (HasB.c (HasB.c (HasB.c (HasB.c (HasB.hd))))))) q q <| have ca := HasB.bx (HasB.c (HasB.hd)) Hc.ctx; XT (i := 2) q (by kernel_rfl) q Hc.chg q (qs_agg (cs := [iV ag.1, au, iV ag.2.2]) us70 uo70 il70 q (fun j z hj => by rw [Nat.zero_add]; exact ca.cell hj) Hc.chg (Ctx.outB a5 (HasB.hd))) q q ?_
    change XC _ _ _ _ _ _ _ _ ((26, .agg #[iV ag.1, au, iV ag.2.2]) :: _) _
    repeat' first
     | refine XDo 3 q ?_; have cb := Hc.viewG (Vw.d Vw.refl); refine U1 q c82 (w_impl_copyItem bZ hR2 cb) fun a6 _ HK => ?_; have Hc := Hc.cV1 [] HK (zc (Pure.sl q) all_nil); refine XN Hc.chg ?_
     | refine XDo 4 q ?_; refine WL_buildD (Rs := [.sl 79 ty2 a6 av.2.1]) (d := dt15) (args := [.tmp 27]) (xs := ([(av.1, av.2.1, av.2.2)] : LI)) Hc (DBltL.one (cs' := [iV av.1, a6, iV av.2.2]) (DBlt.cast (DBlt.pair (DBlt.int (k := .i64) (n := av.1)) (DBlt.pair (DBlt.sl (e := 79) (t := ty2) (v := a6) (x := av.2.1) q) (DBlt.int (k := .i64) (n := av.2.2)))) q q) q) u23 j70 q q q q q q (fun dg dh di _ Hc => ?_); refine XN Hc.chg ?_
     | refine XDo 5 q ?_; have Hc := Hc.p1; refine WL_appendD Hc b4 u23 j70 q q q q q q (fun cc cd ce _ Hc => ?_); refine XN Hc.chg ?_
     | have Hc := bl.cV1 [_] Hc (zc Pure.dp all_nil); refine XDo 6 q <| qf uf27 fi27_0 nz23 q <| XE q ?_
     | refine XDo 7 q ?_; have Hc := Hc.p5; have bm := Hc.viewG (Vw.c (Vw.d (Vw.c (Vw.c (Vw.c (Vw.c (Vw.c (Vw.c (Vw.d Vw.refl))))))))); refine WL_store_bx Hc q il23 (bm.sliceCells hR1) (bm.sliceOne hR1) q q q (fun _ Hc => ?_); refine XE q ?_
     | refine XV [3] (by decide +kernel) q (allc ?_ alln)
     | refine XV [4] (by decide +kernel) q (allc ?_ alln)
     | refine XV [5] (by decide +kernel) q (allc ?_ alln)
     | refine XV [6] (by decide +kernel) q (allc ?_ alln)
     | refine XV [7] (by decide +kernel) q (allc ?_ alln)
     | refine XC_done (by decide +kernel) (fun a ha => ?_); have Hc := (((((((((Hc.q2).q2).p6).p6).p6).p4).p4).p6).p6); exact ⟨cc, cd, ce, ha.s, Hc⟩
   rintro a dj ⟨aQ, a2, a3, ha, cf⟩
   cases ar
   exact zi <| X <| S1 ha <| Z <| qi (qt_add q q) q <| qm q <| WL_nil fun a ha => ⟨q, aQ, a2, a3, ha.s, cf.p6.p6.p6.p6.p6.p6.p6⟩
  cases ar
  exact WP_exit fun a ha => zo (⟨exit_ne, q, ao, aw, ax, ha.s, a1.p6.p6.p6.p6.p6.p6.p6⟩)
 rintro _ a dk ⟨rfl, ah, aI, aJ, ha, a7⟩
 refine zn <| X <| S1 ha <| C <| rR <| qf uf27 fi27_4 nz25 q <| ql u25 a7.p0 q <| have ci := a7.viewG (Vw.c (Vw.c (Vw.c (Vw.d (Vw.c (Vw.c (Vw.d Vw.refl))))))); qz ci (C4.c.c.c.c.c.c.c) u25 q <| qm q <| B <| g <| O h fun dl cj h => ?_
 refine fun dm cl => zp (I := fun (a8, aF) a w2 => ∃ ap ay az, Fr a 55 [(2, pB b5), (3, pB ad), (33, A4), (34, iV (List.length B4 : Int)), (35, iV a8)] ∧ Holds M0 w w2 [.bx b5 27 [nS, nS, nS, iV 0, nS], .bx ad 27 [ah, aa, ab, iV B3, ap], dpR 70 dt15 ah aI aG aJ, .sl 3 tI aa aj, .sl 3 tI ab ak, dpR 38 dt16 ap ay aF az] G) (O := fun q0 e a w2 => e = .exit 2 ∧ ∃ aH aZ a0, Fr a 55 [(2, pB b5), (3, pB ad)] ∧ Holds M0 w w2 [.bx b5 27 [nS, nS, nS, iV 0, nS], .bx ad 27 [ah, aa, ab, iV B3, aH], dpR 70 dt15 ah aI aG aJ, .sl 3 tI aa aj, .sl 3 tI ab ak, dpR 38 dt16 aH aZ q0 a0] G) cj ?_ ?_ ?_
 ·exact ⟨af, aC, aD, cl.s, a7.q0.p5.p5.p5.p5.p5.p5⟩
 ·rintro ⟨a8, aF⟩ _ a cm al ⟨ap, ay, az, ha, a9⟩
  refine S1 ha <| rR <| qi (qt_lss q q) q <| B <| C ?_
  refine Yh q al (fun al => ?_) (fun al => ?_)
  ·refine y <| C <| g <| rR <| O al fun ae bn al => have cn := a9.viewG (Vw.c (Vw.c (Vw.d (Vw.c (Vw.c (Vw.d Vw.refl)))))); qb cn (C4.c.c.c.c.c.c) bn u25 i38 q fun dn dq dr co => ?_
   obtain ⟨ds, cp, cq⟩ := a9.atN (C4.c.c.c.c.c.c) bn co
   refine XL_load_agg (t := ty14) us38 uo38 i38 cp q q q fun dt cr => ?_
   obtain ⟨du, dv, dw, dx, rfl, bo, ct, cu⟩ := cr
   obtain ⟨rfl, _⟩ := ct
   obtain ⟨dy, dz, dA, dB, rfl, bp, cv, cw⟩ := cu
   obtain ⟨aA, rfl, cx⟩ := Rep.sl_inv cv
   obtain ⟨aB, rfl, cy⟩ := Rep.sl_inv cw
   have cz : Holds _ w cm [.ro ty2 aA ae.2.1, .ro tI aB ae.2.2, .bx b5 27 [nS, nS, nS, iV 0, nS], .bx ad 27 [ah, aa, ab, iV B3, ap], dpR 70 dt15 ah aI aG aJ, .sl 3 tI aa aj, .sl 3 tI ab ak, dpR 38 dt16 ap ay aF az] G := cq [.ro ty2 aA ae.2.1, .ro tI aB ae.2.2] ⟨⟨_, _, _, _, q, cx, (fun k h => (fun k h => (fun _ h => h) k (by rw [bo]; exact zx _ h)) k (by rw [bp]; exact List.mem_append_left _ h))⟩, ⟨_, _, _, _, q, cy, (fun k h => (fun k h => (fun _ h => h) k (by rw [bo]; exact zx _ h)) k (by rw [bp]; exact zx _ h))⟩, trivial⟩
   change XL _ _ _ _ _ ((38, .agg #[iV ae.1, aA, aB]) :: _) _
   refine zq (cs := [iV 0, nS, nS]) cz z38 q q q fun bq dC br => have bs := br.viewG (Vw.c (Vw.c (Vw.c (Vw.c (Vw.c (Vw.d (Vw.c (Vw.c (Vw.d Vw.refl))))))))); zl (cs' := [iV ae.1, aA, aB]) br q il38 q (T q (T (bs.sliceOne hR1) (T (bs.sliceOne hR2) q))) q q q fun dD cA => B <| O al fun ba cB al => O al fun bb cC al => O al fun cD cE al => ?_
   refine WP_mid (Mid := fun a w2 => ∃ aR bc bd, Fr a 55 [(2, pB b5), (3, pB ad), (33, A4), (34, iV (List.length B4 : Int)), (35, iV a8)] ∧ Holds M0 w w2 [.bx b5 27 [nS, nS, nS, iV 0, nS], .bx ad 27 [ah, aa, ab, iV B3, aR], dpR 70 dt15 ah aI aG aJ, .sl 3 tI aa aj, .sl 3 tI ab ak, dpR 38 dt16 aR bc cD bd] G) ?_ ?_
   ·refine WP_ordersT (fun w1 w2 => Chg (([dpR 38 dt16 ap ay aF az] : List Res).flatMap Res.own) w1 w2) 13 (by kernel_rfl) fun be cF => have cG := cA.grow cF; have bt := cG.p8; ?_
    have aK : Ctx be ([dpR 38 dt16 ap ay aF az] ++ ([.bx bq 38 [iV ae.1, aA, aB], .ro ty2 aA ae.2.1, .ro tI aB ae.2.2, .bx b5 27 [nS, nS, nS, iV 0, nS], .bx ad 27 [ah, aa, ab, iV B3, ap], .ro ty12 ah aG, .sl 3 tI aa aj, .sl 3 tI ab ak] ++ G)) := bt.viewG (Vw.c (Vw.c (Vw.c (Vw.c (Vw.c (Vw.c (Vw.d (Vw.c (Vw.c Vw.refl)))))))))
    have cH : Holds _ be be [dpR 38 dt16 ap ay aF az] ([.bx bq 38 [iV ae.1, aA, aB], .ro ty2 aA ae.2.1, .ro tI aB ae.2.2, .bx b5 27 [nS, nS, nS, iV 0, nS], .bx ad 27 [ah, aa, ab, iV B3, ap], .ro ty12 ah aG, .sl 3 tI aa aj, .sl 3 tI ab ak] ++ G) := zb (Rs := [dpR 38 dt16 ap ay aF az]) aK
    refine have Hc := cH; XQ (i := 0) q (by kernel_rfl) q Hc.chg q (fun _ => qt_fieldAddr uf27 fi27_4 nz25 q) q q <| have cI := HasB.bx (HasB.c (HasB.c (HasB.c (HasB.c (HasB.c (HasB.hd)))))) Hc.ctx; XT (i := 1) q (by kernel_rfl) q Hc.chg q (qs_cell u25 q q (cI.cell (i := 4) q) Hc.chg (Ctx.outB aK (HasB.c (HasB.c (HasB.c (HasB.c (HasB.hd))))))) q q <| XQ (i := 2) q (by kernel_rfl) q Hc.chg q (fun _ => qt_fieldAddr uf38 fi38_0 nz3 q) q q <| have cJ := HasB.bx (HasB.c (HasB.hd)) Hc.ctx; XT (i := 3) q (by kernel_rfl) q Hc.chg q (qs_cell u3 q q (cJ.cell (i := 0) q) Hc.chg (Ctx.outB aK (HasB.hd))) q q <| XQ (i := 4) q (by kernel_rfl) q Hc.chg q (fun _ => qt_fieldAddr uf38 fi38_1 nz36 q) q q <| have cK := HasB.bx (HasB.c (HasB.hd)) Hc.ctx; XT (i := 5) q (by kernel_rfl) q Hc.chg q (qs_cell u36 q q (cK.cell (i := 1) q) Hc.chg (Ctx.outB aK (HasB.hd))) q q <| XQ (i := 7) q (by kernel_rfl) q Hc.chg q (fun _ => qt_fieldAddr uf38 fi38_2 nz24 q) q q ?_
    refine have cL := HasB.bx (HasB.c (HasB.hd)) Hc.ctx; XT (i := 8) q (by kernel_rfl) q Hc.chg q (qs_cell u24 q q (cL.cell (i := 2) q) Hc.chg (Ctx.outB aK (HasB.hd))) q q ?_
    repeat' first
     | refine XDo 6 q ?_; have cM := Hc.viewG (Vw.d Vw.refl); refine U1 q c83 (w_impl_copyTicket cB hR2 cM) fun aL _ HK => ?_; have Hc := Hc.cV1 [] HK (zc (Pure.sl q) all_nil); refine XN Hc.chg ?_
     | refine XDo 9 q ?_; have cN := Hc.viewG (Vw.c (Vw.d Vw.refl)); refine U1 q c81 (w_impl_copyInts cC hR4 cN) fun aM _ HK => ?_; have Hc := Hc.cV1 [] HK (zc (Pure.sl q) all_nil); refine XN Hc.chg ?_; have bu := Hc.viewG (Vw.c (Vw.c (Vw.d Vw.refl))); refine XQ (i := 10) q (by kernel_rfl) q Hc.chg q (fun _ => qt_build (args := [(0, .tmp 42), (1, .tmp 45), (2, .tmp 48)]) (css := [#[iV ae.1], #[aL], #[aM]]) (cells := #[iV ae.1, aL, aM]) q ⟨q, (bu.sliceCells hS1), (bu.sliceCells hS0), trivial⟩ (by kernel_rfl)) q q ?_
     | refine XDo 11 q ?_; have Hc := Hc.p1; refine WL_buildD (Rs := [.sl 123 ty2 aL ba, .sl 3 tI aM bb]) (d := dt16) (args := [.tmp 49]) (xs := ([(ae.1, ba, bb)] : LT)) Hc (DBltL.one (cs' := [iV ae.1, aL, aM]) (DBlt.cast (DBlt.pair (DBlt.int (k := .i64) (n := ae.1)) (DBlt.pair (DBlt.sl (e := 123) (t := ty2) (v := aL) (x := ba) q) (DBlt.sl (e := 3) (t := tI) (v := aM) (x := bb) q))) q q) q) u25 j38 q q q q q q (fun dE dF dG _ Hc => ?_); refine XN Hc.chg ?_
     | refine XDo 12 q ?_; have Hc := Hc.p1; refine WL_appendD Hc cE u25 j38 q q q q q q (fun cO cP cQ _ Hc => ?_); refine XN Hc.chg ?_
     | have Hc := bt.cV1 [_] Hc (zc Pure.dp all_nil); refine XDo 13 q <| qf uf27 fi27_4 nz25 q <| XE q ?_
     | refine XDo 14 q ?_; have Hc := Hc.p5; have bv := Hc.viewG (Vw.c (Vw.d (Vw.c (Vw.c (Vw.c (Vw.c (Vw.d (Vw.c (Vw.c Vw.refl))))))))); refine WL_store_bx Hc q il25 (bv.sliceCells hR1) (bv.sliceOne hR1) q q q (fun _ Hc => ?_); refine XE q ?_
     | refine XV [6] (by decide +kernel) q (allc ?_ alln)
     | refine XV [9] (by decide +kernel) q (allc ?_ alln)
     | refine XV [11] (by decide +kernel) q (allc ?_ alln)
     | refine XV [12] (by decide +kernel) q (allc ?_ alln)
     | refine XV [13] (by decide +kernel) q (allc ?_ alln)
     | refine XV [14] (by decide +kernel) q (allc ?_ alln)
     | refine XC_done (by decide +kernel) (fun a ha => ?_); have Hc := (((((((((Hc.q2).q2).q2).p1).p5).p5).p5).p4).p5); exact ⟨cO, cP, cQ, ha.s, Hc⟩
   rintro a dH ⟨aR, bc, bd, ha, cR⟩
   cases al
   exact zi <| X <| S1 ha <| Z <| qi (qt_add q q) q <| qm q <| WL_nil fun a ha => ⟨q, aR, bc, bd, ha.s, cR.p5.p5.p5.p5.p5.p5⟩
  cases al
  exact WP_exit fun a ha => zo (⟨exit_ne, q, ap, ay, az, ha.s, a9.p5.p5.p5.p5.p5.p5⟩)
 rintro _ a dI ⟨rfl, bf, cU, cV, ha, bg⟩
 cases h
 exact zn <| X <| S1 ha <| rR <| eA bg.p1 us27 uo27 il27 q <| have aS := bg.viewG (Vw.c (Vw.c (Vw.d (Vw.c (Vw.c (Vw.d Vw.refl)))))); zl (cs' := [ah, aa, ab, iV B3, bf]) bg q il27 q (T (aS.sliceOne hR2) (T (aS.sliceOne hS3) (T (aS.sliceOne hS4) (T q (T (aS.sliceOne hR5) q))))) q q q fun dJ bw => B <| W fun a ha => have cW := R bw.p0; retc q ha q (run_loadVar_bx (cs := [ah, aa, ab, iV B3, bf]) us27 uo27 il27 cW) ⟨ah, aI, aJ, aa, ab, bf, cU, cV, q, bw.q0.q0.p3.p3.p3.p3⟩
theorem w_impl_isItem {w G bp0 A0 B0 A1 B1 A2 B2 B3 A4 B4 p1 p2 r} (h : impl_isItemS B0 B1 B2 B3 B4 p1 p2 = some r) (C0 : Has G ty12 A0 B0) (C1 : Has G tI A1 B1) (C2 : Has G tI A2 B2) (C4 : Has G ty14 A4 B4) (H : Ctx w ([.bx bp0 27 [A0, A1, A2, iV B3, A4]] ++ G)) : Calls Tryz.prog 108 #[pB bp0, iV p1, .bool p2] w fun e w' => e = .returned (.bool r) ∧ Holds (([.bx bp0 27 [A0, A1, A2, iV B3, A4]] : List Res).flatMap Res.own) w w' [.bx bp0 27 [A0, A1, A2, iV B3, A4]] G := by
 refine F1 31 H Tryz.func108 q fun H => ?_
 refine rR <| qa q <| rN <| qm q <| qi (qt_geq q q) q <| qm q ?_
 refine Ha (res := ((decide (p1 ≥ 0)) && (decide (p1 < (List.length B0 : Int))))) 7 an (fun ab K2 af => ?_) ?_
 ·exact jm ab q <| jm ab q <| jn ab q <| jf uf27 fi27_0 nz23 ab q <| jl u23 H.p0 ab q <| jz H.ctx (C0.c) u23 ab q <| ji (qt_lss q q) ab q <| af 7 q q q (ai ab)
 refine qm q <| O h fun b5 ad h => ?_
 refine Ha (res := b5) 11 (if_f · ad) (fun aa K8 ag => ?_) ?_
 ·exact have ad := if_t aa ad; jm aa q <| jn aa q <| jf uf27 fi27_0 nz23 aa q <| jl u23 H.p0 aa q <| jm aa q <| O ad fun aj ae ad => je H (C0.c) ae u23 i70 aa q fun _ _ ah => jf uf70 fi70_0 nz3 aa q <| jI u3 ah.f aa q <| ji (qt_gtr q q) aa q <| jm aa q <| ji (qt_beql u4 q q) aa q <| ag 11 q q q ad
 refine qa q <| B <| W fun a ha => ?_
 obtain rfl := L h
 exact ret1 q ha q ⟨q, H⟩
theorem w_impl_doBuy {w G bp0 A0 B0 csp0_0 Fp0_0 A1 B1 A2 B2 B3 A4 B4 csp0_4 Fp0_4 p1 p2 r} (h : impl_doBuyS B0 B1 B2 B3 B4 p1 p2 = some r) (H : Ctx w ([.bx bp0 27 [A0, A1, A2, iV B3, A4], dpR 70 dt15 A0 csp0_0 B0 Fp0_0, .sl 3 tI A1 B1, .sl 3 tI A2 B2, dpR 38 dt16 A4 csp0_4 B4 Fp0_4] ++ G)) : Calls Tryz.prog 68 #[pB bp0, iV p1, iV p2] w fun e w' => e = .returned (.bool r.2.2) ∧ Holds (([.bx bp0 27 [A0, A1, A2, iV B3, A4], dpR 70 dt15 A0 csp0_0 B0 Fp0_0, .sl 3 tI A1 B1, .sl 3 tI A2 B2, dpR 38 dt16 A4 csp0_4 B4 Fp0_4] : List Res).flatMap Res.own) w w' [.bx bp0 27 [A0, A1, A2, iV r.2.1, A4], dpR 70 dt15 A0 csp0_0 B0 Fp0_0, .sl 3 tI A1 B1, .sl 3 tI A2 r.1, dpR 38 dt16 A4 csp0_4 B4 Fp0_4] G := by
 refine F1 45 H Tryz.func68 q fun H => ?_
 refine rR <| qa q <| B <| C <| rR <| qm q <| qm q <| O h fun x1 ak h => have V3 := H.viewG (Vw.c (Vw.d (Vw.c (Vw.c (Vw.d Vw.refl))))); U0 q c108 (w_impl_isItem ak hR0 hS1 hS2 hR3 V3) fun w4 H5 => have H6 := H.cV1 [_] H5 (zc Pure.bx all_nil); qi (qt_not q) q <| qm q ?_
 refine Ho (res := ((!x1) || (decide (p2 < 1)))) 2 os (fun ad K8 al => ?_) ?_
 ·exact jm ad q <| ji (qt_lss q q) ad q <| al 2 q q q (oi ad)
 refine qm q ?_
 refine Ho (res := (((!x1) || (decide (p2 < 1))) || (decide (p2 > 50)))) 2 os (fun ae aA am => ?_) ?_
 ·exact jm ae q <| ji (qt_gtr q q) ae q <| am 2 q q q (oi ae)
 refine B ?_
 refine Yh q h (fun h => ?_) (fun h => ?_)
 ·cases h
  exact rR <| qa q <| B <| W fun a ha => m (ret1 q ha q ⟨q, H6.p4.p4.p4.p4.p4⟩)
 refine y <| C <| WP_tail 13 (by kernel_rfl) (by kernel_rfl) fun aB ap => have aa := H6.grow ap; qm q <| qn q <| qf uf27 fi27_3 nz3 q <| ql u3 aa.p0 q <| qm q <| qm q <| qn q <| qf uf27 fi27_1 nz24 q <| ql u24 aa.p0 q <| qm q <| O h fun aC af h => have aq := aa.viewG (Vw.c (Vw.d (Vw.c (Vw.c (Vw.d Vw.refl))))); qb aq hS2 af u24 i3 q fun aD aE aF ar => eI u3 (aa.el hS2 af ar) q <| qi (qt_mul q q) q <| SL_nil <| qi (qt_sub q q) q <| qn q <| qf uf27 fi27_3 nz3 q <| WL_store_bx aa q il3 q q q q q fun aG ab => rN <| qm q <| qn q <| qf uf27 fi27_2 nz24 q <| ql u24 ab.p0 q <| qm q <| O h fun au ag h => have ah := ab.viewG (Vw.c (Vw.d (Vw.c (Vw.c (Vw.d Vw.refl))))); qb ah hS3 ag u24 i3 q fun aH aI aJ av => eI u3 (ab.el hS3 ag av) q <| qm q <| qi (qt_add q q) q <| O h fun aK aj h => qb ah hS3 aj u24 i3 q fun aL aM aN aw => ?_
 cases h
 exact WL_storeH (fo := 0) (cs' := [iV (IntKind.wrap .i64 (au + p2))]) ab.p3 aj aw (Upd.whole (Blt.int)) q il3 q q q q fun aO ay => rN <| qa q <| B <| W fun a ha => ret1 q ha q ⟨q, ay.p4.p1.p4.p4.p4⟩
theorem w_impl_runMakes {w G B0 A1 B1 B2 r} (h : impl_runMakesS B0 B1 B2 = some r) (C1 : Has G ty2 A1 B1) (H : Ctx w G) : Calls Tryz.prog 132 #[.agg #[iV B0, A1, iV B2]] w fun e w' => e = .returned (iV r) ∧ Holds M0 w w' [] G := by
 refine F0 8 H Tryz.func132 q fun H => ?_
 refine C <| Z <| WL_box (cs := [iV B0, A1, iV B2]) H q q q q fun b1 w2 H3 => qa q <| B <| C <| rR <| qf uf70 fi70_0 nz3 q <| ql u3 H3.p0 q <| qi (qt_eql q q) q <| B ?_
 refine Yh q h (fun h => ?_) (fun h => ?_)
 ·cases h
  exact rR <| qa q <| B <| W fun a ha => m (ret1 q ha q ⟨q, H3.q0⟩)
 refine y <| rR <| qf uf70 fi70_0 nz3 q <| ql u3 H3.p0 q <| qa q <| B <| W fun a ha => ?_
 obtain rfl := L h
 exact ret1 q ha q ⟨q, H3.q0⟩
end Go.Proofs.YtkhnponakhabdaaGreatDoor
