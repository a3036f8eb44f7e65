/- The walks: each Go function computes its shallow function. Printed by a program. -/
import Derived.Test.YtcjkbcdlpfgbgaaGreatDoorShRun
import Derived.Test.YtcjkbcdlpfgbgaaGreatDoorWX7H9
set_option linter.unusedVariables false
set_option maxRecDepth 10000
namespace Go.Proofs.YtcjkbcdlpfgbgaaGreatDoor
open Go Go.RowKit
theorem i46 : (Tryz.prog.info? 46).map (·.size) = some (Ty.size (.pair (.int .i64) (.pair (.int .i64) ty2))) := by kernel_rfl
theorem i49 : (Tryz.prog.info? 49).map (·.size) = some (Ty.size (.pair (.int .i64) (.pair (.int .i64) ty2))) := by kernel_rfl
theorem j49 : (Tryz.prog.info? 49).map (fun i => (i.zero, i.size, i.bytes)) = some (some (.agg #[.int .i64 0, .int .i64 0, .int .i64 0, .int .i64 0]), Ty.size (.pair (.int .i64) (.pair (.int .i64) ty2)), 32) := by kernel_rfl
theorem u52 : Tryz.prog.underlying 52 = some (.slice 46) := by kernel_rfl
theorem u56 : Tryz.prog.underlying 56 = some (.slice 49) := by kernel_rfl
theorem c24 : Callable Tryz.prog 24 := ⟨Tryz.f24, Tryz.func24, by kernel_rfl, by kernel_rfl⟩
theorem c25 : Callable Tryz.prog 25 := ⟨Tryz.f25, Tryz.func25, by kernel_rfl, by kernel_rfl⟩
theorem c26 : Callable Tryz.prog 26 := ⟨Tryz.f26, Tryz.func26, by kernel_rfl, by kernel_rfl⟩
theorem c27 : Callable Tryz.prog 27 := ⟨Tryz.f27, Tryz.func27, by kernel_rfl, by kernel_rfl⟩
theorem c28 : Callable Tryz.prog 28 := ⟨Tryz.f28, Tryz.func28, by kernel_rfl, by kernel_rfl⟩
theorem c29 : Callable Tryz.prog 29 := ⟨Tryz.f29, Tryz.func29, by kernel_rfl, by kernel_rfl⟩
theorem c74 : Callable Tryz.prog 74 := ⟨Tryz.f74, Tryz.func74, by kernel_rfl, by kernel_rfl⟩
theorem w_laws_szHouseDeedS (w : World) (G : List Res) (vp0 : Value) (p0 : List (Int × Int × Int × Int)) (hp0 : Has G (.pair tI (.pair tI ty2)) vp0 p0) (p1 : Int) (r : Int) (h : laws_szHouseDeedSS p0 p1 = some r) (H : Ctx w G) : Calls Tryz.prog 24 #[vp0, iV p1] w fun e w' => e = .returned (iV r) ∧ Holds M0 w w' [] G := by
 have H : Holds M0 w w [] G := zb H
 refine zg (args := [vp0, iV p1]) (n := 12) Tryz.func24 q q q ?_
 unfold laws_szHouseDeedSS at h
 refine rR <| qA q q q <| rN <| qM q q q <| qM q q q <| za H.ctx (t := (.pair tI (.pair tI ty2))) (hp0) u52 q q q <| A q (qt_sub q q) q q ?_
 refine qA q q q <| B <| C <| rR <| qM q q q <| A q (qt_lss q q) q q <| B ?_
 refine Y q (fun hc1 => ?_) (fun hc1 => ?_)
 ·have h := if_t hc1 h
  refine rR <| qA q q q <| B <| W fun a ha => ?_
  obtain rfl := L h
  exact m (ret1 q ha q ⟨q, H⟩)
 have h := if_f hc1 h
 refine y <| rR <| qM q q q <| qA q q q <| B <| W fun a ha => ?_
 obtain rfl := L h
 exact ret1 q ha q ⟨q, H⟩
theorem w_laws_toHouseDeedS (w : World) (G : List Res) (vp0 : Value) (p0 : List (Int × Int × Int × Int)) (hp0 : Has G (.pair tI (.pair tI ty2)) vp0 p0) (r : (List (Int × Int × Int × Int))) (h : laws_toHouseDeedSS p0 = some r) (H : Ctx w G) : Calls Tryz.prog 26 #[vp0] w fun e w' => ∃ (v1 : Value), e = .returned (v1) ∧ Holds M0 w w' [.sl 49 (.pair tI (.pair tI ty2)) v1 r] G := by
 have H : Holds M0 w w [] G := zb H
 refine zg (args := [vp0]) (n := 23) Tryz.func26 q q q ?_
 unfold laws_toHouseDeedSS at h
 refine rR <| qA q q q <| rN <| qM q q q <| za H.ctx (t := (.pair tI (.pair tI ty2))) (hp0) u52 q q q ?_
 obtain ⟨x1, hx2, h⟩ := D h
 refine WL_makeH H hx2 u56 j49 q (fun _ => ⟨_, _, [], [], q, q, ⟨q, q⟩, ⟨_, _, [], [], q, q, ⟨q, q⟩, ⟨_, _, [], [], q, q, ⟨q, q⟩, ⟨q, q⟩⟩⟩⟩) q q q q q (fun v3 w4 H5 => ?_)
 refine qA q q q <| B <| C <| rR <| qA q q q <| B <| g ?_
 obtain ⟨o9, ho10, h⟩ := D h
 refine fun a11 ha12 => zp (I := fun s a w2 => match s with | (s7, s8) => (Fr a 23 [(0, vp0), (3, v3), (4, iV s7)] ∧ Holds M0 w w2 [.sl 49 (.pair tI (.pair tI ty2)) v3 s8] G)) (O := fun o e a w2 => match o with | q0 => e = .exit 0 ∧ (Fr a 23 [(3, v3)] ∧ Holds M0 w w2 [.sl 49 (.pair tI (.pair tI ty2)) v3 q0] G)) ho10 ?_ ?_ ?_
 ·exact ⟨ha12.sub ⟨q, q, q, trivial⟩, H5⟩
 ·clear ha12
  intro s o15 a w13 hs14 hI16
  obtain ⟨s7, s8⟩ := s
  obtain ⟨ha, H17⟩ := hI16
  refine S ?_ ha
  clear ha
  refine C <| rR <| qM q q q <| qM q q q <| za H17.ctx (t := (.pair tI (.pair tI ty2))) (hp0.c) u52 q q q <| A q (qt_lss q q) q q <| B ?_
  refine Y q (fun hc18 => ?_) (fun hc18 => ?_)
  ·have hs14 := if_t hc18 hs14
   refine y <| C <| g <| Z <| qM q q q <| qM q q q <| qM q q q <| qM q q q ?_
   obtain ⟨x19, hx20, hs14⟩ := D hs14
   refine b H17.ctx (hp0.c) hx20 u52 i46 q q q q (fun b21 off22 cap23 hv24 => ?_)
   obtain ⟨F25, hat26, hdup27⟩ := H17.atN (hp0.c) hx20 hv24
   refine XL_load_agg (t := (.pair tI (.pair tI ty2))) us46 uo46 i46 hat26 q q q (fun cs28 hr29 => ?_)
   obtain ⟨c30, c31, F32, F33, rfl, eF36, hr34, hr35⟩ := hr29
   obtain ⟨rfl, _⟩ := hr34
   obtain ⟨c37, c38, F39, F40, rfl, eF43, hr41, hr42⟩ := hr35
   obtain ⟨rfl, _⟩ := hr41
   obtain ⟨c44, c45, F46, F47, rfl, eF50, hr48, hr49⟩ := hr42
   obtain ⟨rfl, _⟩ := hr48
   obtain ⟨rfl, _⟩ := hr49
   change XL _ _ _ _ _ ((19, .agg #[iV x19.1, iV x19.2.1, iV x19.2.2.1, iV x19.2.2.2]) :: _) _
   obtain ⟨x51, hx52, hs14⟩ := D hs14
   refine zd q q c22 (w_laws_toHouseDeed w13 _ x19.1 x19.2.1 x19.2.2.1 x19.2.2.2 x51 hx52 H17.ctx) (by rfl) ?_
   rintro _ w53 ⟨rfl, H54⟩; refine ⟨_, q, ?_⟩
   have H55 := H17.cN0 [] H54
   obtain ⟨x56, hx57, hs14⟩ := D hs14
   refine b H55.ctx hS0 hx57 u56 i49 q q q q (fun b58 off59 cap60 hv61 => ?_)
   refine WL_storeH (fo := 0) (cs' := [iV x51.1, iV x51.2.1, iV x51.2.2.1, iV x51.2.2.2]) H55 hx57 hv61 (Upd.whole (Blt.pair (Blt.int) (Blt.pair (Blt.int) (Blt.pair (Blt.int) (Blt.int))))) q il49 q q q q (fun w62 H63 => ?_)
   refine WL_nil fun a ha => ?_
   refine zi (X (S ?_ ha))
   refine Z <| qM q q q <| A q (qt_add q q) q q <| qA q q q <| WL_nil fun a ha => ?_
   obtain rfl := L hs14
   exact ⟨q, ha.sub ⟨q, q, q, trivial⟩, H63⟩
  have hs14 := if_f hc18 hs14
  refine WP_exit fun a ha => ?_
  obtain rfl := L hs14
  exact zo (⟨exit_ne, q, ha.sub ⟨q, trivial⟩, H17⟩)
 intro e a11 w65 hO66
 obtain ⟨p67, rfl⟩ : ∃ z, z = o9 := ⟨o9, q⟩
 obtain ⟨rfl, hO69⟩ := hO66
 obtain ⟨ha, H68⟩ := hO69
 refine zn (X (S ?_ ha))
 refine rR <| qM q q q <| qA q q q <| B <| W fun a ha => ?_
 obtain rfl := L h
 exact ret1 q ha q ⟨v3, q, H68⟩
theorem w_spec_HouseRun (w : World) (G : List Res) (A0 : Value) (B0 : LI) (C0 : Has G ty10 A0 B0) (A1 : Value) (B1 : List Int) (C1 : Has G tI A1 B1) (A2 : Value) (B2 : List Int) (C2 : Has G tI A2 B2) (B3 : Int) (A4 : Value) (B4 : LT) (C4 : Has G ty12 A4 B4) (vp1 : Value) (p1 : List (Int × Int × Int × Int)) (hp1 : Has G (.pair tI (.pair tI ty2)) vp1 p1) (r : (LI × (List Int) × (List Int) × Int × LT) × Int) (h : spec_HouseRunS B0 B1 B2 B3 B4 p1 = some r) (H : Ctx w G) : Calls Tryz.prog 25 #[.agg #[A0, A1, A2, iV B3, A4], vp1] w fun e w' => ∃ (v1 : Value) (v2 : Value) (v3 : Value) (v4 : Value), e = .returned (.tuple #[.agg #[v1, v2, v3, iV r.1.2.2.2.1, v4], iV r.2]) ∧ Holds M0 w w' [.sl 115 ty10 v1 r.1.1, .sl 3 tI v2 r.1.2.1, .sl 3 tI v3 r.1.2.2.1, .sl 89 ty12 v4 r.1.2.2.2.2] G := by
 have H : Holds M0 w w [] G := zb H
 refine zg (args := [.agg #[A0, A1, A2, iV B3, A4], vp1]) (n := 38) Tryz.func25 q q q ?_
 unfold spec_HouseRunS at h
 refine C <| Z ?_
 refine WL_box (cs := [A0, A1, A2, iV B3, A4]) H q q q q (fun b1 w2 H3 => ?_)
 refine zq (cs := [nS, nS, nS, iV 0, nS]) H3 z31 q q q (fun b5 w6 H7 => ?_)
 refine qA q q q <| B <| C <| C <| zk ?_
 have hB9 := R H7.p1
 refine zm (cs := [A0, A1, A2, iV B3, A4]) us31 uo31 il31 hB9 q q q ?_
 change XL _ _ _ _ _ ((11, .agg #[A0, A1, A2, iV B3, A4]) :: _) _
 obtain ⟨x10, hx11, h⟩ := D h
 refine QC q q c33 (fun w' hb => w_spec_HouseValid w' _ A0 B0 (C0.c.c) A1 B1 (C1.c.c) A2 B2 (C2.c.c) B3 A4 B4 (C4.c.c) x10 hx11 (H7.grow hb).ctx) (by rfl) <| A q (qt_not q) q q <| QL_nil fun a ha w12 hb13 => ?_
 have H14 := H7.grow hb13
 refine X (S ?_ ha)
 refine Y q (fun hc15 => ?_) (fun hc15 => ?_)
 ·have h := if_t hc15 h
  refine rR <| A q (qt_build (args := []) (css := []) (cells := #[nS, nS, nS, iV 0, nS]) q trivial (by kernel_rfl)) q q ?_
  refine zl (cs' := [nS, nS, nS, iV 0, nS]) H14 q il31 q q q q q (fun w16 H17 => ?_)
  refine qA q q q <| B <| W fun a ha => ?_
  obtain rfl := L h
  have hB19 := R H17.p0
  have H20 := H17.nS 115 ty10
  have H21 := H20.nS 3 tI
  have H22 := H21.nS 3 tI
  have H23 := H22.nS 89 ty12
  have H24 := H23.q4.q4.p1.p2.p3
  exact m (retct q ha q q (run_loadVar_bx (cs := [nS, nS, nS, iV 0, nS]) us31 uo31 il31 hB19) ⟨(nS), (nS), (nS), (nS), q, H24⟩)
 have h := if_f hc15 h
 refine y <| C <| Z ?_
 have hB25 := R H14.p1
 refine zm (cs := [A0, A1, A2, iV B3, A4]) us31 uo31 il31 hB25 q q q ?_
 change XL _ _ _ _ _ ((15, .agg #[A0, A1, A2, iV B3, A4]) :: _) _
 obtain ⟨x26, hx27, h⟩ := D h
 refine zd q q c36 (w_spec_l7Copy w12 _ A0 B0 (C0.c.c) A1 B1 (C1.c.c) A2 B2 (C2.c.c) B3 A4 B4 (C4.c.c) x26 hx27 H14.ctx) (by rfl) ?_
 rintro _ w28 ⟨v30, v31, v32, v33, rfl, H29⟩; refine ⟨_, q, ?_⟩
 have H34 := H14.cN4 [] H29
 refine zq (cs := [nS, nS, nS, iV 0, nS]) H34 z31 q q q (fun b35 w36 H37 => ?_)
 refine zl (cs' := [v30, v31, v32, iV x26.2.2.2.1, v33]) H37 q il31 q (T (H37.ctx.sliceOne hS1) (T (H37.ctx.sliceOne hS2) (T (H37.ctx.sliceOne hS3) (T q (T (H37.ctx.sliceOne hS4) q))))) q q q (fun w39 H40 => ?_)
 refine rN <| qA q q q <| B <| C <| rR <| qA q q q <| B ?_
 refine g ?_
 obtain ⟨o49, ho50, h⟩ := D h
 have H53 := H40.q6.p4.p4.p4.p4.p4.p5
 refine fun a51 ha52 => zp (I := fun s a w2 => match s with | (s42, s43, s44, s45, s46, s47, s48) => ∃ vs44 vs45 vs46 vs48, Fr a 38 [(1, vp1), (4, pB b5), (6, pB b35), (7, iV s42), (8, iV s43)] ∧ Holds M0 w w2 [.bx b5 31 [nS, nS, nS, iV 0, nS], .bx b35 31 [vs44, vs45, vs46, iV s47, vs48], .sl 115 ty10 vs44 s44, .sl 3 tI vs45 s45, .sl 3 tI vs46 s46, .sl 89 ty12 vs48 s48] G) (O := fun o e a w2 => match o with | (q0, q1, q2, q3, q4, q5) => e = .exit 0 ∧ ∃ vq1 vq2 vq3 vq5, Fr a 38 [(4, pB b5), (6, pB b35), (7, iV q0)] ∧ Holds M0 w w2 [.bx b5 31 [nS, nS, nS, iV 0, nS], .bx b35 31 [vq1, vq2, vq3, iV q4, vq5], .sl 115 ty10 vq1 q1, .sl 3 tI vq2 q2, .sl 3 tI vq3 q3, .sl 89 ty12 vq5 q5] G) ho50 ?_ ?_ ?_
 ·exact ⟨v30, v31, v32, v33, ha52.sub ⟨q, q, q, q, q, trivial⟩, H53⟩
 ·clear ha52
  intro s o56 a w54 hs55 hI57
  obtain ⟨s42, s43, s44, s45, s46, s47, s48⟩ := s
  obtain ⟨vs44, vs45, vs46, vs48, ha, H58⟩ := hI57
  refine S ?_ ha
  clear ha
  refine C <| rR <| qM q q q <| qM q q q <| za H58.ctx (t := (.pair tI (.pair tI ty2))) (hp1.c.c.c.c.c.c) u56 q q q <| A q (qt_lss q q) q q <| B ?_
  refine Y q (fun hc59 => ?_) (fun hc59 => ?_)
  ·have hs55 := if_t hc59 hs55
   refine y <| C <| g <| C ?_
   obtain ⟨x61, hx62, hs55⟩ := D hs55
   obtain ⟨x93, hx94, hs55⟩ := D hs55
   refine WP_join (M := fun a w2 => ∃ bz59_0 vz59_1 vz59_2 vz59_3 vz59_4, Fr a 38 [(1, vp1), (4, pB b5), (6, pB b35), (7, iV s42), (8, iV s43), (9, pB bz59_0), (10, .bool x93.2)] ∧ Holds M0 w w2 [.bx b5 31 [nS, nS, nS, iV 0, nS], .bx b35 31 [vs44, vs45, vs46, iV s47, vs48], .sl 115 ty10 vs44 s44, .sl 3 tI vs45 s45, .sl 3 tI vs46 s46, .sl 89 ty12 vs48 s48, .bx bz59_0 31 [vz59_1, vz59_2, vz59_3, iV x93.1.2.2.2.1, vz59_4], .sl 115 ty10 vz59_1 x93.1.1, .sl 3 tI vz59_2 x93.1.2.1, .sl 3 tI vz59_3 x93.1.2.2.1, .sl 89 ty12 vz59_4 x93.1.2.2.2.2] G) ?_ ?_
   ·refine WP_ordersT (fun w1 w2 => Chg M0 w1 w2) 11 (by kernel_rfl) (fun w260 hb261 => ?_)
    have H262 := H58.grow hb261
    have C263 : Ctx w260 ([] ++ ([.bx b5 31 [nS, nS, nS, iV 0, nS], .bx b35 31 [vs44, vs45, vs46, iV s47, vs48], .sl 115 ty10 vs44 s44, .sl 3 tI vs45 s45, .sl 3 tI vs46 s46, .sl 89 ty12 vs48 s48] ++ G)) := H262.ctx
    have H264 : Holds _ w260 w260 [] ([.bx b5 31 [nS, nS, nS, iV 0, nS], .bx b35 31 [vs44, vs45, vs46, iV s47, vs48], .sl 115 ty10 vs44 s44, .sl 3 tI vs45 s45, .sl 3 tI vs46 s46, .sl 89 ty12 vs48 s48] ++ G) := zb (Rs := []) C263
    have hB368 := HasB.bx (HasB.c (HasB.hd)) H264.ctx
    refine XT (i := 0) q (by kernel_rfl) q H264.chg q (qs_agg (cs := [vs44, vs45, vs46, iV s47, vs48]) us31 uo31 il31 q (fun j z hj => by rw [Nat.zero_add]; exact hB368.cell hj) H264.chg (Ctx.outB C263 (HasB.c (HasB.hd)))) q q ?_
    change XC _ _ _ _ _ _ _ _ ((24, .agg #[vs44, vs45, vs46, iV s47, vs48]) :: _) _
    refine XQ (i := 1) q (by kernel_rfl) q H264.chg q (fun _ => qt_move q) q q <| XQ (i := 2) q (by kernel_rfl) q H264.chg q (fun _ => qt_move q) q q ?_
    obtain ⟨b369, off370, cap371, hv372⟩ := Ctx.isAt H264.ctx (hp1.c.c.c.c.c.c) hx62
    refine XT (i := 3) q (by kernel_rfl) q H264.chg q (qs_index hx62 hv372 u56 i49 q q) q q ?_
    obtain ⟨F373, hat374, hdup375⟩ := H264.atN (hp1.c.c.c.c.c.c) hx62 hv372
    obtain ⟨cs376, hr377, hcc378⟩ := hat374
    refine XT (i := 4) q (by kernel_rfl) q H264.chg q (qs_agg us49 uo49 (i49.trans (congrArg some (Rep.length (t := (.pair tI (.pair tI ty2))) hr377).symm)) q hcc378 H264.chg (Ctx.outHas C263 (hp1.c.c.c.c.c.c) hx62 hv372)) q q ?_
    obtain ⟨c379, c380, F381, F382, rfl, eF385, hr383, hr384⟩ := hr377
    obtain ⟨rfl, _⟩ := hr383
    obtain ⟨c386, c387, F388, F389, rfl, eF392, hr390, hr391⟩ := hr384
    obtain ⟨rfl, _⟩ := hr390
    obtain ⟨c393, c394, F395, F396, rfl, eF399, hr397, hr398⟩ := hr391
    obtain ⟨rfl, _⟩ := hr397
    obtain ⟨rfl, _⟩ := hr398
    change XC _ _ _ _ _ _ _ _ ((28, .agg #[iV x61.1, iV x61.2.1, iV x61.2.2.1, iV x61.2.2.2]) :: _) _
    refine zy [5, 9] (by kernel_rfl) (by simp) (allc ?_ (allc ?_ alln))
    ·refine XC_do q ?_
     refine zd q q c21 (w_spec_HouseDo w260 _ vs44 s44 hS2 vs45 s45 hS3 vs46 s46 hS4 s47 vs48 s48 hS5 x61.1 x61.2.1 x61.2.2.1 x61.2.2.2 x93 hx94 H264.ctx) (by rfl) ?_
     rintro _ w400 ⟨v402, v403, v404, v405, rfl, H401⟩; refine ⟨_, q, ?_⟩
     have H406 := H264.cN4 [] H401
     refine XN H406.chg <| XQ (i := 6) q (by kernel_rfl) q H406.chg q (fun _ => qt_move q) q q <| XQ (i := 7) q (by kernel_rfl) q H406.chg q (fun _ => zv q q) q q <| XQ (i := 8) q (by kernel_rfl) q H406.chg q (fun _ => zv q q) q q <| X1 9 (by kernel_rfl) q ?_
     refine zq (cs := [nS, nS, nS, iV 0, nS]) H406 z31 q q q (fun b407 w408 H409 => ?_)
     refine XN H409.chg <| X1 10 (by kernel_rfl) q ?_
     refine zl (cs' := [v402, v403, v404, iV x93.1.2.2.2.1, v405]) H409 q il31 q (T (H409.ctx.sliceOne hS1) (T (H409.ctx.sliceOne hS2) (T (H409.ctx.sliceOne hS3) (T q (T (H409.ctx.sliceOne hS4) q))))) q q q (fun w411 H412 => ?_)
     refine XN H412.chg ?_
     have H414 := H262.cN5 [] H412
     refine X1 11 (by kernel_rfl) q <| qA q q q <| XE q ?_
     refine XC_done (by kernel_rfl) (fun a ha => ?_)
     have H415 := H414.p4.p4.p4.p4.p4.p10.p10.p10.p10.p10.p10
     exact ⟨b407, v402, v403, v404, v405, ha.sub ⟨q, q, q, q, q, q, q, trivial⟩, H415⟩
    refine XC_do q ?_
    refine zq (cs := [nS, nS, nS, iV 0, nS]) H264 z31 q q q (fun b416 w417 H418 => ?_)
    refine XN H418.chg <| X1 5 (by kernel_rfl) q <| zd q q c21 (w_spec_HouseDo w417 _ vs44 s44 hS3 vs45 s45 hS4 vs46 s46 hS5 s47 vs48 s48 hS6 x61.1 x61.2.1 x61.2.2.1 x61.2.2.2 x93 hx94 H418.ctx) (by rfl) ?_
    rintro _ w420 ⟨v422, v423, v424, v425, rfl, H421⟩; refine ⟨_, q, ?_⟩
    have H426 := H418.cN4 [] H421
    refine XN H426.chg <| XQ (i := 6) q (by kernel_rfl) q H426.chg q (fun _ => qt_move q) q q <| XQ (i := 7) q (by kernel_rfl) q H426.chg q (fun _ => zv q q) q q <| XQ (i := 8) q (by kernel_rfl) q H426.chg q (fun _ => zv q q) q q <| X1 10 (by kernel_rfl) q ?_
    have H427 := H426.p4
    refine zl (cs' := [v422, v423, v424, iV x93.1.2.2.2.1, v425]) H427 q il31 q (T (H427.ctx.sliceOne hS1) (T (H427.ctx.sliceOne hS2) (T (H427.ctx.sliceOne hS3) (T q (T (H427.ctx.sliceOne hS4) q))))) q q q (fun w428 H429 => ?_)
    refine XN H429.chg ?_
    have H431 := H262.cN5 [] H429
    refine X1 11 (by kernel_rfl) q <| qA q q q <| XE q ?_
    refine XC_done (by kernel_rfl) (fun a ha => ?_)
    have H432 := H431.p4.p4.p4.p4.p4.p10.p10.p10.p10.p10.p10
    exact ⟨b416, v422, v423, v424, v425, ha.sub ⟨q, q, q, q, q, q, q, trivial⟩, H432⟩
   intro a w433 hI434
   obtain ⟨bz59_0, vz59_1, vz59_2, vz59_3, vz59_4, ha, H435⟩ := hI434
   refine S ?_ ha
   clear ha
   refine rR <| qM q q q <| B ?_
   refine Y q (fun hc436 => ?_) (fun hc436 => ?_)
   ·have hs55 := if_t hc436 hs55
    refine C <| Z ?_
    have hB437 := R H435.p6
    refine zm (cs := [vz59_1, vz59_2, vz59_3, iV x93.1.2.2.2.1, vz59_4]) us31 uo31 il31 hB437 q q q ?_
    change XL _ _ _ _ _ ((33, .agg #[vz59_1, vz59_2, vz59_3, iV x93.1.2.2.2.1, vz59_4]) :: _) _
    have H438 := H435.p1
    refine zl (cs' := [vz59_1, vz59_2, vz59_3, iV x93.1.2.2.2.1, vz59_4]) H438 q il31 q (T (H438.ctx.sliceOne hS7) (T (H438.ctx.sliceOne hS8) (T (H438.ctx.sliceOne hS9) (T q (T (H438.ctx.sliceOne hS10) q))))) q q q (fun w439 H440 => ?_)
    refine B <| Z <| qM q q q <| A q (qt_add q q) q q <| qA q q q <| WL_nil fun a ha => ?_
    refine zi (X (S ?_ ha))
    refine Z <| qM q q q <| A q (qt_add q q) q q <| qA q q q <| WL_nil fun a ha => ?_
    obtain rfl := L hs55
    have H442 := H440.q2.q2.q2.q2.q2.p5.p5.p5.p5.p4.p5
    exact ⟨q, vz59_1, vz59_2, vz59_3, vz59_4, ha.sub ⟨q, q, q, q, q, trivial⟩, H442⟩
   have hs55 := if_f hc436 hs55
   refine WP_skip fun a ha => ?_
   refine zi (X (S ?_ ha))
   refine Z <| qM q q q <| A q (qt_add q q) q q <| qA q q q <| WL_nil fun a ha => ?_
   obtain rfl := L hs55
   have H443 := H435.q6.q6.q6.q6.q6.p5.p5.p5.p5.p5.p5
   exact ⟨q, vs44, vs45, vs46, vs48, ha.sub ⟨q, q, q, q, q, trivial⟩, H443⟩
  have hs55 := if_f hc59 hs55
  refine WP_exit fun a ha => ?_
  obtain rfl := L hs55
  have H444 := H58.p5.p5.p5.p5.p5.p5
  exact zo (⟨exit_ne, q, vs44, vs45, vs46, vs48, ha.sub ⟨q, q, q, trivial⟩, H444⟩)
 intro e a51 w445 hO446
 obtain ⟨p447, p448, p449, p450, p451, p452⟩ := o49
 obtain ⟨rfl, hO454⟩ := hO446
 obtain ⟨vp448, vp449, vp450, vp452, ha, H453⟩ := hO454
 refine zn (X (S ?_ ha))
 refine C <| Z ?_
 have hB455 := R H453.p1
 refine zm (cs := [vp448, vp449, vp450, iV p451, vp452]) us31 uo31 il31 hB455 q q q ?_
 change XL _ _ _ _ _ ((36, .agg #[vp448, vp449, vp450, iV p451, vp452]) :: _) _
 refine qM q q q ?_
 refine zl (cs' := [vp448, vp449, vp450, iV p451, vp452]) H453 q il31 q (T (H453.ctx.sliceOne hS2) (T (H453.ctx.sliceOne hS3) (T (H453.ctx.sliceOne hS4) (T q (T (H453.ctx.sliceOne hS5) q))))) q q q (fun w456 H457 => ?_)
 refine qA q q q <| B <| W fun a ha => ?_
 obtain rfl := L h
 have hB459 := R H457.p0
 have H460 := H457.q0.q0.p3.p3.p3.p3
 exact retct q ha q q (run_loadVar_bx (cs := [vp448, vp449, vp450, iV p451, vp452]) us31 uo31 il31 hB459) ⟨vp448, vp449, vp450, vp452, q, H460⟩
theorem w_impl_HouseRun (w : World) (G : List Res) (hGl : Glob G) (A0 : Value) (B0 : LI) (C0 : Has G ty10 A0 B0) (A1 : Value) (B1 : List Int) (C1 : Has G tI A1 B1) (A2 : Value) (B2 : List Int) (C2 : Has G tI A2 B2) (B3 : Int) (A4 : Value) (B4 : LT) (C4 : Has G ty12 A4 B4) (vp1 : Value) (p1 : List (Int × Int × Int × Int)) (hp1 : Has G (.pair tI (.pair tI ty2)) vp1 p1) (r : (LI × (List Int) × (List Int) × Int × LT) × Int) (h : impl_HouseRunS B0 B1 B2 B3 B4 p1 = some r) (H : Ctx w G) : Calls Tryz.prog 27 #[.agg #[A0, A1, A2, iV B3, A4], vp1] w fun e w' => ∃ (v1 : Value) (csv1 : List Value) (Fv1 : List Nat) (v4 : Value) (v5 : Value) (v6 : Value) (csv6 : List Value) (Fv6 : List Nat), e = .returned (.tuple #[.agg #[v1, v4, v5, iV r.1.2.2.2.1, v6], iV r.2]) ∧ Holds M0 w w' [dpR 115 dt13 v1 csv1 r.1.1 Fv1, .sl 3 tI v4 r.1.2.1, .sl 3 tI v5 r.1.2.2.1, dpR 89 dt14 v6 csv6 r.1.2.2.2.2 Fv6] G := by
 have H : Holds M0 w w [] G := zb H
 refine zg (args := [.agg #[A0, A1, A2, iV B3, A4], vp1]) (n := 37) Tryz.func27 q q q ?_
 unfold impl_HouseRunS at h
 refine C <| Z ?_
 refine WL_box (cs := [A0, A1, A2, iV B3, A4]) H q q q q (fun b1 w2 H3 => ?_)
 refine zq (cs := [nS, nS, nS, iV 0, nS]) H3 z31 q q q (fun b5 w6 H7 => ?_)
 refine qA q q q <| B <| C <| C <| zk ?_
 have hB9 := R H7.p1
 refine zm (cs := [A0, A1, A2, iV B3, A4]) us31 uo31 il31 hB9 q q q ?_
 change XL _ _ _ _ _ ((12, .agg #[A0, A1, A2, iV B3, A4]) :: _) _
 obtain ⟨x10, hx11, h⟩ := D h
 refine QC q q c48 (fun w' hb => w_impl_HouseValid w' _ A0 B0 (C0.c.c) A1 B1 (C1.c.c) A2 B2 (C2.c.c) B3 A4 B4 (C4.c.c) x10 hx11 (H7.grow hb).ctx) (by rfl) <| A q (qt_not q) q q <| QL_nil fun a ha w12 hb13 => ?_
 have H14 := H7.grow hb13
 refine X (S ?_ ha)
 refine Y q (fun hc15 => ?_) (fun hc15 => ?_)
 ·have h := if_t hc15 h
  refine rR <| A q (qt_build (args := []) (css := []) (cells := #[nS, nS, nS, iV 0, nS]) q trivial (by kernel_rfl)) q q ?_
  refine zl (cs' := [nS, nS, nS, iV 0, nS]) H14 q il31 q q q q q (fun w16 H17 => ?_)
  refine qA q q q <| B <| W fun a ha => ?_
  obtain rfl := L h
  have hB19 := R H17.p0
  have H20 := H17.nD 115 dt13
  have H21 := H20.nS 3 tI
  have H22 := H21.nS 3 tI
  have H23 := H22.nD 89 dt14
  have H24 := H23.q4.q4.p1.p2.p3
  exact m (retct q ha q q (run_loadVar_bx (cs := [nS, nS, nS, iV 0, nS]) us31 uo31 il31 hB19) ⟨(nS), [], [], (nS), (nS), (nS), [], [], q, H24⟩)
 have h := if_f hc15 h
 refine y <| C <| Z ?_
 have hB25 := R H14.p1
 refine zm (cs := [A0, A1, A2, iV B3, A4]) us31 uo31 il31 hB25 q q q ?_
 change XL _ _ _ _ _ ((16, .agg #[A0, A1, A2, iV B3, A4]) :: _) _
 obtain ⟨x26, hx27, h⟩ := D h
 refine zd q q c51 (w_impl_copyHouse w12 _ A0 B0 (C0.c.c) A1 B1 (C1.c.c) A2 B2 (C2.c.c) B3 A4 B4 (C4.c.c) x26 hx27 H14.ctx) (by rfl) ?_
 rintro _ w28 ⟨v30, cs31, F32, v33, v34, v35, cs36, F37, rfl, H29⟩; refine ⟨_, q, ?_⟩
 have H38 := H14.cN4 [] H29
 refine zq (cs := [nS, nS, nS, iV 0, nS]) H38 z31 q q q (fun b39 w40 H41 => ?_)
 have V45 := H41.viewG (Vw.c (Vw.d (Vw.c (Vw.c (Vw.d (Vw.c (Vw.c Vw.refl)))))))
 refine zl (cs' := [v30, v33, v34, iV x26.2.2.2.1, v35]) H41 q il31 q (T (V45.sliceOne hR1) (T (V45.sliceOne hS2) (T (V45.sliceOne hS3) (T q (T (V45.sliceOne hR4) q))))) q q q (fun w43 H44 => ?_)
 refine rN <| qA q q q <| B <| C <| rR <| qM q q q ?_
 have V47 := H44.viewG (Vw.c (Vw.d (Vw.c (Vw.c (Vw.d (Vw.c (Vw.c Vw.refl)))))))
 refine za V47 (t := (.pair tI (.pair tI ty2))) (hp1.c.c.c.c.c.c.c) u56 q q q <| qM q q q <| B <| g ?_
 obtain ⟨o55, ho56, h⟩ := D h
 have H59 := H44.q6.p4.p4.p4.p4.p4.p5
 refine fun a57 ha58 => zp (I := fun s a w2 => match s with | (s48, s49, s50, s51, s52, s53, s54) => ∃ vs50 css50 Fs50 vs51 vs52 vs54 css54 Fs54, Fr a 37 [(4, pB b5), (6, pB b39), (7, iV s48), (18, vp1), (19, iV (List.length p1 : Int)), (20, iV s49)] ∧ Holds M0 w w2 [.bx b5 31 [nS, nS, nS, iV 0, nS], .bx b39 31 [vs50, vs51, vs52, iV s53, vs54], dpR 115 dt13 vs50 css50 s50 Fs50, .sl 3 tI vs51 s51, .sl 3 tI vs52 s52, dpR 89 dt14 vs54 css54 s54 Fs54] G) (O := fun o e a w2 => match o with | (q0, q1, q2, q3, q4, q5) => e = .exit 0 ∧ ∃ vq1 csq1 Fq1 vq2 vq3 vq5 csq5 Fq5, Fr a 37 [(4, pB b5), (6, pB b39), (7, iV q0)] ∧ Holds M0 w w2 [.bx b5 31 [nS, nS, nS, iV 0, nS], .bx b39 31 [vq1, vq2, vq3, iV q4, vq5], dpR 115 dt13 vq1 csq1 q1 Fq1, .sl 3 tI vq2 q2, .sl 3 tI vq3 q3, dpR 89 dt14 vq5 csq5 q5 Fq5] G) ho56 ?_ ?_ ?_
 ·exact ⟨v30, cs31, F32, v33, v34, v35, cs36, F37, ha58.sub ⟨q, q, q, q, q, q, trivial⟩, H59⟩
 ·clear ha58
  intro s o62 a w60 hs61 hI63
  obtain ⟨s48, s49, s50, s51, s52, s53, s54⟩ := s
  obtain ⟨vs50, css50, Fs50, vs51, vs52, vs54, css54, Fs54, ha, H64⟩ := hI63
  refine S ?_ ha
  clear ha
  refine rR <| A q (qt_lss q q) q q <| B <| C ?_
  refine Y q (fun hc65 => ?_) (fun hc65 => ?_)
  ·have hs61 := if_t hc65 hs61
   refine y <| C <| g <| C <| Z ?_
   obtain ⟨x66, hx67, hs61⟩ := D hs61
   have V72 := H64.viewG (Vw.c (Vw.c (Vw.d (Vw.c (Vw.c (Vw.d Vw.refl))))))
   refine b V72 (hp1.c.c.c.c.c.c) hx67 u56 i49 q q q q (fun b68 off69 cap70 hv71 => ?_)
   obtain ⟨F73, hat74, hdup75⟩ := H64.atN (hp1.c.c.c.c.c.c) hx67 hv71
   refine XL_load_agg (t := (.pair tI (.pair tI ty2))) us49 uo49 i49 hat74 q q q (fun cs76 hr77 => ?_)
   obtain ⟨c78, c79, F80, F81, rfl, eF84, hr82, hr83⟩ := hr77
   obtain ⟨rfl, _⟩ := hr82
   obtain ⟨c85, c86, F87, F88, rfl, eF91, hr89, hr90⟩ := hr83
   obtain ⟨rfl, _⟩ := hr89
   obtain ⟨c92, c93, F94, F95, rfl, eF98, hr96, hr97⟩ := hr90
   obtain ⟨rfl, _⟩ := hr96
   obtain ⟨rfl, _⟩ := hr97
   change XL _ _ _ _ _ ((23, .agg #[iV x66.1, iV x66.2.1, iV x66.2.2.1, iV x66.2.2.2]) :: _) _
   refine zq (cs := [iV 0, iV 0, iV 0, iV 0]) H64 z49 q q q (fun b99 w100 H101 => ?_)
   refine zl (cs' := [iV x66.1, iV x66.2.1, iV x66.2.2.1, iV x66.2.2.2]) H101 q il49 q q q q q (fun w103 H104 => ?_)
   refine B <| C <| Z ?_
   have hB106 := R H104.p2
   refine zm (cs := [vs50, vs51, vs52, iV s53, vs54]) us31 uo31 il31 hB106 q q q ?_
   change XL _ _ _ _ _ ((25, .agg #[vs50, vs51, vs52, iV s53, vs54]) :: _) _
   have hB107 := R H104.p0
   refine zm (cs := [iV x66.1, iV x66.2.1, iV x66.2.2.1, iV x66.2.2.2]) us49 uo49 il49 hB107 q q q ?_
   change XL _ _ _ _ _ ((26, .agg #[iV x66.1, iV x66.2.1, iV x66.2.2.1, iV x66.2.2.2]) :: _) _
   obtain ⟨x108, hx109, hs61⟩ := D hs61
   have V110 := H104.viewG (Vw.c (Vw.c (Vw.c (Vw.d (Vw.c (Vw.c (Vw.d Vw.refl)))))))
   refine zd q q c23 (w_impl_HouseDo w103 _ hGl.c.c.c.c.c.c.c vs50 s50 hR3 vs51 s51 hS4 vs52 s52 hS5 s53 vs54 s54 hR6 x66.1 x66.2.1 x66.2.2.1 x66.2.2.2 x108 hx109 V110) (by rfl) ?_
   rintro _ w111 ⟨v113, cs114, F115, v116, v117, v118, cs119, F120, rfl, H112⟩; refine ⟨_, q, ?_⟩
   have H121 := H104.cV4 [] H112 (zc Pure.dp (zc (Pure.sl q) (zc (Pure.sl q) (zc Pure.dp all_nil))))
   refine qM q q q <| A q (zv q q) q q <| A q (zv q q) q q ?_
   refine zq (cs := [nS, nS, nS, iV 0, nS]) H121 z31 q q q (fun b122 w123 H124 => ?_)
   have V128 := H124.viewG (Vw.c (Vw.d (Vw.c (Vw.c (Vw.d (Vw.c (Vw.c (Vw.c (Vw.d (Vw.c (Vw.c (Vw.d Vw.refl))))))))))))
   refine zl (cs' := [v113, v116, v117, iV x108.1.2.2.2.1, v118]) H124 q il31 q (T (V128.sliceOne hR1) (T (V128.sliceOne hS2) (T (V128.sliceOne hS3) (T q (T (V128.sliceOne hR4) q))))) q q q (fun w126 H127 => ?_)
   refine qA q q q <| B <| C <| Z ?_
   have hB130 := R H127.p0
   refine zm (cs := [v113, v116, v117, iV x108.1.2.2.2.1, v118]) us31 uo31 il31 hB130 q q q ?_
   change XL _ _ _ _ _ ((30, .agg #[v113, v116, v117, iV x108.1.2.2.2.1, v118]) :: _) _
   have H131 := H127.p7
   have V134 := H131.viewG (Vw.c (Vw.c (Vw.d (Vw.c (Vw.c (Vw.d (Vw.c (Vw.c (Vw.d (Vw.c (Vw.c (Vw.d Vw.refl))))))))))))
   refine zl (cs' := [v113, v116, v117, iV x108.1.2.2.2.1, v118]) H131 q il31 q (T (V134.sliceOne hR2) (T (V134.sliceOne hS3) (T (V134.sliceOne hS4) (T q (T (V134.sliceOne hR5) q))))) q q q (fun w132 H133 => ?_)
   refine rN <| qM q q q <| B ?_
   refine Y q (fun hc136 => ?_) (fun hc136 => ?_)
   ·have hs61 := if_t hc136 hs61
    refine Z <| qM q q q <| A q (qt_add q q) q q <| qA q q q <| WL_nil fun a ha => ?_
    refine zi (X (S ?_ ha))
    refine Z <| A q (qt_add q q) q q <| qM q q q <| WL_nil fun a ha => ?_
    obtain rfl := L hs61
    have H137 := H133.q1.q5.q6.q6.q6.q6.p4.p4.p4.p4.p4.p5
    exact ⟨q, v113, cs114, F115, v116, v117, v118, cs119, F120, ha.sub ⟨q, q, q, q, q, q, trivial⟩, H137⟩
   have hs61 := if_f hc136 hs61
   refine WP_skip fun a ha => ?_
   refine zi (X (S ?_ ha))
   refine Z <| A q (qt_add q q) q q <| qM q q q <| WL_nil fun a ha => ?_
   obtain rfl := L hs61
   have H138 := H133.q1.q5.q6.q6.q6.q6.p4.p4.p4.p4.p4.p5
   exact ⟨q, v113, cs114, F115, v116, v117, v118, cs119, F120, ha.sub ⟨q, q, q, q, q, q, trivial⟩, H138⟩
  have hs61 := if_f hc65 hs61
  refine WP_exit fun a ha => ?_
  obtain rfl := L hs61
  have H139 := H64.p5.p5.p5.p5.p5.p5
  exact zo (⟨exit_ne, q, vs50, css50, Fs50, vs51, vs52, vs54, css54, Fs54, ha.sub ⟨q, q, q, trivial⟩, H139⟩)
 intro e a57 w140 hO141
 obtain ⟨p142, p143, p144, p145, p146, p147⟩ := o55
 obtain ⟨rfl, hO149⟩ := hO141
 obtain ⟨vp143, csp143, Fp143, vp144, vp145, vp147, csp147, Fp147, ha, H148⟩ := hO149
 refine zn (X (S ?_ ha))
 refine C <| Z ?_
 have hB150 := R H148.p1
 refine zm (cs := [vp143, vp144, vp145, iV p146, vp147]) us31 uo31 il31 hB150 q q q ?_
 change XL _ _ _ _ _ ((35, .agg #[vp143, vp144, vp145, iV p146, vp147]) :: _) _
 refine qM q q q ?_
 have V153 := H148.viewG (Vw.c (Vw.c (Vw.d (Vw.c (Vw.c (Vw.d Vw.refl))))))
 refine zl (cs' := [vp143, vp144, vp145, iV p146, vp147]) H148 q il31 q (T (V153.sliceOne hR2) (T (V153.sliceOne hS3) (T (V153.sliceOne hS4) (T q (T (V153.sliceOne hR5) q))))) q q q (fun w151 H152 => ?_)
 refine qA q q q <| B <| W fun a ha => ?_
 obtain rfl := L h
 have hB155 := R H152.p0
 have H156 := H152.q0.q0.p3.p3.p3.p3
 exact retct q ha q q (run_loadVar_bx (cs := [vp143, vp144, vp145, iV p146, vp147]) us31 uo31 il31 hB155) ⟨vp143, csp143, Fp143, vp144, vp145, vp147, csp147, Fp147, q, H156⟩
theorem w_laws_eqHouseDeed (w : World) (G : List Res) (B0 : Int) (B1 : Int) (B2 : Int) (B3 : Int) (p1_0 : Int) (p1_1 : Int) (p1_2 : Int) (p1_3 : Int) (r : Bool) (h : laws_eqHouseDeedS B0 B1 B2 B3 p1_0 p1_1 p1_2 p1_3 = some r) (H : Ctx w G) : Calls Tryz.prog 74 #[.agg #[iV B0, iV B1, iV B2, iV B3], .agg #[iV p1_0, iV p1_1, iV p1_2, iV p1_3]] w fun e w' => e = .returned (.bool r) ∧ Holds M0 w w' [] G := by
 have H : Holds M0 w w [] G := zb H
 refine zg (args := [.agg #[iV B0, iV B1, iV B2, iV B3], .agg #[iV p1_0, iV p1_1, iV p1_2, iV p1_3]]) (n := 25) Tryz.func74 q q q ?_
 unfold laws_eqHouseDeedS at h
 refine C <| Z ?_
 refine WL_box (cs := [iV B0, iV B1, iV B2, iV B3]) H q q q q (fun b1 w2 H3 => ?_)
 refine WL_box (cs := [iV p1_0, iV p1_1, iV p1_2, iV p1_3]) H3 q q q q (fun b5 w6 H7 => ?_)
 refine qA q q q <| B <| C <| rR <| qF uf49 fi49_0 nz3 q q q ?_
 have hB9 := R H7.p1
 refine l u3 q hB9 q q q q <| qF uf49 fi49_0 nz3 q q q ?_
 have hB10 := R H7.p0
 refine l u3 q hB10 q q q q <| A q (qt_neq q q) q q <| B ?_
 refine Y q (fun hc11 => ?_) (fun hc11 => ?_)
 ·have h := if_t hc11 h
  refine rR <| qA q q q <| B <| W fun a ha => ?_
  obtain rfl := L h
  have H12 := H7.q0.q0
  exact m (ret1 q ha q ⟨q, H12⟩)
 have h := if_f hc11 h
 refine y <| C <| rR <| qF uf49 fi49_1 nz3 q q q ?_
 have hB13 := R H7.p1
 refine l u3 q hB13 q q q q <| qF uf49 fi49_1 nz3 q q q ?_
 have hB14 := R H7.p0
 refine l u3 q hB14 q q q q <| A q (qt_neq q q) q q <| B ?_
 refine Y q (fun hc15 => ?_) (fun hc15 => ?_)
 ·have h := if_t hc15 h
  refine rR <| qA q q q <| B <| W fun a ha => ?_
  obtain rfl := L h
  have H16 := H7.q0.q0
  exact m (ret1 q ha q ⟨q, H16⟩)
 have h := if_f hc15 h
 refine y <| C <| rR <| qF uf49 fi49_2 nz3 q q q ?_
 have hB17 := R H7.p1
 refine l u3 q hB17 q q q q <| qF uf49 fi49_2 nz3 q q q ?_
 have hB18 := R H7.p0
 refine l u3 q hB18 q q q q <| A q (qt_neq q q) q q <| B ?_
 refine Y q (fun hc19 => ?_) (fun hc19 => ?_)
 ·have h := if_t hc19 h
  refine rR <| qA q q q <| B <| W fun a ha => ?_
  obtain rfl := L h
  have H20 := H7.q0.q0
  exact m (ret1 q ha q ⟨q, H20⟩)
 have h := if_f hc19 h
 refine y <| C <| rR <| qF uf49 fi49_3 nz3 q q q ?_
 have hB21 := R H7.p1
 refine l u3 q hB21 q q q q <| qF uf49 fi49_3 nz3 q q q ?_
 have hB22 := R H7.p0
 refine l u3 q hB22 q q q q <| A q (qt_neq q q) q q <| B ?_
 refine Y q (fun hc23 => ?_) (fun hc23 => ?_)
 ·have h := if_t hc23 h
  refine rR <| qA q q q <| B <| W fun a ha => ?_
  obtain rfl := L h
  have H24 := H7.q0.q0
  exact m (ret1 q ha q ⟨q, H24⟩)
 have h := if_f hc23 h
 refine y <| rR <| qA q q q <| B <| W fun a ha => ?_
 obtain rfl := L h
 have H25 := H7.q0.q0
 exact ret1 q ha q ⟨q, H25⟩
theorem w_laws_eqHouseDeedS (w : World) (G : List Res) (vp0 : Value) (p0 : List (Int × Int × Int × Int)) (hp0 : Has G (.pair tI (.pair tI ty2)) vp0 p0) (vp1 : Value) (p1 : List (Int × Int × Int × Int)) (hp1 : Has G (.pair tI (.pair tI ty2)) vp1 p1) (r : Bool) (h : laws_eqHouseDeedSS p0 p1 = some r) (H : Ctx w G) : Calls Tryz.prog 28 #[vp0, vp1] w fun e w' => e = .returned (.bool r) ∧ Holds M0 w w' [] G := by
 have H : Holds M0 w w [] G := zb H
 refine zg (args := [vp0, vp1]) (n := 27) Tryz.func28 q q q ?_
 unfold laws_eqHouseDeedSS at h
 refine rR <| qA q q q <| B <| C <| rR <| qM q q q <| za H.ctx (t := (.pair tI (.pair tI ty2))) (hp0) u56 q q q <| qM q q q ?_
 refine za H.ctx (t := (.pair tI (.pair tI ty2))) (hp1) u56 q q q <| A q (qt_neq q q) q q <| B ?_
 refine Y q (fun hc1 => ?_) (fun hc1 => ?_)
 ·have h := if_t hc1 h
  refine rR <| qA q q q <| B <| W fun a ha => ?_
  obtain rfl := L h
  exact m (ret1 q ha q ⟨q, H⟩)
 have h := if_f hc1 h
 refine y <| C <| rR <| qA q q q <| B <| g ?_
 obtain ⟨o3, ho4, h⟩ := D h
 refine fun a5 ha6 => zp (I := fun s a w2 => match s with | s2 => (Fr a 27 [(0, vp0), (1, vp1), (5, iV s2)] ∧ Holds M0 w w2 [] G)) (O := fun o e a w2 => match o with | .inl _ => e = .exit 0 ∧ (Fr a 27 [] ∧ Holds M0 w w2 [] G) | .inr q0 => e = .ret ∧ (Fr a 27 [(4, .bool q0)] ∧ Holds M0 w w2 [] G)) ho4 ?_ ?_ ?_
 ·exact ⟨ha6.sub ⟨q, q, q, trivial⟩, H⟩
 ·clear ha6
  intro s o9 a w7 hs8 hI10
  obtain ⟨s2, rfl⟩ : ∃ z, z = s := ⟨s, q⟩
  obtain ⟨ha, H11⟩ := hI10
  refine S ?_ ha
  clear ha
  refine C <| rR <| qM q q q <| qM q q q <| za H11.ctx (t := (.pair tI (.pair tI ty2))) (hp0) u56 q q q <| A q (qt_lss q q) q q <| B ?_
  refine Y q (fun hc12 => ?_) (fun hc12 => ?_)
  ·have hs8 := if_t hc12 hs8
   refine y <| C <| g <| C <| WP_quiet (by kernel_rfl) (by kernel_rfl) <| qM q q q <| qM q q q ?_
   obtain ⟨x13, hx14, hs8⟩ := D hs8
   refine b H11.ctx (hp0) hx14 u56 i49 q q q q (fun b15 off16 cap17 hv18 => ?_)
   obtain ⟨F19, hat20, hdup21⟩ := H11.atN (hp0) hx14 hv18
   refine XL_load_agg (t := (.pair tI (.pair tI ty2))) us49 uo49 i49 hat20 q q q (fun cs22 hr23 => ?_)
   obtain ⟨c24, c25, F26, F27, rfl, eF30, hr28, hr29⟩ := hr23
   obtain ⟨rfl, _⟩ := hr28
   obtain ⟨c31, c32, F33, F34, rfl, eF37, hr35, hr36⟩ := hr29
   obtain ⟨rfl, _⟩ := hr35
   obtain ⟨c38, c39, F40, F41, rfl, eF44, hr42, hr43⟩ := hr36
   obtain ⟨rfl, _⟩ := hr42
   obtain ⟨rfl, _⟩ := hr43
   change XL _ _ _ _ _ ((20, .agg #[iV x13.1, iV x13.2.1, iV x13.2.2.1, iV x13.2.2.2]) :: _) _
   refine qM q q q <| qM q q q ?_
   obtain ⟨x45, hx46, hs8⟩ := D hs8
   refine b H11.ctx (hp1) hx46 u56 i49 q q q q (fun b47 off48 cap49 hv50 => ?_)
   obtain ⟨F51, hat52, hdup53⟩ := H11.atN (hp1) hx46 hv50
   refine XL_load_agg (t := (.pair tI (.pair tI ty2))) us49 uo49 i49 hat52 q q q (fun cs54 hr55 => ?_)
   obtain ⟨c56, c57, F58, F59, rfl, eF62, hr60, hr61⟩ := hr55
   obtain ⟨rfl, _⟩ := hr60
   obtain ⟨c63, c64, F65, F66, rfl, eF69, hr67, hr68⟩ := hr61
   obtain ⟨rfl, _⟩ := hr67
   obtain ⟨c70, c71, F72, F73, rfl, eF76, hr74, hr75⟩ := hr68
   obtain ⟨rfl, _⟩ := hr74
   obtain ⟨rfl, _⟩ := hr75
   change XL _ _ _ _ _ ((24, .agg #[iV x45.1, iV x45.2.1, iV x45.2.2.1, iV x45.2.2.2]) :: _) _
   obtain ⟨x77, hx78, hs8⟩ := D hs8
   refine QC q q c74 (fun w' hb => w_laws_eqHouseDeed w' G x13.1 x13.2.1 x13.2.2.1 x13.2.2.2 x45.1 x45.2.1 x45.2.2.1 x45.2.2.2 x77 hx78 (H11.grow hb).ctx) (by rfl) <| A q (qt_not q) q q <| QL_nil fun a ha w79 hb80 => ?_
   have H81 := H11.grow hb80
   refine X (S ?_ ha)
   refine Y q (fun hc82 => ?_) (fun hc82 => ?_)
   ·have hs8 := if_t hc82 hs8
    refine rR <| qA q q q <| B <| W fun a ha => ?_
    obtain rfl := L hs8
    exact zj (m (⟨ret_ne, q, ha.sub ⟨q, trivial⟩, H81⟩))
   have hs8 := if_f hc82 hs8
   refine WP_skip fun a ha => ?_
   refine zi (X (S ?_ ha))
   refine Z <| qM q q q <| A q (qt_add q q) q q <| qA q q q <| WL_nil fun a ha => ?_
   obtain rfl := L hs8
   exact ⟨q, ha.sub ⟨q, q, q, trivial⟩, H81⟩
  have hs8 := if_f hc12 hs8
  refine WP_exit fun a ha => ?_
  obtain rfl := L hs8
  exact zo (⟨exit_ne, q, ha.sub trivial, H11⟩)
 intro e a5 w83 hO84
 rcases o3 with o3 | o3
 ·skip
  obtain ⟨rfl, hO86⟩ := hO84
  obtain ⟨ha, H85⟩ := hO86
  refine zn (X (S ?_ ha))
  refine rR <| qA q q q <| B <| W fun a ha => ?_
  obtain rfl := L h
  exact ret1 q ha q ⟨q, H85⟩
 skip
 obtain ⟨p87, rfl⟩ : ∃ z, z = o3 := ⟨o3, q⟩
 obtain ⟨rfl, hO89⟩ := hO84
 obtain ⟨ha, H88⟩ := hO89
 obtain rfl := L h
 exact zj (m (ret1 q ha q ⟨q, H88⟩))
theorem w_laws_markHouseDeedS (w : World) (G : List Res) (vp0 : Value) (p0 : List (Int × Int × Int × Int)) (p1 : Int) (r : (List (Int × Int × Int × Int)) × Int) (h : laws_markHouseDeedSS p0 p1 = some r) (H : Ctx w ([.sl 49 (.pair tI (.pair tI ty2)) vp0 p0] ++ G)) : Calls Tryz.prog 29 #[vp0, iV p1] w fun e w' => e = .returned (iV r.2) ∧ Holds (([.sl 49 (.pair tI (.pair tI ty2)) vp0 p0] : List Res).flatMap Res.own) w w' [.sl 49 (.pair tI (.pair tI ty2)) vp0 r.1] G := by
 have H : Holds (([.sl 49 (.pair tI (.pair tI ty2)) vp0 p0] : List Res).flatMap Res.own) w w [.sl 49 (.pair tI (.pair tI ty2)) vp0 p0] G := zb H
 refine zg (args := [vp0, iV p1]) (n := 41) Tryz.func29 q q q ?_
 unfold laws_markHouseDeedSS at h
 refine rR <| qA q q q <| B <| C <| rR <| qA q q q <| B <| g ?_
 obtain ⟨o4, ho5, h⟩ := D h
 refine fun a6 ha7 => zp (I := fun s a w2 => match s with | (s1, s2, s3) => (Fr a 41 [(0, vp0), (1, iV s1), (5, iV s2)] ∧ Holds (([.sl 49 (.pair tI (.pair tI ty2)) vp0 p0] : List Res).flatMap Res.own) w w2 [.sl 49 (.pair tI (.pair tI ty2)) vp0 s3] G)) (O := fun o e a w2 => match o with | (q0, q1) => e = .exit 0 ∧ (Fr a 41 [(0, vp0), (1, iV q0)] ∧ Holds (([.sl 49 (.pair tI (.pair tI ty2)) vp0 p0] : List Res).flatMap Res.own) w w2 [.sl 49 (.pair tI (.pair tI ty2)) vp0 q1] G)) ho5 ?_ ?_ ?_
 ·exact ⟨ha7.sub ⟨q, q, q, trivial⟩, H⟩
 ·clear ha7
  intro s o10 a w8 hs9 hI11
  obtain ⟨s1, s2, s3⟩ := s
  obtain ⟨ha, H12⟩ := hI11
  refine S ?_ ha
  clear ha
  refine C <| rR <| qM q q q <| qM q q q <| za H12.ctx (t := (.pair tI (.pair tI ty2))) hS0 u56 q q q <| A q (qt_lss q q) q q <| B ?_
  refine Y q (fun hc13 => ?_) (fun hc13 => ?_)
  ·have hs9 := if_t hc13 hs9
   refine y <| C <| g <| rR <| qM q q q <| qM q q q <| qM q q q ?_
   obtain ⟨x14, hx15, hs9⟩ := D hs9
   refine b H12.ctx hS0 hx15 u56 i49 q q q q (fun b16 off17 cap18 hv19 => ?_)
   refine qF uf49 fi49_0 nz3 q q q ?_
   refine WL_storeH (fo := 0) (cs' := [iV s1]) H12 hx15 hv19 (Upd.fst (Upd.whole (Blt.int)) q) q il3 q q q q (fun w20 H21 => ?_)
   refine rN <| qM q q q <| A q (qt_add q q) q q <| qA q q q <| rN <| qM q q q ?_
   refine qM q q q <| qM q q q ?_
   obtain ⟨x23, hx24, hs9⟩ := D hs9
   refine b H21.ctx hS0 hx24 u56 i49 q q q q (fun b25 off26 cap27 hv28 => ?_)
   refine qF uf49 fi49_1 nz3 q q q ?_
   refine WL_storeH (fo := 1) (cs' := [iV (IntKind.wrap .i64 (s1 + 1))]) H21 hx24 hv28 (Upd.snd (Upd.fst (Upd.whole (Blt.int)) q)) q il3 q q q q (fun w29 H30 => ?_)
   refine rN <| qM q q q <| A q (qt_add q q) q q <| qA q q q <| rN <| qM q q q ?_
   refine qM q q q <| qM q q q ?_
   obtain ⟨x32, hx33, hs9⟩ := D hs9
   refine b H30.ctx hS0 hx33 u56 i49 q q q q (fun b34 off35 cap36 hv37 => ?_)
   refine qF uf49 fi49_2 nz3 q q q ?_
   refine WL_storeH (fo := 2) (cs' := [iV (IntKind.wrap .i64 ((IntKind.wrap .i64 (s1 + 1)) + 1))]) H30 hx33 hv37 (Upd.snd (Upd.snd (Upd.fst (Upd.whole (Blt.int)) q))) q il3 q q q q (fun w38 H39 => ?_)
   refine rN <| qM q q q <| A q (qt_add q q) q q <| qA q q q <| rN <| qM q q q ?_
   refine qM q q q <| qM q q q ?_
   obtain ⟨x41, hx42, hs9⟩ := D hs9
   refine b H39.ctx hS0 hx42 u56 i49 q q q q (fun b43 off44 cap45 hv46 => ?_)
   refine qF uf49 fi49_3 nz3 q q q ?_
   refine WL_storeH (fo := 3) (cs' := [iV (IntKind.wrap .i64 ((IntKind.wrap .i64 ((IntKind.wrap .i64 (s1 + 1)) + 1)) + 1))]) H39 hx42 hv46 (Upd.snd (Upd.snd (Upd.snd (Upd.whole (Blt.int))))) q il3 q q q q (fun w47 H48 => ?_)
   refine B <| Z <| qM q q q <| A q (qt_add q q) q q <| qA q q q <| WL_nil fun a ha => ?_
   refine zi (X (S ?_ ha))
   refine Z <| qM q q q <| A q (qt_add q q) q q <| qA q q q <| WL_nil fun a ha => ?_
   obtain rfl := L hs9
   exact ⟨q, ha.sub ⟨q, q, q, trivial⟩, H48⟩
  have hs9 := if_f hc13 hs9
  refine WP_exit fun a ha => ?_
  obtain rfl := L hs9
  exact zo (⟨exit_ne, q, ha.sub ⟨q, q, trivial⟩, H12⟩)
 intro e a6 w50 hO51
 obtain ⟨p52, p53⟩ := o4
 obtain ⟨rfl, hO55⟩ := hO51
 obtain ⟨ha, H54⟩ := hO55
 refine zn (X (S ?_ ha))
 refine rR <| qM q q q <| qA q q q <| B <| W fun a ha => ?_
 obtain rfl := L h
 exact ret1 q ha q ⟨q, H54⟩
theorem w_laws_FnExactHouseRun (w : World) (G : List Res) (hGl : Glob G) (A0 : Value) (B0 : LI) (C0 : Has G ty10 A0 B0) (A1 : Value) (B1 : List Int) (C1 : Has G tI A1 B1) (A2 : Value) (B2 : List Int) (C2 : Has G tI A2 B2) (B3 : Int) (A4 : Value) (B4 : LT) (C4 : Has G ty12 A4 B4) (vp1 : Value) (p1 : List (Int × Int × Int × Int)) (hp1 : Has G (.pair tI (.pair tI ty2)) vp1 p1) (r : Bool) (h : laws_FnExactHouseRunS B0 B1 B2 B3 B4 p1 = some r) (H : Ctx w G) : Calls Tryz.prog 6 #[.agg #[A0, A1, A2, iV B3, A4], vp1] w fun e w' => e = .returned (.bool r) ∧ Holds M0 w w' [] G := by
 have H : Holds M0 w w [] G := zb H
 refine zg (args := [.agg #[A0, A1, A2, iV B3, A4], vp1]) (n := 119) Tryz.func6 q q q ?_
 unfold laws_FnExactHouseRunS at h
 refine C <| Z ?_
 refine WL_box (cs := [A0, A1, A2, iV B3, A4]) H q q q q (fun b1 w2 H3 => ?_)
 refine qA q q q <| rN <| qA q q q <| B <| C <| zk ?_
 have hB5 := R H3.p0
 refine zm (cs := [A0, A1, A2, iV B3, A4]) us26 uo26 il26 hB5 q q q ?_
 change XL _ _ _ _ _ ((17, .agg #[A0, A1, A2, iV B3, A4]) :: _) _
 refine qM q q q ?_
 obtain ⟨x6, hx7, h⟩ := D h
 refine QC q q c7 (fun w' hb => w_laws_szHouse w' _ A0 B0 (C0.c) A1 B1 (C1.c) A2 B2 (C2.c) B3 A4 B4 (C4.c) 1048576 x6 hx7 (H3.grow hb).ctx) (by rfl) <| qA q q q <| QL_nil fun a ha w8 hb9 => ?_
 have H10 := H3.grow hb9
 refine X (S ?_ ha)
 refine C <| rR <| qM q q q <| A q (qt_lss q q) q q <| B ?_
 refine Y q (fun hc11 => ?_) (fun hc11 => ?_)
 ·have h := if_t hc11 h
  refine rR <| qA q q q <| B <| W fun a ha => ?_
  obtain rfl := L h
  have H12 := H10.q0
  exact m (ret1 q ha q ⟨q, H12⟩)
 have h := if_f hc11 h
 refine y <| C <| zk <| qM q q q <| qM q q q ?_
 obtain ⟨x13, hx14, h⟩ := D h
 refine QC q q c24 (fun w' hb => w_laws_szHouseDeedS w' _ vp1 p1 (hp1.c) x6 x13 hx14 (H10.grow hb).ctx) (by rfl) <| qA q q q <| QL_nil fun a ha w15 hb16 => ?_
 have H17 := H10.grow hb16
 refine X (S ?_ ha)
 refine C <| rR <| qM q q q <| A q (qt_lss q q) q q <| B ?_
 refine Y q (fun hc18 => ?_) (fun hc18 => ?_)
 ·have h := if_t hc18 h
  refine rR <| qA q q q <| B <| W fun a ha => ?_
  obtain rfl := L h
  have H19 := H17.q0
  exact m (ret1 q ha q ⟨q, H19⟩)
 have h := if_f hc18 h
 refine y <| C <| Z ?_
 have hB20 := R H17.p0
 refine zm (cs := [A0, A1, A2, iV B3, A4]) us26 uo26 il26 hB20 q q q ?_
 change XL _ _ _ _ _ ((28, .agg #[A0, A1, A2, iV B3, A4]) :: _) _
 obtain ⟨x21, hx22, h⟩ := D h
 refine zd q q c9 (w_laws_toHouse w15 _ A0 B0 (C0.c) A1 B1 (C1.c) A2 B2 (C2.c) B3 A4 B4 (C4.c) x21 hx22 H17.ctx) (by rfl) ?_
 rintro _ w23 ⟨v25, cs26, F27, v28, v29, v30, cs31, F32, rfl, H24⟩; refine ⟨_, q, ?_⟩
 have H33 := H17.cN4 [] H24
 refine qM q q q ?_
 obtain ⟨x34, hx35, h⟩ := D h
 have V36 := H33.viewG (Vw.d (Vw.c (Vw.c (Vw.d (Vw.c Vw.refl)))))
 refine zd q q c26 (w_laws_toHouseDeedS w23 _ vp1 p1 (hp1.c.c.c.c.c) x34 hx35 V36) (by rfl) ?_
 rintro _ w37 ⟨v39, rfl, H38⟩; refine ⟨_, q, ?_⟩
 have H40 := H33.cV1 [] H38 (zc (Pure.sl q) all_nil)
 have H43 := H40.p1
 have H44 : Holds _ w w37 [.ro ty10 v25 x21.1, .sl 49 (.pair tI (.pair tI ty2)) v39 x34, .sl 3 tI v28 x21.2.1, .sl 3 tI v29 x21.2.2.1, dpR 89 dt14 v30 cs31 x21.2.2.2.2 F32, .bx b1 26 [A0, A1, A2, iV B3, A4]] G := H43.freezeD
 have H45 := H44.p4
 have H46 : Holds _ w w37 [.ro ty12 v30 x21.2.2.2.2, .ro ty10 v25 x21.1, .sl 49 (.pair tI (.pair tI ty2)) v39 x34, .sl 3 tI v28 x21.2.1, .sl 3 tI v29 x21.2.2.1, .bx b1 26 [A0, A1, A2, iV B3, A4]] G := H45.freezeD
 obtain ⟨x41, hx42, h⟩ := D h
 refine zd q q c25 (w_spec_HouseRun w37 _ v25 x21.1 hR1 v28 x21.2.1 hS3 v29 x21.2.2.1 hS4 x21.2.2.2.1 v30 x21.2.2.2.2 hR0 v39 x34 hS2 x41 hx42 H46.ctx) (by rfl) ?_
 rintro _ w47 ⟨v49, v50, v51, v52, rfl, H48⟩; refine ⟨_, q, ?_⟩
 have H53 := H46.cN4 [] H48
 refine qM q q q <| A q (zv q q) q q <| A q (zv q q) q q ?_
 refine zq (cs := [nS, nS, nS, iV 0, nS]) H53 z31 q q q (fun b54 w55 H56 => ?_)
 refine zl (cs' := [v49, v50, v51, iV x41.1.2.2.2.1, v52]) H56 q il31 q (T (H56.ctx.sliceOne hS1) (T (H56.ctx.sliceOne hS2) (T (H56.ctx.sliceOne hS3) (T q (T (H56.ctx.sliceOne hS4) q))))) q q q (fun w58 H59 => ?_)
 refine qA q q q <| B <| C <| Z ?_
 have hB61 := R H59.p10
 refine zm (cs := [A0, A1, A2, iV B3, A4]) us26 uo26 il26 hB61 q q q ?_
 change XL _ _ _ _ _ ((35, .agg #[A0, A1, A2, iV B3, A4]) :: _) _
 obtain ⟨x62, hx63, h⟩ := D h
 refine zd q q c9 (w_laws_toHouse w58 _ A0 B0 (C0.c.c.c.c.c.c.c.c.c.c.c) A1 B1 (C1.c.c.c.c.c.c.c.c.c.c.c) A2 B2 (C2.c.c.c.c.c.c.c.c.c.c.c) B3 A4 B4 (C4.c.c.c.c.c.c.c.c.c.c.c) x62 hx63 H59.ctx) (by rfl) ?_
 rintro _ w64 ⟨v66, cs67, F68, v69, v70, v71, cs72, F73, rfl, H65⟩; refine ⟨_, q, ?_⟩
 have H74 := H59.cN4 [] H65
 refine zq (cs := [nS, nS, nS, iV 0, nS]) H74 z31 q q q (fun b75 w76 H77 => ?_)
 have V81 := H77.viewG (Vw.c (Vw.d (Vw.c (Vw.c (Vw.d (Vw.c (Vw.c (Vw.c (Vw.c (Vw.c (Vw.c (Vw.c (Vw.c (Vw.c (Vw.c (Vw.c Vw.refl))))))))))))))))
 refine zl (cs' := [v66, v69, v70, iV x62.2.2.2.1, v71]) H77 q il31 q (T (V81.sliceOne hR1) (T (V81.sliceOne hS2) (T (V81.sliceOne hS3) (T q (T (V81.sliceOne hR4) q))))) q q q (fun w79 H80 => ?_)
 refine rN <| qM q q q ?_
 obtain ⟨x83, hx84, h⟩ := D h
 have V85 := H80.viewG (Vw.c (Vw.d (Vw.c (Vw.c (Vw.d (Vw.c (Vw.c (Vw.c (Vw.c (Vw.c (Vw.c (Vw.c (Vw.c (Vw.c (Vw.c (Vw.c Vw.refl))))))))))))))))
 refine zd q q c26 (w_laws_toHouseDeedS w79 _ vp1 p1 (hp1.c.c.c.c.c.c.c.c.c.c.c.c.c.c.c.c) x83 hx84 V85) (by rfl) ?_
 rintro _ w86 ⟨v88, rfl, H87⟩; refine ⟨_, q, ?_⟩
 have H89 := H80.cV1 [] H87 (zc (Pure.sl q) all_nil)
 refine qA q q q <| B <| C <| Z ?_
 have hB90 := R H89.p1
 refine zm (cs := [v66, v69, v70, iV x62.2.2.2.1, v71]) us31 uo31 il31 hB90 q q q ?_
 change XL _ _ _ _ _ ((40, .agg #[v66, v69, v70, iV x62.2.2.2.1, v71]) :: _) _
 refine qM q q q ?_
 obtain ⟨x91, hx92, h⟩ := D h
 have V93 := H89.viewG (Vw.c (Vw.c (Vw.d (Vw.c (Vw.c (Vw.d (Vw.c (Vw.c (Vw.c (Vw.c (Vw.c (Vw.c (Vw.c (Vw.c (Vw.c (Vw.c (Vw.c Vw.refl)))))))))))))))))
 refine zd q q c27 (w_impl_HouseRun w86 _ hGl.c.c.c.c.c.c.c.c.c.c.c.c.c.c.c.c.c v66 x62.1 hR2 v69 x62.2.1 hS3 v70 x62.2.2.1 hS4 x62.2.2.2.1 v71 x62.2.2.2.2 hR5 v88 x83 hS0 x91 hx92 V93) (by rfl) ?_
 rintro _ w94 ⟨v96, cs97, F98, v99, v100, v101, cs102, F103, rfl, H95⟩; refine ⟨_, q, ?_⟩
 have H104 := H89.cV4 [] H95 (zc Pure.dp (zc (Pure.sl q) (zc (Pure.sl q) (zc Pure.dp all_nil))))
 refine qM q q q <| A q (zv q q) q q <| A q (zv q q) q q ?_
 refine zq (cs := [nS, nS, nS, iV 0, nS]) H104 z31 q q q (fun b105 w106 H107 => ?_)
 have V111 := H107.viewG (Vw.c (Vw.d (Vw.c (Vw.c (Vw.d (Vw.c (Vw.c (Vw.d (Vw.c (Vw.c (Vw.d (Vw.c (Vw.c (Vw.c (Vw.c (Vw.c (Vw.c (Vw.c (Vw.c (Vw.c (Vw.c (Vw.c Vw.refl))))))))))))))))))))))
 refine zl (cs' := [v96, v99, v100, iV x91.1.2.2.2.1, v101]) H107 q il31 q (T (V111.sliceOne hR1) (T (V111.sliceOne hS2) (T (V111.sliceOne hS3) (T q (T (V111.sliceOne hR4) q))))) q q q (fun w109 H110 => ?_)
 refine qA q q q <| B <| C <| C <| zk ?_
 have hB113 := R H110.p0
 refine zm (cs := [v96, v99, v100, iV x91.1.2.2.2.1, v101]) us31 uo31 il31 hB113 q q q ?_
 change XL _ _ _ _ _ ((45, .agg #[v96, v99, v100, iV x91.1.2.2.2.1, v101]) :: _) _
 have hB114 := R H110.p11
 refine zm (cs := [v49, v50, v51, iV x41.1.2.2.2.1, v52]) us31 uo31 il31 hB114 q q q ?_
 change XL _ _ _ _ _ ((46, .agg #[v49, v50, v51, iV x41.1.2.2.2.1, v52]) :: _) _
 obtain ⟨x115, hx116, h⟩ := D h
 refine QC q q c11 (fun w' hb => w_laws_eqHouse w' _ v96 x91.1.1 hR1 v99 x91.1.2.1 hS2 v100 x91.1.2.2.1 hS3 x91.1.2.2.2.1 v101 x91.1.2.2.2.2 hR4 v49 x41.1.1 hS12 v50 x41.1.2.1 hS13 v51 x41.1.2.2.1 hS14 x41.1.2.2.2.1 v52 x41.1.2.2.2.2 hS15 x115 hx116 ((H110.grow hb).viewG (Vw.c (Vw.d (Vw.c (Vw.c (Vw.d (Vw.c (Vw.c (Vw.d (Vw.c (Vw.c (Vw.d (Vw.c (Vw.c (Vw.c (Vw.c (Vw.c (Vw.c (Vw.c (Vw.c (Vw.c (Vw.c (Vw.c Vw.refl)))))))))))))))))))))))) (by rfl) <| A q (qt_not q) q q <| qM q q q ?_
 refine zh 4 53 (.bool ((!x115) || (x91.2 != x41.2))) ?_ (fun md hmd hk => ?_)
 rotate_left
 ·obtain ⟨K, rfl⟩ := zr hmd
  rcases btf (!x115) with hc117 | hc117
  ·skip
   refine qS q hc117 q q <| qS q hc117 q q <| qS q hc117 q q <| A q (ze q hc117 q) q q ?_
   exact hk _ (p (by rw [hc117]; rfl) (cfn 3 q (u)))
  skip
  refine qM (J q hc117) q q <| qM (J q hc117) q q <| A (J q hc117) (qt_neq q q) q q <| A q (zf q hc117 q) q q ?_
  exact hk _ (p (by rw [hc117]; rfl) (cfn 3 q (u)))
 refine QL_nil fun a ha w118 hb119 => ?_
 have H120 := H110.grow hb119
 refine X (S ?_ ha)
 refine Y q (fun hc121 => ?_) (fun hc121 => ?_)
 ·have h := if_t hc121 h
  refine rR <| qA q q q <| B <| W fun a ha => ?_
  obtain rfl := L h
  have H122 := H120.q0.q0.q0.q0.q0.q0.q0.q0.q0.q0.q0.q0.q0.q0.q0.q0.q0.q0.q0.q0.q0.q0
  exact m (ret1 q ha q ⟨q, H122⟩)
 have h := if_f hc121 h
 refine y <| C <| C ?_
 obtain ⟨x125, hx126, h⟩ := D h
 obtain ⟨x139, hx140, h⟩ := D h
 refine WP_join (M := fun a w2 => (Fr a 119 [(1, vp1), (2, pB b1), (6, pB b54), (7, iV x41.2), (8, pB b75), (9, v88), (10, pB b105), (11, iV x91.2), (58, .bool (!x139))] ∧ Holds M0 w w2 [.bx b1 26 [A0, A1, A2, iV B3, A4], .bx b54 31 [v49, v50, v51, iV x41.1.2.2.2.1, v52], .sl 115 ty10 v49 x41.1.1, .sl 3 tI v50 x41.1.2.1, .sl 3 tI v51 x41.1.2.2.1, .sl 89 ty12 v52 x41.1.2.2.2.2, .bx b75 31 [v66, v69, v70, iV x62.2.2.2.1, v71], dpR 115 dt13 v66 cs67 x62.1 F68, .sl 3 tI v69 x62.2.1, .sl 3 tI v70 x62.2.2.1, dpR 89 dt14 v71 cs72 x62.2.2.2.2 F73, .sl 49 (.pair tI (.pair tI ty2)) v88 x83, .bx b105 31 [v96, v99, v100, iV x91.1.2.2.2.1, v101], dpR 115 dt13 v96 cs97 x91.1.1 F98, .sl 3 tI v99 x91.1.2.1, .sl 3 tI v100 x91.1.2.2.1, dpR 89 dt14 v101 cs102 x91.1.2.2.2.2 F103] G)) ?_ ?_
 ·refine WP_ordersT (fun w1 w2 => Chg M0 w1 w2) 5 (by kernel_rfl) (fun w323 hb324 => ?_)
  have H325 := H120.grow hb324
  have C326 : Ctx w323 ([] ++ ([.bx b105 31 [v96, v99, v100, iV x91.1.2.2.2.1, v101], .ro ty10 v96 x91.1.1, .sl 3 tI v99 x91.1.2.1, .sl 3 tI v100 x91.1.2.2.1, .ro ty12 v101 x91.1.2.2.2.2, .sl 49 (.pair tI (.pair tI ty2)) v88 x83, .bx b75 31 [v66, v69, v70, iV x62.2.2.2.1, v71], .ro ty10 v66 x62.1, .sl 3 tI v69 x62.2.1, .sl 3 tI v70 x62.2.2.1, .ro ty12 v71 x62.2.2.2.2, .bx b54 31 [v49, v50, v51, iV x41.1.2.2.2.1, v52], .sl 115 ty10 v49 x41.1.1, .sl 3 tI v50 x41.1.2.1, .sl 3 tI v51 x41.1.2.2.1, .sl 89 ty12 v52 x41.1.2.2.2.2, .ro ty12 v30 x21.2.2.2.2, .ro ty10 v25 x21.1, .sl 49 (.pair tI (.pair tI ty2)) v39 x34, .sl 3 tI v28 x21.2.1, .sl 3 tI v29 x21.2.2.1, .bx b1 26 [A0, A1, A2, iV B3, A4]] ++ G)) := H325.viewG (Vw.c (Vw.d (Vw.c (Vw.c (Vw.d (Vw.c (Vw.c (Vw.d (Vw.c (Vw.c (Vw.d (Vw.c (Vw.c (Vw.c (Vw.c (Vw.c (Vw.c (Vw.c (Vw.c (Vw.c (Vw.c (Vw.c Vw.refl))))))))))))))))))))))
  have H327 : Holds _ w323 w323 [] ([.bx b105 31 [v96, v99, v100, iV x91.1.2.2.2.1, v101], .ro ty10 v96 x91.1.1, .sl 3 tI v99 x91.1.2.1, .sl 3 tI v100 x91.1.2.2.1, .ro ty12 v101 x91.1.2.2.2.2, .sl 49 (.pair tI (.pair tI ty2)) v88 x83, .bx b75 31 [v66, v69, v70, iV x62.2.2.2.1, v71], .ro ty10 v66 x62.1, .sl 3 tI v69 x62.2.1, .sl 3 tI v70 x62.2.2.1, .ro ty12 v71 x62.2.2.2.2, .bx b54 31 [v49, v50, v51, iV x41.1.2.2.2.1, v52], .sl 115 ty10 v49 x41.1.1, .sl 3 tI v50 x41.1.2.1, .sl 3 tI v51 x41.1.2.2.1, .sl 89 ty12 v52 x41.1.2.2.2.2, .ro ty12 v30 x21.2.2.2.2, .ro ty10 v25 x21.1, .sl 49 (.pair tI (.pair tI ty2)) v39 x34, .sl 3 tI v28 x21.2.1, .sl 3 tI v29 x21.2.2.1, .bx b1 26 [A0, A1, A2, iV B3, A4]] ++ G) := zb (Rs := []) C326
  have hB363 := HasB.bx (HasB.c (HasB.c (HasB.c (HasB.c (HasB.c (HasB.c (HasB.hd))))))) H327.ctx
  refine XT (i := 0) q (by kernel_rfl) q H327.chg q (qs_agg (cs := [v66, v69, v70, iV x62.2.2.2.1, v71]) us31 uo31 il31 q (fun j z hj => by rw [Nat.zero_add]; exact hB363.cell hj) H327.chg (Ctx.outB C326 (HasB.c (HasB.c (HasB.c (HasB.c (HasB.c (HasB.c (HasB.hd))))))))) q q ?_
  change XC _ _ _ _ _ _ _ _ ((54, .agg #[v66, v69, v70, iV x62.2.2.2.1, v71]) :: _) _
  have hB364 := HasB.bx (HasB.c (HasB.c (HasB.c (HasB.c (HasB.c (HasB.c (HasB.c (HasB.c (HasB.c (HasB.c (HasB.c (HasB.c (HasB.c (HasB.c (HasB.c (HasB.c (HasB.c (HasB.c (HasB.c (HasB.c (HasB.c (HasB.hd)))))))))))))))))))))) H327.ctx
  refine XT (i := 1) q (by kernel_rfl) q H327.chg q (qs_agg (cs := [A0, A1, A2, iV B3, A4]) us26 uo26 il26 q (fun j z hj => by rw [Nat.zero_add]; exact hB364.cell hj) H327.chg (Ctx.outB C326 (HasB.c (HasB.c (HasB.c (HasB.c (HasB.c (HasB.c (HasB.c (HasB.c (HasB.c (HasB.c (HasB.c (HasB.c (HasB.c (HasB.c (HasB.c (HasB.c (HasB.c (HasB.c (HasB.c (HasB.c (HasB.c (HasB.hd)))))))))))))))))))))))) q q ?_
  change XC _ _ _ _ _ _ _ _ ((55, .agg #[A0, A1, A2, iV B3, A4]) :: _) _
  refine X1 2 (by kernel_rfl) q <| zd q q c9 (w_laws_toHouse w323 _ A0 B0 (C0.c.c.c.c.c.c.c.c.c.c.c.c.c.c.c.c.c.c.c.c.c.c) A1 B1 (C1.c.c.c.c.c.c.c.c.c.c.c.c.c.c.c.c.c.c.c.c.c.c) A2 B2 (C2.c.c.c.c.c.c.c.c.c.c.c.c.c.c.c.c.c.c.c.c.c.c) B3 A4 B4 (C4.c.c.c.c.c.c.c.c.c.c.c.c.c.c.c.c.c.c.c.c.c.c) x125 hx126 H327.ctx) (by rfl) ?_
  rintro _ w365 ⟨v367, cs368, F369, v370, v371, v372, cs373, F374, rfl, H366⟩; refine ⟨_, q, ?_⟩
  have H375 := H327.cN4 [] H366
  refine XN H375.chg <| X1 3 (by kernel_rfl) q ?_
  have V376 := H375.viewG (Vw.d (Vw.c (Vw.c (Vw.d Vw.refl))))
  refine zd q q c11 (w_laws_eqHouse w365 _ v66 x62.1 hR11 v69 x62.2.1 hS12 v70 x62.2.2.1 hS13 x62.2.2.2.1 v71 x62.2.2.2.2 hR14 v367 x125.1 hR0 v370 x125.2.1 hS1 v371 x125.2.2.1 hS2 x125.2.2.2.1 v372 x125.2.2.2.2 hR3 x139 hx140 V376) (by rfl) ?_
  rintro _ w377 ⟨rfl, H378⟩; refine ⟨_, q, ?_⟩
  have H379 := H375.cV0 [] H378 all_nil
  refine XN H379.chg <| XQ (i := 4) q (by kernel_rfl) q H379.chg q (fun _ => qt_not q) q q ?_
  have H380 := H325.cV4 [] H379 (zc Pure.dp (zc (Pure.sl q) (zc (Pure.sl q) (zc Pure.dp all_nil))))
  refine XC_done (by kernel_rfl) (fun a ha => ?_)
  have H381 := H380.q0.q0.q0.q0.q16.q16.q16.q16.q16.p4.p4.p4.p4.p4.p5.p10.p10.p10.p10.p10.p15.p15.p15.p15.p15.p16
  exact ⟨ha.sub ⟨q, q, q, q, q, q, q, q, q, trivial⟩, H381⟩
 intro a w382 hI383
 obtain ⟨ha, H384⟩ := hI383
 refine S ?_ ha
 clear ha
 refine Y q (fun hc385 => ?_) (fun hc385 => ?_)
 ·have h := if_t hc385 h
  refine rR <| qA q q q <| B <| W fun a ha => ?_
  obtain rfl := L h
  have H386 := H384.q0.q0.q0.q0.q0.q0.q0.q0.q0.q0.q0.q0.q0.q0.q0.q0.q0
  exact m (ret1 q ha q ⟨q, H386⟩)
 have h := if_f hc385 h
 refine y <| C <| rR <| qM q q q <| qM q q q ?_
 obtain ⟨x387, hx388, h⟩ := D h
 have V389 := H384.viewG (Vw.c (Vw.c (Vw.c (Vw.c (Vw.c (Vw.c (Vw.c (Vw.d (Vw.c (Vw.c (Vw.d (Vw.c (Vw.c (Vw.d (Vw.c (Vw.c (Vw.d Vw.refl)))))))))))))))))
 refine zd q q c26 (w_laws_toHouseDeedS w382 _ vp1 p1 (hp1.c.c.c.c.c.c.c.c.c.c.c.c.c.c.c.c.c) x387 hx388 V389) (by rfl) ?_
 rintro _ w390 ⟨v392, rfl, H391⟩; refine ⟨_, q, ?_⟩
 have H393 := H384.cV1 [] H391 (zc (Pure.sl q) all_nil)
 obtain ⟨x394, hx395, h⟩ := D h
 have V396 := H393.viewG (Vw.c (Vw.c (Vw.c (Vw.c (Vw.c (Vw.c (Vw.c (Vw.c (Vw.d (Vw.c (Vw.c (Vw.d (Vw.c (Vw.c (Vw.d (Vw.c (Vw.c (Vw.d Vw.refl))))))))))))))))))
 refine zd q q c28 (w_laws_eqHouseDeedS w390 _ v88 x83 hS12 v392 x387 hS0 x394 hx395 V396) (by rfl) ?_
 rintro _ w397 ⟨rfl, H398⟩; refine ⟨_, q, ?_⟩
 have H399 := H393.cV0 [] H398 all_nil
 refine A q (qt_not q) q q <| B ?_
 refine Y q (fun hc400 => ?_) (fun hc400 => ?_)
 ·have h := if_t hc400 h
  refine rR <| qA q q q <| B <| W fun a ha => ?_
  obtain rfl := L h
  have H401 := H399.q0.q0.q0.q0.q0.q0.q0.q0.q0.q0.q0.q0.q0.q0.q0.q0.q0.q0
  exact m (ret1 q ha q ⟨q, H401⟩)
 have h := if_f hc400 h
 refine y <| rR <| qA q q q <| B <| C <| Z ?_
 have hB402 := R H399.p7
 refine zm (cs := [v66, v69, v70, iV x62.2.2.2.1, v71]) us31 uo31 il31 hB402 q q q ?_
 change XL _ _ _ _ _ ((64, .agg #[v66, v69, v70, iV x62.2.2.2.1, v71]) :: _) _
 refine qM q q q ?_
 have H405 := H399.p11
 have H406 := H405.p11
 have H407 := H406.p11
 have H408 := H407.p11
 obtain ⟨x403, hx404, h⟩ := D h
 have V409 := H408.viewG (Vw.c (Vw.c (Vw.c (Vw.c (Vw.c (Vw.c (Vw.c (Vw.c (Vw.c (Vw.c (Vw.c (Vw.c (Vw.c (Vw.c (Vw.d (Vw.c (Vw.c (Vw.d Vw.refl))))))))))))))))))
 refine zd q q c12 (w_laws_markHouse w397 _ v66 x62.1 cs67 F68 v69 x62.2.1 v70 x62.2.2.1 x62.2.2.2.1 v71 x62.2.2.2.2 cs72 F73 1 x403 hx404 V409) (by rfl) ?_
 rintro _ w410 ⟨cs412, F413, cs414, F415, rfl, H411⟩; refine ⟨_, q, ?_⟩
 have H416 := H408.cV4 [_, _, _, _] H411 (zc Pure.dp (zc (Pure.sl q) (zc (Pure.sl q) (zc Pure.dp all_nil))))
 refine qA q q q <| rN <| qM q q q <| qM q q q ?_
 have H419 := H416.p12
 obtain ⟨x417, hx418, h⟩ := D h
 have V420 := H419.viewG (Vw.c (Vw.d (Vw.c (Vw.c (Vw.d (Vw.c (Vw.c (Vw.c (Vw.c (Vw.c (Vw.c (Vw.c (Vw.c (Vw.c (Vw.d (Vw.c (Vw.c (Vw.d Vw.refl))))))))))))))))))
 refine zd q q c29 (w_laws_markHouseDeedS w410 _ v88 x83 x403.2.2.2.2 x417 hx418 V420) (by rfl) ?_
 rintro _ w421 ⟨rfl, H422⟩; refine ⟨_, q, ?_⟩
 have H423 := H419.cV1 [_] H422 (zc (Pure.sl q) all_nil)
 refine qA q q q <| B <| C <| C <| zk <| qM q q q <| A q (qt_lss q q) q q <| qM q q q ?_
 obtain ⟨b424, hg425, h⟩ := D h
 refine zh 5 77 (.bool b424) ?_ (fun md hmd hk => ?_)
 rotate_left
 ·obtain ⟨K, rfl⟩ := zr hmd
  rcases btf (decide (x417.2 < 0)) with hc426 | hc426
  ·skip
   refine qS q hc426 q q <| qS q hc426 q q <| qS q hc426 q q <| qS q hc426 q q <| A q (ze q hc426 q) q q ?_
   exact hk _ (p (vb (if_t hc426 hg425)) (cfn 4 q (u)))
  skip
  have hg425 := if_f hc426 hg425
  have hB427 := R H423.p13
  refine zm (cs := [v96, v99, v100, iV x91.1.2.2.2.1, v101]) us31 uo31 il31 hB427 (J q hc426) q q ?_
  change XL _ _ _ _ _ ((73, .agg #[v96, v99, v100, iV x91.1.2.2.2.1, v101]) :: _) _
  have hB428 := R H423.p7
  refine zm (cs := [v49, v50, v51, iV x41.1.2.2.2.1, v52]) us31 uo31 il31 hB428 (J q hc426) q q ?_
  change XL _ _ _ _ _ ((74, .agg #[v49, v50, v51, iV x41.1.2.2.2.1, v52]) :: _) _
  obtain ⟨x429, hx430, hg425⟩ := D hg425
  refine QC (J q hc426) q c11 (fun w' hb => w_laws_eqHouse w' _ v96 x91.1.1 hR14 v99 x91.1.2.1 hS15 v100 x91.1.2.2.1 hS16 x91.1.2.2.2.1 v101 x91.1.2.2.2.2 hR17 v49 x41.1.1 hS8 v50 x41.1.2.1 hS9 v51 x41.1.2.2.1 hS10 x41.1.2.2.2.1 v52 x41.1.2.2.2.2 hS11 x429 hx430 ((H423.grow hb).viewG (Vw.c (Vw.d (Vw.c (Vw.c (Vw.d (Vw.c (Vw.c (Vw.c (Vw.c (Vw.c (Vw.c (Vw.c (Vw.c (Vw.c (Vw.d (Vw.c (Vw.c (Vw.d Vw.refl)))))))))))))))))))) (by rfl) <| A (J q hc426) (qt_not q) q q <| A q (zf q hc426 q) q q ?_
  exact hk _ (p (vb hg425) (cfn 4 q (u)))
 refine qM q q q ?_
 refine zh 4 82 (.bool (b424 || (x91.2 != x41.2))) ?_ (fun md hmd hk => ?_)
 rotate_left
 ·obtain ⟨K, rfl⟩ := zr hmd
  rcases btf b424 with hc431 | hc431
  ·skip
   refine qS q hc431 q q <| qS q hc431 q q <| qS q hc431 q q <| A q (ze q hc431 q) q q ?_
   exact hk _ (p (by rw [hc431]; rfl) (cfn 3 q (u)))
  skip
  refine qM (J q hc431) q q <| qM (J q hc431) q q <| A (J q hc431) (qt_neq q q) q q <| A q (zf q hc431 q) q q ?_
  exact hk _ (p (by rw [hc431]; rfl) (cfn 3 q (u)))
 refine QL_nil fun a ha w432 hb433 => ?_
 have H434 := H423.grow hb433
 refine X (S ?_ ha)
 refine Y q (fun hc435 => ?_) (fun hc435 => ?_)
 ·have h := if_t hc435 h
  refine rR <| qA q q q <| B <| W fun a ha => ?_
  obtain rfl := L h
  have H436 := H434.q0.q0.q0.q0.q0.q0.q0.q0.q0.q0.q0.q0.q0.q0.q0.q0.q0.q0
  exact m (ret1 q ha q ⟨q, H436⟩)
 have h := if_f hc435 h
 refine y <| rR <| qA q q q <| B <| C <| Z ?_
 have hB437 := R H434.p13
 refine zm (cs := [v96, v99, v100, iV x91.1.2.2.2.1, v101]) us31 uo31 il31 hB437 q q q ?_
 change XL _ _ _ _ _ ((83, .agg #[v96, v99, v100, iV x91.1.2.2.2.1, v101]) :: _) _
 refine qM q q q ?_
 have H440 := H434.p17
 have H441 := H440.p17
 have H442 := H441.p17
 have H443 := H442.p17
 obtain ⟨x438, hx439, h⟩ := D h
 have V444 := H443.viewG (Vw.c (Vw.c (Vw.c (Vw.c (Vw.c (Vw.d (Vw.c (Vw.c (Vw.d (Vw.c (Vw.c (Vw.c (Vw.c (Vw.c (Vw.c (Vw.c (Vw.c (Vw.c Vw.refl))))))))))))))))))
 refine zd q q c12 (w_laws_markHouse w432 _ v96 x91.1.1 cs97 F98 v99 x91.1.2.1 v100 x91.1.2.2.1 x91.1.2.2.2.1 v101 x91.1.2.2.2.2 cs102 F103 1 x438 hx439 V444) (by rfl) ?_
 rintro _ w445 ⟨cs447, F448, cs449, F450, rfl, H446⟩; refine ⟨_, q, ?_⟩
 have H451 := H443.cV4 [_, _, _, _] H446 (zc Pure.dp (zc (Pure.sl q) (zc (Pure.sl q) (zc Pure.dp all_nil))))
 refine qA q q q <| rN <| qA q q q <| B <| C <| zk ?_
 have hB452 := R H451.p17
 refine zm (cs := [v96, v99, v100, iV x91.1.2.2.2.1, v101]) us31 uo31 il31 hB452 q q q ?_
 change XL _ _ _ _ _ ((86, .agg #[v96, v99, v100, iV x91.1.2.2.2.1, v101]) :: _) _
 refine qM q q q ?_
 obtain ⟨x453, hx454, h⟩ := D h
 refine QC q q c13 (fun w' hb => w_laws_heldHouse w' _ v96 x438.1 hR0 v99 x438.2.1 hS1 v100 x438.2.2.1 hS2 x91.1.2.2.2.1 v101 x438.2.2.2.1 hR3 1 x453 hx454 ((H451.grow hb).viewG (Vw.d (Vw.c (Vw.c (Vw.d (Vw.c (Vw.d (Vw.c (Vw.c (Vw.d (Vw.c (Vw.c (Vw.c (Vw.c (Vw.c (Vw.c (Vw.c (Vw.c (Vw.c Vw.refl)))))))))))))))))))) (by rfl) <| qA q q q <| QL_nil fun a ha w455 hb456 => ?_
 have H457 := H451.grow hb456
 refine X (S ?_ ha)
 refine C <| rR <| qM q q q <| A q (qt_lss q q) q q <| B ?_
 refine Y q (fun hc458 => ?_) (fun hc458 => ?_)
 ·have h := if_t hc458 h
  refine rR <| qA q q q <| B <| W fun a ha => ?_
  obtain rfl := L h
  have H459 := H457.q0.q0.q0.q0.q0.q0.q0.q0.q0.q0.q0.q0.q0.q0.q0.q0.q0.q0
  exact m (ret1 q ha q ⟨q, H459⟩)
 have h := if_f hc458 h
 refine y <| C <| rR <| qM q q q <| qM q q q <| A q (qt_neq q q) q q <| B ?_
 refine Y q (fun hc460 => ?_) (fun hc460 => ?_)
 ·have h := if_t hc460 h
  refine rR <| qA q q q <| B <| W fun a ha => ?_
  obtain rfl := L h
  have H461 := H457.q0.q0.q0.q0.q0.q0.q0.q0.q0.q0.q0.q0.q0.q0.q0.q0.q0.q0
  exact m (ret1 q ha q ⟨q, H461⟩)
 have h := if_f hc460 h
 refine y <| C <| Z ?_
 have hB462 := R H457.p10
 refine zm (cs := [A0, A1, A2, iV B3, A4]) us26 uo26 il26 hB462 q q q ?_
 change XL _ _ _ _ _ ((95, .agg #[A0, A1, A2, iV B3, A4]) :: _) _
 obtain ⟨x463, hx464, h⟩ := D h
 have V465 := H457.viewG (Vw.d (Vw.c (Vw.c (Vw.d (Vw.c (Vw.d (Vw.c (Vw.c (Vw.d (Vw.c (Vw.c (Vw.c (Vw.c (Vw.c (Vw.c (Vw.c (Vw.c (Vw.c Vw.refl))))))))))))))))))
 refine zd q q c9 (w_laws_toHouse w455 _ A0 B0 (C0.c.c.c.c.c.c.c.c.c.c.c.c.c.c.c.c.c.c) A1 B1 (C1.c.c.c.c.c.c.c.c.c.c.c.c.c.c.c.c.c.c) A2 B2 (C2.c.c.c.c.c.c.c.c.c.c.c.c.c.c.c.c.c.c) B3 A4 B4 (C4.c.c.c.c.c.c.c.c.c.c.c.c.c.c.c.c.c.c) x463 hx464 V465) (by rfl) ?_
 rintro _ w466 ⟨v468, cs469, F470, v471, v472, v473, cs474, F475, rfl, H467⟩; refine ⟨_, q, ?_⟩
 have H476 := H457.cV4 [] H467 (zc Pure.dp (zc (Pure.sl q) (zc (Pure.sl q) (zc Pure.dp all_nil))))
 refine qM q q q ?_
 obtain ⟨x477, hx478, h⟩ := D h
 have V479 := H476.viewG (Vw.d (Vw.c (Vw.c (Vw.d (Vw.d (Vw.c (Vw.c (Vw.d (Vw.c (Vw.d (Vw.c (Vw.c (Vw.d (Vw.c (Vw.c (Vw.c (Vw.c (Vw.c (Vw.c (Vw.c (Vw.c (Vw.c Vw.refl))))))))))))))))))))))
 refine zd q q c26 (w_laws_toHouseDeedS w466 _ vp1 p1 (hp1.c.c.c.c.c.c.c.c.c.c.c.c.c.c.c.c.c.c.c.c.c.c) x477 hx478 V479) (by rfl) ?_
 rintro _ w480 ⟨v482, rfl, H481⟩; refine ⟨_, q, ?_⟩
 have H483 := H476.cV1 [] H481 (zc (Pure.sl q) all_nil)
 obtain ⟨x484, hx485, h⟩ := D h
 have V486 := H483.viewG (Vw.c (Vw.d (Vw.c (Vw.c (Vw.d (Vw.d (Vw.c (Vw.c (Vw.d (Vw.c (Vw.d (Vw.c (Vw.c (Vw.d (Vw.c (Vw.c (Vw.c (Vw.c (Vw.c (Vw.c (Vw.c (Vw.c (Vw.c Vw.refl)))))))))))))))))))))))
 refine zd q q c27 (w_impl_HouseRun w480 _ hGl.c.c.c.c.c.c.c.c.c.c.c.c.c.c.c.c.c.c.c.c.c.c.c v468 x463.1 hR1 v471 x463.2.1 hS2 v472 x463.2.2.1 hS3 x463.2.2.2.1 v473 x463.2.2.2.2 hR4 v482 x477 hS0 x484 hx485 V486) (by rfl) ?_
 rintro _ w487 ⟨v489, cs490, F491, v492, v493, v494, cs495, F496, rfl, H488⟩; refine ⟨_, q, ?_⟩
 have H497 := H483.cV4 [] H488 (zc Pure.dp (zc (Pure.sl q) (zc (Pure.sl q) (zc Pure.dp all_nil))))
 refine qM q q q <| A q (zv q q) q q <| A q (zv q q) q q ?_
 refine zq (cs := [nS, nS, nS, iV 0, nS]) H497 z31 q q q (fun b498 w499 H500 => ?_)
 have V504 := H500.viewG (Vw.c (Vw.d (Vw.c (Vw.c (Vw.d (Vw.c (Vw.d (Vw.c (Vw.c (Vw.d (Vw.d (Vw.c (Vw.c (Vw.d (Vw.c (Vw.d (Vw.c (Vw.c (Vw.d (Vw.c (Vw.c (Vw.c (Vw.c (Vw.c (Vw.c (Vw.c (Vw.c (Vw.c Vw.refl))))))))))))))))))))))))))))
 refine zl (cs' := [v489, v492, v493, iV x484.1.2.2.2.1, v494]) H500 q il31 q (T (V504.sliceOne hR1) (T (V504.sliceOne hS2) (T (V504.sliceOne hS3) (T q (T (V504.sliceOne hR4) q))))) q q q (fun w502 H503 => ?_)
 refine qA q q q <| B <| C <| C <| zk ?_
 have hB506 := R H503.p0
 refine zm (cs := [v489, v492, v493, iV x484.1.2.2.2.1, v494]) us31 uo31 il31 hB506 q q q ?_
 change XL _ _ _ _ _ ((102, .agg #[v489, v492, v493, iV x484.1.2.2.2.1, v494]) :: _) _
 have hB507 := R H503.p21
 refine zm (cs := [v49, v50, v51, iV x41.1.2.2.2.1, v52]) us31 uo31 il31 hB507 q q q ?_
 change XL _ _ _ _ _ ((103, .agg #[v49, v50, v51, iV x41.1.2.2.2.1, v52]) :: _) _
 obtain ⟨x508, hx509, h⟩ := D h
 refine QC q q c11 (fun w' hb => w_laws_eqHouse w' _ v489 x484.1.1 hR1 v492 x484.1.2.1 hS2 v493 x484.1.2.2.1 hS3 x484.1.2.2.2.1 v494 x484.1.2.2.2.2 hR4 v49 x41.1.1 (Has.c (Has.c (Has.c hS19))) v50 x41.1.2.1 (Has.c (Has.c (Has.c (Has.c hS19)))) v51 x41.1.2.2.1 (Has.c (Has.c (Has.c (Has.c (Has.c hS19))))) x41.1.2.2.2.1 v52 x41.1.2.2.2.2 (Has.c (Has.c (Has.c (Has.c (Has.c (Has.c hS19)))))) x508 hx509 ((H503.grow hb).viewG (Vw.c (Vw.d (Vw.c (Vw.c (Vw.d (Vw.c (Vw.d (Vw.c (Vw.c (Vw.d (Vw.d (Vw.c (Vw.c (Vw.d (Vw.c (Vw.d (Vw.c (Vw.c (Vw.d (Vw.c (Vw.c (Vw.c (Vw.c (Vw.c (Vw.c (Vw.c (Vw.c (Vw.c Vw.refl)))))))))))))))))))))))))))))) (by rfl) <| A q (qt_not q) q q <| qM q q q ?_
 refine zh 4 110 (.bool ((!x508) || (x484.2 != x41.2))) ?_ (fun md hmd hk => ?_)
 rotate_left
 ·obtain ⟨K, rfl⟩ := zr hmd
  rcases btf (!x508) with hc510 | hc510
  ·skip
   refine qS q hc510 q q <| qS q hc510 q q <| qS q hc510 q q <| A q (ze q hc510 q) q q ?_
   exact hk _ (p (by rw [hc510]; rfl) (cfn 3 q (u)))
  skip
  refine qM (J q hc510) q q <| qM (J q hc510) q q <| A (J q hc510) (qt_neq q q) q q <| A q (zf q hc510 q) q q ?_
  exact hk _ (p (by rw [hc510]; rfl) (cfn 3 q (u)))
 refine QL_nil fun a ha w511 hb512 => ?_
 have H513 := H503.grow hb512
 refine X (S ?_ ha)
 refine Y q (fun hc514 => ?_) (fun hc514 => ?_)
 ·have h := if_t hc514 h
  refine rR <| qA q q q <| B <| W fun a ha => ?_
  obtain rfl := L h
  have H515 := H513.q0.q0.q0.q0.q0.q0.q0.q0.q0.q0.q0.q0.q0.q0.q0.q0.q0.q0.q0.q0.q0.q0.q0.q0.q0.q0.q0.q0
  exact m (ret1 q ha q ⟨q, H515⟩)
 have h := if_f hc514 h
 refine y <| rR <| qA q q q <| B <| C <| zk ?_
 have hB516 := R H513.p27
 refine zm (cs := [v96, v99, v100, iV x91.1.2.2.2.1, v101]) us31 uo31 il31 hB516 q q q ?_
 change XL _ _ _ _ _ ((111, .agg #[v96, v99, v100, iV x91.1.2.2.2.1, v101]) :: _) _
 refine qM q q q ?_
 obtain ⟨x517, hx518, h⟩ := D h
 refine QC q q c13 (fun w' hb => w_laws_heldHouse w' _ v96 x438.1 hR10 v99 x438.2.1 hS11 v100 x438.2.2.1 hS12 x91.1.2.2.2.1 v101 x438.2.2.2.1 hR13 1 x517 hx518 ((H513.grow hb).viewG (Vw.c (Vw.d (Vw.c (Vw.c (Vw.d (Vw.c (Vw.d (Vw.c (Vw.c (Vw.d (Vw.d (Vw.c (Vw.c (Vw.d (Vw.c (Vw.d (Vw.c (Vw.c (Vw.d (Vw.c (Vw.c (Vw.c (Vw.c (Vw.c (Vw.c (Vw.c (Vw.c (Vw.c Vw.refl)))))))))))))))))))))))))))))) (by rfl) <| qA q q q <| QL_nil fun a ha w519 hb520 => ?_
 have H521 := H513.grow hb520
 refine X (S ?_ ha)
 refine C <| rR <| qM q q q <| A q (qt_lss q q) q q <| B ?_
 refine Y q (fun hc522 => ?_) (fun hc522 => ?_)
 ·have h := if_t hc522 h
  refine rR <| qA q q q <| B <| W fun a ha => ?_
  obtain rfl := L h
  have H523 := H521.q0.q0.q0.q0.q0.q0.q0.q0.q0.q0.q0.q0.q0.q0.q0.q0.q0.q0.q0.q0.q0.q0.q0.q0.q0.q0.q0.q0
  exact m (ret1 q ha q ⟨q, H523⟩)
 have h := if_f hc522 h
 refine y <| C <| rR <| qM q q q <| qM q q q <| A q (qt_neq q q) q q <| B ?_
 refine Y q (fun hc524 => ?_) (fun hc524 => ?_)
 ·have h := if_t hc524 h
  refine rR <| qA q q q <| B <| W fun a ha => ?_
  obtain rfl := L h
  have H525 := H521.q0.q0.q0.q0.q0.q0.q0.q0.q0.q0.q0.q0.q0.q0.q0.q0.q0.q0.q0.q0.q0.q0.q0.q0.q0.q0.q0.q0
  exact m (ret1 q ha q ⟨q, H525⟩)
 have h := if_f hc524 h
 refine y <| rR <| qA q q q <| B <| W fun a ha => ?_
 obtain rfl := L h
 have H526 := H521.q0.q0.q0.q0.q0.q0.q0.q0.q0.q0.q0.q0.q0.q0.q0.q0.q0.q0.q0.q0.q0.q0.q0.q0.q0.q0.q0.q0
 exact ret1 q ha q ⟨q, H526⟩
end Go.Proofs.YtcjkbcdlpfgbgaaGreatDoor
