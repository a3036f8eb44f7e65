/- The walks: each Go function computes its shallow function. Printed by a program. -/
import Derived.Test.YtcjkbcdlpfgbgaaGreatDoorWX7H7
set_option linter.unusedVariables false
set_option maxRecDepth 10000
namespace Go.Proofs.YtcjkbcdlpfgbgaaGreatDoor
open Go Go.RowKit
theorem w_impl_HouseDo (w : World) (G : List Res) (hGl : Glob G) (A0 : Value) (B0 : LI) (C0 : Has G ty10 A0 B0) (A1 : Value) (B1 : List Int) (C1 : Has G tI A1 B1) (A2 : Value) (B2 : List Int) (C2 : Has G tI A2 B2) (B3 : Int) (A4 : Value) (B4 : LT) (C4 : Has G ty12 A4 B4) (p1_0 : Int) (p1_1 : Int) (p1_2 : Int) (p1_3 : Int) (r : (LI × (List Int) × (List Int) × Int × LT) × Bool) (h : impl_HouseDoS B0 B1 B2 B3 B4 p1_0 p1_1 p1_2 p1_3 = some r) (H : Ctx w G) : Calls Tryz.prog 23 #[.agg #[A0, A1, A2, iV B3, A4], .agg #[iV p1_0, iV p1_1, iV p1_2, iV p1_3]] w fun e w' => ∃ (v1 : Value) (csv1 : List Value) (Fv1 : List Nat) (v4 : Value) (v5 : Value) (v6 : Value) (csv6 : List Value) (Fv6 : List Nat), e = .returned (.tuple #[.agg #[v1, v4, v5, iV r.1.2.2.2.1, v6], .bool r.2]) ∧ Holds M0 w w' [dpR 115 dt13 v1 csv1 r.1.1 Fv1, .sl 3 tI v4 r.1.2.1, .sl 3 tI v5 r.1.2.2.1, dpR 89 dt14 v6 csv6 r.1.2.2.2.2 Fv6] G := by
 have H : Holds M0 w w [] G := zb H
 refine zg (args := [.agg #[A0, A1, A2, iV B3, A4], .agg #[iV p1_0, iV p1_1, iV p1_2, iV p1_3]]) (n := 72) Tryz.func23 q q q ?_
 unfold impl_HouseDoS at h
 refine C <| Z ?_
 refine WL_box (cs := [A0, A1, A2, iV B3, A4]) H q q q q (fun b1 w2 H3 => ?_)
 refine WL_box (cs := [iV p1_0, iV p1_1, iV p1_2, iV p1_3]) H3 q q q q (fun b5 w6 H7 => ?_)
 refine zq (cs := [nS, nS, nS, iV 0, nS]) H7 z31 q q q (fun b9 w10 H11 => ?_)
 refine qA q q q <| B <| C <| C <| zk ?_
 have hB13 := R H11.p2
 refine zm (cs := [A0, A1, A2, iV B3, A4]) us31 uo31 il31 hB13 q q q ?_
 change XL _ _ _ _ _ ((8, .agg #[A0, A1, A2, iV B3, A4]) :: _) _
 obtain ⟨x14, hx15, h⟩ := D h
 refine QC q q c48 (fun w' hb => w_impl_HouseValid w' _ A0 B0 (C0.c.c.c) A1 B1 (C1.c.c.c) A2 B2 (C2.c.c.c) B3 A4 B4 (C4.c.c.c) x14 hx15 (H11.grow hb).ctx) (by rfl) <| A q (qt_not q) q q <| QL_nil fun a ha w16 hb17 => ?_
 have H18 := H11.grow hb17
 refine X (S ?_ ha)
 refine Y q (fun hc19 => ?_) (fun hc19 => ?_)
 ·have h := if_t hc19 h
  refine rR <| A q (qt_build (args := []) (css := []) (cells := #[nS, nS, nS, iV 0, nS]) q trivial (by kernel_rfl)) q q ?_
  refine zl (cs' := [nS, nS, nS, iV 0, nS]) H18 q il31 q q q q q (fun w20 H21 => ?_)
  refine qA q q q <| B <| W fun a ha => ?_
  obtain rfl := L h
  have hB23 := R H21.p0
  have H24 := H21.nD 115 dt13
  have H25 := H24.nS 3 tI
  have H26 := H25.nS 3 tI
  have H27 := H26.nD 89 dt14
  have H28 := H27.q4.q4.q4.p1.p2.p3
  exact m (retct q ha q q (run_loadVar_bx (cs := [nS, nS, nS, iV 0, nS]) us31 uo31 il31 hB23) ⟨(nS), [], [], (nS), (nS), (nS), [], [], q, H28⟩)
 have h := if_f hc19 h
 refine y <| C <| C <| zk ?_
 have hB29 := R H18.p1
 refine zm (cs := [iV p1_0, iV p1_1, iV p1_2, iV p1_3]) us49 uo49 il49 hB29 q q q ?_
 change XL _ _ _ _ _ ((12, .agg #[iV p1_0, iV p1_1, iV p1_2, iV p1_3]) :: _) _
 obtain ⟨x30, hx31, h⟩ := D h
 refine QC q q c68 (fun w' hb => w_impl_onlyNamed w' _ hGl.c.c.c p1_0 p1_1 p1_2 p1_3 x30 hx31 (H18.grow hb).ctx) (by rfl) <| A q (qt_not q) q q <| QL_nil fun a ha w32 hb33 => ?_
 have H34 := H18.grow hb33
 refine X (S ?_ ha)
 refine Y q (fun hc35 => ?_) (fun hc35 => ?_)
 ·have h := if_t hc35 h
  refine C <| Z ?_
  have hB36 := R H34.p2
  refine zm (cs := [A0, A1, A2, iV B3, A4]) us31 uo31 il31 hB36 q q q ?_
  change XL _ _ _ _ _ ((15, .agg #[A0, A1, A2, iV B3, A4]) :: _) _
  obtain ⟨x37, hx38, h⟩ := D h
  refine zd q q c51 (w_impl_copyHouse w32 _ A0 B0 (C0.c.c.c) A1 B1 (C1.c.c.c) A2 B2 (C2.c.c.c) B3 A4 B4 (C4.c.c.c) x37 hx38 H34.ctx) (by rfl) ?_
  rintro _ w39 ⟨v41, cs42, F43, v44, v45, v46, cs47, F48, rfl, H40⟩; refine ⟨_, q, ?_⟩
  have H49 := H34.cN4 [] H40
  have H50 := H49.p4
  have V53 := H50.viewG (Vw.c (Vw.d (Vw.c (Vw.c (Vw.d (Vw.c (Vw.c Vw.refl)))))))
  refine zl (cs' := [v41, v44, v45, iV x37.2.2.2.1, v46]) H50 q il31 q (T (V53.sliceOne hR1) (T (V53.sliceOne hS2) (T (V53.sliceOne hS3) (T q (T (V53.sliceOne hR4) q))))) q q q (fun w51 H52 => ?_)
  refine qA q q q <| B <| W fun a ha => ?_
  obtain rfl := L h
  have hB55 := R H52.p0
  have H56 := H52.q0.q4.q4.p3.p3.p3.p3
  exact m (retct q ha q q (run_loadVar_bx (cs := [v41, v44, v45, iV x37.2.2.2.1, v46]) us31 uo31 il31 hB55) ⟨v41, cs42, F43, v44, v45, v46, cs47, F48, q, H56⟩)
 have h := if_f hc35 h
 refine y <| C <| Z ?_
 have hB57 := R H34.p2
 refine zm (cs := [A0, A1, A2, iV B3, A4]) us31 uo31 il31 hB57 q q q ?_
 change XL _ _ _ _ _ ((17, .agg #[A0, A1, A2, iV B3, A4]) :: _) _
 obtain ⟨x58, hx59, h⟩ := D h
 refine zd q q c51 (w_impl_copyHouse w32 _ A0 B0 (C0.c.c.c) A1 B1 (C1.c.c.c) A2 B2 (C2.c.c.c) B3 A4 B4 (C4.c.c.c) x58 hx59 H34.ctx) (by rfl) ?_
 rintro _ w60 ⟨v62, cs63, F64, v65, v66, v67, cs68, F69, rfl, H61⟩; refine ⟨_, q, ?_⟩
 have H70 := H34.cN4 [] H61
 refine zq (cs := [nS, nS, nS, iV 0, nS]) H70 z31 q q q (fun b71 w72 H73 => ?_)
 have V77 := H73.viewG (Vw.c (Vw.d (Vw.c (Vw.c (Vw.d (Vw.c (Vw.c (Vw.c Vw.refl))))))))
 refine zl (cs' := [v62, v65, v66, iV x58.2.2.2.1, v67]) H73 q il31 q (T (V77.sliceOne hR1) (T (V77.sliceOne hS2) (T (V77.sliceOne hS3) (T q (T (V77.sliceOne hR4) q))))) q q q (fun w75 H76 => ?_)
 refine rN <| qA q q q <| B <| C <| rR <| qF uf49 fi49_0 nz3 q q q ?_
 have hB79 := R H76.p6
 refine l u3 q hB79 q q q q <| B <| g <| rR <| A q (qt_eql q q) q q <| qA q q q <| B ?_
 refine Y q (fun hc80 => ?_) (fun hc80 => ?_)
 ·have h := if_t hc80 h
  refine Z <| qF uf49 fi49_1 nz3 q q q ?_
  have hB81 := R H76.p6
  refine l u3 q hB81 q q q q <| qF uf49 fi49_2 nz3 q q q ?_
  have hB82 := R H76.p6
  refine l u3 q hB82 q q q q ?_
  have H85 := H76.p4
  have H86 := H85.p4
  have H87 := H86.p4
  have H88 := H87.p4
  have H89 := H88.p4
  obtain ⟨x83, hx84, h⟩ := D h
  refine zd q q c69 (w_impl_doBuy w75 _ b71 v62 x58.1 cs63 F64 v65 x58.2.1 v66 x58.2.2.1 x58.2.2.2.1 v67 x58.2.2.2.2 cs68 F69 p1_1 p1_2 x83 hx84 H89.ctx) (by rfl) ?_
  rintro _ w90 ⟨rfl, H91⟩; refine ⟨_, q, ?_⟩
  have H92 := H89.cN5 [_, _, _, _, _] H91
  refine qA q q q <| WL_nil fun a ha => ?_
  refine zi (X (S ?_ ha))
  refine C <| C <| zk <| qM q q q <| A q (qt_not q) q q <| qM q q q ?_
  obtain ⟨b93, hg94, h⟩ := D h
  refine zh 4 68 (.bool b93) ?_ (fun md hmd hk => ?_)
  rotate_left
  ·obtain ⟨K, rfl⟩ := zr hmd
   rcases btf (!x83.2.2) with hc95 | hc95
   ·skip
    refine qS q hc95 q q <| qS q hc95 q q <| qS q hc95 q q <| A q (ze q hc95 q) q q ?_
    exact hk _ (p (vb (if_t hc95 hg94)) (cfn 3 q (u)))
   skip
   have hg94 := if_f hc95 hg94
   have hB96 := R H92.p0
   refine zm (cs := [v62, v65, v66, iV x83.2.1, v67]) us31 uo31 il31 hB96 (J q hc95) q q ?_
   change XL _ _ _ _ _ ((65, .agg #[v62, v65, v66, iV x83.2.1, v67]) :: _) _
   obtain ⟨x97, hx98, hg94⟩ := D hg94
   refine QC (J q hc95) q c48 (fun w' hb => w_impl_HouseValid w' _ v62 x58.1 hR1 v65 x58.2.1 hS2 v66 x83.1 hS3 x83.2.1 v67 x58.2.2.2.2 hR4 x97 hx98 ((H92.grow hb).viewG (Vw.c (Vw.d (Vw.c (Vw.c (Vw.d (Vw.c (Vw.c (Vw.c Vw.refl)))))))))) (by rfl) <| A (J q hc95) (qt_not q) q q <| A q (zf q hc95 q) q q ?_
   exact hk _ (p (vb hg94) (cfn 3 q (u)))
  refine QL_nil fun a ha w99 hb100 => ?_
  have H101 := H92.grow hb100
  refine X (S ?_ ha)
  refine Y q (fun hc102 => ?_) (fun hc102 => ?_)
  ·have h := if_t hc102 h
   refine C <| Z ?_
   have hB103 := R H101.p7
   refine zm (cs := [A0, A1, A2, iV B3, A4]) us31 uo31 il31 hB103 q q q ?_
   change XL _ _ _ _ _ ((69, .agg #[A0, A1, A2, iV B3, A4]) :: _) _
   obtain ⟨x104, hx105, h⟩ := D h
   have V106 := H101.viewG (Vw.c (Vw.d (Vw.c (Vw.c (Vw.d (Vw.c (Vw.c (Vw.c Vw.refl))))))))
   refine zd q q c51 (w_impl_copyHouse w99 _ A0 B0 (C0.c.c.c.c.c.c.c.c) A1 B1 (C1.c.c.c.c.c.c.c.c) A2 B2 (C2.c.c.c.c.c.c.c.c) B3 A4 B4 (C4.c.c.c.c.c.c.c.c) x104 hx105 V106) (by rfl) ?_
   rintro _ w107 ⟨v109, cs110, F111, v112, v113, v114, cs115, F116, rfl, H108⟩; refine ⟨_, q, ?_⟩
   have H117 := H101.cV4 [] H108 (zc Pure.dp (zc (Pure.sl q) (zc (Pure.sl q) (zc Pure.dp all_nil))))
   have H118 := H117.p9
   have V121 := H118.viewG (Vw.c (Vw.d (Vw.c (Vw.c (Vw.d (Vw.c (Vw.d (Vw.c (Vw.c (Vw.d (Vw.c (Vw.c Vw.refl))))))))))))
   refine zl (cs' := [v109, v112, v113, iV x104.2.2.2.1, v114]) H118 q il31 q (T (V121.sliceOne hR1) (T (V121.sliceOne hS2) (T (V121.sliceOne hS3) (T q (T (V121.sliceOne hR4) q))))) q q q (fun w119 H120 => ?_)
   refine qA q q q <| B <| W fun a ha => ?_
   obtain rfl := L h
   have hB123 := R H120.p0
   have H124 := H120.q0.q4.q4.q4.q4.q4.q4.q4.p3.p3.p3.p3
   exact m (retct q ha q q (run_loadVar_bx (cs := [v109, v112, v113, iV x104.2.2.2.1, v114]) us31 uo31 il31 hB123) ⟨v109, cs110, F111, v112, v113, v114, cs115, F116, q, H124⟩)
  have h := if_f hc102 h
  refine y <| C <| Z ?_
  have hB125 := R H101.p0
  refine zm (cs := [v62, v65, v66, iV x83.2.1, v67]) us31 uo31 il31 hB125 q q q ?_
  change XL _ _ _ _ _ ((71, .agg #[v62, v65, v66, iV x83.2.1, v67]) :: _) _
  have H126 := H101.p5
  have V129 := H126.viewG (Vw.c (Vw.c (Vw.d (Vw.c (Vw.c (Vw.d (Vw.c (Vw.c Vw.refl))))))))
  refine zl (cs' := [v62, v65, v66, iV x83.2.1, v67]) H126 q il31 q (T (V129.sliceOne hR2) (T (V129.sliceOne hS3) (T (V129.sliceOne hS4) (T q (T (V129.sliceOne hR5) q))))) q q q (fun w127 H128 => ?_)
  refine qA q q q <| B <| W fun a ha => ?_
  obtain rfl := L h
  have hB131 := R H128.p0
  have H132 := H128.q0.q0.q4.q4.p3.p3.p3.p3
  exact retct q ha q q (run_loadVar_bx (cs := [v62, v65, v66, iV x83.2.1, v67]) us31 uo31 il31 hB131) ⟨v62, cs63, F64, v65, v66, v67, cs68, F69, q, H132⟩
 have h := if_f hc80 h
 refine rR <| A q (qt_eql q q) q q <| qA q q q <| B ?_
 refine Y q (fun hc133 => ?_) (fun hc133 => ?_)
 ·have h := if_t hc133 h
  refine Z <| qF uf49 fi49_1 nz3 q q q ?_
  have hB134 := R H76.p6
  refine l u3 q hB134 q q q q <| qF uf49 fi49_2 nz3 q q q ?_
  have hB135 := R H76.p6
  refine l u3 q hB135 q q q q ?_
  have H138 := H76.p4
  have H139 := H138.p4
  have H140 := H139.p4
  have H141 := H140.p4
  have H142 := H141.p4
  obtain ⟨x136, hx137, h⟩ := D h
  refine zd q q c70 (w_impl_doMake w75 _ b71 v62 x58.1 cs63 F64 v65 x58.2.1 v66 x58.2.2.1 x58.2.2.2.1 v67 x58.2.2.2.2 cs68 F69 p1_1 p1_2 x136 hx137 H142.ctx) (by rfl) ?_
  rintro _ w143 ⟨v145, rfl, H144⟩; refine ⟨_, q, ?_⟩
  have H146 := H142.cN5 [_, _, _, _, _] H144
  refine qA q q q <| WL_nil fun a ha => ?_
  refine zi (X (S ?_ ha))
  refine C <| C <| zk <| qM q q q <| A q (qt_not q) q q <| qM q q q ?_
  obtain ⟨b147, hg148, h⟩ := D h
  refine zh 4 68 (.bool b147) ?_ (fun md hmd hk => ?_)
  rotate_left
  ·obtain ⟨K, rfl⟩ := zr hmd
   rcases btf (!x136.2) with hc149 | hc149
   ·skip
    refine qS q hc149 q q <| qS q hc149 q q <| qS q hc149 q q <| A q (ze q hc149 q) q q ?_
    exact hk _ (p (vb (if_t hc149 hg148)) (cfn 3 q (u)))
   skip
   have hg148 := if_f hc149 hg148
   have hB150 := R H146.p0
   refine zm (cs := [v62, v65, v145, iV x58.2.2.2.1, v67]) us31 uo31 il31 hB150 (J q hc149) q q ?_
   change XL _ _ _ _ _ ((65, .agg #[v62, v65, v145, iV x58.2.2.2.1, v67]) :: _) _
   obtain ⟨x151, hx152, hg148⟩ := D hg148
   refine QC (J q hc149) q c48 (fun w' hb => w_impl_HouseValid w' _ v62 x58.1 hR1 v65 x58.2.1 hS2 v145 x136.1 hS3 x58.2.2.2.1 v67 x58.2.2.2.2 hR4 x151 hx152 ((H146.grow hb).viewG (Vw.c (Vw.d (Vw.c (Vw.c (Vw.d (Vw.c (Vw.c (Vw.c Vw.refl)))))))))) (by rfl) <| A (J q hc149) (qt_not q) q q <| A q (zf q hc149 q) q q ?_
   exact hk _ (p (vb hg148) (cfn 3 q (u)))
  refine QL_nil fun a ha w153 hb154 => ?_
  have H155 := H146.grow hb154
  refine X (S ?_ ha)
  refine Y q (fun hc156 => ?_) (fun hc156 => ?_)
  ·have h := if_t hc156 h
   refine C <| Z ?_
   have hB157 := R H155.p7
   refine zm (cs := [A0, A1, A2, iV B3, A4]) us31 uo31 il31 hB157 q q q ?_
   change XL _ _ _ _ _ ((69, .agg #[A0, A1, A2, iV B3, A4]) :: _) _
   obtain ⟨x158, hx159, h⟩ := D h
   have V160 := H155.viewG (Vw.c (Vw.d (Vw.c (Vw.c (Vw.d (Vw.c (Vw.c (Vw.c Vw.refl))))))))
   refine zd q q c51 (w_impl_copyHouse w153 _ A0 B0 (C0.c.c.c.c.c.c.c.c) A1 B1 (C1.c.c.c.c.c.c.c.c) A2 B2 (C2.c.c.c.c.c.c.c.c) B3 A4 B4 (C4.c.c.c.c.c.c.c.c) x158 hx159 V160) (by rfl) ?_
   rintro _ w161 ⟨v163, cs164, F165, v166, v167, v168, cs169, F170, rfl, H162⟩; refine ⟨_, q, ?_⟩
   have H171 := H155.cV4 [] H162 (zc Pure.dp (zc (Pure.sl q) (zc (Pure.sl q) (zc Pure.dp all_nil))))
   have H172 := H171.p9
   have V175 := H172.viewG (Vw.c (Vw.d (Vw.c (Vw.c (Vw.d (Vw.c (Vw.d (Vw.c (Vw.c (Vw.d (Vw.c (Vw.c Vw.refl))))))))))))
   refine zl (cs' := [v163, v166, v167, iV x158.2.2.2.1, v168]) H172 q il31 q (T (V175.sliceOne hR1) (T (V175.sliceOne hS2) (T (V175.sliceOne hS3) (T q (T (V175.sliceOne hR4) q))))) q q q (fun w173 H174 => ?_)
   refine qA q q q <| B <| W fun a ha => ?_
   obtain rfl := L h
   have hB177 := R H174.p0
   have H178 := H174.q0.q4.q4.q4.q4.q4.q4.q4.p3.p3.p3.p3
   exact m (retct q ha q q (run_loadVar_bx (cs := [v163, v166, v167, iV x158.2.2.2.1, v168]) us31 uo31 il31 hB177) ⟨v163, cs164, F165, v166, v167, v168, cs169, F170, q, H178⟩)
  have h := if_f hc156 h
  refine y <| C <| Z ?_
  have hB179 := R H155.p0
  refine zm (cs := [v62, v65, v145, iV x58.2.2.2.1, v67]) us31 uo31 il31 hB179 q q q ?_
  change XL _ _ _ _ _ ((71, .agg #[v62, v65, v145, iV x58.2.2.2.1, v67]) :: _) _
  have H180 := H155.p5
  have V183 := H180.viewG (Vw.c (Vw.c (Vw.d (Vw.c (Vw.c (Vw.d (Vw.c (Vw.c Vw.refl))))))))
  refine zl (cs' := [v62, v65, v145, iV x58.2.2.2.1, v67]) H180 q il31 q (T (V183.sliceOne hR2) (T (V183.sliceOne hS3) (T (V183.sliceOne hS4) (T q (T (V183.sliceOne hR5) q))))) q q q (fun w181 H182 => ?_)
  refine qA q q q <| B <| W fun a ha => ?_
  obtain rfl := L h
  have hB185 := R H182.p0
  have H186 := H182.q0.q0.q4.q4.p3.p3.p3.p3
  exact retct q ha q q (run_loadVar_bx (cs := [v62, v65, v145, iV x58.2.2.2.1, v67]) us31 uo31 il31 hB185) ⟨v62, cs63, F64, v65, v145, v67, cs68, F69, q, H186⟩
 have h := if_f hc133 h
 refine rR <| A q (qt_eql q q) q q <| qA q q q <| B ?_
 refine Y q (fun hc187 => ?_) (fun hc187 => ?_)
 ·have h := if_t hc187 h
  refine rR <| qF uf31 fi31_4 nz29 q q q ?_
  have hB188 := R H76.p0
  refine l u29 q hB188 q q q q <| qF uf49 fi49_1 nz3 q q q ?_
  have hB189 := R H76.p6
  refine l u3 q hB189 q q q q <| A q (qt_build (args := [(0, .tmp 40)]) (css := [#[iV p1_1]]) (cells := #[iV p1_1, nS, nS]) q ⟨q, trivial⟩ (by kernel_rfl)) q q ?_
  refine WL_buildD (Rs := []) (d := dt14) (args := [.tmp 41]) (xs := ([(p1_1, [], [])] : LT)) H76 (DBltL.one (cs' := [iV p1_1, nS, nS]) (DBlt.cast (DBlt.pair (DBlt.int (k := .i64) (n := p1_1)) (DBlt.pair (DBlt.nil (e := 119) (d := dt3)) (DBlt.nil (e := 3) (d := (.leaf tI))))) q q) q) u29 j89 q q q q q q (fun v190 cs191 F192 w193 H194 => ?_)
  have H196 := H194.p5
  obtain ⟨x197, hx198, h⟩ := D h
  refine WL_appendD H196 hx198 u29 j89 q q q q q q (fun v199 cs200 F201 w202 H203 => ?_)
  refine qF uf31 fi31_4 nz29 q q q ?_
  have H205 := H203.p1
  have V208 := H205.viewG (Vw.c (Vw.d (Vw.d (Vw.c (Vw.c (Vw.c (Vw.c (Vw.c Vw.refl))))))))
  refine WL_store_bx H205 q il29 (V208.sliceCells hR1) (V208.sliceOne hR1) q q q (fun w206 H207 => ?_)
  refine B <| Z <| qA q q q <| WL_nil fun a ha => ?_
  refine zi (X (S ?_ ha))
  refine C <| C <| zk <| qM q q q <| A q (qt_not q) q q <| qM q q q ?_
  obtain ⟨b210, hg211, h⟩ := D h
  refine zh 4 68 (.bool b210) ?_ (fun md hmd hk => ?_)
  rotate_left
  ·obtain ⟨K, rfl⟩ := zr hmd
   rcases btf (!true) with hc212 | hc212
   ·skip
    refine qS q hc212 q q <| qS q hc212 q q <| qS q hc212 q q <| A q (ze q hc212 q) q q ?_
    exact hk _ (p (vb (if_t hc212 hg211)) (cfn 3 q (u)))
   skip
   have hg211 := if_f hc212 hg211
   have hB213 := R H207.p0
   refine zm (cs := [v62, v65, v66, iV x58.2.2.2.1, v199]) us31 uo31 il31 hB213 (J q hc212) q q ?_
   change XL _ _ _ _ _ ((65, .agg #[v62, v65, v66, iV x58.2.2.2.1, v199]) :: _) _
   obtain ⟨x214, hx215, hg211⟩ := D hg211
   refine QC (J q hc212) q c48 (fun w' hb => w_impl_HouseValid w' _ v62 x58.1 hR2 v65 x58.2.1 hS3 v66 x58.2.2.1 hS4 x58.2.2.2.1 v199 x197 hR1 x214 hx215 ((H207.grow hb).viewG (Vw.c (Vw.d (Vw.d (Vw.c (Vw.c (Vw.c (Vw.c (Vw.c Vw.refl)))))))))) (by rfl) <| A (J q hc212) (qt_not q) q q <| A q (zf q hc212 q) q q ?_
   exact hk _ (p (vb hg211) (cfn 3 q (u)))
  refine QL_nil fun a ha w216 hb217 => ?_
  have H218 := H207.grow hb217
  refine X (S ?_ ha)
  refine Y q (fun hc219 => ?_) (fun hc219 => ?_)
  ·have h := if_t hc219 h
   refine C <| Z ?_
   have hB220 := R H218.p7
   refine zm (cs := [A0, A1, A2, iV B3, A4]) us31 uo31 il31 hB220 q q q ?_
   change XL _ _ _ _ _ ((69, .agg #[A0, A1, A2, iV B3, A4]) :: _) _
   obtain ⟨x221, hx222, h⟩ := D h
   have V223 := H218.viewG (Vw.c (Vw.d (Vw.d (Vw.c (Vw.c (Vw.c (Vw.c (Vw.c Vw.refl))))))))
   refine zd q q c51 (w_impl_copyHouse w216 _ A0 B0 (C0.c.c.c.c.c.c.c.c) A1 B1 (C1.c.c.c.c.c.c.c.c) A2 B2 (C2.c.c.c.c.c.c.c.c) B3 A4 B4 (C4.c.c.c.c.c.c.c.c) x221 hx222 V223) (by rfl) ?_
   rintro _ w224 ⟨v226, cs227, F228, v229, v230, v231, cs232, F233, rfl, H225⟩; refine ⟨_, q, ?_⟩
   have H234 := H218.cV4 [] H225 (zc Pure.dp (zc (Pure.sl q) (zc (Pure.sl q) (zc Pure.dp all_nil))))
   have H235 := H234.p9
   have V238 := H235.viewG (Vw.c (Vw.d (Vw.c (Vw.c (Vw.d (Vw.c (Vw.d (Vw.d (Vw.c (Vw.c (Vw.c (Vw.c Vw.refl))))))))))))
   refine zl (cs' := [v226, v229, v230, iV x221.2.2.2.1, v231]) H235 q il31 q (T (V238.sliceOne hR1) (T (V238.sliceOne hS2) (T (V238.sliceOne hS3) (T q (T (V238.sliceOne hR4) q))))) q q q (fun w236 H237 => ?_)
   refine qA q q q <| B <| W fun a ha => ?_
   obtain rfl := L h
   have hB240 := R H237.p0
   have H241 := H237.q0.q4.q4.q4.q4.q4.q4.q4.p3.p3.p3.p3
   exact m (retct q ha q q (run_loadVar_bx (cs := [v226, v229, v230, iV x221.2.2.2.1, v231]) us31 uo31 il31 hB240) ⟨v226, cs227, F228, v229, v230, v231, cs232, F233, q, H241⟩)
  have h := if_f hc219 h
  refine y <| C <| Z ?_
  have hB242 := R H218.p0
  refine zm (cs := [v62, v65, v66, iV x58.2.2.2.1, v199]) us31 uo31 il31 hB242 q q q ?_
  change XL _ _ _ _ _ ((71, .agg #[v62, v65, v66, iV x58.2.2.2.1, v199]) :: _) _
  have H243 := H218.p5
  have V246 := H243.viewG (Vw.c (Vw.c (Vw.d (Vw.d (Vw.c (Vw.c (Vw.c (Vw.c Vw.refl))))))))
  refine zl (cs' := [v62, v65, v66, iV x58.2.2.2.1, v199]) H243 q il31 q (T (V246.sliceOne hR3) (T (V246.sliceOne hS4) (T (V246.sliceOne hS5) (T q (T (V246.sliceOne hR2) q))))) q q q (fun w244 H245 => ?_)
  refine qA q q q <| B <| W fun a ha => ?_
  obtain rfl := L h
  have hB248 := R H245.p0
  have H249 := H245.q0.q0.q4.q4.p3.p3.p3
  exact retct q ha q q (run_loadVar_bx (cs := [v62, v65, v66, iV x58.2.2.2.1, v199]) us31 uo31 il31 hB248) ⟨v62, cs63, F64, v65, v66, v199, cs200, F201, q, H249⟩
 have h := if_f hc187 h
 refine rR <| A q (qt_eql q q) q q <| qA q q q <| B ?_
 refine Y q (fun hc250 => ?_) (fun hc250 => ?_)
 ·have h := if_t hc250 h
  refine Z <| qF uf49 fi49_1 nz3 q q q ?_
  have hB251 := R H76.p6
  refine l u3 q hB251 q q q q <| qF uf49 fi49_2 nz3 q q q ?_
  have hB252 := R H76.p6
  refine l u3 q hB252 q q q q <| qF uf49 fi49_3 nz3 q q q ?_
  have hB253 := R H76.p6
  refine l u3 q hB253 q q q q ?_
  have H256 := H76.p4
  have H257 := H256.p4
  have H258 := H257.p4
  have H259 := H258.p4
  have H260 := H259.p4
  obtain ⟨x254, hx255, h⟩ := D h
  refine zd q q c71 (w_impl_doOrder w75 _ b71 v62 x58.1 cs63 F64 v65 x58.2.1 v66 x58.2.2.1 x58.2.2.2.1 v67 x58.2.2.2.2 cs68 F69 p1_1 p1_2 p1_3 x254 hx255 H260.ctx) (by rfl) ?_
  rintro _ w261 ⟨cs263, F264, rfl, H262⟩; refine ⟨_, q, ?_⟩
  have H265 := H260.cN5 [_, _, _, _, _] H262
  refine qA q q q <| WL_nil fun a ha => ?_
  refine zi (X (S ?_ ha))
  refine C <| C <| zk <| qM q q q <| A q (qt_not q) q q <| qM q q q ?_
  obtain ⟨b266, hg267, h⟩ := D h
  refine zh 4 68 (.bool b266) ?_ (fun md hmd hk => ?_)
  rotate_left
  ·obtain ⟨K, rfl⟩ := zr hmd
   rcases btf (!x254.2.2) with hc268 | hc268
   ·skip
    refine qS q hc268 q q <| qS q hc268 q q <| qS q hc268 q q <| A q (ze q hc268 q) q q ?_
    exact hk _ (p (vb (if_t hc268 hg267)) (cfn 3 q (u)))
   skip
   have hg267 := if_f hc268 hg267
   have hB269 := R H265.p0
   refine zm (cs := [v62, v65, v66, iV x58.2.2.2.1, v67]) us31 uo31 il31 hB269 (J q hc268) q q ?_
   change XL _ _ _ _ _ ((65, .agg #[v62, v65, v66, iV x58.2.2.2.1, v67]) :: _) _
   obtain ⟨x270, hx271, hg267⟩ := D hg267
   refine QC (J q hc268) q c48 (fun w' hb => w_impl_HouseValid w' _ v62 x58.1 hR1 v65 x58.2.1 hS2 v66 x254.1 hS3 x58.2.2.2.1 v67 x254.2.1 hR4 x270 hx271 ((H265.grow hb).viewG (Vw.c (Vw.d (Vw.c (Vw.c (Vw.d (Vw.c (Vw.c (Vw.c Vw.refl)))))))))) (by rfl) <| A (J q hc268) (qt_not q) q q <| A q (zf q hc268 q) q q ?_
   exact hk _ (p (vb hg267) (cfn 3 q (u)))
  refine QL_nil fun a ha w272 hb273 => ?_
  have H274 := H265.grow hb273
  refine X (S ?_ ha)
  refine Y q (fun hc275 => ?_) (fun hc275 => ?_)
  ·have h := if_t hc275 h
   refine C <| Z ?_
   have hB276 := R H274.p7
   refine zm (cs := [A0, A1, A2, iV B3, A4]) us31 uo31 il31 hB276 q q q ?_
   change XL _ _ _ _ _ ((69, .agg #[A0, A1, A2, iV B3, A4]) :: _) _
   obtain ⟨x277, hx278, h⟩ := D h
   have V279 := H274.viewG (Vw.c (Vw.d (Vw.c (Vw.c (Vw.d (Vw.c (Vw.c (Vw.c Vw.refl))))))))
   refine zd q q c51 (w_impl_copyHouse w272 _ A0 B0 (C0.c.c.c.c.c.c.c.c) A1 B1 (C1.c.c.c.c.c.c.c.c) A2 B2 (C2.c.c.c.c.c.c.c.c) B3 A4 B4 (C4.c.c.c.c.c.c.c.c) x277 hx278 V279) (by rfl) ?_
   rintro _ w280 ⟨v282, cs283, F284, v285, v286, v287, cs288, F289, rfl, H281⟩; refine ⟨_, q, ?_⟩
   have H290 := H274.cV4 [] H281 (zc Pure.dp (zc (Pure.sl q) (zc (Pure.sl q) (zc Pure.dp all_nil))))
   have H291 := H290.p9
   have V294 := H291.viewG (Vw.c (Vw.d (Vw.c (Vw.c (Vw.d (Vw.c (Vw.d (Vw.c (Vw.c (Vw.d (Vw.c (Vw.c Vw.refl))))))))))))
   refine zl (cs' := [v282, v285, v286, iV x277.2.2.2.1, v287]) H291 q il31 q (T (V294.sliceOne hR1) (T (V294.sliceOne hS2) (T (V294.sliceOne hS3) (T q (T (V294.sliceOne hR4) q))))) q q q (fun w292 H293 => ?_)
   refine qA q q q <| B <| W fun a ha => ?_
   obtain rfl := L h
   have hB296 := R H293.p0
   have H297 := H293.q0.q4.q4.q4.q4.q4.q4.q4.p3.p3.p3.p3
   exact m (retct q ha q q (run_loadVar_bx (cs := [v282, v285, v286, iV x277.2.2.2.1, v287]) us31 uo31 il31 hB296) ⟨v282, cs283, F284, v285, v286, v287, cs288, F289, q, H297⟩)
  have h := if_f hc275 h
  refine y <| C <| Z ?_
  have hB298 := R H274.p0
  refine zm (cs := [v62, v65, v66, iV x58.2.2.2.1, v67]) us31 uo31 il31 hB298 q q q ?_
  change XL _ _ _ _ _ ((71, .agg #[v62, v65, v66, iV x58.2.2.2.1, v67]) :: _) _
  have H299 := H274.p5
  have V302 := H299.viewG (Vw.c (Vw.c (Vw.d (Vw.c (Vw.c (Vw.d (Vw.c (Vw.c Vw.refl))))))))
  refine zl (cs' := [v62, v65, v66, iV x58.2.2.2.1, v67]) H299 q il31 q (T (V302.sliceOne hR2) (T (V302.sliceOne hS3) (T (V302.sliceOne hS4) (T q (T (V302.sliceOne hR5) q))))) q q q (fun w300 H301 => ?_)
  refine qA q q q <| B <| W fun a ha => ?_
  obtain rfl := L h
  have hB304 := R H301.p0
  have H305 := H301.q0.q0.q4.q4.p3.p3.p3.p3
  exact retct q ha q q (run_loadVar_bx (cs := [v62, v65, v66, iV x58.2.2.2.1, v67]) us31 uo31 il31 hB304) ⟨v62, cs63, F64, v65, v66, v67, cs263, F264, q, H305⟩
 have h := if_f hc250 h
 refine rR <| A q (qt_eql q q) q q <| qA q q q <| B ?_
 refine Y q (fun hc306 => ?_) (fun hc306 => ?_)
 ·have h := if_t hc306 h
  refine Z ?_
  have H309 := H76.p4
  have H310 := H309.p4
  have H311 := H310.p4
  have H312 := H311.p4
  have H313 := H312.p4
  obtain ⟨x307, hx308, h⟩ := D h
  refine zd q q c72 (w_impl_doWork w75 _ b71 v62 x58.1 cs63 F64 v65 x58.2.1 v66 x58.2.2.1 x58.2.2.2.1 v67 x58.2.2.2.2 cs68 F69 x307 hx308 H313.ctx) (by rfl) ?_
  rintro _ w314 ⟨cs316, F317, rfl, H315⟩; refine ⟨_, q, ?_⟩
  have H318 := H313.cN5 [_, _, _, _, _] H315
  refine qA q q q <| WL_nil fun a ha => ?_
  refine zi (X (S ?_ ha))
  refine C <| C <| zk <| qM q q q <| A q (qt_not q) q q <| qM q q q ?_
  obtain ⟨b319, hg320, h⟩ := D h
  refine zh 4 68 (.bool b319) ?_ (fun md hmd hk => ?_)
  rotate_left
  ·obtain ⟨K, rfl⟩ := zr hmd
   rcases btf (!x307.2) with hc321 | hc321
   ·skip
    refine qS q hc321 q q <| qS q hc321 q q <| qS q hc321 q q <| A q (ze q hc321 q) q q ?_
    exact hk _ (p (vb (if_t hc321 hg320)) (cfn 3 q (u)))
   skip
   have hg320 := if_f hc321 hg320
   have hB322 := R H318.p0
   refine zm (cs := [v62, v65, v66, iV x58.2.2.2.1, v67]) us31 uo31 il31 hB322 (J q hc321) q q ?_
   change XL _ _ _ _ _ ((65, .agg #[v62, v65, v66, iV x58.2.2.2.1, v67]) :: _) _
   obtain ⟨x323, hx324, hg320⟩ := D hg320
   refine QC (J q hc321) q c48 (fun w' hb => w_impl_HouseValid w' _ v62 x58.1 hR1 v65 x58.2.1 hS2 v66 x58.2.2.1 hS3 x58.2.2.2.1 v67 x307.1 hR4 x323 hx324 ((H318.grow hb).viewG (Vw.c (Vw.d (Vw.c (Vw.c (Vw.d (Vw.c (Vw.c (Vw.c Vw.refl)))))))))) (by rfl) <| A (J q hc321) (qt_not q) q q <| A q (zf q hc321 q) q q ?_
   exact hk _ (p (vb hg320) (cfn 3 q (u)))
  refine QL_nil fun a ha w325 hb326 => ?_
  have H327 := H318.grow hb326
  refine X (S ?_ ha)
  refine Y q (fun hc328 => ?_) (fun hc328 => ?_)
  ·have h := if_t hc328 h
   refine C <| Z ?_
   have hB329 := R H327.p7
   refine zm (cs := [A0, A1, A2, iV B3, A4]) us31 uo31 il31 hB329 q q q ?_
   change XL _ _ _ _ _ ((69, .agg #[A0, A1, A2, iV B3, A4]) :: _) _
   obtain ⟨x330, hx331, h⟩ := D h
   have V332 := H327.viewG (Vw.c (Vw.d (Vw.c (Vw.c (Vw.d (Vw.c (Vw.c (Vw.c Vw.refl))))))))
   refine zd q q c51 (w_impl_copyHouse w325 _ A0 B0 (C0.c.c.c.c.c.c.c.c) A1 B1 (C1.c.c.c.c.c.c.c.c) A2 B2 (C2.c.c.c.c.c.c.c.c) B3 A4 B4 (C4.c.c.c.c.c.c.c.c) x330 hx331 V332) (by rfl) ?_
   rintro _ w333 ⟨v335, cs336, F337, v338, v339, v340, cs341, F342, rfl, H334⟩; refine ⟨_, q, ?_⟩
   have H343 := H327.cV4 [] H334 (zc Pure.dp (zc (Pure.sl q) (zc (Pure.sl q) (zc Pure.dp all_nil))))
   have H344 := H343.p9
   have V347 := H344.viewG (Vw.c (Vw.d (Vw.c (Vw.c (Vw.d (Vw.c (Vw.d (Vw.c (Vw.c (Vw.d (Vw.c (Vw.c Vw.refl))))))))))))
   refine zl (cs' := [v335, v338, v339, iV x330.2.2.2.1, v340]) H344 q il31 q (T (V347.sliceOne hR1) (T (V347.sliceOne hS2) (T (V347.sliceOne hS3) (T q (T (V347.sliceOne hR4) q))))) q q q (fun w345 H346 => ?_)
   refine qA q q q <| B <| W fun a ha => ?_
   obtain rfl := L h
   have hB349 := R H346.p0
   have H350 := H346.q0.q4.q4.q4.q4.q4.q4.q4.p3.p3.p3.p3
   exact m (retct q ha q q (run_loadVar_bx (cs := [v335, v338, v339, iV x330.2.2.2.1, v340]) us31 uo31 il31 hB349) ⟨v335, cs336, F337, v338, v339, v340, cs341, F342, q, H350⟩)
  have h := if_f hc328 h
  refine y <| C <| Z ?_
  have hB351 := R H327.p0
  refine zm (cs := [v62, v65, v66, iV x58.2.2.2.1, v67]) us31 uo31 il31 hB351 q q q ?_
  change XL _ _ _ _ _ ((71, .agg #[v62, v65, v66, iV x58.2.2.2.1, v67]) :: _) _
  have H352 := H327.p5
  have V355 := H352.viewG (Vw.c (Vw.c (Vw.d (Vw.c (Vw.c (Vw.d (Vw.c (Vw.c Vw.refl))))))))
  refine zl (cs' := [v62, v65, v66, iV x58.2.2.2.1, v67]) H352 q il31 q (T (V355.sliceOne hR2) (T (V355.sliceOne hS3) (T (V355.sliceOne hS4) (T q (T (V355.sliceOne hR5) q))))) q q q (fun w353 H354 => ?_)
  refine qA q q q <| B <| W fun a ha => ?_
  obtain rfl := L h
  have hB357 := R H354.p0
  have H358 := H354.q0.q0.q4.q4.p3.p3.p3.p3
  exact retct q ha q q (run_loadVar_bx (cs := [v62, v65, v66, iV x58.2.2.2.1, v67]) us31 uo31 il31 hB357) ⟨v62, cs63, F64, v65, v66, v67, cs316, F317, q, H358⟩
 have h := if_f hc306 h
 refine rR <| A q (qt_eql q q) q q <| qA q q q <| B ?_
 refine Y q (fun hc359 => ?_) (fun hc359 => ?_)
 ·have h := if_t hc359 h
  refine Z <| qF uf49 fi49_1 nz3 q q q ?_
  have hB360 := R H76.p6
  refine l u3 q hB360 q q q q ?_
  have H363 := H76.p4
  have H364 := H363.p4
  have H365 := H364.p4
  have H366 := H365.p4
  have H367 := H366.p4
  obtain ⟨x361, hx362, h⟩ := D h
  refine zd q q c73 (w_impl_doClose w75 _ b71 v62 x58.1 cs63 F64 v65 x58.2.1 v66 x58.2.2.1 x58.2.2.2.1 v67 x58.2.2.2.2 cs68 F69 p1_1 x361 hx362 H367.ctx) (by rfl) ?_
  rintro _ w368 ⟨v370, cs371, F372, rfl, H369⟩; refine ⟨_, q, ?_⟩
  have H373 := H367.cN5 [_, _, _, _, _] H369
  refine qA q q q <| WL_nil fun a ha => ?_
  refine zi (X (S ?_ ha))
  refine C <| C <| zk <| qM q q q <| A q (qt_not q) q q <| qM q q q ?_
  obtain ⟨b374, hg375, h⟩ := D h
  refine zh 4 68 (.bool b374) ?_ (fun md hmd hk => ?_)
  rotate_left
  ·obtain ⟨K, rfl⟩ := zr hmd
   rcases btf (!x361.2.2) with hc376 | hc376
   ·skip
    refine qS q hc376 q q <| qS q hc376 q q <| qS q hc376 q q <| A q (ze q hc376 q) q q ?_
    exact hk _ (p (vb (if_t hc376 hg375)) (cfn 3 q (u)))
   skip
   have hg375 := if_f hc376 hg375
   have hB377 := R H373.p0
   refine zm (cs := [v62, v65, v66, iV x361.1, v370]) us31 uo31 il31 hB377 (J q hc376) q q ?_
   change XL _ _ _ _ _ ((65, .agg #[v62, v65, v66, iV x361.1, v370]) :: _) _
   obtain ⟨x378, hx379, hg375⟩ := D hg375
   refine QC (J q hc376) q c48 (fun w' hb => w_impl_HouseValid w' _ v62 x58.1 hR1 v65 x58.2.1 hS2 v66 x58.2.2.1 hS3 x361.1 v370 x361.2.1 hR4 x378 hx379 ((H373.grow hb).viewG (Vw.c (Vw.d (Vw.c (Vw.c (Vw.d (Vw.c (Vw.c (Vw.c Vw.refl)))))))))) (by rfl) <| A (J q hc376) (qt_not q) q q <| A q (zf q hc376 q) q q ?_
   exact hk _ (p (vb hg375) (cfn 3 q (u)))
  refine QL_nil fun a ha w380 hb381 => ?_
  have H382 := H373.grow hb381
  refine X (S ?_ ha)
  refine Y q (fun hc383 => ?_) (fun hc383 => ?_)
  ·have h := if_t hc383 h
   refine C <| Z ?_
   have hB384 := R H382.p7
   refine zm (cs := [A0, A1, A2, iV B3, A4]) us31 uo31 il31 hB384 q q q ?_
   change XL _ _ _ _ _ ((69, .agg #[A0, A1, A2, iV B3, A4]) :: _) _
   obtain ⟨x385, hx386, h⟩ := D h
   have V387 := H382.viewG (Vw.c (Vw.d (Vw.c (Vw.c (Vw.d (Vw.c (Vw.c (Vw.c Vw.refl))))))))
   refine zd q q c51 (w_impl_copyHouse w380 _ A0 B0 (C0.c.c.c.c.c.c.c.c) A1 B1 (C1.c.c.c.c.c.c.c.c) A2 B2 (C2.c.c.c.c.c.c.c.c) B3 A4 B4 (C4.c.c.c.c.c.c.c.c) x385 hx386 V387) (by rfl) ?_
   rintro _ w388 ⟨v390, cs391, F392, v393, v394, v395, cs396, F397, rfl, H389⟩; refine ⟨_, q, ?_⟩
   have H398 := H382.cV4 [] H389 (zc Pure.dp (zc (Pure.sl q) (zc (Pure.sl q) (zc Pure.dp all_nil))))
   have H399 := H398.p9
   have V402 := H399.viewG (Vw.c (Vw.d (Vw.c (Vw.c (Vw.d (Vw.c (Vw.d (Vw.c (Vw.c (Vw.d (Vw.c (Vw.c Vw.refl))))))))))))
   refine zl (cs' := [v390, v393, v394, iV x385.2.2.2.1, v395]) H399 q il31 q (T (V402.sliceOne hR1) (T (V402.sliceOne hS2) (T (V402.sliceOne hS3) (T q (T (V402.sliceOne hR4) q))))) q q q (fun w400 H401 => ?_)
   refine qA q q q <| B <| W fun a ha => ?_
   obtain rfl := L h
   have hB404 := R H401.p0
   have H405 := H401.q0.q4.q4.q4.q4.q4.q4.q4.p3.p3.p3.p3
   exact m (retct q ha q q (run_loadVar_bx (cs := [v390, v393, v394, iV x385.2.2.2.1, v395]) us31 uo31 il31 hB404) ⟨v390, cs391, F392, v393, v394, v395, cs396, F397, q, H405⟩)
  have h := if_f hc383 h
  refine y <| C <| Z ?_
  have hB406 := R H382.p0
  refine zm (cs := [v62, v65, v66, iV x361.1, v370]) us31 uo31 il31 hB406 q q q ?_
  change XL _ _ _ _ _ ((71, .agg #[v62, v65, v66, iV x361.1, v370]) :: _) _
  have H407 := H382.p5
  have V410 := H407.viewG (Vw.c (Vw.c (Vw.d (Vw.c (Vw.c (Vw.d (Vw.c (Vw.c Vw.refl))))))))
  refine zl (cs' := [v62, v65, v66, iV x361.1, v370]) H407 q il31 q (T (V410.sliceOne hR2) (T (V410.sliceOne hS3) (T (V410.sliceOne hS4) (T q (T (V410.sliceOne hR5) q))))) q q q (fun w408 H409 => ?_)
  refine qA q q q <| B <| W fun a ha => ?_
  obtain rfl := L h
  have hB412 := R H409.p0
  have H413 := H409.q0.q0.q4.q4.p3.p3.p3.p3
  exact retct q ha q q (run_loadVar_bx (cs := [v62, v65, v66, iV x361.1, v370]) us31 uo31 il31 hB412) ⟨v62, cs63, F64, v65, v66, v370, cs371, F372, q, H413⟩
 have h := if_f hc359 h
 refine WP_skip fun a ha => ?_
 refine zi (X (S ?_ ha))
 refine C <| C <| zk <| qM q q q <| A q (qt_not q) q q <| qM q q q ?_
 obtain ⟨b414, hg415, h⟩ := D h
 refine zh 4 68 (.bool b414) ?_ (fun md hmd hk => ?_)
 rotate_left
 ·obtain ⟨K, rfl⟩ := zr hmd
  rcases btf (!false) with hc416 | hc416
  ·skip
   refine qS q hc416 q q <| qS q hc416 q q <| qS q hc416 q q <| A q (ze q hc416 q) q q ?_
   exact hk _ (p (vb (if_t hc416 hg415)) (cfn 3 q (u)))
  skip
  have hg415 := if_f hc416 hg415
  have hB417 := R H76.p0
  refine zm (cs := [v62, v65, v66, iV x58.2.2.2.1, v67]) us31 uo31 il31 hB417 (J q hc416) q q ?_
  change XL _ _ _ _ _ ((65, .agg #[v62, v65, v66, iV x58.2.2.2.1, v67]) :: _) _
  obtain ⟨x418, hx419, hg415⟩ := D hg415
  refine QC (J q hc416) q c48 (fun w' hb => w_impl_HouseValid w' _ v62 x58.1 hR1 v65 x58.2.1 hS2 v66 x58.2.2.1 hS3 x58.2.2.2.1 v67 x58.2.2.2.2 hR4 x418 hx419 ((H76.grow hb).viewG (Vw.c (Vw.d (Vw.c (Vw.c (Vw.d (Vw.c (Vw.c (Vw.c Vw.refl)))))))))) (by rfl) <| A (J q hc416) (qt_not q) q q <| A q (zf q hc416 q) q q ?_
  exact hk _ (p (vb hg415) (cfn 3 q (u)))
 refine QL_nil fun a ha w420 hb421 => ?_
 have H422 := H76.grow hb421
 refine X (S ?_ ha)
 refine Y q (fun hc423 => ?_) (fun hc423 => ?_)
 ·have h := if_t hc423 h
  refine C <| Z ?_
  have hB424 := R H422.p7
  refine zm (cs := [A0, A1, A2, iV B3, A4]) us31 uo31 il31 hB424 q q q ?_
  change XL _ _ _ _ _ ((69, .agg #[A0, A1, A2, iV B3, A4]) :: _) _
  obtain ⟨x425, hx426, h⟩ := D h
  have V427 := H422.viewG (Vw.c (Vw.d (Vw.c (Vw.c (Vw.d (Vw.c (Vw.c (Vw.c Vw.refl))))))))
  refine zd q q c51 (w_impl_copyHouse w420 _ A0 B0 (C0.c.c.c.c.c.c.c.c) A1 B1 (C1.c.c.c.c.c.c.c.c) A2 B2 (C2.c.c.c.c.c.c.c.c) B3 A4 B4 (C4.c.c.c.c.c.c.c.c) x425 hx426 V427) (by rfl) ?_
  rintro _ w428 ⟨v430, cs431, F432, v433, v434, v435, cs436, F437, rfl, H429⟩; refine ⟨_, q, ?_⟩
  have H438 := H422.cV4 [] H429 (zc Pure.dp (zc (Pure.sl q) (zc (Pure.sl q) (zc Pure.dp all_nil))))
  have H439 := H438.p9
  have V442 := H439.viewG (Vw.c (Vw.d (Vw.c (Vw.c (Vw.d (Vw.c (Vw.d (Vw.c (Vw.c (Vw.d (Vw.c (Vw.c Vw.refl))))))))))))
  refine zl (cs' := [v430, v433, v434, iV x425.2.2.2.1, v435]) H439 q il31 q (T (V442.sliceOne hR1) (T (V442.sliceOne hS2) (T (V442.sliceOne hS3) (T q (T (V442.sliceOne hR4) q))))) q q q (fun w440 H441 => ?_)
  refine qA q q q <| B <| W fun a ha => ?_
  obtain rfl := L h
  have hB444 := R H441.p0
  have H445 := H441.q0.q4.q4.q4.q4.q4.q4.q4.p3.p3.p3.p3
  exact m (retct q ha q q (run_loadVar_bx (cs := [v430, v433, v434, iV x425.2.2.2.1, v435]) us31 uo31 il31 hB444) ⟨v430, cs431, F432, v433, v434, v435, cs436, F437, q, H445⟩)
 have h := if_f hc423 h
 refine y <| C <| Z ?_
 have hB446 := R H422.p0
 refine zm (cs := [v62, v65, v66, iV x58.2.2.2.1, v67]) us31 uo31 il31 hB446 q q q ?_
 change XL _ _ _ _ _ ((71, .agg #[v62, v65, v66, iV x58.2.2.2.1, v67]) :: _) _
 have H447 := H422.p5
 have V450 := H447.viewG (Vw.c (Vw.c (Vw.d (Vw.c (Vw.c (Vw.d (Vw.c (Vw.c Vw.refl))))))))
 refine zl (cs' := [v62, v65, v66, iV x58.2.2.2.1, v67]) H447 q il31 q (T (V450.sliceOne hR2) (T (V450.sliceOne hS3) (T (V450.sliceOne hS4) (T q (T (V450.sliceOne hR5) q))))) q q q (fun w448 H449 => ?_)
 refine qA q q q <| B <| W fun a ha => ?_
 obtain rfl := L h
 have hB452 := R H449.p0
 have H453 := H449.q0.q0.q4.q4.p3.p3.p3.p3
 exact retct q ha q q (run_loadVar_bx (cs := [v62, v65, v66, iV x58.2.2.2.1, v67]) us31 uo31 il31 hB452) ⟨v62, cs63, F64, v65, v66, v67, cs68, F69, q, H453⟩
theorem w_laws_eqPart (w : World) (G : List Res) (B0 : Int) (B1 : Int) (p1_0 : Int) (p1_1 : Int) (r : Bool) (h : laws_eqPartS B0 B1 p1_0 p1_1 = some r) (H : Ctx w G) : Calls Tryz.prog 163 #[.agg #[iV B0, iV B1], .agg #[iV p1_0, iV p1_1]] w fun e w' => e = .returned (.bool r) ∧ Holds M0 w w' [] G := by
 have H : Holds M0 w w [] G := zb H
 refine zg (args := [.agg #[iV B0, iV B1], .agg #[iV p1_0, iV p1_1]]) (n := 15) Tryz.func163 q q q ?_
 unfold laws_eqPartS at h
 refine C <| Z ?_
 refine WL_box (cs := [iV B0, iV B1]) H q q q q (fun b1 w2 H3 => ?_)
 refine WL_box (cs := [iV p1_0, iV p1_1]) H3 q q q q (fun b5 w6 H7 => ?_)
 refine qA q q q <| B <| C <| rR <| qF uf162 fi162_0 nz3 q q q ?_
 have hB9 := R H7.p1
 refine l u3 q hB9 q q q q <| qF uf162 fi162_0 nz3 q q q ?_
 have hB10 := R H7.p0
 refine l u3 q hB10 q q q q <| A q (qt_neq q q) q q <| B ?_
 refine Y q (fun hc11 => ?_) (fun hc11 => ?_)
 ·have h := if_t hc11 h
  refine rR <| qA q q q <| B <| W fun a ha => ?_
  obtain rfl := L h
  have H12 := H7.q0.q0
  exact m (ret1 q ha q ⟨q, H12⟩)
 have h := if_f hc11 h
 refine y <| C <| rR <| qF uf162 fi162_1 nz3 q q q ?_
 have hB13 := R H7.p1
 refine l u3 q hB13 q q q q <| qF uf162 fi162_1 nz3 q q q ?_
 have hB14 := R H7.p0
 refine l u3 q hB14 q q q q <| A q (qt_neq q q) q q <| B ?_
 refine Y q (fun hc15 => ?_) (fun hc15 => ?_)
 ·have h := if_t hc15 h
  refine rR <| qA q q q <| B <| W fun a ha => ?_
  obtain rfl := L h
  have H16 := H7.q0.q0
  exact m (ret1 q ha q ⟨q, H16⟩)
 have h := if_f hc15 h
 refine y <| rR <| qA q q q <| B <| W fun a ha => ?_
 obtain rfl := L h
 have H17 := H7.q0.q0
 exact ret1 q ha q ⟨q, H17⟩
theorem w_laws_eqPartS (w : World) (G : List Res) (vp0 : Value) (p0 : LP) (hp0 : Has G ty2 vp0 p0) (vp1 : Value) (p1 : LP) (hp1 : Has G ty2 vp1 p1) (r : Bool) (h : laws_eqPartSS p0 p1 = some r) (H : Ctx w G) : Calls Tryz.prog 138 #[vp0, vp1] w fun e w' => e = .returned (.bool r) ∧ Holds M0 w w' [] G := by
 have H : Holds M0 w w [] G := zb H
 refine zg (args := [vp0, vp1]) (n := 27) Tryz.func138 q q q ?_
 unfold laws_eqPartSS at h
 refine rR <| qA q q q <| B <| C <| rR <| qM q q q <| za H.ctx (t := ty2) (hp0) u113 q q q <| qM q q q ?_
 refine za H.ctx (t := ty2) (hp1) u113 q q q <| A q (qt_neq q q) q q <| B ?_
 refine Y q (fun hc1 => ?_) (fun hc1 => ?_)
 ·have h := if_t hc1 h
  refine rR <| qA q q q <| B <| W fun a ha => ?_
  obtain rfl := L h
  exact m (ret1 q ha q ⟨q, H⟩)
 have h := if_f hc1 h
 refine y <| C <| rR <| qA q q q <| B <| g ?_
 obtain ⟨o3, ho4, h⟩ := D h
 refine fun a5 ha6 => zp (I := fun s a w2 => match s with | s2 => (Fr a 27 [(0, vp0), (1, vp1), (5, iV s2)] ∧ Holds M0 w w2 [] G)) (O := fun o e a w2 => match o with | .inl _ => e = .exit 0 ∧ (Fr a 27 [] ∧ Holds M0 w w2 [] G) | .inr q0 => e = .ret ∧ (Fr a 27 [(4, .bool q0)] ∧ Holds M0 w w2 [] G)) ho4 ?_ ?_ ?_
 ·exact ⟨ha6.sub ⟨q, q, q, trivial⟩, H⟩
 ·clear ha6
  intro s o9 a w7 hs8 hI10
  obtain ⟨s2, rfl⟩ : ∃ z, z = s := ⟨s, q⟩
  obtain ⟨ha, H11⟩ := hI10
  refine S ?_ ha
  clear ha
  refine C <| rR <| qM q q q <| qM q q q <| za H11.ctx (t := ty2) (hp0) u113 q q q <| A q (qt_lss q q) q q <| B ?_
  refine Y q (fun hc12 => ?_) (fun hc12 => ?_)
  ·have hs8 := if_t hc12 hs8
   refine y <| C <| g <| C <| WP_quiet (by kernel_rfl) (by kernel_rfl) <| qM q q q <| qM q q q ?_
   obtain ⟨x13, hx14, hs8⟩ := D hs8
   refine b H11.ctx (hp0) hx14 u113 i162 q q q q (fun b15 off16 cap17 hv18 => ?_)
   obtain ⟨F19, hat20, hdup21⟩ := H11.atN (hp0) hx14 hv18
   refine XL_load_agg (t := ty2) us162 uo162 i162 hat20 q q q (fun cs22 hr23 => ?_)
   obtain ⟨c24, c25, F26, F27, rfl, eF30, hr28, hr29⟩ := hr23
   obtain ⟨rfl, _⟩ := hr28
   obtain ⟨rfl, _⟩ := hr29
   change XL _ _ _ _ _ ((20, .agg #[iV x13.1, iV x13.2]) :: _) _
   refine qM q q q <| qM q q q ?_
   obtain ⟨x31, hx32, hs8⟩ := D hs8
   refine b H11.ctx (hp1) hx32 u113 i162 q q q q (fun b33 off34 cap35 hv36 => ?_)
   obtain ⟨F37, hat38, hdup39⟩ := H11.atN (hp1) hx32 hv36
   refine XL_load_agg (t := ty2) us162 uo162 i162 hat38 q q q (fun cs40 hr41 => ?_)
   obtain ⟨c42, c43, F44, F45, rfl, eF48, hr46, hr47⟩ := hr41
   obtain ⟨rfl, _⟩ := hr46
   obtain ⟨rfl, _⟩ := hr47
   change XL _ _ _ _ _ ((24, .agg #[iV x31.1, iV x31.2]) :: _) _
   obtain ⟨x49, hx50, hs8⟩ := D hs8
   refine QC q q c163 (fun w' hb => w_laws_eqPart w' G x13.1 x13.2 x31.1 x31.2 x49 hx50 (H11.grow hb).ctx) (by rfl) <| A q (qt_not q) q q <| QL_nil fun a ha w51 hb52 => ?_
   have H53 := H11.grow hb52
   refine X (S ?_ ha)
   refine Y q (fun hc54 => ?_) (fun hc54 => ?_)
   ·have hs8 := if_t hc54 hs8
    refine rR <| qA q q q <| B <| W fun a ha => ?_
    obtain rfl := L hs8
    exact zj (m (⟨ret_ne, q, ha.sub ⟨q, trivial⟩, H53⟩))
   have hs8 := if_f hc54 hs8
   refine WP_skip fun a ha => ?_
   refine zi (X (S ?_ ha))
   refine Z <| qM q q q <| A q (qt_add q q) q q <| qA q q q <| WL_nil fun a ha => ?_
   obtain rfl := L hs8
   exact ⟨q, ha.sub ⟨q, q, q, trivial⟩, H53⟩
  have hs8 := if_f hc12 hs8
  refine WP_exit fun a ha => ?_
  obtain rfl := L hs8
  exact zo (⟨exit_ne, q, ha.sub trivial, H11⟩)
 intro e a5 w55 hO56
 rcases o3 with o3 | o3
 ·skip
  obtain ⟨rfl, hO58⟩ := hO56
  obtain ⟨ha, H57⟩ := hO58
  refine zn (X (S ?_ ha))
  refine rR <| qA q q q <| B <| W fun a ha => ?_
  obtain rfl := L h
  exact ret1 q ha q ⟨q, H57⟩
 skip
 obtain ⟨p59, rfl⟩ : ∃ z, z = o3 := ⟨o3, q⟩
 obtain ⟨rfl, hO61⟩ := hO56
 obtain ⟨ha, H60⟩ := hO61
 obtain rfl := L h
 exact zj (m (ret1 q ha q ⟨q, H60⟩))
theorem w_laws_eqItem (w : World) (G : List Res) (B0 : Int) (A1 : Value) (B1 : LP) (C1 : Has G ty2 A1 B1) (B2 : Int) (p1_0 : Int) (A1_1 : Value) (p1_1 : LP) (hp1_1 : Has G ty2 A1_1 p1_1) (p1_2 : Int) (r : Bool) (h : laws_eqItemS B0 B1 B2 p1_0 p1_1 p1_2 = some r) (H : Ctx w G) : Calls Tryz.prog 105 #[.agg #[iV B0, A1, iV B2], .agg #[iV p1_0, A1_1, iV p1_2]] w fun e w' => e = .returned (.bool r) ∧ Holds M0 w w' [] G := by
 have H : Holds M0 w w [] G := zb H
 refine zg (args := [.agg #[iV B0, A1, iV B2], .agg #[iV p1_0, A1_1, iV p1_2]]) (n := 21) Tryz.func105 q q q ?_
 unfold laws_eqItemS at h
 refine C <| Z ?_
 refine WL_box (cs := [iV B0, A1, iV B2]) H q q q q (fun b1 w2 H3 => ?_)
 refine WL_box (cs := [iV p1_0, A1_1, iV p1_2]) H3 q q q q (fun b5 w6 H7 => ?_)
 refine qA q q q <| B <| C <| rR <| qF uf115 fi115_0 nz3 q q q ?_
 have hB9 := R H7.p1
 refine l u3 q hB9 q q q q <| qF uf115 fi115_0 nz3 q q q ?_
 have hB10 := R H7.p0
 refine l u3 q hB10 q q q q <| A q (qt_neq q q) q q <| B ?_
 refine Y q (fun hc11 => ?_) (fun hc11 => ?_)
 ·have h := if_t hc11 h
  refine rR <| qA q q q <| B <| W fun a ha => ?_
  obtain rfl := L h
  have H12 := H7.q0.q0
  exact m (ret1 q ha q ⟨q, H12⟩)
 have h := if_f hc11 h
 refine y <| C <| C <| zk <| qF uf115 fi115_1 nz113 q q q ?_
 have hB13 := R H7.p1
 refine l u113 q hB13 q q q q <| qF uf115 fi115_1 nz113 q q q ?_
 have hB14 := R H7.p0
 refine l u113 q hB14 q q q q ?_
 obtain ⟨x15, hx16, h⟩ := D h
 refine QC q q c138 (fun w' hb => w_laws_eqPartS w' _ A1 B1 (C1.c.c) A1_1 p1_1 (hp1_1.c.c) x15 hx16 (H7.grow hb).ctx) (by rfl) <| A q (qt_not q) q q <| QL_nil fun a ha w17 hb18 => ?_
 have H19 := H7.grow hb18
 refine X (S ?_ ha)
 refine Y q (fun hc20 => ?_) (fun hc20 => ?_)
 ·have h := if_t hc20 h
  refine rR <| qA q q q <| B <| W fun a ha => ?_
  obtain rfl := L h
  have H21 := H19.q0.q0
  exact m (ret1 q ha q ⟨q, H21⟩)
 have h := if_f hc20 h
 refine y <| C <| rR <| qF uf115 fi115_2 nz3 q q q ?_
 have hB22 := R H19.p1
 refine l u3 q hB22 q q q q <| qF uf115 fi115_2 nz3 q q q ?_
 have hB23 := R H19.p0
 refine l u3 q hB23 q q q q <| A q (qt_neq q q) q q <| B ?_
 refine Y q (fun hc24 => ?_) (fun hc24 => ?_)
 ·have h := if_t hc24 h
  refine rR <| qA q q q <| B <| W fun a ha => ?_
  obtain rfl := L h
  have H25 := H19.q0.q0
  exact m (ret1 q ha q ⟨q, H25⟩)
 have h := if_f hc24 h
 refine y <| rR <| qA q q q <| B <| W fun a ha => ?_
 obtain rfl := L h
 have H26 := H19.q0.q0
 exact ret1 q ha q ⟨q, H26⟩
theorem w_laws_eqItemS (w : World) (G : List Res) (vp0 : Value) (p0 : LI) (hp0 : Has G ty10 vp0 p0) (vp1 : Value) (p1 : LI) (hp1 : Has G ty10 vp1 p1) (r : Bool) (h : laws_eqItemSS p0 p1 = some r) (H : Ctx w G) : Calls Tryz.prog 53 #[vp0, vp1] w fun e w' => e = .returned (.bool r) ∧ Holds M0 w w' [] G := by
 have H : Holds M0 w w [] G := zb H
 refine zg (args := [vp0, vp1]) (n := 27) Tryz.func53 q q q ?_
 unfold laws_eqItemSS at h
 refine rR <| qA q q q <| B <| C <| rR <| qM q q q <| za H.ctx (t := ty10) (hp0) u28 q q q <| qM q q q ?_
 refine za H.ctx (t := ty10) (hp1) u28 q q q <| A q (qt_neq q q) q q <| B ?_
 refine Y q (fun hc1 => ?_) (fun hc1 => ?_)
 ·have h := if_t hc1 h
  refine rR <| qA q q q <| B <| W fun a ha => ?_
  obtain rfl := L h
  exact m (ret1 q ha q ⟨q, H⟩)
 have h := if_f hc1 h
 refine y <| C <| rR <| qA q q q <| B <| g ?_
 obtain ⟨o3, ho4, h⟩ := D h
 refine fun a5 ha6 => zp (I := fun s a w2 => match s with | s2 => (Fr a 27 [(0, vp0), (1, vp1), (5, iV s2)] ∧ Holds M0 w w2 [] G)) (O := fun o e a w2 => match o with | .inl _ => e = .exit 0 ∧ (Fr a 27 [] ∧ Holds M0 w w2 [] G) | .inr q0 => e = .ret ∧ (Fr a 27 [(4, .bool q0)] ∧ Holds M0 w w2 [] G)) ho4 ?_ ?_ ?_
 ·exact ⟨ha6.sub ⟨q, q, q, trivial⟩, H⟩
 ·clear ha6
  intro s o9 a w7 hs8 hI10
  obtain ⟨s2, rfl⟩ : ∃ z, z = s := ⟨s, q⟩
  obtain ⟨ha, H11⟩ := hI10
  refine S ?_ ha
  clear ha
  refine C <| rR <| qM q q q <| qM q q q <| za H11.ctx (t := ty10) (hp0) u28 q q q <| A q (qt_lss q q) q q <| B ?_
  refine Y q (fun hc12 => ?_) (fun hc12 => ?_)
  ·have hs8 := if_t hc12 hs8
   refine y <| C <| g <| C <| WP_quiet (by kernel_rfl) (by kernel_rfl) <| qM q q q <| qM q q q ?_
   obtain ⟨x13, hx14, hs8⟩ := D hs8
   refine b H11.ctx (hp0) hx14 u28 i115 q q q q (fun b15 off16 cap17 hv18 => ?_)
   obtain ⟨F19, hat20, hdup21⟩ := H11.atN (hp0) hx14 hv18
   refine XL_load_agg (t := ty10) us115 uo115 i115 hat20 q q q (fun cs22 hr23 => ?_)
   obtain ⟨c24, c25, F26, F27, rfl, eF30, hr28, hr29⟩ := hr23
   obtain ⟨rfl, _⟩ := hr28
   obtain ⟨c31, c32, F33, F34, rfl, eF37, hr35, hr36⟩ := hr29
   obtain ⟨v38, rfl, hr39⟩ := Rep.sl_inv hr35
   obtain ⟨rfl, _⟩ := hr36
   have H40 : Holds _ w w7 [.ro ty2 v38 x13.2.1] G := hdup21 [.ro ty2 v38 x13.2.1] ⟨⟨_, _, _, _, q, hr39, (fun k h => (fun k h => (fun _ h => h) k (by rw [eF30]; exact zx _ h)) k (by rw [eF37]; exact List.mem_append_left _ h))⟩, trivial⟩
   change XL _ _ _ _ _ ((20, .agg #[iV x13.1, v38, iV x13.2.2]) :: _) _
   refine qM q q q <| qM q q q ?_
   obtain ⟨x41, hx42, hs8⟩ := D hs8
   refine b H40.ctx (hp1.c) hx42 u28 i115 q q q q (fun b43 off44 cap45 hv46 => ?_)
   obtain ⟨F47, hat48, hdup49⟩ := H40.atN (hp1.c) hx42 hv46
   refine XL_load_agg (t := ty10) us115 uo115 i115 hat48 q q q (fun cs50 hr51 => ?_)
   obtain ⟨c52, c53, F54, F55, rfl, eF58, hr56, hr57⟩ := hr51
   obtain ⟨rfl, _⟩ := hr56
   obtain ⟨c59, c60, F61, F62, rfl, eF65, hr63, hr64⟩ := hr57
   obtain ⟨v66, rfl, hr67⟩ := Rep.sl_inv hr63
   obtain ⟨rfl, _⟩ := hr64
   have H68 : Holds _ w w7 [.ro ty2 v66 x41.2.1, .ro ty2 v38 x13.2.1] G := hdup49 [.ro ty2 v66 x41.2.1] ⟨⟨_, _, _, _, q, hr67, (fun k h => (fun k h => (fun _ h => h) k (by rw [eF58]; exact zx _ h)) k (by rw [eF65]; exact List.mem_append_left _ h))⟩, trivial⟩
   change XL _ _ _ _ _ ((24, .agg #[iV x41.1, v66, iV x41.2.2]) :: _) _
   obtain ⟨x69, hx70, hs8⟩ := D hs8
   refine QC q q c105 (fun w' hb => w_laws_eqItem w' _ x13.1 v38 x13.2.1 hR1 x13.2.2 x41.1 v66 x41.2.1 hR0 x41.2.2 x69 hx70 (H68.grow hb).ctx) (by rfl) <| A q (qt_not q) q q <| QL_nil fun a ha w71 hb72 => ?_
   have H73 := H68.grow hb72
   refine X (S ?_ ha)
   refine Y q (fun hc74 => ?_) (fun hc74 => ?_)
   ·have hs8 := if_t hc74 hs8
    refine rR <| qA q q q <| B <| W fun a ha => ?_
    obtain rfl := L hs8
    have H75 := H73.q0.q0
    exact zj (m (⟨ret_ne, q, ha.sub ⟨q, trivial⟩, H75⟩))
   have hs8 := if_f hc74 hs8
   refine WP_skip fun a ha => ?_
   refine zi (X (S ?_ ha))
   refine Z <| qM q q q <| A q (qt_add q q) q q <| qA q q q <| WL_nil fun a ha => ?_
   obtain rfl := L hs8
   have H76 := H73.q0.q0
   exact ⟨q, ha.sub ⟨q, q, q, trivial⟩, H76⟩
  have hs8 := if_f hc12 hs8
  refine WP_exit fun a ha => ?_
  obtain rfl := L hs8
  exact zo (⟨exit_ne, q, ha.sub trivial, H11⟩)
 intro e a5 w77 hO78
 rcases o3 with o3 | o3
 ·skip
  obtain ⟨rfl, hO80⟩ := hO78
  obtain ⟨ha, H79⟩ := hO80
  refine zn (X (S ?_ ha))
  refine rR <| qA q q q <| B <| W fun a ha => ?_
  obtain rfl := L h
  exact ret1 q ha q ⟨q, H79⟩
 skip
 obtain ⟨p81, rfl⟩ : ∃ z, z = o3 := ⟨o3, q⟩
 obtain ⟨rfl, hO83⟩ := hO78
 obtain ⟨ha, H82⟩ := hO83
 obtain rfl := L h
 exact zj (m (ret1 q ha q ⟨q, H82⟩))
theorem w_laws_eqIntS (w : World) (G : List Res) (vp0 : Value) (p0 : List Int) (hp0 : Has G tI vp0 p0) (vp1 : Value) (p1 : List Int) (hp1 : Has G tI vp1 p1) (r : Bool) (h : laws_eqIntSS p0 p1 = some r) (H : Ctx w G) : Calls Tryz.prog 54 #[vp0, vp1] w fun e w' => e = .returned (.bool r) ∧ Holds M0 w w' [] G := by
 have H : Holds M0 w w [] G := zb H
 refine zg (args := [vp0, vp1]) (n := 26) Tryz.func54 q q q ?_
 unfold laws_eqIntSS at h
 refine rR <| qA q q q <| B <| C <| rR <| qM q q q <| za H.ctx (t := tI) (hp0) u23 q q q <| qM q q q ?_
 refine za H.ctx (t := tI) (hp1) u23 q q q <| A q (qt_neq q q) q q <| B ?_
 refine Y q (fun hc1 => ?_) (fun hc1 => ?_)
 ·have h := if_t hc1 h
  refine rR <| qA q q q <| B <| W fun a ha => ?_
  obtain rfl := L h
  exact m (ret1 q ha q ⟨q, H⟩)
 have h := if_f hc1 h
 refine y <| C <| rR <| qA q q q <| B <| g ?_
 obtain ⟨o3, ho4, h⟩ := D h
 refine fun a5 ha6 => zp (I := fun s a w2 => match s with | s2 => (Fr a 26 [(0, vp0), (1, vp1), (5, iV s2)] ∧ Holds M0 w w2 [] G)) (O := fun o e a w2 => match o with | .inl _ => e = .exit 0 ∧ (Fr a 26 [] ∧ Holds M0 w w2 [] G) | .inr q0 => e = .ret ∧ (Fr a 26 [(4, .bool q0)] ∧ Holds M0 w w2 [] G)) ho4 ?_ ?_ ?_
 ·exact ⟨ha6.sub ⟨q, q, q, trivial⟩, H⟩
 ·clear ha6
  intro s o9 a w7 hs8 hI10
  obtain ⟨s2, rfl⟩ : ∃ z, z = s := ⟨s, q⟩
  obtain ⟨ha, H11⟩ := hI10
  refine S ?_ ha
  clear ha
  refine C <| rR <| qM q q q <| qM q q q <| za H11.ctx (t := tI) (hp0) u23 q q q <| A q (qt_lss q q) q q <| B ?_
  refine Y q (fun hc12 => ?_) (fun hc12 => ?_)
  ·have hs8 := if_t hc12 hs8
   refine y <| C <| g <| C <| WP_quiet (by kernel_rfl) (by kernel_rfl) <| qM q q q <| qM q q q ?_
   obtain ⟨x13, hx14, hs8⟩ := D hs8
   refine b H11.ctx (hp0) hx14 u23 i3 q q q q (fun b15 off16 cap17 hv18 => ?_)
   obtain ⟨F19, hat20, hdup21⟩ := H11.at (hp0) hx14 hv18
   refine zt (k := .i64) u3 q hat20 q q q <| qM q q q <| qM q q q ?_
   obtain ⟨x22, hx23, hs8⟩ := D hs8
   refine b H11.ctx (hp1) hx23 u23 i3 q q q q (fun b24 off25 cap26 hv27 => ?_)
   obtain ⟨F28, hat29, hdup30⟩ := H11.at (hp1) hx23 hv27
   refine zt (k := .i64) u3 q hat29 q q q <| A q (qt_neq q q) q q <| QL_nil fun a ha w31 hb32 => ?_
   have H33 := H11.grow hb32
   refine X (S ?_ ha)
   refine Y q (fun hc34 => ?_) (fun hc34 => ?_)
   ·have hs8 := if_t hc34 hs8
    refine rR <| qA q q q <| B <| W fun a ha => ?_
    obtain rfl := L hs8
    exact zj (m (⟨ret_ne, q, ha.sub ⟨q, trivial⟩, H33⟩))
   have hs8 := if_f hc34 hs8
   refine WP_skip fun a ha => ?_
   refine zi (X (S ?_ ha))
   refine Z <| qM q q q <| A q (qt_add q q) q q <| qA q q q <| WL_nil fun a ha => ?_
   obtain rfl := L hs8
   exact ⟨q, ha.sub ⟨q, q, q, trivial⟩, H33⟩
  have hs8 := if_f hc12 hs8
  refine WP_exit fun a ha => ?_
  obtain rfl := L hs8
  exact zo (⟨exit_ne, q, ha.sub trivial, H11⟩)
 intro e a5 w35 hO36
 rcases o3 with o3 | o3
 ·skip
  obtain ⟨rfl, hO38⟩ := hO36
  obtain ⟨ha, H37⟩ := hO38
  refine zn (X (S ?_ ha))
  refine rR <| qA q q q <| B <| W fun a ha => ?_
  obtain rfl := L h
  exact ret1 q ha q ⟨q, H37⟩
 skip
 obtain ⟨p39, rfl⟩ : ∃ z, z = o3 := ⟨o3, q⟩
 obtain ⟨rfl, hO41⟩ := hO36
 obtain ⟨ha, H40⟩ := hO41
 obtain rfl := L h
 exact zj (m (ret1 q ha q ⟨q, H40⟩))
theorem w_laws_eqOrder (w : World) (G : List Res) (B0 : Int) (B1 : Int) (p1_0 : Int) (p1_1 : Int) (r : Bool) (h : laws_eqOrderS B0 B1 p1_0 p1_1 = some r) (H : Ctx w G) : Calls Tryz.prog 164 #[.agg #[iV B0, iV B1], .agg #[iV p1_0, iV p1_1]] w fun e w' => e = .returned (.bool r) ∧ Holds M0 w w' [] G := by
 have H : Holds M0 w w [] G := zb H
 refine zg (args := [.agg #[iV B0, iV B1], .agg #[iV p1_0, iV p1_1]]) (n := 15) Tryz.func164 q q q ?_
 unfold laws_eqOrderS at h
 refine C <| Z ?_
 refine WL_box (cs := [iV B0, iV B1]) H q q q q (fun b1 w2 H3 => ?_)
 refine WL_box (cs := [iV p1_0, iV p1_1]) H3 q q q q (fun b5 w6 H7 => ?_)
 refine qA q q q <| B <| C <| rR <| qF uf119 fi119_0 nz3 q q q ?_
 have hB9 := R H7.p1
 refine l u3 q hB9 q q q q <| qF uf119 fi119_0 nz3 q q q ?_
 have hB10 := R H7.p0
 refine l u3 q hB10 q q q q <| A q (qt_neq q q) q q <| B ?_
 refine Y q (fun hc11 => ?_) (fun hc11 => ?_)
 ·have h := if_t hc11 h
  refine rR <| qA q q q <| B <| W fun a ha => ?_
  obtain rfl := L h
  have H12 := H7.q0.q0
  exact m (ret1 q ha q ⟨q, H12⟩)
 have h := if_f hc11 h
 refine y <| C <| rR <| qF uf119 fi119_1 nz3 q q q ?_
 have hB13 := R H7.p1
 refine l u3 q hB13 q q q q <| qF uf119 fi119_1 nz3 q q q ?_
 have hB14 := R H7.p0
 refine l u3 q hB14 q q q q <| A q (qt_neq q q) q q <| B ?_
 refine Y q (fun hc15 => ?_) (fun hc15 => ?_)
 ·have h := if_t hc15 h
  refine rR <| qA q q q <| B <| W fun a ha => ?_
  obtain rfl := L h
  have H16 := H7.q0.q0
  exact m (ret1 q ha q ⟨q, H16⟩)
 have h := if_f hc15 h
 refine y <| rR <| qA q q q <| B <| W fun a ha => ?_
 obtain rfl := L h
 have H17 := H7.q0.q0
 exact ret1 q ha q ⟨q, H17⟩
theorem w_laws_eqOrderS (w : World) (G : List Res) (vp0 : Value) (p0 : LP) (hp0 : Has G ty2 vp0 p0) (vp1 : Value) (p1 : LP) (hp1 : Has G ty2 vp1 p1) (r : Bool) (h : laws_eqOrderSS p0 p1 = some r) (H : Ctx w G) : Calls Tryz.prog 139 #[vp0, vp1] w fun e w' => e = .returned (.bool r) ∧ Holds M0 w w' [] G := by
 have H : Holds M0 w w [] G := zb H
 refine zg (args := [vp0, vp1]) (n := 27) Tryz.func139 q q q ?_
 unfold laws_eqOrderSS at h
 refine rR <| qA q q q <| B <| C <| rR <| qM q q q <| za H.ctx (t := ty2) (hp0) u87 q q q <| qM q q q ?_
 refine za H.ctx (t := ty2) (hp1) u87 q q q <| A q (qt_neq q q) q q <| B ?_
 refine Y q (fun hc1 => ?_) (fun hc1 => ?_)
 ·have h := if_t hc1 h
  refine rR <| qA q q q <| B <| W fun a ha => ?_
  obtain rfl := L h
  exact m (ret1 q ha q ⟨q, H⟩)
 have h := if_f hc1 h
 refine y <| C <| rR <| qA q q q <| B <| g ?_
 obtain ⟨o3, ho4, h⟩ := D h
 refine fun a5 ha6 => zp (I := fun s a w2 => match s with | s2 => (Fr a 27 [(0, vp0), (1, vp1), (5, iV s2)] ∧ Holds M0 w w2 [] G)) (O := fun o e a w2 => match o with | .inl _ => e = .exit 0 ∧ (Fr a 27 [] ∧ Holds M0 w w2 [] G) | .inr q0 => e = .ret ∧ (Fr a 27 [(4, .bool q0)] ∧ Holds M0 w w2 [] G)) ho4 ?_ ?_ ?_
 ·exact ⟨ha6.sub ⟨q, q, q, trivial⟩, H⟩
 ·clear ha6
  intro s o9 a w7 hs8 hI10
  obtain ⟨s2, rfl⟩ : ∃ z, z = s := ⟨s, q⟩
  obtain ⟨ha, H11⟩ := hI10
  refine S ?_ ha
  clear ha
  refine C <| rR <| qM q q q <| qM q q q <| za H11.ctx (t := ty2) (hp0) u87 q q q <| A q (qt_lss q q) q q <| B ?_
  refine Y q (fun hc12 => ?_) (fun hc12 => ?_)
  ·have hs8 := if_t hc12 hs8
   refine y <| C <| g <| C <| WP_quiet (by kernel_rfl) (by kernel_rfl) <| qM q q q <| qM q q q ?_
   obtain ⟨x13, hx14, hs8⟩ := D hs8
   refine b H11.ctx (hp0) hx14 u87 i119 q q q q (fun b15 off16 cap17 hv18 => ?_)
   obtain ⟨F19, hat20, hdup21⟩ := H11.atN (hp0) hx14 hv18
   refine XL_load_agg (t := ty2) us119 uo119 i119 hat20 q q q (fun cs22 hr23 => ?_)
   obtain ⟨c24, c25, F26, F27, rfl, eF30, hr28, hr29⟩ := hr23
   obtain ⟨rfl, _⟩ := hr28
   obtain ⟨rfl, _⟩ := hr29
   change XL _ _ _ _ _ ((20, .agg #[iV x13.1, iV x13.2]) :: _) _
   refine qM q q q <| qM q q q ?_
   obtain ⟨x31, hx32, hs8⟩ := D hs8
   refine b H11.ctx (hp1) hx32 u87 i119 q q q q (fun b33 off34 cap35 hv36 => ?_)
   obtain ⟨F37, hat38, hdup39⟩ := H11.atN (hp1) hx32 hv36
   refine XL_load_agg (t := ty2) us119 uo119 i119 hat38 q q q (fun cs40 hr41 => ?_)
   obtain ⟨c42, c43, F44, F45, rfl, eF48, hr46, hr47⟩ := hr41
   obtain ⟨rfl, _⟩ := hr46
   obtain ⟨rfl, _⟩ := hr47
   change XL _ _ _ _ _ ((24, .agg #[iV x31.1, iV x31.2]) :: _) _
   obtain ⟨x49, hx50, hs8⟩ := D hs8
   refine QC q q c164 (fun w' hb => w_laws_eqOrder w' G x13.1 x13.2 x31.1 x31.2 x49 hx50 (H11.grow hb).ctx) (by rfl) <| A q (qt_not q) q q <| QL_nil fun a ha w51 hb52 => ?_
   have H53 := H11.grow hb52
   refine X (S ?_ ha)
   refine Y q (fun hc54 => ?_) (fun hc54 => ?_)
   ·have hs8 := if_t hc54 hs8
    refine rR <| qA q q q <| B <| W fun a ha => ?_
    obtain rfl := L hs8
    exact zj (m (⟨ret_ne, q, ha.sub ⟨q, trivial⟩, H53⟩))
   have hs8 := if_f hc54 hs8
   refine WP_skip fun a ha => ?_
   refine zi (X (S ?_ ha))
   refine Z <| qM q q q <| A q (qt_add q q) q q <| qA q q q <| WL_nil fun a ha => ?_
   obtain rfl := L hs8
   exact ⟨q, ha.sub ⟨q, q, q, trivial⟩, H53⟩
  have hs8 := if_f hc12 hs8
  refine WP_exit fun a ha => ?_
  obtain rfl := L hs8
  exact zo (⟨exit_ne, q, ha.sub trivial, H11⟩)
 intro e a5 w55 hO56
 rcases o3 with o3 | o3
 ·skip
  obtain ⟨rfl, hO58⟩ := hO56
  obtain ⟨ha, H57⟩ := hO58
  refine zn (X (S ?_ ha))
  refine rR <| qA q q q <| B <| W fun a ha => ?_
  obtain rfl := L h
  exact ret1 q ha q ⟨q, H57⟩
 skip
 obtain ⟨p59, rfl⟩ : ∃ z, z = o3 := ⟨o3, q⟩
 obtain ⟨rfl, hO61⟩ := hO56
 obtain ⟨ha, H60⟩ := hO61
 obtain rfl := L h
 exact zj (m (ret1 q ha q ⟨q, H60⟩))
theorem w_laws_eqTable (w : World) (G : List Res) (B0 : Int) (A1 : Value) (B1 : LP) (C1 : Has G ty2 A1 B1) (A2 : Value) (B2 : List Int) (C2 : Has G tI A2 B2) (p1_0 : Int) (A1_1 : Value) (p1_1 : LP) (hp1_1 : Has G ty2 A1_1 p1_1) (A1_2 : Value) (p1_2 : List Int) (hp1_2 : Has G tI A1_2 p1_2) (r : Bool) (h : laws_eqTableS B0 B1 B2 p1_0 p1_1 p1_2 = some r) (H : Ctx w G) : Calls Tryz.prog 106 #[.agg #[iV B0, A1, A2], .agg #[iV p1_0, A1_1, A1_2]] w fun e w' => e = .returned (.bool r) ∧ Holds M0 w w' [] G := by
 have H : Holds M0 w w [] G := zb H
 refine zg (args := [.agg #[iV B0, A1, A2], .agg #[iV p1_0, A1_1, A1_2]]) (n := 22) Tryz.func106 q q q ?_
 unfold laws_eqTableS at h
 refine C <| Z ?_
 refine WL_box (cs := [iV B0, A1, A2]) H q q q q (fun b1 w2 H3 => ?_)
 refine WL_box (cs := [iV p1_0, A1_1, A1_2]) H3 q q q q (fun b5 w6 H7 => ?_)
 refine qA q q q <| B <| C <| rR <| qF uf89 fi89_0 nz3 q q q ?_
 have hB9 := R H7.p1
 refine l u3 q hB9 q q q q <| qF uf89 fi89_0 nz3 q q q ?_
 have hB10 := R H7.p0
 refine l u3 q hB10 q q q q <| A q (qt_neq q q) q q <| B ?_
 refine Y q (fun hc11 => ?_) (fun hc11 => ?_)
 ·have h := if_t hc11 h
  refine rR <| qA q q q <| B <| W fun a ha => ?_
  obtain rfl := L h
  have H12 := H7.q0.q0
  exact m (ret1 q ha q ⟨q, H12⟩)
 have h := if_f hc11 h
 refine y <| C <| C <| zk <| qF uf89 fi89_1 nz87 q q q ?_
 have hB13 := R H7.p1
 refine l u87 q hB13 q q q q <| qF uf89 fi89_1 nz87 q q q ?_
 have hB14 := R H7.p0
 refine l u87 q hB14 q q q q ?_
 obtain ⟨x15, hx16, h⟩ := D h
 refine QC q q c139 (fun w' hb => w_laws_eqOrderS w' _ A1 B1 (C1.c.c) A1_1 p1_1 (hp1_1.c.c) x15 hx16 (H7.grow hb).ctx) (by rfl) <| A q (qt_not q) q q <| QL_nil fun a ha w17 hb18 => ?_
 have H19 := H7.grow hb18
 refine X (S ?_ ha)
 refine Y q (fun hc20 => ?_) (fun hc20 => ?_)
 ·have h := if_t hc20 h
  refine rR <| qA q q q <| B <| W fun a ha => ?_
  obtain rfl := L h
  have H21 := H19.q0.q0
  exact m (ret1 q ha q ⟨q, H21⟩)
 have h := if_f hc20 h
 refine y <| C <| C <| zk <| qF uf89 fi89_2 nz23 q q q ?_
 have hB22 := R H19.p1
 refine l u23 q hB22 q q q q <| qF uf89 fi89_2 nz23 q q q ?_
 have hB23 := R H19.p0
 refine l u23 q hB23 q q q q ?_
 obtain ⟨x24, hx25, h⟩ := D h
 refine QC q q c54 (fun w' hb => w_laws_eqIntS w' _ A2 B2 (C2.c.c) A1_2 p1_2 (hp1_2.c.c) x24 hx25 (H19.grow hb).ctx) (by rfl) <| A q (qt_not q) q q <| QL_nil fun a ha w26 hb27 => ?_
 have H28 := H19.grow hb27
 refine X (S ?_ ha)
 refine Y q (fun hc29 => ?_) (fun hc29 => ?_)
 ·have h := if_t hc29 h
  refine rR <| qA q q q <| B <| W fun a ha => ?_
  obtain rfl := L h
  have H30 := H28.q0.q0
  exact m (ret1 q ha q ⟨q, H30⟩)
 have h := if_f hc29 h
 refine y <| rR <| qA q q q <| B <| W fun a ha => ?_
 obtain rfl := L h
 have H31 := H28.q0.q0
 exact ret1 q ha q ⟨q, H31⟩
theorem w_laws_eqTableS (w : World) (G : List Res) (vp0 : Value) (p0 : LT) (hp0 : Has G ty12 vp0 p0) (vp1 : Value) (p1 : LT) (hp1 : Has G ty12 vp1 p1) (r : Bool) (h : laws_eqTableSS p0 p1 = some r) (H : Ctx w G) : Calls Tryz.prog 55 #[vp0, vp1] w fun e w' => e = .returned (.bool r) ∧ Holds M0 w w' [] G := by
 have H : Holds M0 w w [] G := zb H
 refine zg (args := [vp0, vp1]) (n := 27) Tryz.func55 q q q ?_
 unfold laws_eqTableSS at h
 refine rR <| qA q q q <| B <| C <| rR <| qM q q q <| za H.ctx (t := ty12) (hp0) u29 q q q <| qM q q q ?_
 refine za H.ctx (t := ty12) (hp1) u29 q q q <| A q (qt_neq q q) q q <| B ?_
 refine Y q (fun hc1 => ?_) (fun hc1 => ?_)
 ·have h := if_t hc1 h
  refine rR <| qA q q q <| B <| W fun a ha => ?_
  obtain rfl := L h
  exact m (ret1 q ha q ⟨q, H⟩)
 have h := if_f hc1 h
 refine y <| C <| rR <| qA q q q <| B <| g ?_
 obtain ⟨o3, ho4, h⟩ := D h
 refine fun a5 ha6 => zp (I := fun s a w2 => match s with | s2 => (Fr a 27 [(0, vp0), (1, vp1), (5, iV s2)] ∧ Holds M0 w w2 [] G)) (O := fun o e a w2 => match o with | .inl _ => e = .exit 0 ∧ (Fr a 27 [] ∧ Holds M0 w w2 [] G) | .inr q0 => e = .ret ∧ (Fr a 27 [(4, .bool q0)] ∧ Holds M0 w w2 [] G)) ho4 ?_ ?_ ?_
 ·exact ⟨ha6.sub ⟨q, q, q, trivial⟩, H⟩
 ·clear ha6
  intro s o9 a w7 hs8 hI10
  obtain ⟨s2, rfl⟩ : ∃ z, z = s := ⟨s, q⟩
  obtain ⟨ha, H11⟩ := hI10
  refine S ?_ ha
  clear ha
  refine C <| rR <| qM q q q <| qM q q q <| za H11.ctx (t := ty12) (hp0) u29 q q q <| A q (qt_lss q q) q q <| B ?_
  refine Y q (fun hc12 => ?_) (fun hc12 => ?_)
  ·have hs8 := if_t hc12 hs8
   refine y <| C <| g <| C <| WP_quiet (by kernel_rfl) (by kernel_rfl) <| qM q q q <| qM q q q ?_
   obtain ⟨x13, hx14, hs8⟩ := D hs8
   refine b H11.ctx (hp0) hx14 u29 i89 q q q q (fun b15 off16 cap17 hv18 => ?_)
   obtain ⟨F19, hat20, hdup21⟩ := H11.atN (hp0) hx14 hv18
   refine XL_load_agg (t := ty12) us89 uo89 i89 hat20 q q q (fun cs22 hr23 => ?_)
   obtain ⟨c24, c25, F26, F27, rfl, eF30, hr28, hr29⟩ := hr23
   obtain ⟨rfl, _⟩ := hr28
   obtain ⟨c31, c32, F33, F34, rfl, eF37, hr35, hr36⟩ := hr29
   obtain ⟨v38, rfl, hr39⟩ := Rep.sl_inv hr35
   obtain ⟨v40, rfl, hr41⟩ := Rep.sl_inv hr36
   have H42 : Holds _ w w7 [.ro ty2 v38 x13.2.1, .ro tI v40 x13.2.2] G := hdup21 [.ro ty2 v38 x13.2.1, .ro tI v40 x13.2.2] ⟨⟨_, _, _, _, q, hr39, (fun k h => (fun k h => (fun _ h => h) k (by rw [eF30]; exact zx _ h)) k (by rw [eF37]; exact List.mem_append_left _ h))⟩, ⟨_, _, _, _, q, hr41, (fun k h => (fun k h => (fun _ h => h) k (by rw [eF30]; exact zx _ h)) k (by rw [eF37]; exact zx _ h))⟩, trivial⟩
   change XL _ _ _ _ _ ((20, .agg #[iV x13.1, v38, v40]) :: _) _
   refine qM q q q <| qM q q q ?_
   obtain ⟨x43, hx44, hs8⟩ := D hs8
   refine b H42.ctx (hp1.c.c) hx44 u29 i89 q q q q (fun b45 off46 cap47 hv48 => ?_)
   obtain ⟨F49, hat50, hdup51⟩ := H42.atN (hp1.c.c) hx44 hv48
   refine XL_load_agg (t := ty12) us89 uo89 i89 hat50 q q q (fun cs52 hr53 => ?_)
   obtain ⟨c54, c55, F56, F57, rfl, eF60, hr58, hr59⟩ := hr53
   obtain ⟨rfl, _⟩ := hr58
   obtain ⟨c61, c62, F63, F64, rfl, eF67, hr65, hr66⟩ := hr59
   obtain ⟨v68, rfl, hr69⟩ := Rep.sl_inv hr65
   obtain ⟨v70, rfl, hr71⟩ := Rep.sl_inv hr66
   have H72 : Holds _ w w7 [.ro ty2 v68 x43.2.1, .ro tI v70 x43.2.2, .ro ty2 v38 x13.2.1, .ro tI v40 x13.2.2] G := hdup51 [.ro ty2 v68 x43.2.1, .ro tI v70 x43.2.2] ⟨⟨_, _, _, _, q, hr69, (fun k h => (fun k h => (fun _ h => h) k (by rw [eF60]; exact zx _ h)) k (by rw [eF67]; exact List.mem_append_left _ h))⟩, ⟨_, _, _, _, q, hr71, (fun k h => (fun k h => (fun _ h => h) k (by rw [eF60]; exact zx _ h)) k (by rw [eF67]; exact zx _ h))⟩, trivial⟩
   change XL _ _ _ _ _ ((24, .agg #[iV x43.1, v68, v70]) :: _) _
   obtain ⟨x73, hx74, hs8⟩ := D hs8
   refine QC q q c106 (fun w' hb => w_laws_eqTable w' _ x13.1 v38 x13.2.1 hR2 v40 x13.2.2 hR3 x43.1 v68 x43.2.1 hR0 v70 x43.2.2 hR1 x73 hx74 (H72.grow hb).ctx) (by rfl) <| A q (qt_not q) q q <| QL_nil fun a ha w75 hb76 => ?_
   have H77 := H72.grow hb76
   refine X (S ?_ ha)
   refine Y q (fun hc78 => ?_) (fun hc78 => ?_)
   ·have hs8 := if_t hc78 hs8
    refine rR <| qA q q q <| B <| W fun a ha => ?_
    obtain rfl := L hs8
    have H79 := H77.q0.q0.q0.q0
    exact zj (m (⟨ret_ne, q, ha.sub ⟨q, trivial⟩, H79⟩))
   have hs8 := if_f hc78 hs8
   refine WP_skip fun a ha => ?_
   refine zi (X (S ?_ ha))
   refine Z <| qM q q q <| A q (qt_add q q) q q <| qA q q q <| WL_nil fun a ha => ?_
   obtain rfl := L hs8
   have H80 := H77.q0.q0.q0.q0
   exact ⟨q, ha.sub ⟨q, q, q, trivial⟩, H80⟩
  have hs8 := if_f hc12 hs8
  refine WP_exit fun a ha => ?_
  obtain rfl := L hs8
  exact zo (⟨exit_ne, q, ha.sub trivial, H11⟩)
 intro e a5 w81 hO82
 rcases o3 with o3 | o3
 ·skip
  obtain ⟨rfl, hO84⟩ := hO82
  obtain ⟨ha, H83⟩ := hO84
  refine zn (X (S ?_ ha))
  refine rR <| qA q q q <| B <| W fun a ha => ?_
  obtain rfl := L h
  exact ret1 q ha q ⟨q, H83⟩
 skip
 obtain ⟨p85, rfl⟩ : ∃ z, z = o3 := ⟨o3, q⟩
 obtain ⟨rfl, hO87⟩ := hO82
 obtain ⟨ha, H86⟩ := hO87
 obtain rfl := L h
 exact zj (m (ret1 q ha q ⟨q, H86⟩))
theorem w_laws_eqHouse (w : World) (G : List Res) (A0 : Value) (B0 : LI) (C0 : Has G ty10 A0 B0) (A1 : Value) (B1 : List Int) (C1 : Has G tI A1 B1) (A2 : Value) (B2 : List Int) (C2 : Has G tI A2 B2) (B3 : Int) (A4 : Value) (B4 : LT) (C4 : Has G ty12 A4 B4) (A1_0 : Value) (p1_0 : LI) (hp1_0 : Has G ty10 A1_0 p1_0) (A1_1 : Value) (p1_1 : List Int) (hp1_1 : Has G tI A1_1 p1_1) (A1_2 : Value) (p1_2 : List Int) (hp1_2 : Has G tI A1_2 p1_2) (p1_3 : Int) (A1_4 : Value) (p1_4 : LT) (hp1_4 : Has G ty12 A1_4 p1_4) (r : Bool) (h : laws_eqHouseS B0 B1 B2 B3 B4 p1_0 p1_1 p1_2 p1_3 p1_4 = some r) (H : Ctx w G) : Calls Tryz.prog 11 #[.agg #[A0, A1, A2, iV B3, A4], .agg #[A1_0, A1_1, A1_2, iV p1_3, A1_4]] w fun e w' => e = .returned (.bool r) ∧ Holds M0 w w' [] G := by
 have H : Holds M0 w w [] G := zb H
 refine zg (args := [.agg #[A0, A1, A2, iV B3, A4], .agg #[A1_0, A1_1, A1_2, iV p1_3, A1_4]]) (n := 34) Tryz.func11 q q q ?_
 unfold laws_eqHouseS at h
 refine C <| Z ?_
 refine WL_box (cs := [A0, A1, A2, iV B3, A4]) H q q q q (fun b1 w2 H3 => ?_)
 refine WL_box (cs := [A1_0, A1_1, A1_2, iV p1_3, A1_4]) H3 q q q q (fun b5 w6 H7 => ?_)
 refine qA q q q <| B <| C <| C <| zk <| qF uf31 fi31_0 nz28 q q q ?_
 have hB9 := R H7.p1
 refine l u28 q hB9 q q q q <| qF uf31 fi31_0 nz28 q q q ?_
 have hB10 := R H7.p0
 refine l u28 q hB10 q q q q ?_
 obtain ⟨x11, hx12, h⟩ := D h
 refine QC q q c53 (fun w' hb => w_laws_eqItemS w' _ A0 B0 (C0.c.c) A1_0 p1_0 (hp1_0.c.c) x11 hx12 (H7.grow hb).ctx) (by rfl) <| A q (qt_not q) q q <| QL_nil fun a ha w13 hb14 => ?_
 have H15 := H7.grow hb14
 refine X (S ?_ ha)
 refine Y q (fun hc16 => ?_) (fun hc16 => ?_)
 ·have h := if_t hc16 h
  refine rR <| qA q q q <| B <| W fun a ha => ?_
  obtain rfl := L h
  have H17 := H15.q0.q0
  exact m (ret1 q ha q ⟨q, H17⟩)
 have h := if_f hc16 h
 refine y <| C <| C <| zk <| qF uf31 fi31_1 nz23 q q q ?_
 have hB18 := R H15.p1
 refine l u23 q hB18 q q q q <| qF uf31 fi31_1 nz23 q q q ?_
 have hB19 := R H15.p0
 refine l u23 q hB19 q q q q ?_
 obtain ⟨x20, hx21, h⟩ := D h
 refine QC q q c54 (fun w' hb => w_laws_eqIntS w' _ A1 B1 (C1.c.c) A1_1 p1_1 (hp1_1.c.c) x20 hx21 (H15.grow hb).ctx) (by rfl) <| A q (qt_not q) q q <| QL_nil fun a ha w22 hb23 => ?_
 have H24 := H15.grow hb23
 refine X (S ?_ ha)
 refine Y q (fun hc25 => ?_) (fun hc25 => ?_)
 ·have h := if_t hc25 h
  refine rR <| qA q q q <| B <| W fun a ha => ?_
  obtain rfl := L h
  have H26 := H24.q0.q0
  exact m (ret1 q ha q ⟨q, H26⟩)
 have h := if_f hc25 h
 refine y <| C <| C <| zk <| qF uf31 fi31_2 nz23 q q q ?_
 have hB27 := R H24.p1
 refine l u23 q hB27 q q q q <| qF uf31 fi31_2 nz23 q q q ?_
 have hB28 := R H24.p0
 refine l u23 q hB28 q q q q ?_
 obtain ⟨x29, hx30, h⟩ := D h
 refine QC q q c54 (fun w' hb => w_laws_eqIntS w' _ A2 B2 (C2.c.c) A1_2 p1_2 (hp1_2.c.c) x29 hx30 (H24.grow hb).ctx) (by rfl) <| A q (qt_not q) q q <| QL_nil fun a ha w31 hb32 => ?_
 have H33 := H24.grow hb32
 refine X (S ?_ ha)
 refine Y q (fun hc34 => ?_) (fun hc34 => ?_)
 ·have h := if_t hc34 h
  refine rR <| qA q q q <| B <| W fun a ha => ?_
  obtain rfl := L h
  have H35 := H33.q0.q0
  exact m (ret1 q ha q ⟨q, H35⟩)
 have h := if_f hc34 h
 refine y <| C <| rR <| qF uf31 fi31_3 nz3 q q q ?_
 have hB36 := R H33.p1
 refine l u3 q hB36 q q q q <| qF uf31 fi31_3 nz3 q q q ?_
 have hB37 := R H33.p0
 refine l u3 q hB37 q q q q <| A q (qt_neq q q) q q <| B ?_
 refine Y q (fun hc38 => ?_) (fun hc38 => ?_)
 ·have h := if_t hc38 h
  refine rR <| qA q q q <| B <| W fun a ha => ?_
  obtain rfl := L h
  have H39 := H33.q0.q0
  exact m (ret1 q ha q ⟨q, H39⟩)
 have h := if_f hc38 h
 refine y <| C <| C <| zk <| qF uf31 fi31_4 nz29 q q q ?_
 have hB40 := R H33.p1
 refine l u29 q hB40 q q q q <| qF uf31 fi31_4 nz29 q q q ?_
 have hB41 := R H33.p0
 refine l u29 q hB41 q q q q ?_
 obtain ⟨x42, hx43, h⟩ := D h
 refine QC q q c55 (fun w' hb => w_laws_eqTableS w' _ A4 B4 (C4.c.c) A1_4 p1_4 (hp1_4.c.c) x42 hx43 (H33.grow hb).ctx) (by rfl) <| A q (qt_not q) q q <| QL_nil fun a ha w44 hb45 => ?_
 have H46 := H33.grow hb45
 refine X (S ?_ ha)
 refine Y q (fun hc47 => ?_) (fun hc47 => ?_)
 ·have h := if_t hc47 h
  refine rR <| qA q q q <| B <| W fun a ha => ?_
  obtain rfl := L h
  have H48 := H46.q0.q0
  exact m (ret1 q ha q ⟨q, H48⟩)
 have h := if_f hc47 h
 refine y <| rR <| qA q q q <| B <| W fun a ha => ?_
 obtain rfl := L h
 have H49 := H46.q0.q0
 exact ret1 q ha q ⟨q, H49⟩
theorem w_laws_markPartS (w : World) (G : List Res) (vp0 : Value) (p0 : LP) (p1 : Int) (r : LP × Int) (h : laws_markPartSS p0 p1 = some r) (H : Ctx w ([.sl 162 ty2 vp0 p0] ++ G)) : Calls Tryz.prog 107 #[vp0, iV p1] w fun e w' => e = .returned (iV r.2) ∧ Holds (([.sl 162 ty2 vp0 p0] : List Res).flatMap Res.own) w w' [.sl 162 ty2 vp0 r.1] G := by
 have H : Holds (([.sl 162 ty2 vp0 p0] : List Res).flatMap Res.own) w w [.sl 162 ty2 vp0 p0] G := zb H
 refine zg (args := [vp0, iV p1]) (n := 27) Tryz.func107 q q q ?_
 unfold laws_markPartSS at h
 refine rR <| qA q q q <| B <| C <| rR <| qA q q q <| B <| g ?_
 obtain ⟨o4, ho5, h⟩ := D h
 refine fun a6 ha7 => zp (I := fun s a w2 => match s with | (s1, s2, s3) => (Fr a 27 [(0, vp0), (1, iV s1), (5, iV s2)] ∧ Holds (([.sl 162 ty2 vp0 p0] : List Res).flatMap Res.own) w w2 [.sl 162 ty2 vp0 s3] G)) (O := fun o e a w2 => match o with | (q0, q1) => e = .exit 0 ∧ (Fr a 27 [(0, vp0), (1, iV q0)] ∧ Holds (([.sl 162 ty2 vp0 p0] : List Res).flatMap Res.own) w w2 [.sl 162 ty2 vp0 q1] G)) ho5 ?_ ?_ ?_
 ·exact ⟨ha7.sub ⟨q, q, q, trivial⟩, H⟩
 ·clear ha7
  intro s o10 a w8 hs9 hI11
  obtain ⟨s1, s2, s3⟩ := s
  obtain ⟨ha, H12⟩ := hI11
  refine S ?_ ha
  clear ha
  refine C <| rR <| qM q q q <| qM q q q <| za H12.ctx (t := ty2) hS0 u113 q q q <| A q (qt_lss q q) q q <| B ?_
  refine Y q (fun hc13 => ?_) (fun hc13 => ?_)
  ·have hs9 := if_t hc13 hs9
   refine y <| C <| g <| rR <| qM q q q <| qM q q q <| qM q q q ?_
   obtain ⟨x14, hx15, hs9⟩ := D hs9
   refine b H12.ctx hS0 hx15 u113 i162 q q q q (fun b16 off17 cap18 hv19 => ?_)
   refine qF uf162 fi162_0 nz3 q q q ?_
   refine WL_storeH (fo := 0) (cs' := [iV s1]) H12 hx15 hv19 (Upd.fst (Upd.whole (Blt.int)) q) q il3 q q q q (fun w20 H21 => ?_)
   refine rN <| qM q q q <| A q (qt_add q q) q q <| qA q q q <| rN <| qM q q q ?_
   refine qM q q q <| qM q q q ?_
   obtain ⟨x23, hx24, hs9⟩ := D hs9
   refine b H21.ctx hS0 hx24 u113 i162 q q q q (fun b25 off26 cap27 hv28 => ?_)
   refine qF uf162 fi162_1 nz3 q q q ?_
   refine WL_storeH (fo := 1) (cs' := [iV (IntKind.wrap .i64 (s1 + 1))]) H21 hx24 hv28 (Upd.snd (Upd.whole (Blt.int))) q il3 q q q q (fun w29 H30 => ?_)
   refine B <| Z <| qM q q q <| A q (qt_add q q) q q <| qA q q q <| WL_nil fun a ha => ?_
   refine zi (X (S ?_ ha))
   refine Z <| qM q q q <| A q (qt_add q q) q q <| qA q q q <| WL_nil fun a ha => ?_
   obtain rfl := L hs9
   exact ⟨q, ha.sub ⟨q, q, q, trivial⟩, H30⟩
  have hs9 := if_f hc13 hs9
  refine WP_exit fun a ha => ?_
  obtain rfl := L hs9
  exact zo (⟨exit_ne, q, ha.sub ⟨q, q, trivial⟩, H12⟩)
 intro e a6 w32 hO33
 obtain ⟨p34, p35⟩ := o4
 obtain ⟨rfl, hO37⟩ := hO33
 obtain ⟨ha, H36⟩ := hO37
 refine zn (X (S ?_ ha))
 refine rR <| qM q q q <| qA q q q <| B <| W fun a ha => ?_
 obtain rfl := L h
 exact ret1 q ha q ⟨q, H36⟩
theorem w_laws_markItemS (w : World) (G : List Res) (vp0 : Value) (p0 : LI) (csp0 : List Value) (Fp0 : List Nat) (p1 : Int) (r : LI × Int) (h : laws_markItemSS p0 p1 = some r) (H : Ctx w ([dpR 115 dt13 vp0 csp0 p0 Fp0] ++ G)) : Calls Tryz.prog 56 #[vp0, iV p1] w fun e w' => ∃ (dsp0 : List Value) (Ep0 : List Nat), e = .returned (iV r.2) ∧ Holds (([dpR 115 dt13 vp0 csp0 p0 Fp0] : List Res).flatMap Res.own) w w' [dpR 115 dt13 vp0 dsp0 r.1 Ep0] G := by
 have H : Holds (([dpR 115 dt13 vp0 csp0 p0 Fp0] : List Res).flatMap Res.own) w w [dpR 115 dt13 vp0 csp0 p0 Fp0] G := zb H
 refine zg (args := [vp0, iV p1]) (n := 34) Tryz.func56 q q q ?_
 unfold laws_markItemSS at h
 refine rR <| qA q q q <| B <| C <| rR <| qA q q q <| B <| g ?_
 obtain ⟨o4, ho5, h⟩ := D h
 refine fun a6 ha7 => zp (I := fun s a w2 => match s with | (s1, s2, s3) => ∃ css3 Fs3, Fr a 34 [(0, vp0), (1, iV s1), (5, iV s2)] ∧ Holds (([dpR 115 dt13 vp0 csp0 p0 Fp0] : List Res).flatMap Res.own) w w2 [dpR 115 dt13 vp0 css3 s3 Fs3] G) (O := fun o e a w2 => match o with | (q0, q1) => e = .exit 0 ∧ ∃ csq1 Fq1, Fr a 34 [(0, vp0), (1, iV q0)] ∧ Holds (([dpR 115 dt13 vp0 csp0 p0 Fp0] : List Res).flatMap Res.own) w w2 [dpR 115 dt13 vp0 csq1 q1 Fq1] G) ho5 ?_ ?_ ?_
 ·exact ⟨csp0, Fp0, ha7.sub ⟨q, q, q, trivial⟩, H⟩
 ·clear ha7
  intro s o10 a w8 hs9 hI11
  obtain ⟨s1, s2, s3⟩ := s
  obtain ⟨css3, Fs3, ha, H12⟩ := hI11
  refine S ?_ ha
  clear ha
  refine C <| rR <| qM q q q <| qM q q q ?_
  have V13 := H12.viewG (Vw.d Vw.refl)
  refine za V13 (t := ty10) hR0 u28 q q q <| A q (qt_lss q q) q q <| B ?_
  refine Y q (fun hc14 => ?_) (fun hc14 => ?_)
  ·have hs9 := if_t hc14 hs9
   refine y <| C <| g <| rR <| qM q q q <| qM q q q <| qM q q q ?_
   obtain ⟨x15, hx16, hs9⟩ := D hs9
   refine b V13 hR0 hx16 u28 i115 q q q q (fun b17 off18 cap19 hv20 => ?_)
   refine qF uf115 fi115_0 nz3 q q q ?_
   refine WL_storeD (Rs := []) (fo := 0) (cs' := [iV s1]) H12 hx16 hv20 ((Foc.fst Foc.refl)) (DBlt.cast (DBlt.int (k := .i64) (n := s1)) q q) q il3 q q q (fun cs21 F22 w23 H24 => ?_)
   refine rN <| qM q q q <| A q (qt_add q q) q q <| qA q q q <| rN <| qM q q q ?_
   refine qM q q q ?_
   obtain ⟨x26, hx27, hs9⟩ := D hs9
   have V32 := H24.viewG (Vw.d Vw.refl)
   refine b V32 hR0 hx27 u28 i115 q q q q (fun b28 off29 cap30 hv31 => ?_)
   refine qF uf115 fi115_1 nz113 q q q ?_
   obtain ⟨v33, hc34, hcell35, hp36, hp37, hsh38⟩ := Holds.ns H24 ((Foc.snd (Foc.fst Foc.refl))) hx27 hv31
   refine XL_load_cell u113 q hcell35 q q q <| qM q q q ?_
   obtain ⟨F41, H42⟩ := Holds.borrow H24 ((Foc.snd (Foc.fst Foc.refl))) hx27 hc34
   obtain ⟨x39, hx40, hs9⟩ := D hs9
   refine zd q q c107 (w_laws_markPartS w23 _ v33 x26.2.1 (IntKind.wrap .i64 (s1 + 1)) x39 hx40 H42.ctx) (by rfl) ?_
   rintro _ w44 ⟨rfl, H45⟩; refine ⟨_, q, ?_⟩
   have H46 := H42.cN1 [_] H45
   have H47 := H46.p1
   have H48 := H47.p1
   obtain ⟨F49, H50⟩ := Holds.giveBack q H48 hc34
   refine qA q q q <| rN <| qM q q q <| qM q q q <| qM q q q ?_
   obtain ⟨x52, hx53, hs9⟩ := D hs9
   have V58 := H50.viewG (Vw.d Vw.refl)
   refine b V58 hR0 hx53 u28 i115 q q q q (fun b54 off55 cap56 hv57 => ?_)
   refine qF uf115 fi115_2 nz3 q q q ?_
   refine WL_storeD (Rs := []) (fo := 2) (cs' := [iV x39.2]) H50 hx53 hv57 ((Foc.snd (Foc.snd Foc.refl))) (DBlt.cast (DBlt.int (k := .i64) (n := x39.2)) q q) q il3 q q q (fun cs59 F60 w61 H62 => ?_)
   refine B <| Z <| qM q q q <| A q (qt_add q q) q q <| qA q q q <| WL_nil fun a ha => ?_
   refine zi (X (S ?_ ha))
   refine Z <| qM q q q <| A q (qt_add q q) q q <| qA q q q <| WL_nil fun a ha => ?_
   obtain rfl := L hs9
   exact ⟨q, cs59, F60, ha.sub ⟨q, q, q, trivial⟩, H62⟩
  have hs9 := if_f hc14 hs9
  refine WP_exit fun a ha => ?_
  obtain rfl := L hs9
  exact zo (⟨exit_ne, q, css3, Fs3, ha.sub ⟨q, q, trivial⟩, H12⟩)
 intro e a6 w64 hO65
 obtain ⟨p66, p67⟩ := o4
 obtain ⟨rfl, hO69⟩ := hO65
 obtain ⟨csp67, Fp67, ha, H68⟩ := hO69
 refine zn (X (S ?_ ha))
 refine rR <| qM q q q <| qA q q q <| B <| W fun a ha => ?_
 obtain rfl := L h
 exact ret1 q ha q ⟨csp67, Fp67, q, H68⟩
theorem w_laws_markIntS (w : World) (G : List Res) (vp0 : Value) (p0 : List Int) (p1 : Int) (r : (List Int) × Int) (h : laws_markIntSS p0 p1 = some r) (H : Ctx w ([.sl 3 tI vp0 p0] ++ G)) : Calls Tryz.prog 57 #[vp0, iV p1] w fun e w' => e = .returned (iV r.2) ∧ Holds (([.sl 3 tI vp0 p0] : List Res).flatMap Res.own) w w' [.sl 3 tI vp0 r.1] G := by
 have H : Holds (([.sl 3 tI vp0 p0] : List Res).flatMap Res.own) w w [.sl 3 tI vp0 p0] G := zb H
 refine zg (args := [vp0, iV p1]) (n := 19) Tryz.func57 q q q ?_
 unfold laws_markIntSS at h
 refine rR <| qA q q q <| B <| C <| rR <| qA q q q <| B <| g ?_
 obtain ⟨o4, ho5, h⟩ := D h
 refine fun a6 ha7 => zp (I := fun s a w2 => match s with | (s1, s2, s3) => (Fr a 19 [(0, vp0), (1, iV s1), (5, iV s2)] ∧ Holds (([.sl 3 tI vp0 p0] : List Res).flatMap Res.own) w w2 [.sl 3 tI vp0 s3] G)) (O := fun o e a w2 => match o with | (q0, q1) => e = .exit 0 ∧ (Fr a 19 [(0, vp0), (1, iV q0)] ∧ Holds (([.sl 3 tI vp0 p0] : List Res).flatMap Res.own) w w2 [.sl 3 tI vp0 q1] G)) ho5 ?_ ?_ ?_
 ·exact ⟨ha7.sub ⟨q, q, q, trivial⟩, H⟩
 ·clear ha7
  intro s o10 a w8 hs9 hI11
  obtain ⟨s1, s2, s3⟩ := s
  obtain ⟨ha, H12⟩ := hI11
  refine S ?_ ha
  clear ha
  refine C <| rR <| qM q q q <| qM q q q <| za H12.ctx (t := tI) hS0 u23 q q q <| A q (qt_lss q q) q q <| B ?_
  refine Y q (fun hc13 => ?_) (fun hc13 => ?_)
  ·have hs9 := if_t hc13 hs9
   refine y <| C <| g <| rR <| qM q q q <| qM q q q <| qM q q q ?_
   obtain ⟨x14, hx15, hs9⟩ := D hs9
   refine b H12.ctx hS0 hx15 u23 i3 q q q q (fun b16 off17 cap18 hv19 => ?_)
   refine WL_storeH (fo := 0) (cs' := [iV s1]) H12 hx15 hv19 (Upd.whole (Blt.int)) q il3 q q q q (fun w20 H21 => ?_)
   refine B <| Z <| qM q q q <| A q (qt_add q q) q q <| qA q q q <| WL_nil fun a ha => ?_
   refine zi (X (S ?_ ha))
   refine Z <| qM q q q <| A q (qt_add q q) q q <| qA q q q <| WL_nil fun a ha => ?_
   obtain rfl := L hs9
   exact ⟨q, ha.sub ⟨q, q, q, trivial⟩, H21⟩
  have hs9 := if_f hc13 hs9
  refine WP_exit fun a ha => ?_
  obtain rfl := L hs9
  exact zo (⟨exit_ne, q, ha.sub ⟨q, q, trivial⟩, H12⟩)
 intro e a6 w23 hO24
 obtain ⟨p25, p26⟩ := o4
 obtain ⟨rfl, hO28⟩ := hO24
 obtain ⟨ha, H27⟩ := hO28
 refine zn (X (S ?_ ha))
 refine rR <| qM q q q <| qA q q q <| B <| W fun a ha => ?_
 obtain rfl := L h
 exact ret1 q ha q ⟨q, H27⟩
theorem w_laws_markOrderS (w : World) (G : List Res) (vp0 : Value) (p0 : LP) (p1 : Int) (r : LP × Int) (h : laws_markOrderSS p0 p1 = some r) (H : Ctx w ([.sl 119 ty2 vp0 p0] ++ G)) : Calls Tryz.prog 108 #[vp0, iV p1] w fun e w' => e = .returned (iV r.2) ∧ Holds (([.sl 119 ty2 vp0 p0] : List Res).flatMap Res.own) w w' [.sl 119 ty2 vp0 r.1] G := by
 have H : Holds (([.sl 119 ty2 vp0 p0] : List Res).flatMap Res.own) w w [.sl 119 ty2 vp0 p0] G := zb H
 refine zg (args := [vp0, iV p1]) (n := 27) Tryz.func108 q q q ?_
 unfold laws_markOrderSS at h
 refine rR <| qA q q q <| B <| C <| rR <| qA q q q <| B <| g ?_
 obtain ⟨o4, ho5, h⟩ := D h
 refine fun a6 ha7 => zp (I := fun s a w2 => match s with | (s1, s2, s3) => (Fr a 27 [(0, vp0), (1, iV s1), (5, iV s2)] ∧ Holds (([.sl 119 ty2 vp0 p0] : List Res).flatMap Res.own) w w2 [.sl 119 ty2 vp0 s3] G)) (O := fun o e a w2 => match o with | (q0, q1) => e = .exit 0 ∧ (Fr a 27 [(0, vp0), (1, iV q0)] ∧ Holds (([.sl 119 ty2 vp0 p0] : List Res).flatMap Res.own) w w2 [.sl 119 ty2 vp0 q1] G)) ho5 ?_ ?_ ?_
 ·exact ⟨ha7.sub ⟨q, q, q, trivial⟩, H⟩
 ·clear ha7
  intro s o10 a w8 hs9 hI11
  obtain ⟨s1, s2, s3⟩ := s
  obtain ⟨ha, H12⟩ := hI11
  refine S ?_ ha
  clear ha
  refine C <| rR <| qM q q q <| qM q q q <| za H12.ctx (t := ty2) hS0 u87 q q q <| A q (qt_lss q q) q q <| B ?_
  refine Y q (fun hc13 => ?_) (fun hc13 => ?_)
  ·have hs9 := if_t hc13 hs9
   refine y <| C <| g <| rR <| qM q q q <| qM q q q <| qM q q q ?_
   obtain ⟨x14, hx15, hs9⟩ := D hs9
   refine b H12.ctx hS0 hx15 u87 i119 q q q q (fun b16 off17 cap18 hv19 => ?_)
   refine qF uf119 fi119_0 nz3 q q q ?_
   refine WL_storeH (fo := 0) (cs' := [iV s1]) H12 hx15 hv19 (Upd.fst (Upd.whole (Blt.int)) q) q il3 q q q q (fun w20 H21 => ?_)
   refine rN <| qM q q q <| A q (qt_add q q) q q <| qA q q q <| rN <| qM q q q ?_
   refine qM q q q <| qM q q q ?_
   obtain ⟨x23, hx24, hs9⟩ := D hs9
   refine b H21.ctx hS0 hx24 u87 i119 q q q q (fun b25 off26 cap27 hv28 => ?_)
   refine qF uf119 fi119_1 nz3 q q q ?_
   refine WL_storeH (fo := 1) (cs' := [iV (IntKind.wrap .i64 (s1 + 1))]) H21 hx24 hv28 (Upd.snd (Upd.whole (Blt.int))) q il3 q q q q (fun w29 H30 => ?_)
   refine B <| Z <| qM q q q <| A q (qt_add q q) q q <| qA q q q <| WL_nil fun a ha => ?_
   refine zi (X (S ?_ ha))
   refine Z <| qM q q q <| A q (qt_add q q) q q <| qA q q q <| WL_nil fun a ha => ?_
   obtain rfl := L hs9
   exact ⟨q, ha.sub ⟨q, q, q, trivial⟩, H30⟩
  have hs9 := if_f hc13 hs9
  refine WP_exit fun a ha => ?_
  obtain rfl := L hs9
  exact zo (⟨exit_ne, q, ha.sub ⟨q, q, trivial⟩, H12⟩)
 intro e a6 w32 hO33
 obtain ⟨p34, p35⟩ := o4
 obtain ⟨rfl, hO37⟩ := hO33
 obtain ⟨ha, H36⟩ := hO37
 refine zn (X (S ?_ ha))
 refine rR <| qM q q q <| qA q q q <| B <| W fun a ha => ?_
 obtain rfl := L h
 exact ret1 q ha q ⟨q, H36⟩
end Go.Proofs.YtcjkbcdlpfgbgaaGreatDoor
