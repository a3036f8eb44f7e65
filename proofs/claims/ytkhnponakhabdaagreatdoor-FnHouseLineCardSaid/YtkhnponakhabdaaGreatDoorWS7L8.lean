/- The walks: each Go function computes its shallow function. Printed by a program. -/
import Derived.Test.YtkhnponakhabdaaGreatDoorWS7L7
set_option linter.unusedVariables false
set_option maxRecDepth 10000
set_option maxHeartbeats 8000000
namespace Go.Proofs.YtkhnponakhabdaaGreatDoor
open Go Go.RowKit
theorem w_laws_sameInts {w G vp0 p0 vp1 p1 r} (h : laws_sameIntsS p0 p1 = some r) (hp0 : Has G tI vp0 p0) (hp1 : Has G tI vp1 p1) (H : Ctx w G) : Calls Tryz.prog 34 #[vp0, vp1] w fun e w' => e = .returned (.bool r) ∧ Holds M0 w w' [] G := by
 refine F0 26 H Tryz.func34 q fun H => ?_
 refine rR <| qa q <| B <| C <| rR <| qm q <| qz H.ctx (hp0) u24 q <| qm q <| qz H.ctx (hp1) u24 q <| qi (qt_neq q q) q <| B ?_
 refine Yh q h (fun h => ?_) (fun h => ?_)
 ·cases h
  exact rR <| qa q <| B <| W fun a ha => m (ret1 q ha q ⟨q, H⟩)
 refine y <| C <| rR <| qa q <| B <| g <| O h fun o2 ah h => ?_
 refine fun a4 aj => zp (I := fun s1 a w2 => (Fr a 26 [(0, vp0), (1, vp1), (5, iV s1)] ∧ Holds M0 w w2 [] G)) (O := fun o e a w2 => match o with | .inl _ => e = .exit 0 ∧ (Fr a 26 [] ∧ Holds M0 w w2 [] G) | .inr q0 => e = .ret ∧ (Fr a 26 [(4, .bool q0)] ∧ Holds M0 w w2 [] G)) ah ?_ ?_ ?_
 ·exact ⟨aj.s, H⟩
 ·rintro s1 _ a w6 aa ⟨ha, ab⟩
  refine S1 ha <| C <| rR <| qm q <| qm q <| qz ab.ctx (hp0) u24 q <| qi (qt_lss q q) q <| B ?_
  refine Yh q aa (fun aa => ?_) (fun aa => ?_)
  ·refine y <| C <| g <| C <| WP_quiet (by kernel_rfl) (by kernel_rfl) <| qm q <| qm q <| O aa fun ap ad aa => qe ab (hp0) ad u24 i3 q fun _ _ ak => eI u3 ak q <| qm q <| qm q <| O aa fun av ae aa => qe ab (hp1) ae u24 i3 q fun _ _ al => eI u3 al q <| qi (qt_neq q q) q <| Qn ab fun a ha az af => X <| S1 ha ?_
   refine Yh q aa (fun aa => ?_) (fun aa => ?_)
   ·cases aa
    exact rR <| qa q <| B <| W fun a ha => zj (m (⟨ret_ne, q, ha.s, af⟩))
   cases aa
   exact WP_skip fun a ha => zi <| X <| S1 ha <| Z <| qm q <| qi (qt_add q q) q <| qa q <| WL_nil fun a ha => ⟨q, ha.s, af⟩
  cases aa
  exact WP_exit fun a ha => zo (⟨exit_ne, q, ha.s, ab⟩)
 intro e a aA ag
 rcases o2 with o2 | o2
 ·obtain ⟨rfl, ha, am⟩ := ag
  cases h
  exact zn <| X <| S1 ha <| rR <| qa q <| B <| W fun a ha => ret1 q ha q ⟨q, am⟩
 obtain ⟨rfl, ha, ao⟩ := ag
 obtain rfl := L h
 exact zj (m (ret1 q ha q ⟨q, ao⟩))
theorem w_laws_sameItem {w G B0 A1 B1 B2 p1_0 A1_1 p1_1 p1_2 r} (h : laws_sameItemS B0 B1 B2 p1_0 p1_1 p1_2 = some r) (C1 : Has G ty2 A1 B1) (hp1_1 : Has G ty2 A1_1 p1_1) (H : Ctx w G) : Calls Tryz.prog 35 #[.agg #[iV B0, A1, iV B2], .agg #[iV p1_0, A1_1, iV p1_2]] w fun e w' => e = .returned (.bool r) ∧ Holds M0 w w' [] G := by
 refine F0 45 H Tryz.func35 q fun H => ?_
 refine C <| Z <| WL_box (cs := [iV B0, A1, iV B2]) H q q q q fun b1 w2 H3 => WL_box (cs := [iV p1_0, A1_1, iV p1_2]) H3 q q q q fun b5 w6 H7 => qa q <| B <| C <| rR <| qf uf70 fi70_0 nz3 q <| ql u3 H7.p1 q <| qf uf70 fi70_0 nz3 q <| ql u3 H7.p0 q <| qi (qt_neq q q) q <| qm q ?_
 refine Ho (res := ((B0 != p1_0) || (B2 != p1_2))) 5 os (fun ae aE ap => ?_) ?_
 ·exact jf uf70 fi70_2 nz3 ae q <| jl u3 H7.p1 ae q <| jf uf70 fi70_2 nz3 ae q <| jl u3 H7.p0 ae q <| ji (qt_neq q q) ae q <| ap 5 q q q (oi ae)
 refine qm q ?_
 refine Ho (res := (((B0 != p1_0) || (B2 != p1_2)) || ((List.length B1 : Int) != (List.length p1_1 : Int)))) 7 os (fun ad aF aq => ?_) ?_
 ·exact jf uf70 fi70_1 nz68 ad q <| jl u68 H7.p1 ad q <| jz H7.ctx (C1.c.c) u68 ad q <| jf uf70 fi70_1 nz68 ad q <| jl u68 H7.p0 ad q <| jz H7.ctx (hp1_1.c.c) u68 ad q <| ji (qt_neq q q) ad q <| aq 7 q q q (oi ad)
 refine B ?_
 refine Yh q h (fun h => ?_) (fun h => ?_)
 ·cases h
  exact rR <| qa q <| B <| W fun a ha => m (ret1 q ha q ⟨q, H7.q0.q0⟩)
 refine y <| C <| rR <| qa q <| B <| g <| O h fun ah au h => ?_
 refine fun aG aw => zp (I := fun aj a w2 => (Fr a 45 [(2, pB b1), (3, pB b5), (5, iV aj)] ∧ Holds M0 w w2 [.bx b1 70 [iV B0, A1, iV B2], .bx b5 70 [iV p1_0, A1_1, iV p1_2]] G)) (O := fun o e a w2 => match o with | .inl _ => e = .exit 0 ∧ (Fr a 45 [] ∧ Holds M0 w w2 [] G) | .inr q0 => e = .ret ∧ (Fr a 45 [(4, .bool q0)] ∧ Holds M0 w w2 [] G)) au ?_ ?_ ?_
 ·exact ⟨aw.s, H7.p1⟩
 ·rintro aj _ a aH aa ⟨ha, ab⟩
  refine S1 ha <| C <| rR <| qm q <| qf uf70 fi70_1 nz68 q <| ql u68 ab.p0 q <| qz ab.ctx (C1.c.c) u68 q <| qi (qt_lss q q) q <| B ?_
  refine Yh q aa (fun aa => ?_) (fun aa => ?_)
  ·refine y <| C <| g <| C <| WP_quiet (by kernel_rfl) (by kernel_rfl) <| qf uf70 fi70_1 nz68 q <| ql u68 ab.p0 q <| qm q <| O aa fun af ak aa => qe ab (C1.c.c) ak u68 i79 q fun _ _ ax => lP [iV af.1, iV af.2] us79 uo79 i79 ax q q q q <| qf uf70 fi70_1 nz68 q <| ql u68 ab.p1 q <| qm q <| O aa fun ag al aa => qe ab (hp1_1.c.c) al u68 i79 q fun _ _ ay => lP [iV ag.1, iV ag.2] us79 uo79 i79 ay q q q q <| qi (qt_neqA q q (by kernel_rfl) (eqs79 af.1 ag.1 af.2 ag.2)) q <| Qn ab fun a ha aO am => X <| S1 ha ?_
   refine Yh q aa (fun aa => ?_) (fun aa => ?_)
   ·cases aa
    exact rR <| qa q <| B <| W fun a ha => zj (m (⟨ret_ne, q, ha.s, am.q0.q0⟩))
   cases aa
   exact WP_skip fun a ha => zi <| X <| S1 ha <| Z <| qm q <| qi (qt_add q q) q <| qa q <| WL_nil fun a ha => ⟨q, ha.s, am.p1.p1⟩
  cases aa
  exact WP_exit fun a ha => zo (⟨exit_ne, q, ha.s, ab.q0.q0⟩)
 intro e a aP ao
 rcases ah with ah | ah
 ·obtain ⟨rfl, ha, aC⟩ := ao
  cases h
  exact zn <| X <| S1 ha <| rR <| qa q <| B <| W fun a ha => ret1 q ha q ⟨q, aC⟩
 obtain ⟨rfl, ha, aD⟩ := ao
 obtain rfl := L h
 exact zj (m (ret1 q ha q ⟨q, aD⟩))
theorem w_laws_sameTicket {w G vp0 p0 vp1 p1 r} (h : laws_sameTicketS p0 p1 = some r) (hp0 : Has G ty2 vp0 p0) (hp1 : Has G ty2 vp1 p1) (H : Ctx w G) : Calls Tryz.prog 36 #[vp0, vp1] w fun e w' => e = .returned (.bool r) ∧ Holds M0 w w' [] G := by
 refine F0 26 H Tryz.func36 q fun H => ?_
 refine rR <| qa q <| B <| C <| rR <| qm q <| qz H.ctx (hp0) u36 q <| qm q <| qz H.ctx (hp1) u36 q <| qi (qt_neq q q) q <| B ?_
 refine Yh q h (fun h => ?_) (fun h => ?_)
 ·cases h
  exact rR <| qa q <| B <| W fun a ha => m (ret1 q ha q ⟨q, H⟩)
 refine y <| C <| rR <| qa q <| B <| g <| O h fun o2 ak h => ?_
 refine fun a4 al => zp (I := fun s1 a w2 => (Fr a 26 [(0, vp0), (1, vp1), (5, iV s1)] ∧ Holds M0 w w2 [] G)) (O := fun o e a w2 => match o with | .inl _ => e = .exit 0 ∧ (Fr a 26 [] ∧ Holds M0 w w2 [] G) | .inr q0 => e = .ret ∧ (Fr a 26 [(4, .bool q0)] ∧ Holds M0 w w2 [] G)) ak ?_ ?_ ?_
 ·exact ⟨al.s, H⟩
 ·rintro s1 _ a w6 aa ⟨ha, ab⟩
  refine S1 ha <| C <| rR <| qm q <| qm q <| qz ab.ctx (hp0) u36 q <| qi (qt_lss q q) q <| B ?_
  refine Yh q aa (fun aa => ?_) (fun aa => ?_)
  ·refine y <| C <| g <| C <| WP_quiet (by kernel_rfl) (by kernel_rfl) <| qm q <| qm q <| O aa fun ad af aa => qe ab (hp0) af u36 i123 q fun _ _ am => lP [iV ad.1, iV ad.2] us123 uo123 i123 am q q q q <| qm q <| qm q <| O aa fun ae ag aa => qe ab (hp1) ag u36 i123 q fun _ _ ao => lP [iV ae.1, iV ae.2] us123 uo123 i123 ao q q q q <| qi (qt_neqA q q (by kernel_rfl) (eqs123 ad.1 ae.1 ad.2 ae.2)) q <| Qn ab fun a ha az ah => X <| S1 ha ?_
   refine Yh q aa (fun aa => ?_) (fun aa => ?_)
   ·cases aa
    exact rR <| qa q <| B <| W fun a ha => zj (m (⟨ret_ne, q, ha.s, ah⟩))
   cases aa
   exact WP_skip fun a ha => zi <| X <| S1 ha <| Z <| qm q <| qi (qt_add q q) q <| qa q <| WL_nil fun a ha => ⟨q, ha.s, ah⟩
  cases aa
  exact WP_exit fun a ha => zo (⟨exit_ne, q, ha.s, ab⟩)
 intro e a aA aj
 rcases o2 with o2 | o2
 ·obtain ⟨rfl, ha, ap⟩ := aj
  cases h
  exact zn <| X <| S1 ha <| rR <| qa q <| B <| W fun a ha => ret1 q ha q ⟨q, ap⟩
 obtain ⟨rfl, ha, aq⟩ := aj
 obtain rfl := L h
 exact zj (m (ret1 q ha q ⟨q, aq⟩))
theorem w_laws_sameHouse {w G A0 B0 A1 B1 A2 B2 B3 A4 B4 A1_0 p1_0 A1_1 p1_1 A1_2 p1_2 p1_3 A1_4 p1_4 r} (h : laws_sameHouseS B0 B1 B2 B3 B4 p1_0 p1_1 p1_2 p1_3 p1_4 = some r) (C0 : Has G ty12 A0 B0) (C1 : Has G tI A1 B1) (C2 : Has G tI A2 B2) (C4 : Has G ty14 A4 B4) (hp1_0 : Has G ty12 A1_0 p1_0) (hp1_1 : Has G tI A1_1 p1_1) (hp1_2 : Has G tI A1_2 p1_2) (hp1_4 : Has G ty14 A1_4 p1_4) (H : Ctx w G) : Calls Tryz.prog 9 #[.agg #[A0, A1, A2, iV B3, A4], .agg #[A1_0, A1_1, A1_2, iV p1_3, A1_4]] w fun e w' => e = .returned (.bool r) ∧ Holds M0 w w' [] G := by
 refine F0 117 H Tryz.func9 q fun H => ?_
 refine C <| Z <| WL_box (cs := [A0, A1, A2, iV B3, A4]) H q q q q fun b1 w2 H3 => WL_box (cs := [A1_0, A1_1, A1_2, iV p1_3, A1_4]) H3 q q q q fun b5 w6 H7 => qa q <| B <| C <| C <| zk <| qf uf27 fi27_0 nz23 q <| ql u23 H7.p1 q <| qz H7.ctx (C0.c.c) u23 q <| qf uf27 fi27_0 nz23 q <| ql u23 H7.p0 q <| qz H7.ctx (hp1_0.c.c) u23 q <| qi (qt_neq q q) q <| qm q <| O h fun aU am h => ?_
 refine Go (res := aU) 6 (if_t · am) (fun ak bV aV => ?_) ?_
 ·exact have am := if_f ak am; jf uf27 fi27_1 nz24 ak q <| jl u24 H7.p1 ak q <| jf uf27 fi27_1 nz24 ak q <| jl u24 H7.p0 ak q <| O am fun bW aW am => jc ak q c34 H7 (fun _ => w_laws_sameInts aW (C1.c.c) (hp1_1.c.c)) <| ji (qt_not q) ak q <| aV 6 q q q am
 refine qm q <| O h fun aw ao h => ?_
 refine Go (res := aw) 6 (if_t · ao) (fun al bX aX => ?_) ?_
 ·exact have ao := if_f al ao; jf uf27 fi27_2 nz24 al q <| jl u24 H7.p1 al q <| jf uf27 fi27_2 nz24 al q <| jl u24 H7.p0 al q <| O ao fun bY aY ao => jc al q c34 H7 (fun _ => w_laws_sameInts aY (C2.c.c) (hp1_2.c.c)) <| ji (qt_not q) al q <| aX 6 q q q ao
 refine qm q ?_
 refine Go (res := (aw || (B3 != p1_3))) 5 os (fun ap bZ aZ => ?_) ?_
 ·exact jf uf27 fi27_3 nz3 ap q <| jl u3 H7.p1 ap q <| jf uf27 fi27_3 nz3 ap q <| jl u3 H7.p0 ap q <| ji (qt_neq q q) ap q <| aZ 5 q q q (oi ap)
 refine qm q ?_
 refine Go (res := ((aw || (B3 != p1_3)) || ((List.length B4 : Int) != (List.length p1_4 : Int)))) 7 os (fun aj b0 a0 => ?_) ?_
 ·exact jf uf27 fi27_4 nz25 aj q <| jl u25 H7.p1 aj q <| jz H7.ctx (C4.c.c) u25 aj q <| jf uf27 fi27_4 nz25 aj q <| jl u25 H7.p0 aj q <| jz H7.ctx (hp1_4.c.c) u25 aj q <| ji (qt_neq q q) aj q <| a0 7 q q q (oi aj)
 refine Qn H7 fun a ha b4 aD => X <| S1 ha ?_
 refine Yh q h (fun h => ?_) (fun h => ?_)
 ·cases h
  exact rR <| qa q <| B <| W fun a ha => m (ret1 q ha q ⟨q, aD.q0.q0⟩)
 refine y <| C <| rR <| qa q <| B <| g <| O h fun ax a2 h => ?_
 refine fun b6 a4 => zp (I := fun aE a w2 => (Fr a 117 [(2, pB b1), (3, pB b5), (5, iV aE)] ∧ Holds M0 w w2 [.bx b1 27 [A0, A1, A2, iV B3, A4], .bx b5 27 [A1_0, A1_1, A1_2, iV p1_3, A1_4]] G)) (O := fun o e a w2 => match o with | .inl _ => e = .exit 0 ∧ (Fr a 117 [(2, pB b1), (3, pB b5)] ∧ Holds M0 w w2 [.bx b1 27 [A0, A1, A2, iV B3, A4], .bx b5 27 [A1_0, A1_1, A1_2, iV p1_3, A1_4]] G) | .inr q0 => e = .ret ∧ (Fr a 117 [(4, .bool q0)] ∧ Holds M0 w w2 [] G)) a2 ?_ ?_ ?_
 ·exact ⟨a4.s, aD.p1⟩
 ·rintro aE _ a aF ad ⟨ha, aq⟩
  refine S1 ha <| C <| rR <| qm q <| qf uf27 fi27_0 nz23 q <| ql u23 aq.p0 q <| qz aq.ctx (C0.c.c) u23 q <| qi (qt_lss q q) q <| B ?_
  refine Yh q ad (fun ad => ?_) (fun ad => ?_)
  ·refine y <| C <| g <| C <| WP_quiet (by kernel_rfl) (by kernel_rfl) <| qf uf27 fi27_0 nz23 q <| ql u23 aq.p0 q <| qm q <| O ad fun ar aG ad => qb aq.ctx (C0.c.c) aG u23 i70 q fun b7 b8 b9 a5 => ?_
   obtain ⟨ca, a6, a7⟩ := aq.atN (C0.c.c) aG a5
   refine XL_load_agg (t := ty12) us70 uo70 i70 a6 q q q fun cb a8 => ?_
   obtain ⟨c68, c69, cc, cd, rfl, a9, ba, bb⟩ := a8
   obtain ⟨rfl, _⟩ := ba
   obtain ⟨ce, c76, cf, cg, rfl, bc, bd, be⟩ := bb
   obtain ⟨au, rfl, bf⟩ := Rep.sl_inv bd
   obtain ⟨rfl, _⟩ := be
   have ay : Holds _ w aF [.ro ty2 au ar.2.1, .bx b1 27 [A0, A1, A2, iV B3, A4], .bx b5 27 [A1_0, A1_1, A1_2, iV p1_3, A1_4]] G := a7 [.ro ty2 au ar.2.1] ⟨⟨_, _, _, _, q, bf, (fun k h => (fun k h => (fun _ h => h) k (by rw [a9]; exact zx _ h)) k (by rw [bc]; exact List.mem_append_left _ h))⟩, trivial⟩
   change XL _ _ _ _ _ ((57, .agg #[iV ar.1, au, iV ar.2.2]) :: _) _
   refine qf uf27 fi27_0 nz23 q <| ql u23 ay.p2 q <| qm q <| O ad fun av aH ad => qb ay.ctx (hp1_0.c.c.c) aH u23 i70 q fun ch ci cj bg => ?_
   obtain ⟨ck, bh, bi⟩ := ay.atN (hp1_0.c.c.c) aH bg
   refine XL_load_agg (t := ty12) us70 uo70 i70 bh q q q fun cl bj => ?_
   obtain ⟨c97, c98, cm, cn, rfl, bk, bl, bm⟩ := bj
   obtain ⟨rfl, _⟩ := bl
   obtain ⟨c104, c105, co, cp, rfl, bn, bo, bp⟩ := bm
   obtain ⟨az, rfl, bq⟩ := Rep.sl_inv bo
   obtain ⟨rfl, _⟩ := bp
   have aI : Holds _ w aF [.ro ty2 az av.2.1, .ro ty2 au ar.2.1, .bx b1 27 [A0, A1, A2, iV B3, A4], .bx b5 27 [A1_0, A1_1, A1_2, iV p1_3, A1_4]] G := bi [.ro ty2 az av.2.1] ⟨⟨_, _, _, _, q, bq, (fun k h => (fun k h => (fun _ h => h) k (by rw [bk]; exact zx _ h)) k (by rw [bn]; exact List.mem_append_left _ h))⟩, trivial⟩
   change XL _ _ _ _ _ ((62, .agg #[iV av.1, az, iV av.2.2]) :: _) _
   refine O ad fun cq br ad => qc q c35 aI (fun _ => w_laws_sameItem br hR1 hR0) <| qi (qt_not q) q <| Qn aI fun a ha cr aJ => X <| S1 ha ?_
   refine Yh q ad (fun ad => ?_) (fun ad => ?_)
   ·cases ad
    exact rR <| qa q <| B <| W fun a ha => zj (m (⟨ret_ne, q, ha.s, aJ.q0.q0.q0.q0⟩))
   cases ad
   exact WP_skip fun a ha => zi <| X <| S1 ha <| Z <| qm q <| qi (qt_add q q) q <| qa q <| WL_nil fun a ha => ⟨q, ha.s, aJ.q0.q0.p1.p1⟩
  cases ad
  exact WP_exit fun a ha => zo (⟨exit_ne, q, ha.s, aq.p1.p1⟩)
 intro e a ct aK
 rcases ax with ax | ax
 ·obtain ⟨rfl, ha, bv⟩ := aK
  refine zn <| X <| S1 ha <| C <| rR <| qa q <| B <| g <| O h fun aA bw h => ?_
  refine fun cu bA => zp (I := fun aL a w2 => (Fr a 117 [(2, pB b1), (3, pB b5), (6, iV aL)] ∧ Holds M0 w w2 [.bx b1 27 [A0, A1, A2, iV B3, A4], .bx b5 27 [A1_0, A1_1, A1_2, iV p1_3, A1_4]] G)) (O := fun o e a w2 => match o with | .inl _ => e = .exit 2 ∧ (Fr a 117 [] ∧ Holds M0 w w2 [] G) | .inr q0 => e = .ret ∧ (Fr a 117 [(4, .bool q0)] ∧ Holds M0 w w2 [] G)) bw ?_ ?_ ?_
  ·exact ⟨bA.s, bv.p1.p1⟩
  ·rintro aL _ a cv aa ⟨ha, ab⟩
   refine S1 ha <| C <| rR <| qm q <| qf uf27 fi27_4 nz25 q <| ql u25 ab.p0 q <| qz ab.ctx (C4.c.c) u25 q <| qi (qt_lss q q) q <| B ?_
   refine Yh q aa (fun aa => ?_) (fun aa => ?_)
   ·refine y <| C <| g <| C <| WP_quiet (by kernel_rfl) (by kernel_rfl) <| qf uf27 fi27_4 nz25 q <| ql u25 ab.p0 q <| qm q <| O aa fun cw aM aa => qe ab (C4.c.c) aM u25 i38 q fun _ _ bB => qf uf38 fi38_0 nz3 q <| eI u3 bB.f q <| qf uf27 fi27_4 nz25 q <| ql u25 ab.p1 q <| qm q <| O aa fun cA aN aa => qe ab (hp1_4.c.c) aN u25 i38 q fun _ _ bC => qf uf38 fi38_0 nz3 q <| eI u3 bC.f q <| qi (qt_neq q q) q <| qm q <| O aa fun bD ag aa => ?_
    refine Go (res := bD) 14 (if_t · ag) (fun ae cE bE => ?_) ?_
    ·exact have ag := if_f ae ag; jf uf27 fi27_4 nz25 ae q <| jl u25 ab.p0 ae q <| jm ae q <| O ag fun cF aO ag => je ab (C4.c.c) aO u25 i38 ae q fun _ _ bF => jf uf38 fi38_1 nz36 ae q <| jV u36 bF.s.f ae q fun cJ aB => jf uf27 fi27_4 nz25 ae q <| jl u25 aB.p2 ae q <| jm ae q <| O ag fun cK aP ag => je aB (hp1_4.c.c.c) aP u25 i38 ae q fun _ _ bG => jf uf38 fi38_1 nz36 ae q <| jV u36 bG.s.f ae q fun cO bH => O ag fun cP bI ag => jc ae q c36 bH (fun _ => w_laws_sameTicket bI hR1 hR0) <| ji (qt_not q) ae q <| bE 14 q q q ag
    refine qm q <| O aa fun bJ ah aa => ?_
    refine Go (res := bJ) 14 (if_t · ah) (fun af cQ bK => ?_) ?_
    ·exact have ah := if_f af ah; jf uf27 fi27_4 nz25 af q <| jl u25 ab.p0 af q <| jm af q <| O ah fun cR aQ ah => je ab (C4.c.c) aQ u25 i38 af q fun _ _ bL => jf uf38 fi38_2 nz24 af q <| jV u24 bL.s.s af q fun cV aC => jf uf27 fi27_4 nz25 af q <| jl u25 aC.p2 af q <| jm af q <| O ah fun cW aR ah => je aC (hp1_4.c.c.c) aR u25 i38 af q fun _ _ bM => jf uf38 fi38_2 nz24 af q <| jV u24 bM.s.s af q fun c0 bN => O ah fun c1 bO ah => jc af q c34 bN (fun _ => w_laws_sameInts bO hR1 hR0) <| ji (qt_not q) af q <| bK 14 q q q ah
    refine Qn ab fun a ha c2 aS => X <| S1 ha ?_
    refine Yh q aa (fun aa => ?_) (fun aa => ?_)
    ·cases aa
     exact rR <| qa q <| B <| W fun a ha => zj (m (⟨ret_ne, q, ha.s, aS.q0.q0⟩))
    cases aa
    exact WP_skip fun a ha => zi <| X <| S1 ha <| Z <| qm q <| qi (qt_add q q) q <| qa q <| WL_nil fun a ha => ⟨q, ha.s, aS.p1.p1⟩
   cases aa
   exact WP_exit fun a ha => zo (⟨exit_ne, q, ha.s, ab.q0.q0⟩)
  intro e a c3 aT
  rcases aA with aA | aA
  ·obtain ⟨rfl, ha, bS⟩ := aT
   cases h
   exact zn <| X <| S1 ha <| rR <| qa q <| B <| W fun a ha => ret1 q ha q ⟨q, bS⟩
  obtain ⟨rfl, ha, bT⟩ := aT
  obtain rfl := L h
  exact zj (m (ret1 q ha q ⟨q, bT⟩))
 obtain ⟨rfl, ha, bU⟩ := aK
 obtain rfl := L h
 exact zj (m (ret1 q ha q ⟨q, bU⟩))
theorem w_laws_noHouse {w G A0 B0 A1 B1 A2 B2 B3 A4 B4 r} (h : laws_noHouseS B0 B1 B2 B3 B4 = some r) (C0 : Has G ty12 A0 B0) (C1 : Has G tI A1 B1) (C2 : Has G tI A2 B2) (C4 : Has G ty14 A4 B4) (H : Ctx w G) : Calls Tryz.prog 12 #[.agg #[A0, A1, A2, iV B3, A4]] w fun e w' => e = .returned (.bool r) ∧ Holds M0 w w' [] G := by
 refine F0 6 H Tryz.func12 q fun H => ?_
 refine C <| Z <| WL_box (cs := [A0, A1, A2, iV B3, A4]) H q q q q fun b1 w2 H3 => qa q <| B <| C <| zk <| eA H3.p0 us27 uo27 il27 q <| qi (qt_build (args := []) (css := []) (cells := #[nS, nS, nS, iV 0, nS]) q trivial (by kernel_rfl)) q <| O h fun x6 aa h => qc q c9 H3 (fun _ => w_laws_sameHouse aa (C0.c) (C1.c) (C2.c) (C4.c) (HasRo.has HasRo.nil) (HasRo.has HasRo.nil) (HasRo.has HasRo.nil) (HasRo.has HasRo.nil)) <| qa q <| Qn H3 fun a ha w8 ab => X <| S1 ha <| W fun a ha => ?_
 obtain rfl := L h
 exact ret1 q ha q ⟨q, ab.q0⟩
theorem w_laws_FnHouseLine (w : World) (G : List Res) (hGl : Glob G) (hGm : GlobM G) (hGp : GlobP G) (vp0 : Value) (p0 : List Int) (hp0 : HasRo G (.int .u8) vp0 p0) (r : Bool) (h : laws_FnHouseLineS p0 = some r) (H : Ctx w G) : Calls Tryz.prog 4 #[vp0] w fun e w' => e = .returned (.bool r) ∧ Holds M0 w w' [] G := by
 refine F0 77 H Tryz.func4 q fun H => ?_
 refine rR <| qa q <| B <| C <| rR <| qm q <| qz H.ctx (hp0.has) u22 q <| qi (qt_gtr q q) q <| B ?_
 refine Yh q h (fun h => ?_) (fun h => ?_)
 ·cases h
  exact rR <| qa q <| B <| W fun a ha => m (ret1 q ha q ⟨q, H⟩)
 refine y <| rR <| qm q <| O h fun x1 aP h => U4 q c15 (w_spec_DrawHouseLine aP (hp0) H.ctx) fun v5 v6 v7 v8 w3 H4 => have H9 := H.cN4 [] H4; qm q <| qi (zv q q) q <| qi (zv q q) q <| zq (cs := [nS, nS, nS, iV 0, nS]) H9 z27 q q q fun aE bD ak => zl (cs' := [v5, v6, v7, iV x1.1.2.2.2.1, v8]) ak q il27 q (T (ak.ctx.sliceOne hR1) (T (ak.ctx.sliceOne hR2) (T (ak.ctx.sliceOne hR3) (T q (T (ak.ctx.sliceOne hR4) q))))) q q q fun bE aB => qa q <| rN <| eA aB.p0 us27 uo27 il27 q <| qm q <| O h fun aa aQ h => zd q q c14 (w_impl_HouseLine aQ hGl.c.c.c.c.c hGm.c.c.c.c.c hGp.c.c.c.c.c hR1 hR2 hR3 hR4 aB.ctx) q ?_
 rintro _ bF ⟨al, bG, bH, am, ao, ap, aR, aS, rfl, aT⟩; refine ⟨_, q, ?_⟩
 refine have aU := aB.cN4 [] aT; qm q <| qi (zv q q) q <| qi (zv q q) q <| zq (cs := [nS, nS, nS, iV 0, nS]) aU z27 q q q fun aF bI aG => have au := aG.viewG (Vw.c (Vw.d (Vw.c (Vw.c (Vw.d (Vw.c (Vw.c (Vw.c (Vw.c (Vw.c Vw.refl)))))))))); zl (cs' := [al, am, ao, iV aa.1.2.2.2.1, ap]) aG q il27 q (T (au.sliceOne hR1) (T (au.sliceOne hS2) (T (au.sliceOne hS3) (T q (T (au.sliceOne hR4) q))))) q q q fun aH aI => qa q <| rN <| eA aI.p5 us27 uo27 il27 q <| qm q <| ?_
 have aW : Holds _ w aH [.ro ty12 al aa.1.1, .bx aF 27 [al, am, ao, iV aa.1.2.2.2.1, ap], .sl 3 tI am aa.1.2.1, .sl 3 tI ao aa.1.2.2.1, dpR 38 dt16 ap aR aa.1.2.2.2.2 aS, .bx aE 27 [v5, v6, v7, iV x1.1.2.2.2.1, v8], .ro ty12 v5 x1.1.1, .ro tI v6 x1.1.2.1, .ro tI v7 x1.1.2.2.1, .ro ty14 v8 x1.1.2.2.2.2] G := aI.p1.freezeD
 have aJ : Holds _ w aH [.ro ty14 ap aa.1.2.2.2.2, .ro ty12 al aa.1.1, .bx aF 27 [al, am, ao, iV aa.1.2.2.2.1, ap], .sl 3 tI am aa.1.2.1, .sl 3 tI ao aa.1.2.2.1, .bx aE 27 [v5, v6, v7, iV x1.1.2.2.2.1, v8], .ro ty12 v5 x1.1.1, .ro tI v6 x1.1.2.1, .ro tI v7 x1.1.2.2.1, .ro ty14 v8 x1.1.2.2.2.2] G := aW.p4.freezeD
 refine O h fun aK aY h => U4 q c16 (w_spec_HouseLine aY hR6 hR7 hR8 hR9 aJ.ctx) fun aZ a0 a1 a2 bJ a3 => have a4 := aJ.cN4 [] a3; qm q <| qi (zv q q) q <| qi (zv q q) q <| zq (cs := [nS, nS, nS, iV 0, nS]) a4 z27 q q q fun bK bL aq => zl (cs' := [aZ, a0, a1, iV aK.1.2.2.2.1, a2]) aq q il27 q (T (aq.ctx.sliceOne hS1) (T (aq.ctx.sliceOne hS2) (T (aq.ctx.sliceOne hS3) (T q (T (aq.ctx.sliceOne hS4) q))))) q q q fun bM av => qa q <| B <| C <| C <| zk <| eA av.p7 us27 uo27 il27 q <| eA av.p0 us27 uo27 il27 q <| O h fun a5 a6 h => qc q c9 av (fun _ => w_laws_sameHouse a6 hR6 hS8 hS9 hR5 hS1 hS2 hS3 hS4) <| qi (qt_not q) q <| qm q ?_
 refine Go (res := ((!a5) || (aa.2 != aK.2))) 3 os (fun aw bN a7 => ?_) ?_
 ·exact jm aw q <| jm aw q <| ji (qt_sneq q q) aw q <| a7 3 q q q (oi aw)
 refine Qn av fun a ha bO ax => X <| S1 ha ?_
 refine Yh q h (fun h => ?_) (fun h => ?_)
 ·cases h
  exact rR <| qa q <| B <| W fun a ha => m (ret1 q ha q ⟨q, ax.q0.q0.q0.q0.q0.q0.q0.q0.q0.q0.q0.q0.q0.q0.q0⟩)
 refine y <| C <| C <| zk <| eA ax.p10 us27 uo27 il27 q <| O h fun bP a9 h => qc q c11 ax (fun _ => w_spec_HouseValid a9 hR11 hR12 hR13 hR14) <| qi (qt_not q) q <| Qn ax fun a ha bQ ad => X <| S1 ha ?_
 refine Yh q h (fun h => ?_) (fun h => ?_)
 ·refine C <| zk <| qm q <| qi (qt_seql q q) q <| qm q <| O h fun ba ae h => ?_
  refine Ga (res := ba) 2 (if_f · ae) (fun aC bR bb => ?_) ?_
  ·exact have ae := if_t aC ae; jA ad.p7 us27 uo27 il27 aC q <| O ae fun bS bc ae => jc aC q c12 ad (fun _ => w_laws_noHouse bc hR6 hS8 hS9 hR5) <| bb 2 q q q ae
  refine qm q <| O h fun bd af h => ?_
  refine Ga (res := bd) 1 (if_f · af) (fun aL bT be => ?_) ?_
  ·exact have af := if_t aL af; O af fun bf bg af => QC (J q aL) q c13 (fun w' hb => w_laws_alive w' _  bf bg (ad.grow hb).ctx) (by rfl) <| be 1 q q q af
  refine qa q <| Qn ad fun a ha bU bh => X <| S1 ha <| W fun a ha => ?_
  obtain rfl := L h
  exact m (ret1 q ha q ⟨q, bh.q0.q0.q0.q0.q0.q0.q0.q0.q0.q0.q0.q0.q0.q0.q0⟩)
 refine y <| rR <| eA ad.p10 us27 uo27 il27 q <| O h fun aM bj h => zd q q c14 (w_impl_HouseLine bj hGl.c.c.c.c.c.c.c.c.c.c.c.c.c.c.c hGm.c.c.c.c.c.c.c.c.c.c.c.c.c.c.c hGp.c.c.c.c.c.c.c.c.c.c.c.c.c.c.c hR11 hR12 hR13 hR14 ad.ctx) q ?_
 rintro _ bV ⟨bk, bW, bX, bl, bm, bn, bY, bZ, rfl, bo⟩; refine ⟨_, q, ?_⟩
 refine have bp := ad.cN4 [] bo; qm q <| qi (zv q q) q <| qi (zv q q) q <| zq (cs := [nS, nS, nS, iV 0, nS]) bp z27 q q q fun b0 b4 aN => have ay := aN.viewG (Vw.c (Vw.d (Vw.c (Vw.c (Vw.d (Vw.c (Vw.c (Vw.c (Vw.c (Vw.c (Vw.c (Vw.c (Vw.c (Vw.c (Vw.c (Vw.c (Vw.c (Vw.c (Vw.c (Vw.c Vw.refl)))))))))))))))))))); zl (cs' := [bk, bl, bm, iV aM.1.2.2.2.1, bn]) aN q il27 q (T (ay.sliceOne hR1) (T (ay.sliceOne hS2) (T (ay.sliceOne hS3) (T q (T (ay.sliceOne hR4) q))))) q q q fun b5 ab => qa q <| B <| C <| zk <| eA ab.p12 us27 uo27 il27 q <| O h fun b6 bq h => QC q q c17 (fun w' hb => w_impl_HouseValid bq hR11 hS13 hS14 hR10 ((ab.grow hb).viewG (Vw.c (Vw.d (Vw.c (Vw.c (Vw.d (Vw.c (Vw.c (Vw.c (Vw.c (Vw.c (Vw.c (Vw.c (Vw.c (Vw.c (Vw.c (Vw.c (Vw.c (Vw.c (Vw.c (Vw.c Vw.refl)))))))))))))))))))))) (by rfl) <| qm q <| O h fun br ag h => ?_
 refine Ga (res := br) 7 (if_f · ag) (fun ar b7 bs => ?_) ?_
 ·refine have ag := if_t ar ag; jm ar q <| ji (qt_seql q q) ar q <| jm ar q <| O ag fun bt ah ag => ?_
  refine Go (res := bt) (hw := (J q ar)) 3 (if_t · ah) (fun az b8 bu => ?_) ?_
  ·exact have ah := if_f az ah; jA ab.p12 us27 uo27 il27 az q <| jA ab.p15 us27 uo27 il27 az q <| O ah fun b9 bv ah => QC (J q az) q c9 (fun w' hb => w_laws_sameHouse bv hR11 hS13 hS14 hR10 hR16 hR17 hR18 hR19 ((ab.grow hb).viewG (Vw.c (Vw.d (Vw.c (Vw.c (Vw.d (Vw.c (Vw.c (Vw.c (Vw.c (Vw.c (Vw.c (Vw.c (Vw.c (Vw.c (Vw.c (Vw.c (Vw.c (Vw.c (Vw.c (Vw.c Vw.refl)))))))))))))))))))))) (by rfl) <| bu 3 q q q ah
  exact bs 4 q q q ag
 refine qm q <| O h fun aO aj h => ?_
 refine Ga (res := aO) 3 (if_f · aj) (fun aA ca bw => ?_) ?_
 ·exact have aj := if_t aA aj; jA ab.p0 us27 uo27 il27 aA q <| jA ab.p15 us27 uo27 il27 aA q <| O aj fun cb bz aj => QC (J q aA) q c9 (fun w' hb => w_laws_sameHouse bz hR1 hS2 hS3 hR4 hR16 hR17 hR18 hR19 ((ab.grow hb).viewG (Vw.c (Vw.d (Vw.c (Vw.c (Vw.d (Vw.c (Vw.c (Vw.c (Vw.c (Vw.c (Vw.c (Vw.c (Vw.c (Vw.c (Vw.c (Vw.c (Vw.c (Vw.c (Vw.c (Vw.c Vw.refl)))))))))))))))))))))) (by rfl) <| bw 3 q q q aj
 refine qm q ?_
 refine Ga (res := (aO && (aM.2 == ([119, 104, 97, 116] : List UInt8)))) 2 an (fun aD cc bA => ?_) ?_
 ·exact jm aD q <| ji (qt_seql q q) aD q <| bA 2 q q q (ai aD)
 cases h
 exact qa q <| Qn ab fun a ha cd bB => X <| S1 ha <| W fun a ha => ret1 q ha q ⟨q, bB.q0.q0.q0.q0.q0.q0.q0.q0.q0.q0.q0.q0.q0.q0.q0.q0.q0.q0.q0.q0⟩
end Go.Proofs.YtkhnponakhabdaaGreatDoor
