/- The walks: each Go function computes its shallow function. Printed by a program. -/
import Derived.Test.YtpabogkcmbkffaaGreatDoorWS7B5
set_option linter.unusedVariables false
set_option maxRecDepth 10000
namespace Go.Proofs.YtpabogkcmbkffaaGreatDoor
open Go Go.RowKit
theorem w_spec_NextFire (w : World) (G : List Res) (vp0 : Value) (p0 : List LP) (hp0 : Has G ty4 vp0 p0) (r : Int × Int) (h : spec_NextFireS p0 = some r) (H : Ctx w G) : Calls Tryz.prog 100 #[vp0] w fun e w' => e = .returned (.tuple #[iV r.1, iV r.2]) ∧ Holds M0 w w' [] G := by
 have H : Holds M0 w w [] G := zb H
 refine zg (args := [vp0]) (n := 28) Tryz.func100 q q q ?_
 unfold spec_NextFireS at h
 refine rR <| qA q q q <| qA q q q <| B <| C <| rR <| qA q q q <| B ?_
 refine g ?_
 obtain ⟨o2, ar, h⟩ := D h
 refine fun a4 aj => zp (I := fun s a w2 => match s with | s1 => (Fr a 28 [(0, vp0), (4, iV s1)] ∧ Holds M0 w w2 [] G)) (O := fun o e a w2 => match o with | .inl _ => e = .exit 0 ∧ (Fr a 28 [] ∧ Holds M0 w w2 [] G) | .inr (q0, q1) => e = .ret ∧ (Fr a 28 [(2, iV q0), (3, iV q1)] ∧ Holds M0 w w2 [] G)) ar ?_ ?_ ?_
 ·exact ⟨aj.sub ⟨q, q, trivial⟩, H⟩
 ·clear aj
  intro s o8 a w6 aa au
  obtain ⟨s1, rfl⟩ : ∃ z, z = s := ⟨s, q⟩
  obtain ⟨ha, af⟩ := au
  refine S ?_ ha
  clear ha
  refine C <| C <| zk <| qM q q q <| qM q q q <| za af.ctx (t := ty4) (hp0) u81 q q q <| A q (qt_lss q q) q q <| qM q q q ?_
  obtain ⟨av, ad, aa⟩ := D aa
  refine zh 3 13 (.bool av) ?_ (fun md hmd hk => ?_)
  rotate_left
  ·obtain ⟨K, rfl⟩ := zr hmd
   rcases btf (decide (s1 < (List.length p0 : Int))) with ab | ab
   ·skip
    have ad := if_t ab ad
    refine qM (J q ab) q q ?_
    obtain ⟨aw, ax, ad⟩ := D ad
    refine QC (J q ab) q c85 (fun w' hb => w_spec_KitchenValid w' G vp0 p0 (hp0) aw ax (af.grow hb).ctx) (by rfl) <| A q (ze q ab q) q q ?_
    exact hk _ (p (vb ad) (cfn 2 q (u)))
   skip
   refine qS q ab q q <| qS q ab q q <| A q (zf q ab q) q q ?_
   exact hk _ (p (vb (if_f ab ad)) (cfn 2 q (u)))
  refine QL_nil fun a ha ak ay => ?_
  have ag := af.grow ay
  refine X (S ?_ ha)
  refine Y q (fun ah => ?_) (fun ah => ?_)
  ·have aa := if_t ah aa
   refine y <| C <| g <| rR <| qM q q q <| qM q q q ?_
   obtain ⟨al, am, aa⟩ := D aa
   refine b ag.ctx (hp0) am u81 i45 q q q q (fun aQ aR aS az => ?_)
   obtain ⟨aT, aA, aB⟩ := ag.at (hp0) am az
   refine XL_load (t := ty4) u45 q q aA q q q (fun an aC => ?_)
   have ao : Holds _ w ak [.ro ty2 an al] G := aB _ _ _ _ aC (fun _ h => h)
   obtain ⟨aD, aE, aa⟩ := D aa
   refine zd q q c112 (w_spec_TicketMay ak _ an al hR0 aD aE ao.ctx) (by rfl) ?_
   rintro _ aU ⟨aV, rfl, aF⟩; refine ⟨_, q, ?_⟩
   have ae := ao.cN1 [] aF
   refine qA q q q <| rN <| qM q q q <| za ae.ctx (t := tI) hS0 u24 q q q <| A q (qt_gtr q q) q q <| B ?_
   refine Y q (fun ai => ?_) (fun ai => ?_)
   ·have aa := if_t ai aa
    refine C <| WP_quiet (by kernel_rfl) (by kernel_rfl) <| qM q q q <| qM q q q ?_
    obtain ⟨aW, ap, aa⟩ := D aa
    refine b ae.ctx hS0 ap u24 i3 q q q q (fun aX aY aZ aG => ?_)
    obtain ⟨a0, aH, a1⟩ := ae.at hS0 ap aG
    refine zt (k := .i64) u3 q aH q q q <| qA q q q <| qA q q q <| QL_nil fun a ha a2 aI => ?_
    have aJ := ae.grow aI
    refine X (S ?_ ha)
    refine W fun a ha => ?_
    obtain rfl := L aa
    have aK := aJ.q0.q0
    exact zj (m (⟨ret_ne, q, ha.sub ⟨q, q, trivial⟩, aK⟩))
   have aa := if_f ai aa
   refine WP_skip fun a ha => ?_
   refine zi (X (S ?_ ha))
   refine Z <| qM q q q <| A q (qt_add q q) q q <| qA q q q <| WL_nil fun a ha => ?_
   obtain rfl := L aa
   have aL := ae.q0.q0
   exact ⟨q, ha.sub ⟨q, q, trivial⟩, aL⟩
  have aa := if_f ah aa
  refine WP_exit fun a ha => ?_
  obtain rfl := L aa
  exact zo (⟨exit_ne, q, ha.sub trivial, ag⟩)
 intro e a4 a3 aq
 rcases o2 with o2 | o2
 ·skip
  obtain ⟨rfl, aM⟩ := aq
  obtain ⟨ha, aN⟩ := aM
  refine zn (X (S ?_ ha))
  refine rR <| qA q q q <| qA q q q <| B <| W fun a ha => ?_
  obtain rfl := L h
  exact ret2 q ha q q ⟨q, aN⟩
 skip
 obtain ⟨a5, a6⟩ := o2
 obtain ⟨rfl, aO⟩ := aq
 obtain ⟨ha, aP⟩ := aO
 obtain rfl := L h
 exact zj (m (ret2 q ha q q ⟨q, aP⟩))
theorem w_spec_WorkStep (w : World) (G : List Res) (vp0 : Value) (p0 : List LP) (hp0 : Has G ty4 vp0 p0) (r : (List LP) × Bool) (h : spec_WorkStepS p0 = some r) (H : Ctx w G) : Calls Tryz.prog 73 #[vp0] w fun e w' => ∃ (v1 : Value), e = .returned (.tuple #[v1, .bool r.2]) ∧ Holds M0 w w' [.sl 45 ty4 v1 r.1] G := by
 have H : Holds M0 w w [] G := zb H
 refine zg (args := [vp0]) (n := 77) Tryz.func73 q q q ?_
 unfold spec_WorkStepS at h
 refine rR <| qA q q q <| qA q q q <| B <| C <| C <| zk <| qM q q q ?_
 obtain ⟨x1, a3, h⟩ := D h
 refine QC q q c85 (fun w' hb => w_spec_KitchenValid w' G vp0 p0 (hp0) x1 a3 (H.grow hb).ctx) (by rfl) <| A q (qt_not q) q q <| QL_nil fun a ha w3 a4 => ?_
 have H5 := H.grow a4
 refine X (S ?_ ha)
 refine Y q (fun an => ?_) (fun an => ?_)
 ·have h := if_t an h
  refine C <| Z ?_
  refine zs (t := ty4) (args := []) (xs := ([] : List LP)) H5 (BltL.nil) u81 j45 q q q q q q (fun v7 w8 H9 => ?_)
  refine qA q q q <| qA q q q <| B <| W fun a ha => ?_
  obtain rfl := L h
  exact m (ret2 q ha q q ⟨v7, q, H9⟩)
 have h := if_f an h
 refine y <| rR <| qM q q q ?_
 obtain ⟨a5, a6, h⟩ := D h
 refine zd q q c98 (w_spec_l4Copy w3 G vp0 p0 (hp0) a5 a6 H5.ctx) (by rfl) ?_
 rintro _ cd ⟨ab, rfl, a7⟩; refine ⟨_, q, ?_⟩
 have a8 := H5.cN1 [] a7
 refine qA q q q <| B <| C <| rR <| qA q q q <| B <| g ?_
 obtain ⟨ah, a9, h⟩ := D h
 refine fun ba aA => zp (I := fun s a w2 => match s with | (ag, aB) => (Fr a 77 [(0, vp0), (4, ab), (5, iV ag)] ∧ Holds M0 w w2 [.sl 45 ty4 ab aB] G)) (O := fun o e a w2 => match o with | .inl q0 => e = .exit 0 ∧ (Fr a 77 [(0, vp0), (4, ab)] ∧ Holds M0 w w2 [.sl 45 ty4 ab q0] G) | .inr (q0, q1, q2) => e = .ret ∧ ∃ af, Fr a 77 [(2, af), (3, .bool q1)] ∧ Holds M0 w w2 [.sl 45 ty4 af q0] G) a9 ?_ ?_ ?_
 ·exact ⟨aA.sub ⟨q, q, q, trivial⟩, a8⟩
 ·clear aA
  intro s ce a cf ad bb
  obtain ⟨ag, aB⟩ := s
  obtain ⟨ha, aC⟩ := bb
  refine S ?_ ha
  clear ha
  refine C <| rR <| qM q q q <| A q (qt_geq q q) q q <| B ?_
  refine Y q (fun ao => ?_) (fun ao => ?_)
  ·have ad := if_t ao ad
   refine y <| C <| g <| rR <| qA q q q <| B <| g ?_
   obtain ⟨ai, bc, ad⟩ := D ad
   refine fun bd aD => zp (I := fun s a w2 => match s with | (ak, aE) => (Fr a 77 [(0, vp0), (4, ab), (5, iV ag), (6, iV ak)] ∧ Holds M0 w w2 [.sl 45 ty4 ab aE] G)) (O := fun o e a w2 => match o with | .inl q0 => e = .exit 2 ∧ (Fr a 77 [(0, vp0), (4, ab), (5, iV ag)] ∧ Holds M0 w w2 [.sl 45 ty4 ab q0] G) | .inr (q0, q1, q2) => e = .ret ∧ ∃ af, Fr a 77 [(2, af), (3, .bool q1)] ∧ Holds M0 w w2 [.sl 45 ty4 af q0] G) bc ?_ ?_ ?_
   ·exact ⟨aD.sub ⟨q, q, q, q, trivial⟩, aC⟩
   ·clear aD
    intro s cg a ch ae be
    obtain ⟨ak, aE⟩ := s
    obtain ⟨ha, ap⟩ := be
    refine S ?_ ha
    clear ha
    refine C <| rR <| qM q q q <| qM q q q <| za ap.ctx (t := ty4) (hp0.c) u81 q q q <| A q (qt_lss q q) q q <| B ?_
    refine Y q (fun aq => ?_) (fun aq => ?_)
    ·have ae := if_t aq ae
     refine y <| C <| g <| rR <| qA q q q <| B <| g ?_
     obtain ⟨aj, bf, ae⟩ := D ae
     refine fun bg aF => zp (I := fun s a w2 => match s with | (ar, al) => (Fr a 77 [(0, vp0), (4, ab), (5, iV ag), (6, iV ak), (7, iV ar)] ∧ Holds M0 w w2 [.sl 45 ty4 ab al] G)) (O := fun o e a w2 => match o with | .inl q0 => e = .exit 4 ∧ (Fr a 77 [(0, vp0), (4, ab), (5, iV ag), (6, iV ak)] ∧ Holds M0 w w2 [.sl 45 ty4 ab q0] G) | .inr (q0, q1, q2) => e = .ret ∧ ∃ af, Fr a 77 [(2, af), (3, .bool q1)] ∧ Holds M0 w w2 [.sl 45 ty4 af q0] G) bf ?_ ?_ ?_
     ·exact ⟨aF.sub ⟨q, q, q, q, q, trivial⟩, ap⟩
     ·clear aF
      intro s ci a au aa bh
      obtain ⟨ar, al⟩ := s
      obtain ⟨ha, aG⟩ := bh
      refine S ?_ ha
      clear ha
      refine C <| rR <| qM q q q <| qM q q q <| qM q q q ?_
      obtain ⟨aH, aI, aa⟩ := D aa
      refine b aG.ctx (hp0.c) aI u81 i45 q q q q (fun cj ck cl bi => ?_)
      obtain ⟨cm, bj, bk⟩ := aG.at (hp0.c) aI bi
      refine XL_load (t := ty4) u45 q q bj q q q (fun aJ bl => ?_)
      have am : Holds _ w au [.ro ty2 aJ aH, .sl 45 ty4 ab al] G := bk _ _ _ _ bl (fun _ h => h)
      refine za am.ctx (t := ty2) hR0 u45 q q q <| A q (qt_lss q q) q q <| B ?_
      refine Y q (fun av => ?_) (fun av => ?_)
      ·have aa := if_t av aa
       refine y <| C <| g <| rR <| qM q q q <| qM q q q ?_
       obtain ⟨aK, aL, aa⟩ := D aa
       refine b am.ctx (hp0.c.c) aL u81 i45 q q q q (fun cn co cp bm => ?_)
       obtain ⟨cq, bn, bo⟩ := am.at (hp0.c.c) aL bm
       refine XL_load (t := ty4) u45 q q bn q q q (fun aM bp => ?_)
       have aN : Holds _ w au [.ro ty2 aM aK, .ro ty2 aJ aH, .sl 45 ty4 ab al] G := bo _ _ _ _ bp (fun _ h => h)
       refine qM q q q <| qM q q q ?_
       obtain ⟨bq, br, aa⟩ := D aa
       refine zd q q c99 (w_spec_TicketDo au _ aM aK hR0 ar ag bq br aN.ctx) (by rfl) ?_
       rintro _ cr ⟨bs, rfl, bt⟩; refine ⟨_, q, ?_⟩
       have aw := aN.cN1 [] bt
       refine qM q q q <| A q (zv q q) q q <| A q (zv q q) q q <| qA q q q <| qA q q q <| rN <| qM q q q <| B ?_
       refine Y q (fun ax => ?_) (fun ax => ?_)
       ·have aa := if_t ax aa
        refine rR <| qM q q q <| qM q q q <| qM q q q ?_
        obtain ⟨cs, aO, aa⟩ := D aa
        refine b aw.ctx hS3 aO u81 i45 q q q q (fun ct cu cv bu => ?_)
        have bv := aw.p3
        have bw := bv.p1
        have bz := bw.freeze
        have aP := bz.p1
        refine WL_storeH (fo := 0) (cs' := [bs]) aP aO bu (Upd.whole (Blt.slice hO1)) (aP.ctx.sliceList hR1) il45 q q q q (fun cw bA => ?_)
        refine rN <| qM q q q <| qA q q q <| qA q q q <| B <| W fun a ha => ?_
        obtain rfl := L aa
        have bB := bA.q1.q1.q1
        exact zj (m (⟨ret_ne, q, ab, ha.sub ⟨q, q, trivial⟩, bB⟩))
       have aa := if_f ax aa
       refine WP_skip fun a ha => ?_
       refine zi (X (S ?_ ha))
       refine Z <| qM q q q <| A q (qt_add q q) q q <| qA q q q <| WL_nil fun a ha => ?_
       obtain rfl := L aa
       have bC := aw.q0.q0.q0
       exact ⟨q, ha.sub ⟨q, q, q, q, q, trivial⟩, bC⟩
      have aa := if_f av aa
      refine WP_exit fun a ha => ?_
      obtain rfl := L aa
      have bD := am.q0
      exact zo (⟨exit_ne, q, ha.sub ⟨q, q, q, q, trivial⟩, bD⟩)
     intro e bg cx aQ
     rcases aj with aj | aj
     ·skip
      obtain ⟨cy, rfl⟩ : ∃ z, z = aj := ⟨aj, q⟩
      obtain ⟨rfl, bE⟩ := aQ
      obtain ⟨ha, bF⟩ := bE
      refine zn (zi (X (S ?_ ha)))
      refine Z <| qM q q q <| A q (qt_add q q) q q <| qA q q q <| WL_nil fun a ha => ?_
      obtain rfl := L ae
      exact ⟨q, ha.sub ⟨q, q, q, q, trivial⟩, bF⟩
     skip
     obtain ⟨p105, cz, cA⟩ := aj
     obtain ⟨rfl, bG⟩ := aQ
     obtain ⟨bH, ha, bI⟩ := bG
     obtain rfl := L ae
     exact zj (zj (m (⟨ret_ne, q, bH, ha.sub ⟨q, q, trivial⟩, bI⟩)))
    have ae := if_f aq ae
    refine WP_exit fun a ha => ?_
    obtain rfl := L ae
    exact zo (⟨exit_ne, q, ha.sub ⟨q, q, q, trivial⟩, ap⟩)
   intro e bd cB aR
   rcases ai with ai | ai
   ·skip
    obtain ⟨cC, rfl⟩ : ∃ z, z = ai := ⟨ai, q⟩
    obtain ⟨rfl, bJ⟩ := aR
    obtain ⟨ha, bK⟩ := bJ
    refine zn (zi (X (S ?_ ha)))
    refine Z <| qM q q q <| A q (qt_sub q q) q q <| qA q q q <| WL_nil fun a ha => ?_
    obtain rfl := L ad
    exact ⟨q, ha.sub ⟨q, q, q, trivial⟩, bK⟩
   skip
   obtain ⟨cD, cE, cF⟩ := ai
   obtain ⟨rfl, bL⟩ := aR
   obtain ⟨bM, ha, bN⟩ := bL
   obtain rfl := L ad
   exact zj (zj (m (⟨ret_ne, q, bM, ha.sub ⟨q, q, trivial⟩, bN⟩)))
  have ad := if_f ao ad
  refine WP_exit fun a ha => ?_
  obtain rfl := L ad
  exact zo (⟨exit_ne, q, ha.sub ⟨q, q, trivial⟩, aC⟩)
 intro e ba bO aS
 rcases ah with ah | ah
 ·skip
  obtain ⟨bP, rfl⟩ : ∃ z, z = ah := ⟨ah, q⟩
  obtain ⟨rfl, bQ⟩ := aS
  obtain ⟨ha, aT⟩ := bQ
  refine zn (X (S ?_ ha))
  refine rR <| qM q q q ?_
  obtain ⟨aU, bR, h⟩ := D h
  refine zd q q c100 (w_spec_NextFire bO _ vp0 p0 (hp0.c) aU bR aT.ctx) (by rfl) ?_
  rintro _ aV ⟨rfl, bS⟩; refine ⟨_, q, ?_⟩
  have ay := aT.cN0 [] bS
  refine qM q q q <| A q (zv q q) q q <| A q (zv q q) q q <| qA q q q <| qA q q q <| B <| C <| rR <| qM q q q ?_
  refine A q (qt_lss q q) q q <| B ?_
  refine Y q (fun az => ?_) (fun az => ?_)
  ·have h := if_t az h
   refine rR <| qM q q q <| qA q q q <| qA q q q <| B <| W fun a ha => ?_
   obtain rfl := L h
   exact m (ret2 q ha q q ⟨ab, q, ay⟩)
  have h := if_f az h
  refine y <| rR <| qM q q q <| qM q q q ?_
  obtain ⟨aW, aX, h⟩ := D h
  refine b ay.ctx (hp0.c) aX u81 i45 q q q q (fun cG cH cI bT => ?_)
  obtain ⟨cJ, bU, bV⟩ := ay.at (hp0.c) aX bT
  refine XL_load (t := ty4) u45 q q bU q q q (fun aY bW => ?_)
  have aZ : Holds _ w aV [.ro ty2 aY aW, .sl 45 ty4 ab bP] G := bV _ _ _ _ bW (fun _ h => h)
  refine qM q q q ?_
  obtain ⟨bX, bY, h⟩ := D h
  refine zd q q c99 (w_spec_TicketDo aV _ aY aW hR0 aU.2 0 bX bY aZ.ctx) (by rfl) ?_
  rintro _ cK ⟨bZ, rfl, b0⟩; refine ⟨_, q, ?_⟩
  have a0 := aZ.cN1 [] b0
  refine qM q q q <| A q (zv q q) q q <| A q (zv q q) q q <| qA q q q <| qA q q q <| rN <| qM q q q <| qM q q q ?_
  refine qM q q q ?_
  obtain ⟨cL, a1, h⟩ := D h
  refine b a0.ctx hS2 a1 u81 i45 q q q q (fun cM cN cO b4 => ?_)
  have b5 := a0.p2
  have b6 := b5.p1
  have b7 := b6.freeze
  have a2 := b7.p1
  refine WL_storeH (fo := 0) (cs' := [bZ]) a2 a1 b4 (Upd.whole (Blt.slice hO1)) (a2.ctx.sliceList hR1) il45 q q q q (fun cP b8 => ?_)
  refine rN <| qM q q q <| qA q q q <| qA q q q <| B <| W fun a ha => ?_
  obtain rfl := L h
  have b9 := b8.q1.q1
  exact ret2 q ha q q ⟨ab, q, b9⟩
 skip
 obtain ⟨cQ, cR, cS⟩ := ah
 obtain ⟨rfl, ca⟩ := aS
 obtain ⟨cb, ha, cc⟩ := ca
 obtain rfl := L h
 exact zj (m (ret2 q ha q q ⟨cb, q, cc⟩))
theorem w_spec_l7Work (w : World) (G : List Res) (A0 : Value) (B0 : LI) (A1 : Value) (B1 : List Int) (A2 : Value) (B2 : List Int) (B3 : Int) (A4 : Value) (B4 : LT) (r : (LI × (List Int) × (List Int) × Int × LT) × Bool) (h : spec_l7WorkS B0 B1 B2 B3 B4 = some r) (H : Ctx w ([.sl 55 ty12 A0 B0, .sl 3 tI A1 B1, .sl 3 tI A2 B2, .sl 47 ty14 A4 B4] ++ G)) : Calls Tryz.prog 37 #[.agg #[A0, A1, A2, iV B3, A4]] w fun e w' => ∃ (v1 : Value) (v2 : Value) (v3 : Value) (v4 : Value), e = .returned (.tuple #[.agg #[v1, v2, v3, iV r.1.2.2.2.1, v4], .bool r.2]) ∧ Holds (([.sl 55 ty12 A0 B0, .sl 3 tI A1 B1, .sl 3 tI A2 B2, .sl 47 ty14 A4 B4] : List Res).flatMap Res.own) w w' [.sl 55 ty12 v1 r.1.1, .sl 3 tI v2 r.1.2.1, .sl 3 tI v3 r.1.2.2.1, .sl 47 ty14 v4 r.1.2.2.2.2] G := by
 have H : Holds (([.sl 55 ty12 A0 B0, .sl 3 tI A1 B1, .sl 3 tI A2 B2, .sl 47 ty14 A4 B4] : List Res).flatMap Res.own) w w [.sl 55 ty12 A0 B0, .sl 3 tI A1 B1, .sl 3 tI A2 B2, .sl 47 ty14 A4 B4] G := zb H
 refine zg (args := [.agg #[A0, A1, A2, iV B3, A4]]) (n := 33) Tryz.func37 q q q ?_
 unfold spec_l7WorkS at h
 refine C <| Z ?_
 refine WL_box (cs := [A0, A1, A2, iV B3, A4]) H q q q q (fun b1 w2 H3 => ?_)
 refine zq (cs := [nS, nS, nS, iV 0, nS]) H3 z27 q q q (fun b5 w6 H7 => ?_)
 refine qA q q q <| B <| C <| Z ?_
 have aB := R H7.p1
 refine zm (cs := [A0, A1, A2, iV B3, A4]) us27 uo27 il27 aB q q q ?_
 change XL _ _ _ _ _ ((8, .agg #[A0, A1, A2, iV B3, A4]) :: _) _
 obtain ⟨am, aC, h⟩ := D h
 refine zd q q c49 (w_spec_l7Tickets w6 _ A0 B0 hS2 A1 B1 hS3 A2 B2 hS4 B3 A4 B4 hS5 am aC H7.ctx) (by rfl) ?_
 rintro _ aD ⟨aE, rfl, aF⟩; refine ⟨_, q, ?_⟩
 have an := H7.cN1 [] aF
 obtain ⟨af, aG, h⟩ := D h
 refine zd q q c73 (w_spec_WorkStep aD _ aE am hS0 af aG an.ctx) (by rfl) ?_
 rintro _ a7 ⟨ag, rfl, aH⟩; refine ⟨_, q, ?_⟩
 have ah := an.cN1 [] aH
 refine qM q q q <| A q (zv q q) q q <| A q (zv q q) q q <| qA q q q <| qA q q q <| B <| C <| rR <| qM q q q ?_
 refine A q (qt_not q) q q <| B ?_
 refine Y q (fun ai => ?_) (fun ai => ?_)
 ·have h := if_t ai h
  refine C <| Z ?_
  have aI := R ah.p3
  refine zm (cs := [A0, A1, A2, iV B3, A4]) us27 uo27 il27 aI q q q ?_
  change XL _ _ _ _ _ ((15, .agg #[A0, A1, A2, iV B3, A4]) :: _) _
  have ab := ah.p2
  refine zl (cs' := [A0, A1, A2, iV B3, A4]) ab q il27 q (T (ab.ctx.sliceOne hS4) (T (ab.ctx.sliceOne hS5) (T (ab.ctx.sliceOne hS6) (T q (T (ab.ctx.sliceOne hS7) q))))) q q q (fun a8 ao => ?_)
  refine qA q q q <| B <| W fun a ha => ?_
  obtain rfl := L h
  have aJ := R ao.p0
  have aK := ao.q0.q0.q0.q0.p3.p3.p3.p3
  exact m (retct q ha q q (run_loadVar_bx (cs := [A0, A1, A2, iV B3, A4]) us27 uo27 il27 aJ) ⟨A0, A1, A2, A4, q, aK⟩)
 have h := if_f ai h
 refine y <| C <| rR <| qA q q q <| B <| g ?_
 obtain ⟨ap, aL, h⟩ := D h
 have aM := ah.q1.p1.p6.p6.p6.p6.p6
 refine fun aN aq => zp (I := fun s a w2 => match s with | (ar, aj) => (Fr a 33 [(1, pB b1), (2, pB b5), (4, ag), (6, iV ar)] ∧ Holds (([.sl 55 ty12 A0 B0, .sl 3 tI A1 B1, .sl 3 tI A2 B2, .sl 47 ty14 A4 B4] : List Res).flatMap Res.own) w w2 [.bx b1 27 [A0, A1, A2, iV B3, A4], .sl 55 ty12 A0 B0, .sl 3 tI A1 B1, .sl 3 tI A2 B2, .sl 47 ty14 A4 aj, .bx b5 27 [nS, nS, nS, iV 0, nS], .sl 45 ty4 ag af.1] G)) (O := fun o e a w2 => match o with | q0 => e = .exit 0 ∧ (Fr a 33 [(1, pB b1), (2, pB b5)] ∧ Holds (([.sl 55 ty12 A0 B0, .sl 3 tI A1 B1, .sl 3 tI A2 B2, .sl 47 ty14 A4 B4] : List Res).flatMap Res.own) w w2 [.bx b1 27 [A0, A1, A2, iV B3, A4], .sl 55 ty12 A0 B0, .sl 3 tI A1 B1, .sl 3 tI A2 B2, .sl 47 ty14 A4 q0, .bx b5 27 [nS, nS, nS, iV 0, nS]] G)) aL ?_ ?_ ?_
 ·exact ⟨aq.sub ⟨q, q, q, q, trivial⟩, aM⟩
 ·clear aq
  intro s a9 a ba aa aO
  obtain ⟨ar, aj⟩ := s
  obtain ⟨ha, ae⟩ := aO
  refine S ?_ ha
  clear ha
  refine C <| rR <| qM q q q <| qF uf27 fi27_4 nz25 q q q ?_
  have aP := R ae.p0
  refine l u25 q aP q q q q <| za ae.ctx (t := ty14) hS4 u25 q q q <| A q (qt_lss q q) q q <| B ?_
  refine Y q (fun ak => ?_) (fun ak => ?_)
  ·have aa := if_t ak aa
   refine y <| C <| g ?_
   refine WP_tail 7 (by kernel_rfl) (by kernel_rfl) (fun aQ aR => ?_)
   have al := ae.grow aR
   refine qF uf27 fi27_4 nz25 q q q ?_
   have aS := R al.p0
   refine l u25 q aS q q q q <| qM q q q <| qM q q q <| qM q q q ?_
   obtain ⟨aT, au, aa⟩ := D aa
   refine b al.ctx hS6 au u81 i45 q q q q (fun bb bc bd aU => ?_)
   obtain ⟨be, aV, aW⟩ := al.at hS6 au aU
   refine XL_load (t := ty4) u45 q q aV q q q (fun av aX => ?_)
   have aw : Holds _ w aQ [.ro ty2 av aT, .bx b1 27 [A0, A1, A2, iV B3, A4], .sl 55 ty12 A0 B0, .sl 3 tI A1 B1, .sl 3 tI A2 B2, .sl 47 ty14 A4 aj, .bx b5 27 [nS, nS, nS, iV 0, nS], .sl 45 ty4 ag af.1] G := aW _ _ _ _ aX (fun _ h => h)
   refine SL_nil ?_
   obtain ⟨bf, ax, aa⟩ := D aa
   refine b aw.ctx hS5 ax u25 i47 q q q q (fun bg bh bi aY => ?_)
   refine qF uf47 fi47_1 nz45 q q q ?_
   have ay := aw.p5
   refine WL_storeH (fo := 1) (cs' := [av]) ay ax aY (Upd.snd (Upd.fst (Upd.whole (Blt.slice hO1)) q)) (ay.ctx.sliceList hR1) il45 q q q q (fun bj aZ => ?_)
   refine WL_nil fun a ha => ?_
   refine zi (X (S ?_ ha))
   refine Z <| qM q q q <| A q (qt_add q q) q q <| qA q q q <| WL_nil fun a ha => ?_
   obtain rfl := L aa
   have a0 := aZ.q1.p6.p6.p2.p6.p6.p6.p6
   exact ⟨q, ha.sub ⟨q, q, q, q, trivial⟩, a0⟩
  have aa := if_f ak aa
  refine WP_exit fun a ha => ?_
  obtain rfl := L aa
  have a1 := ae.q6.p5.p5.p5.p5.p5.p5
  exact zo (⟨exit_ne, q, ha.sub ⟨q, q, trivial⟩, a1⟩)
 intro e aN bk a2
 obtain ⟨bl, rfl⟩ : ∃ z, z = ap := ⟨ap, q⟩
 obtain ⟨rfl, a3⟩ := a2
 obtain ⟨ha, az⟩ := a3
 refine zn (X (S ?_ ha))
 refine C <| Z ?_
 have a4 := R az.p0
 refine zm (cs := [A0, A1, A2, iV B3, A4]) us27 uo27 il27 a4 q q q ?_
 change XL _ _ _ _ _ ((32, .agg #[A0, A1, A2, iV B3, A4]) :: _) _
 have ad := az.p5
 refine zl (cs' := [A0, A1, A2, iV B3, A4]) ad q il27 q (T (ad.ctx.sliceOne hS2) (T (ad.ctx.sliceOne hS3) (T (ad.ctx.sliceOne hS4) (T q (T (ad.ctx.sliceOne hS5) q))))) q q q (fun bm aA => ?_)
 refine qA q q q <| B <| W fun a ha => ?_
 obtain rfl := L h
 have a5 := R aA.p0
 have a6 := aA.q0.q0.p3.p3.p3.p3
 exact retct q ha q q (run_loadVar_bx (cs := [A0, A1, A2, iV B3, A4]) us27 uo27 il27 a5) ⟨A0, A1, A2, A4, q, a6⟩
theorem w_spec_TicketCourse (w : World) (G : List Res) (vp0 : Value) (p0 : LP) (hp0 : Has G ty2 vp0 p0) (r : Int) (h : spec_TicketCourseS p0 = some r) (H : Ctx w G) : Calls Tryz.prog 101 #[vp0] w fun e w' => e = .returned (iV r) ∧ Holds M0 w w' [] G := by
 have H : Holds M0 w w [] G := zb H
 refine zg (args := [vp0]) (n := 40) Tryz.func101 q q q ?_
 unfold spec_TicketCourseS at h
 refine rR <| qA q q q <| rN <| qA q q q <| B <| C <| C ?_
 refine Z <| qA q q q <| B <| g ?_
 obtain ⟨o3, aq, h⟩ := D h
 refine fun a5 am => zp (I := fun s a w2 => match s with | (s1, s2) => (Fr a 40 [(0, vp0), (3, iV s1), (4, iV s2)] ∧ Holds M0 w w2 [] G)) (O := fun o e a w2 => match o with | q0 => e = .exit 0 ∧ (Fr a 40 [(3, iV q0)] ∧ Holds M0 w w2 [] G)) aq ?_ ?_ ?_
 ·exact ⟨am.sub ⟨q, q, q, trivial⟩, H⟩
 ·clear am
  intro s o9 a w7 aa ar
  obtain ⟨s1, s2⟩ := s
  obtain ⟨ha, aj⟩ := ar
  refine S ?_ ha
  clear ha
  refine C <| C <| zk <| qM q q q <| qM q q q <| za aj.ctx (t := ty2) (hp0) u45 q q q <| A q (qt_lss q q) q q <| qM q q q ?_
  obtain ⟨au, ag, aa⟩ := D aa
  refine zh 3 12 (.bool au) ?_ (fun md hmd hk => ?_)
  rotate_left
  ·obtain ⟨K, rfl⟩ := zr hmd
   rcases btf (decide (s2 < (List.length p0 : Int))) with ae | ae
   ·skip
    have ag := if_t ae ag
    refine qM (J q ae) q q ?_
    obtain ⟨av, aw, ag⟩ := D ag
    refine QC (J q ae) q c53 (fun w' hb => w_spec_TicketValid w' G vp0 p0 (hp0) av aw (aj.grow hb).ctx) (by rfl) <| A q (ze q ae q) q q ?_
    exact hk _ (p (vb ag) (cfn 2 q (u)))
   skip
   refine qS q ae q q <| qS q ae q q <| A q (zf q ae q) q q ?_
   exact hk _ (p (vb (if_f ae ag)) (cfn 2 q (u)))
  refine QL_nil fun a ha aN ax => ?_
  have af := aj.grow ax
  refine X (S ?_ ha)
  refine Y q (fun ak => ?_) (fun ak => ?_)
  ·have aa := if_t ak aa
   refine y <| C <| g <| rR <| qM q q q <| qM q q q ?_
   obtain ⟨ay, an, aa⟩ := D aa
   refine b af.ctx (hp0) an u45 i49 q q q q (fun aO aP aQ az => ?_)
   refine qF uf49 fi49_1 nz3 q q q ?_
   obtain ⟨aR, aA, aS⟩ := af.at (hp0) an az
   obtain ⟨aT, aB, aU⟩ := AtP.snd aA
   refine zt (k := .i64) u3 q aB q q q <| A q (qt_lss q q) q q <| qM q q q ?_
   obtain ⟨aC, ah, aa⟩ := D aa
   refine zh 12 33 (.bool aC) ?_ (fun md hmd hk => ?_)
   rotate_left
   ·obtain ⟨Q, rfl⟩ := Md.seq_of hmd
    rcases btf (decide (ay.2 < 3)) with ad | ad
    ·skip
     have ah := if_t ad ah
     refine qM (J q ad) q q <| A (J q ad) (qt_lss q q) q q <| qM (J q ad) q q ?_
     obtain ⟨aD, ai, ah⟩ := D ah
     refine zh 8 32 (.bool aD) ?_ (fun md hmd hk => ?_)
     rotate_left
     ·obtain ⟨Q, rfl⟩ := Md.seq_of hmd
      rcases btf (decide (s1 < 0)) with ab | ab
      ·skip
       refine qS q ab q q <| qS q ab q q <| qS q ab q q <| qS q ab q q <| qS q ab q q <| qS q ab q q <| qS q ab q q <| A (J q ad) (ze q ab q) q q ?_
       exact hk _ (p (vb (if_t ab ai)) (cfn 7 q (u)))
      skip
      have ai := if_f ab ai
      refine qM (J q ab) q q <| qM (J q ab) q q ?_
      obtain ⟨aV, ao, ai⟩ := D ai
      refine b af.ctx (hp0) ao u45 i49 (J q ab) q q q (fun aW aX aY aE => ?_)
      refine qF uf49 fi49_0 nz3 (J q ab) q q ?_
      obtain ⟨aZ, aF, a0⟩ := af.at (hp0) ao aE
      obtain ⟨a1, aG, a2⟩ := AtP.fst aF
      refine zt (k := .i64) u3 q aG (J q ab) q q <| qM (J q ab) q q <| A (J q ab) (qt_lss q q) q q <| A (J q ad) (zf q ab q) q q ?_
      exact hk _ (p (vb ai) (cfn 7 q (u)))
     refine A q (ze q ad q) q q ?_
     exact hk _ (p (vb ah) (cfn 4 q (u)))
    skip
    refine qS q ad q q <| qS q ad q q <| qS q ad q q <| XL_skip q q q <| XL_skip q q q <| XL_skip q q q <| XL_skip q q q <| XL_skip q q q <| XL_skip q q q <| XL_skip q q q ?_
    refine qS q ad q q <| A q (zf q ad q) q q ?_
    exact hk _ (p (vb (if_f ad ah)) (cfn 11 q (u)))
   refine B ?_
   refine Y q (fun al => ?_) (fun al => ?_)
   ·have aa := if_t al aa
    refine Z <| qM q q q <| qM q q q ?_
    obtain ⟨a3, ap, aa⟩ := D aa
    refine b af.ctx (hp0) ap u45 i49 q q q q (fun a4 a6 a7 aH => ?_)
    refine qF uf49 fi49_0 nz3 q q q ?_
    obtain ⟨a8, aI, a9⟩ := af.at (hp0) ap aH
    obtain ⟨ba, aJ, bb⟩ := AtP.fst aI
    refine zt (k := .i64) u3 q aJ q q q <| qA q q q <| WL_nil fun a ha => ?_
    refine zi (X (S ?_ ha))
    refine Z <| qM q q q <| A q (qt_add q q) q q <| qA q q q <| WL_nil fun a ha => ?_
    obtain rfl := L aa
    exact ⟨q, ha.sub ⟨q, q, q, trivial⟩, af⟩
   have aa := if_f al aa
   refine WP_skip fun a ha => ?_
   refine zi (X (S ?_ ha))
   refine Z <| qM q q q <| A q (qt_add q q) q q <| qA q q q <| WL_nil fun a ha => ?_
   obtain rfl := L aa
   exact ⟨q, ha.sub ⟨q, q, q, trivial⟩, af⟩
  have aa := if_f ak aa
  refine WP_exit fun a ha => ?_
  obtain rfl := L aa
  exact zo (⟨exit_ne, q, ha.sub ⟨q, trivial⟩, af⟩)
 intro e a5 bc aK
 obtain ⟨bd, rfl⟩ : ∃ z, z = o3 := ⟨o3, q⟩
 obtain ⟨rfl, aL⟩ := aK
 obtain ⟨ha, aM⟩ := aL
 refine zn (X (S ?_ ha))
 refine rR <| qM q q q <| qA q q q <| B <| W fun a ha => ?_
 obtain rfl := L h
 exact ret1 q ha q ⟨q, aM⟩
theorem w_spec_TicketDone (w : World) (G : List Res) (vp0 : Value) (p0 : LP) (hp0 : Has G ty2 vp0 p0) (r : Bool) (h : spec_TicketDoneS p0 = some r) (H : Ctx w G) : Calls Tryz.prog 74 #[vp0] w fun e w' => e = .returned (.bool r) ∧ Holds M0 w w' [] G := by
 have H : Holds M0 w w [] G := zb H
 refine zg (args := [vp0]) (n := 10) Tryz.func74 q q q ?_
 unfold spec_TicketDoneS at h
 refine rR <| qA q q q <| B <| C <| zk <| qM q q q ?_
 obtain ⟨x1, ad, h⟩ := D h
 refine QC q q c53 (fun w' hb => w_spec_TicketValid w' G vp0 p0 (hp0) x1 ad (H.grow hb).ctx) (by rfl) <| qM q q q ?_
 obtain ⟨b3, ab, h⟩ := D h
 refine zh 4 9 (.bool b3) ?_ (fun md hmd hk => ?_)
 rotate_left
 ·obtain ⟨K, rfl⟩ := zr hmd
  rcases btf x1 with aa | aa
  ·skip
   have ab := if_t aa ab
   refine qM (J q aa) q q ?_
   obtain ⟨x6, ae, ab⟩ := D ab
   refine QC (J q aa) q c101 (fun w' hb => w_spec_TicketCourse w' G vp0 p0 (hp0) x6 ae (H.grow hb).ctx) (by rfl) <| A (J q aa) (qt_lss q q) q q <| A q (ze q aa q) q q ?_
   exact hk _ (p (vb ab) (cfn 3 q (u)))
  skip
  refine qS q aa q q <| qS q aa q q <| qS q aa q q <| A q (zf q aa q) q q ?_
  exact hk _ (p (vb (if_f aa ab)) (cfn 3 q (u)))
 refine qA q q q <| QL_nil fun a ha w8 af => ?_
 have ag := H.grow af
 refine X (S ?_ ha)
 refine W fun a ha => ?_
 obtain rfl := L h
 exact ret1 q ha q ⟨q, ag⟩
theorem w_spec_TableBill (w : World) (G : List Res) (A0 : Value) (B0 : LI) (C0 : Has G ty12 A0 B0) (A1 : Value) (B1 : List Int) (C1 : Has G tI A1 B1) (A2 : Value) (B2 : List Int) (C2 : Has G tI A2 B2) (B3 : Int) (A4 : Value) (B4 : LT) (C4 : Has G ty14 A4 B4) (p1 : Int) (r : Int) (h : spec_TableBillS B0 B1 B2 B3 B4 p1 = some r) (H : Ctx w G) : Calls Tryz.prog 75 #[.agg #[A0, A1, A2, iV B3, A4], iV p1] w fun e w' => e = .returned (iV r) ∧ Holds M0 w w' [] G := by
 have H : Holds M0 w w [] G := zb H
 refine zg (args := [.agg #[A0, A1, A2, iV B3, A4], iV p1]) (n := 57) Tryz.func75 q q q ?_
 unfold spec_TableBillS at h
 refine C <| Z ?_
 refine WL_box (cs := [A0, A1, A2, iV B3, A4]) H q q q q (fun b1 w2 H3 => ?_)
 refine qA q q q <| B <| C <| C <| zk ?_
 have aD := R H3.p0
 refine zm (cs := [A0, A1, A2, iV B3, A4]) us27 uo27 il27 aD q q q ?_
 change XL _ _ _ _ _ ((7, .agg #[A0, A1, A2, iV B3, A4]) :: _) _
 obtain ⟨x6, aE, h⟩ := D h
 refine QC q q c17 (fun w' hb => w_spec_HouseValid w' _ A0 B0 (C0.c) A1 B1 (C1.c) A2 B2 (C2.c) B3 A4 B4 (C4.c) x6 aE (H3.grow hb).ctx) (by rfl) <| A q (qt_not q) q q <| qM q q q ?_
 obtain ⟨b8, ae, h⟩ := D h
 refine zh 8 18 (.bool b8) ?_ (fun md hmd hk => ?_)
 rotate_left
 ·obtain ⟨K, rfl⟩ := zr hmd
  rcases btf (!x6) with ab | ab
  ·skip
   refine qS q ab q q <| qS q ab q q <| qS q ab q q <| qS q ab q q <| qS q ab q q <| qS q ab q q <| qS q ab q q <| A q (ze q ab q) q q ?_
   exact hk _ (p (vb (if_t ab ae)) (cfn 7 q (u)))
  skip
  have ae := if_f ab ae
  refine qM (J q ab) q q <| qF uf27 fi27_4 nz25 (J q ab) q q ?_
  have aF := R H3.p0
  refine l u25 q aF q (J q ab) q q <| za H3.ctx (t := ty14) (C4.c) u25 (J q ab) q q <| A (J q ab) (qt_sub q q) q q ?_
  obtain ⟨aG, aH, ae⟩ := D ae
  refine QC (J q ab) q c52 (fun w' hb => w_spec_l1In w' _ p1 0 (IntKind.wrap .i64 ((List.length B4 : Int) - 1)) aG aH (H3.grow hb).ctx) (by rfl) <| A (J q ab) (qt_not q) q q <| A q (zf q ab q) q q ?_
  exact hk _ (p (vb ae) (cfn 7 q (u)))
 refine QL_nil fun a ha bw aI => ?_
 have ao := H3.grow aI
 refine X (S ?_ ha)
 refine Y q (fun ah => ?_) (fun ah => ?_)
 ·have h := if_t ah h
  refine rR <| qA q q q <| B <| W fun a ha => ?_
  obtain rfl := L h
  have aJ := ao.q0
  exact m (ret1 q ha q ⟨q, aJ⟩)
 have h := if_f ah h
 refine y <| rR <| qA q q q <| B <| C <| rR <| qA q q q <| B ?_
 refine g ?_
 obtain ⟨ap, aK, h⟩ := D h
 refine fun aL aq => zp (I := fun s a w2 => match s with | (ar, au) => (Fr a 57 [(1, iV p1), (2, pB b1), (5, iV ar), (6, iV au)] ∧ Holds M0 w w2 [.bx b1 27 [A0, A1, A2, iV B3, A4]] G)) (O := fun o e a w2 => match o with | q0 => e = .exit 0 ∧ (Fr a 57 [(5, iV q0)] ∧ Holds M0 w w2 [] G)) aK ?_ ?_ ?_
 ·exact ⟨aq.sub ⟨q, q, q, q, trivial⟩, ao⟩
 ·clear aq
  intro s bz a ai aa aM
  obtain ⟨ar, au⟩ := s
  obtain ⟨ha, aj⟩ := aM
  refine S ?_ ha
  clear ha
  refine C <| rR <| qM q q q <| qF uf27 fi27_4 nz25 q q q ?_
  have aN := R aj.p0
  refine l u25 q aN q q q q <| qM q q q ?_
  obtain ⟨ak, av, aa⟩ := D aa
  refine b aj.ctx (C4.c) av u25 i47 q q q q (fun bA bB bC aO => ?_)
  refine qF uf47 fi47_1 nz45 q q q ?_
  obtain ⟨bD, aP, aQ⟩ := aj.at (C4.c) av aO
  obtain ⟨bE, aR, aS⟩ := AtP.snd aP
  obtain ⟨bF, aT, aU⟩ := AtP.fst aR
  refine XL_load (t := ty4) u45 q q aT q q q (fun al aV => ?_)
  have af : Holds _ w ai [.ro ty2 al ak.2.1, .bx b1 27 [A0, A1, A2, iV B3, A4]] G := aQ _ _ _ _ aV (fun k h => (fun k h => (fun _ h => h) k (aS k h)) k (aU k h))
  refine za af.ctx (t := ty2) hR0 u45 q q q <| A q (qt_lss q q) q q <| B ?_
  refine Y q (fun am => ?_) (fun am => ?_)
  ·have aa := if_t am aa
   refine y <| C <| g <| rR <| qF uf27 fi27_4 nz25 q q q ?_
   have aW := R af.p1
   refine l u25 q aW q q q q <| qM q q q ?_
   obtain ⟨aw, ax, aa⟩ := D aa
   refine b af.ctx (C4.c.c) ax u25 i47 q q q q (fun bG bH bI aX => ?_)
   refine qF uf47 fi47_1 nz45 q q q ?_
   obtain ⟨bJ, aY, aZ⟩ := af.at (C4.c.c) ax aX
   obtain ⟨bK, a0, a1⟩ := AtP.snd aY
   obtain ⟨bL, a2, a3⟩ := AtP.fst a0
   refine XL_load (t := ty4) u45 q q a2 q q q (fun ay a4 => ?_)
   have ad : Holds _ w ai [.ro ty2 ay aw.2.1, .ro ty2 al ak.2.1, .bx b1 27 [A0, A1, A2, iV B3, A4]] G := aZ _ _ _ _ a4 (fun k h => (fun k h => (fun _ h => h) k (a1 k h)) k (a3 k h))
   refine qM q q q ?_
   obtain ⟨bM, az, aa⟩ := D aa
   refine b ad.ctx hR0 az u45 i49 q q q q (fun bN bO bP a5 => ?_)
   refine qF uf49 fi49_1 nz3 q q q ?_
   obtain ⟨bQ, a6, bR⟩ := ad.at hR0 az a5
   obtain ⟨bS, a7, bT⟩ := AtP.snd a6
   refine zt (k := .i64) u3 q a7 q q q <| A q (qt_eql q q) q q <| B ?_
   refine Y q (fun an => ?_) (fun an => ?_)
   ·have aa := if_t an aa
    refine WP_quiet (by kernel_rfl) (by kernel_rfl) <| qM q q q <| qF uf27 fi27_1 nz24 q q q ?_
    have a8 := R ad.p2
    refine l u24 q a8 q q q q <| qF uf27 fi27_4 nz25 q q q ?_
    have a9 := R ad.p2
    refine l u25 q a9 q q q q <| qM q q q ?_
    obtain ⟨ba, aA, aa⟩ := D aa
    refine b ad.ctx (C4.c.c.c) aA u25 i47 q q q q (fun bU bV bW bb => ?_)
    refine qF uf47 fi47_2 nz24 q q q ?_
    obtain ⟨bX, bc, bd⟩ := ad.at (C4.c.c.c) aA bb
    obtain ⟨bY, be, bf⟩ := AtP.snd bc
    obtain ⟨bZ, bg, bh⟩ := AtP.snd be
    refine XL_load (t := (.slice tI)) u24 q q bg q q q (fun bi bj => ?_)
    have ag : Holds _ w ai [.ro tI bi ba.2.2, .ro ty2 ay aw.2.1, .ro ty2 al ak.2.1, .bx b1 27 [A0, A1, A2, iV B3, A4]] G := bd _ _ _ _ bj (fun k h => (fun k h => (fun _ h => h) k (bf k h)) k (bh k h))
    refine qM q q q ?_
    obtain ⟨b0, aB, aa⟩ := D aa
    refine b ag.ctx hR0 aB u24 i3 q q q q (fun b4 b5 b6 bk => ?_)
    obtain ⟨b7, bl, b9⟩ := ag.at hR0 aB bk
    refine zt (k := .i64) u3 q bl q q q ?_
    obtain ⟨ca, aC, aa⟩ := D aa
    refine b ag.ctx (C1.c.c.c.c) aC u24 i3 q q q q (fun cb cc cd bm => ?_)
    obtain ⟨ce, bn, cf⟩ := ag.at (C1.c.c.c.c) aC bm
    refine zt (k := .i64) u3 q bn q q q <| A q (qt_add q q) q q <| qA q q q <| QL_nil fun a ha cg bo => ?_
    have bp := ag.grow bo
    refine zi (X (S ?_ ha))
    refine Z <| qM q q q <| A q (qt_add q q) q q <| qA q q q <| WL_nil fun a ha => ?_
    obtain rfl := L aa
    have bq := bp.q0.q0.q0
    exact ⟨q, ha.sub ⟨q, q, q, q, trivial⟩, bq⟩
   have aa := if_f an aa
   refine WP_skip fun a ha => ?_
   refine zi (X (S ?_ ha))
   refine Z <| qM q q q <| A q (qt_add q q) q q <| qA q q q <| WL_nil fun a ha => ?_
   obtain rfl := L aa
   have br := ad.q0.q0
   exact ⟨q, ha.sub ⟨q, q, q, q, trivial⟩, br⟩
  have aa := if_f am aa
  refine WP_exit fun a ha => ?_
  obtain rfl := L aa
  have bs := af.q0.q0
  exact zo (⟨exit_ne, q, ha.sub ⟨q, trivial⟩, bs⟩)
 intro e aL ch bt
 obtain ⟨ci, rfl⟩ : ∃ z, z = ap := ⟨ap, q⟩
 obtain ⟨rfl, bu⟩ := bt
 obtain ⟨ha, bv⟩ := bu
 refine zn (X (S ?_ ha))
 refine rR <| qM q q q <| qA q q q <| B <| W fun a ha => ?_
 obtain rfl := L h
 exact ret1 q ha q ⟨q, bv⟩
theorem w_spec_l7Close (w : World) (G : List Res) (A0 : Value) (B0 : LI) (A1 : Value) (B1 : List Int) (A2 : Value) (B2 : List Int) (B3 : Int) (A4 : Value) (B4 : LT) (p1 : Int) (r : (LI × (List Int) × (List Int) × Int × LT) × Bool) (h : spec_l7CloseS B0 B1 B2 B3 B4 p1 = some r) (H : Ctx w ([.sl 55 ty12 A0 B0, .sl 3 tI A1 B1, .sl 3 tI A2 B2, .sl 47 ty14 A4 B4] ++ G)) : Calls Tryz.prog 38 #[.agg #[A0, A1, A2, iV B3, A4], iV p1] w fun e w' => ∃ (v1 : Value) (v2 : Value) (v3 : Value) (v4 : Value), e = .returned (.tuple #[.agg #[v1, v2, v3, iV r.1.2.2.2.1, v4], .bool r.2]) ∧ Holds (([.sl 55 ty12 A0 B0, .sl 3 tI A1 B1, .sl 3 tI A2 B2, .sl 47 ty14 A4 B4] : List Res).flatMap Res.own) w w' [.sl 55 ty12 v1 r.1.1, .sl 3 tI v2 r.1.2.1, .sl 3 tI v3 r.1.2.2.1, .sl 47 ty14 v4 r.1.2.2.2.2] G := by
 have H : Holds (([.sl 55 ty12 A0 B0, .sl 3 tI A1 B1, .sl 3 tI A2 B2, .sl 47 ty14 A4 B4] : List Res).flatMap Res.own) w w [.sl 55 ty12 A0 B0, .sl 3 tI A1 B1, .sl 3 tI A2 B2, .sl 47 ty14 A4 B4] G := zb H
 refine zg (args := [.agg #[A0, A1, A2, iV B3, A4], iV p1]) (n := 54) Tryz.func38 q q q ?_
 unfold spec_l7CloseS at h
 refine C <| Z ?_
 refine WL_box (cs := [A0, A1, A2, iV B3, A4]) H q q q q (fun b1 w2 H3 => ?_)
 refine zq (cs := [nS, nS, nS, iV 0, nS]) H3 z27 q q q (fun b5 w6 H7 => ?_)
 refine qA q q q <| B <| C <| C <| WP_quiet (by kernel_rfl) (by kernel_rfl) <| qM q q q <| qF uf27 fi27_4 nz25 q q q ?_
 have aJ := R H7.p1
 refine l u25 q aJ q q q q <| za H7.ctx (t := ty14) hS5 u25 q q q <| A q (qt_sub q q) q q ?_
 obtain ⟨au, aK, h⟩ := D h
 refine QC q q c52 (fun w' hb => w_spec_l1In w' _ p1 0 (IntKind.wrap .i64 ((List.length B4 : Int) - 1)) au aK (H7.grow hb).ctx) (by rfl) <| A q (qt_not q) q q <| qM q q q ?_
 obtain ⟨av, ag, h⟩ := D h
 refine zh 9 22 (.bool av) ?_ (fun md hmd hk => ?_)
 rotate_left
 ·obtain ⟨K, rfl⟩ := zr hmd
  rcases btf (!au) with aa | aa
  ·skip
   refine qS q aa q q <| qS q aa q q <| qS q aa q q <| qS q aa q q <| qS q aa q q <| qS q aa q q <| qS q aa q q <| qS q aa q q <| A q (ze q aa q) q q ?_
   exact hk _ (p (vb (if_t aa ag)) (cfn 8 q (u)))
  skip
  have ag := if_f aa ag
  refine qF uf27 fi27_4 nz25 (J q aa) q q ?_
  have aL := R H7.p1
  refine l u25 q aL q (J q aa) q q <| qM (J q aa) q q ?_
  obtain ⟨aw, ax, ag⟩ := D ag
  refine b H7.ctx hS5 ax u25 i47 (J q aa) q q q (fun bv bw bz aM => ?_)
  refine qF uf47 fi47_1 nz45 (J q aa) q q ?_
  obtain ⟨bA, aN, aO⟩ := H7.at hS5 ax aM
  obtain ⟨bB, aP, aQ⟩ := AtP.snd aN
  obtain ⟨bC, aR, aS⟩ := AtP.fst aP
  refine XL_load (t := ty4) u45 q q aR (J q aa) q q (fun ay aT => ?_)
  have aU : Holds _ w w6 [.ro ty2 ay aw.2.1, .bx b5 27 [nS, nS, nS, iV 0, nS], .bx b1 27 [A0, A1, A2, iV B3, A4], .sl 55 ty12 A0 B0, .sl 3 tI A1 B1, .sl 3 tI A2 B2, .sl 47 ty14 A4 B4] G := aO _ _ _ _ aT (fun k h => (fun k h => (fun _ h => h) k (aQ k h)) k (aS k h))
  obtain ⟨aV, aW, ag⟩ := D ag
  refine QC (J q aa) q c74 (fun w' hb => w_spec_TicketDone w' _ ay aw.2.1 hR0 aV aW (aU.grow hb).ctx) (by rfl) <| A (J q aa) (qt_not q) q q <| A q (zf q aa q) q q ?_
  exact hk _ (p (vb ag) (cfn 8 q (u)))
 refine qM q q q ?_
 obtain ⟨aX, aj, h⟩ := D h
 refine zh 8 31 (.bool aX) ?_ (fun md hmd hk => ?_)
 rotate_left
 ·obtain ⟨K, rfl⟩ := zr hmd
  rcases btf av with ab | ab
  ·skip
   refine qS q ab q q <| qS q ab q q <| qS q ab q q <| qS q ab q q <| qS q ab q q <| qS q ab q q <| qS q ab q q <| A q (ze q ab q) q q ?_
   exact hk _ (p (vb (if_t ab aj)) (cfn 7 q (u)))
  skip
  have aj := if_f ab aj
  refine qF uf27 fi27_3 nz3 (J q ab) q q ?_
  have aY := R H7.p1
  refine l u3 q aY q (J q ab) q q ?_
  have aZ := R H7.p1
  refine zm (cs := [A0, A1, A2, iV B3, A4]) us27 uo27 il27 aZ (J q ab) q q ?_
  change XL _ _ _ _ _ ((26, .agg #[A0, A1, A2, iV B3, A4]) :: _) _
  refine qM (J q ab) q q ?_
  obtain ⟨a0, a1, aj⟩ := D aj
  refine QC (J q ab) q c75 (fun w' hb => w_spec_TableBill w' _ A0 B0 hS2 A1 B1 hS3 A2 B2 hS4 B3 A4 B4 hS5 p1 a0 a1 (H7.grow hb).ctx) (by rfl) <| A (J q ab) (qt_add q q) q q <| A (J q ab) (qt_gtr q q) q q <| A q (zf q ab q) q q ?_
  exact hk _ (p (vb aj) (cfn 7 q (u)))
 refine QL_nil fun a ha bD a2 => ?_
 have ai := H7.grow a2
 refine X (S ?_ ha)
 refine Y q (fun am => ?_) (fun am => ?_)
 ·have h := if_t am h
  refine C <| Z ?_
  have a3 := R ai.p1
  refine zm (cs := [A0, A1, A2, iV B3, A4]) us27 uo27 il27 a3 q q q ?_
  change XL _ _ _ _ _ ((32, .agg #[A0, A1, A2, iV B3, A4]) :: _) _
  refine zl (cs' := [A0, A1, A2, iV B3, A4]) ai q il27 q (T (ai.ctx.sliceOne hS2) (T (ai.ctx.sliceOne hS3) (T (ai.ctx.sliceOne hS4) (T q (T (ai.ctx.sliceOne hS5) q))))) q q q (fun bE az => ?_)
  refine qA q q q <| B <| W fun a ha => ?_
  obtain rfl := L h
  have a4 := R az.p0
  have a5 := az.q0.q0.p3.p3.p3.p3
  exact m (retct q ha q q (run_loadVar_bx (cs := [A0, A1, A2, iV B3, A4]) us27 uo27 il27 a4) ⟨A0, A1, A2, A4, q, a5⟩)
 have h := if_f am h
 refine y <| C ?_
 obtain ⟨af, a6, h⟩ := D h
 refine WP_join (M := fun a w2 => (Fr a 54 [(1, iV p1), (2, pB b1), (4, pB b5)] ∧ Holds (([.sl 55 ty12 A0 B0, .sl 3 tI A1 B1, .sl 3 tI A2 B2, .sl 47 ty14 A4 B4] : List Res).flatMap Res.own) w w2 [.bx b1 27 [A0, A1, A2, iV (IntKind.wrap .i64 (B3 + af)), A4], .sl 55 ty12 A0 B0, .sl 3 tI A1 B1, .sl 3 tI A2 B2, .sl 47 ty14 A4 B4, .bx b5 27 [nS, nS, nS, iV 0, nS]] G)) ?_ ?_
 ·refine WP_ordersT (fun w1 w2 => Chg M0 w1 w2) 6 (by kernel_rfl) (fun al a7 => ?_)
  have aA := ai.grow a7
  have an : Ctx al ([] ++ ([.bx b5 27 [nS, nS, nS, iV 0, nS], .bx b1 27 [A0, A1, A2, iV B3, A4], .sl 55 ty12 A0 B0, .sl 3 tI A1 B1, .sl 3 tI A2 B2, .sl 47 ty14 A4 B4] ++ G)) := aA.ctx
  have ae : Holds _ al al [] ([.bx b5 27 [nS, nS, nS, iV 0, nS], .bx b1 27 [A0, A1, A2, iV B3, A4], .sl 55 ty12 A0 B0, .sl 3 tI A1 B1, .sl 3 tI A2 B2, .sl 47 ty14 A4 B4] ++ G) := zb (Rs := []) an
  refine XQ (i := 0) q (by kernel_rfl) q ae.chg q (fun _ => qt_fieldAddr uf27 fi27_3 nz3 q) q q ?_
  have a8 := HasB.bx (HasB.c (HasB.hd)) ae.ctx
  refine XT (i := 1) q (by kernel_rfl) q ae.chg q (qs_cell u3 q q (a8.cell (i := 3) q) ae.chg (Ctx.outB an (HasB.c (HasB.hd)))) q q ?_
  have a9 := HasB.bx (HasB.c (HasB.hd)) ae.ctx
  refine XT (i := 2) q (by kernel_rfl) q ae.chg q (qs_agg (cs := [A0, A1, A2, iV B3, A4]) us27 uo27 il27 q (fun j z hj => by rw [Nat.zero_add]; exact a9.cell hj) ae.chg (Ctx.outB an (HasB.c (HasB.hd)))) q q ?_
  change XC _ _ _ _ _ _ _ _ ((35, .agg #[A0, A1, A2, iV B3, A4]) :: _) _
  refine XQ (i := 3) q (by kernel_rfl) q ae.chg q (fun _ => qt_move q) q q <| X1 4 (by kernel_rfl) q <| zd q q c75 (w_spec_TableBill al _ A0 B0 hS2 A1 B1 hS3 A2 B2 hS4 B3 A4 B4 hS5 p1 af a6 ae.ctx) (by rfl) ?_
  rintro _ bF ⟨rfl, ba⟩; refine ⟨_, q, ?_⟩
  have ao := ae.cN0 [] ba
  refine XN ao.chg <| XQ (i := 5) q (by kernel_rfl) q ao.chg q (fun _ => qt_add q q) q q ?_
  have bb := aA.cN0 [] ao
  refine X1 6 (by kernel_rfl) q <| qF uf27 fi27_3 nz3 q q q <| XE q <| X1 7 (by kernel_rfl) q ?_
  have bc := bb.p1
  refine WL_store_bx bc q il3 q q q q q (fun bG bd => ?_)
  refine XE q ?_
  refine XC_done (by kernel_rfl) (fun a ha => ?_)
  have be := bd.p1.p5.p5.p5.p5.p5
  exact ⟨ha.sub ⟨q, q, q, trivial⟩, be⟩
 intro a bH bf
 obtain ⟨ha, bg⟩ := bf
 refine S ?_ ha
 clear ha
 refine C ?_
 obtain ⟨bI, aB, h⟩ := D h
 obtain ⟨bJ, bh, h⟩ := D h
 obtain ⟨bK, aC, h⟩ := D h
 obtain ⟨bi, bj, h⟩ := D h
 refine WP_join (M := fun a w2 => ∃ ah, Fr a 54 [(2, pB b1), (4, pB b5)] ∧ Holds (([.sl 55 ty12 A0 B0, .sl 3 tI A1 B1, .sl 3 tI A2 B2, .sl 47 ty14 A4 B4] : List Res).flatMap Res.own) w w2 [.bx b1 27 [A0, A1, A2, iV (IntKind.wrap .i64 (B3 + af)), ah], .sl 55 ty12 A0 B0, .sl 3 tI A1 B1, .sl 3 tI A2 B2, .sl 47 ty14 ah bi, .bx b5 27 [nS, nS, nS, iV 0, nS]] G) ?_ ?_
 ·refine WP_ordersT (fun w1 w2 => Chg M0 w1 w2) 12 (by kernel_rfl) (fun ap bk => ?_)
  have aD := bg.grow bk
  have aq : Ctx ap ([] ++ ([.bx b1 27 [A0, A1, A2, iV (IntKind.wrap .i64 (B3 + af)), A4], .sl 55 ty12 A0 B0, .sl 3 tI A1 B1, .sl 3 tI A2 B2, .sl 47 ty14 A4 B4, .bx b5 27 [nS, nS, nS, iV 0, nS]] ++ G)) := aD.ctx
  have ad : Holds _ ap ap [] ([.bx b1 27 [A0, A1, A2, iV (IntKind.wrap .i64 (B3 + af)), A4], .sl 55 ty12 A0 B0, .sl 3 tI A1 B1, .sl 3 tI A2 B2, .sl 47 ty14 A4 B4, .bx b5 27 [nS, nS, nS, iV 0, nS]] ++ G) := zb (Rs := []) aq
  refine XQ (i := 1) q (by kernel_rfl) q ad.chg q (fun _ => qt_fieldAddr uf27 fi27_4 nz25 q) q q ?_
  have bl := HasB.bx (HasB.hd) ad.ctx
  refine XT (i := 2) q (by kernel_rfl) q ad.chg q (qs_cell u25 q q (bl.cell (i := 4) q) ad.chg (Ctx.outB aq (HasB.hd))) q q <| XQ (i := 3) q (by kernel_rfl) q ad.chg q (fun _ => qt_move q) q q <| XT (i := 4) q (by kernel_rfl) q ad.chg q (qs_slice ad.ctx hS4 aB u25 i47 q ⟨_, q⟩ q) q q <| XQ (i := 6) q (by kernel_rfl) q ad.chg q (fun _ => qt_fieldAddr uf27 fi27_4 nz25 q) q q ?_
  have bm := HasB.bx (HasB.hd) ad.ctx
  refine XT (i := 7) q (by kernel_rfl) q ad.chg q (qs_cell u25 q q (bm.cell (i := 4) q) ad.chg (Ctx.outB aq (HasB.hd))) q q <| XQ (i := 8) q (by kernel_rfl) q ad.chg q (fun _ => qt_move q) q q <| XQ (i := 9) q (by kernel_rfl) q ad.chg q (fun _ => qt_add q q) q q <| XT (i := 10) q (by kernel_rfl) q ad.chg q (qs_slice ad.ctx hS4 aC u25 i47 ⟨_, q⟩ q q) q q <| X1 0 (by kernel_rfl) q ?_
  refine zs (t := ty14) (args := []) (xs := ([] : LT)) ad (BltL.nil) u25 j47 q q q q q q (fun bL bM aE => ?_)
  refine XN aE.chg <| X1 5 (by kernel_rfl) q ?_
  refine zw aE (Has.sub hS5 aB) bh u25 j47 q q q q q q (fun bN bO aF => ?_)
  refine XN aF.chg <| X1 11 (by kernel_rfl) q ?_
  refine zw aF (Has.sub hS5 aC) bj u25 j47 q q q q q q (fun bn bP aG => ?_)
  refine XN aG.chg ?_
  have bo := aD.cN1 [] aG
  refine X1 12 (by kernel_rfl) q <| qF uf27 fi27_4 nz25 q q q <| XE q <| X1 13 (by kernel_rfl) q ?_
  have ar := bo.p1
  refine WL_store_bx ar q il25 (ar.ctx.sliceCells hS1) (ar.ctx.sliceOne hS1) q q q (fun bQ bp => ?_)
  refine XE q ?_
  refine XC_done (by kernel_rfl) (fun a ha => ?_)
  have bq := bp.q5.p5.p2.p5.p5.p5.p5
  exact ⟨bn, ha.sub ⟨q, q, trivial⟩, bq⟩
 intro a bR br
 obtain ⟨ah, ha, aH⟩ := br
 refine S ?_ ha
 clear ha
 refine C <| Z ?_
 have bs := R aH.p0
 refine zm (cs := [A0, A1, A2, iV (IntKind.wrap .i64 (B3 + af)), ah]) us27 uo27 il27 bs q q q ?_
 change XL _ _ _ _ _ ((53, .agg #[A0, A1, A2, iV (IntKind.wrap .i64 (B3 + af)), ah]) :: _) _
 have ak := aH.p5
 refine zl (cs' := [A0, A1, A2, iV (IntKind.wrap .i64 (B3 + af)), ah]) ak q il27 q (T (ak.ctx.sliceOne hS2) (T (ak.ctx.sliceOne hS3) (T (ak.ctx.sliceOne hS4) (T q (T (ak.ctx.sliceOne hS5) q))))) q q q (fun bS aI => ?_)
 refine qA q q q <| B <| W fun a ha => ?_
 obtain rfl := L h
 have bt := R aI.p0
 have bu := aI.q0.q0.p3.p3.p3.p3
 exact retct q ha q q (run_loadVar_bx (cs := [A0, A1, A2, iV (IntKind.wrap .i64 (B3 + af)), ah]) us27 uo27 il27 bt) ⟨A0, A1, A2, ah, q, bu⟩
end Go.Proofs.YtpabogkcmbkffaaGreatDoor
