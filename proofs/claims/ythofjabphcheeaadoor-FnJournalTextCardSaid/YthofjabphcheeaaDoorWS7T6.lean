/- The walks: each Go function computes its shallow function. Printed by a program. -/
import Derived.Test.YthofjabphcheeaaDoorWS7T5
set_option linter.unusedVariables false
set_option maxRecDepth 10000
namespace Go.Proofs.YthofjabphcheeaaDoor
open Go Go.RowKit
theorem w_spec_NextFire (w : World) (G : List Res) (vp0 : Value) (p0 : List LP) (hp0 : Has G ty2 vp0 p0) (r : Int × Int) (h : spec_NextFireS p0 = some r) (H : Ctx w G) : Calls Tryd.prog 118 #[vp0] w fun e w' => e = .returned (.tuple #[iV r.1, iV r.2]) ∧ Holds M0 w w' [] G := by
 have H : Holds M0 w w [] G := zb H
 refine zg (args := [vp0]) (n := 28) Tryd.func118 q q q ?_
 unfold spec_NextFireS at h
 refine rR <| qA q q q <| qA q q q <| B <| C <| rR <| qA q q q <| B ?_
 refine g ?_
 obtain ⟨o2, ho3, h⟩ := D h
 refine fun a4 ha5 => zp (I := fun s a w2 => match s with | s1 => (Fr a 28 [(0, vp0), (4, iV s1)] ∧ Holds M0 w w2 [] G)) (O := fun o e a w2 => match o with | .inl _ => e = .exit 0 ∧ (Fr a 28 [] ∧ Holds M0 w w2 [] G) | .inr (q0, q1) => e = .ret ∧ (Fr a 28 [(2, iV q0), (3, iV q1)] ∧ Holds M0 w w2 [] G)) ho3 ?_ ?_ ?_
 ·exact ⟨ha5.sub ⟨q, q, trivial⟩, H⟩
 ·clear ha5
  intro s o8 a w6 hs7 hI9
  obtain ⟨s1, rfl⟩ : ∃ z, z = s := ⟨s, q⟩
  obtain ⟨ha, H10⟩ := hI9
  refine S ?_ ha
  clear ha
  refine C <| C <| zk <| qM q q q <| qM q q q <| za H10.ctx (t := ty2) (hp0) u129 q q q <| A q (qt_lss q q) q q <| qM q q q ?_
  obtain ⟨b11, hg12, hs7⟩ := D hs7
  refine zh 3 13 (.bool b11) ?_ (fun md hmd hk => ?_)
  rotate_left
  ·obtain ⟨K, rfl⟩ := zr hmd
   rcases btf (decide (s1 < (List.length p0 : Int))) with hc13 | hc13
   ·skip
    have hg12 := if_t hc13 hg12
    refine qM (J q hc13) q q ?_
    obtain ⟨x14, hx15, hg12⟩ := D hg12
    refine QC (J q hc13) q c115 (fun w' hb => w_spec_KitchenValid w' G vp0 p0 (hp0) x14 hx15 (H10.grow hb).ctx) (by rfl) <| A q (ze q hc13 q) q q ?_
    exact hk _ (p (vb hg12) (cfn 2 q (u)))
   skip
   refine qS q hc13 q q <| qS q hc13 q q <| A q (zf q hc13 q) q q ?_
   exact hk _ (p (vb (if_f hc13 hg12)) (cfn 2 q (u)))
  refine QL_nil fun a ha w16 hb17 => ?_
  have H18 := H10.grow hb17
  refine X (S ?_ ha)
  refine Y q (fun hc19 => ?_) (fun hc19 => ?_)
  ·have hs7 := if_t hc19 hs7
   refine y <| C <| g <| rR <| qM q q q <| qM q q q ?_
   obtain ⟨x20, hx21, hs7⟩ := D hs7
   refine b H18.ctx (hp0) hx21 u129 i31 q q q q (fun b22 off23 cap24 hv25 => ?_)
   obtain ⟨F26, hat27, hdup28⟩ := H18.at (hp0) hx21 hv25
   refine XL_load (t := ty2) u31 q q hat27 q q q (fun v29 hr30 => ?_)
   have H31 : Holds _ w w16 [.ro ty1 v29 x20] G := hdup28 _ _ _ _ hr30 (fun _ h => h)
   obtain ⟨x32, hx33, hs7⟩ := D hs7
   refine zd q q c129 (w_spec_TicketMay w16 _ v29 x20 hR0 x32 hx33 H31.ctx) (by rfl) ?_
   rintro _ w34 ⟨v36, rfl, H35⟩; refine ⟨_, q, ?_⟩
   have H37 := H31.cN1 [] H35
   refine qA q q q <| rN <| qM q q q <| za H37.ctx (t := tI) hS0 u24 q q q <| A q (qt_gtr q q) q q <| B ?_
   refine Y q (fun hc38 => ?_) (fun hc38 => ?_)
   ·have hs7 := if_t hc38 hs7
    refine C <| WP_quiet (by kernel_rfl) (by kernel_rfl) <| qM q q q <| qM q q q ?_
    obtain ⟨x39, hx40, hs7⟩ := D hs7
    refine b H37.ctx hS0 hx40 u24 i3 q q q q (fun b41 off42 cap43 hv44 => ?_)
    obtain ⟨F45, hat46, hdup47⟩ := H37.at hS0 hx40 hv44
    refine zt (k := .i64) u3 q hat46 q q q <| qA q q q <| qA q q q <| QL_nil fun a ha w48 hb49 => ?_
    have H50 := H37.grow hb49
    refine X (S ?_ ha)
    refine W fun a ha => ?_
    obtain rfl := L hs7
    have H51 := H50.q0.q0
    exact zj (m (⟨ret_ne, q, ha.sub ⟨q, q, trivial⟩, H51⟩))
   have hs7 := if_f hc38 hs7
   refine WP_skip fun a ha => ?_
   refine zi (X (S ?_ ha))
   refine Z <| qM q q q <| A q (qt_add q q) q q <| qA q q q <| WL_nil fun a ha => ?_
   obtain rfl := L hs7
   have H52 := H37.q0.q0
   exact ⟨q, ha.sub ⟨q, q, trivial⟩, H52⟩
  have hs7 := if_f hc19 hs7
  refine WP_exit fun a ha => ?_
  obtain rfl := L hs7
  exact zo (⟨exit_ne, q, ha.sub trivial, H18⟩)
 intro e a4 w53 hO54
 rcases o2 with o2 | o2
 ·skip
  obtain ⟨rfl, hO56⟩ := hO54
  obtain ⟨ha, H55⟩ := hO56
  refine zn (X (S ?_ ha))
  refine rR <| qA q q q <| qA q q q <| B <| W fun a ha => ?_
  obtain rfl := L h
  exact ret2 q ha q q ⟨q, H55⟩
 skip
 obtain ⟨p57, p58⟩ := o2
 obtain ⟨rfl, hO60⟩ := hO54
 obtain ⟨ha, H59⟩ := hO60
 obtain rfl := L h
 exact zj (m (ret2 q ha q q ⟨q, H59⟩))
theorem w_spec_WorkStep (w : World) (G : List Res) (vp0 : Value) (p0 : List LP) (hp0 : Has G ty2 vp0 p0) (r : (List LP) × Bool) (h : spec_WorkStepS p0 = some r) (H : Ctx w G) : Calls Tryd.prog 100 #[vp0] w fun e w' => ∃ (v1 : Value), e = .returned (.tuple #[v1, .bool r.2]) ∧ Holds M0 w w' [.sl 31 ty2 v1 r.1] G := by
 have H : Holds M0 w w [] G := zb H
 refine zg (args := [vp0]) (n := 77) Tryd.func100 q q q ?_
 unfold spec_WorkStepS at h
 refine rR <| qA q q q <| qA q q q <| B <| C <| C <| zk <| qM q q q ?_
 obtain ⟨x1, hx2, h⟩ := D h
 refine QC q q c115 (fun w' hb => w_spec_KitchenValid w' G vp0 p0 (hp0) x1 hx2 (H.grow hb).ctx) (by rfl) <| A q (qt_not q) q q <| QL_nil fun a ha w3 hb4 => ?_
 have H5 := H.grow hb4
 refine X (S ?_ ha)
 refine Y q (fun hc6 => ?_) (fun hc6 => ?_)
 ·have h := if_t hc6 h
  refine C <| Z ?_
  refine zs (t := ty2) (args := []) (xs := ([] : List LP)) H5 (BltL.nil) u129 j31 q q q q q q (fun v7 w8 H9 => ?_)
  refine qA q q q <| qA q q q <| B <| W fun a ha => ?_
  obtain rfl := L h
  exact m (ret2 q ha q q ⟨v7, q, H9⟩)
 have h := if_f hc6 h
 refine y <| rR <| qM q q q ?_
 obtain ⟨x11, hx12, h⟩ := D h
 refine zd q q c116 (w_spec_l4Copy w3 G vp0 p0 (hp0) x11 hx12 H5.ctx) (by rfl) ?_
 rintro _ w13 ⟨v15, rfl, H14⟩; refine ⟨_, q, ?_⟩
 have H16 := H5.cN1 [] H14
 refine qA q q q <| B <| C <| rR <| qA q q q <| B <| g ?_
 obtain ⟨o19, ho20, h⟩ := D h
 refine fun a21 ha22 => zp (I := fun s a w2 => match s with | (s17, s18) => (Fr a 77 [(0, vp0), (4, v15), (5, iV s17)] ∧ Holds M0 w w2 [.sl 31 ty2 v15 s18] G)) (O := fun o e a w2 => match o with | .inl q0 => e = .exit 0 ∧ (Fr a 77 [(0, vp0), (4, v15)] ∧ Holds M0 w w2 [.sl 31 ty2 v15 q0] G) | .inr (q0, q1, q2) => e = .ret ∧ ∃ vq0, Fr a 77 [(2, vq0), (3, .bool q1)] ∧ Holds M0 w w2 [.sl 31 ty2 vq0 q0] G) ho20 ?_ ?_ ?_
 ·exact ⟨ha22.sub ⟨q, q, q, trivial⟩, H16⟩
 ·clear ha22
  intro s o25 a w23 hs24 hI26
  obtain ⟨s17, s18⟩ := s
  obtain ⟨ha, H27⟩ := hI26
  refine S ?_ ha
  clear ha
  refine C <| rR <| qM q q q <| A q (qt_geq q q) q q <| B ?_
  refine Y q (fun hc28 => ?_) (fun hc28 => ?_)
  ·have hs24 := if_t hc28 hs24
   refine y <| C <| g <| rR <| qA q q q <| B <| g ?_
   obtain ⟨o31, ho32, hs24⟩ := D hs24
   refine fun a33 ha34 => zp (I := fun s a w2 => match s with | (s29, s30) => (Fr a 77 [(0, vp0), (4, v15), (5, iV s17), (6, iV s29)] ∧ Holds M0 w w2 [.sl 31 ty2 v15 s30] G)) (O := fun o e a w2 => match o with | .inl q0 => e = .exit 2 ∧ (Fr a 77 [(0, vp0), (4, v15), (5, iV s17)] ∧ Holds M0 w w2 [.sl 31 ty2 v15 q0] G) | .inr (q0, q1, q2) => e = .ret ∧ ∃ vq0, Fr a 77 [(2, vq0), (3, .bool q1)] ∧ Holds M0 w w2 [.sl 31 ty2 vq0 q0] G) ho32 ?_ ?_ ?_
   ·exact ⟨ha34.sub ⟨q, q, q, q, trivial⟩, H27⟩
   ·clear ha34
    intro s o37 a w35 hs36 hI38
    obtain ⟨s29, s30⟩ := s
    obtain ⟨ha, H39⟩ := hI38
    refine S ?_ ha
    clear ha
    refine C <| rR <| qM q q q <| qM q q q <| za H39.ctx (t := ty2) (hp0.c) u129 q q q <| A q (qt_lss q q) q q <| B ?_
    refine Y q (fun hc40 => ?_) (fun hc40 => ?_)
    ·have hs36 := if_t hc40 hs36
     refine y <| C <| g <| rR <| qA q q q <| B <| g ?_
     obtain ⟨o43, ho44, hs36⟩ := D hs36
     refine fun a45 ha46 => zp (I := fun s a w2 => match s with | (s41, s42) => (Fr a 77 [(0, vp0), (4, v15), (5, iV s17), (6, iV s29), (7, iV s41)] ∧ Holds M0 w w2 [.sl 31 ty2 v15 s42] G)) (O := fun o e a w2 => match o with | .inl q0 => e = .exit 4 ∧ (Fr a 77 [(0, vp0), (4, v15), (5, iV s17), (6, iV s29)] ∧ Holds M0 w w2 [.sl 31 ty2 v15 q0] G) | .inr (q0, q1, q2) => e = .ret ∧ ∃ vq0, Fr a 77 [(2, vq0), (3, .bool q1)] ∧ Holds M0 w w2 [.sl 31 ty2 vq0 q0] G) ho44 ?_ ?_ ?_
     ·exact ⟨ha46.sub ⟨q, q, q, q, q, trivial⟩, H39⟩
     ·clear ha46
      intro s o49 a w47 hs48 hI50
      obtain ⟨s41, s42⟩ := s
      obtain ⟨ha, H51⟩ := hI50
      refine S ?_ ha
      clear ha
      refine C <| rR <| qM q q q <| qM q q q <| qM q q q ?_
      obtain ⟨x52, hx53, hs48⟩ := D hs48
      refine b H51.ctx (hp0.c) hx53 u129 i31 q q q q (fun b54 off55 cap56 hv57 => ?_)
      obtain ⟨F58, hat59, hdup60⟩ := H51.at (hp0.c) hx53 hv57
      refine XL_load (t := ty2) u31 q q hat59 q q q (fun v61 hr62 => ?_)
      have H63 : Holds _ w w47 [.ro ty1 v61 x52, .sl 31 ty2 v15 s42] G := hdup60 _ _ _ _ hr62 (fun _ h => h)
      refine za H63.ctx (t := ty1) hR0 u31 q q q <| A q (qt_lss q q) q q <| B ?_
      refine Y q (fun hc64 => ?_) (fun hc64 => ?_)
      ·have hs48 := if_t hc64 hs48
       refine y <| C <| g <| rR <| qM q q q <| qM q q q ?_
       obtain ⟨x65, hx66, hs48⟩ := D hs48
       refine b H63.ctx (hp0.c.c) hx66 u129 i31 q q q q (fun b67 off68 cap69 hv70 => ?_)
       obtain ⟨F71, hat72, hdup73⟩ := H63.at (hp0.c.c) hx66 hv70
       refine XL_load (t := ty2) u31 q q hat72 q q q (fun v74 hr75 => ?_)
       have H76 : Holds _ w w47 [.ro ty1 v74 x65, .ro ty1 v61 x52, .sl 31 ty2 v15 s42] G := hdup73 _ _ _ _ hr75 (fun _ h => h)
       refine qM q q q <| qM q q q ?_
       obtain ⟨x77, hx78, hs48⟩ := D hs48
       refine zd q q c117 (w_spec_TicketDo w47 _ v74 x65 hR0 s41 s17 x77 hx78 H76.ctx) (by rfl) ?_
       rintro _ w79 ⟨v81, rfl, H80⟩; refine ⟨_, q, ?_⟩
       have H82 := H76.cN1 [] H80
       refine qM q q q <| A q (zv q q) q q <| A q (zv q q) q q <| qA q q q <| qA q q q <| rN <| qM q q q <| B ?_
       refine Y q (fun hc83 => ?_) (fun hc83 => ?_)
       ·have hs48 := if_t hc83 hs48
        refine rR <| qM q q q <| qM q q q <| qM q q q ?_
        obtain ⟨x84, hx85, hs48⟩ := D hs48
        refine b H82.ctx hS3 hx85 u129 i31 q q q q (fun b86 off87 cap88 hv89 => ?_)
        have H90 := H82.p3
        have H91 := H90.p1
        have H92 := H91.freeze
        have H93 := H92.p1
        refine WL_storeH (fo := 0) (cs' := [v81]) H93 hx85 hv89 (Upd.whole (Blt.slice hO1)) (H93.ctx.sliceList hR1) il31 q q q q (fun w94 H95 => ?_)
        refine rN <| qM q q q <| qA q q q <| qA q q q <| B <| W fun a ha => ?_
        obtain rfl := L hs48
        have H97 := H95.q1.q1.q1
        exact zj (m (⟨ret_ne, q, v15, ha.sub ⟨q, q, trivial⟩, H97⟩))
       have hs48 := if_f hc83 hs48
       refine WP_skip fun a ha => ?_
       refine zi (X (S ?_ ha))
       refine Z <| qM q q q <| A q (qt_add q q) q q <| qA q q q <| WL_nil fun a ha => ?_
       obtain rfl := L hs48
       have H98 := H82.q0.q0.q0
       exact ⟨q, ha.sub ⟨q, q, q, q, q, trivial⟩, H98⟩
      have hs48 := if_f hc64 hs48
      refine WP_exit fun a ha => ?_
      obtain rfl := L hs48
      have H99 := H63.q0
      exact zo (⟨exit_ne, q, ha.sub ⟨q, q, q, q, trivial⟩, H99⟩)
     intro e a45 w100 hO101
     rcases o43 with o43 | o43
     ·skip
      obtain ⟨p102, rfl⟩ : ∃ z, z = o43 := ⟨o43, q⟩
      obtain ⟨rfl, hO104⟩ := hO101
      obtain ⟨ha, H103⟩ := hO104
      refine zn (zi (X (S ?_ ha)))
      refine Z <| qM q q q <| A q (qt_add q q) q q <| qA q q q <| WL_nil fun a ha => ?_
      obtain rfl := L hs36
      exact ⟨q, ha.sub ⟨q, q, q, q, trivial⟩, H103⟩
     skip
     obtain ⟨p105, p106, p107⟩ := o43
     obtain ⟨rfl, hO109⟩ := hO101
     obtain ⟨vp105, ha, H108⟩ := hO109
     obtain rfl := L hs36
     exact zj (zj (m (⟨ret_ne, q, vp105, ha.sub ⟨q, q, trivial⟩, H108⟩)))
    have hs36 := if_f hc40 hs36
    refine WP_exit fun a ha => ?_
    obtain rfl := L hs36
    exact zo (⟨exit_ne, q, ha.sub ⟨q, q, q, trivial⟩, H39⟩)
   intro e a33 w110 hO111
   rcases o31 with o31 | o31
   ·skip
    obtain ⟨p112, rfl⟩ : ∃ z, z = o31 := ⟨o31, q⟩
    obtain ⟨rfl, hO114⟩ := hO111
    obtain ⟨ha, H113⟩ := hO114
    refine zn (zi (X (S ?_ ha)))
    refine Z <| qM q q q <| A q (qt_sub q q) q q <| qA q q q <| WL_nil fun a ha => ?_
    obtain rfl := L hs24
    exact ⟨q, ha.sub ⟨q, q, q, trivial⟩, H113⟩
   skip
   obtain ⟨p115, p116, p117⟩ := o31
   obtain ⟨rfl, hO119⟩ := hO111
   obtain ⟨vp115, ha, H118⟩ := hO119
   obtain rfl := L hs24
   exact zj (zj (m (⟨ret_ne, q, vp115, ha.sub ⟨q, q, trivial⟩, H118⟩)))
  have hs24 := if_f hc28 hs24
  refine WP_exit fun a ha => ?_
  obtain rfl := L hs24
  exact zo (⟨exit_ne, q, ha.sub ⟨q, q, trivial⟩, H27⟩)
 intro e a21 w120 hO121
 rcases o19 with o19 | o19
 ·skip
  obtain ⟨p122, rfl⟩ : ∃ z, z = o19 := ⟨o19, q⟩
  obtain ⟨rfl, hO124⟩ := hO121
  obtain ⟨ha, H123⟩ := hO124
  refine zn (X (S ?_ ha))
  refine rR <| qM q q q ?_
  obtain ⟨x125, hx126, h⟩ := D h
  refine zd q q c118 (w_spec_NextFire w120 _ vp0 p0 (hp0.c) x125 hx126 H123.ctx) (by rfl) ?_
  rintro _ w127 ⟨rfl, H128⟩; refine ⟨_, q, ?_⟩
  have H129 := H123.cN0 [] H128
  refine qM q q q <| A q (zv q q) q q <| A q (zv q q) q q <| qA q q q <| qA q q q <| B <| C <| rR <| qM q q q ?_
  refine A q (qt_lss q q) q q <| B ?_
  refine Y q (fun hc130 => ?_) (fun hc130 => ?_)
  ·have h := if_t hc130 h
   refine rR <| qM q q q <| qA q q q <| qA q q q <| B <| W fun a ha => ?_
   obtain rfl := L h
   exact m (ret2 q ha q q ⟨v15, q, H129⟩)
  have h := if_f hc130 h
  refine y <| rR <| qM q q q <| qM q q q ?_
  obtain ⟨x131, hx132, h⟩ := D h
  refine b H129.ctx (hp0.c) hx132 u129 i31 q q q q (fun b133 off134 cap135 hv136 => ?_)
  obtain ⟨F137, hat138, hdup139⟩ := H129.at (hp0.c) hx132 hv136
  refine XL_load (t := ty2) u31 q q hat138 q q q (fun v140 hr141 => ?_)
  have H142 : Holds _ w w127 [.ro ty1 v140 x131, .sl 31 ty2 v15 p122] G := hdup139 _ _ _ _ hr141 (fun _ h => h)
  refine qM q q q ?_
  obtain ⟨x143, hx144, h⟩ := D h
  refine zd q q c117 (w_spec_TicketDo w127 _ v140 x131 hR0 x125.2 0 x143 hx144 H142.ctx) (by rfl) ?_
  rintro _ w145 ⟨v147, rfl, H146⟩; refine ⟨_, q, ?_⟩
  have H148 := H142.cN1 [] H146
  refine qM q q q <| A q (zv q q) q q <| A q (zv q q) q q <| qA q q q <| qA q q q <| rN <| qM q q q <| qM q q q ?_
  refine qM q q q ?_
  obtain ⟨x149, hx150, h⟩ := D h
  refine b H148.ctx hS2 hx150 u129 i31 q q q q (fun b151 off152 cap153 hv154 => ?_)
  have H155 := H148.p2
  have H156 := H155.p1
  have H157 := H156.freeze
  have H158 := H157.p1
  refine WL_storeH (fo := 0) (cs' := [v147]) H158 hx150 hv154 (Upd.whole (Blt.slice hO1)) (H158.ctx.sliceList hR1) il31 q q q q (fun w159 H160 => ?_)
  refine rN <| qM q q q <| qA q q q <| qA q q q <| B <| W fun a ha => ?_
  obtain rfl := L h
  have H162 := H160.q1.q1
  exact ret2 q ha q q ⟨v15, q, H162⟩
 skip
 obtain ⟨p163, p164, p165⟩ := o19
 obtain ⟨rfl, hO167⟩ := hO121
 obtain ⟨vp163, ha, H166⟩ := hO167
 obtain rfl := L h
 exact zj (m (ret2 q ha q q ⟨vp163, q, H166⟩))
theorem w_spec_l7Work (w : World) (G : List Res) (A0 : Value) (B0 : LI) (A1 : Value) (B1 : List Int) (A2 : Value) (B2 : List Int) (B3 : Int) (A4 : Value) (B4 : LT) (r : (LI × (List Int) × (List Int) × Int × LT) × Bool) (h : spec_l7WorkS B0 B1 B2 B3 B4 = some r) (H : Ctx w ([.sl 70 ty7 A0 B0, .sl 3 tI A1 B1, .sl 3 tI A2 B2, .sl 33 ty8 A4 B4] ++ G)) : Calls Tryd.prog 85 #[.agg #[A0, A1, A2, iV B3, A4]] w fun e w' => ∃ (v1 : Value) (v2 : Value) (v3 : Value) (v4 : Value), e = .returned (.tuple #[.agg #[v1, v2, v3, iV r.1.2.2.2.1, v4], .bool r.2]) ∧ Holds (([.sl 70 ty7 A0 B0, .sl 3 tI A1 B1, .sl 3 tI A2 B2, .sl 33 ty8 A4 B4] : List Res).flatMap Res.own) w w' [.sl 70 ty7 v1 r.1.1, .sl 3 tI v2 r.1.2.1, .sl 3 tI v3 r.1.2.2.1, .sl 33 ty8 v4 r.1.2.2.2.2] G := by
 have H : Holds (([.sl 70 ty7 A0 B0, .sl 3 tI A1 B1, .sl 3 tI A2 B2, .sl 33 ty8 A4 B4] : List Res).flatMap Res.own) w w [.sl 70 ty7 A0 B0, .sl 3 tI A1 B1, .sl 3 tI A2 B2, .sl 33 ty8 A4 B4] G := zb H
 refine zg (args := [.agg #[A0, A1, A2, iV B3, A4]]) (n := 33) Tryd.func85 q q q ?_
 unfold spec_l7WorkS at h
 refine C <| Z ?_
 refine WL_box (cs := [A0, A1, A2, iV B3, A4]) H q q q q (fun b1 w2 H3 => ?_)
 refine zq (cs := [nS, nS, nS, iV 0, nS]) H3 z27 q q q (fun b5 w6 H7 => ?_)
 refine qA q q q <| B <| C <| Z ?_
 have hB9 := R H7.p1
 refine zm (cs := [A0, A1, A2, iV B3, A4]) us27 uo27 il27 hB9 q q q ?_
 change XL _ _ _ _ _ ((8, .agg #[A0, A1, A2, iV B3, A4]) :: _) _
 obtain ⟨x10, hx11, h⟩ := D h
 refine zd q q c101 (w_spec_l7Tickets w6 _ A0 B0 hS2 A1 B1 hS3 A2 B2 hS4 B3 A4 B4 hS5 x10 hx11 H7.ctx) (by rfl) ?_
 rintro _ w12 ⟨v14, rfl, H13⟩; refine ⟨_, q, ?_⟩
 have H15 := H7.cN1 [] H13
 obtain ⟨x16, hx17, h⟩ := D h
 refine zd q q c100 (w_spec_WorkStep w12 _ v14 x10 hS0 x16 hx17 H15.ctx) (by rfl) ?_
 rintro _ w18 ⟨v20, rfl, H19⟩; refine ⟨_, q, ?_⟩
 have H21 := H15.cN1 [] H19
 refine qM q q q <| A q (zv q q) q q <| A q (zv q q) q q <| qA q q q <| qA q q q <| B <| C <| rR <| qM q q q ?_
 refine A q (qt_not q) q q <| B ?_
 refine Y q (fun hc22 => ?_) (fun hc22 => ?_)
 ·have h := if_t hc22 h
  refine C <| Z ?_
  have hB23 := R H21.p3
  refine zm (cs := [A0, A1, A2, iV B3, A4]) us27 uo27 il27 hB23 q q q ?_
  change XL _ _ _ _ _ ((15, .agg #[A0, A1, A2, iV B3, A4]) :: _) _
  have H24 := H21.p2
  refine zl (cs' := [A0, A1, A2, iV B3, A4]) H24 q il27 q (T (H24.ctx.sliceOne hS4) (T (H24.ctx.sliceOne hS5) (T (H24.ctx.sliceOne hS6) (T q (T (H24.ctx.sliceOne hS7) q))))) q q q (fun w25 H26 => ?_)
  refine qA q q q <| B <| W fun a ha => ?_
  obtain rfl := L h
  have hB28 := R H26.p0
  have H29 := H26.q0.q0.q0.q0.p3.p3.p3.p3
  exact m (retct q ha q q (run_loadVar_bx (cs := [A0, A1, A2, iV B3, A4]) us27 uo27 il27 hB28) ⟨A0, A1, A2, A4, q, H29⟩)
 have h := if_f hc22 h
 refine y <| C <| rR <| qA q q q <| B <| g ?_
 obtain ⟨o32, ho33, h⟩ := D h
 have H36 := H21.q1.p1.p6.p6.p6.p6.p6
 refine fun a34 ha35 => zp (I := fun s a w2 => match s with | (s30, s31) => (Fr a 33 [(1, pB b1), (2, pB b5), (4, v20), (6, iV s30)] ∧ Holds (([.sl 70 ty7 A0 B0, .sl 3 tI A1 B1, .sl 3 tI A2 B2, .sl 33 ty8 A4 B4] : List Res).flatMap Res.own) w w2 [.bx b1 27 [A0, A1, A2, iV B3, A4], .sl 70 ty7 A0 B0, .sl 3 tI A1 B1, .sl 3 tI A2 B2, .sl 33 ty8 A4 s31, .bx b5 27 [nS, nS, nS, iV 0, nS], .sl 31 ty2 v20 x16.1] G)) (O := fun o e a w2 => match o with | q0 => e = .exit 0 ∧ (Fr a 33 [(1, pB b1), (2, pB b5)] ∧ Holds (([.sl 70 ty7 A0 B0, .sl 3 tI A1 B1, .sl 3 tI A2 B2, .sl 33 ty8 A4 B4] : List Res).flatMap Res.own) w w2 [.bx b1 27 [A0, A1, A2, iV B3, A4], .sl 70 ty7 A0 B0, .sl 3 tI A1 B1, .sl 3 tI A2 B2, .sl 33 ty8 A4 q0, .bx b5 27 [nS, nS, nS, iV 0, nS]] G)) ho33 ?_ ?_ ?_
 ·exact ⟨ha35.sub ⟨q, q, q, q, trivial⟩, H36⟩
 ·clear ha35
  intro s o39 a w37 hs38 hI40
  obtain ⟨s30, s31⟩ := s
  obtain ⟨ha, H41⟩ := hI40
  refine S ?_ ha
  clear ha
  refine C <| rR <| qM q q q <| qF uf27 fi27_4 nz25 q q q ?_
  have hB42 := R H41.p0
  refine l u25 q hB42 q q q q <| za H41.ctx (t := ty8) hS4 u25 q q q <| A q (qt_lss q q) q q <| B ?_
  refine Y q (fun hc43 => ?_) (fun hc43 => ?_)
  ·have hs38 := if_t hc43 hs38
   refine y <| C <| g ?_
   refine WP_tail 7 (by kernel_rfl) (by kernel_rfl) (fun w44 hb45 => ?_)
   have H46 := H41.grow hb45
   refine qF uf27 fi27_4 nz25 q q q ?_
   have hB47 := R H46.p0
   refine l u25 q hB47 q q q q <| qM q q q <| qM q q q <| qM q q q ?_
   obtain ⟨x48, hx49, hs38⟩ := D hs38
   refine b H46.ctx hS6 hx49 u129 i31 q q q q (fun b50 off51 cap52 hv53 => ?_)
   obtain ⟨F54, hat55, hdup56⟩ := H46.at hS6 hx49 hv53
   refine XL_load (t := ty2) u31 q q hat55 q q q (fun v57 hr58 => ?_)
   have H59 : Holds _ w w44 [.ro ty1 v57 x48, .bx b1 27 [A0, A1, A2, iV B3, A4], .sl 70 ty7 A0 B0, .sl 3 tI A1 B1, .sl 3 tI A2 B2, .sl 33 ty8 A4 s31, .bx b5 27 [nS, nS, nS, iV 0, nS], .sl 31 ty2 v20 x16.1] G := hdup56 _ _ _ _ hr58 (fun _ h => h)
   refine SL_nil ?_
   obtain ⟨x60, hx61, hs38⟩ := D hs38
   refine b H59.ctx hS5 hx61 u25 i33 q q q q (fun b62 off63 cap64 hv65 => ?_)
   refine qF uf33 fi33_1 nz31 q q q ?_
   have H66 := H59.p5
   refine WL_storeH (fo := 1) (cs' := [v57]) H66 hx61 hv65 (Upd.snd (Upd.fst (Upd.whole (Blt.slice hO1)) q)) (H66.ctx.sliceList hR1) il31 q q q q (fun w67 H68 => ?_)
   refine WL_nil fun a ha => ?_
   refine zi (X (S ?_ ha))
   refine Z <| qM q q q <| A q (qt_add q q) q q <| qA q q q <| WL_nil fun a ha => ?_
   obtain rfl := L hs38
   have H70 := H68.q1.p6.p6.p2.p6.p6.p6.p6
   exact ⟨q, ha.sub ⟨q, q, q, q, trivial⟩, H70⟩
  have hs38 := if_f hc43 hs38
  refine WP_exit fun a ha => ?_
  obtain rfl := L hs38
  have H71 := H41.q6.p5.p5.p5.p5.p5.p5
  exact zo (⟨exit_ne, q, ha.sub ⟨q, q, trivial⟩, H71⟩)
 intro e a34 w72 hO73
 obtain ⟨p74, rfl⟩ : ∃ z, z = o32 := ⟨o32, q⟩
 obtain ⟨rfl, hO76⟩ := hO73
 obtain ⟨ha, H75⟩ := hO76
 refine zn (X (S ?_ ha))
 refine C <| Z ?_
 have hB77 := R H75.p0
 refine zm (cs := [A0, A1, A2, iV B3, A4]) us27 uo27 il27 hB77 q q q ?_
 change XL _ _ _ _ _ ((32, .agg #[A0, A1, A2, iV B3, A4]) :: _) _
 have H78 := H75.p5
 refine zl (cs' := [A0, A1, A2, iV B3, A4]) H78 q il27 q (T (H78.ctx.sliceOne hS2) (T (H78.ctx.sliceOne hS3) (T (H78.ctx.sliceOne hS4) (T q (T (H78.ctx.sliceOne hS5) q))))) q q q (fun w79 H80 => ?_)
 refine qA q q q <| B <| W fun a ha => ?_
 obtain rfl := L h
 have hB82 := R H80.p0
 have H83 := H80.q0.q0.p3.p3.p3.p3
 exact retct q ha q q (run_loadVar_bx (cs := [A0, A1, A2, iV B3, A4]) us27 uo27 il27 hB82) ⟨A0, A1, A2, A4, q, H83⟩
theorem w_spec_TicketCourse (w : World) (G : List Res) (vp0 : Value) (p0 : LP) (hp0 : Has G ty1 vp0 p0) (r : Int) (h : spec_TicketCourseS p0 = some r) (H : Ctx w G) : Calls Tryd.prog 119 #[vp0] w fun e w' => e = .returned (iV r) ∧ Holds M0 w w' [] G := by
 have H : Holds M0 w w [] G := zb H
 refine zg (args := [vp0]) (n := 40) Tryd.func119 q q q ?_
 unfold spec_TicketCourseS at h
 refine rR <| qA q q q <| rN <| qA q q q <| B <| C <| C ?_
 refine Z <| qA q q q <| B <| g ?_
 obtain ⟨o3, ho4, h⟩ := D h
 refine fun a5 ha6 => zp (I := fun s a w2 => match s with | (s1, s2) => (Fr a 40 [(0, vp0), (3, iV s1), (4, iV s2)] ∧ Holds M0 w w2 [] G)) (O := fun o e a w2 => match o with | q0 => e = .exit 0 ∧ (Fr a 40 [(3, iV q0)] ∧ Holds M0 w w2 [] G)) ho4 ?_ ?_ ?_
 ·exact ⟨ha6.sub ⟨q, q, q, trivial⟩, H⟩
 ·clear ha6
  intro s o9 a w7 hs8 hI10
  obtain ⟨s1, s2⟩ := s
  obtain ⟨ha, H11⟩ := hI10
  refine S ?_ ha
  clear ha
  refine C <| C <| zk <| qM q q q <| qM q q q <| za H11.ctx (t := ty1) (hp0) u31 q q q <| A q (qt_lss q q) q q <| qM q q q ?_
  obtain ⟨b12, hg13, hs8⟩ := D hs8
  refine zh 3 12 (.bool b12) ?_ (fun md hmd hk => ?_)
  rotate_left
  ·obtain ⟨K, rfl⟩ := zr hmd
   rcases btf (decide (s2 < (List.length p0 : Int))) with hc14 | hc14
   ·skip
    have hg13 := if_t hc14 hg13
    refine qM (J q hc14) q q ?_
    obtain ⟨x15, hx16, hg13⟩ := D hg13
    refine QC (J q hc14) q c39 (fun w' hb => w_spec_TicketValid w' G vp0 p0 (hp0) x15 hx16 (H11.grow hb).ctx) (by rfl) <| A q (ze q hc14 q) q q ?_
    exact hk _ (p (vb hg13) (cfn 2 q (u)))
   skip
   refine qS q hc14 q q <| qS q hc14 q q <| A q (zf q hc14 q) q q ?_
   exact hk _ (p (vb (if_f hc14 hg13)) (cfn 2 q (u)))
  refine QL_nil fun a ha w17 hb18 => ?_
  have H19 := H11.grow hb18
  refine X (S ?_ ha)
  refine Y q (fun hc20 => ?_) (fun hc20 => ?_)
  ·have hs8 := if_t hc20 hs8
   refine y <| C <| g <| rR <| qM q q q <| qM q q q ?_
   obtain ⟨x21, hx22, hs8⟩ := D hs8
   refine b H19.ctx (hp0) hx22 u31 i40 q q q q (fun b23 off24 cap25 hv26 => ?_)
   refine qF uf40 fi40_1 nz3 q q q ?_
   obtain ⟨F27, hat28, hdup29⟩ := H19.at (hp0) hx22 hv26
   obtain ⟨F30, hat31, hin32⟩ := AtP.snd hat28
   refine zt (k := .i64) u3 q hat31 q q q <| A q (qt_lss q q) q q <| qM q q q ?_
   obtain ⟨b33, hg34, hs8⟩ := D hs8
   refine zh 12 33 (.bool b33) ?_ (fun md hmd hk => ?_)
   rotate_left
   ·obtain ⟨Q, rfl⟩ := Md.seq_of hmd
    rcases btf (decide (x21.2 < 3)) with hc35 | hc35
    ·skip
     have hg34 := if_t hc35 hg34
     refine qM (J q hc35) q q <| A (J q hc35) (qt_lss q q) q q <| qM (J q hc35) q q ?_
     obtain ⟨b36, hg37, hg34⟩ := D hg34
     refine zh 8 32 (.bool b36) ?_ (fun md hmd hk => ?_)
     rotate_left
     ·obtain ⟨Q, rfl⟩ := Md.seq_of hmd
      rcases btf (decide (s1 < 0)) with hc38 | hc38
      ·skip
       refine qS q hc38 q q <| qS q hc38 q q <| qS q hc38 q q <| qS q hc38 q q <| qS q hc38 q q <| qS q hc38 q q <| qS q hc38 q q <| A (J q hc35) (ze q hc38 q) q q ?_
       exact hk _ (p (vb (if_t hc38 hg37)) (cfn 7 q (u)))
      skip
      have hg37 := if_f hc38 hg37
      refine qM (J q hc38) q q <| qM (J q hc38) q q ?_
      obtain ⟨x39, hx40, hg37⟩ := D hg37
      refine b H19.ctx (hp0) hx40 u31 i40 (J q hc38) q q q (fun b41 off42 cap43 hv44 => ?_)
      refine qF uf40 fi40_0 nz3 (J q hc38) q q ?_
      obtain ⟨F45, hat46, hdup47⟩ := H19.at (hp0) hx40 hv44
      obtain ⟨F48, hat49, hin50⟩ := AtP.fst hat46
      refine zt (k := .i64) u3 q hat49 (J q hc38) q q <| qM (J q hc38) q q <| A (J q hc38) (qt_lss q q) q q <| A (J q hc35) (zf q hc38 q) q q ?_
      exact hk _ (p (vb hg37) (cfn 7 q (u)))
     refine A q (ze q hc35 q) q q ?_
     exact hk _ (p (vb hg34) (cfn 4 q (u)))
    skip
    refine qS q hc35 q q <| qS q hc35 q q <| qS q hc35 q q <| XL_skip q q q <| XL_skip q q q <| XL_skip q q q <| XL_skip q q q <| XL_skip q q q <| XL_skip q q q <| XL_skip q q q ?_
    refine qS q hc35 q q <| A q (zf q hc35 q) q q ?_
    exact hk _ (p (vb (if_f hc35 hg34)) (cfn 11 q (u)))
   refine B ?_
   refine Y q (fun hc51 => ?_) (fun hc51 => ?_)
   ·have hs8 := if_t hc51 hs8
    refine Z <| qM q q q <| qM q q q ?_
    obtain ⟨x52, hx53, hs8⟩ := D hs8
    refine b H19.ctx (hp0) hx53 u31 i40 q q q q (fun b54 off55 cap56 hv57 => ?_)
    refine qF uf40 fi40_0 nz3 q q q ?_
    obtain ⟨F58, hat59, hdup60⟩ := H19.at (hp0) hx53 hv57
    obtain ⟨F61, hat62, hin63⟩ := AtP.fst hat59
    refine zt (k := .i64) u3 q hat62 q q q <| qA q q q <| WL_nil fun a ha => ?_
    refine zi (X (S ?_ ha))
    refine Z <| qM q q q <| A q (qt_add q q) q q <| qA q q q <| WL_nil fun a ha => ?_
    obtain rfl := L hs8
    exact ⟨q, ha.sub ⟨q, q, q, trivial⟩, H19⟩
   have hs8 := if_f hc51 hs8
   refine WP_skip fun a ha => ?_
   refine zi (X (S ?_ ha))
   refine Z <| qM q q q <| A q (qt_add q q) q q <| qA q q q <| WL_nil fun a ha => ?_
   obtain rfl := L hs8
   exact ⟨q, ha.sub ⟨q, q, q, trivial⟩, H19⟩
  have hs8 := if_f hc20 hs8
  refine WP_exit fun a ha => ?_
  obtain rfl := L hs8
  exact zo (⟨exit_ne, q, ha.sub ⟨q, trivial⟩, H19⟩)
 intro e a5 w64 hO65
 obtain ⟨p66, rfl⟩ : ∃ z, z = o3 := ⟨o3, q⟩
 obtain ⟨rfl, hO68⟩ := hO65
 obtain ⟨ha, H67⟩ := hO68
 refine zn (X (S ?_ ha))
 refine rR <| qM q q q <| qA q q q <| B <| W fun a ha => ?_
 obtain rfl := L h
 exact ret1 q ha q ⟨q, H67⟩
theorem w_spec_TicketDone (w : World) (G : List Res) (vp0 : Value) (p0 : LP) (hp0 : Has G ty1 vp0 p0) (r : Bool) (h : spec_TicketDoneS p0 = some r) (H : Ctx w G) : Calls Tryd.prog 102 #[vp0] w fun e w' => e = .returned (.bool r) ∧ Holds M0 w w' [] G := by
 have H : Holds M0 w w [] G := zb H
 refine zg (args := [vp0]) (n := 10) Tryd.func102 q q q ?_
 unfold spec_TicketDoneS at h
 refine rR <| qA q q q <| B <| C <| zk <| qM q q q ?_
 obtain ⟨x1, hx2, h⟩ := D h
 refine QC q q c39 (fun w' hb => w_spec_TicketValid w' G vp0 p0 (hp0) x1 hx2 (H.grow hb).ctx) (by rfl) <| qM q q q ?_
 obtain ⟨b3, hg4, h⟩ := D h
 refine zh 4 9 (.bool b3) ?_ (fun md hmd hk => ?_)
 rotate_left
 ·obtain ⟨K, rfl⟩ := zr hmd
  rcases btf x1 with hc5 | hc5
  ·skip
   have hg4 := if_t hc5 hg4
   refine qM (J q hc5) q q ?_
   obtain ⟨x6, hx7, hg4⟩ := D hg4
   refine QC (J q hc5) q c119 (fun w' hb => w_spec_TicketCourse w' G vp0 p0 (hp0) x6 hx7 (H.grow hb).ctx) (by rfl) <| A (J q hc5) (qt_lss q q) q q <| A q (ze q hc5 q) q q ?_
   exact hk _ (p (vb hg4) (cfn 3 q (u)))
  skip
  refine qS q hc5 q q <| qS q hc5 q q <| qS q hc5 q q <| A q (zf q hc5 q) q q ?_
  exact hk _ (p (vb (if_f hc5 hg4)) (cfn 3 q (u)))
 refine qA q q q <| QL_nil fun a ha w8 hb9 => ?_
 have H10 := H.grow hb9
 refine X (S ?_ ha)
 refine W fun a ha => ?_
 obtain rfl := L h
 exact ret1 q ha q ⟨q, H10⟩
theorem w_spec_TableBill (w : World) (G : List Res) (A0 : Value) (B0 : LI) (C0 : Has G ty7 A0 B0) (A1 : Value) (B1 : List Int) (C1 : Has G tI A1 B1) (A2 : Value) (B2 : List Int) (C2 : Has G tI A2 B2) (B3 : Int) (A4 : Value) (B4 : LT) (C4 : Has G ty8 A4 B4) (p1 : Int) (r : Int) (h : spec_TableBillS B0 B1 B2 B3 B4 p1 = some r) (H : Ctx w G) : Calls Tryd.prog 16 #[.agg #[A0, A1, A2, iV B3, A4], iV p1] w fun e w' => e = .returned (iV r) ∧ Holds M0 w w' [] G := by
 have H : Holds M0 w w [] G := zb H
 refine zg (args := [.agg #[A0, A1, A2, iV B3, A4], iV p1]) (n := 57) Tryd.func16 q q q ?_
 unfold spec_TableBillS at h
 refine C <| Z ?_
 refine WL_box (cs := [A0, A1, A2, iV B3, A4]) H q q q q (fun b1 w2 H3 => ?_)
 refine qA q q q <| B <| C <| C <| zk ?_
 have hB5 := R H3.p0
 refine zm (cs := [A0, A1, A2, iV B3, A4]) us27 uo27 il27 hB5 q q q ?_
 change XL _ _ _ _ _ ((7, .agg #[A0, A1, A2, iV B3, A4]) :: _) _
 obtain ⟨x6, hx7, h⟩ := D h
 refine QC q q c11 (fun w' hb => w_spec_HouseValid w' _ A0 B0 (C0.c) A1 B1 (C1.c) A2 B2 (C2.c) B3 A4 B4 (C4.c) x6 hx7 (H3.grow hb).ctx) (by rfl) <| A q (qt_not q) q q <| qM q q q ?_
 obtain ⟨b8, hg9, h⟩ := D h
 refine zh 8 18 (.bool b8) ?_ (fun md hmd hk => ?_)
 rotate_left
 ·obtain ⟨K, rfl⟩ := zr hmd
  rcases btf (!x6) with hc10 | hc10
  ·skip
   refine qS q hc10 q q <| qS q hc10 q q <| qS q hc10 q q <| qS q hc10 q q <| qS q hc10 q q <| qS q hc10 q q <| qS q hc10 q q <| A q (ze q hc10 q) q q ?_
   exact hk _ (p (vb (if_t hc10 hg9)) (cfn 7 q (u)))
  skip
  have hg9 := if_f hc10 hg9
  refine qM (J q hc10) q q <| qF uf27 fi27_4 nz25 (J q hc10) q q ?_
  have hB11 := R H3.p0
  refine l u25 q hB11 q (J q hc10) q q <| za H3.ctx (t := ty8) (C4.c) u25 (J q hc10) q q <| A (J q hc10) (qt_sub q q) q q ?_
  obtain ⟨x12, hx13, hg9⟩ := D hg9
  refine QC (J q hc10) q c38 (fun w' hb => w_spec_l1In w' _ p1 0 (IntKind.wrap .i64 ((List.length B4 : Int) - 1)) x12 hx13 (H3.grow hb).ctx) (by rfl) <| A (J q hc10) (qt_not q) q q <| A q (zf q hc10 q) q q ?_
  exact hk _ (p (vb hg9) (cfn 7 q (u)))
 refine QL_nil fun a ha w14 hb15 => ?_
 have H16 := H3.grow hb15
 refine X (S ?_ ha)
 refine Y q (fun hc17 => ?_) (fun hc17 => ?_)
 ·have h := if_t hc17 h
  refine rR <| qA q q q <| B <| W fun a ha => ?_
  obtain rfl := L h
  have H18 := H16.q0
  exact m (ret1 q ha q ⟨q, H18⟩)
 have h := if_f hc17 h
 refine y <| rR <| qA q q q <| B <| C <| rR <| qA q q q <| B ?_
 refine g ?_
 obtain ⟨o21, ho22, h⟩ := D h
 refine fun a23 ha24 => zp (I := fun s a w2 => match s with | (s19, s20) => (Fr a 57 [(1, iV p1), (2, pB b1), (5, iV s19), (6, iV s20)] ∧ Holds M0 w w2 [.bx b1 27 [A0, A1, A2, iV B3, A4]] G)) (O := fun o e a w2 => match o with | q0 => e = .exit 0 ∧ (Fr a 57 [(5, iV q0)] ∧ Holds M0 w w2 [] G)) ho22 ?_ ?_ ?_
 ·exact ⟨ha24.sub ⟨q, q, q, q, trivial⟩, H16⟩
 ·clear ha24
  intro s o27 a w25 hs26 hI28
  obtain ⟨s19, s20⟩ := s
  obtain ⟨ha, H29⟩ := hI28
  refine S ?_ ha
  clear ha
  refine C <| rR <| qM q q q <| qF uf27 fi27_4 nz25 q q q ?_
  have hB30 := R H29.p0
  refine l u25 q hB30 q q q q <| qM q q q ?_
  obtain ⟨x31, hx32, hs26⟩ := D hs26
  refine b H29.ctx (C4.c) hx32 u25 i33 q q q q (fun b33 off34 cap35 hv36 => ?_)
  refine qF uf33 fi33_1 nz31 q q q ?_
  obtain ⟨F37, hat38, hdup39⟩ := H29.at (C4.c) hx32 hv36
  obtain ⟨F40, hat41, hin42⟩ := AtP.snd hat38
  obtain ⟨F43, hat44, hin45⟩ := AtP.fst hat41
  refine XL_load (t := ty2) u31 q q hat44 q q q (fun v46 hr47 => ?_)
  have H48 : Holds _ w w25 [.ro ty1 v46 x31.2.1, .bx b1 27 [A0, A1, A2, iV B3, A4]] G := hdup39 _ _ _ _ hr47 (fun k h => (fun k h => (fun _ h => h) k (hin42 k h)) k (hin45 k h))
  refine za H48.ctx (t := ty1) hR0 u31 q q q <| A q (qt_lss q q) q q <| B ?_
  refine Y q (fun hc49 => ?_) (fun hc49 => ?_)
  ·have hs26 := if_t hc49 hs26
   refine y <| C <| g <| rR <| qF uf27 fi27_4 nz25 q q q ?_
   have hB50 := R H48.p1
   refine l u25 q hB50 q q q q <| qM q q q ?_
   obtain ⟨x51, hx52, hs26⟩ := D hs26
   refine b H48.ctx (C4.c.c) hx52 u25 i33 q q q q (fun b53 off54 cap55 hv56 => ?_)
   refine qF uf33 fi33_1 nz31 q q q ?_
   obtain ⟨F57, hat58, hdup59⟩ := H48.at (C4.c.c) hx52 hv56
   obtain ⟨F60, hat61, hin62⟩ := AtP.snd hat58
   obtain ⟨F63, hat64, hin65⟩ := AtP.fst hat61
   refine XL_load (t := ty2) u31 q q hat64 q q q (fun v66 hr67 => ?_)
   have H68 : Holds _ w w25 [.ro ty1 v66 x51.2.1, .ro ty1 v46 x31.2.1, .bx b1 27 [A0, A1, A2, iV B3, A4]] G := hdup59 _ _ _ _ hr67 (fun k h => (fun k h => (fun _ h => h) k (hin62 k h)) k (hin65 k h))
   refine qM q q q ?_
   obtain ⟨x69, hx70, hs26⟩ := D hs26
   refine b H68.ctx hR0 hx70 u31 i40 q q q q (fun b71 off72 cap73 hv74 => ?_)
   refine qF uf40 fi40_1 nz3 q q q ?_
   obtain ⟨F75, hat76, hdup77⟩ := H68.at hR0 hx70 hv74
   obtain ⟨F78, hat79, hin80⟩ := AtP.snd hat76
   refine zt (k := .i64) u3 q hat79 q q q <| A q (qt_eql q q) q q <| B ?_
   refine Y q (fun hc81 => ?_) (fun hc81 => ?_)
   ·have hs26 := if_t hc81 hs26
    refine WP_quiet (by kernel_rfl) (by kernel_rfl) <| qM q q q <| qF uf27 fi27_1 nz24 q q q ?_
    have hB82 := R H68.p2
    refine l u24 q hB82 q q q q <| qF uf27 fi27_4 nz25 q q q ?_
    have hB83 := R H68.p2
    refine l u25 q hB83 q q q q <| qM q q q ?_
    obtain ⟨x84, hx85, hs26⟩ := D hs26
    refine b H68.ctx (C4.c.c.c) hx85 u25 i33 q q q q (fun b86 off87 cap88 hv89 => ?_)
    refine qF uf33 fi33_2 nz24 q q q ?_
    obtain ⟨F90, hat91, hdup92⟩ := H68.at (C4.c.c.c) hx85 hv89
    obtain ⟨F93, hat94, hin95⟩ := AtP.snd hat91
    obtain ⟨F96, hat97, hin98⟩ := AtP.snd hat94
    refine XL_load (t := (.slice tI)) u24 q q hat97 q q q (fun v99 hr100 => ?_)
    have H101 : Holds _ w w25 [.ro tI v99 x84.2.2, .ro ty1 v66 x51.2.1, .ro ty1 v46 x31.2.1, .bx b1 27 [A0, A1, A2, iV B3, A4]] G := hdup92 _ _ _ _ hr100 (fun k h => (fun k h => (fun _ h => h) k (hin95 k h)) k (hin98 k h))
    refine qM q q q ?_
    obtain ⟨x102, hx103, hs26⟩ := D hs26
    refine b H101.ctx hR0 hx103 u24 i3 q q q q (fun b104 off105 cap106 hv107 => ?_)
    obtain ⟨F108, hat109, hdup110⟩ := H101.at hR0 hx103 hv107
    refine zt (k := .i64) u3 q hat109 q q q ?_
    obtain ⟨x111, hx112, hs26⟩ := D hs26
    refine b H101.ctx (C1.c.c.c.c) hx112 u24 i3 q q q q (fun b113 off114 cap115 hv116 => ?_)
    obtain ⟨F117, hat118, hdup119⟩ := H101.at (C1.c.c.c.c) hx112 hv116
    refine zt (k := .i64) u3 q hat118 q q q <| A q (qt_add q q) q q <| qA q q q <| QL_nil fun a ha w120 hb121 => ?_
    have H122 := H101.grow hb121
    refine zi (X (S ?_ ha))
    refine Z <| qM q q q <| A q (qt_add q q) q q <| qA q q q <| WL_nil fun a ha => ?_
    obtain rfl := L hs26
    have H123 := H122.q0.q0.q0
    exact ⟨q, ha.sub ⟨q, q, q, q, trivial⟩, H123⟩
   have hs26 := if_f hc81 hs26
   refine WP_skip fun a ha => ?_
   refine zi (X (S ?_ ha))
   refine Z <| qM q q q <| A q (qt_add q q) q q <| qA q q q <| WL_nil fun a ha => ?_
   obtain rfl := L hs26
   have H124 := H68.q0.q0
   exact ⟨q, ha.sub ⟨q, q, q, q, trivial⟩, H124⟩
  have hs26 := if_f hc49 hs26
  refine WP_exit fun a ha => ?_
  obtain rfl := L hs26
  have H125 := H48.q0.q0
  exact zo (⟨exit_ne, q, ha.sub ⟨q, trivial⟩, H125⟩)
 intro e a23 w126 hO127
 obtain ⟨p128, rfl⟩ : ∃ z, z = o21 := ⟨o21, q⟩
 obtain ⟨rfl, hO130⟩ := hO127
 obtain ⟨ha, H129⟩ := hO130
 refine zn (X (S ?_ ha))
 refine rR <| qM q q q <| qA q q q <| B <| W fun a ha => ?_
 obtain rfl := L h
 exact ret1 q ha q ⟨q, H129⟩
theorem w_spec_l7Close (w : World) (G : List Res) (A0 : Value) (B0 : LI) (A1 : Value) (B1 : List Int) (A2 : Value) (B2 : List Int) (B3 : Int) (A4 : Value) (B4 : LT) (p1 : Int) (r : (LI × (List Int) × (List Int) × Int × LT) × Bool) (h : spec_l7CloseS B0 B1 B2 B3 B4 p1 = some r) (H : Ctx w ([.sl 70 ty7 A0 B0, .sl 3 tI A1 B1, .sl 3 tI A2 B2, .sl 33 ty8 A4 B4] ++ G)) : Calls Tryd.prog 86 #[.agg #[A0, A1, A2, iV B3, A4], iV p1] w fun e w' => ∃ (v1 : Value) (v2 : Value) (v3 : Value) (v4 : Value), e = .returned (.tuple #[.agg #[v1, v2, v3, iV r.1.2.2.2.1, v4], .bool r.2]) ∧ Holds (([.sl 70 ty7 A0 B0, .sl 3 tI A1 B1, .sl 3 tI A2 B2, .sl 33 ty8 A4 B4] : List Res).flatMap Res.own) w w' [.sl 70 ty7 v1 r.1.1, .sl 3 tI v2 r.1.2.1, .sl 3 tI v3 r.1.2.2.1, .sl 33 ty8 v4 r.1.2.2.2.2] G := by
 have H : Holds (([.sl 70 ty7 A0 B0, .sl 3 tI A1 B1, .sl 3 tI A2 B2, .sl 33 ty8 A4 B4] : List Res).flatMap Res.own) w w [.sl 70 ty7 A0 B0, .sl 3 tI A1 B1, .sl 3 tI A2 B2, .sl 33 ty8 A4 B4] G := zb H
 refine zg (args := [.agg #[A0, A1, A2, iV B3, A4], iV p1]) (n := 54) Tryd.func86 q q q ?_
 unfold spec_l7CloseS at h
 refine C <| Z ?_
 refine WL_box (cs := [A0, A1, A2, iV B3, A4]) H q q q q (fun b1 w2 H3 => ?_)
 refine zq (cs := [nS, nS, nS, iV 0, nS]) H3 z27 q q q (fun b5 w6 H7 => ?_)
 refine qA q q q <| B <| C <| C <| WP_quiet (by kernel_rfl) (by kernel_rfl) <| qM q q q <| qF uf27 fi27_4 nz25 q q q ?_
 have hB9 := R H7.p1
 refine l u25 q hB9 q q q q <| za H7.ctx (t := ty8) hS5 u25 q q q <| A q (qt_sub q q) q q ?_
 obtain ⟨x10, hx11, h⟩ := D h
 refine QC q q c38 (fun w' hb => w_spec_l1In w' _ p1 0 (IntKind.wrap .i64 ((List.length B4 : Int) - 1)) x10 hx11 (H7.grow hb).ctx) (by rfl) <| A q (qt_not q) q q <| qM q q q ?_
 obtain ⟨b12, hg13, h⟩ := D h
 refine zh 9 22 (.bool b12) ?_ (fun md hmd hk => ?_)
 rotate_left
 ·obtain ⟨K, rfl⟩ := zr hmd
  rcases btf (!x10) with hc14 | hc14
  ·skip
   refine qS q hc14 q q <| qS q hc14 q q <| qS q hc14 q q <| qS q hc14 q q <| qS q hc14 q q <| qS q hc14 q q <| qS q hc14 q q <| qS q hc14 q q <| A q (ze q hc14 q) q q ?_
   exact hk _ (p (vb (if_t hc14 hg13)) (cfn 8 q (u)))
  skip
  have hg13 := if_f hc14 hg13
  refine qF uf27 fi27_4 nz25 (J q hc14) q q ?_
  have hB15 := R H7.p1
  refine l u25 q hB15 q (J q hc14) q q <| qM (J q hc14) q q ?_
  obtain ⟨x16, hx17, hg13⟩ := D hg13
  refine b H7.ctx hS5 hx17 u25 i33 (J q hc14) q q q (fun b18 off19 cap20 hv21 => ?_)
  refine qF uf33 fi33_1 nz31 (J q hc14) q q ?_
  obtain ⟨F22, hat23, hdup24⟩ := H7.at hS5 hx17 hv21
  obtain ⟨F25, hat26, hin27⟩ := AtP.snd hat23
  obtain ⟨F28, hat29, hin30⟩ := AtP.fst hat26
  refine XL_load (t := ty2) u31 q q hat29 (J q hc14) q q (fun v31 hr32 => ?_)
  have H33 : Holds _ w w6 [.ro ty1 v31 x16.2.1, .bx b5 27 [nS, nS, nS, iV 0, nS], .bx b1 27 [A0, A1, A2, iV B3, A4], .sl 70 ty7 A0 B0, .sl 3 tI A1 B1, .sl 3 tI A2 B2, .sl 33 ty8 A4 B4] G := hdup24 _ _ _ _ hr32 (fun k h => (fun k h => (fun _ h => h) k (hin27 k h)) k (hin30 k h))
  obtain ⟨x34, hx35, hg13⟩ := D hg13
  refine QC (J q hc14) q c102 (fun w' hb => w_spec_TicketDone w' _ v31 x16.2.1 hR0 x34 hx35 (H33.grow hb).ctx) (by rfl) <| A (J q hc14) (qt_not q) q q <| A q (zf q hc14 q) q q ?_
  exact hk _ (p (vb hg13) (cfn 8 q (u)))
 refine qM q q q ?_
 obtain ⟨b36, hg37, h⟩ := D h
 refine zh 8 31 (.bool b36) ?_ (fun md hmd hk => ?_)
 rotate_left
 ·obtain ⟨K, rfl⟩ := zr hmd
  rcases btf b12 with hc38 | hc38
  ·skip
   refine qS q hc38 q q <| qS q hc38 q q <| qS q hc38 q q <| qS q hc38 q q <| qS q hc38 q q <| qS q hc38 q q <| qS q hc38 q q <| A q (ze q hc38 q) q q ?_
   exact hk _ (p (vb (if_t hc38 hg37)) (cfn 7 q (u)))
  skip
  have hg37 := if_f hc38 hg37
  refine qF uf27 fi27_3 nz3 (J q hc38) q q ?_
  have hB39 := R H7.p1
  refine l u3 q hB39 q (J q hc38) q q ?_
  have hB40 := R H7.p1
  refine zm (cs := [A0, A1, A2, iV B3, A4]) us27 uo27 il27 hB40 (J q hc38) q q ?_
  change XL _ _ _ _ _ ((26, .agg #[A0, A1, A2, iV B3, A4]) :: _) _
  refine qM (J q hc38) q q ?_
  obtain ⟨x41, hx42, hg37⟩ := D hg37
  refine QC (J q hc38) q c16 (fun w' hb => w_spec_TableBill w' _ A0 B0 hS2 A1 B1 hS3 A2 B2 hS4 B3 A4 B4 hS5 p1 x41 hx42 (H7.grow hb).ctx) (by rfl) <| A (J q hc38) (qt_add q q) q q <| A (J q hc38) (qt_gtr q q) q q <| A q (zf q hc38 q) q q ?_
  exact hk _ (p (vb hg37) (cfn 7 q (u)))
 refine QL_nil fun a ha w43 hb44 => ?_
 have H45 := H7.grow hb44
 refine X (S ?_ ha)
 refine Y q (fun hc46 => ?_) (fun hc46 => ?_)
 ·have h := if_t hc46 h
  refine C <| Z ?_
  have hB47 := R H45.p1
  refine zm (cs := [A0, A1, A2, iV B3, A4]) us27 uo27 il27 hB47 q q q ?_
  change XL _ _ _ _ _ ((32, .agg #[A0, A1, A2, iV B3, A4]) :: _) _
  refine zl (cs' := [A0, A1, A2, iV B3, A4]) H45 q il27 q (T (H45.ctx.sliceOne hS2) (T (H45.ctx.sliceOne hS3) (T (H45.ctx.sliceOne hS4) (T q (T (H45.ctx.sliceOne hS5) q))))) q q q (fun w48 H49 => ?_)
  refine qA q q q <| B <| W fun a ha => ?_
  obtain rfl := L h
  have hB51 := R H49.p0
  have H52 := H49.q0.q0.p3.p3.p3.p3
  exact m (retct q ha q q (run_loadVar_bx (cs := [A0, A1, A2, iV B3, A4]) us27 uo27 il27 hB51) ⟨A0, A1, A2, A4, q, H52⟩)
 have h := if_f hc46 h
 refine y <| C ?_
 obtain ⟨x55, hx56, h⟩ := D h
 refine WP_join (M := fun a w2 => (Fr a 54 [(1, iV p1), (2, pB b1), (4, pB b5)] ∧ Holds (([.sl 70 ty7 A0 B0, .sl 3 tI A1 B1, .sl 3 tI A2 B2, .sl 33 ty8 A4 B4] : List Res).flatMap Res.own) w w2 [.bx b1 27 [A0, A1, A2, iV (IntKind.wrap .i64 (B3 + x55)), A4], .sl 70 ty7 A0 B0, .sl 3 tI A1 B1, .sl 3 tI A2 B2, .sl 33 ty8 A4 B4, .bx b5 27 [nS, nS, nS, iV 0, nS]] G)) ?_ ?_
 ·refine WP_ordersT (fun w1 w2 => Chg M0 w1 w2) 6 (by kernel_rfl) (fun w253 hb254 => ?_)
  have H255 := H45.grow hb254
  have C256 : Ctx w253 ([] ++ ([.bx b5 27 [nS, nS, nS, iV 0, nS], .bx b1 27 [A0, A1, A2, iV B3, A4], .sl 70 ty7 A0 B0, .sl 3 tI A1 B1, .sl 3 tI A2 B2, .sl 33 ty8 A4 B4] ++ G)) := H255.ctx
  have H257 : Holds _ w253 w253 [] ([.bx b5 27 [nS, nS, nS, iV 0, nS], .bx b1 27 [A0, A1, A2, iV B3, A4], .sl 70 ty7 A0 B0, .sl 3 tI A1 B1, .sl 3 tI A2 B2, .sl 33 ty8 A4 B4] ++ G) := zb (Rs := []) C256
  refine XQ (i := 0) q (by kernel_rfl) q H257.chg q (fun _ => qt_fieldAddr uf27 fi27_3 nz3 q) q q ?_
  have hB277 := HasB.bx (HasB.c (HasB.hd)) H257.ctx
  refine XT (i := 1) q (by kernel_rfl) q H257.chg q (qs_cell u3 q q (hB277.cell (i := 3) q) H257.chg (Ctx.outB C256 (HasB.c (HasB.hd)))) q q ?_
  have hB278 := HasB.bx (HasB.c (HasB.hd)) H257.ctx
  refine XT (i := 2) q (by kernel_rfl) q H257.chg q (qs_agg (cs := [A0, A1, A2, iV B3, A4]) us27 uo27 il27 q (fun j z hj => by rw [Nat.zero_add]; exact hB278.cell hj) H257.chg (Ctx.outB C256 (HasB.c (HasB.hd)))) q q ?_
  change XC _ _ _ _ _ _ _ _ ((35, .agg #[A0, A1, A2, iV B3, A4]) :: _) _
  refine XQ (i := 3) q (by kernel_rfl) q H257.chg q (fun _ => qt_move q) q q <| X1 4 (by kernel_rfl) q <| zd q q c16 (w_spec_TableBill w253 _ A0 B0 hS2 A1 B1 hS3 A2 B2 hS4 B3 A4 B4 hS5 p1 x55 hx56 H257.ctx) (by rfl) ?_
  rintro _ w279 ⟨rfl, H280⟩; refine ⟨_, q, ?_⟩
  have H281 := H257.cN0 [] H280
  refine XN H281.chg <| XQ (i := 5) q (by kernel_rfl) q H281.chg q (fun _ => qt_add q q) q q ?_
  have H282 := H255.cN0 [] H281
  refine X1 6 (by kernel_rfl) q <| qF uf27 fi27_3 nz3 q q q <| XE q <| X1 7 (by kernel_rfl) q ?_
  have H283 := H282.p1
  refine WL_store_bx H283 q il3 q q q q q (fun w284 H285 => ?_)
  refine XE q ?_
  refine XC_done (by kernel_rfl) (fun a ha => ?_)
  have H287 := H285.p1.p5.p5.p5.p5.p5
  exact ⟨ha.sub ⟨q, q, q, trivial⟩, H287⟩
 intro a w288 hI289
 obtain ⟨ha, H290⟩ := hI289
 refine S ?_ ha
 clear ha
 refine C ?_
 obtain ⟨x296, hx297, h⟩ := D h
 obtain ⟨x298, hx299, h⟩ := D h
 obtain ⟨x305, hx306, h⟩ := D h
 obtain ⟨x307, hx308, h⟩ := D h
 refine WP_join (M := fun a w2 => ∃ vz290_0, Fr a 54 [(2, pB b1), (4, pB b5)] ∧ Holds (([.sl 70 ty7 A0 B0, .sl 3 tI A1 B1, .sl 3 tI A2 B2, .sl 33 ty8 A4 B4] : List Res).flatMap Res.own) w w2 [.bx b1 27 [A0, A1, A2, iV (IntKind.wrap .i64 (B3 + x55)), vz290_0], .sl 70 ty7 A0 B0, .sl 3 tI A1 B1, .sl 3 tI A2 B2, .sl 33 ty8 vz290_0 x307, .bx b5 27 [nS, nS, nS, iV 0, nS]] G) ?_ ?_
 ·refine WP_ordersT (fun w1 w2 => Chg M0 w1 w2) 12 (by kernel_rfl) (fun w491 hb492 => ?_)
  have H493 := H290.grow hb492
  have C494 : Ctx w491 ([] ++ ([.bx b1 27 [A0, A1, A2, iV (IntKind.wrap .i64 (B3 + x55)), A4], .sl 70 ty7 A0 B0, .sl 3 tI A1 B1, .sl 3 tI A2 B2, .sl 33 ty8 A4 B4, .bx b5 27 [nS, nS, nS, iV 0, nS]] ++ G)) := H493.ctx
  have H495 : Holds _ w491 w491 [] ([.bx b1 27 [A0, A1, A2, iV (IntKind.wrap .i64 (B3 + x55)), A4], .sl 70 ty7 A0 B0, .sl 3 tI A1 B1, .sl 3 tI A2 B2, .sl 33 ty8 A4 B4, .bx b5 27 [nS, nS, nS, iV 0, nS]] ++ G) := zb (Rs := []) C494
  refine XQ (i := 1) q (by kernel_rfl) q H495.chg q (fun _ => qt_fieldAddr uf27 fi27_4 nz25 q) q q ?_
  have hB533 := HasB.bx (HasB.hd) H495.ctx
  refine XT (i := 2) q (by kernel_rfl) q H495.chg q (qs_cell u25 q q (hB533.cell (i := 4) q) H495.chg (Ctx.outB C494 (HasB.hd))) q q <| XQ (i := 3) q (by kernel_rfl) q H495.chg q (fun _ => qt_move q) q q <| XT (i := 4) q (by kernel_rfl) q H495.chg q (qs_slice H495.ctx hS4 hx297 u25 i33 q ⟨_, q⟩ q) q q <| XQ (i := 6) q (by kernel_rfl) q H495.chg q (fun _ => qt_fieldAddr uf27 fi27_4 nz25 q) q q ?_
  have hB534 := HasB.bx (HasB.hd) H495.ctx
  refine XT (i := 7) q (by kernel_rfl) q H495.chg q (qs_cell u25 q q (hB534.cell (i := 4) q) H495.chg (Ctx.outB C494 (HasB.hd))) q q <| XQ (i := 8) q (by kernel_rfl) q H495.chg q (fun _ => qt_move q) q q <| XQ (i := 9) q (by kernel_rfl) q H495.chg q (fun _ => qt_add q q) q q <| XT (i := 10) q (by kernel_rfl) q H495.chg q (qs_slice H495.ctx hS4 hx306 u25 i33 ⟨_, q⟩ q q) q q <| X1 0 (by kernel_rfl) q ?_
  refine zs (t := ty8) (args := []) (xs := ([] : LT)) H495 (BltL.nil) u25 j33 q q q q q q (fun v535 w536 H537 => ?_)
  refine XN H537.chg <| X1 5 (by kernel_rfl) q ?_
  refine zw H537 (Has.sub hS5 hx297) hx299 u25 j33 q q q q q q (fun v539 w540 H541 => ?_)
  refine XN H541.chg <| X1 11 (by kernel_rfl) q ?_
  refine zw H541 (Has.sub hS5 hx306) hx308 u25 j33 q q q q q q (fun v543 w544 H545 => ?_)
  refine XN H545.chg ?_
  have H547 := H493.cN1 [] H545
  refine X1 12 (by kernel_rfl) q <| qF uf27 fi27_4 nz25 q q q <| XE q <| X1 13 (by kernel_rfl) q ?_
  have H548 := H547.p1
  refine WL_store_bx H548 q il25 (H548.ctx.sliceCells hS1) (H548.ctx.sliceOne hS1) q q q (fun w549 H550 => ?_)
  refine XE q ?_
  refine XC_done (by kernel_rfl) (fun a ha => ?_)
  have H552 := H550.q5.p5.p2.p5.p5.p5.p5
  exact ⟨v543, ha.sub ⟨q, q, trivial⟩, H552⟩
 intro a w553 hI554
 obtain ⟨vz290_0, ha, H555⟩ := hI554
 refine S ?_ ha
 clear ha
 refine C <| Z ?_
 have hB556 := R H555.p0
 refine zm (cs := [A0, A1, A2, iV (IntKind.wrap .i64 (B3 + x55)), vz290_0]) us27 uo27 il27 hB556 q q q ?_
 change XL _ _ _ _ _ ((53, .agg #[A0, A1, A2, iV (IntKind.wrap .i64 (B3 + x55)), vz290_0]) :: _) _
 have H557 := H555.p5
 refine zl (cs' := [A0, A1, A2, iV (IntKind.wrap .i64 (B3 + x55)), vz290_0]) H557 q il27 q (T (H557.ctx.sliceOne hS2) (T (H557.ctx.sliceOne hS3) (T (H557.ctx.sliceOne hS4) (T q (T (H557.ctx.sliceOne hS5) q))))) q q q (fun w558 H559 => ?_)
 refine qA q q q <| B <| W fun a ha => ?_
 obtain rfl := L h
 have hB561 := R H559.p0
 have H562 := H559.q0.q0.p3.p3.p3.p3
 exact retct q ha q q (run_loadVar_bx (cs := [A0, A1, A2, iV (IntKind.wrap .i64 (B3 + x55)), vz290_0]) us27 uo27 il27 hB561) ⟨A0, A1, A2, vz290_0, q, H562⟩
end Go.Proofs.YthofjabphcheeaaDoor
