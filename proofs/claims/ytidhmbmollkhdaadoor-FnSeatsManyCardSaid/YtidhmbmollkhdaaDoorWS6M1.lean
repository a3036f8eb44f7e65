/- The walks: each Go function computes its shallow function. Printed by a program. -/
import Derived.Test.YtidhmbmollkhdaaDoorShS6c
import Derived.Test.YtidhmbmollkhdaaDoorAlive
set_option linter.unusedVariables false
set_option maxRecDepth 10000
namespace Go.Proofs.YtidhmbmollkhdaaDoor
open Go Go.RowKit
noncomputable def fd66 : Array Field := match Tryd.prog.underlying 66 with | some (.struct fs) => fs | _ => #[]
theorem uf66 : Tryd.prog.underlying 66 = some (.struct fd66) := by kernel_rfl
theorem i5 : (Tryd.prog.info? 5).map (·.size) = some (Ty.size (.int .u8)) := by kernel_rfl
theorem il3 : (Tryd.prog.info? 3).map (·.size) = some 1 := by kernel_rfl
theorem nz22 : (Tryd.prog.info? 22).map (fun i => Nat.beq i.size 0) = some false := by kernel_rfl
theorem nz3 : (Tryd.prog.info? 3).map (fun i => Nat.beq i.size 0) = some false := by kernel_rfl
theorem u22 : Tryd.prog.underlying 22 = some (.slice 5) := by kernel_rfl
theorem u3 : Tryd.prog.underlying 3 = some (.int .i64) := by kernel_rfl
theorem u5 : Tryd.prog.underlying 5 = some (.int .u8) := by kernel_rfl
theorem fi66_0 : (fd66[0]?).map (fun f => (f.type, f.offset)) = some (22, 0) := by kernel_rfl
theorem fi66_1 : (fd66[1]?).map (fun f => (f.type, f.offset)) = some (3, 1) := by kernel_rfl
theorem c20 : Callable Tryd.prog 20 := ⟨Tryd.f20, Tryd.func20, by kernel_rfl, by kernel_rfl⟩
theorem c27 : Callable Tryd.prog 27 := ⟨Tryd.f27, Tryd.func27, by kernel_rfl, by kernel_rfl⟩
theorem c58 : Callable Tryd.prog 58 := ⟨Tryd.f58, Tryd.func58, by kernel_rfl, by kernel_rfl⟩
theorem c62 : Callable Tryd.prog 62 := ⟨Tryd.f62, Tryd.func62, by kernel_rfl, by kernel_rfl⟩
theorem c63 : Callable Tryd.prog 63 := ⟨Tryd.f63, Tryd.func63, by kernel_rfl, by kernel_rfl⟩
theorem c70 : Callable Tryd.prog 70 := ⟨Tryd.f70, Tryd.func70, by kernel_rfl, by kernel_rfl⟩
theorem c71 : Callable Tryd.prog 71 := ⟨Tryd.f71, Tryd.func71, by kernel_rfl, by kernel_rfl⟩
theorem c78 : Callable Tryd.prog 78 := ⟨Tryd.f78, Tryd.func78, by kernel_rfl, by kernel_rfl⟩
theorem c80 : Callable Tryd.prog 80 := ⟨Tryd.f80, Tryd.func80, by kernel_rfl, by kernel_rfl⟩
theorem c84 : Callable Tryd.prog 84 := ⟨Tryd.f84, Tryd.func84, by kernel_rfl, by kernel_rfl⟩
theorem w_spec_l20Open (w : World) (G : List Res) (vp0 : Value) (p0 : List Int) (hp0 : HasRo G (.int .u8) vp0 p0) (r : ((List Int) × Int)) (h : spec_l20OpenS p0 = some r) (H : Ctx w G) : Calls Tryd.prog 62 #[vp0] w fun e w' => ∃ (v1 : Value) (b2 : Nat), e = .returned (.pointer (some ⟨b2, 0, none⟩)) ∧ Holds (([] : List Res).flatMap Res.own) w w' [.ro (.int .u8) v1 r.1, .bx b2 66 [v1, .int .i64 r.2]] G := by
  have H : Holds (([] : List Res).flatMap Res.own) w w [] G := Holds.startN H
  refine calls_enter (args := [vp0]) (n := 11) Tryd.func62 rfl rfl rfl ?_
  unfold spec_l20OpenS at h
  refine WP_seq ?_
  refine WP_region ?_
  refine XL_q rfl (qt_assign rfl) rfl rfl ?_
  refine WL_nil_seq ?_
  refine WP_seq ?_
  refine WP_seq ?_
  refine WP_region ?_
  refine XL_q rfl (qt_move rfl) rfl rfl ?_
  refine XL_lenH H.ctx (t := (.int .u8)) (hp0.has) u22 rfl rfl rfl ?_
  refine XL_q rfl (qt_gtr rfl rfl) rfl rfl ?_
  refine WL_nil_seq ?_
  obtain ⟨o2, ho3, h⟩ := bind_some h
  obtain ⟨j1, rfl⟩ : ∃ z, z = o2 := ⟨o2, rfl⟩
  refine WP_join (M := fun a w2 => ∃ vj1, Fr a 11 [(0, vj1)] ∧ Holds (([] : List Res).flatMap Res.own) w w2 [.ro (.int .u8) vj1 j1] G) ?_ ?_
  · refine WP_cond rfl (fun hc4 => ?_) (fun hc4 => ?_)
    · have ho3 := if_t hc4 ho3
      refine WP_region ?_
      refine XL_q rfl (qt_move rfl) rfl rfl ?_
      obtain ⟨x5, hx6, ho3⟩ := bind_some ho3
      refine XL_sliceH H.ctx (hp0.has) hx6 u22 i5 rfl ⟨_, rfl⟩ rfl rfl rfl ?_
      refine XL_q rfl (qt_assign rfl) rfl rfl ?_
      refine WL_nil fun a ha => ?_
      obtain rfl := Option.some.inj ho3
      have H7 : Holds (([] : List Res).flatMap Res.own) w w [.ro (.int .u8) (subV (Ty.size (.int .u8)) vp0 (Int.toNat 0) (Int.toNat 2000)) x5] G := H.dup (HasRo.sub (hp0) hx6)
      exact nrm_seq (⟨(subV (Ty.size (.int .u8)) vp0 (Int.toNat 0) (Int.toNat 2000)), ha.sub ⟨rfl, trivial⟩, H7⟩)
    · have ho3 := if_f hc4 ho3
      refine WP_skip fun a ha => ?_
      obtain rfl := Option.some.inj ho3
      have H8 : Holds (([] : List Res).flatMap Res.own) w w [.ro (.int .u8) vp0 p0] G := H.dup (hp0)
      exact nrm_seq (⟨vp0, ha.sub ⟨rfl, trivial⟩, H8⟩)
  · intro a w9 hI10
    obtain ⟨vj1, ha, H11⟩ := hI10
    refine WP.app ?_ ha
    clear ha
    refine WP_seq ?_
    refine WP_region ?_
    refine XL_q rfl (qt_move rfl) rfl rfl ?_
    refine XL_q rfl (qt_build (args := [(0, .tmp 8)]) (css := [#[vj1]]) (cells := #[vj1, .int .i64 0]) rfl ⟨(H11.ctx.sliceCells (HasRo.has (HasRo.hd))), trivial⟩ (by kernel_rfl)) rfl rfl ?_
    refine WL_box (cs := [vj1, .int .i64 0]) H11 rfl rfl rfl rfl (fun b12 w13 H14 => ?_)
    have H15 : Holds (([] : List Res).flatMap Res.own) w w13 [.bx b12 66 [vj1, .int .i64 0], .ro (.int .u8) vj1 j1] G := H14
    refine XL_q rfl (qt_assign rfl) rfl rfl ?_
    refine WL_nil_seq ?_
    refine WP_ret fun a ha => ?_
    obtain rfl := Option.some.inj h
    have H16 : Holds (([] : List Res).flatMap Res.own) w w13 [.ro (.int .u8) vj1 j1, .bx b12 66 [vj1, .int .i64 0]] G := (H15.pull 1)
    exact ret1 rfl ha rfl ⟨vj1, b12, rfl, H16⟩
theorem w_spec_l20Rd__pick (w : World) (G : List Res) (bp0 : Nat) (vp0_0 : Value) (p0_0 : List Int) (hp0_0 : Has G (.int .u8) vp0_0 p0_0) (p0_1 : Int) (p1 : Int) (r : Int × Int) (h : spec_l20Rd__pickS p0_0 p0_1 p1 = some r) (H : Ctx w ([.bx bp0 66 [vp0_0, .int .i64 p0_1]] ++ G)) : Calls Tryd.prog 63 #[.pointer (some ⟨bp0, 0, none⟩), .int .i64 p1] w fun e w' => e = .returned (.int .i64 r.2) ∧ Holds (([.bx bp0 66 [vp0_0, .int .i64 p0_1]] : List Res).flatMap Res.own) w w' [.bx bp0 66 [vp0_0, .int .i64 r.1]] G := by
  have H : Holds (([.bx bp0 66 [vp0_0, .int .i64 p0_1]] : List Res).flatMap Res.own) w w [.bx bp0 66 [vp0_0, .int .i64 p0_1]] G := Holds.startN H
  refine calls_enter (args := [.pointer (some ⟨bp0, 0, none⟩), .int .i64 p1]) (n := 99) Tryd.func63 rfl rfl rfl ?_
  unfold spec_l20Rd__pickS at h
  refine WP_seq ?_
  refine WP_region ?_
  refine XL_q rfl (qt_assign rfl) rfl rfl ?_
  refine WL_nil_seq ?_
  refine WP_seq ?_
  refine WP_region ?_
  refine XL_q rfl (qt_move rfl) rfl rfl ?_
  refine XL_q rfl (qt_move rfl) rfl rfl ?_
  refine XL_q rfl (qt_nilCheck rfl) rfl rfl ?_
  refine XL_q rfl (qt_fieldAddr uf66 fi66_1 nz3 rfl) rfl rfl ?_
  have hB1 : Bx w bp0 66 [vp0_0, .int .i64 p0_1] := Holds.bx (H.pull 0)
  refine XL_load_bx u3 rfl hB1 rfl rfl rfl rfl ?_
  refine XL_q rfl (qt_add rfl rfl) rfl rfl ?_
  refine XL_q rfl (qt_nilCheck rfl) rfl rfl ?_
  refine XL_q rfl (qt_fieldAddr uf66 fi66_1 nz3 rfl) rfl rfl ?_
  refine WL_store_bx H rfl il3 rfl rfl rfl rfl rfl (fun w2 H3 => ?_)
  have H4 : Holds (([.bx bp0 66 [vp0_0, .int .i64 p0_1]] : List Res).flatMap Res.own) w w2 [.bx bp0 66 [vp0_0, .int .i64 (IntKind.wrap .i64 (p0_1 + 1))]] G := H3
  refine WL_nil_seq ?_
  refine WP_seq ?_
  refine WP_seq ?_
  refine WP_region ?_
  refine XL_q rfl (qt_move rfl) rfl rfl ?_
  refine XL_q rfl (qt_lss rfl rfl) rfl rfl ?_
  refine XL_q rfl (qt_move rfl) rfl rfl ?_
  refine XL_join 7 24 (.bool ((decide (p1 < 1)) || ((List.length p0_0 : Int) == 0))) ?_ (fun md hmd hk => ?_)
  rotate_left
  · obtain ⟨Q, rfl⟩ := Md.seq_of hmd
    rcases btf (decide (p1 < 1)) with hc5 | hc5
    · skip
      refine XL_skip (w_skip rfl hc5) rfl rfl ?_
      refine XL_skip (w_skip rfl hc5) rfl rfl ?_
      refine XL_skip (w_skip rfl hc5) rfl rfl ?_
      refine XL_skip (w_skip rfl hc5) rfl rfl ?_
      refine XL_skip (w_skip rfl hc5) rfl rfl ?_
      refine XL_skip (w_skip rfl hc5) rfl rfl ?_
      refine XL_q rfl (qt_pickT rfl hc5 rfl) rfl rfl ?_
      exact hk _ (Cov.same (by rw [hc5]; rfl) (Cov.fresh rfl (Cov.fresh rfl (Cov.fresh rfl (Cov.fresh rfl (Cov.fresh rfl (Cov.fresh rfl (Cov.refl))))))))
    · skip
      refine XL_q (w_take rfl hc5) (qt_move rfl) rfl rfl ?_
      refine XL_q (w_take rfl hc5) (qt_nilCheck rfl) rfl rfl ?_
      refine XL_q (w_take rfl hc5) (qt_fieldAddr uf66 fi66_0 nz22 rfl) rfl rfl ?_
      have hB6 : Bx w2 bp0 66 [vp0_0, .int .i64 (IntKind.wrap .i64 (p0_1 + 1))] := Holds.bx (H4.pull 0)
      refine XL_load_bx u22 rfl hB6 rfl (w_take rfl hc5) rfl rfl ?_
      refine XL_lenH H4.ctx (t := (.int .u8)) (hp0_0.c) u22 (w_take rfl hc5) rfl rfl ?_
      refine XL_q (w_take rfl hc5) (qt_eql rfl rfl) rfl rfl ?_
      refine XL_q rfl (qt_pickF rfl hc5 rfl) rfl rfl ?_
      exact hk _ (Cov.same (by rw [hc5]; rfl) (Cov.fresh rfl (Cov.fresh rfl (Cov.fresh rfl (Cov.fresh rfl (Cov.fresh rfl (Cov.fresh rfl (Cov.refl))))))))
  refine WL_nil_seq ?_
  refine WP_cond rfl (fun hc7 => ?_) (fun hc7 => ?_)
  · have h := if_t hc7 h
    refine WP_seq ?_
    refine WP_region ?_
    refine XL_q rfl (qt_assign rfl) rfl rfl ?_
    refine WL_nil_seq ?_
    refine WP_ret fun a ha => ?_
    obtain rfl := Option.some.inj h
    exact ret_seq (ret1 rfl ha rfl ⟨rfl, H4⟩)
  · have h := if_f hc7 h
    refine WP_skip_seq ?_
    refine WP_seq ?_
    refine WP_region ?_
    refine XL_q rfl (qt_move rfl) rfl rfl ?_
    refine XL_q rfl (qt_nilCheck rfl) rfl rfl ?_
    refine XL_q rfl (qt_fieldAddr uf66 fi66_1 nz3 rfl) rfl rfl ?_
    have hB8 : Bx w2 bp0 66 [vp0_0, .int .i64 (IntKind.wrap .i64 (p0_1 + 1))] := Holds.bx (H4.pull 0)
    refine XL_load_bx u3 rfl hB8 rfl rfl rfl rfl ?_
    refine XL_q rfl (qt_sub rfl rfl) rfl rfl ?_
    refine XL_q rfl (qt_assign rfl) rfl rfl ?_
    refine WL_nil_seq ?_
    refine WP_seq ?_
    refine WP_seq ?_
    refine WP_region ?_
    refine XL_q rfl (qt_move rfl) rfl rfl ?_
    refine XL_q rfl (qt_move rfl) rfl rfl ?_
    refine XL_q rfl (qt_nilCheck rfl) rfl rfl ?_
    refine XL_q rfl (qt_fieldAddr uf66 fi66_0 nz22 rfl) rfl rfl ?_
    have hB9 : Bx w2 bp0 66 [vp0_0, .int .i64 (IntKind.wrap .i64 (p0_1 + 1))] := Holds.bx (H4.pull 0)
    refine XL_load_bx u22 rfl hB9 rfl rfl rfl rfl ?_
    refine XL_lenH H4.ctx (t := (.int .u8)) (hp0_0.c) u22 rfl rfl rfl ?_
    refine XL_q rfl (qt_lss rfl rfl) rfl rfl ?_
    refine WL_nil_seq ?_
    refine WP_cond rfl (fun hc10 => ?_) (fun hc10 => ?_)
    · have h := if_t hc10 h
      refine WP_seq ?_
      refine WP_region ?_
      refine XL_q rfl (qt_move rfl) rfl rfl ?_
      refine XL_q rfl (qt_nilCheck rfl) rfl rfl ?_
      refine XL_q rfl (qt_fieldAddr uf66 fi66_0 nz22 rfl) rfl rfl ?_
      have hB11 : Bx w2 bp0 66 [vp0_0, .int .i64 (IntKind.wrap .i64 (p0_1 + 1))] := Holds.bx (H4.pull 0)
      refine XL_load_bx u22 rfl hB11 rfl rfl rfl rfl ?_
      refine XL_q rfl (qt_move rfl) rfl rfl ?_
      obtain ⟨x12, hx13, h⟩ := bind_some h
      refine XL_indexH H4.ctx (hp0_0.c) hx13 u22 i5 rfl rfl rfl rfl (fun b14 off15 cap16 hv17 => ?_)
      obtain ⟨F18, hat19, hdup20⟩ := H4.at (hp0_0.c) hx13 hv17
      refine XL_load_int (k := .u8) u5 rfl hat19 rfl rfl rfl ?_
      refine XL_q rfl (qt_int u3 rfl u5) rfl rfl ?_
      refine XL_q rfl (qt_move rfl) rfl rfl ?_
      obtain ⟨x21, hx22, h⟩ := bind_some h
      refine XL_q rfl (qt_remO rfl rfl hx22) rfl rfl ?_
      refine XL_q rfl (qt_assign rfl) rfl rfl ?_
      refine WL_nil_seq ?_
      refine WP_ret fun a ha => ?_
      obtain rfl := Option.some.inj h
      exact ret_seq (ret1 rfl ha rfl ⟨rfl, H4⟩)
    · have h := if_f hc10 h
      refine WP_skip_seq ?_
      refine WP_seq ?_
      refine WP_quiet (by kernel_rfl) (by kernel_rfl) ?_
      refine XL_q rfl (qt_move rfl) rfl rfl ?_
      refine XL_q rfl (qt_nilCheck rfl) rfl rfl ?_
      refine XL_q rfl (qt_fieldAddr uf66 fi66_0 nz22 rfl) rfl rfl ?_
      have hB23 : Bx w2 bp0 66 [vp0_0, .int .i64 (IntKind.wrap .i64 (p0_1 + 1))] := Holds.bx (H4.pull 0)
      refine XL_load_bx u22 rfl hB23 rfl rfl rfl rfl ?_
      refine XL_q rfl (qt_move rfl) rfl rfl ?_
      refine XL_q rfl (qt_move rfl) rfl rfl ?_
      refine XL_q rfl (qt_nilCheck rfl) rfl rfl ?_
      refine XL_q rfl (qt_fieldAddr uf66 fi66_0 nz22 rfl) rfl rfl ?_
      have hB24 : Bx w2 bp0 66 [vp0_0, .int .i64 (IntKind.wrap .i64 (p0_1 + 1))] := Holds.bx (H4.pull 0)
      refine XL_load_bx u22 rfl hB24 rfl rfl rfl rfl ?_
      refine XL_lenH H4.ctx (t := (.int .u8)) (hp0_0.c) u22 rfl rfl rfl ?_
      obtain ⟨x25, hx26, h⟩ := bind_some h
      refine XL_q rfl (qt_remO rfl rfl hx26) rfl rfl ?_
      obtain ⟨x27, hx28, h⟩ := bind_some h
      refine XL_indexH H4.ctx (hp0_0.c) hx28 u22 i5 rfl rfl rfl rfl (fun b29 off30 cap31 hv32 => ?_)
      obtain ⟨F33, hat34, hdup35⟩ := H4.at (hp0_0.c) hx28 hv32
      refine XL_load_int (k := .u8) u5 rfl hat34 rfl rfl rfl ?_
      refine XL_q rfl (qt_int u3 rfl u5) rfl rfl ?_
      refine XL_q rfl (qt_mul rfl rfl) rfl rfl ?_
      refine XL_q rfl (qt_move rfl) rfl rfl ?_
      refine XL_q rfl (qt_nilCheck rfl) rfl rfl ?_
      refine XL_q rfl (qt_fieldAddr uf66 fi66_0 nz22 rfl) rfl rfl ?_
      have hB36 : Bx w2 bp0 66 [vp0_0, .int .i64 (IntKind.wrap .i64 (p0_1 + 1))] := Holds.bx (H4.pull 0)
      refine XL_load_bx u22 rfl hB36 rfl rfl rfl rfl ?_
      refine XL_q rfl (qt_move rfl) rfl rfl ?_
      refine XL_q rfl (qt_mul rfl rfl) rfl rfl ?_
      refine XL_q rfl (qt_add rfl rfl) rfl rfl ?_
      refine XL_q rfl (qt_move rfl) rfl rfl ?_
      refine XL_q rfl (qt_nilCheck rfl) rfl rfl ?_
      refine XL_q rfl (qt_fieldAddr uf66 fi66_0 nz22 rfl) rfl rfl ?_
      have hB37 : Bx w2 bp0 66 [vp0_0, .int .i64 (IntKind.wrap .i64 (p0_1 + 1))] := Holds.bx (H4.pull 0)
      refine XL_load_bx u22 rfl hB37 rfl rfl rfl rfl ?_
      refine XL_lenH H4.ctx (t := (.int .u8)) (hp0_0.c) u22 rfl rfl rfl ?_
      obtain ⟨x38, hx39, h⟩ := bind_some h
      refine XL_q rfl (qt_remO rfl rfl hx39) rfl rfl ?_
      obtain ⟨x40, hx41, h⟩ := bind_some h
      refine XL_indexH H4.ctx (hp0_0.c) hx41 u22 i5 rfl rfl rfl rfl (fun b42 off43 cap44 hv45 => ?_)
      obtain ⟨F46, hat47, hdup48⟩ := H4.at (hp0_0.c) hx41 hv45
      refine XL_load_int (k := .u8) u5 rfl hat47 rfl rfl rfl ?_
      refine XL_q rfl (qt_int u3 rfl u5) rfl rfl ?_
      refine XL_q rfl (qt_mul rfl rfl) rfl rfl ?_
      refine XL_q rfl (qt_add rfl rfl) rfl rfl ?_
      refine XL_q rfl (qt_move rfl) rfl rfl ?_
      refine XL_q rfl (qt_mul rfl rfl) rfl rfl ?_
      obtain ⟨x49, hx50, h⟩ := bind_some h
      refine XL_qe rfl (qt_add rfl rfl) (vi hx50) rfl rfl ?_
      refine XL_q rfl (qt_move rfl) rfl rfl ?_
      refine XL_q rfl (qt_move rfl) rfl rfl ?_
      refine XL_q rfl (qt_nilCheck rfl) rfl rfl ?_
      refine XL_q rfl (qt_fieldAddr uf66 fi66_0 nz22 rfl) rfl rfl ?_
      have hB51 : Bx w2 bp0 66 [vp0_0, .int .i64 (IntKind.wrap .i64 (p0_1 + 1))] := Holds.bx (H4.pull 0)
      refine XL_load_bx u22 rfl hB51 rfl rfl rfl rfl ?_
      refine XL_lenH H4.ctx (t := (.int .u8)) (hp0_0.c) u22 rfl rfl rfl ?_
      obtain ⟨x52, hx53, h⟩ := bind_some h
      refine XL_q rfl (qt_quoO rfl rfl hx53) rfl rfl ?_
      refine XL_q rfl (qt_mul rfl rfl) rfl rfl ?_
      refine XL_q rfl (qt_add rfl rfl) rfl rfl ?_
      refine XL_q rfl (qt_assign rfl) rfl rfl ?_
      refine QL_nil fun a ha w54 hb55 => ?_
      have H56 : Holds (([.bx bp0 66 [vp0_0, .int .i64 p0_1]] : List Res).flatMap Res.own) w w54 [.bx bp0 66 [vp0_0, .int .i64 (IntKind.wrap .i64 (p0_1 + 1))]] G := H4.grow hb55
      refine nrm_seq (WP.app ?_ ha)
      refine WP_seq ?_
      refine WP_region ?_
      refine XL_q rfl (qt_move rfl) rfl rfl ?_
      refine XL_q rfl (qt_move rfl) rfl rfl ?_
      refine XL_q rfl (qt_quo rfl rfl (by decide)) rfl rfl ?_
      obtain ⟨x57, hx58, h⟩ := bind_some h
      refine XL_qe rfl (qt_xor rfl rfl) (vi hx58) rfl rfl ?_
      refine XL_q rfl (qt_assign rfl) rfl rfl ?_
      refine WL_nil_seq ?_
      refine WP_seq ?_
      refine WP_region ?_
      refine XL_q rfl (qt_move rfl) rfl rfl ?_
      refine XL_q rfl (qt_move rfl) rfl rfl ?_
      obtain ⟨x59, hx60, h⟩ := bind_some h
      refine XL_q rfl (qt_remO rfl rfl hx60) rfl rfl ?_
      refine XL_q rfl (qt_assign rfl) rfl rfl ?_
      refine WL_nil_seq ?_
      refine WP_ret fun a ha => ?_
      obtain rfl := Option.some.inj h
      exact ret1 rfl ha rfl ⟨rfl, H56⟩
theorem w_spec_l20Rd__odd (w : World) (G : List Res) (bp0 : Nat) (vp0_0 : Value) (p0_0 : List Int) (hp0_0 : Has G (.int .u8) vp0_0 p0_0) (p0_1 : Int) (p1 : Int) (r : Int × Bool) (h : spec_l20Rd__oddS p0_0 p0_1 p1 = some r) (H : Ctx w ([.bx bp0 66 [vp0_0, .int .i64 p0_1]] ++ G)) : Calls Tryd.prog 78 #[.pointer (some ⟨bp0, 0, none⟩), .int .i64 p1] w fun e w' => e = .returned (.bool r.2) ∧ Holds (([.bx bp0 66 [vp0_0, .int .i64 p0_1]] : List Res).flatMap Res.own) w w' [.bx bp0 66 [vp0_0, .int .i64 r.1]] G := by
  have H : Holds (([.bx bp0 66 [vp0_0, .int .i64 p0_1]] : List Res).flatMap Res.own) w w [.bx bp0 66 [vp0_0, .int .i64 p0_1]] G := Holds.startN H
  refine calls_enter (args := [.pointer (some ⟨bp0, 0, none⟩), .int .i64 p1]) (n := 15) Tryd.func78 rfl rfl rfl ?_
  unfold spec_l20Rd__oddS at h
  refine WP_seq ?_
  refine WP_region ?_
  refine XL_q rfl (qt_assign rfl) rfl rfl ?_
  refine WL_nil_seq ?_
  refine WP_seq ?_
  refine WP_region ?_
  refine XL_q rfl (qt_move rfl) rfl rfl ?_
  refine XL_q rfl (qt_gtr rfl rfl) rfl rfl ?_
  refine XL_q rfl (qt_move rfl) rfl rfl ?_
  obtain ⟨o3, ho4, h⟩ := bind_some h
  obtain ⟨g1, b2⟩ := o3
  refine WL_cutM 7 (fun a w2 => (Fr a 15 [(0, .pointer (some ⟨bp0, 0, none⟩)), (14, .bool b2)] ∧ Holds (([.bx bp0 66 [vp0_0, .int .i64 p0_1]] : List Res).flatMap Res.own) w w2 [.bx bp0 66 [vp0_0, .int .i64 g1]] G)) ?_ ?_
  · rcases btf (decide (p1 > 0)) with hc5 | hc5
    · have ho4 := if_t hc5 ho4
      refine XL_q (w_take rfl hc5) (qt_move rfl) rfl rfl ?_
      refine XL_q (w_take rfl hc5) (qt_move rfl) rfl rfl ?_
      obtain ⟨x6, hx7, ho4⟩ := bind_some ho4
      refine WL_call (w_take rfl hc5) rfl c63 (w_spec_l20Rd__pick w G bp0 vp0_0 p0_0 (hp0_0) p0_1 p1 x6 hx7 H.ctx) (by rfl) ?_
      rintro _ w8 ⟨rfl, H9⟩; refine ⟨_, rfl, ?_⟩
      have H10 : Holds (([.bx bp0 66 [vp0_0, .int .i64 p0_1]] : List Res).flatMap Res.own) w w8 [.bx bp0 66 [vp0_0, .int .i64 x6.1]] G := H.calledN (Rs := [_]) H9
      refine XL_q (w_take rfl hc5) (qt_move rfl) rfl rfl ?_
      refine XL_q (w_take rfl hc5) (qt_sub rfl rfl) rfl rfl ?_
      refine XL_q (w_take rfl hc5) (qt_eql rfl rfl) rfl rfl ?_
      refine XL_q rfl (qt_pickT rfl hc5 rfl) rfl rfl ?_
      refine WL_nil fun a ha => ?_
      obtain ⟨rfl, rfl⟩ := Option.some.inj ho4 |> Prod.mk.inj
      exact nrm_seq ⟨ha.sub ⟨rfl, rfl, trivial⟩, H10⟩
    · have ho4 := if_f hc5 ho4
      refine XL_skip (w_skip rfl hc5) rfl rfl ?_
      refine XL_skip (w_skip rfl hc5) rfl rfl ?_
      refine XL_skip (w_skip rfl hc5) rfl rfl ?_
      refine XL_skip (w_skip rfl hc5) rfl rfl ?_
      refine XL_skip (w_skip rfl hc5) rfl rfl ?_
      refine XL_skip (w_skip rfl hc5) rfl rfl ?_
      refine XL_q rfl (qt_pickF rfl hc5 rfl) rfl rfl ?_
      refine WL_nil fun a ha => ?_
      obtain ⟨rfl, rfl⟩ := Option.some.inj ho4 |> Prod.mk.inj
      exact nrm_seq ⟨ha.sub ⟨rfl, rfl, trivial⟩, H⟩
  intro a w11 hI12
  obtain ⟨ha, H13⟩ := hI12
  refine SL_app ?_ ha
  clear ha
  refine XL_q rfl (qt_assign rfl) rfl rfl ?_
  refine WL_nil_seq ?_
  refine WP_ret fun a ha => ?_
  obtain rfl := Option.some.inj h
  exact ret1 rfl ha rfl ⟨rfl, H13⟩
theorem w_spec_l1In (w : World) (G : List Res) (p0 : Int) (p1 : Int) (p2 : Int) (r : Bool) (h : spec_l1InS p0 p1 p2 = some r) (H : Ctx w G) : Calls Tryd.prog 70 #[.int .i64 p0, .int .i64 p1, .int .i64 p2] w fun e w' => e = .returned (.bool r) ∧ Holds (([] : List Res).flatMap Res.own) w w' [] G := by
  have H : Holds (([] : List Res).flatMap Res.own) w w [] G := Holds.startN H
  refine calls_enter (args := [.int .i64 p0, .int .i64 p1, .int .i64 p2]) (n := 15) Tryd.func70 rfl rfl rfl ?_
  unfold spec_l1InS at h
  refine WP_seq ?_
  refine WP_region ?_
  refine XL_q rfl (qt_assign rfl) rfl rfl ?_
  refine WL_nil_seq ?_
  refine WP_seq ?_
  refine WP_region ?_
  refine XL_q rfl (qt_move rfl) rfl rfl ?_
  refine XL_q rfl (qt_move rfl) rfl rfl ?_
  refine XL_q rfl (qt_geq rfl rfl) rfl rfl ?_
  refine XL_q rfl (qt_move rfl) rfl rfl ?_
  refine XL_join 4 14 (.bool ((decide (p0 ≥ p1)) && (decide (p0 ≤ p2)))) ?_ (fun md hmd hk => ?_)
  rotate_left
  · obtain ⟨Q, rfl⟩ := Md.seq_of hmd
    rcases btf (decide (p0 ≥ p1)) with hc1 | hc1
    · skip
      refine XL_q (w_take rfl hc1) (qt_move rfl) rfl rfl ?_
      refine XL_q (w_take rfl hc1) (qt_move rfl) rfl rfl ?_
      refine XL_q (w_take rfl hc1) (qt_leq rfl rfl) rfl rfl ?_
      refine XL_q rfl (qt_pickT rfl hc1 rfl) rfl rfl ?_
      exact hk _ (Cov.same (by rw [hc1]; rfl) (Cov.fresh rfl (Cov.fresh rfl (Cov.fresh rfl (Cov.refl)))))
    · skip
      refine XL_skip (w_skip rfl hc1) rfl rfl ?_
      refine XL_skip (w_skip rfl hc1) rfl rfl ?_
      refine XL_skip (w_skip rfl hc1) rfl rfl ?_
      refine XL_q rfl (qt_pickF rfl hc1 rfl) rfl rfl ?_
      exact hk _ (Cov.same (by rw [hc1]; rfl) (Cov.fresh rfl (Cov.fresh rfl (Cov.fresh rfl (Cov.refl)))))
  refine XL_q rfl (qt_assign rfl) rfl rfl ?_
  refine WL_nil_seq ?_
  refine WP_ret fun a ha => ?_
  obtain rfl := Option.some.inj h
  exact ret1 rfl ha rfl ⟨rfl, H⟩
theorem w_spec_l20Quarrels (w : World) (G : List Res) (bp0 : Nat) (vp0_0 : Value) (p0_0 : List Int) (hp0_0 : Has G (.int .u8) vp0_0 p0_0) (p0_1 : Int) (p1 : Int) (r : Int × Int × (List Int)) (h : spec_l20QuarrelsS p0_0 p0_1 p1 = some r) (H : Ctx w ([.bx bp0 66 [vp0_0, .int .i64 p0_1]] ++ G)) : Calls Tryd.prog 71 #[.pointer (some ⟨bp0, 0, none⟩), .int .i64 p1] w fun e w' => ∃ (v1 : Value), e = .returned (.tuple #[.int .i64 r.2.1, v1]) ∧ Holds (([.bx bp0 66 [vp0_0, .int .i64 p0_1]] : List Res).flatMap Res.own) w w' [.sl 3 (.int .i64) v1 r.2.2, .bx bp0 66 [vp0_0, .int .i64 r.1]] G := by
  have H : Holds (([.bx bp0 66 [vp0_0, .int .i64 p0_1]] : List Res).flatMap Res.own) w w [.bx bp0 66 [vp0_0, .int .i64 p0_1]] G := Holds.startN H
  refine calls_enter (args := [.pointer (some ⟨bp0, 0, none⟩), .int .i64 p1]) (n := 69) Tryd.func71 rfl rfl rfl ?_
  unfold spec_l20QuarrelsS at h
  refine WP_seq ?_
  refine WP_region ?_
  refine XL_q rfl (qt_assign rfl) rfl rfl ?_
  refine XL_q rfl (qt_assign rfl) rfl rfl ?_
  refine WL_nil_seq ?_
  refine WP_seq ?_
  refine WP_region ?_
  refine XL_q rfl (qt_move rfl) rfl rfl ?_
  obtain ⟨x1, hx2, h⟩ := bind_some h
  refine WL_call rfl rfl c63 (w_spec_l20Rd__pick w G bp0 vp0_0 p0_0 (hp0_0) p0_1 7 x1 hx2 H.ctx) (by rfl) ?_
  rintro _ w3 ⟨rfl, H4⟩; refine ⟨_, rfl, ?_⟩
  have H5 : Holds (([.bx bp0 66 [vp0_0, .int .i64 p0_1]] : List Res).flatMap Res.own) w w3 [.bx bp0 66 [vp0_0, .int .i64 x1.1]] G := H.calledN (Rs := [_]) H4
  refine XL_q rfl (qt_assign rfl) rfl rfl ?_
  refine WL_nil_seq ?_
  refine WP_seq ?_
  refine WP_region ?_
  refine XL_q rfl (qt_move rfl) rfl rfl ?_
  obtain ⟨x6, hx7, h⟩ := bind_some h
  refine WL_makeH H5 hx7 u27 j3 rfl (fun _ => ⟨rfl, rfl⟩) rfl rfl rfl rfl rfl (fun v8 w9 H10 => ?_)
  have H11 : Holds (([.bx bp0 66 [vp0_0, .int .i64 p0_1]] : List Res).flatMap Res.own) w w9 [.sl 3 (.int .i64) v8 x6, .bx bp0 66 [vp0_0, .int .i64 x1.1]] G := H10
  refine XL_q rfl (qt_assign rfl) rfl rfl ?_
  refine WL_nil_seq ?_
  refine WP_seq ?_
  refine WP_region ?_
  refine XL_q rfl (qt_move rfl) rfl rfl ?_
  have H14 : Holds (([.bx bp0 66 [vp0_0, .int .i64 p0_1]] : List Res).flatMap Res.own) w w9 [.bx bp0 66 [vp0_0, .int .i64 x1.1], .sl 3 (.int .i64) v8 x6] G := H11.pull 1
  obtain ⟨x12, hx13, h⟩ := bind_some h
  refine WL_call rfl rfl c63 (w_spec_l20Rd__pick w9 ([.sl 3 (.int .i64) v8 x6] ++ G) bp0 vp0_0 p0_0 (hp0_0.c) x1.1 4 x12 hx13 H14.ctx) (by rfl) ?_
  rintro _ w15 ⟨rfl, H16⟩; refine ⟨_, rfl, ?_⟩
  have H17 : Holds (([.bx bp0 66 [vp0_0, .int .i64 p0_1]] : List Res).flatMap Res.own) w w15 [.bx bp0 66 [vp0_0, .int .i64 x12.1], .sl 3 (.int .i64) v8 x6] G := H14.calledN (Rs := [_]) H16
  refine XL_q rfl (qt_add rfl rfl) rfl rfl ?_
  refine XL_q rfl (qt_assign rfl) rfl rfl ?_
  refine WL_nil_seq ?_
  refine WP_seq ?_
  refine WP_seq ?_
  refine WP_region ?_
  refine XL_q rfl (qt_assign rfl) rfl rfl ?_
  refine WL_nil_seq ?_
  refine WP_block ?_
  obtain ⟨o21, ho22, h⟩ := bind_some h
  have H25 : Holds (([.bx bp0 66 [vp0_0, .int .i64 p0_1]] : List Res).flatMap Res.own) w w15 [.bx bp0 66 [vp0_0, .int .i64 x12.1], .sl 3 (.int .i64) v8 x6] G := ((H17.pull 1).pull 1)
  refine fun a23 ha24 => wp_loop_fix (I := fun s a w2 => match s with | (s18, s19, s20) => ∃ vs18, Fr a 69 [(0, .pointer (some ⟨bp0, 0, none⟩)), (1, .int .i64 p1), (6, .int .i64 x1.2), (7, vs18), (8, .int .i64 (IntKind.wrap .i64 (1 + x12.2))), (9, .int .i64 s19)] ∧ Holds (([.bx bp0 66 [vp0_0, .int .i64 p0_1]] : List Res).flatMap Res.own) w w2 [.bx bp0 66 [vp0_0, .int .i64 s20], .sl 3 (.int .i64) vs18 s18] G) (O := fun o e a w2 => match o with | (q0, q1) => e = .exit 0 ∧ ∃ vq0, Fr a 69 [(0, .pointer (some ⟨bp0, 0, none⟩)), (1, .int .i64 p1), (6, .int .i64 x1.2), (7, vq0)] ∧ Holds (([.bx bp0 66 [vp0_0, .int .i64 p0_1]] : List Res).flatMap Res.own) w w2 [.bx bp0 66 [vp0_0, .int .i64 q1], .sl 3 (.int .i64) vq0 q0] G) ho22 ?_ ?_ ?_
  · exact ⟨v8, ha24.sub ⟨rfl, rfl, rfl, rfl, rfl, rfl, trivial⟩, H25⟩
  · clear ha24
    intro s o28 a w26 hs27 hI29
    obtain ⟨s18, s19, s20⟩ := s
    obtain ⟨vs18, ha, H30⟩ := hI29
    refine WP.app ?_ ha
    clear ha
    refine WP_seq ?_
    refine WP_seq ?_
    refine WP_region ?_
    refine XL_q rfl (qt_move rfl) rfl rfl ?_
    refine XL_q rfl (qt_move rfl) rfl rfl ?_
    refine XL_q rfl (qt_lss rfl rfl) rfl rfl ?_
    refine WL_nil_seq ?_
    refine WP_cond rfl (fun hc31 => ?_) (fun hc31 => ?_)
    · have hs27 := if_t hc31 hs27
      refine WP_skip_seq ?_
      refine WP_seq ?_
      refine WP_block ?_
      refine WP_seq ?_
      refine WP_region ?_
      refine XL_q rfl (qt_assign rfl) rfl rfl ?_
      refine WL_nil_seq ?_
      refine WP_block ?_
      obtain ⟨o35, ho36, hs27⟩ := bind_some hs27
      have H39 : Holds (([.bx bp0 66 [vp0_0, .int .i64 p0_1]] : List Res).flatMap Res.own) w w26 [.bx bp0 66 [vp0_0, .int .i64 s20], .sl 3 (.int .i64) vs18 s18] G := ((H30.pull 1).pull 1)
      refine fun a37 ha38 => wp_loop_fix (I := fun s a w2 => match s with | (s32, s33, s34) => ∃ vs32, Fr a 69 [(0, .pointer (some ⟨bp0, 0, none⟩)), (1, .int .i64 p1), (6, .int .i64 x1.2), (7, vs32), (8, .int .i64 (IntKind.wrap .i64 (1 + x12.2))), (9, .int .i64 s19), (10, .int .i64 s33)] ∧ Holds (([.bx bp0 66 [vp0_0, .int .i64 p0_1]] : List Res).flatMap Res.own) w w2 [.bx bp0 66 [vp0_0, .int .i64 s34], .sl 3 (.int .i64) vs32 s32] G) (O := fun o e a w2 => match o with | (q0, q1) => e = .exit 2 ∧ ∃ vq0, Fr a 69 [(0, .pointer (some ⟨bp0, 0, none⟩)), (1, .int .i64 p1), (6, .int .i64 x1.2), (7, vq0), (8, .int .i64 (IntKind.wrap .i64 (1 + x12.2))), (9, .int .i64 s19)] ∧ Holds (([.bx bp0 66 [vp0_0, .int .i64 p0_1]] : List Res).flatMap Res.own) w w2 [.bx bp0 66 [vp0_0, .int .i64 q1], .sl 3 (.int .i64) vq0 q0] G) ho36 ?_ ?_ ?_
      · exact ⟨vs18, ha38.sub ⟨rfl, rfl, rfl, rfl, rfl, rfl, rfl, trivial⟩, H39⟩
      · clear ha38
        intro s o42 a w40 hs41 hI43
        obtain ⟨s32, s33, s34⟩ := s
        obtain ⟨vs32, ha, H44⟩ := hI43
        refine WP.app ?_ ha
        clear ha
        refine WP_seq ?_
        refine WP_seq ?_
        refine WP_region ?_
        refine XL_q rfl (qt_move rfl) rfl rfl ?_
        refine XL_q rfl (qt_move rfl) rfl rfl ?_
        refine XL_q rfl (qt_lss rfl rfl) rfl rfl ?_
        refine WL_nil_seq ?_
        refine WP_cond rfl (fun hc45 => ?_) (fun hc45 => ?_)
        · have hs41 := if_t hc45 hs41
          refine WP_skip_seq ?_
          refine WP_seq ?_
          refine WP_block ?_
          refine WP_seq ?_
          refine WP_region ?_
          refine XL_q rfl (qt_move rfl) rfl rfl ?_
          obtain ⟨x46, hx47, hs41⟩ := bind_some hs41
          refine WL_call rfl rfl c63 (w_spec_l20Rd__pick w40 ([.sl 3 (.int .i64) vs32 s32] ++ G) bp0 vp0_0 p0_0 (hp0_0.c) s34 5 x46 hx47 H44.ctx) (by rfl) ?_
          rintro _ w48 ⟨rfl, H49⟩; refine ⟨_, rfl, ?_⟩
          have H50 : Holds (([.bx bp0 66 [vp0_0, .int .i64 p0_1]] : List Res).flatMap Res.own) w w48 [.bx bp0 66 [vp0_0, .int .i64 x46.1], .sl 3 (.int .i64) vs32 s32] G := H44.calledN (Rs := [_]) H49
          refine XL_q rfl (qt_move rfl) rfl rfl ?_
          refine XL_q rfl (qt_lss rfl rfl) rfl rfl ?_
          refine WL_nil_seq ?_
          refine WP_cond rfl (fun hc51 => ?_) (fun hc51 => ?_)
          · have hs41 := if_t hc51 hs41
            refine WP_seq ?_
            refine WP_tail 9 (by kernel_rfl) (by kernel_rfl) (fun w52 hb53 => ?_)
            have H54 : Holds (([.bx bp0 66 [vp0_0, .int .i64 p0_1]] : List Res).flatMap Res.own) w w52 [.bx bp0 66 [vp0_0, .int .i64 x46.1], .sl 3 (.int .i64) vs32 s32] G := H50.grow hb53
            refine XL_q rfl (qt_move rfl) rfl rfl ?_
            refine XL_q rfl (qt_move rfl) rfl rfl ?_
            refine XL_q rfl (qt_move rfl) rfl rfl ?_
            refine XL_q rfl (qt_move rfl) rfl rfl ?_
            obtain ⟨x55, hx56, hs41⟩ := bind_some hs41
            refine XL_indexH H54.ctx (Has.c (Has.hd)) hx56 u27 i3 rfl rfl rfl rfl (fun b57 off58 cap59 hv60 => ?_)
            obtain ⟨F61, hat62, hdup63⟩ := H54.at (Has.c (Has.hd)) hx56 hv60
            refine XL_load_int (k := .i64) u3 rfl hat62 rfl rfl rfl ?_
            refine XL_q rfl (qt_move rfl) rfl rfl ?_
            obtain ⟨x64, hx65, hs41⟩ := bind_some hs41
            refine XL_q rfl (qt_shlO rfl rfl hx65) rfl rfl ?_
            refine XL_q rfl (qt_add rfl rfl) rfl rfl ?_
            refine SL_nil ?_
            obtain ⟨x66, hx67, hs41⟩ := bind_some hs41
            refine XL_indexH H54.ctx (Has.c (Has.hd)) hx67 u27 i3 rfl rfl rfl rfl (fun b68 off69 cap70 hv71 => ?_)
            have H72 : Holds (([.bx bp0 66 [vp0_0, .int .i64 p0_1]] : List Res).flatMap Res.own) w w52 [.sl 3 (.int .i64) vs32 s32, .bx bp0 66 [vp0_0, .int .i64 x46.1]] G := H54.pull 1
            refine WL_storeH (fo := 0) (cs' := [.int .i64 (IntKind.wrap .i64 (x55 + x64))]) H72 hx67 hv71 (Upd.whole (Blt.int)) rfl il3 rfl rfl rfl rfl (fun w73 H74 => ?_)
            have H75 : Holds (([.bx bp0 66 [vp0_0, .int .i64 p0_1]] : List Res).flatMap Res.own) w w73 [.sl 3 (.int .i64) vs32 (List.set s32 (Int.toNat s19) (IntKind.wrap .i64 (x55 + x64))), .bx bp0 66 [vp0_0, .int .i64 x46.1]] G := H74
            refine WL_nil_seq ?_
            refine WP_tail 9 (by kernel_rfl) (by kernel_rfl) (fun w76 hb77 => ?_)
            have H78 : Holds (([.bx bp0 66 [vp0_0, .int .i64 p0_1]] : List Res).flatMap Res.own) w w76 [.sl 3 (.int .i64) vs32 (List.set s32 (Int.toNat s19) (IntKind.wrap .i64 (x55 + x64))), .bx bp0 66 [vp0_0, .int .i64 x46.1]] G := H75.grow hb77
            refine XL_q rfl (qt_move rfl) rfl rfl ?_
            refine XL_q rfl (qt_move rfl) rfl rfl ?_
            refine XL_q rfl (qt_move rfl) rfl rfl ?_
            refine XL_q rfl (qt_move rfl) rfl rfl ?_
            obtain ⟨x79, hx80, hs41⟩ := bind_some hs41
            refine XL_indexH H78.ctx (Has.hd) hx80 u27 i3 rfl rfl rfl rfl (fun b81 off82 cap83 hv84 => ?_)
            obtain ⟨F85, hat86, hdup87⟩ := H78.at (Has.hd) hx80 hv84
            refine XL_load_int (k := .i64) u3 rfl hat86 rfl rfl rfl ?_
            refine XL_q rfl (qt_move rfl) rfl rfl ?_
            obtain ⟨x88, hx89, hs41⟩ := bind_some hs41
            refine XL_q rfl (qt_shlO rfl rfl hx89) rfl rfl ?_
            refine XL_q rfl (qt_add rfl rfl) rfl rfl ?_
            refine SL_nil ?_
            obtain ⟨x90, hx91, hs41⟩ := bind_some hs41
            refine XL_indexH H78.ctx (Has.hd) hx91 u27 i3 rfl rfl rfl rfl (fun b92 off93 cap94 hv95 => ?_)
            refine WL_storeH (fo := 0) (cs' := [.int .i64 (IntKind.wrap .i64 (x79 + x88))]) H78 hx91 hv95 (Upd.whole (Blt.int)) rfl il3 rfl rfl rfl rfl (fun w96 H97 => ?_)
            have H98 : Holds (([.bx bp0 66 [vp0_0, .int .i64 p0_1]] : List Res).flatMap Res.own) w w96 [.sl 3 (.int .i64) vs32 (List.set (List.set s32 (Int.toNat s19) (IntKind.wrap .i64 (x55 + x64))) (Int.toNat s33) (IntKind.wrap .i64 (x79 + x88))), .bx bp0 66 [vp0_0, .int .i64 x46.1]] G := H97
            refine WL_nil fun a ha => ?_
            refine nrm_block (nrm_seq (WP.app ?_ ha))
            refine WP_region ?_
            refine XL_q rfl (qt_move rfl) rfl rfl ?_
            refine XL_q rfl (qt_add rfl rfl) rfl rfl ?_
            refine XL_q rfl (qt_assign rfl) rfl rfl ?_
            refine WL_nil fun a ha => ?_
            obtain rfl := Option.some.inj hs41
            have H99 : Holds (([.bx bp0 66 [vp0_0, .int .i64 p0_1]] : List Res).flatMap Res.own) w w96 [.bx bp0 66 [vp0_0, .int .i64 x46.1], .sl 3 (.int .i64) vs32 (List.set (List.set s32 (Int.toNat s19) (IntKind.wrap .i64 (x55 + x64))) (Int.toNat s33) (IntKind.wrap .i64 (x79 + x88)))] G := (H98.pull 1)
            exact ⟨rfl, vs32, ha.sub ⟨rfl, rfl, rfl, rfl, rfl, rfl, rfl, trivial⟩, H99⟩
          · have hs41 := if_f hc51 hs41
            refine WP_skip fun a ha => ?_
            refine nrm_block (nrm_seq (WP.app ?_ ha))
            refine WP_region ?_
            refine XL_q rfl (qt_move rfl) rfl rfl ?_
            refine XL_q rfl (qt_add rfl rfl) rfl rfl ?_
            refine XL_q rfl (qt_assign rfl) rfl rfl ?_
            refine WL_nil fun a ha => ?_
            obtain rfl := Option.some.inj hs41
            have H100 : Holds (([.bx bp0 66 [vp0_0, .int .i64 p0_1]] : List Res).flatMap Res.own) w w48 [.bx bp0 66 [vp0_0, .int .i64 x46.1], .sl 3 (.int .i64) vs32 s32] G := ((H50.pull 1).pull 1)
            exact ⟨rfl, vs32, ha.sub ⟨rfl, rfl, rfl, rfl, rfl, rfl, rfl, trivial⟩, H100⟩
        · have hs41 := if_f hc45 hs41
          refine WP_exit fun a ha => ?_
          obtain rfl := Option.some.inj hs41
          have H101 : Holds (([.bx bp0 66 [vp0_0, .int .i64 p0_1]] : List Res).flatMap Res.own) w w40 [.bx bp0 66 [vp0_0, .int .i64 s34], .sl 3 (.int .i64) vs32 s32] G := ((H44.pull 1).pull 1)
          exact exit_seq (⟨exit_ne, rfl, vs32, ha.sub ⟨rfl, rfl, rfl, rfl, rfl, rfl, trivial⟩, H101⟩)
      · intro e a37 w102 hO103
        obtain ⟨p104, p105⟩ := o35
        obtain ⟨rfl, hO107⟩ := hO103
        obtain ⟨vp104, ha, H106⟩ := hO107
        refine exit_block_eq (nrm_block (nrm_seq (WP.app ?_ ha)))
        refine WP_region ?_
        refine XL_q rfl (qt_move rfl) rfl rfl ?_
        refine XL_q rfl (qt_add rfl rfl) rfl rfl ?_
        refine XL_q rfl (qt_assign rfl) rfl rfl ?_
        refine WL_nil fun a ha => ?_
        obtain rfl := Option.some.inj hs27
        have H108 : Holds (([.bx bp0 66 [vp0_0, .int .i64 p0_1]] : List Res).flatMap Res.own) w w102 [.bx bp0 66 [vp0_0, .int .i64 p105], .sl 3 (.int .i64) vp104 p104] G := ((H106.pull 1).pull 1)
        exact ⟨rfl, vp104, ha.sub ⟨rfl, rfl, rfl, rfl, rfl, rfl, trivial⟩, H108⟩
    · have hs27 := if_f hc31 hs27
      refine WP_exit fun a ha => ?_
      obtain rfl := Option.some.inj hs27
      have H109 : Holds (([.bx bp0 66 [vp0_0, .int .i64 p0_1]] : List Res).flatMap Res.own) w w26 [.bx bp0 66 [vp0_0, .int .i64 s20], .sl 3 (.int .i64) vs18 s18] G := ((H30.pull 1).pull 1)
      exact exit_seq (⟨exit_ne, rfl, vs18, ha.sub ⟨rfl, rfl, rfl, rfl, trivial⟩, H109⟩)
  · intro e a23 w110 hO111
    obtain ⟨p112, p113⟩ := o21
    obtain ⟨rfl, hO115⟩ := hO111
    obtain ⟨vp112, ha, H114⟩ := hO115
    refine exit_block_eq (nrm_seq (WP.app ?_ ha))
    refine WP_seq ?_
    refine WP_seq ?_
    refine WP_region ?_
    refine XL_q rfl (qt_move rfl) rfl rfl ?_
    refine XL_q rfl (qt_move rfl) rfl rfl ?_
    obtain ⟨x116, hx117, h⟩ := bind_some h
    refine WL_call rfl rfl c78 (w_spec_l20Rd__odd w110 ([.sl 3 (.int .i64) vp112 p112] ++ G) bp0 vp0_0 p0_0 (hp0_0.c) p113 p1 x116 hx117 H114.ctx) (by rfl) ?_
    rintro _ w118 ⟨rfl, H119⟩; refine ⟨_, rfl, ?_⟩
    have H120 : Holds (([.bx bp0 66 [vp0_0, .int .i64 p0_1]] : List Res).flatMap Res.own) w w118 [.bx bp0 66 [vp0_0, .int .i64 x116.1], .sl 3 (.int .i64) vp112 p112] G := H114.calledN (Rs := [_]) H119
    refine WL_nil_seq ?_
    refine WP_cond rfl (fun hc121 => ?_) (fun hc121 => ?_)
    · have h := if_t hc121 h
      refine WP_seq ?_
      refine WP_region ?_
      refine XL_q rfl (qt_move rfl) rfl rfl ?_
      obtain ⟨x122, hx123, h⟩ := bind_some h
      refine WL_call rfl rfl c63 (w_spec_l20Rd__pick w118 ([.sl 3 (.int .i64) vp112 p112] ++ G) bp0 vp0_0 p0_0 (hp0_0.c) x116.1 3 x122 hx123 H120.ctx) (by rfl) ?_
      rintro _ w124 ⟨rfl, H125⟩; refine ⟨_, rfl, ?_⟩
      have H126 : Holds (([.bx bp0 66 [vp0_0, .int .i64 p0_1]] : List Res).flatMap Res.own) w w124 [.bx bp0 66 [vp0_0, .int .i64 x122.1], .sl 3 (.int .i64) vp112 p112] G := H120.calledN (Rs := [_]) H125
      refine WL_nil_seq ?_
      refine WP_block ?_
      refine WP_seq ?_
      refine WP_region ?_
      refine XL_q rfl (qt_eql rfl rfl) rfl rfl ?_
      refine XL_q rfl (qt_assign rfl) rfl rfl ?_
      refine WL_nil_seq ?_
      refine WP_cond rfl (fun hc127 => ?_) (fun hc127 => ?_)
      · have h := if_t hc127 h
        refine WP_seq ?_
        refine WP_region ?_
        refine XL_q rfl (qt_move rfl) rfl rfl ?_
        refine XL_q rfl (qt_move rfl) rfl rfl ?_
        refine WL_buildH (t := (.int .i64)) (args := [.const (.int .i64 0)]) (xs := ([0] : List Int)) H126 (BltL.cons (Blt.int) rfl (BltL.nil)) u27 j3 rfl rfl rfl rfl rfl rfl (fun v128 w129 H130 => ?_)
        have H131 : Holds (([.bx bp0 66 [vp0_0, .int .i64 p0_1]] : List Res).flatMap Res.own) w w129 [.sl 3 (.int .i64) v128 ([0]), .bx bp0 66 [vp0_0, .int .i64 x122.1], .sl 3 (.int .i64) vp112 p112] G := H130
        have H132 : Holds (([.bx bp0 66 [vp0_0, .int .i64 p0_1]] : List Res).flatMap Res.own) w w129 [.sl 3 (.int .i64) vp112 p112, .sl 3 (.int .i64) v128 ([0]), .bx bp0 66 [vp0_0, .int .i64 x122.1]] G := H131.pull 2
        obtain ⟨x133, hx134, h⟩ := bind_some h
        refine WL_appendH H132 (Has.c (Has.hd)) hx134 u27 j3 rfl rfl rfl rfl rfl rfl (fun v135 w136 H137 => ?_)
        have H138 : Holds (([.bx bp0 66 [vp0_0, .int .i64 p0_1]] : List Res).flatMap Res.own) w w136 [.sl 3 (.int .i64) v135 x133, .sl 3 (.int .i64) v128 ([0]), .bx bp0 66 [vp0_0, .int .i64 x122.1]] G := H137
        refine XL_q rfl (qt_assign rfl) rfl rfl ?_
        refine XL_q rfl (qt_assign rfl) rfl rfl ?_
        refine WL_nil_seq ?_
        refine WP_ret fun a ha => ?_
        obtain rfl := Option.some.inj h
        have H139 : Holds (([.bx bp0 66 [vp0_0, .int .i64 p0_1]] : List Res).flatMap Res.own) w w136 [.sl 3 (.int .i64) v135 x133, .bx bp0 66 [vp0_0, .int .i64 x122.1]] G := (((H138.cut 1).pull 1).pull 1)
        exact ret_block (ret_seq (ret2 rfl ha rfl rfl ⟨v135, rfl, H139⟩))
      · have h := if_f hc127 h
        refine WP_seq ?_
        refine WP_region ?_
        refine XL_q rfl (qt_eql rfl rfl) rfl rfl ?_
        refine XL_q rfl (qt_assign rfl) rfl rfl ?_
        refine WL_nil_seq ?_
        refine WP_cond rfl (fun hc140 => ?_) (fun hc140 => ?_)
        · have h := if_t hc140 h
          refine WP_seq ?_
          refine WP_region ?_
          refine WL_buildH (t := (.int .i64)) (args := [.const (.int .i64 2), .const (.int .i64 0)]) (xs := ([2, 0] : List Int)) H126 (BltL.cons (Blt.int) rfl (BltL.cons (Blt.int) rfl (BltL.nil))) u27 j3 rfl rfl rfl rfl rfl rfl (fun v141 w142 H143 => ?_)
          have H144 : Holds (([.bx bp0 66 [vp0_0, .int .i64 p0_1]] : List Res).flatMap Res.own) w w142 [.sl 3 (.int .i64) v141 ([2, 0]), .bx bp0 66 [vp0_0, .int .i64 x122.1], .sl 3 (.int .i64) vp112 p112] G := H143
          refine XL_q rfl (qt_assign rfl) rfl rfl ?_
          refine XL_q rfl (qt_assign rfl) rfl rfl ?_
          refine WL_nil_seq ?_
          refine WP_ret fun a ha => ?_
          obtain rfl := Option.some.inj h
          have H145 : Holds (([.bx bp0 66 [vp0_0, .int .i64 p0_1]] : List Res).flatMap Res.own) w w142 [.sl 3 (.int .i64) v141 ([2, 0]), .bx bp0 66 [vp0_0, .int .i64 x122.1]] G := (((H144.cut 2).pull 1).pull 1)
          exact ret_block (ret_seq (ret2 rfl ha rfl rfl ⟨v141, rfl, H145⟩))
        · have h := if_f hc140 h
          refine WP_seq ?_
          refine WP_region ?_
          refine WL_buildH (t := (.int .i64)) (args := [.const (.int .i64 1), .const (.int .i64 0)]) (xs := ([1, 0] : List Int)) H126 (BltL.cons (Blt.int) rfl (BltL.cons (Blt.int) rfl (BltL.nil))) u27 j3 rfl rfl rfl rfl rfl rfl (fun v146 w147 H148 => ?_)
          have H149 : Holds (([.bx bp0 66 [vp0_0, .int .i64 p0_1]] : List Res).flatMap Res.own) w w147 [.sl 3 (.int .i64) v146 ([1, 0]), .bx bp0 66 [vp0_0, .int .i64 x122.1], .sl 3 (.int .i64) vp112 p112] G := H148
          refine XL_q rfl (qt_assign rfl) rfl rfl ?_
          refine XL_q rfl (qt_assign rfl) rfl rfl ?_
          refine WL_nil_seq ?_
          refine WP_ret fun a ha => ?_
          obtain rfl := Option.some.inj h
          have H150 : Holds (([.bx bp0 66 [vp0_0, .int .i64 p0_1]] : List Res).flatMap Res.own) w w147 [.sl 3 (.int .i64) v146 ([1, 0]), .bx bp0 66 [vp0_0, .int .i64 x122.1]] G := (((H149.cut 2).pull 1).pull 1)
          exact ret_block (ret_seq (ret2 rfl ha rfl rfl ⟨v146, rfl, H150⟩))
    · have h := if_f hc121 h
      refine WP_skip_seq ?_
      refine WP_seq ?_
      refine WP_region ?_
      refine XL_q rfl (qt_move rfl) rfl rfl ?_
      refine XL_q rfl (qt_move rfl) rfl rfl ?_
      refine XL_q rfl (qt_assign rfl) rfl rfl ?_
      refine XL_q rfl (qt_assign rfl) rfl rfl ?_
      refine WL_nil_seq ?_
      refine WP_ret fun a ha => ?_
      obtain rfl := Option.some.inj h
      have H151 : Holds (([.bx bp0 66 [vp0_0, .int .i64 p0_1]] : List Res).flatMap Res.own) w w118 [.sl 3 (.int .i64) vp112 p112, .bx bp0 66 [vp0_0, .int .i64 x116.1]] G := (H120.pull 1)
      exact ret2 rfl ha rfl rfl ⟨vp112, rfl, H151⟩
theorem w_spec_QuarrelsValid (w : World) (G : List Res) (p0 : Int) (vp1 : Value) (p1 : List Int) (hp1 : Has G (.int .i64) vp1 p1) (r : Bool) (h : spec_QuarrelsValidS p0 p1 = some r) (H : Ctx w G) : Calls Tryd.prog 27 #[.int .i64 p0, vp1] w fun e w' => e = .returned (.bool r) ∧ Holds (([] : List Res).flatMap Res.own) w w' [] G := by
  have H : Holds (([] : List Res).flatMap Res.own) w w [] G := Holds.startN H
  refine calls_enter (args := [.int .i64 p0, vp1]) (n := 71) Tryd.func27 rfl rfl rfl ?_
  unfold spec_QuarrelsValidS at h
  refine WP_seq ?_
  refine WP_region ?_
  refine XL_q rfl (qt_assign rfl) rfl rfl ?_
  refine WL_nil_seq ?_
  refine WP_seq ?_
  refine WP_seq ?_
  refine WP_still ?_
  refine XL_q rfl (qt_move rfl) rfl rfl ?_
  obtain ⟨x1, hx2, h⟩ := bind_some h
  refine QL_call rfl rfl c70 (fun w' hb => (w_spec_l1In w' G p0 0 6 x1 hx2 (H.grow hb).ctx).mono fun e w'' hK => ⟨hK.1, hK.2.bel⟩) (by rfl) ?_
  refine XL_q rfl (qt_not rfl) rfl rfl ?_
  refine XL_q rfl (qt_move rfl) rfl rfl ?_
  refine XL_join 5 15 (.bool ((!x1) || ((List.length p1 : Int) != p0))) ?_ (fun md hmd hk => ?_)
  rotate_left
  · obtain ⟨K, rfl⟩ := Md.quiet_of hmd
    rcases btf (!x1) with hc3 | hc3
    · skip
      refine XL_skip (w_skip rfl hc3) rfl rfl ?_
      refine XL_skip (w_skip rfl hc3) rfl rfl ?_
      refine XL_skip (w_skip rfl hc3) rfl rfl ?_
      refine XL_skip (w_skip rfl hc3) rfl rfl ?_
      refine XL_q rfl (qt_pickT rfl hc3 rfl) rfl rfl ?_
      exact hk _ (Cov.same (by rw [hc3]; rfl) (Cov.fresh rfl (Cov.fresh rfl (Cov.fresh rfl (Cov.fresh rfl (Cov.refl))))))
    · skip
      refine XL_q (w_take rfl hc3) (qt_move rfl) rfl rfl ?_
      refine XL_lenH H.ctx (t := (.int .i64)) (hp1) u27 (w_take rfl hc3) rfl rfl ?_
      refine XL_q (w_take rfl hc3) (qt_move rfl) rfl rfl ?_
      refine XL_q (w_take rfl hc3) (qt_neq rfl rfl) rfl rfl ?_
      refine XL_q rfl (qt_pickF rfl hc3 rfl) rfl rfl ?_
      exact hk _ (Cov.same (by rw [hc3]; rfl) (Cov.fresh rfl (Cov.fresh rfl (Cov.fresh rfl (Cov.fresh rfl (Cov.refl))))))
  refine QL_nil fun a ha w4 hb5 => ?_
  have H6 : Holds (([] : List Res).flatMap Res.own) w w4 [] G := H.grow hb5
  refine nrm_seq (WP.app ?_ ha)
  refine WP_cond rfl (fun hc7 => ?_) (fun hc7 => ?_)
  · have h := if_t hc7 h
    refine WP_seq ?_
    refine WP_region ?_
    refine XL_q rfl (qt_assign rfl) rfl rfl ?_
    refine WL_nil_seq ?_
    refine WP_ret fun a ha => ?_
    obtain rfl := Option.some.inj h
    exact ret_seq (ret1 rfl ha rfl ⟨rfl, H6⟩)
  · have h := if_f hc7 h
    refine WP_skip_seq ?_
    refine WP_seq ?_
    refine WP_seq ?_
    refine WP_region ?_
    refine XL_q rfl (qt_assign rfl) rfl rfl ?_
    refine WL_nil_seq ?_
    refine WP_block ?_
    obtain ⟨o9, ho10, h⟩ := bind_some h
    refine fun a11 ha12 => wp_loop_fix (I := fun s a w2 => match s with | s8 => (Fr a 71 [(0, .int .i64 p0), (1, vp1), (5, .int .i64 s8)] ∧ Holds (([] : List Res).flatMap Res.own) w w2 [] G)) (O := fun o e a w2 => match o with | .inl _ => e = .exit 0 ∧ (Fr a 71 [] ∧ Holds (([] : List Res).flatMap Res.own) w w2 [] G) | .inr q0 => e = .ret ∧ (Fr a 71 [(4, .bool q0)] ∧ Holds (([] : List Res).flatMap Res.own) w w2 [] G)) ho10 ?_ ?_ ?_
    · exact ⟨ha12.sub ⟨rfl, rfl, rfl, trivial⟩, H6⟩
    · clear ha12
      intro s o15 a w13 hs14 hI16
      obtain ⟨s8, rfl⟩ : ∃ z, z = s := ⟨s, rfl⟩
      obtain ⟨ha, H17⟩ := hI16
      refine WP.app ?_ ha
      clear ha
      refine WP_seq ?_
      refine WP_seq ?_
      refine WP_region ?_
      refine XL_q rfl (qt_move rfl) rfl rfl ?_
      refine XL_q rfl (qt_move rfl) rfl rfl ?_
      refine XL_q rfl (qt_lss rfl rfl) rfl rfl ?_
      refine WL_nil_seq ?_
      refine WP_cond rfl (fun hc18 => ?_) (fun hc18 => ?_)
      · have hs14 := if_t hc18 hs14
        refine WP_skip_seq ?_
        refine WP_seq ?_
        refine WP_block ?_
        refine WP_seq ?_
        refine WP_seq ?_
        refine WP_quiet (by kernel_rfl) (by kernel_rfl) ?_
        refine XL_q rfl (qt_move rfl) rfl rfl ?_
        refine XL_q rfl (qt_move rfl) rfl rfl ?_
        obtain ⟨x19, hx20, hs14⟩ := bind_some hs14
        refine XL_indexH H17.ctx (hp1) hx20 u27 i3 rfl rfl rfl rfl (fun b21 off22 cap23 hv24 => ?_)
        obtain ⟨F25, hat26, hdup27⟩ := H17.at (hp1) hx20 hv24
        refine XL_load_int (k := .i64) u3 rfl hat26 rfl rfl rfl ?_
        refine XL_q rfl (qt_move rfl) rfl rfl ?_
        obtain ⟨x28, hx29, hs14⟩ := bind_some hs14
        refine XL_q rfl (qt_shlO rfl rfl hx29) rfl rfl ?_
        refine XL_q rfl (qt_sub rfl rfl) rfl rfl ?_
        obtain ⟨x30, hx31, hs14⟩ := bind_some hs14
        refine QL_call rfl rfl c70 (fun w' hb => (w_spec_l1In w' G x19 0 (IntKind.wrap .i64 (x28 - 1)) x30 hx31 (H17.grow hb).ctx).mono fun e w'' hK => ⟨hK.1, hK.2.bel⟩) (by rfl) ?_
        refine XL_q rfl (qt_not rfl) rfl rfl ?_
        refine XL_q rfl (qt_move rfl) rfl rfl ?_
        obtain ⟨b32, hg33, hs14⟩ := bind_some hs14
        refine XL_join 9 39 (.bool b32) ?_ (fun md hmd hk => ?_)
        rotate_left
        · obtain ⟨K, rfl⟩ := Md.quiet_of hmd
          rcases btf (!x30) with hc34 | hc34
          · skip
            refine XL_skip (w_skip rfl hc34) rfl rfl ?_
            refine XL_skip (w_skip rfl hc34) rfl rfl ?_
            refine XL_skip (w_skip rfl hc34) rfl rfl ?_
            refine XL_skip (w_skip rfl hc34) rfl rfl ?_
            refine XL_skip (w_skip rfl hc34) rfl rfl ?_
            refine XL_skip (w_skip rfl hc34) rfl rfl ?_
            refine XL_skip (w_skip rfl hc34) rfl rfl ?_
            refine XL_skip (w_skip rfl hc34) rfl rfl ?_
            refine XL_q rfl (qt_pickT rfl hc34 rfl) rfl rfl ?_
            exact hk _ (Cov.same (vb (if_t hc34 hg33)) (Cov.fresh rfl (Cov.fresh rfl (Cov.fresh rfl (Cov.fresh rfl (Cov.fresh rfl (Cov.fresh rfl (Cov.fresh rfl (Cov.fresh rfl (Cov.refl))))))))))
          · skip
            have hg33 := if_f hc34 hg33
            refine XL_q (w_take rfl hc34) (qt_move rfl) rfl rfl ?_
            refine XL_q (w_take rfl hc34) (qt_move rfl) rfl rfl ?_
            obtain ⟨x35, hx36, hg33⟩ := bind_some hg33
            refine XL_indexH H17.ctx (hp1) hx36 u27 i3 (w_take rfl hc34) rfl rfl rfl (fun b37 off38 cap39 hv40 => ?_)
            obtain ⟨F41, hat42, hdup43⟩ := H17.at (hp1) hx36 hv40
            refine XL_load_int (k := .i64) u3 rfl hat42 (w_take rfl hc34) rfl rfl ?_
            refine XL_q (w_take rfl hc34) (qt_move rfl) rfl rfl ?_
            obtain ⟨x44, hx45, hg33⟩ := bind_some hg33
            refine XL_q (w_take rfl hc34) (qt_shrO rfl rfl hx45) rfl rfl ?_
            refine XL_q (w_take rfl hc34) (qt_rem rfl rfl (by decide)) rfl rfl ?_
            refine XL_q (w_take rfl hc34) (qt_eql rfl rfl) rfl rfl ?_
            refine XL_q rfl (qt_pickF rfl hc34 rfl) rfl rfl ?_
            exact hk _ (Cov.same (vb hg33) (Cov.fresh rfl (Cov.fresh rfl (Cov.fresh rfl (Cov.fresh rfl (Cov.fresh rfl (Cov.fresh rfl (Cov.fresh rfl (Cov.fresh rfl (Cov.refl))))))))))
        refine QL_nil fun a ha w46 hb47 => ?_
        have H48 : Holds (([] : List Res).flatMap Res.own) w w46 [] G := H17.grow hb47
        refine nrm_seq (WP.app ?_ ha)
        refine WP_cond rfl (fun hc49 => ?_) (fun hc49 => ?_)
        · have hs14 := if_t hc49 hs14
          refine WP_seq ?_
          refine WP_region ?_
          refine XL_q rfl (qt_assign rfl) rfl rfl ?_
          refine WL_nil_seq ?_
          refine WP_ret fun a ha => ?_
          obtain rfl := Option.some.inj hs14
          exact ret_seq (ret_block (ret_seq (⟨ret_ne, rfl, ha.sub ⟨rfl, trivial⟩, H48⟩)))
        · have hs14 := if_f hc49 hs14
          refine WP_skip_seq ?_
          refine WP_seq ?_
          refine WP_region ?_
          refine XL_q rfl (qt_assign rfl) rfl rfl ?_
          refine WL_nil_seq ?_
          refine WP_block ?_
          obtain ⟨o51, ho52, hs14⟩ := bind_some hs14
          refine fun a53 ha54 => wp_loop_fix (I := fun s a w2 => match s with | s50 => (Fr a 71 [(0, .int .i64 p0), (1, vp1), (5, .int .i64 s8), (6, .int .i64 s50)] ∧ Holds (([] : List Res).flatMap Res.own) w w2 [] G)) (O := fun o e a w2 => match o with | .inl _ => e = .exit 2 ∧ (Fr a 71 [(0, .int .i64 p0), (1, vp1), (5, .int .i64 s8)] ∧ Holds (([] : List Res).flatMap Res.own) w w2 [] G) | .inr q0 => e = .ret ∧ (Fr a 71 [(4, .bool q0)] ∧ Holds (([] : List Res).flatMap Res.own) w w2 [] G)) ho52 ?_ ?_ ?_
          · exact ⟨ha54.sub ⟨rfl, rfl, rfl, rfl, trivial⟩, H48⟩
          · clear ha54
            intro s o57 a w55 hs56 hI58
            obtain ⟨s50, rfl⟩ : ∃ z, z = s := ⟨s, rfl⟩
            obtain ⟨ha, H59⟩ := hI58
            refine WP.app ?_ ha
            clear ha
            refine WP_seq ?_
            refine WP_seq ?_
            refine WP_region ?_
            refine XL_q rfl (qt_move rfl) rfl rfl ?_
            refine XL_q rfl (qt_move rfl) rfl rfl ?_
            refine XL_q rfl (qt_lss rfl rfl) rfl rfl ?_
            refine WL_nil_seq ?_
            refine WP_cond rfl (fun hc60 => ?_) (fun hc60 => ?_)
            · have hs56 := if_t hc60 hs56
              refine WP_skip_seq ?_
              refine WP_seq ?_
              refine WP_block ?_
              refine WP_seq ?_
              refine WP_quiet (by kernel_rfl) (by kernel_rfl) ?_
              refine XL_q rfl (qt_move rfl) rfl rfl ?_
              refine XL_q rfl (qt_move rfl) rfl rfl ?_
              obtain ⟨x61, hx62, hs56⟩ := bind_some hs56
              refine XL_indexH H59.ctx (hp1) hx62 u27 i3 rfl rfl rfl rfl (fun b63 off64 cap65 hv66 => ?_)
              obtain ⟨F67, hat68, hdup69⟩ := H59.at (hp1) hx62 hv66
              refine XL_load_int (k := .i64) u3 rfl hat68 rfl rfl rfl ?_
              refine XL_q rfl (qt_move rfl) rfl rfl ?_
              obtain ⟨x70, hx71, hs56⟩ := bind_some hs56
              refine XL_q rfl (qt_shlO rfl rfl hx71) rfl rfl ?_
              refine XL_q rfl (qt_sub rfl rfl) rfl rfl ?_
              obtain ⟨x72, hx73, hs56⟩ := bind_some hs56
              refine QL_call rfl rfl c70 (fun w' hb => (w_spec_l1In w' G x61 0 (IntKind.wrap .i64 (x70 - 1)) x72 hx73 (H59.grow hb).ctx).mono fun e w'' hK => ⟨hK.1, hK.2.bel⟩) (by rfl) ?_
              refine XL_q rfl (qt_not rfl) rfl rfl ?_
              refine XL_q rfl (qt_move rfl) rfl rfl ?_
              obtain ⟨b74, hg75, hs56⟩ := bind_some hs56
              refine XL_join 16 70 (.bool b74) ?_ (fun md hmd hk => ?_)
              rotate_left
              · obtain ⟨K, rfl⟩ := Md.quiet_of hmd
                rcases btf (!x72) with hc76 | hc76
                · skip
                  refine XL_skip (w_skip rfl hc76) rfl rfl ?_
                  refine XL_skip (w_skip rfl hc76) rfl rfl ?_
                  refine XL_skip (w_skip rfl hc76) rfl rfl ?_
                  refine XL_skip (w_skip rfl hc76) rfl rfl ?_
                  refine XL_skip (w_skip rfl hc76) rfl rfl ?_
                  refine XL_skip (w_skip rfl hc76) rfl rfl ?_
                  refine XL_skip (w_skip rfl hc76) rfl rfl ?_
                  refine XL_skip (w_skip rfl hc76) rfl rfl ?_
                  refine XL_skip (w_skip rfl hc76) rfl rfl ?_
                  refine XL_skip (w_skip rfl hc76) rfl rfl ?_
                  refine XL_skip (w_skip rfl hc76) rfl rfl ?_
                  refine XL_skip (w_skip rfl hc76) rfl rfl ?_
                  refine XL_skip (w_skip rfl hc76) rfl rfl ?_
                  refine XL_skip (w_skip rfl hc76) rfl rfl ?_
                  refine XL_skip (w_skip rfl hc76) rfl rfl ?_
                  refine XL_q rfl (qt_pickT rfl hc76 rfl) rfl rfl ?_
                  exact hk _ (Cov.same (vb (if_t hc76 hg75)) (Cov.fresh rfl (Cov.fresh rfl (Cov.fresh rfl (Cov.fresh rfl (Cov.fresh rfl (Cov.fresh rfl (Cov.fresh rfl (Cov.fresh rfl (Cov.fresh rfl (Cov.fresh rfl (Cov.fresh rfl (Cov.fresh rfl (Cov.fresh rfl (Cov.fresh rfl (Cov.fresh rfl (Cov.refl)))))))))))))))))
                · skip
                  have hg75 := if_f hc76 hg75
                  refine XL_q (w_take rfl hc76) (qt_move rfl) rfl rfl ?_
                  refine XL_q (w_take rfl hc76) (qt_move rfl) rfl rfl ?_
                  obtain ⟨x77, hx78, hg75⟩ := bind_some hg75
                  refine XL_indexH H59.ctx (hp1) hx78 u27 i3 (w_take rfl hc76) rfl rfl rfl (fun b79 off80 cap81 hv82 => ?_)
                  obtain ⟨F83, hat84, hdup85⟩ := H59.at (hp1) hx78 hv82
                  refine XL_load_int (k := .i64) u3 rfl hat84 (w_take rfl hc76) rfl rfl ?_
                  refine XL_q (w_take rfl hc76) (qt_move rfl) rfl rfl ?_
                  obtain ⟨x86, hx87, hg75⟩ := bind_some hg75
                  refine XL_q (w_take rfl hc76) (qt_shrO rfl rfl hx87) rfl rfl ?_
                  refine XL_q (w_take rfl hc76) (qt_rem rfl rfl (by decide)) rfl rfl ?_
                  refine XL_q (w_take rfl hc76) (qt_move rfl) rfl rfl ?_
                  refine XL_q (w_take rfl hc76) (qt_move rfl) rfl rfl ?_
                  obtain ⟨x88, hx89, hg75⟩ := bind_some hg75
                  refine XL_indexH H59.ctx (hp1) hx89 u27 i3 (w_take rfl hc76) rfl rfl rfl (fun b90 off91 cap92 hv93 => ?_)
                  obtain ⟨F94, hat95, hdup96⟩ := H59.at (hp1) hx89 hv93
                  refine XL_load_int (k := .i64) u3 rfl hat95 (w_take rfl hc76) rfl rfl ?_
                  refine XL_q (w_take rfl hc76) (qt_move rfl) rfl rfl ?_
                  obtain ⟨x97, hx98, hg75⟩ := bind_some hg75
                  refine XL_q (w_take rfl hc76) (qt_shrO rfl rfl hx98) rfl rfl ?_
                  refine XL_q (w_take rfl hc76) (qt_rem rfl rfl (by decide)) rfl rfl ?_
                  refine XL_q (w_take rfl hc76) (qt_neq rfl rfl) rfl rfl ?_
                  refine XL_q rfl (qt_pickF rfl hc76 rfl) rfl rfl ?_
                  exact hk _ (Cov.same (vb hg75) (Cov.fresh rfl (Cov.fresh rfl (Cov.fresh rfl (Cov.fresh rfl (Cov.fresh rfl (Cov.fresh rfl (Cov.fresh rfl (Cov.fresh rfl (Cov.fresh rfl (Cov.fresh rfl (Cov.fresh rfl (Cov.fresh rfl (Cov.fresh rfl (Cov.fresh rfl (Cov.fresh rfl (Cov.refl)))))))))))))))))
              refine QL_nil fun a ha w99 hb100 => ?_
              have H101 : Holds (([] : List Res).flatMap Res.own) w w99 [] G := H59.grow hb100
              refine nrm_seq (WP.app ?_ ha)
              refine WP_cond rfl (fun hc102 => ?_) (fun hc102 => ?_)
              · have hs56 := if_t hc102 hs56
                refine WP_seq ?_
                refine WP_region ?_
                refine XL_q rfl (qt_assign rfl) rfl rfl ?_
                refine WL_nil_seq ?_
                refine WP_ret fun a ha => ?_
                obtain rfl := Option.some.inj hs56
                exact ret_block (ret_seq (⟨ret_ne, rfl, ha.sub ⟨rfl, trivial⟩, H101⟩))
              · have hs56 := if_f hc102 hs56
                refine WP_skip fun a ha => ?_
                refine nrm_block (nrm_seq (WP.app ?_ ha))
                refine WP_region ?_
                refine XL_q rfl (qt_move rfl) rfl rfl ?_
                refine XL_q rfl (qt_add rfl rfl) rfl rfl ?_
                refine XL_q rfl (qt_assign rfl) rfl rfl ?_
                refine WL_nil fun a ha => ?_
                obtain rfl := Option.some.inj hs56
                exact ⟨rfl, ha.sub ⟨rfl, rfl, rfl, rfl, trivial⟩, H101⟩
            · have hs56 := if_f hc60 hs56
              refine WP_exit fun a ha => ?_
              obtain rfl := Option.some.inj hs56
              exact exit_seq (⟨exit_ne, rfl, ha.sub ⟨rfl, rfl, rfl, trivial⟩, H59⟩)
          · intro e a53 w103 hO104
            rcases o51 with o51 | o51
            · skip
              obtain ⟨rfl, hO106⟩ := hO104
              obtain ⟨ha, H105⟩ := hO106
              refine exit_block_eq (nrm_block (nrm_seq (WP.app ?_ ha)))
              refine WP_region ?_
              refine XL_q rfl (qt_move rfl) rfl rfl ?_
              refine XL_q rfl (qt_add rfl rfl) rfl rfl ?_
              refine XL_q rfl (qt_assign rfl) rfl rfl ?_
              refine WL_nil fun a ha => ?_
              obtain rfl := Option.some.inj hs14
              exact ⟨rfl, ha.sub ⟨rfl, rfl, rfl, trivial⟩, H105⟩
            · skip
              obtain ⟨p107, rfl⟩ : ∃ z, z = o51 := ⟨o51, rfl⟩
              obtain ⟨rfl, hO109⟩ := hO104
              obtain ⟨ha, H108⟩ := hO109
              obtain rfl := Option.some.inj hs14
              exact ret_block (ret_block (ret_seq (⟨ret_ne, rfl, ha.sub ⟨rfl, trivial⟩, H108⟩)))
      · have hs14 := if_f hc18 hs14
        refine WP_exit fun a ha => ?_
        obtain rfl := Option.some.inj hs14
        exact exit_seq (⟨exit_ne, rfl, ha.sub trivial, H17⟩)
    · intro e a11 w110 hO111
      rcases o9 with o9 | o9
      · skip
        obtain ⟨rfl, hO113⟩ := hO111
        obtain ⟨ha, H112⟩ := hO113
        refine exit_block_eq (nrm_seq (WP.app ?_ ha))
        refine WP_seq ?_
        refine WP_region ?_
        refine XL_q rfl (qt_assign rfl) rfl rfl ?_
        refine WL_nil_seq ?_
        refine WP_ret fun a ha => ?_
        obtain rfl := Option.some.inj h
        exact ret1 rfl ha rfl ⟨rfl, H112⟩
      · skip
        obtain ⟨p114, rfl⟩ : ∃ z, z = o9 := ⟨o9, rfl⟩
        obtain ⟨rfl, hO116⟩ := hO111
        obtain ⟨ha, H115⟩ := hO116
        obtain rfl := Option.some.inj h
        exact ret_block (ret_seq (ret1 rfl ha rfl ⟨rfl, H115⟩))
theorem w_spec_SeatsFirst (w : World) (G : List Res) (p0 : Int) (vp1 : Value) (p1 : List Int) (hp1 : Has G (.int .i64) vp1 p1) (r : (List Int)) (h : spec_SeatsFirstS p0 p1 = some r) (H : Ctx w G) : Calls Tryd.prog 58 #[.int .i64 p0, vp1] w fun e w' => ∃ (v1 : Value), e = .returned (v1) ∧ Holds (([] : List Res).flatMap Res.own) w w' [.sl 3 (.int .i64) v1 r] G := by
  have H : Holds (([] : List Res).flatMap Res.own) w w [] G := Holds.startN H
  refine calls_enter (args := [.int .i64 p0, vp1]) (n := 48) Tryd.func58 rfl rfl rfl ?_
  unfold spec_SeatsFirstS at h
  refine WP_seq ?_
  refine WP_region ?_
  refine XL_q rfl (qt_assign rfl) rfl rfl ?_
  refine WL_nil_seq ?_
  refine WP_seq ?_
  refine WP_region ?_
  refine WL_buildH (t := (.int .i64)) (args := []) (xs := ([] : List Int)) H (BltL.nil) u27 j3 rfl rfl rfl rfl rfl rfl (fun v1 w2 H3 => ?_)
  have H4 : Holds (([] : List Res).flatMap Res.own) w w2 [.sl 3 (.int .i64) v1 ([])] G := H3
  refine XL_q rfl (qt_assign rfl) rfl rfl ?_
  refine WL_nil_seq ?_
  refine WP_seq ?_
  refine WP_seq ?_
  refine WP_region ?_
  refine XL_q rfl (qt_assign rfl) rfl rfl ?_
  refine WL_nil_seq ?_
  refine WP_block ?_
  obtain ⟨o7, ho8, h⟩ := bind_some h
  refine fun a9 ha10 => wp_loop_fix (I := fun s a w2 => match s with | (s5, s6) => ∃ vs5, Fr a 48 [(0, .int .i64 p0), (1, vp1), (5, vs5), (6, .int .i64 s6)] ∧ Holds (([] : List Res).flatMap Res.own) w w2 [.sl 3 (.int .i64) vs5 s5] G) (O := fun o e a w2 => match o with | q0 => e = .exit 0 ∧ ∃ vq0, Fr a 48 [(5, vq0)] ∧ Holds (([] : List Res).flatMap Res.own) w w2 [.sl 3 (.int .i64) vq0 q0] G) ho8 ?_ ?_ ?_
  · exact ⟨v1, ha10.sub ⟨rfl, rfl, rfl, rfl, trivial⟩, H4⟩
  · clear ha10
    intro s o13 a w11 hs12 hI14
    obtain ⟨s5, s6⟩ := s
    obtain ⟨vs5, ha, H15⟩ := hI14
    refine WP.app ?_ ha
    clear ha
    refine WP_seq ?_
    refine WP_seq ?_
    refine WP_still ?_
    refine XL_q rfl (qt_move rfl) rfl rfl ?_
    refine XL_q rfl (qt_move rfl) rfl rfl ?_
    refine XL_q rfl (qt_lss rfl rfl) rfl rfl ?_
    refine XL_q rfl (qt_move rfl) rfl rfl ?_
    obtain ⟨b16, hg17, hs12⟩ := bind_some hs12
    refine XL_join 4 17 (.bool b16) ?_ (fun md hmd hk => ?_)
    rotate_left
    · obtain ⟨K, rfl⟩ := Md.quiet_of hmd
      rcases btf (decide (s6 < p0)) with hc18 | hc18
      · skip
        have hg17 := if_t hc18 hg17
        refine XL_q (w_take rfl hc18) (qt_move rfl) rfl rfl ?_
        refine XL_q (w_take rfl hc18) (qt_move rfl) rfl rfl ?_
        obtain ⟨x19, hx20, hg17⟩ := bind_some hg17
        refine QL_call (w_take rfl hc18) rfl c27 (fun w' hb => (w_spec_QuarrelsValid w' ([.sl 3 (.int .i64) vs5 s5] ++ G) p0 vp1 p1 (hp1.c) x19 hx20 (H15.grow hb).ctx).mono fun e w'' hK => ⟨hK.1, hK.2.bel⟩) (by rfl) ?_
        refine XL_q rfl (qt_pickT rfl hc18 rfl) rfl rfl ?_
        exact hk _ (Cov.same (vb hg17) (Cov.fresh rfl (Cov.fresh rfl (Cov.fresh rfl (Cov.refl)))))
      · skip
        refine XL_skip (w_skip rfl hc18) rfl rfl ?_
        refine XL_skip (w_skip rfl hc18) rfl rfl ?_
        refine XL_skip (w_skip rfl hc18) rfl rfl ?_
        refine XL_q rfl (qt_pickF rfl hc18 rfl) rfl rfl ?_
        exact hk _ (Cov.same (vb (if_f hc18 hg17)) (Cov.fresh rfl (Cov.fresh rfl (Cov.fresh rfl (Cov.refl)))))
    refine QL_nil fun a ha w21 hb22 => ?_
    have H23 : Holds (([] : List Res).flatMap Res.own) w w21 [.sl 3 (.int .i64) vs5 s5] G := H15.grow hb22
    refine nrm_seq (WP.app ?_ ha)
    refine WP_cond rfl (fun hc24 => ?_) (fun hc24 => ?_)
    · have hs12 := if_t hc24 hs12
      refine WP_skip_seq ?_
      refine WP_seq ?_
      refine WP_block ?_
      refine WP_seq ?_
      refine WP_region ?_
      refine XL_q rfl (qt_assign rfl) rfl rfl ?_
      refine WL_nil_seq ?_
      refine WP_seq ?_
      refine WP_seq ?_
      refine WP_region ?_
      refine XL_q rfl (qt_assign rfl) rfl rfl ?_
      refine WL_nil_seq ?_
      refine WP_block ?_
      obtain ⟨o27, ho28, hs12⟩ := bind_some hs12
      refine fun a29 ha30 => wp_loop_fix (I := fun s a w2 => match s with | (s25, s26) => (Fr a 48 [(0, .int .i64 p0), (1, vp1), (5, vs5), (6, .int .i64 s6), (7, .int .i64 s25), (8, .int .i64 s26)] ∧ Holds (([] : List Res).flatMap Res.own) w w2 [.sl 3 (.int .i64) vs5 s5] G)) (O := fun o e a w2 => match o with | q0 => e = .exit 2 ∧ (Fr a 48 [(0, .int .i64 p0), (1, vp1), (5, vs5), (6, .int .i64 s6), (7, .int .i64 q0)] ∧ Holds (([] : List Res).flatMap Res.own) w w2 [.sl 3 (.int .i64) vs5 s5] G)) ho28 ?_ ?_ ?_
      · exact ⟨ha30.sub ⟨rfl, rfl, rfl, rfl, rfl, rfl, trivial⟩, H23⟩
      · clear ha30
        intro s o33 a w31 hs32 hI34
        obtain ⟨s25, s26⟩ := s
        obtain ⟨ha, H35⟩ := hI34
        refine WP.app ?_ ha
        clear ha
        refine WP_seq ?_
        refine WP_seq ?_
        refine WP_region ?_
        refine XL_q rfl (qt_move rfl) rfl rfl ?_
        refine XL_q rfl (qt_move rfl) rfl rfl ?_
        refine XL_q rfl (qt_lss rfl rfl) rfl rfl ?_
        refine WL_nil_seq ?_
        refine WP_cond rfl (fun hc36 => ?_) (fun hc36 => ?_)
        · have hs32 := if_t hc36 hs32
          refine WP_skip_seq ?_
          refine WP_seq ?_
          refine WP_block ?_
          refine WP_seq ?_
          refine WP_region ?_
          refine XL_q rfl (qt_move rfl) rfl rfl ?_
          refine XL_q rfl (qt_move rfl) rfl rfl ?_
          obtain ⟨x37, hx38, hs32⟩ := bind_some hs32
          refine XL_indexH H35.ctx (Has.hd) hx38 u27 i3 rfl rfl rfl rfl (fun b39 off40 cap41 hv42 => ?_)
          obtain ⟨F43, hat44, hdup45⟩ := H35.at (Has.hd) hx38 hv42
          refine XL_load_int (k := .i64) u3 rfl hat44 rfl rfl rfl ?_
          refine XL_q rfl (qt_move rfl) rfl rfl ?_
          refine XL_q rfl (qt_eql rfl rfl) rfl rfl ?_
          refine XL_q rfl (qt_move rfl) rfl rfl ?_
          obtain ⟨b46, hg47, hs32⟩ := bind_some hs32
          refine XL_join 9 40 (.bool b46) ?_ (fun md hmd hk => ?_)
          rotate_left
          · obtain ⟨Q, rfl⟩ := Md.seq_of hmd
            rcases btf (x37 == s25) with hc48 | hc48
            · skip
              have hg47 := if_t hc48 hg47
              refine XL_q (w_take rfl hc48) (qt_move rfl) rfl rfl ?_
              refine XL_q (w_take rfl hc48) (qt_move rfl) rfl rfl ?_
              obtain ⟨x49, hx50, hg47⟩ := bind_some hg47
              refine XL_indexH H35.ctx (hp1.c) hx50 u27 i3 (w_take rfl hc48) rfl rfl rfl (fun b51 off52 cap53 hv54 => ?_)
              obtain ⟨F55, hat56, hdup57⟩ := H35.at (hp1.c) hx50 hv54
              refine XL_load_int (k := .i64) u3 rfl hat56 (w_take rfl hc48) rfl rfl ?_
              refine XL_q (w_take rfl hc48) (qt_move rfl) rfl rfl ?_
              obtain ⟨x58, hx59, hg47⟩ := bind_some hg47
              refine XL_q (w_take rfl hc48) (qt_shrO rfl rfl hx59) rfl rfl ?_
              refine XL_q (w_take rfl hc48) (qt_rem rfl rfl (by decide)) rfl rfl ?_
              refine XL_q (w_take rfl hc48) (qt_eql rfl rfl) rfl rfl ?_
              refine XL_q rfl (qt_pickT rfl hc48 rfl) rfl rfl ?_
              exact hk _ (Cov.same (vb hg47) (Cov.fresh rfl (Cov.fresh rfl (Cov.fresh rfl (Cov.fresh rfl (Cov.fresh rfl (Cov.fresh rfl (Cov.fresh rfl (Cov.fresh rfl (Cov.refl))))))))))
            · skip
              refine XL_skip (w_skip rfl hc48) rfl rfl ?_
              refine XL_skip (w_skip rfl hc48) rfl rfl ?_
              refine XL_skip (w_skip rfl hc48) rfl rfl ?_
              refine XL_skip (w_skip rfl hc48) rfl rfl ?_
              refine XL_skip (w_skip rfl hc48) rfl rfl ?_
              refine XL_skip (w_skip rfl hc48) rfl rfl ?_
              refine XL_skip (w_skip rfl hc48) rfl rfl ?_
              refine XL_skip (w_skip rfl hc48) rfl rfl ?_
              refine XL_q rfl (qt_pickF rfl hc48 rfl) rfl rfl ?_
              exact hk _ (Cov.same (vb (if_f hc48 hg47)) (Cov.fresh rfl (Cov.fresh rfl (Cov.fresh rfl (Cov.fresh rfl (Cov.fresh rfl (Cov.fresh rfl (Cov.fresh rfl (Cov.fresh rfl (Cov.refl))))))))))
          refine WL_nil_seq ?_
          refine WP_cond rfl (fun hc60 => ?_) (fun hc60 => ?_)
          · have hs32 := if_t hc60 hs32
            refine WP_seq ?_
            refine WP_region ?_
            refine XL_q rfl (qt_move rfl) rfl rfl ?_
            refine XL_q rfl (qt_add rfl rfl) rfl rfl ?_
            refine XL_q rfl (qt_assign rfl) rfl rfl ?_
            refine WL_nil_seq ?_
            refine WP_region ?_
            refine XL_q rfl (qt_assign rfl) rfl rfl ?_
            refine WL_nil fun a ha => ?_
            refine nrm_block (nrm_seq (WP.app ?_ ha))
            refine WP_region ?_
            refine XL_q rfl (qt_move rfl) rfl rfl ?_
            refine XL_q rfl (qt_add rfl rfl) rfl rfl ?_
            refine XL_q rfl (qt_assign rfl) rfl rfl ?_
            refine WL_nil fun a ha => ?_
            obtain rfl := Option.some.inj hs32
            exact ⟨rfl, ha.sub ⟨rfl, rfl, rfl, rfl, rfl, rfl, trivial⟩, H35⟩
          · have hs32 := if_f hc60 hs32
            refine WP_skip fun a ha => ?_
            refine nrm_block (nrm_seq (WP.app ?_ ha))
            refine WP_region ?_
            refine XL_q rfl (qt_move rfl) rfl rfl ?_
            refine XL_q rfl (qt_add rfl rfl) rfl rfl ?_
            refine XL_q rfl (qt_assign rfl) rfl rfl ?_
            refine WL_nil fun a ha => ?_
            obtain rfl := Option.some.inj hs32
            exact ⟨rfl, ha.sub ⟨rfl, rfl, rfl, rfl, rfl, rfl, trivial⟩, H35⟩
        · have hs32 := if_f hc36 hs32
          refine WP_exit fun a ha => ?_
          obtain rfl := Option.some.inj hs32
          exact exit_seq (⟨exit_ne, rfl, ha.sub ⟨rfl, rfl, rfl, rfl, rfl, trivial⟩, H35⟩)
      · intro e a29 w61 hO62
        obtain ⟨p63, rfl⟩ : ∃ z, z = o27 := ⟨o27, rfl⟩
        obtain ⟨rfl, hO65⟩ := hO62
        obtain ⟨ha, H64⟩ := hO65
        refine exit_block_eq (nrm_seq (WP.app ?_ ha))
        refine WP_region ?_
        refine XL_q rfl (qt_move rfl) rfl rfl ?_
        refine XL_q rfl (qt_move rfl) rfl rfl ?_
        refine WL_buildH (t := (.int .i64)) (args := [.tmp 44]) (xs := ([p63] : List Int)) H64 (BltL.cons (Blt.int) rfl (BltL.nil)) u27 j3 rfl rfl rfl rfl rfl rfl (fun v66 w67 H68 => ?_)
        have H69 : Holds (([] : List Res).flatMap Res.own) w w67 [.sl 3 (.int .i64) v66 ([p63]), .sl 3 (.int .i64) vs5 s5] G := H68
        have H70 : Holds (([] : List Res).flatMap Res.own) w w67 [.sl 3 (.int .i64) vs5 s5, .sl 3 (.int .i64) v66 ([p63])] G := H69.pull 1
        obtain ⟨x71, hx72, hs12⟩ := bind_some hs12
        refine WL_appendH H70 (Has.c (Has.hd)) hx72 u27 j3 rfl rfl rfl rfl rfl rfl (fun v73 w74 H75 => ?_)
        have H76 : Holds (([] : List Res).flatMap Res.own) w w74 [.sl 3 (.int .i64) v73 x71, .sl 3 (.int .i64) v66 ([p63])] G := H75
        refine XL_q rfl (qt_assign rfl) rfl rfl ?_
        refine WL_nil fun a ha => ?_
        refine nrm_block (nrm_seq (WP.app ?_ ha))
        refine WP_region ?_
        refine XL_q rfl (qt_move rfl) rfl rfl ?_
        refine XL_q rfl (qt_add rfl rfl) rfl rfl ?_
        refine XL_q rfl (qt_assign rfl) rfl rfl ?_
        refine WL_nil fun a ha => ?_
        obtain rfl := Option.some.inj hs12
        have H77 : Holds (([] : List Res).flatMap Res.own) w w74 [.sl 3 (.int .i64) v73 x71] G := (H76.cut 1)
        exact ⟨rfl, v73, ha.sub ⟨rfl, rfl, rfl, rfl, trivial⟩, H77⟩
    · have hs12 := if_f hc24 hs12
      refine WP_exit fun a ha => ?_
      obtain rfl := Option.some.inj hs12
      exact exit_seq (⟨exit_ne, rfl, vs5, ha.sub ⟨rfl, trivial⟩, H23⟩)
  · intro e a9 w78 hO79
    obtain ⟨p80, rfl⟩ : ∃ z, z = o7 := ⟨o7, rfl⟩
    obtain ⟨rfl, hO82⟩ := hO79
    obtain ⟨vp80, ha, H81⟩ := hO82
    refine exit_block_eq (nrm_seq (WP.app ?_ ha))
    refine WP_seq ?_
    refine WP_region ?_
    refine XL_q rfl (qt_move rfl) rfl rfl ?_
    refine XL_q rfl (qt_assign rfl) rfl rfl ?_
    refine WL_nil_seq ?_
    refine WP_ret fun a ha => ?_
    obtain rfl := Option.some.inj h
    exact ret1 rfl ha rfl ⟨vp80, rfl, H81⟩
theorem w_spec_l20Seated (w : World) (G : List Res) (bp0 : Nat) (vp0_0 : Value) (p0_0 : List Int) (hp0_0 : Has G (.int .u8) vp0_0 p0_0) (p0_1 : Int) (r : Int × Int × (List Int) × (List Int)) (h : spec_l20SeatedS p0_0 p0_1 = some r) (H : Ctx w ([.bx bp0 66 [vp0_0, .int .i64 p0_1]] ++ G)) : Calls Tryd.prog 80 #[.pointer (some ⟨bp0, 0, none⟩)] w fun e w' => ∃ (v1 : Value) (v2 : Value), e = .returned (.tuple #[.int .i64 r.2.1, v1, v2]) ∧ Holds (([.bx bp0 66 [vp0_0, .int .i64 p0_1]] : List Res).flatMap Res.own) w w' [.sl 3 (.int .i64) v1 r.2.2.1, .sl 3 (.int .i64) v2 r.2.2.2, .bx bp0 66 [vp0_0, .int .i64 r.1]] G := by
  have H : Holds (([.bx bp0 66 [vp0_0, .int .i64 p0_1]] : List Res).flatMap Res.own) w w [.bx bp0 66 [vp0_0, .int .i64 p0_1]] G := Holds.startN H
  refine calls_enter (args := [.pointer (some ⟨bp0, 0, none⟩)]) (n := 41) Tryd.func80 rfl rfl rfl ?_
  unfold spec_l20SeatedS at h
  refine WP_seq ?_
  refine WP_region ?_
  refine XL_q rfl (qt_assign rfl) rfl rfl ?_
  refine XL_q rfl (qt_assign rfl) rfl rfl ?_
  refine XL_q rfl (qt_assign rfl) rfl rfl ?_
  refine WL_nil_seq ?_
  refine WP_seq ?_
  refine WP_region ?_
  refine XL_q rfl (qt_move rfl) rfl rfl ?_
  obtain ⟨x1, hx2, h⟩ := bind_some h
  refine WL_call rfl rfl c71 (w_spec_l20Quarrels w G bp0 vp0_0 p0_0 (hp0_0) p0_1 9 x1 hx2 H.ctx) (by rfl) ?_
  rintro _ w3 ⟨v5, rfl, H4⟩; refine ⟨_, rfl, ?_⟩
  have H6 : Holds (([.bx bp0 66 [vp0_0, .int .i64 p0_1]] : List Res).flatMap Res.own) w w3 [.sl 3 (.int .i64) v5 x1.2.2, .bx bp0 66 [vp0_0, .int .i64 x1.1]] G := H.calledN (Rs := [_]) H4
  refine XL_q rfl (qt_move rfl) rfl rfl ?_
  refine XL_q rfl (qt_extract rfl rfl) rfl rfl ?_
  refine XL_q rfl (qt_extract rfl rfl) rfl rfl ?_
  refine XL_q rfl (qt_assign rfl) rfl rfl ?_
  refine XL_q rfl (qt_assign rfl) rfl rfl ?_
  refine WL_nil_seq ?_
  refine WP_seq ?_
  refine WP_region ?_
  refine XL_q rfl (qt_move rfl) rfl rfl ?_
  refine XL_q rfl (qt_move rfl) rfl rfl ?_
  obtain ⟨x7, hx8, h⟩ := bind_some h
  refine WL_call rfl rfl c58 (w_spec_SeatsFirst w3 ([.sl 3 (.int .i64) v5 x1.2.2, .bx bp0 66 [vp0_0, .int .i64 x1.1]] ++ G) x1.2.1 v5 x1.2.2 (Has.hd) x7 hx8 H6.ctx) (by rfl) ?_
  rintro _ w9 ⟨v11, rfl, H10⟩; refine ⟨_, rfl, ?_⟩
  have H12 : Holds (([.bx bp0 66 [vp0_0, .int .i64 p0_1]] : List Res).flatMap Res.own) w w9 [.sl 3 (.int .i64) v11 x7, .sl 3 (.int .i64) v5 x1.2.2, .bx bp0 66 [vp0_0, .int .i64 x1.1]] G := H6.calledN (Rs := []) H10
  refine XL_q rfl (qt_assign rfl) rfl rfl ?_
  refine WL_nil_seq ?_
  refine WP_seq ?_
  refine WP_seq ?_
  refine WP_region ?_
  refine XL_q rfl (qt_assign rfl) rfl rfl ?_
  refine WL_nil_seq ?_
  refine WP_block ?_
  obtain ⟨o16, ho17, h⟩ := bind_some h
  have H20 : Holds (([.bx bp0 66 [vp0_0, .int .i64 p0_1]] : List Res).flatMap Res.own) w w9 [.bx bp0 66 [vp0_0, .int .i64 x1.1], .sl 3 (.int .i64) v5 x1.2.2, .sl 3 (.int .i64) v11 x7] G := ((H12.pull 1).pull 2)
  refine fun a18 ha19 => wp_loop_fix (I := fun s a w2 => match s with | (s13, s14, s15) => ∃ vs13, Fr a 41 [(0, .pointer (some ⟨bp0, 0, none⟩)), (5, .int .i64 x1.2.1), (6, v5), (7, vs13), (8, .int .i64 s14)] ∧ Holds (([.bx bp0 66 [vp0_0, .int .i64 p0_1]] : List Res).flatMap Res.own) w w2 [.bx bp0 66 [vp0_0, .int .i64 s15], .sl 3 (.int .i64) v5 x1.2.2, .sl 3 (.int .i64) vs13 s13] G) (O := fun o e a w2 => match o with | (q0, q1) => e = .exit 0 ∧ ∃ vq0, Fr a 41 [(0, .pointer (some ⟨bp0, 0, none⟩)), (5, .int .i64 x1.2.1), (6, v5), (7, vq0)] ∧ Holds (([.bx bp0 66 [vp0_0, .int .i64 p0_1]] : List Res).flatMap Res.own) w w2 [.bx bp0 66 [vp0_0, .int .i64 q1], .sl 3 (.int .i64) v5 x1.2.2, .sl 3 (.int .i64) vq0 q0] G) ho17 ?_ ?_ ?_
  · exact ⟨v11, ha19.sub ⟨rfl, rfl, rfl, rfl, rfl, trivial⟩, H20⟩
  · clear ha19
    intro s o23 a w21 hs22 hI24
    obtain ⟨s13, s14, s15⟩ := s
    obtain ⟨vs13, ha, H25⟩ := hI24
    refine WP.app ?_ ha
    clear ha
    refine WP_seq ?_
    refine WP_seq ?_
    refine WP_region ?_
    refine XL_q rfl (qt_move rfl) rfl rfl ?_
    refine XL_q rfl (qt_move rfl) rfl rfl ?_
    refine XL_lenH H25.ctx (t := (.int .i64)) (Has.c (Has.c (Has.hd))) u27 rfl rfl rfl ?_
    refine XL_q rfl (qt_lss rfl rfl) rfl rfl ?_
    refine WL_nil_seq ?_
    refine WP_cond rfl (fun hc26 => ?_) (fun hc26 => ?_)
    · have hs22 := if_t hc26 hs22
      refine WP_skip_seq ?_
      refine WP_seq ?_
      refine WP_block ?_
      refine WP_seq ?_
      refine WP_region ?_
      refine XL_q rfl (qt_move rfl) rfl rfl ?_
      obtain ⟨x27, hx28, hs22⟩ := bind_some hs22
      refine WL_call rfl rfl c63 (w_spec_l20Rd__pick w21 ([.sl 3 (.int .i64) v5 x1.2.2, .sl 3 (.int .i64) vs13 s13] ++ G) bp0 vp0_0 p0_0 (hp0_0.c.c) s15 4 x27 hx28 H25.ctx) (by rfl) ?_
      rintro _ w29 ⟨rfl, H30⟩; refine ⟨_, rfl, ?_⟩
      have H31 : Holds (([.bx bp0 66 [vp0_0, .int .i64 p0_1]] : List Res).flatMap Res.own) w w29 [.bx bp0 66 [vp0_0, .int .i64 x27.1], .sl 3 (.int .i64) v5 x1.2.2, .sl 3 (.int .i64) vs13 s13] G := H25.calledN (Rs := [_]) H30
      refine XL_q rfl (qt_eql rfl rfl) rfl rfl ?_
      refine WL_nil_seq ?_
      refine WP_cond rfl (fun hc32 => ?_) (fun hc32 => ?_)
      · have hs22 := if_t hc32 hs22
        refine WP_region ?_
        refine XL_q rfl (qt_move rfl) rfl rfl ?_
        refine XL_q rfl (qt_move rfl) rfl rfl ?_
        refine XL_q rfl (qt_move rfl) rfl rfl ?_
        refine XL_q rfl (qt_move rfl) rfl rfl ?_
        refine XL_lenH H31.ctx (t := (.int .i64)) (Has.c (Has.c (Has.hd))) u27 rfl rfl rfl ?_
        refine XL_q rfl (qt_add rfl rfl) rfl rfl ?_
        obtain ⟨x33, hx34, hs22⟩ := bind_some hs22
        refine WL_call rfl rfl c63 (w_spec_l20Rd__pick w29 ([.sl 3 (.int .i64) v5 x1.2.2, .sl 3 (.int .i64) vs13 s13] ++ G) bp0 vp0_0 p0_0 (hp0_0.c.c) x27.1 (IntKind.wrap .i64 ((List.length s13 : Int) + 1)) x33 hx34 H31.ctx) (by rfl) ?_
        rintro _ w35 ⟨rfl, H36⟩; refine ⟨_, rfl, ?_⟩
        have H37 : Holds (([.bx bp0 66 [vp0_0, .int .i64 p0_1]] : List Res).flatMap Res.own) w w35 [.bx bp0 66 [vp0_0, .int .i64 x33.1], .sl 3 (.int .i64) v5 x1.2.2, .sl 3 (.int .i64) vs13 s13] G := H31.calledN (Rs := [_]) H36
        refine XL_q rfl (qt_move rfl) rfl rfl ?_
        obtain ⟨x38, hx39, hs22⟩ := bind_some hs22
        refine WL_call rfl rfl c63 (w_spec_l20Rd__pick w35 ([.sl 3 (.int .i64) v5 x1.2.2, .sl 3 (.int .i64) vs13 s13] ++ G) bp0 vp0_0 p0_0 (hp0_0.c.c) x33.1 20 x38 hx39 H37.ctx) (by rfl) ?_
        rintro _ w40 ⟨rfl, H41⟩; refine ⟨_, rfl, ?_⟩
        have H42 : Holds (([.bx bp0 66 [vp0_0, .int .i64 p0_1]] : List Res).flatMap Res.own) w w40 [.bx bp0 66 [vp0_0, .int .i64 x38.1], .sl 3 (.int .i64) v5 x1.2.2, .sl 3 (.int .i64) vs13 s13] G := H37.calledN (Rs := [_]) H41
        refine XL_q rfl (qt_quo rfl rfl (by decide)) rfl rfl ?_
        refine XL_q rfl (qt_sub rfl rfl) rfl rfl ?_
        obtain ⟨x43, hx44, hs22⟩ := bind_some hs22
        refine XL_indexH H42.ctx (Has.c (Has.c (Has.hd))) hx44 u27 i3 rfl rfl rfl rfl (fun b45 off46 cap47 hv48 => ?_)
        have H49 : Holds (([.bx bp0 66 [vp0_0, .int .i64 p0_1]] : List Res).flatMap Res.own) w w40 [.sl 3 (.int .i64) vs13 s13, .bx bp0 66 [vp0_0, .int .i64 x38.1], .sl 3 (.int .i64) v5 x1.2.2] G := H42.pull 2
        refine WL_storeH (fo := 0) (cs' := [.int .i64 (IntKind.wrap .i64 (x33.2 - (IntKind.wrap .i64 (Int.tdiv x38.2 19))))]) H49 hx44 hv48 (Upd.whole (Blt.int)) rfl il3 rfl rfl rfl rfl (fun w50 H51 => ?_)
        have H52 : Holds (([.bx bp0 66 [vp0_0, .int .i64 p0_1]] : List Res).flatMap Res.own) w w50 [.sl 3 (.int .i64) vs13 (List.set s13 (Int.toNat s14) (IntKind.wrap .i64 (x33.2 - (IntKind.wrap .i64 (Int.tdiv x38.2 19))))), .bx bp0 66 [vp0_0, .int .i64 x38.1], .sl 3 (.int .i64) v5 x1.2.2] G := H51
        refine WL_nil fun a ha => ?_
        refine nrm_block (nrm_seq (WP.app ?_ ha))
        refine WP_region ?_
        refine XL_q rfl (qt_move rfl) rfl rfl ?_
        refine XL_q rfl (qt_add rfl rfl) rfl rfl ?_
        refine XL_q rfl (qt_assign rfl) rfl rfl ?_
        refine WL_nil fun a ha => ?_
        obtain rfl := Option.some.inj hs22
        have H53 : Holds (([.bx bp0 66 [vp0_0, .int .i64 p0_1]] : List Res).flatMap Res.own) w w50 [.bx bp0 66 [vp0_0, .int .i64 x38.1], .sl 3 (.int .i64) v5 x1.2.2, .sl 3 (.int .i64) vs13 (List.set s13 (Int.toNat s14) (IntKind.wrap .i64 (x33.2 - (IntKind.wrap .i64 (Int.tdiv x38.2 19)))))] G := ((H52.pull 2).pull 2)
        exact ⟨rfl, vs13, ha.sub ⟨rfl, rfl, rfl, rfl, rfl, trivial⟩, H53⟩
      · have hs22 := if_f hc32 hs22
        refine WP_skip fun a ha => ?_
        refine nrm_block (nrm_seq (WP.app ?_ ha))
        refine WP_region ?_
        refine XL_q rfl (qt_move rfl) rfl rfl ?_
        refine XL_q rfl (qt_add rfl rfl) rfl rfl ?_
        refine XL_q rfl (qt_assign rfl) rfl rfl ?_
        refine WL_nil fun a ha => ?_
        obtain rfl := Option.some.inj hs22
        have H54 : Holds (([.bx bp0 66 [vp0_0, .int .i64 p0_1]] : List Res).flatMap Res.own) w w29 [.bx bp0 66 [vp0_0, .int .i64 x27.1], .sl 3 (.int .i64) v5 x1.2.2, .sl 3 (.int .i64) vs13 s13] G := (((H31.pull 2).pull 2).pull 2)
        exact ⟨rfl, vs13, ha.sub ⟨rfl, rfl, rfl, rfl, rfl, trivial⟩, H54⟩
    · have hs22 := if_f hc26 hs22
      refine WP_exit fun a ha => ?_
      obtain rfl := Option.some.inj hs22
      have H55 : Holds (([.bx bp0 66 [vp0_0, .int .i64 p0_1]] : List Res).flatMap Res.own) w w21 [.bx bp0 66 [vp0_0, .int .i64 s15], .sl 3 (.int .i64) v5 x1.2.2, .sl 3 (.int .i64) vs13 s13] G := (((H25.pull 2).pull 2).pull 2)
      exact exit_seq (⟨exit_ne, rfl, vs13, ha.sub ⟨rfl, rfl, rfl, rfl, trivial⟩, H55⟩)
  · intro e a18 w56 hO57
    obtain ⟨p58, p59⟩ := o16
    obtain ⟨rfl, hO61⟩ := hO57
    obtain ⟨vp58, ha, H60⟩ := hO61
    refine exit_block_eq (nrm_seq (WP.app ?_ ha))
    refine WP_seq ?_
    refine WP_region ?_
    refine XL_q rfl (qt_move rfl) rfl rfl ?_
    refine XL_q rfl (qt_move rfl) rfl rfl ?_
    refine XL_q rfl (qt_move rfl) rfl rfl ?_
    refine XL_q rfl (qt_assign rfl) rfl rfl ?_
    refine XL_q rfl (qt_assign rfl) rfl rfl ?_
    refine XL_q rfl (qt_assign rfl) rfl rfl ?_
    refine WL_nil_seq ?_
    refine WP_ret fun a ha => ?_
    obtain rfl := Option.some.inj h
    have H62 : Holds (([.bx bp0 66 [vp0_0, .int .i64 p0_1]] : List Res).flatMap Res.own) w w56 [.sl 3 (.int .i64) v5 x1.2.2, .sl 3 (.int .i64) vp58 p58, .bx bp0 66 [vp0_0, .int .i64 p59]] G := ((H60.pull 2).pull 2)
    exact ret3 rfl ha rfl rfl rfl ⟨v5, vp58, rfl, H62⟩
theorem w_spec_DrawSeatsMany (w : World) (G : List Res) (vp0 : Value) (p0 : List Int) (hp0 : HasRo G (.int .u8) vp0 p0) (r : (List Int)) (h : spec_DrawSeatsManyS p0 = some r) (H : Ctx w G) : Calls Tryd.prog 53 #[vp0] w fun e w' => ∃ (v1 : Value), e = .returned (v1) ∧ Holds (([] : List Res).flatMap Res.own) w w' [.sl 3 (.int .i64) v1 r] G := by
  have H : Holds (([] : List Res).flatMap Res.own) w w [] G := Holds.startN H
  refine calls_enter (args := [vp0]) (n := 14) Tryd.func53 rfl rfl rfl ?_
  unfold spec_DrawSeatsManyS at h
  refine WP_seq ?_
  refine WP_region ?_
  refine XL_q rfl (qt_assign rfl) rfl rfl ?_
  refine WL_nil_seq ?_
  refine WP_seq ?_
  refine WP_region ?_
  refine XL_q rfl (qt_move rfl) rfl rfl ?_
  obtain ⟨x1, hx2, h⟩ := bind_some h
  refine WL_call rfl rfl c62 (w_spec_l20Open w G vp0 p0 (hp0) x1 hx2 H.ctx) (by rfl) ?_
  rintro _ w3 ⟨v5, b6, rfl, H4⟩; refine ⟨_, rfl, ?_⟩
  have H7 : Holds (([] : List Res).flatMap Res.own) w w3 [.ro (.int .u8) v5 x1.1, .bx b6 66 [v5, .int .i64 x1.2]] G := H.calledN (Rs := []) H4
  have H10 : Holds (([] : List Res).flatMap Res.own) w w3 [.bx b6 66 [v5, .int .i64 x1.2], .ro (.int .u8) v5 x1.1] G := H7.pull 1
  obtain ⟨x8, hx9, h⟩ := bind_some h
  refine WL_call rfl rfl c80 (w_spec_l20Seated w3 ([.ro (.int .u8) v5 x1.1] ++ G) b6 v5 x1.1 (HasRo.has (HasRo.hd)) x1.2 x8 hx9 H10.ctx) (by rfl) ?_
  rintro _ w11 ⟨v13, v14, rfl, H12⟩; refine ⟨_, rfl, ?_⟩
  have H15 : Holds (([] : List Res).flatMap Res.own) w w11 [.sl 3 (.int .i64) v13 x8.2.2.1, .sl 3 (.int .i64) v14 x8.2.2.2, .bx b6 66 [v5, .int .i64 x8.1], .ro (.int .u8) v5 x1.1] G := H10.calledN (Rs := [_]) H12
  refine XL_q rfl (qt_move rfl) rfl rfl ?_
  refine XL_q rfl (qt_extract rfl rfl) rfl rfl ?_
  refine XL_q rfl (qt_extract rfl rfl) rfl rfl ?_
  refine XL_q rfl (qt_extract rfl rfl) rfl rfl ?_
  refine XL_q rfl (qt_assign rfl) rfl rfl ?_
  refine XL_q rfl (qt_assign rfl) rfl rfl ?_
  refine XL_q rfl (qt_assign rfl) rfl rfl ?_
  refine WL_nil_seq ?_
  refine WP_seq ?_
  refine WP_region ?_
  refine XL_q rfl (qt_move rfl) rfl rfl ?_
  refine XL_q rfl (qt_assign rfl) rfl rfl ?_
  refine WL_nil_seq ?_
  refine WP_ret fun a ha => ?_
  obtain rfl := Option.some.inj h
  have H16 : Holds (([] : List Res).flatMap Res.own) w w11 [.sl 3 (.int .i64) v14 x8.2.2.2] G := (((H15.cut 0).cut 1).cut 1)
  exact ret1 rfl ha rfl ⟨v14, rfl, H16⟩
theorem w_spec_l1Has (w : World) (G : List Res) (vp0 : Value) (p0 : List Int) (hp0 : Has G (.int .i64) vp0 p0) (p1 : Int) (r : Bool) (h : spec_l1HasS p0 p1 = some r) (H : Ctx w G) : Calls Tryd.prog 84 #[vp0, .int .i64 p1] w fun e w' => e = .returned (.bool r) ∧ Holds (([] : List Res).flatMap Res.own) w w' [] G := by
  have H : Holds (([] : List Res).flatMap Res.own) w w [] G := Holds.startN H
  refine calls_enter (args := [vp0, .int .i64 p1]) (n := 18) Tryd.func84 rfl rfl rfl ?_
  unfold spec_l1HasS at h
  refine WP_seq ?_
  refine WP_region ?_
  refine XL_q rfl (qt_assign rfl) rfl rfl ?_
  refine WL_nil_seq ?_
  refine WP_seq ?_
  refine WP_seq ?_
  refine WP_region ?_
  refine XL_q rfl (qt_assign rfl) rfl rfl ?_
  refine WL_nil_seq ?_
  refine WP_block ?_
  obtain ⟨o2, ho3, h⟩ := bind_some h
  refine fun a4 ha5 => wp_loop_fix (I := fun s a w2 => match s with | s1 => (Fr a 18 [(0, vp0), (1, .int .i64 p1), (5, .int .i64 s1)] ∧ Holds (([] : List Res).flatMap Res.own) w w2 [] G)) (O := fun o e a w2 => match o with | .inl _ => e = .exit 0 ∧ (Fr a 18 [] ∧ Holds (([] : List Res).flatMap Res.own) w w2 [] G) | .inr q0 => e = .ret ∧ (Fr a 18 [(4, .bool q0)] ∧ Holds (([] : List Res).flatMap Res.own) w w2 [] G)) ho3 ?_ ?_ ?_
  · exact ⟨ha5.sub ⟨rfl, rfl, rfl, trivial⟩, H⟩
  · clear ha5
    intro s o8 a w6 hs7 hI9
    obtain ⟨s1, rfl⟩ : ∃ z, z = s := ⟨s, rfl⟩
    obtain ⟨ha, H10⟩ := hI9
    refine WP.app ?_ ha
    clear ha
    refine WP_seq ?_
    refine WP_seq ?_
    refine WP_region ?_
    refine XL_q rfl (qt_move rfl) rfl rfl ?_
    refine XL_q rfl (qt_move rfl) rfl rfl ?_
    refine XL_lenH H10.ctx (t := (.int .i64)) (hp0) u27 rfl rfl rfl ?_
    refine XL_q rfl (qt_lss rfl rfl) rfl rfl ?_
    refine WL_nil_seq ?_
    refine WP_cond rfl (fun hc11 => ?_) (fun hc11 => ?_)
    · have hs7 := if_t hc11 hs7
      refine WP_skip_seq ?_
      refine WP_seq ?_
      refine WP_block ?_
      refine WP_seq ?_
      refine WP_region ?_
      refine XL_q rfl (qt_move rfl) rfl rfl ?_
      refine XL_q rfl (qt_move rfl) rfl rfl ?_
      obtain ⟨x12, hx13, hs7⟩ := bind_some hs7
      refine XL_indexH H10.ctx (hp0) hx13 u27 i3 rfl rfl rfl rfl (fun b14 off15 cap16 hv17 => ?_)
      obtain ⟨F18, hat19, hdup20⟩ := H10.at (hp0) hx13 hv17
      refine XL_load_int (k := .i64) u3 rfl hat19 rfl rfl rfl ?_
      refine XL_q rfl (qt_move rfl) rfl rfl ?_
      refine XL_q rfl (qt_eql rfl rfl) rfl rfl ?_
      refine WL_nil_seq ?_
      refine WP_cond rfl (fun hc21 => ?_) (fun hc21 => ?_)
      · have hs7 := if_t hc21 hs7
        refine WP_seq ?_
        refine WP_region ?_
        refine XL_q rfl (qt_assign rfl) rfl rfl ?_
        refine WL_nil_seq ?_
        refine WP_ret fun a ha => ?_
        obtain rfl := Option.some.inj hs7
        exact ret_block (ret_seq (⟨ret_ne, rfl, ha.sub ⟨rfl, trivial⟩, H10⟩))
      · have hs7 := if_f hc21 hs7
        refine WP_skip fun a ha => ?_
        refine nrm_block (nrm_seq (WP.app ?_ ha))
        refine WP_region ?_
        refine XL_q rfl (qt_move rfl) rfl rfl ?_
        refine XL_q rfl (qt_add rfl rfl) rfl rfl ?_
        refine XL_q rfl (qt_assign rfl) rfl rfl ?_
        refine WL_nil fun a ha => ?_
        obtain rfl := Option.some.inj hs7
        exact ⟨rfl, ha.sub ⟨rfl, rfl, rfl, trivial⟩, H10⟩
    · have hs7 := if_f hc11 hs7
      refine WP_exit fun a ha => ?_
      obtain rfl := Option.some.inj hs7
      exact exit_seq (⟨exit_ne, rfl, ha.sub trivial, H10⟩)
  · intro e a4 w22 hO23
    rcases o2 with o2 | o2
    · skip
      obtain ⟨rfl, hO25⟩ := hO23
      obtain ⟨ha, H24⟩ := hO25
      refine exit_block_eq (nrm_seq (WP.app ?_ ha))
      refine WP_seq ?_
      refine WP_region ?_
      refine XL_q rfl (qt_assign rfl) rfl rfl ?_
      refine WL_nil_seq ?_
      refine WP_ret fun a ha => ?_
      obtain rfl := Option.some.inj h
      exact ret1 rfl ha rfl ⟨rfl, H24⟩
    · skip
      obtain ⟨p26, rfl⟩ : ∃ z, z = o2 := ⟨o2, rfl⟩
      obtain ⟨rfl, hO28⟩ := hO23
      obtain ⟨ha, H27⟩ := hO28
      obtain rfl := Option.some.inj h
      exact ret_block (ret_seq (ret1 rfl ha rfl ⟨rfl, H27⟩))
theorem w_spec_SeatsMany (w : World) (G : List Res) (vp0 : Value) (p0 : List Int) (hp0 : Has G (.int .i64) vp0 p0) (r : Int) (h : spec_SeatsManyS p0 = some r) (H : Ctx w G) : Calls Tryd.prog 55 #[vp0] w fun e w' => e = .returned (.int .i64 r) ∧ Holds (([] : List Res).flatMap Res.own) w w' [] G := by
  have H : Holds (([] : List Res).flatMap Res.own) w w [] G := Holds.startN H
  refine calls_enter (args := [vp0]) (n := 23) Tryd.func55 rfl rfl rfl ?_
  unfold spec_SeatsManyS at h
  refine WP_seq ?_
  refine WP_region ?_
  refine XL_q rfl (qt_assign rfl) rfl rfl ?_
  refine WL_nil_seq ?_
  refine WP_seq ?_
  refine WP_region ?_
  refine XL_q rfl (qt_assign rfl) rfl rfl ?_
  refine WL_nil_seq ?_
  refine WP_seq ?_
  refine WP_seq ?_
  refine WP_region ?_
  refine XL_q rfl (qt_assign rfl) rfl rfl ?_
  refine WL_nil_seq ?_
  refine WP_block ?_
  obtain ⟨o3, ho4, h⟩ := bind_some h
  refine fun a5 ha6 => wp_loop_fix (I := fun s a w2 => match s with | (s1, s2) => (Fr a 23 [(0, vp0), (3, .int .i64 s1), (4, .int .i64 s2)] ∧ Holds (([] : List Res).flatMap Res.own) w w2 [] G)) (O := fun o e a w2 => match o with | q0 => e = .exit 0 ∧ (Fr a 23 [(3, .int .i64 q0)] ∧ Holds (([] : List Res).flatMap Res.own) w w2 [] G)) ho4 ?_ ?_ ?_
  · exact ⟨ha6.sub ⟨rfl, rfl, rfl, trivial⟩, H⟩
  · clear ha6
    intro s o9 a w7 hs8 hI10
    obtain ⟨s1, s2⟩ := s
    obtain ⟨ha, H11⟩ := hI10
    refine WP.app ?_ ha
    clear ha
    refine WP_seq ?_
    refine WP_seq ?_
    refine WP_region ?_
    refine XL_q rfl (qt_move rfl) rfl rfl ?_
    refine XL_q rfl (qt_move rfl) rfl rfl ?_
    refine XL_lenH H11.ctx (t := (.int .i64)) (hp0) u27 rfl rfl rfl ?_
    refine XL_q rfl (qt_lss rfl rfl) rfl rfl ?_
    refine WL_nil_seq ?_
    refine WP_cond rfl (fun hc12 => ?_) (fun hc12 => ?_)
    · have hs8 := if_t hc12 hs8
      refine WP_skip_seq ?_
      refine WP_seq ?_
      refine WP_block ?_
      refine WP_seq ?_
      refine WP_quiet (by kernel_rfl) (by kernel_rfl) ?_
      refine XL_q rfl (qt_move rfl) rfl rfl ?_
      refine XL_q rfl (qt_move rfl) rfl rfl ?_
      obtain ⟨x13, hx14, hs8⟩ := bind_some hs8
      refine XL_sliceH H11.ctx (hp0) hx14 u27 i3 rfl ⟨_, rfl⟩ rfl rfl rfl ?_
      refine XL_q rfl (qt_move rfl) rfl rfl ?_
      refine XL_q rfl (qt_move rfl) rfl rfl ?_
      obtain ⟨x15, hx16, hs8⟩ := bind_some hs8
      refine XL_indexH H11.ctx (hp0) hx16 u27 i3 rfl rfl rfl rfl (fun b17 off18 cap19 hv20 => ?_)
      obtain ⟨F21, hat22, hdup23⟩ := H11.at (hp0) hx16 hv20
      refine XL_load_int (k := .i64) u3 rfl hat22 rfl rfl rfl ?_
      obtain ⟨x24, hx25, hs8⟩ := bind_some hs8
      refine QL_call rfl rfl c84 (fun w' hb => (w_spec_l1Has w' G (subV (Ty.size (.int .i64)) vp0 (Int.toNat 0) (Int.toNat s2)) x13 (Has.sub (hp0) hx14) x15 x24 hx25 (H11.grow hb).ctx).mono fun e w'' hK => ⟨hK.1, hK.2.bel⟩) (by rfl) ?_
      refine XL_q rfl (qt_not rfl) rfl rfl ?_
      refine QL_nil fun a ha w26 hb27 => ?_
      have H28 : Holds (([] : List Res).flatMap Res.own) w w26 [] G := H11.grow hb27
      refine nrm_seq (WP.app ?_ ha)
      refine WP_cond rfl (fun hc29 => ?_) (fun hc29 => ?_)
      · have hs8 := if_t hc29 hs8
        refine WP_region ?_
        refine XL_q rfl (qt_move rfl) rfl rfl ?_
        refine XL_q rfl (qt_add rfl rfl) rfl rfl ?_
        refine XL_q rfl (qt_assign rfl) rfl rfl ?_
        refine WL_nil fun a ha => ?_
        refine nrm_block (nrm_seq (WP.app ?_ ha))
        refine WP_region ?_
        refine XL_q rfl (qt_move rfl) rfl rfl ?_
        refine XL_q rfl (qt_add rfl rfl) rfl rfl ?_
        refine XL_q rfl (qt_assign rfl) rfl rfl ?_
        refine WL_nil fun a ha => ?_
        obtain rfl := Option.some.inj hs8
        exact ⟨rfl, ha.sub ⟨rfl, rfl, rfl, trivial⟩, H28⟩
      · have hs8 := if_f hc29 hs8
        refine WP_skip fun a ha => ?_
        refine nrm_block (nrm_seq (WP.app ?_ ha))
        refine WP_region ?_
        refine XL_q rfl (qt_move rfl) rfl rfl ?_
        refine XL_q rfl (qt_add rfl rfl) rfl rfl ?_
        refine XL_q rfl (qt_assign rfl) rfl rfl ?_
        refine WL_nil fun a ha => ?_
        obtain rfl := Option.some.inj hs8
        exact ⟨rfl, ha.sub ⟨rfl, rfl, rfl, trivial⟩, H28⟩
    · have hs8 := if_f hc12 hs8
      refine WP_exit fun a ha => ?_
      obtain rfl := Option.some.inj hs8
      exact exit_seq (⟨exit_ne, rfl, ha.sub ⟨rfl, trivial⟩, H11⟩)
  · intro e a5 w30 hO31
    obtain ⟨p32, rfl⟩ : ∃ z, z = o3 := ⟨o3, rfl⟩
    obtain ⟨rfl, hO34⟩ := hO31
    obtain ⟨ha, H33⟩ := hO34
    refine exit_block_eq (nrm_seq (WP.app ?_ ha))
    refine WP_seq ?_
    refine WP_region ?_
    refine XL_q rfl (qt_move rfl) rfl rfl ?_
    refine XL_q rfl (qt_assign rfl) rfl rfl ?_
    refine WL_nil_seq ?_
    refine WP_ret fun a ha => ?_
    obtain rfl := Option.some.inj h
    exact ret1 rfl ha rfl ⟨rfl, H33⟩
theorem c53 : Callable Tryd.prog 53 := ⟨Tryd.f53, Tryd.func53, by kernel_rfl, by kernel_rfl⟩
theorem c54 : Callable Tryd.prog 54 := ⟨Tryd.f54, Tryd.func54, by kernel_rfl, by kernel_rfl⟩
theorem c55 : Callable Tryd.prog 55 := ⟨Tryd.f55, Tryd.func55, by kernel_rfl, by kernel_rfl⟩
end Go.Proofs.YtidhmbmollkhdaaDoor
