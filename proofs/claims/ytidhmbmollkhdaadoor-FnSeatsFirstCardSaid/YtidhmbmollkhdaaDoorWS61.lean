/- The walks: each Go function computes its shallow function. Printed by a program. -/
import Derived.Test.YtidhmbmollkhdaaDoorChecked
import Derived.Test.YtidhmbmollkhdaaDoorShS6
import Derived.Test.YtidhmbmollkhdaaDoorAlive
set_option linter.unusedVariables false
set_option maxRecDepth 10000
namespace Go.Proofs.YtidhmbmollkhdaaDoor
open Go Go.RowKit
noncomputable def fd66 : Array Field := match Tryd.prog.underlying 66 with | some (.struct fs) => fs | _ => #[]
theorem uf66 : Tryd.prog.underlying 66 = some (.struct fd66) := by kernel_rfl
theorem i3 : (Tryd.prog.info? 3).map (·.size) = some (Ty.size (.int .i64)) := by kernel_rfl
theorem i5 : (Tryd.prog.info? 5).map (·.size) = some (Ty.size (.int .u8)) := by kernel_rfl
theorem il3 : (Tryd.prog.info? 3).map (·.size) = some 1 := by kernel_rfl
theorem il96 : (Tryd.prog.info? 96).map (·.size) = some 1 := by kernel_rfl
theorem j3 : (Tryd.prog.info? 3).map (fun i => (i.zero, i.size, i.bytes)) = some (some (.int .i64 0), Ty.size (.int .i64), 8) := by kernel_rfl
theorem nz22 : (Tryd.prog.info? 22).map (fun i => Nat.beq i.size 0) = some false := by kernel_rfl
theorem nz3 : (Tryd.prog.info? 3).map (fun i => Nat.beq i.size 0) = some false := by kernel_rfl
theorem u22 : Tryd.prog.underlying 22 = some (.slice 5) := by kernel_rfl
theorem u27 : Tryd.prog.underlying 27 = some (.slice 3) := by kernel_rfl
theorem u3 : Tryd.prog.underlying 3 = some (.int .i64) := by kernel_rfl
theorem u4 : Tryd.prog.underlying 4 = some (.bool) := by kernel_rfl
theorem u46 : Tryd.prog.underlying 46 = some (.int .u64) := by kernel_rfl
theorem u5 : Tryd.prog.underlying 5 = some (.int .u8) := by kernel_rfl
theorem u70 : Tryd.prog.underlying 70 = some (.int .u64) := by kernel_rfl
theorem u96 : Tryd.prog.underlying 96 = some (.int .u64) := by kernel_rfl
theorem z3 : (Tryd.prog.info? 3).map (·.zero) = some (some (.int .i64 0)) := by kernel_rfl
theorem fi66_0 : (fd66[0]?).map (fun f => (f.type, f.offset)) = some (22, 0) := by kernel_rfl
theorem fi66_1 : (fd66[1]?).map (fun f => (f.type, f.offset)) = some (3, 1) := by kernel_rfl
theorem c103 : Callable Tryd.prog 103 := ⟨Tryd.f103, Tryd.func103, by kernel_rfl, by kernel_rfl⟩
theorem c113 : Callable Tryd.prog 113 := ⟨Tryd.f113, Tryd.func113, by kernel_rfl, by kernel_rfl⟩
theorem c114 : Callable Tryd.prog 114 := ⟨Tryd.f114, Tryd.func114, by kernel_rfl, by kernel_rfl⟩
theorem c115 : Callable Tryd.prog 115 := ⟨Tryd.f115, Tryd.func115, by kernel_rfl, by kernel_rfl⟩
theorem c120 : Callable Tryd.prog 120 := ⟨Tryd.f120, Tryd.func120, by kernel_rfl, by kernel_rfl⟩
theorem c17 : Callable Tryd.prog 17 := ⟨Tryd.f17, Tryd.func17, by kernel_rfl, by kernel_rfl⟩
theorem c18 : Callable Tryd.prog 18 := ⟨Tryd.f18, Tryd.func18, by kernel_rfl, by kernel_rfl⟩
theorem c19 : Callable Tryd.prog 19 := ⟨Tryd.f19, Tryd.func19, by kernel_rfl, by kernel_rfl⟩
theorem c20 : Callable Tryd.prog 20 := ⟨Tryd.f20, Tryd.func20, by kernel_rfl, by kernel_rfl⟩
theorem c21 : Callable Tryd.prog 21 := ⟨Tryd.f21, Tryd.func21, by kernel_rfl, by kernel_rfl⟩
theorem c22 : Callable Tryd.prog 22 := ⟨Tryd.f22, Tryd.func22, by kernel_rfl, by kernel_rfl⟩
theorem c23 : Callable Tryd.prog 23 := ⟨Tryd.f23, Tryd.func23, by kernel_rfl, by kernel_rfl⟩
theorem c24 : Callable Tryd.prog 24 := ⟨Tryd.f24, Tryd.func24, by kernel_rfl, by kernel_rfl⟩
theorem c25 : Callable Tryd.prog 25 := ⟨Tryd.f25, Tryd.func25, by kernel_rfl, by kernel_rfl⟩
theorem c26 : Callable Tryd.prog 26 := ⟨Tryd.f26, Tryd.func26, by kernel_rfl, by kernel_rfl⟩
theorem c27 : Callable Tryd.prog 27 := ⟨Tryd.f27, Tryd.func27, by kernel_rfl, by kernel_rfl⟩
theorem c28 : Callable Tryd.prog 28 := ⟨Tryd.f28, Tryd.func28, by kernel_rfl, by kernel_rfl⟩
theorem c29 : Callable Tryd.prog 29 := ⟨Tryd.f29, Tryd.func29, by kernel_rfl, by kernel_rfl⟩
theorem c30 : Callable Tryd.prog 30 := ⟨Tryd.f30, Tryd.func30, by kernel_rfl, by kernel_rfl⟩
theorem c31 : Callable Tryd.prog 31 := ⟨Tryd.f31, Tryd.func31, by kernel_rfl, by kernel_rfl⟩
theorem c32 : Callable Tryd.prog 32 := ⟨Tryd.f32, Tryd.func32, by kernel_rfl, by kernel_rfl⟩
theorem c33 : Callable Tryd.prog 33 := ⟨Tryd.f33, Tryd.func33, by kernel_rfl, by kernel_rfl⟩
theorem c34 : Callable Tryd.prog 34 := ⟨Tryd.f34, Tryd.func34, by kernel_rfl, by kernel_rfl⟩
theorem c35 : Callable Tryd.prog 35 := ⟨Tryd.f35, Tryd.func35, by kernel_rfl, by kernel_rfl⟩
theorem c36 : Callable Tryd.prog 36 := ⟨Tryd.f36, Tryd.func36, by kernel_rfl, by kernel_rfl⟩
theorem c37 : Callable Tryd.prog 37 := ⟨Tryd.f37, Tryd.func37, by kernel_rfl, by kernel_rfl⟩
theorem c38 : Callable Tryd.prog 38 := ⟨Tryd.f38, Tryd.func38, by kernel_rfl, by kernel_rfl⟩
theorem c39 : Callable Tryd.prog 39 := ⟨Tryd.f39, Tryd.func39, by kernel_rfl, by kernel_rfl⟩
theorem c40 : Callable Tryd.prog 40 := ⟨Tryd.f40, Tryd.func40, by kernel_rfl, by kernel_rfl⟩
theorem c41 : Callable Tryd.prog 41 := ⟨Tryd.f41, Tryd.func41, by kernel_rfl, by kernel_rfl⟩
theorem c42 : Callable Tryd.prog 42 := ⟨Tryd.f42, Tryd.func42, by kernel_rfl, by kernel_rfl⟩
theorem c43 : Callable Tryd.prog 43 := ⟨Tryd.f43, Tryd.func43, by kernel_rfl, by kernel_rfl⟩
theorem c44 : Callable Tryd.prog 44 := ⟨Tryd.f44, Tryd.func44, by kernel_rfl, by kernel_rfl⟩
theorem c45 : Callable Tryd.prog 45 := ⟨Tryd.f45, Tryd.func45, by kernel_rfl, by kernel_rfl⟩
theorem c46 : Callable Tryd.prog 46 := ⟨Tryd.f46, Tryd.func46, by kernel_rfl, by kernel_rfl⟩
theorem c47 : Callable Tryd.prog 47 := ⟨Tryd.f47, Tryd.func47, by kernel_rfl, by kernel_rfl⟩
theorem c48 : Callable Tryd.prog 48 := ⟨Tryd.f48, Tryd.func48, by kernel_rfl, by kernel_rfl⟩
theorem c49 : Callable Tryd.prog 49 := ⟨Tryd.f49, Tryd.func49, by kernel_rfl, by kernel_rfl⟩
theorem c50 : Callable Tryd.prog 50 := ⟨Tryd.f50, Tryd.func50, by kernel_rfl, by kernel_rfl⟩
theorem c51 : Callable Tryd.prog 51 := ⟨Tryd.f51, Tryd.func51, by kernel_rfl, by kernel_rfl⟩
theorem c52 : Callable Tryd.prog 52 := ⟨Tryd.f52, Tryd.func52, by kernel_rfl, by kernel_rfl⟩
theorem c58 : Callable Tryd.prog 58 := ⟨Tryd.f58, Tryd.func58, by kernel_rfl, by kernel_rfl⟩
theorem c62 : Callable Tryd.prog 62 := ⟨Tryd.f62, Tryd.func62, by kernel_rfl, by kernel_rfl⟩
theorem c63 : Callable Tryd.prog 63 := ⟨Tryd.f63, Tryd.func63, by kernel_rfl, by kernel_rfl⟩
theorem c64 : Callable Tryd.prog 64 := ⟨Tryd.f64, Tryd.func64, by kernel_rfl, by kernel_rfl⟩
theorem c65 : Callable Tryd.prog 65 := ⟨Tryd.f65, Tryd.func65, by kernel_rfl, by kernel_rfl⟩
theorem c67 : Callable Tryd.prog 67 := ⟨Tryd.f67, Tryd.func67, by kernel_rfl, by kernel_rfl⟩
theorem c68 : Callable Tryd.prog 68 := ⟨Tryd.f68, Tryd.func68, by kernel_rfl, by kernel_rfl⟩
theorem c69 : Callable Tryd.prog 69 := ⟨Tryd.f69, Tryd.func69, by kernel_rfl, by kernel_rfl⟩
theorem c70 : Callable Tryd.prog 70 := ⟨Tryd.f70, Tryd.func70, by kernel_rfl, by kernel_rfl⟩
theorem c71 : Callable Tryd.prog 71 := ⟨Tryd.f71, Tryd.func71, by kernel_rfl, by kernel_rfl⟩
theorem c72 : Callable Tryd.prog 72 := ⟨Tryd.f72, Tryd.func72, by kernel_rfl, by kernel_rfl⟩
theorem c73 : Callable Tryd.prog 73 := ⟨Tryd.f73, Tryd.func73, by kernel_rfl, by kernel_rfl⟩
theorem c74 : Callable Tryd.prog 74 := ⟨Tryd.f74, Tryd.func74, by kernel_rfl, by kernel_rfl⟩
theorem c75 : Callable Tryd.prog 75 := ⟨Tryd.f75, Tryd.func75, by kernel_rfl, by kernel_rfl⟩
theorem c76 : Callable Tryd.prog 76 := ⟨Tryd.f76, Tryd.func76, by kernel_rfl, by kernel_rfl⟩
theorem c77 : Callable Tryd.prog 77 := ⟨Tryd.f77, Tryd.func77, by kernel_rfl, by kernel_rfl⟩
theorem c78 : Callable Tryd.prog 78 := ⟨Tryd.f78, Tryd.func78, by kernel_rfl, by kernel_rfl⟩
theorem c79 : Callable Tryd.prog 79 := ⟨Tryd.f79, Tryd.func79, by kernel_rfl, by kernel_rfl⟩
theorem c80 : Callable Tryd.prog 80 := ⟨Tryd.f80, Tryd.func80, by kernel_rfl, by kernel_rfl⟩
theorem c84 : Callable Tryd.prog 84 := ⟨Tryd.f84, Tryd.func84, by kernel_rfl, by kernel_rfl⟩
theorem c86 : Callable Tryd.prog 86 := ⟨Tryd.f86, Tryd.func86, by kernel_rfl, by kernel_rfl⟩
theorem w_spec_l20Open (w : World) (G : List Res) (vp0 : Value) (p0 : List Int) (hp0 : HasRo G (.int .u8) vp0 p0) (r : ((List Int) × Int)) (h : spec_l20OpenS p0 = some r) (H : Ctx w G) : Calls Tryd.prog 62 #[vp0] w fun e w' => ∃ (v1 : Value) (b2 : Nat), e = .returned (.pointer (some ⟨b2, 0, none⟩)) ∧ Holds (([] : List Res).flatMap Res.own) w w' [.ro (.int .u8) v1 r.1, .bx b2 66 [v1, .int .i64 r.2]] G := by
  have H : Holds (([] : List Res).flatMap Res.own) w w [] G := Holds.startN H
  refine calls_enter (args := [vp0]) (n := 11) Tryd.func62 rfl rfl rfl ?_
  unfold spec_l20OpenS at h
  refine WP_seq ?_
  refine WP_region ?_
  refine XL_q rfl (qt_assign rfl) rfl rfl ?_
  refine WL_nil_seq ?_
  refine WP_seq ?_
  refine WP_seq ?_
  refine WP_region ?_
  refine XL_q rfl (qt_move rfl) rfl rfl ?_
  refine XL_lenH H.ctx (t := (.int .u8)) (hp0.has) u22 rfl rfl rfl ?_
  refine XL_q rfl (qt_gtr rfl rfl) rfl rfl ?_
  refine WL_nil_seq ?_
  obtain ⟨o2, ho3, h⟩ := bind_some h
  obtain ⟨j1, rfl⟩ : ∃ z, z = o2 := ⟨o2, rfl⟩
  refine WP_join (M := fun a w2 => ∃ vj1, Fr a 11 [(0, vj1)] ∧ Holds (([] : List Res).flatMap Res.own) w w2 [.ro (.int .u8) vj1 j1] G) ?_ ?_
  · refine WP_cond rfl (fun hc4 => ?_) (fun hc4 => ?_)
    · have ho3 := if_t hc4 ho3
      refine WP_region ?_
      refine XL_q rfl (qt_move rfl) rfl rfl ?_
      obtain ⟨x5, hx6, ho3⟩ := bind_some ho3
      refine XL_sliceH H.ctx (hp0.has) hx6 u22 i5 rfl ⟨_, rfl⟩ rfl rfl rfl ?_
      refine XL_q rfl (qt_assign rfl) rfl rfl ?_
      refine WL_nil fun a ha => ?_
      obtain rfl := Option.some.inj ho3
      have H7 : Holds (([] : List Res).flatMap Res.own) w w [.ro (.int .u8) (subV (Ty.size (.int .u8)) vp0 (Int.toNat 0) (Int.toNat 2000)) x5] G := H.dup (HasRo.sub (hp0) hx6)
      exact nrm_seq (⟨(subV (Ty.size (.int .u8)) vp0 (Int.toNat 0) (Int.toNat 2000)), ha.sub ⟨rfl, trivial⟩, H7⟩)
    · have ho3 := if_f hc4 ho3
      refine WP_skip fun a ha => ?_
      obtain rfl := Option.some.inj ho3
      have H8 : Holds (([] : List Res).flatMap Res.own) w w [.ro (.int .u8) vp0 p0] G := H.dup (hp0)
      exact nrm_seq (⟨vp0, ha.sub ⟨rfl, trivial⟩, H8⟩)
  · intro a w9 hI10
    obtain ⟨vj1, ha, H11⟩ := hI10
    refine WP.app ?_ ha
    clear ha
    refine WP_seq ?_
    refine WP_region ?_
    refine XL_q rfl (qt_move rfl) rfl rfl ?_
    refine XL_q rfl (qt_build (args := [(0, .tmp 8)]) (css := [#[vj1]]) (cells := #[vj1, .int .i64 0]) rfl ⟨(H11.ctx.sliceCells (HasRo.has (HasRo.hd))), trivial⟩ (by kernel_rfl)) rfl rfl ?_
    refine WL_box (cs := [vj1, .int .i64 0]) H11 rfl rfl rfl rfl (fun b12 w13 H14 => ?_)
    have H15 : Holds (([] : List Res).flatMap Res.own) w w13 [.bx b12 66 [vj1, .int .i64 0], .ro (.int .u8) vj1 j1] G := H14
    refine XL_q rfl (qt_assign rfl) rfl rfl ?_
    refine WL_nil_seq ?_
    refine WP_ret fun a ha => ?_
    obtain rfl := Option.some.inj h
    have H16 : Holds (([] : List Res).flatMap Res.own) w w13 [.ro (.int .u8) vj1 j1, .bx b12 66 [vj1, .int .i64 0]] G := (H15.pull 1)
    exact ret1 rfl ha rfl ⟨vj1, b12, rfl, H16⟩
theorem w_spec_l20Rd__pick (w : World) (G : List Res) (bp0 : Nat) (vp0_0 : Value) (p0_0 : List Int) (hp0_0 : Has G (.int .u8) vp0_0 p0_0) (p0_1 : Int) (p1 : Int) (r : Int × Int) (h : spec_l20Rd__pickS p0_0 p0_1 p1 = some r) (H : Ctx w ([.bx bp0 66 [vp0_0, .int .i64 p0_1]] ++ G)) : Calls Tryd.prog 63 #[.pointer (some ⟨bp0, 0, none⟩), .int .i64 p1] w fun e w' => e = .returned (.int .i64 r.2) ∧ Holds (([.bx bp0 66 [vp0_0, .int .i64 p0_1]] : List Res).flatMap Res.own) w w' [.bx bp0 66 [vp0_0, .int .i64 r.1]] G := by
  have H : Holds (([.bx bp0 66 [vp0_0, .int .i64 p0_1]] : List Res).flatMap Res.own) w w [.bx bp0 66 [vp0_0, .int .i64 p0_1]] G := Holds.startN H
  refine calls_enter (args := [.pointer (some ⟨bp0, 0, none⟩), .int .i64 p1]) (n := 99) Tryd.func63 rfl rfl rfl ?_
  unfold spec_l20Rd__pickS at h
  refine WP_seq ?_
  refine WP_region ?_
  refine XL_q rfl (qt_assign rfl) rfl rfl ?_
  refine WL_nil_seq ?_
  refine WP_seq ?_
  refine WP_region ?_
  refine XL_q rfl (qt_move rfl) rfl rfl ?_
  refine XL_q rfl (qt_move rfl) rfl rfl ?_
  refine XL_q rfl (qt_nilCheck rfl) rfl rfl ?_
  refine XL_q rfl (qt_fieldAddr uf66 fi66_1 nz3 rfl) rfl rfl ?_
  have hB1 : Bx w bp0 66 [vp0_0, .int .i64 p0_1] := Holds.bx (H.pull 0)
  refine XL_load_bx u3 rfl hB1 rfl rfl rfl rfl ?_
  refine XL_q rfl (qt_add rfl rfl) rfl rfl ?_
  refine XL_q rfl (qt_nilCheck rfl) rfl rfl ?_
  refine XL_q rfl (qt_fieldAddr uf66 fi66_1 nz3 rfl) rfl rfl ?_
  refine WL_store_bx H rfl il3 rfl rfl rfl rfl rfl (fun w2 H3 => ?_)
  have H4 : Holds (([.bx bp0 66 [vp0_0, .int .i64 p0_1]] : List Res).flatMap Res.own) w w2 [.bx bp0 66 [vp0_0, .int .i64 (IntKind.wrap .i64 (p0_1 + 1))]] G := H3
  refine WL_nil_seq ?_
  refine WP_seq ?_
  refine WP_seq ?_
  refine WP_region ?_
  refine XL_q rfl (qt_move rfl) rfl rfl ?_
  refine XL_q rfl (qt_lss rfl rfl) rfl rfl ?_
  refine XL_q rfl (qt_move rfl) rfl rfl ?_
  refine XL_join 7 24 (.bool ((decide (p1 < 1)) || ((List.length p0_0 : Int) == 0))) ?_ (fun md hmd hk => ?_)
  rotate_left
  · obtain ⟨Q, rfl⟩ := Md.seq_of hmd
    rcases btf (decide (p1 < 1)) with hc5 | hc5
    · skip
      refine XL_skip (w_skip rfl hc5) rfl rfl ?_
      refine XL_skip (w_skip rfl hc5) rfl rfl ?_
      refine XL_skip (w_skip rfl hc5) rfl rfl ?_
      refine XL_skip (w_skip rfl hc5) rfl rfl ?_
      refine XL_skip (w_skip rfl hc5) rfl rfl ?_
      refine XL_skip (w_skip rfl hc5) rfl rfl ?_
      refine XL_q rfl (qt_pickT rfl hc5 rfl) rfl rfl ?_
      exact hk _ (Cov.same (by rw [hc5]; rfl) (Cov.fresh rfl (Cov.fresh rfl (Cov.fresh rfl (Cov.fresh rfl (Cov.fresh rfl (Cov.fresh rfl (Cov.refl))))))))
    · skip
      refine XL_q (w_take rfl hc5) (qt_move rfl) rfl rfl ?_
      refine XL_q (w_take rfl hc5) (qt_nilCheck rfl) rfl rfl ?_
      refine XL_q (w_take rfl hc5) (qt_fieldAddr uf66 fi66_0 nz22 rfl) rfl rfl ?_
      have hB6 : Bx w2 bp0 66 [vp0_0, .int .i64 (IntKind.wrap .i64 (p0_1 + 1))] := Holds.bx (H4.pull 0)
      refine XL_load_bx u22 rfl hB6 rfl (w_take rfl hc5) rfl rfl ?_
      refine XL_lenH H4.ctx (t := (.int .u8)) (hp0_0.c) u22 (w_take rfl hc5) rfl rfl ?_
      refine XL_q (w_take rfl hc5) (qt_eql rfl rfl) rfl rfl ?_
      refine XL_q rfl (qt_pickF rfl hc5 rfl) rfl rfl ?_
      exact hk _ (Cov.same (by rw [hc5]; rfl) (Cov.fresh rfl (Cov.fresh rfl (Cov.fresh rfl (Cov.fresh rfl (Cov.fresh rfl (Cov.fresh rfl (Cov.refl))))))))
  refine WL_nil_seq ?_
  refine WP_cond rfl (fun hc7 => ?_) (fun hc7 => ?_)
  · have h := if_t hc7 h
    refine WP_seq ?_
    refine WP_region ?_
    refine XL_q rfl (qt_assign rfl) rfl rfl ?_
    refine WL_nil_seq ?_
    refine WP_ret fun a ha => ?_
    obtain rfl := Option.some.inj h
    exact ret_seq (ret1 rfl ha rfl ⟨rfl, H4⟩)
  · have h := if_f hc7 h
    refine WP_skip_seq ?_
    refine WP_seq ?_
    refine WP_region ?_
    refine XL_q rfl (qt_move rfl) rfl rfl ?_
    refine XL_q rfl (qt_nilCheck rfl) rfl rfl ?_
    refine XL_q rfl (qt_fieldAddr uf66 fi66_1 nz3 rfl) rfl rfl ?_
    have hB8 : Bx w2 bp0 66 [vp0_0, .int .i64 (IntKind.wrap .i64 (p0_1 + 1))] := Holds.bx (H4.pull 0)
    refine XL_load_bx u3 rfl hB8 rfl rfl rfl rfl ?_
    refine XL_q rfl (qt_sub rfl rfl) rfl rfl ?_
    refine XL_q rfl (qt_assign rfl) rfl rfl ?_
    refine WL_nil_seq ?_
    refine WP_seq ?_
    refine WP_seq ?_
    refine WP_region ?_
    refine XL_q rfl (qt_move rfl) rfl rfl ?_
    refine XL_q rfl (qt_move rfl) rfl rfl ?_
    refine XL_q rfl (qt_nilCheck rfl) rfl rfl ?_
    refine XL_q rfl (qt_fieldAddr uf66 fi66_0 nz22 rfl) rfl rfl ?_
    have hB9 : Bx w2 bp0 66 [vp0_0, .int .i64 (IntKind.wrap .i64 (p0_1 + 1))] := Holds.bx (H4.pull 0)
    refine XL_load_bx u22 rfl hB9 rfl rfl rfl rfl ?_
    refine XL_lenH H4.ctx (t := (.int .u8)) (hp0_0.c) u22 rfl rfl rfl ?_
    refine XL_q rfl (qt_lss rfl rfl) rfl rfl ?_
    refine WL_nil_seq ?_
    refine WP_cond rfl (fun hc10 => ?_) (fun hc10 => ?_)
    · have h := if_t hc10 h
      refine WP_seq ?_
      refine WP_region ?_
      refine XL_q rfl (qt_move rfl) rfl rfl ?_
      refine XL_q rfl (qt_nilCheck rfl) rfl rfl ?_
      refine XL_q rfl (qt_fieldAddr uf66 fi66_0 nz22 rfl) rfl rfl ?_
      have hB11 : Bx w2 bp0 66 [vp0_0, .int .i64 (IntKind.wrap .i64 (p0_1 + 1))] := Holds.bx (H4.pull 0)
      refine XL_load_bx u22 rfl hB11 rfl rfl rfl rfl ?_
      refine XL_q rfl (qt_move rfl) rfl rfl ?_
      obtain ⟨x12, hx13, h⟩ := bind_some h
      refine XL_indexH H4.ctx (hp0_0.c) hx13 u22 i5 rfl rfl rfl rfl (fun b14 off15 cap16 hv17 => ?_)
      obtain ⟨F18, hat19, hdup20⟩ := H4.at (hp0_0.c) hx13 hv17
      refine XL_load_int (k := .u8) u5 rfl hat19 rfl rfl rfl ?_
      refine XL_q rfl (qt_int u3 rfl u5) rfl rfl ?_
      refine XL_q rfl (qt_move rfl) rfl rfl ?_
      obtain ⟨x21, hx22, h⟩ := bind_some h
      refine XL_q rfl (qt_remO rfl rfl hx22) rfl rfl ?_
      refine XL_q rfl (qt_assign rfl) rfl rfl ?_
      refine WL_nil_seq ?_
      refine WP_ret fun a ha => ?_
      obtain rfl := Option.some.inj h
      exact ret_seq (ret1 rfl ha rfl ⟨rfl, H4⟩)
    · have h := if_f hc10 h
      refine WP_skip_seq ?_
      refine WP_seq ?_
      refine WP_quiet (by kernel_rfl) (by kernel_rfl) ?_
      refine XL_q rfl (qt_move rfl) rfl rfl ?_
      refine XL_q rfl (qt_nilCheck rfl) rfl rfl ?_
      refine XL_q rfl (qt_fieldAddr uf66 fi66_0 nz22 rfl) rfl rfl ?_
      have hB23 : Bx w2 bp0 66 [vp0_0, .int .i64 (IntKind.wrap .i64 (p0_1 + 1))] := Holds.bx (H4.pull 0)
      refine XL_load_bx u22 rfl hB23 rfl rfl rfl rfl ?_
      refine XL_q rfl (qt_move rfl) rfl rfl ?_
      refine XL_q rfl (qt_move rfl) rfl rfl ?_
      refine XL_q rfl (qt_nilCheck rfl) rfl rfl ?_
      refine XL_q rfl (qt_fieldAddr uf66 fi66_0 nz22 rfl) rfl rfl ?_
      have hB24 : Bx w2 bp0 66 [vp0_0, .int .i64 (IntKind.wrap .i64 (p0_1 + 1))] := Holds.bx (H4.pull 0)
      refine XL_load_bx u22 rfl hB24 rfl rfl rfl rfl ?_
      refine XL_lenH H4.ctx (t := (.int .u8)) (hp0_0.c) u22 rfl rfl rfl ?_
      obtain ⟨x25, hx26, h⟩ := bind_some h
      refine XL_q rfl (qt_remO rfl rfl hx26) rfl rfl ?_
      obtain ⟨x27, hx28, h⟩ := bind_some h
      refine XL_indexH H4.ctx (hp0_0.c) hx28 u22 i5 rfl rfl rfl rfl (fun b29 off30 cap31 hv32 => ?_)
      obtain ⟨F33, hat34, hdup35⟩ := H4.at (hp0_0.c) hx28 hv32
      refine XL_load_int (k := .u8) u5 rfl hat34 rfl rfl rfl ?_
      refine XL_q rfl (qt_int u3 rfl u5) rfl rfl ?_
      refine XL_q rfl (qt_mul rfl rfl) rfl rfl ?_
      refine XL_q rfl (qt_move rfl) rfl rfl ?_
      refine XL_q rfl (qt_nilCheck rfl) rfl rfl ?_
      refine XL_q rfl (qt_fieldAddr uf66 fi66_0 nz22 rfl) rfl rfl ?_
      have hB36 : Bx w2 bp0 66 [vp0_0, .int .i64 (IntKind.wrap .i64 (p0_1 + 1))] := Holds.bx (H4.pull 0)
      refine XL_load_bx u22 rfl hB36 rfl rfl rfl rfl ?_
      refine XL_q rfl (qt_move rfl) rfl rfl ?_
      refine XL_q rfl (qt_mul rfl rfl) rfl rfl ?_
      refine XL_q rfl (qt_add rfl rfl) rfl rfl ?_
      refine XL_q rfl (qt_move rfl) rfl rfl ?_
      refine XL_q rfl (qt_nilCheck rfl) rfl rfl ?_
      refine XL_q rfl (qt_fieldAddr uf66 fi66_0 nz22 rfl) rfl rfl ?_
      have hB37 : Bx w2 bp0 66 [vp0_0, .int .i64 (IntKind.wrap .i64 (p0_1 + 1))] := Holds.bx (H4.pull 0)
      refine XL_load_bx u22 rfl hB37 rfl rfl rfl rfl ?_
      refine XL_lenH H4.ctx (t := (.int .u8)) (hp0_0.c) u22 rfl rfl rfl ?_
      obtain ⟨x38, hx39, h⟩ := bind_some h
      refine XL_q rfl (qt_remO rfl rfl hx39) rfl rfl ?_
      obtain ⟨x40, hx41, h⟩ := bind_some h
      refine XL_indexH H4.ctx (hp0_0.c) hx41 u22 i5 rfl rfl rfl rfl (fun b42 off43 cap44 hv45 => ?_)
      obtain ⟨F46, hat47, hdup48⟩ := H4.at (hp0_0.c) hx41 hv45
      refine XL_load_int (k := .u8) u5 rfl hat47 rfl rfl rfl ?_
      refine XL_q rfl (qt_int u3 rfl u5) rfl rfl ?_
      refine XL_q rfl (qt_mul rfl rfl) rfl rfl ?_
      refine XL_q rfl (qt_add rfl rfl) rfl rfl ?_
      refine XL_q rfl (qt_move rfl) rfl rfl ?_
      refine XL_q rfl (qt_mul rfl rfl) rfl rfl ?_
      obtain ⟨x49, hx50, h⟩ := bind_some h
      refine XL_qe rfl (qt_add rfl rfl) (vi hx50) rfl rfl ?_
      refine XL_q rfl (qt_move rfl) rfl rfl ?_
      refine XL_q rfl (qt_move rfl) rfl rfl ?_
      refine XL_q rfl (qt_nilCheck rfl) rfl rfl ?_
      refine XL_q rfl (qt_fieldAddr uf66 fi66_0 nz22 rfl) rfl rfl ?_
      have hB51 : Bx w2 bp0 66 [vp0_0, .int .i64 (IntKind.wrap .i64 (p0_1 + 1))] := Holds.bx (H4.pull 0)
      refine XL_load_bx u22 rfl hB51 rfl rfl rfl rfl ?_
      refine XL_lenH H4.ctx (t := (.int .u8)) (hp0_0.c) u22 rfl rfl rfl ?_
      obtain ⟨x52, hx53, h⟩ := bind_some h
      refine XL_q rfl (qt_quoO rfl rfl hx53) rfl rfl ?_
      refine XL_q rfl (qt_mul rfl rfl) rfl rfl ?_
      refine XL_q rfl (qt_add rfl rfl) rfl rfl ?_
      refine XL_q rfl (qt_assign rfl) rfl rfl ?_
      refine QL_nil fun a ha w54 hb55 => ?_
      have H56 : Holds (([.bx bp0 66 [vp0_0, .int .i64 p0_1]] : List Res).flatMap Res.own) w w54 [.bx bp0 66 [vp0_0, .int .i64 (IntKind.wrap .i64 (p0_1 + 1))]] G := H4.grow hb55
      refine nrm_seq (WP.app ?_ ha)
      refine WP_seq ?_
      refine WP_region ?_
      refine XL_q rfl (qt_move rfl) rfl rfl ?_
      refine XL_q rfl (qt_move rfl) rfl rfl ?_
      refine XL_q rfl (qt_quo rfl rfl (by decide)) rfl rfl ?_
      obtain ⟨x57, hx58, h⟩ := bind_some h
      refine XL_qe rfl (qt_xor rfl rfl) (vi hx58) rfl rfl ?_
      refine XL_q rfl (qt_assign rfl) rfl rfl ?_
      refine WL_nil_seq ?_
      refine WP_seq ?_
      refine WP_region ?_
      refine XL_q rfl (qt_move rfl) rfl rfl ?_
      refine XL_q rfl (qt_move rfl) rfl rfl ?_
      obtain ⟨x59, hx60, h⟩ := bind_some h
      refine XL_q rfl (qt_remO rfl rfl hx60) rfl rfl ?_
      refine XL_q rfl (qt_assign rfl) rfl rfl ?_
      refine WL_nil_seq ?_
      refine WP_ret fun a ha => ?_
      obtain rfl := Option.some.inj h
      exact ret1 rfl ha rfl ⟨rfl, H56⟩
theorem w_spec_DrawDishesMany (w : World) (G : List Res) (vp0 : Value) (p0 : List Int) (hp0 : HasRo G (.int .u8) vp0 p0) (r : Int) (h : spec_DrawDishesManyS p0 = some r) (H : Ctx w G) : Calls Tryd.prog 17 #[vp0] w fun e w' => e = .returned (.int .i64 r) ∧ Holds (([] : List Res).flatMap Res.own) w w' [] G := by
  have H : Holds (([] : List Res).flatMap Res.own) w w [] G := Holds.startN H
  refine calls_enter (args := [vp0]) (n := 7) Tryd.func17 rfl rfl rfl ?_
  unfold spec_DrawDishesManyS at h
  refine WP_seq ?_
  refine WP_region ?_
  refine XL_q rfl (qt_assign rfl) rfl rfl ?_
  refine WL_nil_seq ?_
  refine WP_seq ?_
  refine WP_region ?_
  refine XL_q rfl (qt_move rfl) rfl rfl ?_
  obtain ⟨x1, hx2, h⟩ := bind_some h
  refine WL_call rfl rfl c62 (w_spec_l20Open w G vp0 p0 (hp0) x1 hx2 H.ctx) (by rfl) ?_
  rintro _ w3 ⟨v5, b6, rfl, H4⟩; refine ⟨_, rfl, ?_⟩
  have H7 : Holds (([] : List Res).flatMap Res.own) w w3 [.ro (.int .u8) v5 x1.1, .bx b6 66 [v5, .int .i64 x1.2]] G := H.calledN (Rs := []) H4
  have H10 : Holds (([] : List Res).flatMap Res.own) w w3 [.bx b6 66 [v5, .int .i64 x1.2], .ro (.int .u8) v5 x1.1] G := H7.pull 1
  obtain ⟨x8, hx9, h⟩ := bind_some h
  refine WL_call rfl rfl c63 (w_spec_l20Rd__pick w3 ([.ro (.int .u8) v5 x1.1] ++ G) b6 v5 x1.1 (HasRo.has (HasRo.hd)) x1.2 70 x8 hx9 H10.ctx) (by rfl) ?_
  rintro _ w11 ⟨rfl, H12⟩; refine ⟨_, rfl, ?_⟩
  have H13 : Holds (([] : List Res).flatMap Res.own) w w11 [.bx b6 66 [v5, .int .i64 x8.1], .ro (.int .u8) v5 x1.1] G := H10.calledN (Rs := [_]) H12
  refine XL_q rfl (qt_sub rfl rfl) rfl rfl ?_
  refine XL_q rfl (qt_assign rfl) rfl rfl ?_
  refine WL_nil_seq ?_
  refine WP_ret fun a ha => ?_
  obtain rfl := Option.some.inj h
  have H14 : Holds (([] : List Res).flatMap Res.own) w w11 [] G := ((H13.cut 0).cut 0)
  exact ret1 rfl ha rfl ⟨rfl, H14⟩
theorem w_bits_OnesCount64 (w : World) (G : List Res) (p0 : Int) (r : Int) (h : bits_OnesCount64S p0 = some r) (H : Ctx w G) : Calls Tryd.prog 86 #[.int .u64 p0] w fun e w' => e = .returned (.int .i64 r) ∧ Holds (([] : List Res).flatMap Res.own) w w' [] G := by
  have H : Holds (([] : List Res).flatMap Res.own) w w [] G := Holds.startN H
  refine calls_enter (args := [.int .u64 p0]) (n := 35) Tryd.func86 rfl rfl rfl ?_
  unfold bits_OnesCount64S at h
  refine WP_seq ?_
  refine WP_region ?_
  refine XL_q rfl (qt_assign rfl) rfl rfl ?_
  refine WL_nil_seq ?_
  refine WP_seq ?_
  refine WP_region ?_
  refine XL_q rfl (qt_move rfl) rfl rfl ?_
  refine XL_q rfl (qt_shr rfl rfl (by decide)) rfl rfl ?_
  refine XL_q rfl (qt_and rfl rfl) rfl rfl ?_
  refine XL_q rfl (qt_move rfl) rfl rfl ?_
  refine XL_q rfl (qt_and rfl rfl) rfl rfl ?_
  refine XL_q rfl (qt_add rfl rfl) rfl rfl ?_
  refine XL_q rfl (qt_assign rfl) rfl rfl ?_
  refine WL_nil_seq ?_
  refine WP_seq ?_
  refine WP_region ?_
  refine XL_q rfl (qt_move rfl) rfl rfl ?_
  refine XL_q rfl (qt_shr rfl rfl (by decide)) rfl rfl ?_
  refine XL_q rfl (qt_and rfl rfl) rfl rfl ?_
  refine XL_q rfl (qt_move rfl) rfl rfl ?_
  refine XL_q rfl (qt_and rfl rfl) rfl rfl ?_
  obtain ⟨x1, hx2, h⟩ := bind_some h
  refine XL_qe rfl (qt_add rfl rfl) (vi hx2) rfl rfl ?_
  refine XL_q rfl (qt_assign rfl) rfl rfl ?_
  refine WL_nil_seq ?_
  refine WP_seq ?_
  refine WP_region ?_
  refine XL_q rfl (qt_move rfl) rfl rfl ?_
  refine XL_q rfl (qt_shr rfl rfl (by decide)) rfl rfl ?_
  refine XL_q rfl (qt_move rfl) rfl rfl ?_
  refine XL_q rfl (qt_add rfl rfl) rfl rfl ?_
  refine XL_q rfl (qt_and rfl rfl) rfl rfl ?_
  refine XL_q rfl (qt_assign rfl) rfl rfl ?_
  refine WL_nil_seq ?_
  refine WP_seq ?_
  refine WP_region ?_
  refine XL_q rfl (qt_move rfl) rfl rfl ?_
  refine XL_q rfl (qt_move rfl) rfl rfl ?_
  refine XL_q rfl (qt_shr rfl rfl (by decide)) rfl rfl ?_
  obtain ⟨x3, hx4, h⟩ := bind_some h
  refine XL_qe rfl (qt_add rfl rfl) (vi hx4) rfl rfl ?_
  refine XL_q rfl (qt_assign rfl) rfl rfl ?_
  refine WL_nil_seq ?_
  refine WP_seq ?_
  refine WP_region ?_
  refine XL_q rfl (qt_move rfl) rfl rfl ?_
  refine XL_q rfl (qt_move rfl) rfl rfl ?_
  refine XL_q rfl (qt_shr rfl rfl (by decide)) rfl rfl ?_
  refine XL_q rfl (qt_add rfl rfl) rfl rfl ?_
  refine XL_q rfl (qt_assign rfl) rfl rfl ?_
  refine WL_nil_seq ?_
  refine WP_seq ?_
  refine WP_region ?_
  refine XL_q rfl (qt_move rfl) rfl rfl ?_
  refine XL_q rfl (qt_move rfl) rfl rfl ?_
  refine XL_q rfl (qt_shr rfl rfl (by decide)) rfl rfl ?_
  refine XL_q rfl (qt_add rfl rfl) rfl rfl ?_
  refine XL_q rfl (qt_assign rfl) rfl rfl ?_
  refine WL_nil_seq ?_
  refine WP_seq ?_
  refine WP_region ?_
  refine XL_q rfl (qt_move rfl) rfl rfl ?_
  refine XL_q rfl (qt_int u3 rfl u70) rfl rfl ?_
  obtain ⟨x5, hx6, h⟩ := bind_some h
  refine XL_qe rfl (qt_and rfl rfl) (vi hx6) rfl rfl ?_
  refine XL_q rfl (qt_assign rfl) rfl rfl ?_
  refine WL_nil_seq ?_
  refine WP_ret fun a ha => ?_
  obtain rfl := Option.some.inj h
  exact ret1 rfl ha rfl ⟨rfl, H⟩
theorem w_bits_OnesCount (w : World) (G : List Res) (p0 : Int) (r : Int) (h : bits_OnesCountS p0 = some r) (H : Ctx w G) : Calls Tryd.prog 64 #[.int .u64 p0] w fun e w' => e = .returned (.int .i64 r) ∧ Holds (([] : List Res).flatMap Res.own) w w' [] G := by
  have H : Holds (([] : List Res).flatMap Res.own) w w [] G := Holds.startN H
  refine calls_enter (args := [.int .u64 p0]) (n := 8) Tryd.func64 rfl rfl rfl ?_
  unfold bits_OnesCountS at h
  refine WP_seq ?_
  refine WP_region ?_
  refine XL_q rfl (qt_assign rfl) rfl rfl ?_
  refine WL_nil_seq ?_
  refine WP_seq ?_
  refine WP_cond_false rfl ?_
  refine WP_skip_seq ?_
  refine WP_seq ?_
  refine WP_still ?_
  refine XL_q rfl (qt_move rfl) rfl rfl ?_
  obtain ⟨x1, hx2, h⟩ := bind_some h
  refine QL_call rfl rfl c86 (fun w' hb => (w_bits_OnesCount64 w' G p0 x1 hx2 (H.grow hb).ctx).mono fun e w'' hK => ⟨hK.1, hK.2.bel⟩) (by rfl) ?_
  refine XL_q rfl (qt_assign rfl) rfl rfl ?_
  refine QL_nil fun a ha w3 hb4 => ?_
  have H5 : Holds (([] : List Res).flatMap Res.own) w w3 [] G := H.grow hb4
  refine nrm_seq (WP.app ?_ ha)
  refine WP_ret fun a ha => ?_
  obtain rfl := Option.some.inj h
  exact ret1 rfl ha rfl ⟨rfl, H5⟩
theorem w_impl_DishesMany (w : World) (G : List Res) (p0 : Int) (r : Int) (h : impl_DishesManyS p0 = some r) (H : Ctx w G) : Calls Tryd.prog 18 #[.int .i64 p0] w fun e w' => e = .returned (.int .i64 r) ∧ Holds (([] : List Res).flatMap Res.own) w w' [] G := by
  have H : Holds (([] : List Res).flatMap Res.own) w w [] G := Holds.startN H
  refine calls_enter (args := [.int .i64 p0]) (n := 8) Tryd.func18 rfl rfl rfl ?_
  unfold impl_DishesManyS at h
  refine WP_seq ?_
  refine WP_region ?_
  refine XL_q rfl (qt_assign rfl) rfl rfl ?_
  refine WL_nil_seq ?_
  refine WP_seq ?_
  refine WP_seq ?_
  refine WP_region ?_
  refine XL_q rfl (qt_move rfl) rfl rfl ?_
  refine XL_q rfl (qt_lss rfl rfl) rfl rfl ?_
  refine WL_nil_seq ?_
  refine WP_cond rfl (fun hc1 => ?_) (fun hc1 => ?_)
  · have h := if_t hc1 h
    refine WP_seq ?_
    refine WP_region ?_
    refine XL_q rfl (qt_assign rfl) rfl rfl ?_
    refine WL_nil_seq ?_
    refine WP_ret fun a ha => ?_
    obtain rfl := Option.some.inj h
    exact ret_seq (ret1 rfl ha rfl ⟨rfl, H⟩)
  · have h := if_f hc1 h
    refine WP_skip_seq ?_
    refine WP_seq ?_
    refine WP_still ?_
    refine XL_q rfl (qt_move rfl) rfl rfl ?_
    refine XL_q rfl (qt_int u46 rfl u3) rfl rfl ?_
    obtain ⟨x2, hx3, h⟩ := bind_some h
    refine QL_call rfl rfl c64 (fun w' hb => (w_bits_OnesCount w' G (IntKind.wrap .u64 p0) x2 hx3 (H.grow hb).ctx).mono fun e w'' hK => ⟨hK.1, hK.2.bel⟩) (by rfl) ?_
    refine XL_q rfl (qt_assign rfl) rfl rfl ?_
    refine QL_nil fun a ha w4 hb5 => ?_
    have H6 : Holds (([] : List Res).flatMap Res.own) w w4 [] G := H.grow hb5
    refine nrm_seq (WP.app ?_ ha)
    refine WP_ret fun a ha => ?_
    obtain rfl := Option.some.inj h
    exact ret1 rfl ha rfl ⟨rfl, H6⟩
theorem w_spec_l6Count (w : World) (G : List Res) (p0 : Int) (r : Int) (h : spec_l6CountS p0 = some r) (H : Ctx w G) : Calls Tryd.prog 65 #[.int .i64 p0] w fun e w' => e = .returned (.int .i64 r) ∧ Holds (([] : List Res).flatMap Res.own) w w' [] G := by
  have H : Holds (([] : List Res).flatMap Res.own) w w [] G := Holds.startN H
  refine calls_enter (args := [.int .i64 p0]) (n := 13) Tryd.func65 rfl rfl rfl ?_
  unfold spec_l6CountS at h
  refine WP_seq ?_
  refine WP_region ?_
  refine XL_q rfl (qt_assign rfl) rfl rfl ?_
  refine WL_nil_seq ?_
  refine WP_seq ?_
  refine WP_region ?_
  refine XL_q rfl (qt_assign rfl) rfl rfl ?_
  refine WL_nil_seq ?_
  refine WP_seq ?_
  refine WP_block ?_
  obtain ⟨o3, ho4, h⟩ := bind_some h
  refine fun a5 ha6 => wp_loop_fix (I := fun s a w2 => match s with | (s1, s2) => (Fr a 13 [(0, .int .i64 s1), (3, .int .i64 s2)] ∧ Holds (([] : List Res).flatMap Res.own) w w2 [] G)) (O := fun o e a w2 => match o with | q0 => e = .exit 0 ∧ (Fr a 13 [(3, .int .i64 q0)] ∧ Holds (([] : List Res).flatMap Res.own) w w2 [] G)) ho4 ?_ ?_ ?_
  · exact ⟨ha6.sub ⟨rfl, rfl, trivial⟩, H⟩
  · clear ha6
    intro s o9 a w7 hs8 hI10
    obtain ⟨s1, s2⟩ := s
    obtain ⟨ha, H11⟩ := hI10
    refine WP.app ?_ ha
    clear ha
    refine WP_seq ?_
    refine WP_seq ?_
    refine WP_region ?_
    refine XL_q rfl (qt_move rfl) rfl rfl ?_
    refine XL_q rfl (qt_gtr rfl rfl) rfl rfl ?_
    refine WL_nil_seq ?_
    refine WP_cond rfl (fun hc12 => ?_) (fun hc12 => ?_)
    · have hs8 := if_t hc12 hs8
      refine WP_skip_seq ?_
      refine WP_block ?_
      refine WP_seq ?_
      refine WP_region ?_
      refine XL_q rfl (qt_move rfl) rfl rfl ?_
      refine XL_q rfl (qt_move rfl) rfl rfl ?_
      refine XL_q rfl (qt_rem rfl rfl (by decide)) rfl rfl ?_
      refine XL_q rfl (qt_add rfl rfl) rfl rfl ?_
      refine XL_q rfl (qt_assign rfl) rfl rfl ?_
      refine WL_nil_seq ?_
      refine WP_region ?_
      refine XL_q rfl (qt_move rfl) rfl rfl ?_
      refine XL_q rfl (qt_quo rfl rfl (by decide)) rfl rfl ?_
      refine XL_q rfl (qt_assign rfl) rfl rfl ?_
      refine WL_nil fun a ha => ?_
      obtain rfl := Option.some.inj hs8
      exact nrm_block (⟨rfl, ha.sub ⟨rfl, rfl, trivial⟩, H11⟩)
    · have hs8 := if_f hc12 hs8
      refine WP_exit fun a ha => ?_
      obtain rfl := Option.some.inj hs8
      exact exit_seq (⟨exit_ne, rfl, ha.sub ⟨rfl, trivial⟩, H11⟩)
  · intro e a5 w13 hO14
    obtain ⟨p15, rfl⟩ : ∃ z, z = o3 := ⟨o3, rfl⟩
    obtain ⟨rfl, hO17⟩ := hO14
    obtain ⟨ha, H16⟩ := hO17
    refine exit_block_eq (nrm_seq (WP.app ?_ ha))
    refine WP_seq ?_
    refine WP_region ?_
    refine XL_q rfl (qt_move rfl) rfl rfl ?_
    refine XL_q rfl (qt_assign rfl) rfl rfl ?_
    refine WL_nil_seq ?_
    refine WP_ret fun a ha => ?_
    obtain rfl := Option.some.inj h
    exact ret1 rfl ha rfl ⟨rfl, H16⟩
theorem w_spec_DishesMany (w : World) (G : List Res) (p0 : Int) (r : Int) (h : spec_DishesManyS p0 = some r) (H : Ctx w G) : Calls Tryd.prog 19 #[.int .i64 p0] w fun e w' => e = .returned (.int .i64 r) ∧ Holds (([] : List Res).flatMap Res.own) w w' [] G := by
  have H : Holds (([] : List Res).flatMap Res.own) w w [] G := Holds.startN H
  refine calls_enter (args := [.int .i64 p0]) (n := 7) Tryd.func19 rfl rfl rfl ?_
  unfold spec_DishesManyS at h
  refine WP_seq ?_
  refine WP_region ?_
  refine XL_q rfl (qt_assign rfl) rfl rfl ?_
  refine WL_nil_seq ?_
  refine WP_seq ?_
  refine WP_seq ?_
  refine WP_region ?_
  refine XL_q rfl (qt_move rfl) rfl rfl ?_
  refine XL_q rfl (qt_lss rfl rfl) rfl rfl ?_
  refine WL_nil_seq ?_
  refine WP_cond rfl (fun hc1 => ?_) (fun hc1 => ?_)
  · have h := if_t hc1 h
    refine WP_seq ?_
    refine WP_region ?_
    refine XL_q rfl (qt_assign rfl) rfl rfl ?_
    refine WL_nil_seq ?_
    refine WP_ret fun a ha => ?_
    obtain rfl := Option.some.inj h
    exact ret_seq (ret1 rfl ha rfl ⟨rfl, H⟩)
  · have h := if_f hc1 h
    refine WP_skip_seq ?_
    refine WP_seq ?_
    refine WP_still ?_
    refine XL_q rfl (qt_move rfl) rfl rfl ?_
    obtain ⟨x2, hx3, h⟩ := bind_some h
    refine QL_call rfl rfl c65 (fun w' hb => (w_spec_l6Count w' G p0 x2 hx3 (H.grow hb).ctx).mono fun e w'' hK => ⟨hK.1, hK.2.bel⟩) (by rfl) ?_
    refine XL_q rfl (qt_assign rfl) rfl rfl ?_
    refine QL_nil fun a ha w4 hb5 => ?_
    have H6 : Holds (([] : List Res).flatMap Res.own) w w4 [] G := H.grow hb5
    refine nrm_seq (WP.app ?_ ha)
    refine WP_ret fun a ha => ?_
    obtain rfl := Option.some.inj h
    exact ret1 rfl ha rfl ⟨rfl, H6⟩
theorem w_laws_bitsOf (w : World) (G : List Res) (p0 : Int) (r : Int) (h : laws_bitsOfS p0 = some r) (H : Ctx w G) : Calls Tryd.prog 21 #[.int .i64 p0] w fun e w' => e = .returned (.int .i64 r) ∧ Holds (([] : List Res).flatMap Res.own) w w' [] G := by
  have H : Holds (([] : List Res).flatMap Res.own) w w [] G := Holds.startN H
  refine calls_enter (args := [.int .i64 p0]) (n := 21) Tryd.func21 rfl rfl rfl ?_
  unfold laws_bitsOfS at h
  refine WP_seq ?_
  refine WP_region ?_
  refine XL_q rfl (qt_assign rfl) rfl rfl ?_
  refine WL_nil_seq ?_
  refine WP_seq ?_
  refine WP_region ?_
  refine XL_q rfl (qt_assign rfl) rfl rfl ?_
  refine WL_nil_seq ?_
  refine WP_seq ?_
  refine WP_seq ?_
  refine WP_region ?_
  refine XL_q rfl (qt_assign rfl) rfl rfl ?_
  refine WL_nil_seq ?_
  refine WP_block ?_
  obtain ⟨o3, ho4, h⟩ := bind_some h
  refine fun a5 ha6 => wp_loop_fix (I := fun s a w2 => match s with | (s1, s2) => (Fr a 21 [(0, .int .i64 p0), (3, .int .i64 s1), (4, .int .i64 s2)] ∧ Holds (([] : List Res).flatMap Res.own) w w2 [] G)) (O := fun o e a w2 => match o with | q0 => e = .exit 0 ∧ (Fr a 21 [(3, .int .i64 q0)] ∧ Holds (([] : List Res).flatMap Res.own) w w2 [] G)) ho4 ?_ ?_ ?_
  · exact ⟨ha6.sub ⟨rfl, rfl, rfl, trivial⟩, H⟩
  · clear ha6
    intro s o9 a w7 hs8 hI10
    obtain ⟨s1, s2⟩ := s
    obtain ⟨ha, H11⟩ := hI10
    refine WP.app ?_ ha
    clear ha
    refine WP_seq ?_
    refine WP_seq ?_
    refine WP_region ?_
    refine XL_q rfl (qt_move rfl) rfl rfl ?_
    refine XL_q rfl (qt_lss rfl rfl) rfl rfl ?_
    refine WL_nil_seq ?_
    refine WP_cond rfl (fun hc12 => ?_) (fun hc12 => ?_)
    · have hs8 := if_t hc12 hs8
      refine WP_skip_seq ?_
      refine WP_seq ?_
      refine WP_block ?_
      refine WP_seq ?_
      refine WP_region ?_
      refine XL_q rfl (qt_move rfl) rfl rfl ?_
      refine XL_q rfl (qt_geq rfl rfl) rfl rfl ?_
      refine XL_q rfl (qt_move rfl) rfl rfl ?_
      obtain ⟨b13, hg14, hs8⟩ := bind_some hs8
      refine XL_join 6 17 (.bool b13) ?_ (fun md hmd hk => ?_)
      rotate_left
      · obtain ⟨Q, rfl⟩ := Md.seq_of hmd
        rcases btf (decide (p0 ≥ 0)) with hc15 | hc15
        · skip
          have hg14 := if_t hc15 hg14
          refine XL_q (w_take rfl hc15) (qt_move rfl) rfl rfl ?_
          refine XL_q (w_take rfl hc15) (qt_move rfl) rfl rfl ?_
          obtain ⟨x16, hx17, hg14⟩ := bind_some hg14
          refine XL_q (w_take rfl hc15) (qt_shrO rfl rfl hx17) rfl rfl ?_
          refine XL_q (w_take rfl hc15) (qt_rem rfl rfl (by decide)) rfl rfl ?_
          refine XL_q (w_take rfl hc15) (qt_eql rfl rfl) rfl rfl ?_
          refine XL_q rfl (qt_pickT rfl hc15 rfl) rfl rfl ?_
          exact hk _ (Cov.same (vb hg14) (Cov.fresh rfl (Cov.fresh rfl (Cov.fresh rfl (Cov.fresh rfl (Cov.fresh rfl (Cov.refl)))))))
        · skip
          refine XL_skip (w_skip rfl hc15) rfl rfl ?_
          refine XL_skip (w_skip rfl hc15) rfl rfl ?_
          refine XL_skip (w_skip rfl hc15) rfl rfl ?_
          refine XL_skip (w_skip rfl hc15) rfl rfl ?_
          refine XL_skip (w_skip rfl hc15) rfl rfl ?_
          refine XL_q rfl (qt_pickF rfl hc15 rfl) rfl rfl ?_
          exact hk _ (Cov.same (vb (if_f hc15 hg14)) (Cov.fresh rfl (Cov.fresh rfl (Cov.fresh rfl (Cov.fresh rfl (Cov.fresh rfl (Cov.refl)))))))
      refine WL_nil_seq ?_
      refine WP_cond rfl (fun hc18 => ?_) (fun hc18 => ?_)
      · have hs8 := if_t hc18 hs8
        refine WP_region ?_
        refine XL_q rfl (qt_move rfl) rfl rfl ?_
        refine XL_q rfl (qt_add rfl rfl) rfl rfl ?_
        refine XL_q rfl (qt_assign rfl) rfl rfl ?_
        refine WL_nil fun a ha => ?_
        refine nrm_block (nrm_seq (WP.app ?_ ha))
        refine WP_region ?_
        refine XL_q rfl (qt_move rfl) rfl rfl ?_
        refine XL_q rfl (qt_add rfl rfl) rfl rfl ?_
        refine XL_q rfl (qt_assign rfl) rfl rfl ?_
        refine WL_nil fun a ha => ?_
        obtain rfl := Option.some.inj hs8
        exact ⟨rfl, ha.sub ⟨rfl, rfl, rfl, trivial⟩, H11⟩
      · have hs8 := if_f hc18 hs8
        refine WP_skip fun a ha => ?_
        refine nrm_block (nrm_seq (WP.app ?_ ha))
        refine WP_region ?_
        refine XL_q rfl (qt_move rfl) rfl rfl ?_
        refine XL_q rfl (qt_add rfl rfl) rfl rfl ?_
        refine XL_q rfl (qt_assign rfl) rfl rfl ?_
        refine WL_nil fun a ha => ?_
        obtain rfl := Option.some.inj hs8
        exact ⟨rfl, ha.sub ⟨rfl, rfl, rfl, trivial⟩, H11⟩
    · have hs8 := if_f hc12 hs8
      refine WP_exit fun a ha => ?_
      obtain rfl := Option.some.inj hs8
      exact exit_seq (⟨exit_ne, rfl, ha.sub ⟨rfl, trivial⟩, H11⟩)
  · intro e a5 w19 hO20
    obtain ⟨p21, rfl⟩ : ∃ z, z = o3 := ⟨o3, rfl⟩
    obtain ⟨rfl, hO23⟩ := hO20
    obtain ⟨ha, H22⟩ := hO23
    refine exit_block_eq (nrm_seq (WP.app ?_ ha))
    refine WP_seq ?_
    refine WP_region ?_
    refine XL_q rfl (qt_move rfl) rfl rfl ?_
    refine XL_q rfl (qt_assign rfl) rfl rfl ?_
    refine WL_nil_seq ?_
    refine WP_ret fun a ha => ?_
    obtain rfl := Option.some.inj h
    exact ret1 rfl ha rfl ⟨rfl, H22⟩
theorem w_laws_FnDishesMany (w : World) (G : List Res) (vp0 : Value) (p0 : List Int) (hp0 : HasRo G (.int .u8) vp0 p0) (r : Bool) (h : laws_FnDishesManyS p0 = some r) (H : Ctx w G) : Calls Tryd.prog 3 #[vp0] w fun e w' => e = .returned (.bool r) ∧ Holds (([] : List Res).flatMap Res.own) w w' [] G := by
  have H : Holds (([] : List Res).flatMap Res.own) w w [] G := Holds.startN H
  refine calls_enter (args := [vp0]) (n := 43) Tryd.func3 rfl rfl rfl ?_
  unfold laws_FnDishesManyS at h
  refine WP_seq ?_
  refine WP_region ?_
  refine XL_q rfl (qt_assign rfl) rfl rfl ?_
  refine WL_nil_seq ?_
  refine WP_seq ?_
  refine WP_seq ?_
  refine WP_region ?_
  refine XL_q rfl (qt_move rfl) rfl rfl ?_
  refine XL_lenH H.ctx (t := (.int .u8)) (hp0.has) u22 rfl rfl rfl ?_
  refine XL_q rfl (qt_gtr rfl rfl) rfl rfl ?_
  refine WL_nil_seq ?_
  refine WP_cond rfl (fun hc1 => ?_) (fun hc1 => ?_)
  · have h := if_t hc1 h
    refine WP_seq ?_
    refine WP_region ?_
    refine XL_q rfl (qt_assign rfl) rfl rfl ?_
    refine WL_nil_seq ?_
    refine WP_ret fun a ha => ?_
    obtain rfl := Option.some.inj h
    exact ret_seq (ret1 rfl ha rfl ⟨rfl, H⟩)
  · have h := if_f hc1 h
    refine WP_skip_seq ?_
    refine WP_seq ?_
    refine WP_still ?_
    refine XL_q rfl (qt_move rfl) rfl rfl ?_
    obtain ⟨x2, hx3, h⟩ := bind_some h
    refine QL_call rfl rfl c17 (fun w' hb => (w_spec_DrawDishesMany w' G vp0 p0 (hp0) x2 hx3 (H.grow hb).ctx).mono fun e w'' hK => ⟨hK.1, hK.2.bel⟩) (by rfl) ?_
    refine XL_q rfl (qt_assign rfl) rfl rfl ?_
    refine QL_nil fun a ha w4 hb5 => ?_
    have H6 : Holds (([] : List Res).flatMap Res.own) w w4 [] G := H.grow hb5
    refine nrm_seq (WP.app ?_ ha)
    refine WP_seq ?_
    refine WP_still ?_
    refine XL_q rfl (qt_move rfl) rfl rfl ?_
    obtain ⟨x7, hx8, h⟩ := bind_some h
    refine QL_call rfl rfl c18 (fun w' hb => (w_impl_DishesMany w' G x2 x7 hx8 (H6.grow hb).ctx).mono fun e w'' hK => ⟨hK.1, hK.2.bel⟩) (by rfl) ?_
    refine XL_q rfl (qt_assign rfl) rfl rfl ?_
    refine QL_nil fun a ha w9 hb10 => ?_
    have H11 : Holds (([] : List Res).flatMap Res.own) w w9 [] G := H6.grow hb10
    refine nrm_seq (WP.app ?_ ha)
    refine WP_seq ?_
    refine WP_seq ?_
    refine WP_still ?_
    refine XL_q rfl (qt_move rfl) rfl rfl ?_
    refine XL_q rfl (qt_move rfl) rfl rfl ?_
    obtain ⟨x12, hx13, h⟩ := bind_some h
    refine QL_call rfl rfl c19 (fun w' hb => (w_spec_DishesMany w' G x2 x12 hx13 (H11.grow hb).ctx).mono fun e w'' hK => ⟨hK.1, hK.2.bel⟩) (by rfl) ?_
    refine XL_q rfl (qt_neq rfl rfl) rfl rfl ?_
    refine QL_nil fun a ha w14 hb15 => ?_
    have H16 : Holds (([] : List Res).flatMap Res.own) w w14 [] G := H11.grow hb15
    refine nrm_seq (WP.app ?_ ha)
    refine WP_cond rfl (fun hc17 => ?_) (fun hc17 => ?_)
    · have h := if_t hc17 h
      refine WP_seq ?_
      refine WP_region ?_
      refine XL_q rfl (qt_assign rfl) rfl rfl ?_
      refine WL_nil_seq ?_
      refine WP_ret fun a ha => ?_
      obtain rfl := Option.some.inj h
      exact ret_seq (ret1 rfl ha rfl ⟨rfl, H16⟩)
    · have h := if_f hc17 h
      refine WP_skip_seq ?_
      refine WP_seq ?_
      refine WP_seq ?_
      refine WP_region ?_
      refine XL_q rfl (qt_move rfl) rfl rfl ?_
      refine XL_q rfl (qt_lss rfl rfl) rfl rfl ?_
      refine WL_nil_seq ?_
      refine WP_cond rfl (fun hc18 => ?_) (fun hc18 => ?_)
      · have h := if_t hc18 h
        refine WP_seq ?_
        refine WP_still ?_
        refine XL_q rfl (qt_move rfl) rfl rfl ?_
        refine XL_q rfl (qt_eql rfl rfl) rfl rfl ?_
        refine XL_q rfl (qt_move rfl) rfl rfl ?_
        refine XL_join 3 23 (.bool ((x7 == (-1)) && (decide (x2 < 0)))) ?_ (fun md hmd hk => ?_)
        rotate_left
        · obtain ⟨K, rfl⟩ := Md.quiet_of hmd
          rcases btf (x7 == (-1)) with hc19 | hc19
          · skip
            refine XL_q (w_take rfl hc19) (qt_move rfl) rfl rfl ?_
            refine XL_q (w_take rfl hc19) (qt_lss rfl rfl) rfl rfl ?_
            refine XL_q rfl (qt_pickT rfl hc19 rfl) rfl rfl ?_
            exact hk _ (Cov.same (by rw [hc19]; rfl) (Cov.fresh rfl (Cov.fresh rfl (Cov.refl))))
          · skip
            refine XL_skip (w_skip rfl hc19) rfl rfl ?_
            refine XL_skip (w_skip rfl hc19) rfl rfl ?_
            refine XL_q rfl (qt_pickF rfl hc19 rfl) rfl rfl ?_
            exact hk _ (Cov.same (by rw [hc19]; rfl) (Cov.fresh rfl (Cov.fresh rfl (Cov.refl))))
        refine XL_q rfl (qt_move rfl) rfl rfl ?_
        obtain ⟨b20, hg21, h⟩ := bind_some h
        refine XL_join 2 26 (.bool b20) ?_ (fun md hmd hk => ?_)
        rotate_left
        · obtain ⟨K, rfl⟩ := Md.quiet_of hmd
          rcases btf ((x7 == (-1)) && (decide (x2 < 0))) with hc22 | hc22
          · skip
            have hg21 := if_t hc22 hg21
            obtain ⟨x23, hx24, hg21⟩ := bind_some hg21
            refine QL_call (w_take rfl hc22) rfl c20 (fun w' hb => (w_laws_alive w' G  x23 hx24 (H16.grow hb).ctx).mono fun e w'' hK => ⟨hK.1, hK.2.bel⟩) (by rfl) ?_
            refine XL_q rfl (qt_pickT rfl hc22 rfl) rfl rfl ?_
            exact hk _ (Cov.same (vb hg21) (Cov.fresh rfl (Cov.refl)))
          · skip
            refine XL_skip (w_skip rfl hc22) rfl rfl ?_
            refine XL_q rfl (qt_pickF rfl hc22 rfl) rfl rfl ?_
            exact hk _ (Cov.same (vb (if_f hc22 hg21)) (Cov.fresh rfl (Cov.refl)))
        refine XL_q rfl (qt_assign rfl) rfl rfl ?_
        refine QL_nil fun a ha w25 hb26 => ?_
        have H27 : Holds (([] : List Res).flatMap Res.own) w w25 [] G := H16.grow hb26
        refine nrm_seq (WP.app ?_ ha)
        refine WP_ret fun a ha => ?_
        obtain rfl := Option.some.inj h
        exact ret_seq (ret1 rfl ha rfl ⟨rfl, H27⟩)
      · have h := if_f hc18 h
        refine WP_skip_seq ?_
        refine WP_seq ?_
        refine WP_still ?_
        refine XL_q rfl (qt_move rfl) rfl rfl ?_
        refine XL_q rfl (qt_add rfl rfl) rfl rfl ?_
        obtain ⟨x28, hx29, h⟩ := bind_some h
        refine QL_call rfl rfl c18 (fun w' hb => (w_impl_DishesMany w' G (IntKind.wrap .i64 (x2 + 1048576)) x28 hx29 (H16.grow hb).ctx).mono fun e w'' hK => ⟨hK.1, hK.2.bel⟩) (by rfl) ?_
        refine XL_q rfl (qt_move rfl) rfl rfl ?_
        refine XL_q rfl (qt_add rfl rfl) rfl rfl ?_
        refine XL_q rfl (qt_eql rfl rfl) rfl rfl ?_
        refine XL_q rfl (qt_move rfl) rfl rfl ?_
        obtain ⟨b30, hg31, h⟩ := bind_some h
        refine XL_join 5 38 (.bool b30) ?_ (fun md hmd hk => ?_)
        rotate_left
        · obtain ⟨K, rfl⟩ := Md.quiet_of hmd
          rcases btf (x28 == (IntKind.wrap .i64 (x7 + 1))) with hc32 | hc32
          · skip
            have hg31 := if_t hc32 hg31
            refine XL_q (w_take rfl hc32) (qt_move rfl) rfl rfl ?_
            refine XL_q (w_take rfl hc32) (qt_move rfl) rfl rfl ?_
            obtain ⟨x33, hx34, hg31⟩ := bind_some hg31
            refine QL_call (w_take rfl hc32) rfl c21 (fun w' hb => (w_laws_bitsOf w' G x2 x33 hx34 (H16.grow hb).ctx).mono fun e w'' hK => ⟨hK.1, hK.2.bel⟩) (by rfl) ?_
            refine XL_q (w_take rfl hc32) (qt_eql rfl rfl) rfl rfl ?_
            refine XL_q rfl (qt_pickT rfl hc32 rfl) rfl rfl ?_
            exact hk _ (Cov.same (vb hg31) (Cov.fresh rfl (Cov.fresh rfl (Cov.fresh rfl (Cov.fresh rfl (Cov.refl))))))
          · skip
            refine XL_skip (w_skip rfl hc32) rfl rfl ?_
            refine XL_skip (w_skip rfl hc32) rfl rfl ?_
            refine XL_skip (w_skip rfl hc32) rfl rfl ?_
            refine XL_skip (w_skip rfl hc32) rfl rfl ?_
            refine XL_q rfl (qt_pickF rfl hc32 rfl) rfl rfl ?_
            exact hk _ (Cov.same (vb (if_f hc32 hg31)) (Cov.fresh rfl (Cov.fresh rfl (Cov.fresh rfl (Cov.fresh rfl (Cov.refl))))))
        refine XL_q rfl (qt_move rfl) rfl rfl ?_
        obtain ⟨b35, hg36, h⟩ := bind_some h
        refine XL_join 3 42 (.bool b35) ?_ (fun md hmd hk => ?_)
        rotate_left
        · obtain ⟨K, rfl⟩ := Md.quiet_of hmd
          rcases btf b30 with hc37 | hc37
          · skip
            have hg36 := if_t hc37 hg36
            obtain ⟨x38, hx39, hg36⟩ := bind_some hg36
            refine QL_call (w_take rfl hc37) rfl c18 (fun w' hb => (w_impl_DishesMany w' G 0 x38 hx39 (H16.grow hb).ctx).mono fun e w'' hK => ⟨hK.1, hK.2.bel⟩) (by rfl) ?_
            refine XL_q (w_take rfl hc37) (qt_eql rfl rfl) rfl rfl ?_
            refine XL_q rfl (qt_pickT rfl hc37 rfl) rfl rfl ?_
            exact hk _ (Cov.same (vb hg36) (Cov.fresh rfl (Cov.fresh rfl (Cov.refl))))
          · skip
            refine XL_skip (w_skip rfl hc37) rfl rfl ?_
            refine XL_skip (w_skip rfl hc37) rfl rfl ?_
            refine XL_q rfl (qt_pickF rfl hc37 rfl) rfl rfl ?_
            exact hk _ (Cov.same (vb (if_f hc37 hg36)) (Cov.fresh rfl (Cov.fresh rfl (Cov.refl))))
        refine XL_q rfl (qt_assign rfl) rfl rfl ?_
        refine QL_nil fun a ha w40 hb41 => ?_
        have H42 : Holds (([] : List Res).flatMap Res.own) w w40 [] G := H16.grow hb41
        refine nrm_seq (WP.app ?_ ha)
        refine WP_ret fun a ha => ?_
        obtain rfl := Option.some.inj h
        exact ret1 rfl ha rfl ⟨rfl, H42⟩
theorem w_spec_l1Join (w : World) (G : List Res) (p0 : Int) (p1 : Int) (r : Int) (h : spec_l1JoinS p0 p1 = some r) (H : Ctx w G) : Calls Tryd.prog 79 #[.int .i64 p0, .int .i64 p1] w fun e w' => e = .returned (.int .i64 r) ∧ Holds (([] : List Res).flatMap Res.own) w w' [] G := by
  have H : Holds (([] : List Res).flatMap Res.own) w w [] G := Holds.startN H
  refine calls_enter (args := [.int .i64 p0, .int .i64 p1]) (n := 30) Tryd.func79 rfl rfl rfl ?_
  unfold spec_l1JoinS at h
  refine WP_seq ?_
  refine WP_region ?_
  refine XL_q rfl (qt_assign rfl) rfl rfl ?_
  refine WL_nil_seq ?_
  refine WP_seq ?_
  refine WP_region ?_
  refine XL_q rfl (qt_assign rfl) rfl rfl ?_
  refine WL_nil_seq ?_
  refine WP_seq ?_
  refine WP_seq ?_
  refine WP_region ?_
  refine XL_q rfl (qt_assign rfl) rfl rfl ?_
  refine WL_nil_seq ?_
  refine WP_block ?_
  obtain ⟨o3, ho4, h⟩ := bind_some h
  refine fun a5 ha6 => wp_loop_fix (I := fun s a w2 => match s with | (s1, s2) => (Fr a 30 [(0, .int .i64 p0), (1, .int .i64 p1), (5, .int .i64 s1), (6, .int .i64 s2)] ∧ Holds (([] : List Res).flatMap Res.own) w w2 [] G)) (O := fun o e a w2 => match o with | q0 => e = .exit 0 ∧ (Fr a 30 [(5, .int .i64 q0)] ∧ Holds (([] : List Res).flatMap Res.own) w w2 [] G)) ho4 ?_ ?_ ?_
  · exact ⟨ha6.sub ⟨rfl, rfl, rfl, rfl, trivial⟩, H⟩
  · clear ha6
    intro s o9 a w7 hs8 hI10
    obtain ⟨s1, s2⟩ := s
    obtain ⟨ha, H11⟩ := hI10
    refine WP.app ?_ ha
    clear ha
    refine WP_seq ?_
    refine WP_seq ?_
    refine WP_region ?_
    refine XL_q rfl (qt_move rfl) rfl rfl ?_
    refine XL_q rfl (qt_move rfl) rfl rfl ?_
    refine XL_q rfl (qt_move rfl) rfl rfl ?_
    refine XL_q rfl (qt_max rfl rfl) rfl rfl ?_
    refine XL_q rfl (qt_leq rfl rfl) rfl rfl ?_
    refine WL_nil_seq ?_
    refine WP_cond rfl (fun hc12 => ?_) (fun hc12 => ?_)
    · have hs8 := if_t hc12 hs8
      refine WP_skip_seq ?_
      refine WP_seq ?_
      refine WP_block ?_
      refine WP_seq ?_
      refine WP_region ?_
      refine XL_q rfl (qt_move rfl) rfl rfl ?_
      refine XL_q rfl (qt_move rfl) rfl rfl ?_
      obtain ⟨x13, hx14, hs8⟩ := bind_some hs8
      refine XL_q rfl (qt_quoO rfl rfl hx14) rfl rfl ?_
      refine XL_q rfl (qt_rem rfl rfl (by decide)) rfl rfl ?_
      refine XL_q rfl (qt_eql rfl rfl) rfl rfl ?_
      refine XL_q rfl (qt_move rfl) rfl rfl ?_
      obtain ⟨b15, hg16, hs8⟩ := bind_some hs8
      refine XL_join 6 25 (.bool b15) ?_ (fun md hmd hk => ?_)
      rotate_left
      · obtain ⟨Q, rfl⟩ := Md.seq_of hmd
        rcases btf ((Int.tmod x13 2) == 1) with hc17 | hc17
        · skip
          refine XL_skip (w_skip rfl hc17) rfl rfl ?_
          refine XL_skip (w_skip rfl hc17) rfl rfl ?_
          refine XL_skip (w_skip rfl hc17) rfl rfl ?_
          refine XL_skip (w_skip rfl hc17) rfl rfl ?_
          refine XL_skip (w_skip rfl hc17) rfl rfl ?_
          refine XL_q rfl (qt_pickT rfl hc17 rfl) rfl rfl ?_
          exact hk _ (Cov.same (vb (if_t hc17 hg16)) (Cov.fresh rfl (Cov.fresh rfl (Cov.fresh rfl (Cov.fresh rfl (Cov.fresh rfl (Cov.refl)))))))
        · skip
          have hg16 := if_f hc17 hg16
          refine XL_q (w_take rfl hc17) (qt_move rfl) rfl rfl ?_
          refine XL_q (w_take rfl hc17) (qt_move rfl) rfl rfl ?_
          obtain ⟨x18, hx19, hg16⟩ := bind_some hg16
          refine XL_q (w_take rfl hc17) (qt_quoO rfl rfl hx19) rfl rfl ?_
          refine XL_q (w_take rfl hc17) (qt_rem rfl rfl (by decide)) rfl rfl ?_
          refine XL_q (w_take rfl hc17) (qt_eql rfl rfl) rfl rfl ?_
          refine XL_q rfl (qt_pickF rfl hc17 rfl) rfl rfl ?_
          exact hk _ (Cov.same (vb hg16) (Cov.fresh rfl (Cov.fresh rfl (Cov.fresh rfl (Cov.fresh rfl (Cov.fresh rfl (Cov.refl)))))))
      refine WL_nil_seq ?_
      refine WP_cond rfl (fun hc20 => ?_) (fun hc20 => ?_)
      · have hs8 := if_t hc20 hs8
        refine WP_region ?_
        refine XL_q rfl (qt_move rfl) rfl rfl ?_
        refine XL_q rfl (qt_move rfl) rfl rfl ?_
        refine XL_q rfl (qt_add rfl rfl) rfl rfl ?_
        refine XL_q rfl (qt_assign rfl) rfl rfl ?_
        refine WL_nil fun a ha => ?_
        refine nrm_block (nrm_seq (WP.app ?_ ha))
        refine WP_region ?_
        refine XL_q rfl (qt_move rfl) rfl rfl ?_
        refine XL_q rfl (qt_mul rfl rfl) rfl rfl ?_
        refine XL_q rfl (qt_assign rfl) rfl rfl ?_
        refine WL_nil fun a ha => ?_
        obtain rfl := Option.some.inj hs8
        exact ⟨rfl, ha.sub ⟨rfl, rfl, rfl, rfl, trivial⟩, H11⟩
      · have hs8 := if_f hc20 hs8
        refine WP_skip fun a ha => ?_
        refine nrm_block (nrm_seq (WP.app ?_ ha))
        refine WP_region ?_
        refine XL_q rfl (qt_move rfl) rfl rfl ?_
        refine XL_q rfl (qt_mul rfl rfl) rfl rfl ?_
        refine XL_q rfl (qt_assign rfl) rfl rfl ?_
        refine WL_nil fun a ha => ?_
        obtain rfl := Option.some.inj hs8
        exact ⟨rfl, ha.sub ⟨rfl, rfl, rfl, rfl, trivial⟩, H11⟩
    · have hs8 := if_f hc12 hs8
      refine WP_exit fun a ha => ?_
      obtain rfl := Option.some.inj hs8
      exact exit_seq (⟨exit_ne, rfl, ha.sub ⟨rfl, trivial⟩, H11⟩)
  · intro e a5 w21 hO22
    obtain ⟨p23, rfl⟩ : ∃ z, z = o3 := ⟨o3, rfl⟩
    obtain ⟨rfl, hO25⟩ := hO22
    obtain ⟨ha, H24⟩ := hO25
    refine exit_block_eq (nrm_seq (WP.app ?_ ha))
    refine WP_seq ?_
    refine WP_region ?_
    refine XL_q rfl (qt_move rfl) rfl rfl ?_
    refine XL_q rfl (qt_assign rfl) rfl rfl ?_
    refine WL_nil_seq ?_
    refine WP_ret fun a ha => ?_
    obtain rfl := Option.some.inj h
    exact ret1 rfl ha rfl ⟨rfl, H24⟩
theorem w_spec_l6Fed (w : World) (G : List Res) (vp0 : Value) (p0 : List Int) (hp0 : Has G (.int .i64) vp0 p0) (p1 : Int) (r : Int) (h : spec_l6FedS p0 p1 = some r) (H : Ctx w G) : Calls Tryd.prog 74 #[vp0, .int .i64 p1] w fun e w' => e = .returned (.int .i64 r) ∧ Holds (([] : List Res).flatMap Res.own) w w' [] G := by
  have H : Holds (([] : List Res).flatMap Res.own) w w [] G := Holds.startN H
  refine calls_enter (args := [vp0, .int .i64 p1]) (n := 25) Tryd.func74 rfl rfl rfl ?_
  unfold spec_l6FedS at h
  refine WP_seq ?_
  refine WP_region ?_
  refine XL_q rfl (qt_assign rfl) rfl rfl ?_
  refine WL_nil_seq ?_
  refine WP_seq ?_
  refine WP_region ?_
  refine XL_q rfl (qt_assign rfl) rfl rfl ?_
  refine WL_nil_seq ?_
  refine WP_seq ?_
  refine WP_seq ?_
  refine WP_region ?_
  refine XL_q rfl (qt_assign rfl) rfl rfl ?_
  refine WL_nil_seq ?_
  refine WP_block ?_
  obtain ⟨o3, ho4, h⟩ := bind_some h
  refine fun a5 ha6 => wp_loop_fix (I := fun s a w2 => match s with | (s1, s2) => (Fr a 25 [(0, vp0), (1, .int .i64 p1), (5, .int .i64 s1), (6, .int .i64 s2)] ∧ Holds (([] : List Res).flatMap Res.own) w w2 [] G)) (O := fun o e a w2 => match o with | q0 => e = .exit 0 ∧ (Fr a 25 [(5, .int .i64 q0)] ∧ Holds (([] : List Res).flatMap Res.own) w w2 [] G)) ho4 ?_ ?_ ?_
  · exact ⟨ha6.sub ⟨rfl, rfl, rfl, rfl, trivial⟩, H⟩
  · clear ha6
    intro s o9 a w7 hs8 hI10
    obtain ⟨s1, s2⟩ := s
    obtain ⟨ha, H11⟩ := hI10
    refine WP.app ?_ ha
    clear ha
    refine WP_seq ?_
    refine WP_seq ?_
    refine WP_region ?_
    refine XL_q rfl (qt_move rfl) rfl rfl ?_
    refine XL_q rfl (qt_move rfl) rfl rfl ?_
    refine XL_lenH H11.ctx (t := (.int .i64)) (hp0) u27 rfl rfl rfl ?_
    refine XL_q rfl (qt_lss rfl rfl) rfl rfl ?_
    refine WL_nil_seq ?_
    refine WP_cond rfl (fun hc12 => ?_) (fun hc12 => ?_)
    · have hs8 := if_t hc12 hs8
      refine WP_skip_seq ?_
      refine WP_seq ?_
      refine WP_block ?_
      refine WP_seq ?_
      refine WP_region ?_
      refine XL_q rfl (qt_move rfl) rfl rfl ?_
      refine XL_q rfl (qt_move rfl) rfl rfl ?_
      obtain ⟨x13, hx14, hs8⟩ := bind_some hs8
      refine XL_q rfl (qt_shrO rfl rfl hx14) rfl rfl ?_
      refine XL_q rfl (qt_rem rfl rfl (by decide)) rfl rfl ?_
      refine XL_q rfl (qt_eql rfl rfl) rfl rfl ?_
      refine WL_nil_seq ?_
      refine WP_cond rfl (fun hc15 => ?_) (fun hc15 => ?_)
      · have hs8 := if_t hc15 hs8
        refine WP_still ?_
        refine XL_q rfl (qt_move rfl) rfl rfl ?_
        refine XL_q rfl (qt_move rfl) rfl rfl ?_
        refine XL_q rfl (qt_move rfl) rfl rfl ?_
        obtain ⟨x16, hx17, hs8⟩ := bind_some hs8
        refine XL_indexH H11.ctx (hp0) hx17 u27 i3 rfl rfl rfl rfl (fun b18 off19 cap20 hv21 => ?_)
        obtain ⟨F22, hat23, hdup24⟩ := H11.at (hp0) hx17 hv21
        refine XL_load_int (k := .i64) u3 rfl hat23 rfl rfl rfl ?_
        obtain ⟨x25, hx26, hs8⟩ := bind_some hs8
        refine QL_call rfl rfl c79 (fun w' hb => (w_spec_l1Join w' G s1 x16 x25 hx26 (H11.grow hb).ctx).mono fun e w'' hK => ⟨hK.1, hK.2.bel⟩) (by rfl) ?_
        refine XL_q rfl (qt_assign rfl) rfl rfl ?_
        refine QL_nil fun a ha w27 hb28 => ?_
        have H29 : Holds (([] : List Res).flatMap Res.own) w w27 [] G := H11.grow hb28
        refine nrm_block (nrm_seq (WP.app ?_ ha))
        refine WP_region ?_
        refine XL_q rfl (qt_move rfl) rfl rfl ?_
        refine XL_q rfl (qt_add rfl rfl) rfl rfl ?_
        refine XL_q rfl (qt_assign rfl) rfl rfl ?_
        refine WL_nil fun a ha => ?_
        obtain rfl := Option.some.inj hs8
        exact ⟨rfl, ha.sub ⟨rfl, rfl, rfl, rfl, trivial⟩, H29⟩
      · have hs8 := if_f hc15 hs8
        refine WP_skip fun a ha => ?_
        refine nrm_block (nrm_seq (WP.app ?_ ha))
        refine WP_region ?_
        refine XL_q rfl (qt_move rfl) rfl rfl ?_
        refine XL_q rfl (qt_add rfl rfl) rfl rfl ?_
        refine XL_q rfl (qt_assign rfl) rfl rfl ?_
        refine WL_nil fun a ha => ?_
        obtain rfl := Option.some.inj hs8
        exact ⟨rfl, ha.sub ⟨rfl, rfl, rfl, rfl, trivial⟩, H11⟩
    · have hs8 := if_f hc12 hs8
      refine WP_exit fun a ha => ?_
      obtain rfl := Option.some.inj hs8
      exact exit_seq (⟨exit_ne, rfl, ha.sub ⟨rfl, trivial⟩, H11⟩)
  · intro e a5 w30 hO31
    obtain ⟨p32, rfl⟩ : ∃ z, z = o3 := ⟨o3, rfl⟩
    obtain ⟨rfl, hO34⟩ := hO31
    obtain ⟨ha, H33⟩ := hO34
    refine exit_block_eq (nrm_seq (WP.app ?_ ha))
    refine WP_seq ?_
    refine WP_region ?_
    refine XL_q rfl (qt_move rfl) rfl rfl ?_
    refine XL_q rfl (qt_assign rfl) rfl rfl ?_
    refine WL_nil_seq ?_
    refine WP_ret fun a ha => ?_
    obtain rfl := Option.some.inj h
    exact ret1 rfl ha rfl ⟨rfl, H33⟩
theorem w_spec_l20Rd__odd (w : World) (G : List Res) (bp0 : Nat) (vp0_0 : Value) (p0_0 : List Int) (hp0_0 : Has G (.int .u8) vp0_0 p0_0) (p0_1 : Int) (p1 : Int) (r : Int × Bool) (h : spec_l20Rd__oddS p0_0 p0_1 p1 = some r) (H : Ctx w ([.bx bp0 66 [vp0_0, .int .i64 p0_1]] ++ G)) : Calls Tryd.prog 78 #[.pointer (some ⟨bp0, 0, none⟩), .int .i64 p1] w fun e w' => e = .returned (.bool r.2) ∧ Holds (([.bx bp0 66 [vp0_0, .int .i64 p0_1]] : List Res).flatMap Res.own) w w' [.bx bp0 66 [vp0_0, .int .i64 r.1]] G := by
  have H : Holds (([.bx bp0 66 [vp0_0, .int .i64 p0_1]] : List Res).flatMap Res.own) w w [.bx bp0 66 [vp0_0, .int .i64 p0_1]] G := Holds.startN H
  refine calls_enter (args := [.pointer (some ⟨bp0, 0, none⟩), .int .i64 p1]) (n := 15) Tryd.func78 rfl rfl rfl ?_
  unfold spec_l20Rd__oddS at h
  refine WP_seq ?_
  refine WP_region ?_
  refine XL_q rfl (qt_assign rfl) rfl rfl ?_
  refine WL_nil_seq ?_
  refine WP_seq ?_
  refine WP_region ?_
  refine XL_q rfl (qt_move rfl) rfl rfl ?_
  refine XL_q rfl (qt_gtr rfl rfl) rfl rfl ?_
  refine XL_q rfl (qt_move rfl) rfl rfl ?_
  obtain ⟨o3, ho4, h⟩ := bind_some h
  obtain ⟨g1, b2⟩ := o3
  refine WL_cutM 7 (fun a w2 => (Fr a 15 [(0, .pointer (some ⟨bp0, 0, none⟩)), (14, .bool b2)] ∧ Holds (([.bx bp0 66 [vp0_0, .int .i64 p0_1]] : List Res).flatMap Res.own) w w2 [.bx bp0 66 [vp0_0, .int .i64 g1]] G)) ?_ ?_
  · rcases btf (decide (p1 > 0)) with hc5 | hc5
    · have ho4 := if_t hc5 ho4
      refine XL_q (w_take rfl hc5) (qt_move rfl) rfl rfl ?_
      refine XL_q (w_take rfl hc5) (qt_move rfl) rfl rfl ?_
      obtain ⟨x6, hx7, ho4⟩ := bind_some ho4
      refine WL_call (w_take rfl hc5) rfl c63 (w_spec_l20Rd__pick w G bp0 vp0_0 p0_0 (hp0_0) p0_1 p1 x6 hx7 H.ctx) (by rfl) ?_
      rintro _ w8 ⟨rfl, H9⟩; refine ⟨_, rfl, ?_⟩
      have H10 : Holds (([.bx bp0 66 [vp0_0, .int .i64 p0_1]] : List Res).flatMap Res.own) w w8 [.bx bp0 66 [vp0_0, .int .i64 x6.1]] G := H.calledN (Rs := [_]) H9
      refine XL_q (w_take rfl hc5) (qt_move rfl) rfl rfl ?_
      refine XL_q (w_take rfl hc5) (qt_sub rfl rfl) rfl rfl ?_
      refine XL_q (w_take rfl hc5) (qt_eql rfl rfl) rfl rfl ?_
      refine XL_q rfl (qt_pickT rfl hc5 rfl) rfl rfl ?_
      refine WL_nil fun a ha => ?_
      obtain ⟨rfl, rfl⟩ := Option.some.inj ho4 |> Prod.mk.inj
      exact nrm_seq ⟨ha.sub ⟨rfl, rfl, trivial⟩, H10⟩
    · have ho4 := if_f hc5 ho4
      refine XL_skip (w_skip rfl hc5) rfl rfl ?_
      refine XL_skip (w_skip rfl hc5) rfl rfl ?_
      refine XL_skip (w_skip rfl hc5) rfl rfl ?_
      refine XL_skip (w_skip rfl hc5) rfl rfl ?_
      refine XL_skip (w_skip rfl hc5) rfl rfl ?_
      refine XL_skip (w_skip rfl hc5) rfl rfl ?_
      refine XL_q rfl (qt_pickF rfl hc5 rfl) rfl rfl ?_
      refine WL_nil fun a ha => ?_
      obtain ⟨rfl, rfl⟩ := Option.some.inj ho4 |> Prod.mk.inj
      exact nrm_seq ⟨ha.sub ⟨rfl, rfl, trivial⟩, H⟩
  intro a w11 hI12
  obtain ⟨ha, H13⟩ := hI12
  refine SL_app ?_ ha
  clear ha
  refine XL_q rfl (qt_assign rfl) rfl rfl ?_
  refine WL_nil_seq ?_
  refine WP_ret fun a ha => ?_
  obtain rfl := Option.some.inj h
  exact ret1 rfl ha rfl ⟨rfl, H13⟩
theorem w_spec_l20Menu (w : World) (G : List Res) (bp0 : Nat) (vp0_0 : Value) (p0_0 : List Int) (hp0_0 : Has G (.int .u8) vp0_0 p0_0) (p0_1 : Int) (p1 : Int) (r : Int × Int × (List Int)) (h : spec_l20MenuS p0_0 p0_1 p1 = some r) (H : Ctx w ([.bx bp0 66 [vp0_0, .int .i64 p0_1]] ++ G)) : Calls Tryd.prog 67 #[.pointer (some ⟨bp0, 0, none⟩), .int .i64 p1] w fun e w' => ∃ (v1 : Value), e = .returned (.tuple #[.int .i64 r.2.1, v1]) ∧ Holds (([.bx bp0 66 [vp0_0, .int .i64 p0_1]] : List Res).flatMap Res.own) w w' [.sl 3 (.int .i64) v1 r.2.2, .bx bp0 66 [vp0_0, .int .i64 r.1]] G := by
  have H : Holds (([.bx bp0 66 [vp0_0, .int .i64 p0_1]] : List Res).flatMap Res.own) w w [.bx bp0 66 [vp0_0, .int .i64 p0_1]] G := Holds.startN H
  refine calls_enter (args := [.pointer (some ⟨bp0, 0, none⟩), .int .i64 p1]) (n := 82) Tryd.func67 rfl rfl rfl ?_
  unfold spec_l20MenuS at h
  refine WP_seq ?_
  refine WP_region ?_
  refine XL_q rfl (qt_assign rfl) rfl rfl ?_
  refine XL_q rfl (qt_assign rfl) rfl rfl ?_
  refine WL_nil_seq ?_
  refine WP_seq ?_
  refine WP_region ?_
  refine XL_q rfl (qt_move rfl) rfl rfl ?_
  obtain ⟨x1, hx2, h⟩ := bind_some h
  refine WL_call rfl rfl c63 (w_spec_l20Rd__pick w G bp0 vp0_0 p0_0 (hp0_0) p0_1 7 x1 hx2 H.ctx) (by rfl) ?_
  rintro _ w3 ⟨rfl, H4⟩; refine ⟨_, rfl, ?_⟩
  have H5 : Holds (([.bx bp0 66 [vp0_0, .int .i64 p0_1]] : List Res).flatMap Res.own) w w3 [.bx bp0 66 [vp0_0, .int .i64 x1.1]] G := H.calledN (Rs := [_]) H4
  refine XL_q rfl (qt_assign rfl) rfl rfl ?_
  refine WL_nil_seq ?_
  refine WP_seq ?_
  refine WP_region ?_
  refine WL_buildH (t := (.int .i64)) (args := []) (xs := ([] : List Int)) H5 (BltL.nil) u27 j3 rfl rfl rfl rfl rfl rfl (fun v6 w7 H8 => ?_)
  have H9 : Holds (([.bx bp0 66 [vp0_0, .int .i64 p0_1]] : List Res).flatMap Res.own) w w7 [.sl 3 (.int .i64) v6 ([]), .bx bp0 66 [vp0_0, .int .i64 x1.1]] G := H8
  refine XL_q rfl (qt_assign rfl) rfl rfl ?_
  refine WL_nil_seq ?_
  refine WP_seq ?_
  refine WP_seq ?_
  refine WP_region ?_
  refine XL_q rfl (qt_move rfl) rfl rfl ?_
  have H12 : Holds (([.bx bp0 66 [vp0_0, .int .i64 p0_1]] : List Res).flatMap Res.own) w w7 [.bx bp0 66 [vp0_0, .int .i64 x1.1], .sl 3 (.int .i64) v6 ([])] G := H9.pull 1
  obtain ⟨x10, hx11, h⟩ := bind_some h
  refine WL_call rfl rfl c63 (w_spec_l20Rd__pick w7 ([.sl 3 (.int .i64) v6 ([])] ++ G) bp0 vp0_0 p0_0 (hp0_0.c) x1.1 7 x10 hx11 H12.ctx) (by rfl) ?_
  rintro _ w13 ⟨rfl, H14⟩; refine ⟨_, rfl, ?_⟩
  have H15 : Holds (([.bx bp0 66 [vp0_0, .int .i64 p0_1]] : List Res).flatMap Res.own) w w13 [.bx bp0 66 [vp0_0, .int .i64 x10.1], .sl 3 (.int .i64) v6 ([])] G := H12.calledN (Rs := [_]) H14
  refine XL_q rfl (qt_assign rfl) rfl rfl ?_
  refine WL_nil_seq ?_
  refine WP_block ?_
  obtain ⟨o19, ho20, h⟩ := bind_some h
  have H23 : Holds (([.bx bp0 66 [vp0_0, .int .i64 p0_1]] : List Res).flatMap Res.own) w w13 [.bx bp0 66 [vp0_0, .int .i64 x10.1], .sl 3 (.int .i64) v6 ([])] G := ((H15.pull 1).pull 1)
  refine fun a21 ha22 => wp_loop_fix (I := fun s a w2 => match s with | (s16, s17, s18) => ∃ vs16, Fr a 82 [(0, .pointer (some ⟨bp0, 0, none⟩)), (1, .int .i64 p1), (6, .int .i64 x1.2), (7, vs16), (8, .int .i64 s17)] ∧ Holds (([.bx bp0 66 [vp0_0, .int .i64 p0_1]] : List Res).flatMap Res.own) w w2 [.bx bp0 66 [vp0_0, .int .i64 s18], .sl 3 (.int .i64) vs16 s16] G) (O := fun o e a w2 => match o with | (q0, q1) => e = .exit 0 ∧ ∃ vq0, Fr a 82 [(0, .pointer (some ⟨bp0, 0, none⟩)), (1, .int .i64 p1), (6, .int .i64 x1.2), (7, vq0)] ∧ Holds (([.bx bp0 66 [vp0_0, .int .i64 p0_1]] : List Res).flatMap Res.own) w w2 [.bx bp0 66 [vp0_0, .int .i64 q1], .sl 3 (.int .i64) vq0 q0] G) ho20 ?_ ?_ ?_
  · exact ⟨v6, ha22.sub ⟨rfl, rfl, rfl, rfl, rfl, trivial⟩, H23⟩
  · clear ha22
    intro s o26 a w24 hs25 hI27
    obtain ⟨s16, s17, s18⟩ := s
    obtain ⟨vs16, ha, H28⟩ := hI27
    refine WP.app ?_ ha
    clear ha
    refine WP_seq ?_
    refine WP_seq ?_
    refine WP_region ?_
    refine XL_q rfl (qt_move rfl) rfl rfl ?_
    refine XL_q rfl (qt_gtr rfl rfl) rfl rfl ?_
    refine WL_nil_seq ?_
    refine WP_cond rfl (fun hc29 => ?_) (fun hc29 => ?_)
    · have hs25 := if_t hc29 hs25
      refine WP_skip_seq ?_
      refine WP_seq ?_
      refine WP_block ?_
      refine WP_region ?_
      refine XL_q rfl (qt_move rfl) rfl rfl ?_
      refine XL_q rfl (qt_move rfl) rfl rfl ?_
      refine XL_q rfl (qt_move rfl) rfl rfl ?_
      obtain ⟨x30, hx31, hs25⟩ := bind_some hs25
      refine XL_q rfl (qt_shlO rfl rfl hx31) rfl rfl ?_
      obtain ⟨x32, hx33, hs25⟩ := bind_some hs25
      refine WL_call rfl rfl c63 (w_spec_l20Rd__pick w24 ([.sl 3 (.int .i64) vs16 s16] ++ G) bp0 vp0_0 p0_0 (hp0_0.c) s18 x30 x32 hx33 H28.ctx) (by rfl) ?_
      rintro _ w34 ⟨rfl, H35⟩; refine ⟨_, rfl, ?_⟩
      have H36 : Holds (([.bx bp0 66 [vp0_0, .int .i64 p0_1]] : List Res).flatMap Res.own) w w34 [.bx bp0 66 [vp0_0, .int .i64 x32.1], .sl 3 (.int .i64) vs16 s16] G := H28.calledN (Rs := [_]) H35
      refine WL_buildH (t := (.int .i64)) (args := [.tmp 23]) (xs := ([x32.2] : List Int)) H36 (BltL.cons (Blt.int) rfl (BltL.nil)) u27 j3 rfl rfl rfl rfl rfl rfl (fun v37 w38 H39 => ?_)
      have H40 : Holds (([.bx bp0 66 [vp0_0, .int .i64 p0_1]] : List Res).flatMap Res.own) w w38 [.sl 3 (.int .i64) v37 ([x32.2]), .bx bp0 66 [vp0_0, .int .i64 x32.1], .sl 3 (.int .i64) vs16 s16] G := H39
      have H41 : Holds (([.bx bp0 66 [vp0_0, .int .i64 p0_1]] : List Res).flatMap Res.own) w w38 [.sl 3 (.int .i64) vs16 s16, .sl 3 (.int .i64) v37 ([x32.2]), .bx bp0 66 [vp0_0, .int .i64 x32.1]] G := H40.pull 2
      obtain ⟨x42, hx43, hs25⟩ := bind_some hs25
      refine WL_appendH H41 (Has.c (Has.hd)) hx43 u27 j3 rfl rfl rfl rfl rfl rfl (fun v44 w45 H46 => ?_)
      have H47 : Holds (([.bx bp0 66 [vp0_0, .int .i64 p0_1]] : List Res).flatMap Res.own) w w45 [.sl 3 (.int .i64) v44 x42, .sl 3 (.int .i64) v37 ([x32.2]), .bx bp0 66 [vp0_0, .int .i64 x32.1]] G := H46
      refine XL_q rfl (qt_assign rfl) rfl rfl ?_
      refine WL_nil fun a ha => ?_
      refine nrm_block (nrm_seq (WP.app ?_ ha))
      refine WP_region ?_
      refine XL_q rfl (qt_move rfl) rfl rfl ?_
      refine XL_q rfl (qt_sub rfl rfl) rfl rfl ?_
      refine XL_q rfl (qt_assign rfl) rfl rfl ?_
      refine WL_nil fun a ha => ?_
      obtain rfl := Option.some.inj hs25
      have H48 : Holds (([.bx bp0 66 [vp0_0, .int .i64 p0_1]] : List Res).flatMap Res.own) w w45 [.bx bp0 66 [vp0_0, .int .i64 x32.1], .sl 3 (.int .i64) v44 x42] G := ((H47.cut 1).pull 1)
      exact ⟨rfl, v44, ha.sub ⟨rfl, rfl, rfl, rfl, rfl, trivial⟩, H48⟩
    · have hs25 := if_f hc29 hs25
      refine WP_exit fun a ha => ?_
      obtain rfl := Option.some.inj hs25
      have H49 : Holds (([.bx bp0 66 [vp0_0, .int .i64 p0_1]] : List Res).flatMap Res.own) w w24 [.bx bp0 66 [vp0_0, .int .i64 s18], .sl 3 (.int .i64) vs16 s16] G := ((H28.pull 1).pull 1)
      exact exit_seq (⟨exit_ne, rfl, vs16, ha.sub ⟨rfl, rfl, rfl, rfl, trivial⟩, H49⟩)
  · intro e a21 w50 hO51
    obtain ⟨p52, p53⟩ := o19
    obtain ⟨rfl, hO55⟩ := hO51
    obtain ⟨vp52, ha, H54⟩ := hO55
    refine exit_block_eq (nrm_seq (WP.app ?_ ha))
    refine WP_seq ?_
    refine WP_seq ?_
    refine WP_region ?_
    refine XL_q rfl (qt_move rfl) rfl rfl ?_
    refine XL_lenH H54.ctx (t := (.int .i64)) (Has.c (Has.hd)) u27 rfl rfl rfl ?_
    refine XL_q rfl (qt_gtr rfl rfl) rfl rfl ?_
    refine XL_q rfl (qt_move rfl) rfl rfl ?_
    obtain ⟨o58, ho59, h⟩ := bind_some h
    obtain ⟨g56, b57⟩ := o58
    refine WL_cutM 4 (fun a w2 => (Fr a 82 [(0, .pointer (some ⟨bp0, 0, none⟩)), (1, .int .i64 p1), (6, .int .i64 x1.2), (7, vp52), (33, .bool b57)] ∧ Holds (([.bx bp0 66 [vp0_0, .int .i64 p0_1]] : List Res).flatMap Res.own) w w2 [.bx bp0 66 [vp0_0, .int .i64 g56], .sl 3 (.int .i64) vp52 p52] G)) ?_ ?_
    · rcases btf (decide ((List.length p52 : Int) > 0)) with hc60 | hc60
      · have ho59 := if_t hc60 ho59
        refine XL_q (w_take rfl hc60) (qt_move rfl) rfl rfl ?_
        obtain ⟨x61, hx62, ho59⟩ := bind_some ho59
        refine WL_call (w_take rfl hc60) rfl c63 (w_spec_l20Rd__pick w50 ([.sl 3 (.int .i64) vp52 p52] ++ G) bp0 vp0_0 p0_0 (hp0_0.c) p53 3 x61 hx62 H54.ctx) (by rfl) ?_
        rintro _ w63 ⟨rfl, H64⟩; refine ⟨_, rfl, ?_⟩
        have H65 : Holds (([.bx bp0 66 [vp0_0, .int .i64 p0_1]] : List Res).flatMap Res.own) w w63 [.bx bp0 66 [vp0_0, .int .i64 x61.1], .sl 3 (.int .i64) vp52 p52] G := H54.calledN (Rs := [_]) H64
        refine XL_q (w_take rfl hc60) (qt_gtr rfl rfl) rfl rfl ?_
        refine XL_q rfl (qt_pickT rfl hc60 rfl) rfl rfl ?_
        refine WL_nil fun a ha => ?_
        obtain ⟨rfl, rfl⟩ := Option.some.inj ho59 |> Prod.mk.inj
        have H66 : Holds (([.bx bp0 66 [vp0_0, .int .i64 p0_1]] : List Res).flatMap Res.own) w w63 [.bx bp0 66 [vp0_0, .int .i64 x61.1], .sl 3 (.int .i64) vp52 p52] G := ((H65.pull 1).pull 1)
        exact nrm_seq ⟨ha.sub ⟨rfl, rfl, rfl, rfl, rfl, trivial⟩, H66⟩
      · have ho59 := if_f hc60 ho59
        refine XL_skip (w_skip rfl hc60) rfl rfl ?_
        refine XL_skip (w_skip rfl hc60) rfl rfl ?_
        refine XL_skip (w_skip rfl hc60) rfl rfl ?_
        refine XL_q rfl (qt_pickF rfl hc60 rfl) rfl rfl ?_
        refine WL_nil fun a ha => ?_
        obtain ⟨rfl, rfl⟩ := Option.some.inj ho59 |> Prod.mk.inj
        have H67 : Holds (([.bx bp0 66 [vp0_0, .int .i64 p0_1]] : List Res).flatMap Res.own) w w50 [.bx bp0 66 [vp0_0, .int .i64 p53], .sl 3 (.int .i64) vp52 p52] G := ((H54.pull 1).pull 1)
        exact nrm_seq ⟨ha.sub ⟨rfl, rfl, rfl, rfl, rfl, trivial⟩, H67⟩
    intro a w68 hI69
    obtain ⟨ha, H70⟩ := hI69
    refine SL_app ?_ ha
    clear ha
    refine WL_nil_seq ?_
    obtain ⟨o72, ho73, h⟩ := bind_some h
    obtain ⟨j71, rfl⟩ : ∃ z, z = o72 := ⟨o72, rfl⟩
    refine WP_join (M := fun a w2 => ∃ vj71, Fr a 82 [(0, .pointer (some ⟨bp0, 0, none⟩)), (1, .int .i64 p1), (6, .int .i64 x1.2), (7, vj71)] ∧ Holds (([.bx bp0 66 [vp0_0, .int .i64 p0_1]] : List Res).flatMap Res.own) w w2 [.bx bp0 66 [vp0_0, .int .i64 g56], .sl 3 (.int .i64) vj71 j71] G) ?_ ?_
    · refine WP_cond rfl (fun hc74 => ?_) (fun hc74 => ?_)
      · have ho73 := if_t hc74 ho73
        refine WP_seq ?_
        refine WP_quiet (by kernel_rfl) (by kernel_rfl) ?_
        refine XL_q rfl (qt_move rfl) rfl rfl ?_
        obtain ⟨x75, hx76, ho73⟩ := bind_some ho73
        refine XL_q rfl (qt_shlO rfl rfl hx76) rfl rfl ?_
        refine XL_q rfl (qt_sub rfl rfl) rfl rfl ?_
        refine XL_q rfl (qt_move rfl) rfl rfl ?_
        refine XL_q rfl (qt_move rfl) rfl rfl ?_
        refine XL_lenH H70.ctx (t := (.int .i64)) (Has.c (Has.hd)) u27 rfl rfl rfl ?_
        obtain ⟨x77, hx78, ho73⟩ := bind_some ho73
        refine XL_q rfl (qt_shlO rfl rfl hx78) rfl rfl ?_
        refine XL_q rfl (qt_sub rfl rfl) rfl rfl ?_
        obtain ⟨x79, hx80, ho73⟩ := bind_some ho73
        refine QL_call rfl rfl c74 (fun w' hb => (w_spec_l6Fed w' ([.bx bp0 66 [vp0_0, .int .i64 g56], .sl 3 (.int .i64) vp52 p52] ++ G) vp52 p52 (Has.c (Has.hd)) (IntKind.wrap .i64 (x77 - 1)) x79 hx80 (H70.grow hb).ctx).mono fun e w'' hK => ⟨hK.1, hK.2.bel⟩) (by rfl) ?_
        refine XL_q rfl (qt_sub rfl rfl) rfl rfl ?_
        refine XL_q rfl (qt_assign rfl) rfl rfl ?_
        refine QL_nil fun a ha w81 hb82 => ?_
        have H83 : Holds (([.bx bp0 66 [vp0_0, .int .i64 p0_1]] : List Res).flatMap Res.own) w w81 [.bx bp0 66 [vp0_0, .int .i64 g56], .sl 3 (.int .i64) vp52 p52] G := H70.grow hb82
        refine nrm_seq (WP.app ?_ ha)
        refine WP_region ?_
        refine XL_q rfl (qt_move rfl) rfl rfl ?_
        refine XL_q rfl (qt_move rfl) rfl rfl ?_
        refine XL_lenH H83.ctx (t := (.int .i64)) (Has.c (Has.hd)) u27 rfl rfl rfl ?_
        refine XL_q rfl (qt_sub rfl rfl) rfl rfl ?_
        refine XL_q rfl (qt_move rfl) rfl rfl ?_
        refine XL_q rfl (qt_move rfl) rfl rfl ?_
        refine XL_lenH H83.ctx (t := (.int .i64)) (Has.c (Has.hd)) u27 rfl rfl rfl ?_
        refine XL_q rfl (qt_sub rfl rfl) rfl rfl ?_
        obtain ⟨x84, hx85, ho73⟩ := bind_some ho73
        refine XL_indexH H83.ctx (Has.c (Has.hd)) hx85 u27 i3 rfl rfl rfl rfl (fun b86 off87 cap88 hv89 => ?_)
        obtain ⟨F90, hat91, hdup92⟩ := H83.at (Has.c (Has.hd)) hx85 hv89
        refine XL_load_int (k := .i64) u3 rfl hat91 rfl rfl rfl ?_
        refine XL_q rfl (qt_move rfl) rfl rfl ?_
        obtain ⟨x93, hx94, ho73⟩ := bind_some ho73
        refine WL_call rfl rfl c79 (w_spec_l1Join w81 ([.bx bp0 66 [vp0_0, .int .i64 g56], .sl 3 (.int .i64) vp52 p52] ++ G) x84 (IntKind.wrap .i64 ((IntKind.wrap .i64 (x75 - 1)) - x79)) x93 hx94 H83.ctx) (by rfl) ?_
        rintro _ w95 ⟨rfl, H96⟩; refine ⟨_, rfl, ?_⟩
        have H97 : Holds (([.bx bp0 66 [vp0_0, .int .i64 p0_1]] : List Res).flatMap Res.own) w w95 [.bx bp0 66 [vp0_0, .int .i64 g56], .sl 3 (.int .i64) vp52 p52] G := H83.calledN (Rs := []) H96
        obtain ⟨x98, hx99, ho73⟩ := bind_some ho73
        refine XL_indexH H97.ctx (Has.c (Has.hd)) hx99 u27 i3 rfl rfl rfl rfl (fun b100 off101 cap102 hv103 => ?_)
        have H104 : Holds (([.bx bp0 66 [vp0_0, .int .i64 p0_1]] : List Res).flatMap Res.own) w w95 [.sl 3 (.int .i64) vp52 p52, .bx bp0 66 [vp0_0, .int .i64 g56]] G := H97.pull 1
        refine WL_storeH (fo := 0) (cs' := [.int .i64 x93]) H104 hx99 hv103 (Upd.whole (Blt.int)) rfl il3 rfl rfl rfl rfl (fun w105 H106 => ?_)
        have H107 : Holds (([.bx bp0 66 [vp0_0, .int .i64 p0_1]] : List Res).flatMap Res.own) w w105 [.sl 3 (.int .i64) vp52 (List.set p52 (Int.toNat (IntKind.wrap .i64 ((List.length p52 : Int) - 1))) x93), .bx bp0 66 [vp0_0, .int .i64 g56]] G := H106
        refine WL_nil fun a ha => ?_
        obtain rfl := Option.some.inj ho73
        have H108 : Holds (([.bx bp0 66 [vp0_0, .int .i64 p0_1]] : List Res).flatMap Res.own) w w105 [.bx bp0 66 [vp0_0, .int .i64 g56], .sl 3 (.int .i64) vp52 (List.set p52 (Int.toNat (IntKind.wrap .i64 ((List.length p52 : Int) - 1))) x93)] G := (H107.pull 1)
        exact nrm_seq (⟨vp52, ha.sub ⟨rfl, rfl, rfl, rfl, trivial⟩, H108⟩)
      · have ho73 := if_f hc74 ho73
        refine WP_skip fun a ha => ?_
        obtain rfl := Option.some.inj ho73
        have H109 : Holds (([.bx bp0 66 [vp0_0, .int .i64 p0_1]] : List Res).flatMap Res.own) w w68 [.bx bp0 66 [vp0_0, .int .i64 g56], .sl 3 (.int .i64) vp52 p52] G := ((H70.pull 1).pull 1)
        exact nrm_seq (⟨vp52, ha.sub ⟨rfl, rfl, rfl, rfl, trivial⟩, H109⟩)
    · intro a w110 hI111
      obtain ⟨vj71, ha, H112⟩ := hI111
      refine WP.app ?_ ha
      clear ha
      refine WP_seq ?_
      refine WP_seq ?_
      refine WP_region ?_
      refine XL_q rfl (qt_move rfl) rfl rfl ?_
      refine XL_q rfl (qt_move rfl) rfl rfl ?_
      obtain ⟨x113, hx114, h⟩ := bind_some h
      refine WL_call rfl rfl c78 (w_spec_l20Rd__odd w110 ([.sl 3 (.int .i64) vj71 j71] ++ G) bp0 vp0_0 p0_0 (hp0_0.c) g56 p1 x113 hx114 H112.ctx) (by rfl) ?_
      rintro _ w115 ⟨rfl, H116⟩; refine ⟨_, rfl, ?_⟩
      have H117 : Holds (([.bx bp0 66 [vp0_0, .int .i64 p0_1]] : List Res).flatMap Res.own) w w115 [.bx bp0 66 [vp0_0, .int .i64 x113.1], .sl 3 (.int .i64) vj71 j71] G := H112.calledN (Rs := [_]) H116
      refine WL_nil_seq ?_
      refine WP_cond rfl (fun hc118 => ?_) (fun hc118 => ?_)
      · have h := if_t hc118 h
        refine WP_seq ?_
        refine WP_region ?_
        refine XL_q rfl (qt_move rfl) rfl rfl ?_
        obtain ⟨x119, hx120, h⟩ := bind_some h
        refine WL_call rfl rfl c63 (w_spec_l20Rd__pick w115 ([.sl 3 (.int .i64) vj71 j71] ++ G) bp0 vp0_0 p0_0 (hp0_0.c) x113.1 3 x119 hx120 H117.ctx) (by rfl) ?_
        rintro _ w121 ⟨rfl, H122⟩; refine ⟨_, rfl, ?_⟩
        have H123 : Holds (([.bx bp0 66 [vp0_0, .int .i64 p0_1]] : List Res).flatMap Res.own) w w121 [.bx bp0 66 [vp0_0, .int .i64 x119.1], .sl 3 (.int .i64) vj71 j71] G := H117.calledN (Rs := [_]) H122
        refine WL_nil_seq ?_
        refine WP_block ?_
        refine WP_seq ?_
        refine WP_region ?_
        refine XL_q rfl (qt_eql rfl rfl) rfl rfl ?_
        refine XL_q rfl (qt_assign rfl) rfl rfl ?_
        refine WL_nil_seq ?_
        refine WP_cond rfl (fun hc124 => ?_) (fun hc124 => ?_)
        · have h := if_t hc124 h
          refine WP_seq ?_
          refine WP_region ?_
          refine WL_buildH (t := (.int .i64)) (args := [.const (.int .i64 (-1)), .const (.int .i64 7)]) (xs := ([(-1), 7] : List Int)) H123 (BltL.cons (Blt.int) rfl (BltL.cons (Blt.int) rfl (BltL.nil))) u27 j3 rfl rfl rfl rfl rfl rfl (fun v125 w126 H127 => ?_)
          have H128 : Holds (([.bx bp0 66 [vp0_0, .int .i64 p0_1]] : List Res).flatMap Res.own) w w126 [.sl 3 (.int .i64) v125 ([(-1), 7]), .bx bp0 66 [vp0_0, .int .i64 x119.1], .sl 3 (.int .i64) vj71 j71] G := H127
          refine XL_q rfl (qt_move rfl) rfl rfl ?_
          have H131 : Holds (([.bx bp0 66 [vp0_0, .int .i64 p0_1]] : List Res).flatMap Res.own) w w126 [.bx bp0 66 [vp0_0, .int .i64 x119.1], .sl 3 (.int .i64) v125 ([(-1), 7]), .sl 3 (.int .i64) vj71 j71] G := H128.pull 1
          obtain ⟨x129, hx130, h⟩ := bind_some h
          refine WL_call rfl rfl c63 (w_spec_l20Rd__pick w126 ([.sl 3 (.int .i64) v125 ([(-1), 7]), .sl 3 (.int .i64) vj71 j71] ++ G) bp0 vp0_0 p0_0 (hp0_0.c.c) x119.1 2 x129 hx130 H131.ctx) (by rfl) ?_
          rintro _ w132 ⟨rfl, H133⟩; refine ⟨_, rfl, ?_⟩
          have H134 : Holds (([.bx bp0 66 [vp0_0, .int .i64 p0_1]] : List Res).flatMap Res.own) w w132 [.bx bp0 66 [vp0_0, .int .i64 x129.1], .sl 3 (.int .i64) v125 ([(-1), 7]), .sl 3 (.int .i64) vj71 j71] G := H131.calledN (Rs := [_]) H133
          obtain ⟨x135, hx136, h⟩ := bind_some h
          refine XL_indexH H134.ctx (Has.c (Has.hd)) hx136 u27 i3 rfl rfl rfl rfl (fun b137 off138 cap139 hv140 => ?_)
          obtain ⟨F141, hat142, hdup143⟩ := H134.at (Has.c (Has.hd)) hx136 hv140
          refine XL_load_int (k := .i64) u3 rfl hat142 rfl rfl rfl ?_
          refine XL_q rfl (qt_move rfl) rfl rfl ?_
          refine XL_q rfl (qt_assign rfl) rfl rfl ?_
          refine XL_q rfl (qt_assign rfl) rfl rfl ?_
          refine WL_nil_seq ?_
          refine WP_ret fun a ha => ?_
          obtain rfl := Option.some.inj h
          have H144 : Holds (([.bx bp0 66 [vp0_0, .int .i64 p0_1]] : List Res).flatMap Res.own) w w132 [.sl 3 (.int .i64) vj71 j71, .bx bp0 66 [vp0_0, .int .i64 x129.1]] G := ((H134.cut 1).pull 1)
          exact ret_block (ret_seq (ret2 rfl ha rfl rfl ⟨vj71, rfl, H144⟩))
        · have h := if_f hc124 h
          refine WP_seq ?_
          refine WP_region ?_
          refine XL_q rfl (qt_eql rfl rfl) rfl rfl ?_
          refine XL_q rfl (qt_assign rfl) rfl rfl ?_
          refine WL_nil_seq ?_
          refine WP_cond rfl (fun hc145 => ?_) (fun hc145 => ?_)
          · have h := if_t hc145 h
            refine WP_seq ?_
            refine WP_region ?_
            refine XL_q rfl (qt_move rfl) rfl rfl ?_
            refine XL_q rfl (qt_move rfl) rfl rfl ?_
            refine XL_q rfl (qt_move rfl) rfl rfl ?_
            obtain ⟨x146, hx147, h⟩ := bind_some h
            refine XL_q rfl (qt_shlO rfl rfl hx147) rfl rfl ?_
            refine WL_buildH (t := (.int .i64)) (args := [.tmp 77]) (xs := ([x146] : List Int)) H123 (BltL.cons (Blt.int) rfl (BltL.nil)) u27 j3 rfl rfl rfl rfl rfl rfl (fun v148 w149 H150 => ?_)
            have H151 : Holds (([.bx bp0 66 [vp0_0, .int .i64 p0_1]] : List Res).flatMap Res.own) w w149 [.sl 3 (.int .i64) v148 ([x146]), .bx bp0 66 [vp0_0, .int .i64 x119.1], .sl 3 (.int .i64) vj71 j71] G := H150
            have H152 : Holds (([.bx bp0 66 [vp0_0, .int .i64 p0_1]] : List Res).flatMap Res.own) w w149 [.sl 3 (.int .i64) vj71 j71, .sl 3 (.int .i64) v148 ([x146]), .bx bp0 66 [vp0_0, .int .i64 x119.1]] G := H151.pull 2
            obtain ⟨x153, hx154, h⟩ := bind_some h
            refine WL_appendH H152 (Has.c (Has.hd)) hx154 u27 j3 rfl rfl rfl rfl rfl rfl (fun v155 w156 H157 => ?_)
            have H158 : Holds (([.bx bp0 66 [vp0_0, .int .i64 p0_1]] : List Res).flatMap Res.own) w w156 [.sl 3 (.int .i64) v155 x153, .sl 3 (.int .i64) v148 ([x146]), .bx bp0 66 [vp0_0, .int .i64 x119.1]] G := H157
            refine XL_q rfl (qt_assign rfl) rfl rfl ?_
            refine XL_q rfl (qt_assign rfl) rfl rfl ?_
            refine WL_nil_seq ?_
            refine WP_ret fun a ha => ?_
            obtain rfl := Option.some.inj h
            have H159 : Holds (([.bx bp0 66 [vp0_0, .int .i64 p0_1]] : List Res).flatMap Res.own) w w156 [.sl 3 (.int .i64) v155 x153, .bx bp0 66 [vp0_0, .int .i64 x119.1]] G := (((H158.cut 1).pull 1).pull 1)
            exact ret_block (ret_seq (ret2 rfl ha rfl rfl ⟨v155, rfl, H159⟩))
          · have h := if_f hc145 h
            refine WP_seq ?_
            obtain ⟨x160, hx161, h⟩ := bind_some h
            refine WP_join (M := fun a w2 => ∃ vz159_0, Fr a 82 [(0, .pointer (some ⟨bp0, 0, none⟩)), (4, .int .i64 x1.2), (5, vz159_0)] ∧ Holds (([.bx bp0 66 [vp0_0, .int .i64 p0_1]] : List Res).flatMap Res.own) w w2 [.bx bp0 66 [vp0_0, .int .i64 x119.1], .sl 3 (.int .i64) vz159_0 x160] G) ?_ ?_
            · refine WP_anyM (by kernel_rfl) (fun w360 hb361 => ?_)
              have H363 : Holds (([.bx bp0 66 [vp0_0, .int .i64 p0_1]] : List Res).flatMap Res.own) w w360 [.bx bp0 66 [vp0_0, .int .i64 x119.1], .sl 3 (.int .i64) vj71 j71] G := H123.grow hb361
              have K362 : Holds (([] : List Res).flatMap Res.own) w360 w360 [] ([.bx bp0 66 [vp0_0, .int .i64 x119.1], .sl 3 (.int .i64) vj71 j71] ++ G) := Holds.startN (Rs := []) H363.ctx
              refine XA_take 0 rfl (by kernel_rfl) (by kernel_rfl) (by kernel_rfl) K362.bel rfl (qt_move rfl) rfl rfl ?_
              refine XA_take 2 rfl (by kernel_rfl) (by kernel_rfl) (by kernel_rfl) K362.bel rfl (qt_assign rfl) rfl rfl ?_
              refine XA_all [1] (by kernel_rfl) (by simp) (allc ?_ alln)
              · refine XA_do rfl ?_
                refine WL_makeH K362 hx161 u27 j3 rfl (fun _ => ⟨rfl, rfl⟩) rfl rfl rfl rfl rfl (fun v364 w365 H366 => ?_)
                have H367 : Holds (([] : List Res).flatMap Res.own) w360 w365 [.sl 3 (.int .i64) v364 x160] ([.bx bp0 66 [vp0_0, .int .i64 x119.1], .sl 3 (.int .i64) vj71 j71] ++ G) := H366
                refine WL_nil fun a ha => ⟨rfl, H367.bel, (?_ : XA _ _ _ _ _ _ _ _ _) a ha⟩
                refine XA_take 3 rfl (by kernel_rfl) (by kernel_rfl) (by kernel_rfl) H367.bel rfl (qt_assign rfl) rfl rfl ?_
                refine XA_done (by kernel_rfl) (fun a ha => ?_)
                have H368 : Holds (([.bx bp0 66 [vp0_0, .int .i64 p0_1]] : List Res).flatMap Res.own) w w365 [.sl 3 (.int .i64) v364 x160, .bx bp0 66 [vp0_0, .int .i64 x119.1], .sl 3 (.int .i64) vj71 j71] G := H363.calledN (Rs := []) H367
                have H369 : Holds (([.bx bp0 66 [vp0_0, .int .i64 p0_1]] : List Res).flatMap Res.own) w w365 [.bx bp0 66 [vp0_0, .int .i64 x119.1], .sl 3 (.int .i64) v364 x160] G := ((H368.cut 2).pull 1)
                exact ⟨v364, ha.sub ⟨rfl, rfl, rfl, trivial⟩, H369⟩
            · intro a w370 hI371
              obtain ⟨vz159_0, ha, H372⟩ := hI371
              refine WP.app ?_ ha
              clear ha
              refine WP_ret fun a ha => ?_
              obtain rfl := Option.some.inj h
              have H373 : Holds (([.bx bp0 66 [vp0_0, .int .i64 p0_1]] : List Res).flatMap Res.own) w w370 [.sl 3 (.int .i64) vz159_0 x160, .bx bp0 66 [vp0_0, .int .i64 x119.1]] G := (H372.pull 1)
              exact ret_block (ret_seq (ret2 rfl ha rfl rfl ⟨vz159_0, rfl, H373⟩))
      · have h := if_f hc118 h
        refine WP_skip_seq ?_
        refine WP_seq ?_
        refine WP_region ?_
        refine XL_q rfl (qt_move rfl) rfl rfl ?_
        refine XL_q rfl (qt_move rfl) rfl rfl ?_
        refine XL_q rfl (qt_assign rfl) rfl rfl ?_
        refine XL_q rfl (qt_assign rfl) rfl rfl ?_
        refine WL_nil_seq ?_
        refine WP_ret fun a ha => ?_
        obtain rfl := Option.some.inj h
        have H374 : Holds (([.bx bp0 66 [vp0_0, .int .i64 p0_1]] : List Res).flatMap Res.own) w w115 [.sl 3 (.int .i64) vj71 j71, .bx bp0 66 [vp0_0, .int .i64 x113.1]] G := (H117.pull 1)
        exact ret2 rfl ha rfl rfl ⟨vj71, rfl, H374⟩
theorem w_spec_DrawMenuValid (w : World) (G : List Res) (vp0 : Value) (p0 : List Int) (hp0 : HasRo G (.int .u8) vp0 p0) (r : Int × (List Int)) (h : spec_DrawMenuValidS p0 = some r) (H : Ctx w G) : Calls Tryd.prog 22 #[vp0] w fun e w' => ∃ (v1 : Value), e = .returned (.tuple #[.int .i64 r.1, v1]) ∧ Holds (([] : List Res).flatMap Res.own) w w' [.sl 3 (.int .i64) v1 r.2] G := by
  have H : Holds (([] : List Res).flatMap Res.own) w w [] G := Holds.startN H
  refine calls_enter (args := [vp0]) (n := 9) Tryd.func22 rfl rfl rfl ?_
  unfold spec_DrawMenuValidS at h
  refine WP_seq ?_
  refine WP_region ?_
  refine XL_q rfl (qt_assign rfl) rfl rfl ?_
  refine XL_q rfl (qt_assign rfl) rfl rfl ?_
  refine WL_nil_seq ?_
  refine WP_seq ?_
  refine WP_region ?_
  refine XL_q rfl (qt_move rfl) rfl rfl ?_
  obtain ⟨x1, hx2, h⟩ := bind_some h
  refine WL_call rfl rfl c62 (w_spec_l20Open w G vp0 p0 (hp0) x1 hx2 H.ctx) (by rfl) ?_
  rintro _ w3 ⟨v5, b6, rfl, H4⟩; refine ⟨_, rfl, ?_⟩
  have H7 : Holds (([] : List Res).flatMap Res.own) w w3 [.ro (.int .u8) v5 x1.1, .bx b6 66 [v5, .int .i64 x1.2]] G := H.calledN (Rs := []) H4
  have H10 : Holds (([] : List Res).flatMap Res.own) w w3 [.bx b6 66 [v5, .int .i64 x1.2], .ro (.int .u8) v5 x1.1] G := H7.pull 1
  obtain ⟨x8, hx9, h⟩ := bind_some h
  refine WL_call rfl rfl c67 (w_spec_l20Menu w3 ([.ro (.int .u8) v5 x1.1] ++ G) b6 v5 x1.1 (HasRo.has (HasRo.hd)) x1.2 2 x8 hx9 H10.ctx) (by rfl) ?_
  rintro _ w11 ⟨v13, rfl, H12⟩; refine ⟨_, rfl, ?_⟩
  have H14 : Holds (([] : List Res).flatMap Res.own) w w11 [.sl 3 (.int .i64) v13 x8.2.2, .bx b6 66 [v5, .int .i64 x8.1], .ro (.int .u8) v5 x1.1] G := H10.calledN (Rs := [_]) H12
  refine XL_q rfl (qt_extract rfl rfl) rfl rfl ?_
  refine XL_q rfl (qt_extract rfl rfl) rfl rfl ?_
  refine XL_q rfl (qt_assign rfl) rfl rfl ?_
  refine XL_q rfl (qt_assign rfl) rfl rfl ?_
  refine WL_nil_seq ?_
  refine WP_ret fun a ha => ?_
  obtain rfl := Option.some.inj h
  have H15 : Holds (([] : List Res).flatMap Res.own) w w11 [.sl 3 (.int .i64) v13 x8.2.2] G := ((H14.cut 1).cut 1)
  exact ret2 rfl ha rfl rfl ⟨v13, rfl, H15⟩
theorem w_impl_everybody (w : World) (G : List Res) (p0 : Int) (r : Int) (h : impl_everybodyS p0 = some r) (H : Ctx w G) : Calls Tryd.prog 69 #[.int .i64 p0] w fun e w' => e = .returned (.int .i64 r) ∧ Holds (([] : List Res).flatMap Res.own) w w' [] G := by
  have H : Holds (([] : List Res).flatMap Res.own) w w [] G := Holds.startN H
  refine calls_enter (args := [.int .i64 p0]) (n := 6) Tryd.func69 rfl rfl rfl ?_
  unfold impl_everybodyS at h
  refine WP_seq ?_
  refine WP_region ?_
  refine XL_q rfl (qt_assign rfl) rfl rfl ?_
  refine WL_nil_seq ?_
  refine WP_seq ?_
  refine WP_region ?_
  refine XL_q rfl (qt_move rfl) rfl rfl ?_
  obtain ⟨x1, hx2, h⟩ := bind_some h
  refine XL_q rfl (qt_shlO rfl rfl hx2) rfl rfl ?_
  refine XL_q rfl (qt_sub rfl rfl) rfl rfl ?_
  refine XL_q rfl (qt_assign rfl) rfl rfl ?_
  refine WL_nil_seq ?_
  refine WP_ret fun a ha => ?_
  obtain rfl := Option.some.inj h
  exact ret1 rfl ha rfl ⟨rfl, H⟩
theorem w_impl_amountsOk (w : World) (G : List Res) (vp0 : Value) (p0 : List Int) (hp0 : Has G (.int .i64) vp0 p0) (p1 : Int) (p2 : Int) (r : Bool) (h : impl_amountsOkS p0 p1 p2 = some r) (H : Ctx w G) : Calls Tryd.prog 68 #[vp0, .int .i64 p1, .int .i64 p2] w fun e w' => e = .returned (.bool r) ∧ Holds (([] : List Res).flatMap Res.own) w w' [] G := by
  have H : Holds (([] : List Res).flatMap Res.own) w w [] G := Holds.startN H
  refine calls_enter (args := [vp0, .int .i64 p1, .int .i64 p2]) (n := 27) Tryd.func68 rfl rfl rfl ?_
  unfold impl_amountsOkS at h
  refine WP_seq ?_
  refine WP_region ?_
  refine XL_q rfl (qt_assign rfl) rfl rfl ?_
  refine WL_nil_seq ?_
  refine WP_seq ?_
  refine WP_seq ?_
  refine WP_region ?_
  refine XL_q rfl (qt_move rfl) rfl rfl ?_
  refine XL_lenH H.ctx (t := (.int .i64)) (hp0) u27 rfl rfl rfl ?_
  refine XL_q rfl (qt_move rfl) rfl rfl ?_
  refine XL_q rfl (qt_neq rfl rfl) rfl rfl ?_
  refine WL_nil_seq ?_
  refine WP_cond rfl (fun hc1 => ?_) (fun hc1 => ?_)
  · have h := if_t hc1 h
    refine WP_seq ?_
    refine WP_region ?_
    refine XL_q rfl (qt_assign rfl) rfl rfl ?_
    refine WL_nil_seq ?_
    refine WP_ret fun a ha => ?_
    obtain rfl := Option.some.inj h
    exact ret_seq (ret1 rfl ha rfl ⟨rfl, H⟩)
  · have h := if_f hc1 h
    refine WP_skip_seq ?_
    refine WP_seq ?_
    refine WP_seq ?_
    refine WP_region ?_
    refine XL_q rfl (qt_move rfl) rfl rfl ?_
    refine XL_lenH H.ctx (t := (.int .i64)) (hp0) u27 rfl rfl rfl ?_
    refine XL_q rfl (qt_move rfl) rfl rfl ?_
    refine WL_nil_seq ?_
    refine WP_block ?_
    obtain ⟨o3, ho4, h⟩ := bind_some h
    refine fun a5 ha6 => wp_loop_fix (I := fun s a w2 => match s with | s2 => (Fr a 27 [(2, .int .i64 p2), (13, vp0), (14, .int .i64 (List.length p0 : Int)), (15, .int .i64 s2)] ∧ Holds (([] : List Res).flatMap Res.own) w w2 [] G)) (O := fun o e a w2 => match o with | .inl _ => e = .exit 0 ∧ (Fr a 27 [] ∧ Holds (([] : List Res).flatMap Res.own) w w2 [] G) | .inr q0 => e = .ret ∧ (Fr a 27 [(6, .bool q0)] ∧ Holds (([] : List Res).flatMap Res.own) w w2 [] G)) ho4 ?_ ?_ ?_
    · exact ⟨ha6.sub ⟨rfl, rfl, rfl, rfl, trivial⟩, H⟩
    · clear ha6
      intro s o9 a w7 hs8 hI10
      obtain ⟨s2, rfl⟩ : ∃ z, z = s := ⟨s, rfl⟩
      obtain ⟨ha, H11⟩ := hI10
      refine WP.app ?_ ha
      clear ha
      refine WP_seq ?_
      refine WP_region ?_
      refine XL_q rfl (qt_lss rfl rfl) rfl rfl ?_
      refine WL_nil_seq ?_
      refine WP_seq ?_
      refine WP_cond rfl (fun hc12 => ?_) (fun hc12 => ?_)
      · have hs8 := if_t hc12 hs8
        refine WP_skip_seq ?_
        refine WP_seq ?_
        refine WP_block ?_
        refine WP_seq ?_
        refine WP_region ?_
        obtain ⟨x13, hx14, hs8⟩ := bind_some hs8
        refine XL_indexH H11.ctx (hp0) hx14 u27 i3 rfl rfl rfl rfl (fun b15 off16 cap17 hv18 => ?_)
        obtain ⟨F19, hat20, hdup21⟩ := H11.at (hp0) hx14 hv18
        refine XL_load_int (k := .i64) u3 rfl hat20 rfl rfl rfl ?_
        refine XL_q rfl (qt_assign rfl) rfl rfl ?_
        refine WL_nil_seq ?_
        refine WP_seq ?_
        refine WP_region ?_
        refine XL_q rfl (qt_move rfl) rfl rfl ?_
        refine XL_q rfl (qt_lss rfl rfl) rfl rfl ?_
        refine XL_q rfl (qt_move rfl) rfl rfl ?_
        refine XL_join 4 25 (.bool ((decide (x13 < 0)) || (decide (x13 > p2)))) ?_ (fun md hmd hk => ?_)
        rotate_left
        · obtain ⟨Q, rfl⟩ := Md.seq_of hmd
          rcases btf (decide (x13 < 0)) with hc22 | hc22
          · skip
            refine XL_skip (w_skip rfl hc22) rfl rfl ?_
            refine XL_skip (w_skip rfl hc22) rfl rfl ?_
            refine XL_skip (w_skip rfl hc22) rfl rfl ?_
            refine XL_q rfl (qt_pickT rfl hc22 rfl) rfl rfl ?_
            exact hk _ (Cov.same (by rw [hc22]; rfl) (Cov.fresh rfl (Cov.fresh rfl (Cov.fresh rfl (Cov.refl)))))
          · skip
            refine XL_q (w_take rfl hc22) (qt_move rfl) rfl rfl ?_
            refine XL_q (w_take rfl hc22) (qt_move rfl) rfl rfl ?_
            refine XL_q (w_take rfl hc22) (qt_gtr rfl rfl) rfl rfl ?_
            refine XL_q rfl (qt_pickF rfl hc22 rfl) rfl rfl ?_
            exact hk _ (Cov.same (by rw [hc22]; rfl) (Cov.fresh rfl (Cov.fresh rfl (Cov.fresh rfl (Cov.refl)))))
        refine WL_nil_seq ?_
        refine WP_cond rfl (fun hc23 => ?_) (fun hc23 => ?_)
        · have hs8 := if_t hc23 hs8
          refine WP_seq ?_
          refine WP_region ?_
          refine XL_q rfl (qt_assign rfl) rfl rfl ?_
          refine WL_nil_seq ?_
          refine WP_ret fun a ha => ?_
          obtain rfl := Option.some.inj hs8
          exact ret_block (ret_seq (⟨ret_ne, rfl, ha.sub ⟨rfl, trivial⟩, H11⟩))
        · have hs8 := if_f hc23 hs8
          refine WP_skip fun a ha => ?_
          refine nrm_block (nrm_seq (WP.app ?_ ha))
          refine WP_region ?_
          refine XL_q rfl (qt_add rfl rfl) rfl rfl ?_
          refine XL_q rfl (qt_move rfl) rfl rfl ?_
          refine WL_nil fun a ha => ?_
          obtain rfl := Option.some.inj hs8
          exact ⟨rfl, ha.sub ⟨rfl, rfl, rfl, rfl, trivial⟩, H11⟩
      · have hs8 := if_f hc12 hs8
        refine WP_exit fun a ha => ?_
        obtain rfl := Option.some.inj hs8
        exact exit_seq (⟨exit_ne, rfl, ha.sub trivial, H11⟩)
    · intro e a5 w24 hO25
      rcases o3 with o3 | o3
      · skip
        obtain ⟨rfl, hO27⟩ := hO25
        obtain ⟨ha, H26⟩ := hO27
        refine exit_block_eq (nrm_seq (WP.app ?_ ha))
        refine WP_seq ?_
        refine WP_region ?_
        refine XL_q rfl (qt_assign rfl) rfl rfl ?_
        refine WL_nil_seq ?_
        refine WP_ret fun a ha => ?_
        obtain rfl := Option.some.inj h
        exact ret1 rfl ha rfl ⟨rfl, H26⟩
      · skip
        obtain ⟨p28, rfl⟩ : ∃ z, z = o3 := ⟨o3, rfl⟩
        obtain ⟨rfl, hO30⟩ := hO25
        obtain ⟨ha, H29⟩ := hO30
        obtain rfl := Option.some.inj h
        exact ret_block (ret_seq (ret1 rfl ha rfl ⟨rfl, H29⟩))
theorem w_impl_MenuValid (w : World) (G : List Res) (p0 : Int) (vp1 : Value) (p1 : List Int) (hp1 : Has G (.int .i64) vp1 p1) (r : Bool) (h : impl_MenuValidS p0 p1 = some r) (H : Ctx w G) : Calls Tryd.prog 23 #[.int .i64 p0, vp1] w fun e w' => e = .returned (.bool r) ∧ Holds (([] : List Res).flatMap Res.own) w w' [] G := by
  have H : Holds (([] : List Res).flatMap Res.own) w w [] G := Holds.startN H
  refine calls_enter (args := [.int .i64 p0, vp1]) (n := 22) Tryd.func23 rfl rfl rfl ?_
  unfold impl_MenuValidS at h
  refine WP_seq ?_
  refine WP_region ?_
  refine XL_q rfl (qt_assign rfl) rfl rfl ?_
  refine WL_nil_seq ?_
  refine WP_seq ?_
  refine WP_seq ?_
  refine WP_region ?_
  refine XL_q rfl (qt_move rfl) rfl rfl ?_
  refine XL_q rfl (qt_lss rfl rfl) rfl rfl ?_
  refine XL_q rfl (qt_move rfl) rfl rfl ?_
  refine XL_join 3 10 (.bool ((decide (p0 < 0)) || (decide (p0 > 6)))) ?_ (fun md hmd hk => ?_)
  rotate_left
  · obtain ⟨Q, rfl⟩ := Md.seq_of hmd
    rcases btf (decide (p0 < 0)) with hc1 | hc1
    · skip
      refine XL_skip (w_skip rfl hc1) rfl rfl ?_
      refine XL_skip (w_skip rfl hc1) rfl rfl ?_
      refine XL_q rfl (qt_pickT rfl hc1 rfl) rfl rfl ?_
      exact hk _ (Cov.same (by rw [hc1]; rfl) (Cov.fresh rfl (Cov.fresh rfl (Cov.refl))))
    · skip
      refine XL_q (w_take rfl hc1) (qt_move rfl) rfl rfl ?_
      refine XL_q (w_take rfl hc1) (qt_gtr rfl rfl) rfl rfl ?_
      refine XL_q rfl (qt_pickF rfl hc1 rfl) rfl rfl ?_
      exact hk _ (Cov.same (by rw [hc1]; rfl) (Cov.fresh rfl (Cov.fresh rfl (Cov.refl))))
  refine XL_q rfl (qt_move rfl) rfl rfl ?_
  refine XL_join 4 15 (.bool (((decide (p0 < 0)) || (decide (p0 > 6))) || (decide ((List.length p1 : Int) > 6)))) ?_ (fun md hmd hk => ?_)
  rotate_left
  · obtain ⟨Q, rfl⟩ := Md.seq_of hmd
    rcases btf ((decide (p0 < 0)) || (decide (p0 > 6))) with hc2 | hc2
    · skip
      refine XL_skip (w_skip rfl hc2) rfl rfl ?_
      refine XL_skip (w_skip rfl hc2) rfl rfl ?_
      refine XL_skip (w_skip rfl hc2) rfl rfl ?_
      refine XL_q rfl (qt_pickT rfl hc2 rfl) rfl rfl ?_
      exact hk _ (Cov.same (by rw [hc2]; rfl) (Cov.fresh rfl (Cov.fresh rfl (Cov.fresh rfl (Cov.refl)))))
    · skip
      refine XL_q (w_take rfl hc2) (qt_move rfl) rfl rfl ?_
      refine XL_lenH H.ctx (t := (.int .i64)) (hp1) u27 (w_take rfl hc2) rfl rfl ?_
      refine XL_q (w_take rfl hc2) (qt_gtr rfl rfl) rfl rfl ?_
      refine XL_q rfl (qt_pickF rfl hc2 rfl) rfl rfl ?_
      exact hk _ (Cov.same (by rw [hc2]; rfl) (Cov.fresh rfl (Cov.fresh rfl (Cov.fresh rfl (Cov.refl)))))
  refine WL_nil_seq ?_
  refine WP_cond rfl (fun hc3 => ?_) (fun hc3 => ?_)
  · have h := if_t hc3 h
    refine WP_seq ?_
    refine WP_region ?_
    refine XL_q rfl (qt_assign rfl) rfl rfl ?_
    refine WL_nil_seq ?_
    refine WP_ret fun a ha => ?_
    obtain rfl := Option.some.inj h
    exact ret_seq (ret1 rfl ha rfl ⟨rfl, H⟩)
  · have h := if_f hc3 h
    refine WP_skip_seq ?_
    refine WP_seq ?_
    refine WP_still ?_
    refine XL_q rfl (qt_move rfl) rfl rfl ?_
    refine XL_q rfl (qt_move rfl) rfl rfl ?_
    refine XL_lenH H.ctx (t := (.int .i64)) (hp1) u27 rfl rfl rfl ?_
    refine XL_q rfl (qt_move rfl) rfl rfl ?_
    obtain ⟨x4, hx5, h⟩ := bind_some h
    refine QL_call rfl rfl c69 (fun w' hb => (w_impl_everybody w' G p0 x4 hx5 (H.grow hb).ctx).mono fun e w'' hK => ⟨hK.1, hK.2.bel⟩) (by rfl) ?_
    obtain ⟨x6, hx7, h⟩ := bind_some h
    refine QL_call rfl rfl c68 (fun w' hb => (w_impl_amountsOk w' G vp1 p1 (hp1) (List.length p1 : Int) x4 x6 hx7 (H.grow hb).ctx).mono fun e w'' hK => ⟨hK.1, hK.2.bel⟩) (by rfl) ?_
    refine XL_q rfl (qt_assign rfl) rfl rfl ?_
    refine QL_nil fun a ha w8 hb9 => ?_
    have H10 : Holds (([] : List Res).flatMap Res.own) w w8 [] G := H.grow hb9
    refine nrm_seq (WP.app ?_ ha)
    refine WP_ret fun a ha => ?_
    obtain rfl := Option.some.inj h
    exact ret1 rfl ha rfl ⟨rfl, H10⟩
theorem w_spec_l1In (w : World) (G : List Res) (p0 : Int) (p1 : Int) (p2 : Int) (r : Bool) (h : spec_l1InS p0 p1 p2 = some r) (H : Ctx w G) : Calls Tryd.prog 70 #[.int .i64 p0, .int .i64 p1, .int .i64 p2] w fun e w' => e = .returned (.bool r) ∧ Holds (([] : List Res).flatMap Res.own) w w' [] G := by
  have H : Holds (([] : List Res).flatMap Res.own) w w [] G := Holds.startN H
  refine calls_enter (args := [.int .i64 p0, .int .i64 p1, .int .i64 p2]) (n := 15) Tryd.func70 rfl rfl rfl ?_
  unfold spec_l1InS at h
  refine WP_seq ?_
  refine WP_region ?_
  refine XL_q rfl (qt_assign rfl) rfl rfl ?_
  refine WL_nil_seq ?_
  refine WP_seq ?_
  refine WP_region ?_
  refine XL_q rfl (qt_move rfl) rfl rfl ?_
  refine XL_q rfl (qt_move rfl) rfl rfl ?_
  refine XL_q rfl (qt_geq rfl rfl) rfl rfl ?_
  refine XL_q rfl (qt_move rfl) rfl rfl ?_
  refine XL_join 4 14 (.bool ((decide (p0 ≥ p1)) && (decide (p0 ≤ p2)))) ?_ (fun md hmd hk => ?_)
  rotate_left
  · obtain ⟨Q, rfl⟩ := Md.seq_of hmd
    rcases btf (decide (p0 ≥ p1)) with hc1 | hc1
    · skip
      refine XL_q (w_take rfl hc1) (qt_move rfl) rfl rfl ?_
      refine XL_q (w_take rfl hc1) (qt_move rfl) rfl rfl ?_
      refine XL_q (w_take rfl hc1) (qt_leq rfl rfl) rfl rfl ?_
      refine XL_q rfl (qt_pickT rfl hc1 rfl) rfl rfl ?_
      exact hk _ (Cov.same (by rw [hc1]; rfl) (Cov.fresh rfl (Cov.fresh rfl (Cov.fresh rfl (Cov.refl)))))
    · skip
      refine XL_skip (w_skip rfl hc1) rfl rfl ?_
      refine XL_skip (w_skip rfl hc1) rfl rfl ?_
      refine XL_skip (w_skip rfl hc1) rfl rfl ?_
      refine XL_q rfl (qt_pickF rfl hc1 rfl) rfl rfl ?_
      exact hk _ (Cov.same (by rw [hc1]; rfl) (Cov.fresh rfl (Cov.fresh rfl (Cov.fresh rfl (Cov.refl)))))
  refine XL_q rfl (qt_assign rfl) rfl rfl ?_
  refine WL_nil_seq ?_
  refine WP_ret fun a ha => ?_
  obtain rfl := Option.some.inj h
  exact ret1 rfl ha rfl ⟨rfl, H⟩
theorem w_spec_MenuValid (w : World) (G : List Res) (p0 : Int) (vp1 : Value) (p1 : List Int) (hp1 : Has G (.int .i64) vp1 p1) (r : Bool) (h : spec_MenuValidS p0 p1 = some r) (H : Ctx w G) : Calls Tryd.prog 24 #[.int .i64 p0, vp1] w fun e w' => e = .returned (.bool r) ∧ Holds (([] : List Res).flatMap Res.own) w w' [] G := by
  have H : Holds (([] : List Res).flatMap Res.own) w w [] G := Holds.startN H
  refine calls_enter (args := [.int .i64 p0, vp1]) (n := 27) Tryd.func24 rfl rfl rfl ?_
  unfold spec_MenuValidS at h
  refine WP_seq ?_
  refine WP_region ?_
  refine XL_q rfl (qt_assign rfl) rfl rfl ?_
  refine WL_nil_seq ?_
  refine WP_seq ?_
  refine WP_seq ?_
  refine WP_still ?_
  refine XL_q rfl (qt_move rfl) rfl rfl ?_
  obtain ⟨x1, hx2, h⟩ := bind_some h
  refine QL_call rfl rfl c70 (fun w' hb => (w_spec_l1In w' G p0 0 6 x1 hx2 (H.grow hb).ctx).mono fun e w'' hK => ⟨hK.1, hK.2.bel⟩) (by rfl) ?_
  refine XL_q rfl (qt_not rfl) rfl rfl ?_
  refine QL_nil fun a ha w3 hb4 => ?_
  have H5 : Holds (([] : List Res).flatMap Res.own) w w3 [] G := H.grow hb4
  refine nrm_seq (WP.app ?_ ha)
  refine WP_cond rfl (fun hc6 => ?_) (fun hc6 => ?_)
  · have h := if_t hc6 h
    refine WP_seq ?_
    refine WP_region ?_
    refine XL_q rfl (qt_assign rfl) rfl rfl ?_
    refine WL_nil_seq ?_
    refine WP_ret fun a ha => ?_
    obtain rfl := Option.some.inj h
    exact ret_seq (ret1 rfl ha rfl ⟨rfl, H5⟩)
  · have h := if_f hc6 h
    refine WP_skip_seq ?_
    refine WP_seq ?_
    refine WP_seq ?_
    refine WP_region ?_
    refine XL_q rfl (qt_assign rfl) rfl rfl ?_
    refine WL_nil_seq ?_
    refine WP_block ?_
    obtain ⟨o8, ho9, h⟩ := bind_some h
    refine fun a10 ha11 => wp_loop_fix (I := fun s a w2 => match s with | s7 => (Fr a 27 [(0, .int .i64 p0), (1, vp1), (5, .int .i64 s7)] ∧ Holds (([] : List Res).flatMap Res.own) w w2 [] G)) (O := fun o e a w2 => match o with | .inl _ => e = .exit 0 ∧ (Fr a 27 [(1, vp1)] ∧ Holds (([] : List Res).flatMap Res.own) w w2 [] G) | .inr q0 => e = .ret ∧ (Fr a 27 [(4, .bool q0)] ∧ Holds (([] : List Res).flatMap Res.own) w w2 [] G)) ho9 ?_ ?_ ?_
    · exact ⟨ha11.sub ⟨rfl, rfl, rfl, trivial⟩, H5⟩
    · clear ha11
      intro s o14 a w12 hs13 hI15
      obtain ⟨s7, rfl⟩ : ∃ z, z = s := ⟨s, rfl⟩
      obtain ⟨ha, H16⟩ := hI15
      refine WP.app ?_ ha
      clear ha
      refine WP_seq ?_
      refine WP_seq ?_
      refine WP_region ?_
      refine XL_q rfl (qt_move rfl) rfl rfl ?_
      refine XL_q rfl (qt_move rfl) rfl rfl ?_
      refine XL_lenH H16.ctx (t := (.int .i64)) (hp1) u27 rfl rfl rfl ?_
      refine XL_q rfl (qt_lss rfl rfl) rfl rfl ?_
      refine WL_nil_seq ?_
      refine WP_cond rfl (fun hc17 => ?_) (fun hc17 => ?_)
      · have hs13 := if_t hc17 hs13
        refine WP_skip_seq ?_
        refine WP_seq ?_
        refine WP_block ?_
        refine WP_seq ?_
        refine WP_quiet (by kernel_rfl) (by kernel_rfl) ?_
        refine XL_q rfl (qt_move rfl) rfl rfl ?_
        refine XL_q rfl (qt_move rfl) rfl rfl ?_
        obtain ⟨x18, hx19, hs13⟩ := bind_some hs13
        refine XL_indexH H16.ctx (hp1) hx19 u27 i3 rfl rfl rfl rfl (fun b20 off21 cap22 hv23 => ?_)
        obtain ⟨F24, hat25, hdup26⟩ := H16.at (hp1) hx19 hv23
        refine XL_load_int (k := .i64) u3 rfl hat25 rfl rfl rfl ?_
        refine XL_q rfl (qt_move rfl) rfl rfl ?_
        obtain ⟨x27, hx28, hs13⟩ := bind_some hs13
        refine XL_q rfl (qt_shlO rfl rfl hx28) rfl rfl ?_
        refine XL_q rfl (qt_sub rfl rfl) rfl rfl ?_
        obtain ⟨x29, hx30, hs13⟩ := bind_some hs13
        refine QL_call rfl rfl c70 (fun w' hb => (w_spec_l1In w' G x18 0 (IntKind.wrap .i64 (x27 - 1)) x29 hx30 (H16.grow hb).ctx).mono fun e w'' hK => ⟨hK.1, hK.2.bel⟩) (by rfl) ?_
        refine XL_q rfl (qt_not rfl) rfl rfl ?_
        refine QL_nil fun a ha w31 hb32 => ?_
        have H33 : Holds (([] : List Res).flatMap Res.own) w w31 [] G := H16.grow hb32
        refine nrm_seq (WP.app ?_ ha)
        refine WP_cond rfl (fun hc34 => ?_) (fun hc34 => ?_)
        · have hs13 := if_t hc34 hs13
          refine WP_seq ?_
          refine WP_region ?_
          refine XL_q rfl (qt_assign rfl) rfl rfl ?_
          refine WL_nil_seq ?_
          refine WP_ret fun a ha => ?_
          obtain rfl := Option.some.inj hs13
          exact ret_block (ret_seq (⟨ret_ne, rfl, ha.sub ⟨rfl, trivial⟩, H33⟩))
        · have hs13 := if_f hc34 hs13
          refine WP_skip fun a ha => ?_
          refine nrm_block (nrm_seq (WP.app ?_ ha))
          refine WP_region ?_
          refine XL_q rfl (qt_move rfl) rfl rfl ?_
          refine XL_q rfl (qt_add rfl rfl) rfl rfl ?_
          refine XL_q rfl (qt_assign rfl) rfl rfl ?_
          refine WL_nil fun a ha => ?_
          obtain rfl := Option.some.inj hs13
          exact ⟨rfl, ha.sub ⟨rfl, rfl, rfl, trivial⟩, H33⟩
      · have hs13 := if_f hc17 hs13
        refine WP_exit fun a ha => ?_
        obtain rfl := Option.some.inj hs13
        exact exit_seq (⟨exit_ne, rfl, ha.sub ⟨rfl, trivial⟩, H16⟩)
    · intro e a10 w35 hO36
      rcases o8 with o8 | o8
      · skip
        obtain ⟨rfl, hO38⟩ := hO36
        obtain ⟨ha, H37⟩ := hO38
        refine exit_block_eq (nrm_seq (WP.app ?_ ha))
        refine WP_seq ?_
        refine WP_region ?_
        refine XL_q rfl (qt_move rfl) rfl rfl ?_
        refine XL_lenH H37.ctx (t := (.int .i64)) (hp1) u27 rfl rfl rfl ?_
        refine XL_q rfl (qt_leq rfl rfl) rfl rfl ?_
        refine XL_q rfl (qt_assign rfl) rfl rfl ?_
        refine WL_nil_seq ?_
        refine WP_ret fun a ha => ?_
        obtain rfl := Option.some.inj h
        exact ret1 rfl ha rfl ⟨rfl, H37⟩
      · skip
        obtain ⟨p39, rfl⟩ : ∃ z, z = o8 := ⟨o8, rfl⟩
        obtain ⟨rfl, hO41⟩ := hO36
        obtain ⟨ha, H40⟩ := hO41
        obtain rfl := Option.some.inj h
        exact ret_block (ret_seq (ret1 rfl ha rfl ⟨rfl, H40⟩))
theorem w_laws_FnMenuValid (w : World) (G : List Res) (vp0 : Value) (p0 : List Int) (hp0 : HasRo G (.int .u8) vp0 p0) (r : Bool) (h : laws_FnMenuValidS p0 = some r) (H : Ctx w G) : Calls Tryd.prog 4 #[vp0] w fun e w' => e = .returned (.bool r) ∧ Holds (([] : List Res).flatMap Res.own) w w' [] G := by
  have H : Holds (([] : List Res).flatMap Res.own) w w [] G := Holds.startN H
  refine calls_enter (args := [vp0]) (n := 53) Tryd.func4 rfl rfl rfl ?_
  unfold laws_FnMenuValidS at h
  refine WP_seq ?_
  refine WP_region ?_
  refine XL_q rfl (qt_assign rfl) rfl rfl ?_
  refine WL_nil_seq ?_
  refine WP_seq ?_
  refine WP_seq ?_
  refine WP_region ?_
  refine XL_q rfl (qt_move rfl) rfl rfl ?_
  refine XL_lenH H.ctx (t := (.int .u8)) (hp0.has) u22 rfl rfl rfl ?_
  refine XL_q rfl (qt_gtr rfl rfl) rfl rfl ?_
  refine WL_nil_seq ?_
  refine WP_cond rfl (fun hc1 => ?_) (fun hc1 => ?_)
  · have h := if_t hc1 h
    refine WP_seq ?_
    refine WP_region ?_
    refine XL_q rfl (qt_assign rfl) rfl rfl ?_
    refine WL_nil_seq ?_
    refine WP_ret fun a ha => ?_
    obtain rfl := Option.some.inj h
    exact ret_seq (ret1 rfl ha rfl ⟨rfl, H⟩)
  · have h := if_f hc1 h
    refine WP_skip_seq ?_
    refine WP_seq ?_
    refine WP_region ?_
    refine XL_q rfl (qt_move rfl) rfl rfl ?_
    obtain ⟨x2, hx3, h⟩ := bind_some h
    refine WL_call rfl rfl c22 (w_spec_DrawMenuValid w G vp0 p0 (hp0) x2 hx3 H.ctx) (by rfl) ?_
    rintro _ w4 ⟨v6, rfl, H5⟩; refine ⟨_, rfl, ?_⟩
    have H7 : Holds (([] : List Res).flatMap Res.own) w w4 [.sl 3 (.int .i64) v6 x2.2] G := H.calledN (Rs := []) H5
    refine XL_q rfl (qt_move rfl) rfl rfl ?_
    refine XL_q rfl (qt_extract rfl rfl) rfl rfl ?_
    refine XL_q rfl (qt_extract rfl rfl) rfl rfl ?_
    refine XL_q rfl (qt_assign rfl) rfl rfl ?_
    refine XL_q rfl (qt_assign rfl) rfl rfl ?_
    refine WL_nil_seq ?_
    refine WP_seq ?_
    refine WP_still ?_
    refine XL_q rfl (qt_move rfl) rfl rfl ?_
    refine XL_q rfl (qt_move rfl) rfl rfl ?_
    obtain ⟨x8, hx9, h⟩ := bind_some h
    refine QL_call rfl rfl c23 (fun w' hb => (w_impl_MenuValid w' ([.sl 3 (.int .i64) v6 x2.2] ++ G) x2.1 v6 x2.2 (Has.hd) x8 hx9 (H7.grow hb).ctx).mono fun e w'' hK => ⟨hK.1, hK.2.bel⟩) (by rfl) ?_
    refine XL_q rfl (qt_assign rfl) rfl rfl ?_
    refine QL_nil fun a ha w10 hb11 => ?_
    have H12 : Holds (([] : List Res).flatMap Res.own) w w10 [.sl 3 (.int .i64) v6 x2.2] G := H7.grow hb11
    refine nrm_seq (WP.app ?_ ha)
    refine WP_seq ?_
    refine WP_seq ?_
    refine WP_still ?_
    refine XL_q rfl (qt_move rfl) rfl rfl ?_
    refine XL_q rfl (qt_move rfl) rfl rfl ?_
    refine XL_q rfl (qt_move rfl) rfl rfl ?_
    obtain ⟨x13, hx14, h⟩ := bind_some h
    refine QL_call rfl rfl c24 (fun w' hb => (w_spec_MenuValid w' ([.sl 3 (.int .i64) v6 x2.2] ++ G) x2.1 v6 x2.2 (Has.hd) x13 hx14 (H12.grow hb).ctx).mono fun e w'' hK => ⟨hK.1, hK.2.bel⟩) (by rfl) ?_
    refine XL_q rfl (qt_bneq u4 rfl rfl) rfl rfl ?_
    refine QL_nil fun a ha w15 hb16 => ?_
    have H17 : Holds (([] : List Res).flatMap Res.own) w w15 [.sl 3 (.int .i64) v6 x2.2] G := H12.grow hb16
    refine nrm_seq (WP.app ?_ ha)
    refine WP_cond rfl (fun hc18 => ?_) (fun hc18 => ?_)
    · have h := if_t hc18 h
      refine WP_seq ?_
      refine WP_region ?_
      refine XL_q rfl (qt_assign rfl) rfl rfl ?_
      refine WL_nil_seq ?_
      refine WP_ret fun a ha => ?_
      obtain rfl := Option.some.inj h
      have H19 : Holds (([] : List Res).flatMap Res.own) w w15 [] G := (H17.cut 0)
      exact ret_seq (ret1 rfl ha rfl ⟨rfl, H19⟩)
    · have h := if_f hc18 h
      refine WP_skip_seq ?_
      refine WP_seq ?_
      refine WP_seq ?_
      refine WP_region ?_
      refine XL_q rfl (qt_move rfl) rfl rfl ?_
      refine XL_q rfl (qt_not rfl) rfl rfl ?_
      refine WL_nil_seq ?_
      refine WP_cond rfl (fun hc20 => ?_) (fun hc20 => ?_)
      · have h := if_t hc20 h
        refine WP_seq ?_
        refine WP_still ?_
        obtain ⟨x21, hx22, h⟩ := bind_some h
        refine QL_call rfl rfl c20 (fun w' hb => (w_laws_alive w' ([.sl 3 (.int .i64) v6 x2.2] ++ G)  x21 hx22 (H17.grow hb).ctx).mono fun e w'' hK => ⟨hK.1, hK.2.bel⟩) (by rfl) ?_
        refine XL_q rfl (qt_assign rfl) rfl rfl ?_
        refine QL_nil fun a ha w23 hb24 => ?_
        have H25 : Holds (([] : List Res).flatMap Res.own) w w23 [.sl 3 (.int .i64) v6 x2.2] G := H17.grow hb24
        refine nrm_seq (WP.app ?_ ha)
        refine WP_ret fun a ha => ?_
        obtain rfl := Option.some.inj h
        have H26 : Holds (([] : List Res).flatMap Res.own) w w23 [] G := (H25.cut 0)
        exact ret_seq (ret1 rfl ha rfl ⟨rfl, H26⟩)
      · have h := if_f hc20 h
        refine WP_skip_seq ?_
        refine WP_seq ?_
        refine WP_region ?_
        refine WL_buildH (t := (.int .i64)) (args := []) (xs := ([] : List Int)) H17 (BltL.nil) u27 j3 rfl rfl rfl rfl rfl rfl (fun v27 w28 H29 => ?_)
        have H30 : Holds (([] : List Res).flatMap Res.own) w w28 [.sl 3 (.int .i64) v27 ([]), .sl 3 (.int .i64) v6 x2.2] G := H29
        refine XL_q rfl (qt_move rfl) rfl rfl ?_
        obtain ⟨x31, hx32, h⟩ := bind_some h
        refine WL_appendH H30 (Has.c (Has.hd)) hx32 u27 j3 rfl rfl rfl rfl rfl rfl (fun v33 w34 H35 => ?_)
        have H36 : Holds (([] : List Res).flatMap Res.own) w w34 [.sl 3 (.int .i64) v33 x31, .sl 3 (.int .i64) v6 x2.2] G := H35
        refine WL_buildH (t := (.int .i64)) (args := [.const (.int .i64 0)]) (xs := ([0] : List Int)) H36 (BltL.cons (Blt.int) rfl (BltL.nil)) u27 j3 rfl rfl rfl rfl rfl rfl (fun v37 w38 H39 => ?_)
        have H40 : Holds (([] : List Res).flatMap Res.own) w w38 [.sl 3 (.int .i64) v37 ([0]), .sl 3 (.int .i64) v33 x31, .sl 3 (.int .i64) v6 x2.2] G := H39
        have H41 : Holds (([] : List Res).flatMap Res.own) w w38 [.sl 3 (.int .i64) v33 x31, .sl 3 (.int .i64) v37 ([0]), .sl 3 (.int .i64) v6 x2.2] G := H40.pull 1
        obtain ⟨x42, hx43, h⟩ := bind_some h
        refine WL_appendH H41 (Has.c (Has.hd)) hx43 u27 j3 rfl rfl rfl rfl rfl rfl (fun v44 w45 H46 => ?_)
        have H47 : Holds (([] : List Res).flatMap Res.own) w w45 [.sl 3 (.int .i64) v44 x42, .sl 3 (.int .i64) v37 ([0]), .sl 3 (.int .i64) v6 x2.2] G := H46
        refine XL_q rfl (qt_assign rfl) rfl rfl ?_
        refine WL_nil_seq ?_
        refine WP_seq ?_
        obtain ⟨x52, hx53, h⟩ := bind_some h
        obtain ⟨x58, hx59, h⟩ := bind_some h
        obtain ⟨x65, hx66, h⟩ := bind_some h
        refine WP_join (M := fun a w2 => ∃ vz47_0, Fr a 53 [(3, .int .i64 x2.1), (4, v6), (6, v44), (7, vz47_0)] ∧ Holds (([] : List Res).flatMap Res.own) w w2 [.sl 3 (.int .i64) v6 x2.2, .sl 3 (.int .i64) v44 x42, .sl 3 (.int .i64) vz47_0 x65] G) ?_ ?_
        · refine WP_anyM (by kernel_rfl) (fun w248 hb249 => ?_)
          have H251 : Holds (([] : List Res).flatMap Res.own) w w248 [.sl 3 (.int .i64) v44 x42, .sl 3 (.int .i64) v37 ([0]), .sl 3 (.int .i64) v6 x2.2] G := H47.grow hb249
          have K250 : Holds (([] : List Res).flatMap Res.own) w248 w248 [] ([.sl 3 (.int .i64) v44 x42, .sl 3 (.int .i64) v37 ([0]), .sl 3 (.int .i64) v6 x2.2] ++ G) := Holds.startN (Rs := []) H251.ctx
          refine XA_take 1 rfl (by kernel_rfl) (by kernel_rfl) (by kernel_rfl) K250.bel rfl (qt_move rfl) rfl rfl ?_
          refine XA_take 3 rfl (by kernel_rfl) (by kernel_rfl) (by kernel_rfl) K250.bel rfl (qt_move rfl) rfl rfl ?_
          refine XA_take 4 rfl (by kernel_rfl) (by kernel_rfl) (by kernel_rfl) K250.bel rfl (qt_shlO rfl rfl hx59) rfl rfl ?_
          refine XA_all [0, 5] (by kernel_rfl) (by simp) (allc ?_ (allc ?_ alln))
          · refine XA_do rfl ?_
            refine WL_buildH (t := (.int .i64)) (args := []) (xs := ([] : List Int)) K250 (BltL.nil) u27 j3 rfl rfl rfl rfl rfl rfl (fun v252 w253 H254 => ?_)
            have H255 : Holds (([] : List Res).flatMap Res.own) w248 w253 [.sl 3 (.int .i64) v252 ([])] ([.sl 3 (.int .i64) v44 x42, .sl 3 (.int .i64) v37 ([0]), .sl 3 (.int .i64) v6 x2.2] ++ G) := H254
            refine WL_nil fun a ha => ⟨rfl, H255.bel, (?_ : XA _ _ _ _ _ _ _ _ _) a ha⟩
            refine XA_all [2, 5] (by kernel_rfl) (by simp) (allc ?_ (allc ?_ alln))
            · refine XA_do rfl ?_
              refine WL_appendH H255 (Has.c (Has.c (Has.c (Has.hd)))) hx53 u27 j3 rfl rfl rfl rfl rfl rfl (fun v256 w257 H258 => ?_)
              have H259 : Holds (([] : List Res).flatMap Res.own) w248 w257 [.sl 3 (.int .i64) v256 x52] ([.sl 3 (.int .i64) v44 x42, .sl 3 (.int .i64) v37 ([0]), .sl 3 (.int .i64) v6 x2.2] ++ G) := H258
              refine WL_nil fun a ha => ⟨rfl, H259.bel, (?_ : XA _ _ _ _ _ _ _ _ _) a ha⟩
              refine XA_all [5] (by kernel_rfl) (by simp) (allc ?_ alln)
              · refine XA_do rfl ?_
                refine WL_buildH (t := (.int .i64)) (args := [.tmp 36]) (xs := ([x58] : List Int)) H259 (BltL.cons (Blt.int) rfl (BltL.nil)) u27 j3 rfl rfl rfl rfl rfl rfl (fun v260 w261 H262 => ?_)
                have H263 : Holds (([] : List Res).flatMap Res.own) w248 w261 [.sl 3 (.int .i64) v260 ([x58]), .sl 3 (.int .i64) v256 x52] ([.sl 3 (.int .i64) v44 x42, .sl 3 (.int .i64) v37 ([0]), .sl 3 (.int .i64) v6 x2.2] ++ G) := H262
                refine WL_nil fun a ha => ⟨rfl, H263.bel, (?_ : XA _ _ _ _ _ _ _ _ _) a ha⟩
                refine XA_all [6] (by kernel_rfl) (by simp) (allc ?_ alln)
                · refine XA_do rfl ?_
                  have H264 : Holds (([] : List Res).flatMap Res.own) w248 w261 [.sl 3 (.int .i64) v256 x52, .sl 3 (.int .i64) v260 ([x58])] ([.sl 3 (.int .i64) v44 x42, .sl 3 (.int .i64) v37 ([0]), .sl 3 (.int .i64) v6 x2.2] ++ G) := H263.pull 1
                  refine WL_appendH H264 (Has.c (Has.hd)) hx66 u27 j3 rfl rfl rfl rfl rfl rfl (fun v265 w266 H267 => ?_)
                  have H268 : Holds (([] : List Res).flatMap Res.own) w248 w266 [.sl 3 (.int .i64) v265 x65, .sl 3 (.int .i64) v260 ([x58])] ([.sl 3 (.int .i64) v44 x42, .sl 3 (.int .i64) v37 ([0]), .sl 3 (.int .i64) v6 x2.2] ++ G) := H267
                  refine WL_nil fun a ha => ⟨rfl, H268.bel, (?_ : XA _ _ _ _ _ _ _ _ _) a ha⟩
                  refine XA_take 7 rfl (by kernel_rfl) (by kernel_rfl) (by kernel_rfl) H268.bel rfl (qt_assign rfl) rfl rfl ?_
                  refine XA_done (by kernel_rfl) (fun a ha => ?_)
                  have H269 : Holds (([] : List Res).flatMap Res.own) w w266 [.sl 3 (.int .i64) v265 x65, .sl 3 (.int .i64) v260 ([x58]), .sl 3 (.int .i64) v44 x42, .sl 3 (.int .i64) v37 ([0]), .sl 3 (.int .i64) v6 x2.2] G := H251.calledN (Rs := []) H268
                  have H270 : Holds (([] : List Res).flatMap Res.own) w w266 [.sl 3 (.int .i64) v6 x2.2, .sl 3 (.int .i64) v44 x42, .sl 3 (.int .i64) v265 x65] G := ((((H269.cut 1).cut 2).pull 1).pull 2)
                  exact ⟨v265, ha.sub ⟨rfl, rfl, rfl, rfl, trivial⟩, H270⟩
            · refine XA_do rfl ?_
              refine WL_buildH (t := (.int .i64)) (args := [.tmp 36]) (xs := ([x58] : List Int)) H255 (BltL.cons (Blt.int) rfl (BltL.nil)) u27 j3 rfl rfl rfl rfl rfl rfl (fun v271 w272 H273 => ?_)
              have H274 : Holds (([] : List Res).flatMap Res.own) w248 w272 [.sl 3 (.int .i64) v271 ([x58]), .sl 3 (.int .i64) v252 ([])] ([.sl 3 (.int .i64) v44 x42, .sl 3 (.int .i64) v37 ([0]), .sl 3 (.int .i64) v6 x2.2] ++ G) := H273
              refine WL_nil fun a ha => ⟨rfl, H274.bel, (?_ : XA _ _ _ _ _ _ _ _ _) a ha⟩
              refine XA_all [2] (by kernel_rfl) (by simp) (allc ?_ alln)
              · refine XA_do rfl ?_
                have H275 : Holds (([] : List Res).flatMap Res.own) w248 w272 [.sl 3 (.int .i64) v252 ([]), .sl 3 (.int .i64) v271 ([x58])] ([.sl 3 (.int .i64) v44 x42, .sl 3 (.int .i64) v37 ([0]), .sl 3 (.int .i64) v6 x2.2] ++ G) := H274.pull 1
                refine WL_appendH H275 (Has.c (Has.c (Has.c (Has.c (Has.hd))))) hx53 u27 j3 rfl rfl rfl rfl rfl rfl (fun v276 w277 H278 => ?_)
                have H279 : Holds (([] : List Res).flatMap Res.own) w248 w277 [.sl 3 (.int .i64) v276 x52, .sl 3 (.int .i64) v271 ([x58])] ([.sl 3 (.int .i64) v44 x42, .sl 3 (.int .i64) v37 ([0]), .sl 3 (.int .i64) v6 x2.2] ++ G) := H278
                refine WL_nil fun a ha => ⟨rfl, H279.bel, (?_ : XA _ _ _ _ _ _ _ _ _) a ha⟩
                refine XA_all [6] (by kernel_rfl) (by simp) (allc ?_ alln)
                · refine XA_do rfl ?_
                  refine WL_appendH H279 (Has.c (Has.hd)) hx66 u27 j3 rfl rfl rfl rfl rfl rfl (fun v280 w281 H282 => ?_)
                  have H283 : Holds (([] : List Res).flatMap Res.own) w248 w281 [.sl 3 (.int .i64) v280 x65, .sl 3 (.int .i64) v271 ([x58])] ([.sl 3 (.int .i64) v44 x42, .sl 3 (.int .i64) v37 ([0]), .sl 3 (.int .i64) v6 x2.2] ++ G) := H282
                  refine WL_nil fun a ha => ⟨rfl, H283.bel, (?_ : XA _ _ _ _ _ _ _ _ _) a ha⟩
                  refine XA_take 7 rfl (by kernel_rfl) (by kernel_rfl) (by kernel_rfl) H283.bel rfl (qt_assign rfl) rfl rfl ?_
                  refine XA_done (by kernel_rfl) (fun a ha => ?_)
                  have H284 : Holds (([] : List Res).flatMap Res.own) w w281 [.sl 3 (.int .i64) v280 x65, .sl 3 (.int .i64) v271 ([x58]), .sl 3 (.int .i64) v44 x42, .sl 3 (.int .i64) v37 ([0]), .sl 3 (.int .i64) v6 x2.2] G := H251.calledN (Rs := []) H283
                  have H285 : Holds (([] : List Res).flatMap Res.own) w w281 [.sl 3 (.int .i64) v6 x2.2, .sl 3 (.int .i64) v44 x42, .sl 3 (.int .i64) v280 x65] G := ((((H284.cut 1).cut 2).pull 1).pull 2)
                  exact ⟨v280, ha.sub ⟨rfl, rfl, rfl, rfl, trivial⟩, H285⟩
          · refine XA_do rfl ?_
            refine WL_buildH (t := (.int .i64)) (args := [.tmp 36]) (xs := ([x58] : List Int)) K250 (BltL.cons (Blt.int) rfl (BltL.nil)) u27 j3 rfl rfl rfl rfl rfl rfl (fun v286 w287 H288 => ?_)
            have H289 : Holds (([] : List Res).flatMap Res.own) w248 w287 [.sl 3 (.int .i64) v286 ([x58])] ([.sl 3 (.int .i64) v44 x42, .sl 3 (.int .i64) v37 ([0]), .sl 3 (.int .i64) v6 x2.2] ++ G) := H288
            refine WL_nil fun a ha => ⟨rfl, H289.bel, (?_ : XA _ _ _ _ _ _ _ _ _) a ha⟩
            refine XA_all [0] (by kernel_rfl) (by simp) (allc ?_ alln)
            · refine XA_do rfl ?_
              refine WL_buildH (t := (.int .i64)) (args := []) (xs := ([] : List Int)) H289 (BltL.nil) u27 j3 rfl rfl rfl rfl rfl rfl (fun v290 w291 H292 => ?_)
              have H293 : Holds (([] : List Res).flatMap Res.own) w248 w291 [.sl 3 (.int .i64) v290 ([]), .sl 3 (.int .i64) v286 ([x58])] ([.sl 3 (.int .i64) v44 x42, .sl 3 (.int .i64) v37 ([0]), .sl 3 (.int .i64) v6 x2.2] ++ G) := H292
              refine WL_nil fun a ha => ⟨rfl, H293.bel, (?_ : XA _ _ _ _ _ _ _ _ _) a ha⟩
              refine XA_all [2] (by kernel_rfl) (by simp) (allc ?_ alln)
              · refine XA_do rfl ?_
                refine WL_appendH H293 (Has.c (Has.c (Has.c (Has.c (Has.hd))))) hx53 u27 j3 rfl rfl rfl rfl rfl rfl (fun v294 w295 H296 => ?_)
                have H297 : Holds (([] : List Res).flatMap Res.own) w248 w295 [.sl 3 (.int .i64) v294 x52, .sl 3 (.int .i64) v286 ([x58])] ([.sl 3 (.int .i64) v44 x42, .sl 3 (.int .i64) v37 ([0]), .sl 3 (.int .i64) v6 x2.2] ++ G) := H296
                refine WL_nil fun a ha => ⟨rfl, H297.bel, (?_ : XA _ _ _ _ _ _ _ _ _) a ha⟩
                refine XA_all [6] (by kernel_rfl) (by simp) (allc ?_ alln)
                · refine XA_do rfl ?_
                  refine WL_appendH H297 (Has.c (Has.hd)) hx66 u27 j3 rfl rfl rfl rfl rfl rfl (fun v298 w299 H300 => ?_)
                  have H301 : Holds (([] : List Res).flatMap Res.own) w248 w299 [.sl 3 (.int .i64) v298 x65, .sl 3 (.int .i64) v286 ([x58])] ([.sl 3 (.int .i64) v44 x42, .sl 3 (.int .i64) v37 ([0]), .sl 3 (.int .i64) v6 x2.2] ++ G) := H300
                  refine WL_nil fun a ha => ⟨rfl, H301.bel, (?_ : XA _ _ _ _ _ _ _ _ _) a ha⟩
                  refine XA_take 7 rfl (by kernel_rfl) (by kernel_rfl) (by kernel_rfl) H301.bel rfl (qt_assign rfl) rfl rfl ?_
                  refine XA_done (by kernel_rfl) (fun a ha => ?_)
                  have H302 : Holds (([] : List Res).flatMap Res.own) w w299 [.sl 3 (.int .i64) v298 x65, .sl 3 (.int .i64) v286 ([x58]), .sl 3 (.int .i64) v44 x42, .sl 3 (.int .i64) v37 ([0]), .sl 3 (.int .i64) v6 x2.2] G := H251.calledN (Rs := []) H301
                  have H303 : Holds (([] : List Res).flatMap Res.own) w w299 [.sl 3 (.int .i64) v6 x2.2, .sl 3 (.int .i64) v44 x42, .sl 3 (.int .i64) v298 x65] G := ((((H302.cut 1).cut 2).pull 1).pull 2)
                  exact ⟨v298, ha.sub ⟨rfl, rfl, rfl, rfl, trivial⟩, H303⟩
        · intro a w304 hI305
          obtain ⟨vz47_0, ha, H306⟩ := hI305
          refine WP.app ?_ ha
          clear ha
          refine WP_seq ?_
          refine WP_still ?_
          refine XL_q rfl (qt_move rfl) rfl rfl ?_
          refine XL_lenH H306.ctx (t := (.int .i64)) (Has.hd) u27 rfl rfl rfl ?_
          refine XL_q rfl (qt_eql rfl rfl) rfl rfl ?_
          refine XL_q rfl (qt_move rfl) rfl rfl ?_
          obtain ⟨b307, hg308, h⟩ := bind_some h
          refine XL_join 4 46 (.bool b307) ?_ (fun md hmd hk => ?_)
          rotate_left
          · obtain ⟨K, rfl⟩ := Md.quiet_of hmd
            rcases btf ((List.length x2.2 : Int) == 6) with hc309 | hc309
            · skip
              refine XL_skip (w_skip rfl hc309) rfl rfl ?_
              refine XL_skip (w_skip rfl hc309) rfl rfl ?_
              refine XL_skip (w_skip rfl hc309) rfl rfl ?_
              refine XL_q rfl (qt_pickT rfl hc309 rfl) rfl rfl ?_
              exact hk _ (Cov.same (vb (if_t hc309 hg308)) (Cov.fresh rfl (Cov.fresh rfl (Cov.fresh rfl (Cov.refl)))))
            · skip
              have hg308 := if_f hc309 hg308
              refine XL_q (w_take rfl hc309) (qt_move rfl) rfl rfl ?_
              refine XL_q (w_take rfl hc309) (qt_move rfl) rfl rfl ?_
              obtain ⟨x310, hx311, hg308⟩ := bind_some hg308
              refine QL_call (w_take rfl hc309) rfl c23 (fun w' hb => (w_impl_MenuValid w' ([.sl 3 (.int .i64) v6 x2.2, .sl 3 (.int .i64) v44 x42, .sl 3 (.int .i64) vz47_0 x65] ++ G) x2.1 v44 x42 (Has.c (Has.hd)) x310 hx311 (H306.grow hb).ctx).mono fun e w'' hK => ⟨hK.1, hK.2.bel⟩) (by rfl) ?_
              refine XL_q rfl (qt_pickF rfl hc309 rfl) rfl rfl ?_
              exact hk _ (Cov.same (vb hg308) (Cov.fresh rfl (Cov.fresh rfl (Cov.fresh rfl (Cov.refl)))))
          refine XL_q rfl (qt_move rfl) rfl rfl ?_
          obtain ⟨b312, hg313, h⟩ := bind_some h
          refine XL_join 5 52 (.bool b312) ?_ (fun md hmd hk => ?_)
          rotate_left
          · obtain ⟨K, rfl⟩ := Md.quiet_of hmd
            rcases btf b307 with hc314 | hc314
            · skip
              have hg313 := if_t hc314 hg313
              refine XL_q (w_take rfl hc314) (qt_move rfl) rfl rfl ?_
              refine XL_q (w_take rfl hc314) (qt_move rfl) rfl rfl ?_
              obtain ⟨x315, hx316, hg313⟩ := bind_some hg313
              refine QL_call (w_take rfl hc314) rfl c23 (fun w' hb => (w_impl_MenuValid w' ([.sl 3 (.int .i64) v6 x2.2, .sl 3 (.int .i64) v44 x42, .sl 3 (.int .i64) vz47_0 x65] ++ G) x2.1 vz47_0 x65 (Has.c (Has.c (Has.hd))) x315 hx316 (H306.grow hb).ctx).mono fun e w'' hK => ⟨hK.1, hK.2.bel⟩) (by rfl) ?_
              refine XL_q (w_take rfl hc314) (qt_not rfl) rfl rfl ?_
              refine XL_q rfl (qt_pickT rfl hc314 rfl) rfl rfl ?_
              exact hk _ (Cov.same (vb hg313) (Cov.fresh rfl (Cov.fresh rfl (Cov.fresh rfl (Cov.fresh rfl (Cov.refl))))))
            · skip
              refine XL_skip (w_skip rfl hc314) rfl rfl ?_
              refine XL_skip (w_skip rfl hc314) rfl rfl ?_
              refine XL_skip (w_skip rfl hc314) rfl rfl ?_
              refine XL_skip (w_skip rfl hc314) rfl rfl ?_
              refine XL_q rfl (qt_pickF rfl hc314 rfl) rfl rfl ?_
              exact hk _ (Cov.same (vb (if_f hc314 hg313)) (Cov.fresh rfl (Cov.fresh rfl (Cov.fresh rfl (Cov.fresh rfl (Cov.refl))))))
          refine XL_q rfl (qt_assign rfl) rfl rfl ?_
          refine QL_nil fun a ha w317 hb318 => ?_
          have H319 : Holds (([] : List Res).flatMap Res.own) w w317 [.sl 3 (.int .i64) v6 x2.2, .sl 3 (.int .i64) v44 x42, .sl 3 (.int .i64) vz47_0 x65] G := H306.grow hb318
          refine nrm_seq (WP.app ?_ ha)
          refine WP_ret fun a ha => ?_
          obtain rfl := Option.some.inj h
          have H320 : Holds (([] : List Res).flatMap Res.own) w w317 [] G := (((H319.cut 0).cut 0).cut 0)
          exact ret1 rfl ha rfl ⟨rfl, H320⟩
theorem w_spec_l20Quarrels (w : World) (G : List Res) (bp0 : Nat) (vp0_0 : Value) (p0_0 : List Int) (hp0_0 : Has G (.int .u8) vp0_0 p0_0) (p0_1 : Int) (p1 : Int) (r : Int × Int × (List Int)) (h : spec_l20QuarrelsS p0_0 p0_1 p1 = some r) (H : Ctx w ([.bx bp0 66 [vp0_0, .int .i64 p0_1]] ++ G)) : Calls Tryd.prog 71 #[.pointer (some ⟨bp0, 0, none⟩), .int .i64 p1] w fun e w' => ∃ (v1 : Value), e = .returned (.tuple #[.int .i64 r.2.1, v1]) ∧ Holds (([.bx bp0 66 [vp0_0, .int .i64 p0_1]] : List Res).flatMap Res.own) w w' [.sl 3 (.int .i64) v1 r.2.2, .bx bp0 66 [vp0_0, .int .i64 r.1]] G := by
  have H : Holds (([.bx bp0 66 [vp0_0, .int .i64 p0_1]] : List Res).flatMap Res.own) w w [.bx bp0 66 [vp0_0, .int .i64 p0_1]] G := Holds.startN H
  refine calls_enter (args := [.pointer (some ⟨bp0, 0, none⟩), .int .i64 p1]) (n := 69) Tryd.func71 rfl rfl rfl ?_
  unfold spec_l20QuarrelsS at h
  refine WP_seq ?_
  refine WP_region ?_
  refine XL_q rfl (qt_assign rfl) rfl rfl ?_
  refine XL_q rfl (qt_assign rfl) rfl rfl ?_
  refine WL_nil_seq ?_
  refine WP_seq ?_
  refine WP_region ?_
  refine XL_q rfl (qt_move rfl) rfl rfl ?_
  obtain ⟨x1, hx2, h⟩ := bind_some h
  refine WL_call rfl rfl c63 (w_spec_l20Rd__pick w G bp0 vp0_0 p0_0 (hp0_0) p0_1 7 x1 hx2 H.ctx) (by rfl) ?_
  rintro _ w3 ⟨rfl, H4⟩; refine ⟨_, rfl, ?_⟩
  have H5 : Holds (([.bx bp0 66 [vp0_0, .int .i64 p0_1]] : List Res).flatMap Res.own) w w3 [.bx bp0 66 [vp0_0, .int .i64 x1.1]] G := H.calledN (Rs := [_]) H4
  refine XL_q rfl (qt_assign rfl) rfl rfl ?_
  refine WL_nil_seq ?_
  refine WP_seq ?_
  refine WP_region ?_
  refine XL_q rfl (qt_move rfl) rfl rfl ?_
  obtain ⟨x6, hx7, h⟩ := bind_some h
  refine WL_makeH H5 hx7 u27 j3 rfl (fun _ => ⟨rfl, rfl⟩) rfl rfl rfl rfl rfl (fun v8 w9 H10 => ?_)
  have H11 : Holds (([.bx bp0 66 [vp0_0, .int .i64 p0_1]] : List Res).flatMap Res.own) w w9 [.sl 3 (.int .i64) v8 x6, .bx bp0 66 [vp0_0, .int .i64 x1.1]] G := H10
  refine XL_q rfl (qt_assign rfl) rfl rfl ?_
  refine WL_nil_seq ?_
  refine WP_seq ?_
  refine WP_region ?_
  refine XL_q rfl (qt_move rfl) rfl rfl ?_
  have H14 : Holds (([.bx bp0 66 [vp0_0, .int .i64 p0_1]] : List Res).flatMap Res.own) w w9 [.bx bp0 66 [vp0_0, .int .i64 x1.1], .sl 3 (.int .i64) v8 x6] G := H11.pull 1
  obtain ⟨x12, hx13, h⟩ := bind_some h
  refine WL_call rfl rfl c63 (w_spec_l20Rd__pick w9 ([.sl 3 (.int .i64) v8 x6] ++ G) bp0 vp0_0 p0_0 (hp0_0.c) x1.1 4 x12 hx13 H14.ctx) (by rfl) ?_
  rintro _ w15 ⟨rfl, H16⟩; refine ⟨_, rfl, ?_⟩
  have H17 : Holds (([.bx bp0 66 [vp0_0, .int .i64 p0_1]] : List Res).flatMap Res.own) w w15 [.bx bp0 66 [vp0_0, .int .i64 x12.1], .sl 3 (.int .i64) v8 x6] G := H14.calledN (Rs := [_]) H16
  refine XL_q rfl (qt_add rfl rfl) rfl rfl ?_
  refine XL_q rfl (qt_assign rfl) rfl rfl ?_
  refine WL_nil_seq ?_
  refine WP_seq ?_
  refine WP_seq ?_
  refine WP_region ?_
  refine XL_q rfl (qt_assign rfl) rfl rfl ?_
  refine WL_nil_seq ?_
  refine WP_block ?_
  obtain ⟨o21, ho22, h⟩ := bind_some h
  have H25 : Holds (([.bx bp0 66 [vp0_0, .int .i64 p0_1]] : List Res).flatMap Res.own) w w15 [.bx bp0 66 [vp0_0, .int .i64 x12.1], .sl 3 (.int .i64) v8 x6] G := ((H17.pull 1).pull 1)
  refine fun a23 ha24 => wp_loop_fix (I := fun s a w2 => match s with | (s18, s19, s20) => ∃ vs18, Fr a 69 [(0, .pointer (some ⟨bp0, 0, none⟩)), (1, .int .i64 p1), (6, .int .i64 x1.2), (7, vs18), (8, .int .i64 (IntKind.wrap .i64 (1 + x12.2))), (9, .int .i64 s19)] ∧ Holds (([.bx bp0 66 [vp0_0, .int .i64 p0_1]] : List Res).flatMap Res.own) w w2 [.bx bp0 66 [vp0_0, .int .i64 s20], .sl 3 (.int .i64) vs18 s18] G) (O := fun o e a w2 => match o with | (q0, q1) => e = .exit 0 ∧ ∃ vq0, Fr a 69 [(0, .pointer (some ⟨bp0, 0, none⟩)), (1, .int .i64 p1), (6, .int .i64 x1.2), (7, vq0)] ∧ Holds (([.bx bp0 66 [vp0_0, .int .i64 p0_1]] : List Res).flatMap Res.own) w w2 [.bx bp0 66 [vp0_0, .int .i64 q1], .sl 3 (.int .i64) vq0 q0] G) ho22 ?_ ?_ ?_
  · exact ⟨v8, ha24.sub ⟨rfl, rfl, rfl, rfl, rfl, rfl, trivial⟩, H25⟩
  · clear ha24
    intro s o28 a w26 hs27 hI29
    obtain ⟨s18, s19, s20⟩ := s
    obtain ⟨vs18, ha, H30⟩ := hI29
    refine WP.app ?_ ha
    clear ha
    refine WP_seq ?_
    refine WP_seq ?_
    refine WP_region ?_
    refine XL_q rfl (qt_move rfl) rfl rfl ?_
    refine XL_q rfl (qt_move rfl) rfl rfl ?_
    refine XL_q rfl (qt_lss rfl rfl) rfl rfl ?_
    refine WL_nil_seq ?_
    refine WP_cond rfl (fun hc31 => ?_) (fun hc31 => ?_)
    · have hs27 := if_t hc31 hs27
      refine WP_skip_seq ?_
      refine WP_seq ?_
      refine WP_block ?_
      refine WP_seq ?_
      refine WP_region ?_
      refine XL_q rfl (qt_assign rfl) rfl rfl ?_
      refine WL_nil_seq ?_
      refine WP_block ?_
      obtain ⟨o35, ho36, hs27⟩ := bind_some hs27
      have H39 : Holds (([.bx bp0 66 [vp0_0, .int .i64 p0_1]] : List Res).flatMap Res.own) w w26 [.bx bp0 66 [vp0_0, .int .i64 s20], .sl 3 (.int .i64) vs18 s18] G := ((H30.pull 1).pull 1)
      refine fun a37 ha38 => wp_loop_fix (I := fun s a w2 => match s with | (s32, s33, s34) => ∃ vs32, Fr a 69 [(0, .pointer (some ⟨bp0, 0, none⟩)), (1, .int .i64 p1), (6, .int .i64 x1.2), (7, vs32), (8, .int .i64 (IntKind.wrap .i64 (1 + x12.2))), (9, .int .i64 s19), (10, .int .i64 s33)] ∧ Holds (([.bx bp0 66 [vp0_0, .int .i64 p0_1]] : List Res).flatMap Res.own) w w2 [.bx bp0 66 [vp0_0, .int .i64 s34], .sl 3 (.int .i64) vs32 s32] G) (O := fun o e a w2 => match o with | (q0, q1) => e = .exit 2 ∧ ∃ vq0, Fr a 69 [(0, .pointer (some ⟨bp0, 0, none⟩)), (1, .int .i64 p1), (6, .int .i64 x1.2), (7, vq0), (8, .int .i64 (IntKind.wrap .i64 (1 + x12.2))), (9, .int .i64 s19)] ∧ Holds (([.bx bp0 66 [vp0_0, .int .i64 p0_1]] : List Res).flatMap Res.own) w w2 [.bx bp0 66 [vp0_0, .int .i64 q1], .sl 3 (.int .i64) vq0 q0] G) ho36 ?_ ?_ ?_
      · exact ⟨vs18, ha38.sub ⟨rfl, rfl, rfl, rfl, rfl, rfl, rfl, trivial⟩, H39⟩
      · clear ha38
        intro s o42 a w40 hs41 hI43
        obtain ⟨s32, s33, s34⟩ := s
        obtain ⟨vs32, ha, H44⟩ := hI43
        refine WP.app ?_ ha
        clear ha
        refine WP_seq ?_
        refine WP_seq ?_
        refine WP_region ?_
        refine XL_q rfl (qt_move rfl) rfl rfl ?_
        refine XL_q rfl (qt_move rfl) rfl rfl ?_
        refine XL_q rfl (qt_lss rfl rfl) rfl rfl ?_
        refine WL_nil_seq ?_
        refine WP_cond rfl (fun hc45 => ?_) (fun hc45 => ?_)
        · have hs41 := if_t hc45 hs41
          refine WP_skip_seq ?_
          refine WP_seq ?_
          refine WP_block ?_
          refine WP_seq ?_
          refine WP_region ?_
          refine XL_q rfl (qt_move rfl) rfl rfl ?_
          obtain ⟨x46, hx47, hs41⟩ := bind_some hs41
          refine WL_call rfl rfl c63 (w_spec_l20Rd__pick w40 ([.sl 3 (.int .i64) vs32 s32] ++ G) bp0 vp0_0 p0_0 (hp0_0.c) s34 5 x46 hx47 H44.ctx) (by rfl) ?_
          rintro _ w48 ⟨rfl, H49⟩; refine ⟨_, rfl, ?_⟩
          have H50 : Holds (([.bx bp0 66 [vp0_0, .int .i64 p0_1]] : List Res).flatMap Res.own) w w48 [.bx bp0 66 [vp0_0, .int .i64 x46.1], .sl 3 (.int .i64) vs32 s32] G := H44.calledN (Rs := [_]) H49
          refine XL_q rfl (qt_move rfl) rfl rfl ?_
          refine XL_q rfl (qt_lss rfl rfl) rfl rfl ?_
          refine WL_nil_seq ?_
          refine WP_cond rfl (fun hc51 => ?_) (fun hc51 => ?_)
          · have hs41 := if_t hc51 hs41
            refine WP_seq ?_
            refine WP_tail 9 (by kernel_rfl) (by kernel_rfl) (fun w52 hb53 => ?_)
            have H54 : Holds (([.bx bp0 66 [vp0_0, .int .i64 p0_1]] : List Res).flatMap Res.own) w w52 [.bx bp0 66 [vp0_0, .int .i64 x46.1], .sl 3 (.int .i64) vs32 s32] G := H50.grow hb53
            refine XL_q rfl (qt_move rfl) rfl rfl ?_
            refine XL_q rfl (qt_move rfl) rfl rfl ?_
            refine XL_q rfl (qt_move rfl) rfl rfl ?_
            refine XL_q rfl (qt_move rfl) rfl rfl ?_
            obtain ⟨x55, hx56, hs41⟩ := bind_some hs41
            refine XL_indexH H54.ctx (Has.c (Has.hd)) hx56 u27 i3 rfl rfl rfl rfl (fun b57 off58 cap59 hv60 => ?_)
            obtain ⟨F61, hat62, hdup63⟩ := H54.at (Has.c (Has.hd)) hx56 hv60
            refine XL_load_int (k := .i64) u3 rfl hat62 rfl rfl rfl ?_
            refine XL_q rfl (qt_move rfl) rfl rfl ?_
            obtain ⟨x64, hx65, hs41⟩ := bind_some hs41
            refine XL_q rfl (qt_shlO rfl rfl hx65) rfl rfl ?_
            refine XL_q rfl (qt_add rfl rfl) rfl rfl ?_
            refine SL_nil ?_
            obtain ⟨x66, hx67, hs41⟩ := bind_some hs41
            refine XL_indexH H54.ctx (Has.c (Has.hd)) hx67 u27 i3 rfl rfl rfl rfl (fun b68 off69 cap70 hv71 => ?_)
            have H72 : Holds (([.bx bp0 66 [vp0_0, .int .i64 p0_1]] : List Res).flatMap Res.own) w w52 [.sl 3 (.int .i64) vs32 s32, .bx bp0 66 [vp0_0, .int .i64 x46.1]] G := H54.pull 1
            refine WL_storeH (fo := 0) (cs' := [.int .i64 (IntKind.wrap .i64 (x55 + x64))]) H72 hx67 hv71 (Upd.whole (Blt.int)) rfl il3 rfl rfl rfl rfl (fun w73 H74 => ?_)
            have H75 : Holds (([.bx bp0 66 [vp0_0, .int .i64 p0_1]] : List Res).flatMap Res.own) w w73 [.sl 3 (.int .i64) vs32 (List.set s32 (Int.toNat s19) (IntKind.wrap .i64 (x55 + x64))), .bx bp0 66 [vp0_0, .int .i64 x46.1]] G := H74
            refine WL_nil_seq ?_
            refine WP_tail 9 (by kernel_rfl) (by kernel_rfl) (fun w76 hb77 => ?_)
            have H78 : Holds (([.bx bp0 66 [vp0_0, .int .i64 p0_1]] : List Res).flatMap Res.own) w w76 [.sl 3 (.int .i64) vs32 (List.set s32 (Int.toNat s19) (IntKind.wrap .i64 (x55 + x64))), .bx bp0 66 [vp0_0, .int .i64 x46.1]] G := H75.grow hb77
            refine XL_q rfl (qt_move rfl) rfl rfl ?_
            refine XL_q rfl (qt_move rfl) rfl rfl ?_
            refine XL_q rfl (qt_move rfl) rfl rfl ?_
            refine XL_q rfl (qt_move rfl) rfl rfl ?_
            obtain ⟨x79, hx80, hs41⟩ := bind_some hs41
            refine XL_indexH H78.ctx (Has.hd) hx80 u27 i3 rfl rfl rfl rfl (fun b81 off82 cap83 hv84 => ?_)
            obtain ⟨F85, hat86, hdup87⟩ := H78.at (Has.hd) hx80 hv84
            refine XL_load_int (k := .i64) u3 rfl hat86 rfl rfl rfl ?_
            refine XL_q rfl (qt_move rfl) rfl rfl ?_
            obtain ⟨x88, hx89, hs41⟩ := bind_some hs41
            refine XL_q rfl (qt_shlO rfl rfl hx89) rfl rfl ?_
            refine XL_q rfl (qt_add rfl rfl) rfl rfl ?_
            refine SL_nil ?_
            obtain ⟨x90, hx91, hs41⟩ := bind_some hs41
            refine XL_indexH H78.ctx (Has.hd) hx91 u27 i3 rfl rfl rfl rfl (fun b92 off93 cap94 hv95 => ?_)
            refine WL_storeH (fo := 0) (cs' := [.int .i64 (IntKind.wrap .i64 (x79 + x88))]) H78 hx91 hv95 (Upd.whole (Blt.int)) rfl il3 rfl rfl rfl rfl (fun w96 H97 => ?_)
            have H98 : Holds (([.bx bp0 66 [vp0_0, .int .i64 p0_1]] : List Res).flatMap Res.own) w w96 [.sl 3 (.int .i64) vs32 (List.set (List.set s32 (Int.toNat s19) (IntKind.wrap .i64 (x55 + x64))) (Int.toNat s33) (IntKind.wrap .i64 (x79 + x88))), .bx bp0 66 [vp0_0, .int .i64 x46.1]] G := H97
            refine WL_nil fun a ha => ?_
            refine nrm_block (nrm_seq (WP.app ?_ ha))
            refine WP_region ?_
            refine XL_q rfl (qt_move rfl) rfl rfl ?_
            refine XL_q rfl (qt_add rfl rfl) rfl rfl ?_
            refine XL_q rfl (qt_assign rfl) rfl rfl ?_
            refine WL_nil fun a ha => ?_
            obtain rfl := Option.some.inj hs41
            have H99 : Holds (([.bx bp0 66 [vp0_0, .int .i64 p0_1]] : List Res).flatMap Res.own) w w96 [.bx bp0 66 [vp0_0, .int .i64 x46.1], .sl 3 (.int .i64) vs32 (List.set (List.set s32 (Int.toNat s19) (IntKind.wrap .i64 (x55 + x64))) (Int.toNat s33) (IntKind.wrap .i64 (x79 + x88)))] G := (H98.pull 1)
            exact ⟨rfl, vs32, ha.sub ⟨rfl, rfl, rfl, rfl, rfl, rfl, rfl, trivial⟩, H99⟩
          · have hs41 := if_f hc51 hs41
            refine WP_skip fun a ha => ?_
            refine nrm_block (nrm_seq (WP.app ?_ ha))
            refine WP_region ?_
            refine XL_q rfl (qt_move rfl) rfl rfl ?_
            refine XL_q rfl (qt_add rfl rfl) rfl rfl ?_
            refine XL_q rfl (qt_assign rfl) rfl rfl ?_
            refine WL_nil fun a ha => ?_
            obtain rfl := Option.some.inj hs41
            have H100 : Holds (([.bx bp0 66 [vp0_0, .int .i64 p0_1]] : List Res).flatMap Res.own) w w48 [.bx bp0 66 [vp0_0, .int .i64 x46.1], .sl 3 (.int .i64) vs32 s32] G := ((H50.pull 1).pull 1)
            exact ⟨rfl, vs32, ha.sub ⟨rfl, rfl, rfl, rfl, rfl, rfl, rfl, trivial⟩, H100⟩
        · have hs41 := if_f hc45 hs41
          refine WP_exit fun a ha => ?_
          obtain rfl := Option.some.inj hs41
          have H101 : Holds (([.bx bp0 66 [vp0_0, .int .i64 p0_1]] : List Res).flatMap Res.own) w w40 [.bx bp0 66 [vp0_0, .int .i64 s34], .sl 3 (.int .i64) vs32 s32] G := ((H44.pull 1).pull 1)
          exact exit_seq (⟨exit_ne, rfl, vs32, ha.sub ⟨rfl, rfl, rfl, rfl, rfl, rfl, trivial⟩, H101⟩)
      · intro e a37 w102 hO103
        obtain ⟨p104, p105⟩ := o35
        obtain ⟨rfl, hO107⟩ := hO103
        obtain ⟨vp104, ha, H106⟩ := hO107
        refine exit_block_eq (nrm_block (nrm_seq (WP.app ?_ ha)))
        refine WP_region ?_
        refine XL_q rfl (qt_move rfl) rfl rfl ?_
        refine XL_q rfl (qt_add rfl rfl) rfl rfl ?_
        refine XL_q rfl (qt_assign rfl) rfl rfl ?_
        refine WL_nil fun a ha => ?_
        obtain rfl := Option.some.inj hs27
        have H108 : Holds (([.bx bp0 66 [vp0_0, .int .i64 p0_1]] : List Res).flatMap Res.own) w w102 [.bx bp0 66 [vp0_0, .int .i64 p105], .sl 3 (.int .i64) vp104 p104] G := ((H106.pull 1).pull 1)
        exact ⟨rfl, vp104, ha.sub ⟨rfl, rfl, rfl, rfl, rfl, rfl, trivial⟩, H108⟩
    · have hs27 := if_f hc31 hs27
      refine WP_exit fun a ha => ?_
      obtain rfl := Option.some.inj hs27
      have H109 : Holds (([.bx bp0 66 [vp0_0, .int .i64 p0_1]] : List Res).flatMap Res.own) w w26 [.bx bp0 66 [vp0_0, .int .i64 s20], .sl 3 (.int .i64) vs18 s18] G := ((H30.pull 1).pull 1)
      exact exit_seq (⟨exit_ne, rfl, vs18, ha.sub ⟨rfl, rfl, rfl, rfl, trivial⟩, H109⟩)
  · intro e a23 w110 hO111
    obtain ⟨p112, p113⟩ := o21
    obtain ⟨rfl, hO115⟩ := hO111
    obtain ⟨vp112, ha, H114⟩ := hO115
    refine exit_block_eq (nrm_seq (WP.app ?_ ha))
    refine WP_seq ?_
    refine WP_seq ?_
    refine WP_region ?_
    refine XL_q rfl (qt_move rfl) rfl rfl ?_
    refine XL_q rfl (qt_move rfl) rfl rfl ?_
    obtain ⟨x116, hx117, h⟩ := bind_some h
    refine WL_call rfl rfl c78 (w_spec_l20Rd__odd w110 ([.sl 3 (.int .i64) vp112 p112] ++ G) bp0 vp0_0 p0_0 (hp0_0.c) p113 p1 x116 hx117 H114.ctx) (by rfl) ?_
    rintro _ w118 ⟨rfl, H119⟩; refine ⟨_, rfl, ?_⟩
    have H120 : Holds (([.bx bp0 66 [vp0_0, .int .i64 p0_1]] : List Res).flatMap Res.own) w w118 [.bx bp0 66 [vp0_0, .int .i64 x116.1], .sl 3 (.int .i64) vp112 p112] G := H114.calledN (Rs := [_]) H119
    refine WL_nil_seq ?_
    refine WP_cond rfl (fun hc121 => ?_) (fun hc121 => ?_)
    · have h := if_t hc121 h
      refine WP_seq ?_
      refine WP_region ?_
      refine XL_q rfl (qt_move rfl) rfl rfl ?_
      obtain ⟨x122, hx123, h⟩ := bind_some h
      refine WL_call rfl rfl c63 (w_spec_l20Rd__pick w118 ([.sl 3 (.int .i64) vp112 p112] ++ G) bp0 vp0_0 p0_0 (hp0_0.c) x116.1 3 x122 hx123 H120.ctx) (by rfl) ?_
      rintro _ w124 ⟨rfl, H125⟩; refine ⟨_, rfl, ?_⟩
      have H126 : Holds (([.bx bp0 66 [vp0_0, .int .i64 p0_1]] : List Res).flatMap Res.own) w w124 [.bx bp0 66 [vp0_0, .int .i64 x122.1], .sl 3 (.int .i64) vp112 p112] G := H120.calledN (Rs := [_]) H125
      refine WL_nil_seq ?_
      refine WP_block ?_
      refine WP_seq ?_
      refine WP_region ?_
      refine XL_q rfl (qt_eql rfl rfl) rfl rfl ?_
      refine XL_q rfl (qt_assign rfl) rfl rfl ?_
      refine WL_nil_seq ?_
      refine WP_cond rfl (fun hc127 => ?_) (fun hc127 => ?_)
      · have h := if_t hc127 h
        refine WP_seq ?_
        refine WP_region ?_
        refine XL_q rfl (qt_move rfl) rfl rfl ?_
        refine XL_q rfl (qt_move rfl) rfl rfl ?_
        refine WL_buildH (t := (.int .i64)) (args := [.const (.int .i64 0)]) (xs := ([0] : List Int)) H126 (BltL.cons (Blt.int) rfl (BltL.nil)) u27 j3 rfl rfl rfl rfl rfl rfl (fun v128 w129 H130 => ?_)
        have H131 : Holds (([.bx bp0 66 [vp0_0, .int .i64 p0_1]] : List Res).flatMap Res.own) w w129 [.sl 3 (.int .i64) v128 ([0]), .bx bp0 66 [vp0_0, .int .i64 x122.1], .sl 3 (.int .i64) vp112 p112] G := H130
        have H132 : Holds (([.bx bp0 66 [vp0_0, .int .i64 p0_1]] : List Res).flatMap Res.own) w w129 [.sl 3 (.int .i64) vp112 p112, .sl 3 (.int .i64) v128 ([0]), .bx bp0 66 [vp0_0, .int .i64 x122.1]] G := H131.pull 2
        obtain ⟨x133, hx134, h⟩ := bind_some h
        refine WL_appendH H132 (Has.c (Has.hd)) hx134 u27 j3 rfl rfl rfl rfl rfl rfl (fun v135 w136 H137 => ?_)
        have H138 : Holds (([.bx bp0 66 [vp0_0, .int .i64 p0_1]] : List Res).flatMap Res.own) w w136 [.sl 3 (.int .i64) v135 x133, .sl 3 (.int .i64) v128 ([0]), .bx bp0 66 [vp0_0, .int .i64 x122.1]] G := H137
        refine XL_q rfl (qt_assign rfl) rfl rfl ?_
        refine XL_q rfl (qt_assign rfl) rfl rfl ?_
        refine WL_nil_seq ?_
        refine WP_ret fun a ha => ?_
        obtain rfl := Option.some.inj h
        have H139 : Holds (([.bx bp0 66 [vp0_0, .int .i64 p0_1]] : List Res).flatMap Res.own) w w136 [.sl 3 (.int .i64) v135 x133, .bx bp0 66 [vp0_0, .int .i64 x122.1]] G := (((H138.cut 1).pull 1).pull 1)
        exact ret_block (ret_seq (ret2 rfl ha rfl rfl ⟨v135, rfl, H139⟩))
      · have h := if_f hc127 h
        refine WP_seq ?_
        refine WP_region ?_
        refine XL_q rfl (qt_eql rfl rfl) rfl rfl ?_
        refine XL_q rfl (qt_assign rfl) rfl rfl ?_
        refine WL_nil_seq ?_
        refine WP_cond rfl (fun hc140 => ?_) (fun hc140 => ?_)
        · have h := if_t hc140 h
          refine WP_seq ?_
          refine WP_region ?_
          refine WL_buildH (t := (.int .i64)) (args := [.const (.int .i64 2), .const (.int .i64 0)]) (xs := ([2, 0] : List Int)) H126 (BltL.cons (Blt.int) rfl (BltL.cons (Blt.int) rfl (BltL.nil))) u27 j3 rfl rfl rfl rfl rfl rfl (fun v141 w142 H143 => ?_)
          have H144 : Holds (([.bx bp0 66 [vp0_0, .int .i64 p0_1]] : List Res).flatMap Res.own) w w142 [.sl 3 (.int .i64) v141 ([2, 0]), .bx bp0 66 [vp0_0, .int .i64 x122.1], .sl 3 (.int .i64) vp112 p112] G := H143
          refine XL_q rfl (qt_assign rfl) rfl rfl ?_
          refine XL_q rfl (qt_assign rfl) rfl rfl ?_
          refine WL_nil_seq ?_
          refine WP_ret fun a ha => ?_
          obtain rfl := Option.some.inj h
          have H145 : Holds (([.bx bp0 66 [vp0_0, .int .i64 p0_1]] : List Res).flatMap Res.own) w w142 [.sl 3 (.int .i64) v141 ([2, 0]), .bx bp0 66 [vp0_0, .int .i64 x122.1]] G := (((H144.cut 2).pull 1).pull 1)
          exact ret_block (ret_seq (ret2 rfl ha rfl rfl ⟨v141, rfl, H145⟩))
        · have h := if_f hc140 h
          refine WP_seq ?_
          refine WP_region ?_
          refine WL_buildH (t := (.int .i64)) (args := [.const (.int .i64 1), .const (.int .i64 0)]) (xs := ([1, 0] : List Int)) H126 (BltL.cons (Blt.int) rfl (BltL.cons (Blt.int) rfl (BltL.nil))) u27 j3 rfl rfl rfl rfl rfl rfl (fun v146 w147 H148 => ?_)
          have H149 : Holds (([.bx bp0 66 [vp0_0, .int .i64 p0_1]] : List Res).flatMap Res.own) w w147 [.sl 3 (.int .i64) v146 ([1, 0]), .bx bp0 66 [vp0_0, .int .i64 x122.1], .sl 3 (.int .i64) vp112 p112] G := H148
          refine XL_q rfl (qt_assign rfl) rfl rfl ?_
          refine XL_q rfl (qt_assign rfl) rfl rfl ?_
          refine WL_nil_seq ?_
          refine WP_ret fun a ha => ?_
          obtain rfl := Option.some.inj h
          have H150 : Holds (([.bx bp0 66 [vp0_0, .int .i64 p0_1]] : List Res).flatMap Res.own) w w147 [.sl 3 (.int .i64) v146 ([1, 0]), .bx bp0 66 [vp0_0, .int .i64 x122.1]] G := (((H149.cut 2).pull 1).pull 1)
          exact ret_block (ret_seq (ret2 rfl ha rfl rfl ⟨v146, rfl, H150⟩))
    · have h := if_f hc121 h
      refine WP_skip_seq ?_
      refine WP_seq ?_
      refine WP_region ?_
      refine XL_q rfl (qt_move rfl) rfl rfl ?_
      refine XL_q rfl (qt_move rfl) rfl rfl ?_
      refine XL_q rfl (qt_assign rfl) rfl rfl ?_
      refine XL_q rfl (qt_assign rfl) rfl rfl ?_
      refine WL_nil_seq ?_
      refine WP_ret fun a ha => ?_
      obtain rfl := Option.some.inj h
      have H151 : Holds (([.bx bp0 66 [vp0_0, .int .i64 p0_1]] : List Res).flatMap Res.own) w w118 [.sl 3 (.int .i64) vp112 p112, .bx bp0 66 [vp0_0, .int .i64 x116.1]] G := (H120.pull 1)
      exact ret2 rfl ha rfl rfl ⟨vp112, rfl, H151⟩
theorem w_spec_DrawQuarrelsValid (w : World) (G : List Res) (vp0 : Value) (p0 : List Int) (hp0 : HasRo G (.int .u8) vp0 p0) (r : Int × (List Int)) (h : spec_DrawQuarrelsValidS p0 = some r) (H : Ctx w G) : Calls Tryd.prog 25 #[vp0] w fun e w' => ∃ (v1 : Value), e = .returned (.tuple #[.int .i64 r.1, v1]) ∧ Holds (([] : List Res).flatMap Res.own) w w' [.sl 3 (.int .i64) v1 r.2] G := by
  have H : Holds (([] : List Res).flatMap Res.own) w w [] G := Holds.startN H
  refine calls_enter (args := [vp0]) (n := 9) Tryd.func25 rfl rfl rfl ?_
  unfold spec_DrawQuarrelsValidS at h
  refine WP_seq ?_
  refine WP_region ?_
  refine XL_q rfl (qt_assign rfl) rfl rfl ?_
  refine XL_q rfl (qt_assign rfl) rfl rfl ?_
  refine WL_nil_seq ?_
  refine WP_seq ?_
  refine WP_region ?_
  refine XL_q rfl (qt_move rfl) rfl rfl ?_
  obtain ⟨x1, hx2, h⟩ := bind_some h
  refine WL_call rfl rfl c62 (w_spec_l20Open w G vp0 p0 (hp0) x1 hx2 H.ctx) (by rfl) ?_
  rintro _ w3 ⟨v5, b6, rfl, H4⟩; refine ⟨_, rfl, ?_⟩
  have H7 : Holds (([] : List Res).flatMap Res.own) w w3 [.ro (.int .u8) v5 x1.1, .bx b6 66 [v5, .int .i64 x1.2]] G := H.calledN (Rs := []) H4
  have H10 : Holds (([] : List Res).flatMap Res.own) w w3 [.bx b6 66 [v5, .int .i64 x1.2], .ro (.int .u8) v5 x1.1] G := H7.pull 1
  obtain ⟨x8, hx9, h⟩ := bind_some h
  refine WL_call rfl rfl c71 (w_spec_l20Quarrels w3 ([.ro (.int .u8) v5 x1.1] ++ G) b6 v5 x1.1 (HasRo.has (HasRo.hd)) x1.2 2 x8 hx9 H10.ctx) (by rfl) ?_
  rintro _ w11 ⟨v13, rfl, H12⟩; refine ⟨_, rfl, ?_⟩
  have H14 : Holds (([] : List Res).flatMap Res.own) w w11 [.sl 3 (.int .i64) v13 x8.2.2, .bx b6 66 [v5, .int .i64 x8.1], .ro (.int .u8) v5 x1.1] G := H10.calledN (Rs := [_]) H12
  refine XL_q rfl (qt_extract rfl rfl) rfl rfl ?_
  refine XL_q rfl (qt_extract rfl rfl) rfl rfl ?_
  refine XL_q rfl (qt_assign rfl) rfl rfl ?_
  refine XL_q rfl (qt_assign rfl) rfl rfl ?_
  refine WL_nil_seq ?_
  refine WP_ret fun a ha => ?_
  obtain rfl := Option.some.inj h
  have H15 : Holds (([] : List Res).flatMap Res.own) w w11 [.sl 3 (.int .i64) v13 x8.2.2] G := ((H14.cut 1).cut 1)
  exact ret2 rfl ha rfl rfl ⟨v13, rfl, H15⟩
theorem w_impl_membersOf (w : World) (G : List Res) (p0 : Int) (r : (List Int)) (h : impl_membersOfS p0 = some r) (H : Ctx w G) : Calls Tryd.prog 72 #[.int .i64 p0] w fun e w' => ∃ (v1 : Value), e = .returned (v1) ∧ Holds (([] : List Res).flatMap Res.own) w w' [.sl 3 (.int .i64) v1 r] G := by
  have H : Holds (([] : List Res).flatMap Res.own) w w [] G := Holds.startN H
  refine calls_enter (args := [.int .i64 p0]) (n := 21) Tryd.func72 rfl rfl rfl ?_
  unfold impl_membersOfS at h
  refine WP_seq ?_
  refine WP_region ?_
  refine XL_q rfl (qt_assign rfl) rfl rfl ?_
  refine WL_nil_seq ?_
  refine WP_seq ?_
  refine WP_region ?_
  refine XL_q rfl (qt_assign rfl) rfl rfl ?_
  refine WL_nil_seq ?_
  refine WP_seq ?_
  refine WP_seq ?_
  refine WP_region ?_
  refine XL_q rfl (qt_assign rfl) rfl rfl ?_
  refine WL_nil_seq ?_
  refine WP_block ?_
  have H3 : Holds (([] : List Res).flatMap Res.own) w w [.sl 3 (.int .i64) (.slice none 0 0) ([])] G := H.nilSl
  obtain ⟨o4, ho5, h⟩ := bind_some h
  refine fun a6 ha7 => wp_loop_fix (I := fun s a w2 => match s with | (s1, s2) => ∃ vs1, Fr a 21 [(0, .int .i64 p0), (3, vs1), (4, .int .i64 s2)] ∧ Holds (([] : List Res).flatMap Res.own) w w2 [.sl 3 (.int .i64) vs1 s1] G) (O := fun o e a w2 => match o with | q0 => e = .exit 0 ∧ ∃ vq0, Fr a 21 [(3, vq0)] ∧ Holds (([] : List Res).flatMap Res.own) w w2 [.sl 3 (.int .i64) vq0 q0] G) ho5 ?_ ?_ ?_
  · exact ⟨(.slice none 0 0), ha7.sub ⟨rfl, rfl, rfl, trivial⟩, H3⟩
  · clear ha7
    intro s o10 a w8 hs9 hI11
    obtain ⟨s1, s2⟩ := s
    obtain ⟨vs1, ha, H12⟩ := hI11
    refine WP.app ?_ ha
    clear ha
    refine WP_seq ?_
    refine WP_seq ?_
    refine WP_region ?_
    refine XL_q rfl (qt_move rfl) rfl rfl ?_
    refine XL_q rfl (qt_move rfl) rfl rfl ?_
    obtain ⟨x13, hx14, hs9⟩ := bind_some hs9
    refine XL_q rfl (qt_shrO rfl rfl hx14) rfl rfl ?_
    refine XL_q rfl (qt_neq rfl rfl) rfl rfl ?_
    refine WL_nil_seq ?_
    refine WP_cond rfl (fun hc15 => ?_) (fun hc15 => ?_)
    · have hs9 := if_t hc15 hs9
      refine WP_skip_seq ?_
      refine WP_seq ?_
      refine WP_block ?_
      refine WP_seq ?_
      refine WP_region ?_
      refine XL_q rfl (qt_move rfl) rfl rfl ?_
      refine XL_q rfl (qt_move rfl) rfl rfl ?_
      obtain ⟨x16, hx17, hs9⟩ := bind_some hs9
      refine XL_q rfl (qt_shlO rfl rfl hx17) rfl rfl ?_
      refine XL_q rfl (qt_and rfl rfl) rfl rfl ?_
      refine XL_q rfl (qt_neq rfl rfl) rfl rfl ?_
      refine WL_nil_seq ?_
      refine WP_cond rfl (fun hc18 => ?_) (fun hc18 => ?_)
      · have hs9 := if_t hc18 hs9
        refine WP_region ?_
        refine XL_q rfl (qt_move rfl) rfl rfl ?_
        refine XL_q rfl (qt_move rfl) rfl rfl ?_
        refine WL_buildH (t := (.int .i64)) (args := [.tmp 17]) (xs := ([s2] : List Int)) H12 (BltL.cons (Blt.int) rfl (BltL.nil)) u27 j3 rfl rfl rfl rfl rfl rfl (fun v19 w20 H21 => ?_)
        have H22 : Holds (([] : List Res).flatMap Res.own) w w20 [.sl 3 (.int .i64) v19 ([s2]), .sl 3 (.int .i64) vs1 s1] G := H21
        have H23 : Holds (([] : List Res).flatMap Res.own) w w20 [.sl 3 (.int .i64) vs1 s1, .sl 3 (.int .i64) v19 ([s2])] G := H22.pull 1
        obtain ⟨x24, hx25, hs9⟩ := bind_some hs9
        refine WL_appendH H23 (Has.c (Has.hd)) hx25 u27 j3 rfl rfl rfl rfl rfl rfl (fun v26 w27 H28 => ?_)
        have H29 : Holds (([] : List Res).flatMap Res.own) w w27 [.sl 3 (.int .i64) v26 x24, .sl 3 (.int .i64) v19 ([s2])] G := H28
        refine XL_q rfl (qt_assign rfl) rfl rfl ?_
        refine WL_nil fun a ha => ?_
        refine nrm_block (nrm_seq (WP.app ?_ ha))
        refine WP_region ?_
        refine XL_q rfl (qt_move rfl) rfl rfl ?_
        refine XL_q rfl (qt_add rfl rfl) rfl rfl ?_
        refine XL_q rfl (qt_assign rfl) rfl rfl ?_
        refine WL_nil fun a ha => ?_
        obtain rfl := Option.some.inj hs9
        have H30 : Holds (([] : List Res).flatMap Res.own) w w27 [.sl 3 (.int .i64) v26 x24] G := (H29.cut 1)
        exact ⟨rfl, v26, ha.sub ⟨rfl, rfl, rfl, trivial⟩, H30⟩
      · have hs9 := if_f hc18 hs9
        refine WP_skip fun a ha => ?_
        refine nrm_block (nrm_seq (WP.app ?_ ha))
        refine WP_region ?_
        refine XL_q rfl (qt_move rfl) rfl rfl ?_
        refine XL_q rfl (qt_add rfl rfl) rfl rfl ?_
        refine XL_q rfl (qt_assign rfl) rfl rfl ?_
        refine WL_nil fun a ha => ?_
        obtain rfl := Option.some.inj hs9
        exact ⟨rfl, vs1, ha.sub ⟨rfl, rfl, rfl, trivial⟩, H12⟩
    · have hs9 := if_f hc15 hs9
      refine WP_exit fun a ha => ?_
      obtain rfl := Option.some.inj hs9
      exact exit_seq (⟨exit_ne, rfl, vs1, ha.sub ⟨rfl, trivial⟩, H12⟩)
  · intro e a6 w31 hO32
    obtain ⟨p33, rfl⟩ : ∃ z, z = o4 := ⟨o4, rfl⟩
    obtain ⟨rfl, hO35⟩ := hO32
    obtain ⟨vp33, ha, H34⟩ := hO35
    refine exit_block_eq (nrm_seq (WP.app ?_ ha))
    refine WP_seq ?_
    refine WP_region ?_
    refine XL_q rfl (qt_move rfl) rfl rfl ?_
    refine XL_q rfl (qt_assign rfl) rfl rfl ?_
    refine WL_nil_seq ?_
    refine WP_ret fun a ha => ?_
    obtain rfl := Option.some.inj h
    exact ret1 rfl ha rfl ⟨vp33, rfl, H34⟩
theorem w_impl_QuarrelsValid (w : World) (G : List Res) (p0 : Int) (vp1 : Value) (p1 : List Int) (hp1 : Has G (.int .i64) vp1 p1) (r : Bool) (h : impl_QuarrelsValidS p0 p1 = some r) (H : Ctx w G) : Calls Tryd.prog 26 #[.int .i64 p0, vp1] w fun e w' => e = .returned (.bool r) ∧ Holds (([] : List Res).flatMap Res.own) w w' [] G := by
  have H : Holds (([] : List Res).flatMap Res.own) w w [] G := Holds.startN H
  refine calls_enter (args := [.int .i64 p0, vp1]) (n := 55) Tryd.func26 rfl rfl rfl ?_
  unfold impl_QuarrelsValidS at h
  refine WP_seq ?_
  refine WP_region ?_
  refine XL_q rfl (qt_assign rfl) rfl rfl ?_
  refine WL_nil_seq ?_
  refine WP_seq ?_
  refine WP_seq ?_
  refine WP_still ?_
  refine XL_q rfl (qt_move rfl) rfl rfl ?_
  refine XL_q rfl (qt_lss rfl rfl) rfl rfl ?_
  refine XL_q rfl (qt_move rfl) rfl rfl ?_
  refine XL_join 3 13 (.bool ((decide (p0 < 0)) || (decide (p0 > 6)))) ?_ (fun md hmd hk => ?_)
  rotate_left
  · obtain ⟨K, rfl⟩ := Md.quiet_of hmd
    rcases btf (decide (p0 < 0)) with hc1 | hc1
    · skip
      refine XL_skip (w_skip rfl hc1) rfl rfl ?_
      refine XL_skip (w_skip rfl hc1) rfl rfl ?_
      refine XL_q rfl (qt_pickT rfl hc1 rfl) rfl rfl ?_
      exact hk _ (Cov.same (by rw [hc1]; rfl) (Cov.fresh rfl (Cov.fresh rfl (Cov.refl))))
    · skip
      refine XL_q (w_take rfl hc1) (qt_move rfl) rfl rfl ?_
      refine XL_q (w_take rfl hc1) (qt_gtr rfl rfl) rfl rfl ?_
      refine XL_q rfl (qt_pickF rfl hc1 rfl) rfl rfl ?_
      exact hk _ (Cov.same (by rw [hc1]; rfl) (Cov.fresh rfl (Cov.fresh rfl (Cov.refl))))
  refine XL_q rfl (qt_move rfl) rfl rfl ?_
  obtain ⟨b2, hg3, h⟩ := bind_some h
  refine XL_join 7 21 (.bool b2) ?_ (fun md hmd hk => ?_)
  rotate_left
  · obtain ⟨K, rfl⟩ := Md.quiet_of hmd
    rcases btf ((decide (p0 < 0)) || (decide (p0 > 6))) with hc4 | hc4
    · skip
      refine XL_skip (w_skip rfl hc4) rfl rfl ?_
      refine XL_skip (w_skip rfl hc4) rfl rfl ?_
      refine XL_skip (w_skip rfl hc4) rfl rfl ?_
      refine XL_skip (w_skip rfl hc4) rfl rfl ?_
      refine XL_skip (w_skip rfl hc4) rfl rfl ?_
      refine XL_skip (w_skip rfl hc4) rfl rfl ?_
      refine XL_q rfl (qt_pickT rfl hc4 rfl) rfl rfl ?_
      exact hk _ (Cov.same (vb (if_t hc4 hg3)) (Cov.fresh rfl (Cov.fresh rfl (Cov.fresh rfl (Cov.fresh rfl (Cov.fresh rfl (Cov.fresh rfl (Cov.refl))))))))
    · skip
      have hg3 := if_f hc4 hg3
      refine XL_q (w_take rfl hc4) (qt_move rfl) rfl rfl ?_
      refine XL_q (w_take rfl hc4) (qt_move rfl) rfl rfl ?_
      refine XL_q (w_take rfl hc4) (qt_move rfl) rfl rfl ?_
      obtain ⟨x5, hx6, hg3⟩ := bind_some hg3
      refine QL_call (w_take rfl hc4) rfl c69 (fun w' hb => (w_impl_everybody w' G p0 x5 hx6 (H.grow hb).ctx).mono fun e w'' hK => ⟨hK.1, hK.2.bel⟩) (by rfl) ?_
      obtain ⟨x7, hx8, hg3⟩ := bind_some hg3
      refine QL_call (w_take rfl hc4) rfl c68 (fun w' hb => (w_impl_amountsOk w' G vp1 p1 (hp1) p0 x5 x7 hx8 (H.grow hb).ctx).mono fun e w'' hK => ⟨hK.1, hK.2.bel⟩) (by rfl) ?_
      refine XL_q (w_take rfl hc4) (qt_not rfl) rfl rfl ?_
      refine XL_q rfl (qt_pickF rfl hc4 rfl) rfl rfl ?_
      exact hk _ (Cov.same (vb hg3) (Cov.fresh rfl (Cov.fresh rfl (Cov.fresh rfl (Cov.fresh rfl (Cov.fresh rfl (Cov.fresh rfl (Cov.refl))))))))
  refine QL_nil fun a ha w9 hb10 => ?_
  have H11 : Holds (([] : List Res).flatMap Res.own) w w9 [] G := H.grow hb10
  refine nrm_seq (WP.app ?_ ha)
  refine WP_cond rfl (fun hc12 => ?_) (fun hc12 => ?_)
  · have h := if_t hc12 h
    refine WP_seq ?_
    refine WP_region ?_
    refine XL_q rfl (qt_assign rfl) rfl rfl ?_
    refine WL_nil_seq ?_
    refine WP_ret fun a ha => ?_
    obtain rfl := Option.some.inj h
    exact ret_seq (ret1 rfl ha rfl ⟨rfl, H11⟩)
  · have h := if_f hc12 h
    refine WP_skip_seq ?_
    refine WP_seq ?_
    refine WP_seq ?_
    refine WP_region ?_
    refine XL_q rfl (qt_move rfl) rfl rfl ?_
    refine XL_lenH H11.ctx (t := (.int .i64)) (hp1) u27 rfl rfl rfl ?_
    refine XL_q rfl (qt_move rfl) rfl rfl ?_
    refine WL_nil_seq ?_
    refine WP_block ?_
    obtain ⟨o14, ho15, h⟩ := bind_some h
    refine fun a16 ha17 => wp_loop_fix (I := fun s a w2 => match s with | s13 => (Fr a 55 [(1, vp1), (23, .int .i64 (List.length p1 : Int)), (24, .int .i64 s13)] ∧ Holds (([] : List Res).flatMap Res.own) w w2 [] G)) (O := fun o e a w2 => match o with | .inl _ => e = .exit 0 ∧ (Fr a 55 [] ∧ Holds (([] : List Res).flatMap Res.own) w w2 [] G) | .inr q0 => e = .ret ∧ (Fr a 55 [(4, .bool q0)] ∧ Holds (([] : List Res).flatMap Res.own) w w2 [] G)) ho15 ?_ ?_ ?_
    · exact ⟨ha17.sub ⟨rfl, rfl, rfl, trivial⟩, H11⟩
    · clear ha17
      intro s o20 a w18 hs19 hI21
      obtain ⟨s13, rfl⟩ : ∃ z, z = s := ⟨s, rfl⟩
      obtain ⟨ha, H22⟩ := hI21
      refine WP.app ?_ ha
      clear ha
      refine WP_seq ?_
      refine WP_region ?_
      refine XL_q rfl (qt_lss rfl rfl) rfl rfl ?_
      refine WL_nil_seq ?_
      refine WP_seq ?_
      refine WP_cond rfl (fun hc23 => ?_) (fun hc23 => ?_)
      · have hs19 := if_t hc23 hs19
        refine WP_skip_seq ?_
        refine WP_seq ?_
        refine WP_block ?_
        refine WP_seq ?_
        refine WP_region ?_
        refine XL_q rfl (qt_move rfl) rfl rfl ?_
        refine XL_q rfl (qt_assign rfl) rfl rfl ?_
        refine WL_nil_seq ?_
        refine WP_seq ?_
        refine WP_seq ?_
        refine WP_quiet (by kernel_rfl) (by kernel_rfl) ?_
        refine XL_q rfl (qt_move rfl) rfl rfl ?_
        refine XL_q rfl (qt_move rfl) rfl rfl ?_
        obtain ⟨x24, hx25, hs19⟩ := bind_some hs19
        refine XL_indexH H22.ctx (hp1) hx25 u27 i3 rfl rfl rfl rfl (fun b26 off27 cap28 hv29 => ?_)
        obtain ⟨F30, hat31, hdup32⟩ := H22.at (hp1) hx25 hv29
        refine XL_load_int (k := .i64) u3 rfl hat31 rfl rfl rfl ?_
        refine XL_q rfl (qt_move rfl) rfl rfl ?_
        obtain ⟨x33, hx34, hs19⟩ := bind_some hs19
        refine XL_q rfl (qt_shlO rfl rfl hx34) rfl rfl ?_
        refine XL_q rfl (qt_and rfl rfl) rfl rfl ?_
        refine XL_q rfl (qt_neq rfl rfl) rfl rfl ?_
        refine QL_nil fun a ha w35 hb36 => ?_
        have H37 : Holds (([] : List Res).flatMap Res.own) w w35 [] G := H22.grow hb36
        refine nrm_seq (WP.app ?_ ha)
        refine WP_cond rfl (fun hc38 => ?_) (fun hc38 => ?_)
        · have hs19 := if_t hc38 hs19
          refine WP_seq ?_
          refine WP_region ?_
          refine XL_q rfl (qt_assign rfl) rfl rfl ?_
          refine WL_nil_seq ?_
          refine WP_ret fun a ha => ?_
          obtain rfl := Option.some.inj hs19
          exact ret_seq (ret_block (ret_seq (⟨ret_ne, rfl, ha.sub ⟨rfl, trivial⟩, H37⟩)))
        · have hs19 := if_f hc38 hs19
          refine WP_skip_seq ?_
          refine WP_seq ?_
          refine WP_region ?_
          refine XL_q rfl (qt_move rfl) rfl rfl ?_
          refine XL_q rfl (qt_move rfl) rfl rfl ?_
          obtain ⟨x39, hx40, hs19⟩ := bind_some hs19
          refine XL_indexH H37.ctx (hp1) hx40 u27 i3 rfl rfl rfl rfl (fun b41 off42 cap43 hv44 => ?_)
          obtain ⟨F45, hat46, hdup47⟩ := H37.at (hp1) hx40 hv44
          refine XL_load_int (k := .i64) u3 rfl hat46 rfl rfl rfl ?_
          obtain ⟨x48, hx49, hs19⟩ := bind_some hs19
          refine WL_call rfl rfl c72 (w_impl_membersOf w35 G x39 x48 hx49 H37.ctx) (by rfl) ?_
          rintro _ w50 ⟨v52, rfl, H51⟩; refine ⟨_, rfl, ?_⟩
          have H53 : Holds (([] : List Res).flatMap Res.own) w w50 [.sl 3 (.int .i64) v52 x48] G := H37.calledN (Rs := []) H51
          refine XL_lenH H53.ctx (t := (.int .i64)) (Has.hd) u27 rfl rfl rfl ?_
          refine XL_q rfl (qt_move rfl) rfl rfl ?_
          refine WL_nil_seq ?_
          refine WP_block ?_
          obtain ⟨o55, ho56, hs19⟩ := bind_some hs19
          refine fun a57 ha58 => wp_loop_fix (I := fun s a w2 => match s with | s54 => (Fr a 55 [(1, vp1), (5, .int .i64 s13), (23, .int .i64 (List.length p1 : Int)), (24, .int .i64 s13), (39, v52), (40, .int .i64 (List.length x48 : Int)), (41, .int .i64 s54)] ∧ Holds (([] : List Res).flatMap Res.own) w w2 [.sl 3 (.int .i64) v52 x48] G)) (O := fun o e a w2 => match o with | .inl _ => e = .exit 2 ∧ (Fr a 55 [(1, vp1), (23, .int .i64 (List.length p1 : Int)), (24, .int .i64 s13)] ∧ Holds (([] : List Res).flatMap Res.own) w w2 [] G) | .inr q0 => e = .ret ∧ (Fr a 55 [(4, .bool q0)] ∧ Holds (([] : List Res).flatMap Res.own) w w2 [] G)) ho56 ?_ ?_ ?_
          · exact ⟨ha58.sub ⟨rfl, rfl, rfl, rfl, rfl, rfl, rfl, trivial⟩, H53⟩
          · clear ha58
            intro s o61 a w59 hs60 hI62
            obtain ⟨s54, rfl⟩ : ∃ z, z = s := ⟨s, rfl⟩
            obtain ⟨ha, H63⟩ := hI62
            refine WP.app ?_ ha
            clear ha
            refine WP_seq ?_
            refine WP_region ?_
            refine XL_q rfl (qt_lss rfl rfl) rfl rfl ?_
            refine WL_nil_seq ?_
            refine WP_seq ?_
            refine WP_cond rfl (fun hc64 => ?_) (fun hc64 => ?_)
            · have hs60 := if_t hc64 hs60
              refine WP_skip_seq ?_
              refine WP_seq ?_
              refine WP_block ?_
              refine WP_seq ?_
              refine WP_region ?_
              obtain ⟨x65, hx66, hs60⟩ := bind_some hs60
              refine XL_indexH H63.ctx (Has.hd) hx66 u27 i3 rfl rfl rfl rfl (fun b67 off68 cap69 hv70 => ?_)
              obtain ⟨F71, hat72, hdup73⟩ := H63.at (Has.hd) hx66 hv70
              refine XL_load_int (k := .i64) u3 rfl hat72 rfl rfl rfl ?_
              refine XL_q rfl (qt_assign rfl) rfl rfl ?_
              refine WL_nil_seq ?_
              refine WP_seq ?_
              refine WP_quiet (by kernel_rfl) (by kernel_rfl) ?_
              refine XL_q rfl (qt_move rfl) rfl rfl ?_
              refine XL_q rfl (qt_move rfl) rfl rfl ?_
              obtain ⟨x74, hx75, hs60⟩ := bind_some hs60
              refine XL_indexH H63.ctx (hp1.c) hx75 u27 i3 rfl rfl rfl rfl (fun b76 off77 cap78 hv79 => ?_)
              obtain ⟨F80, hat81, hdup82⟩ := H63.at (hp1.c) hx75 hv79
              refine XL_load_int (k := .i64) u3 rfl hat81 rfl rfl rfl ?_
              refine XL_q rfl (qt_move rfl) rfl rfl ?_
              obtain ⟨x83, hx84, hs60⟩ := bind_some hs60
              refine XL_q rfl (qt_shlO rfl rfl hx84) rfl rfl ?_
              refine XL_q rfl (qt_and rfl rfl) rfl rfl ?_
              refine XL_q rfl (qt_eql rfl rfl) rfl rfl ?_
              refine QL_nil fun a ha w85 hb86 => ?_
              have H87 : Holds (([] : List Res).flatMap Res.own) w w85 [.sl 3 (.int .i64) v52 x48] G := H63.grow hb86
              refine nrm_seq (WP.app ?_ ha)
              refine WP_cond rfl (fun hc88 => ?_) (fun hc88 => ?_)
              · have hs60 := if_t hc88 hs60
                refine WP_seq ?_
                refine WP_region ?_
                refine XL_q rfl (qt_assign rfl) rfl rfl ?_
                refine WL_nil_seq ?_
                refine WP_ret fun a ha => ?_
                obtain rfl := Option.some.inj hs60
                have H89 : Holds (([] : List Res).flatMap Res.own) w w85 [] G := (H87.cut 0)
                exact ret_block (ret_seq (⟨ret_ne, rfl, ha.sub ⟨rfl, trivial⟩, H89⟩))
              · have hs60 := if_f hc88 hs60
                refine WP_skip fun a ha => ?_
                refine nrm_block (nrm_seq (WP.app ?_ ha))
                refine WP_region ?_
                refine XL_q rfl (qt_add rfl rfl) rfl rfl ?_
                refine XL_q rfl (qt_move rfl) rfl rfl ?_
                refine WL_nil fun a ha => ?_
                obtain rfl := Option.some.inj hs60
                exact ⟨rfl, ha.sub ⟨rfl, rfl, rfl, rfl, rfl, rfl, rfl, trivial⟩, H87⟩
            · have hs60 := if_f hc64 hs60
              refine WP_exit fun a ha => ?_
              obtain rfl := Option.some.inj hs60
              have H90 : Holds (([] : List Res).flatMap Res.own) w w59 [] G := (H63.cut 0)
              exact exit_seq (⟨exit_ne, rfl, ha.sub ⟨rfl, rfl, rfl, trivial⟩, H90⟩)
          · intro e a57 w91 hO92
            rcases o55 with o55 | o55
            · skip
              obtain ⟨rfl, hO94⟩ := hO92
              obtain ⟨ha, H93⟩ := hO94
              refine exit_block_eq (nrm_block (nrm_seq (WP.app ?_ ha)))
              refine WP_region ?_
              refine XL_q rfl (qt_add rfl rfl) rfl rfl ?_
              refine XL_q rfl (qt_move rfl) rfl rfl ?_
              refine WL_nil fun a ha => ?_
              obtain rfl := Option.some.inj hs19
              exact ⟨rfl, ha.sub ⟨rfl, rfl, rfl, trivial⟩, H93⟩
            · skip
              obtain ⟨p95, rfl⟩ : ∃ z, z = o55 := ⟨o55, rfl⟩
              obtain ⟨rfl, hO97⟩ := hO92
              obtain ⟨ha, H96⟩ := hO97
              obtain rfl := Option.some.inj hs19
              exact ret_block (ret_block (ret_seq (⟨ret_ne, rfl, ha.sub ⟨rfl, trivial⟩, H96⟩)))
      · have hs19 := if_f hc23 hs19
        refine WP_exit fun a ha => ?_
        obtain rfl := Option.some.inj hs19
        exact exit_seq (⟨exit_ne, rfl, ha.sub trivial, H22⟩)
    · intro e a16 w98 hO99
      rcases o14 with o14 | o14
      · skip
        obtain ⟨rfl, hO101⟩ := hO99
        obtain ⟨ha, H100⟩ := hO101
        refine exit_block_eq (nrm_seq (WP.app ?_ ha))
        refine WP_seq ?_
        refine WP_region ?_
        refine XL_q rfl (qt_assign rfl) rfl rfl ?_
        refine WL_nil_seq ?_
        refine WP_ret fun a ha => ?_
        obtain rfl := Option.some.inj h
        exact ret1 rfl ha rfl ⟨rfl, H100⟩
      · skip
        obtain ⟨p102, rfl⟩ : ∃ z, z = o14 := ⟨o14, rfl⟩
        obtain ⟨rfl, hO104⟩ := hO99
        obtain ⟨ha, H103⟩ := hO104
        obtain rfl := Option.some.inj h
        exact ret_block (ret_seq (ret1 rfl ha rfl ⟨rfl, H103⟩))
theorem w_spec_QuarrelsValid (w : World) (G : List Res) (p0 : Int) (vp1 : Value) (p1 : List Int) (hp1 : Has G (.int .i64) vp1 p1) (r : Bool) (h : spec_QuarrelsValidS p0 p1 = some r) (H : Ctx w G) : Calls Tryd.prog 27 #[.int .i64 p0, vp1] w fun e w' => e = .returned (.bool r) ∧ Holds (([] : List Res).flatMap Res.own) w w' [] G := by
  have H : Holds (([] : List Res).flatMap Res.own) w w [] G := Holds.startN H
  refine calls_enter (args := [.int .i64 p0, vp1]) (n := 71) Tryd.func27 rfl rfl rfl ?_
  unfold spec_QuarrelsValidS at h
  refine WP_seq ?_
  refine WP_region ?_
  refine XL_q rfl (qt_assign rfl) rfl rfl ?_
  refine WL_nil_seq ?_
  refine WP_seq ?_
  refine WP_seq ?_
  refine WP_still ?_
  refine XL_q rfl (qt_move rfl) rfl rfl ?_
  obtain ⟨x1, hx2, h⟩ := bind_some h
  refine QL_call rfl rfl c70 (fun w' hb => (w_spec_l1In w' G p0 0 6 x1 hx2 (H.grow hb).ctx).mono fun e w'' hK => ⟨hK.1, hK.2.bel⟩) (by rfl) ?_
  refine XL_q rfl (qt_not rfl) rfl rfl ?_
  refine XL_q rfl (qt_move rfl) rfl rfl ?_
  refine XL_join 5 15 (.bool ((!x1) || ((List.length p1 : Int) != p0))) ?_ (fun md hmd hk => ?_)
  rotate_left
  · obtain ⟨K, rfl⟩ := Md.quiet_of hmd
    rcases btf (!x1) with hc3 | hc3
    · skip
      refine XL_skip (w_skip rfl hc3) rfl rfl ?_
      refine XL_skip (w_skip rfl hc3) rfl rfl ?_
      refine XL_skip (w_skip rfl hc3) rfl rfl ?_
      refine XL_skip (w_skip rfl hc3) rfl rfl ?_
      refine XL_q rfl (qt_pickT rfl hc3 rfl) rfl rfl ?_
      exact hk _ (Cov.same (by rw [hc3]; rfl) (Cov.fresh rfl (Cov.fresh rfl (Cov.fresh rfl (Cov.fresh rfl (Cov.refl))))))
    · skip
      refine XL_q (w_take rfl hc3) (qt_move rfl) rfl rfl ?_
      refine XL_lenH H.ctx (t := (.int .i64)) (hp1) u27 (w_take rfl hc3) rfl rfl ?_
      refine XL_q (w_take rfl hc3) (qt_move rfl) rfl rfl ?_
      refine XL_q (w_take rfl hc3) (qt_neq rfl rfl) rfl rfl ?_
      refine XL_q rfl (qt_pickF rfl hc3 rfl) rfl rfl ?_
      exact hk _ (Cov.same (by rw [hc3]; rfl) (Cov.fresh rfl (Cov.fresh rfl (Cov.fresh rfl (Cov.fresh rfl (Cov.refl))))))
  refine QL_nil fun a ha w4 hb5 => ?_
  have H6 : Holds (([] : List Res).flatMap Res.own) w w4 [] G := H.grow hb5
  refine nrm_seq (WP.app ?_ ha)
  refine WP_cond rfl (fun hc7 => ?_) (fun hc7 => ?_)
  · have h := if_t hc7 h
    refine WP_seq ?_
    refine WP_region ?_
    refine XL_q rfl (qt_assign rfl) rfl rfl ?_
    refine WL_nil_seq ?_
    refine WP_ret fun a ha => ?_
    obtain rfl := Option.some.inj h
    exact ret_seq (ret1 rfl ha rfl ⟨rfl, H6⟩)
  · have h := if_f hc7 h
    refine WP_skip_seq ?_
    refine WP_seq ?_
    refine WP_seq ?_
    refine WP_region ?_
    refine XL_q rfl (qt_assign rfl) rfl rfl ?_
    refine WL_nil_seq ?_
    refine WP_block ?_
    obtain ⟨o9, ho10, h⟩ := bind_some h
    refine fun a11 ha12 => wp_loop_fix (I := fun s a w2 => match s with | s8 => (Fr a 71 [(0, .int .i64 p0), (1, vp1), (5, .int .i64 s8)] ∧ Holds (([] : List Res).flatMap Res.own) w w2 [] G)) (O := fun o e a w2 => match o with | .inl _ => e = .exit 0 ∧ (Fr a 71 [] ∧ Holds (([] : List Res).flatMap Res.own) w w2 [] G) | .inr q0 => e = .ret ∧ (Fr a 71 [(4, .bool q0)] ∧ Holds (([] : List Res).flatMap Res.own) w w2 [] G)) ho10 ?_ ?_ ?_
    · exact ⟨ha12.sub ⟨rfl, rfl, rfl, trivial⟩, H6⟩
    · clear ha12
      intro s o15 a w13 hs14 hI16
      obtain ⟨s8, rfl⟩ : ∃ z, z = s := ⟨s, rfl⟩
      obtain ⟨ha, H17⟩ := hI16
      refine WP.app ?_ ha
      clear ha
      refine WP_seq ?_
      refine WP_seq ?_
      refine WP_region ?_
      refine XL_q rfl (qt_move rfl) rfl rfl ?_
      refine XL_q rfl (qt_move rfl) rfl rfl ?_
      refine XL_q rfl (qt_lss rfl rfl) rfl rfl ?_
      refine WL_nil_seq ?_
      refine WP_cond rfl (fun hc18 => ?_) (fun hc18 => ?_)
      · have hs14 := if_t hc18 hs14
        refine WP_skip_seq ?_
        refine WP_seq ?_
        refine WP_block ?_
        refine WP_seq ?_
        refine WP_seq ?_
        refine WP_quiet (by kernel_rfl) (by kernel_rfl) ?_
        refine XL_q rfl (qt_move rfl) rfl rfl ?_
        refine XL_q rfl (qt_move rfl) rfl rfl ?_
        obtain ⟨x19, hx20, hs14⟩ := bind_some hs14
        refine XL_indexH H17.ctx (hp1) hx20 u27 i3 rfl rfl rfl rfl (fun b21 off22 cap23 hv24 => ?_)
        obtain ⟨F25, hat26, hdup27⟩ := H17.at (hp1) hx20 hv24
        refine XL_load_int (k := .i64) u3 rfl hat26 rfl rfl rfl ?_
        refine XL_q rfl (qt_move rfl) rfl rfl ?_
        obtain ⟨x28, hx29, hs14⟩ := bind_some hs14
        refine XL_q rfl (qt_shlO rfl rfl hx29) rfl rfl ?_
        refine XL_q rfl (qt_sub rfl rfl) rfl rfl ?_
        obtain ⟨x30, hx31, hs14⟩ := bind_some hs14
        refine QL_call rfl rfl c70 (fun w' hb => (w_spec_l1In w' G x19 0 (IntKind.wrap .i64 (x28 - 1)) x30 hx31 (H17.grow hb).ctx).mono fun e w'' hK => ⟨hK.1, hK.2.bel⟩) (by rfl) ?_
        refine XL_q rfl (qt_not rfl) rfl rfl ?_
        refine XL_q rfl (qt_move rfl) rfl rfl ?_
        obtain ⟨b32, hg33, hs14⟩ := bind_some hs14
        refine XL_join 9 39 (.bool b32) ?_ (fun md hmd hk => ?_)
        rotate_left
        · obtain ⟨K, rfl⟩ := Md.quiet_of hmd
          rcases btf (!x30) with hc34 | hc34
          · skip
            refine XL_skip (w_skip rfl hc34) rfl rfl ?_
            refine XL_skip (w_skip rfl hc34) rfl rfl ?_
            refine XL_skip (w_skip rfl hc34) rfl rfl ?_
            refine XL_skip (w_skip rfl hc34) rfl rfl ?_
            refine XL_skip (w_skip rfl hc34) rfl rfl ?_
            refine XL_skip (w_skip rfl hc34) rfl rfl ?_
            refine XL_skip (w_skip rfl hc34) rfl rfl ?_
            refine XL_skip (w_skip rfl hc34) rfl rfl ?_
            refine XL_q rfl (qt_pickT rfl hc34 rfl) rfl rfl ?_
            exact hk _ (Cov.same (vb (if_t hc34 hg33)) (Cov.fresh rfl (Cov.fresh rfl (Cov.fresh rfl (Cov.fresh rfl (Cov.fresh rfl (Cov.fresh rfl (Cov.fresh rfl (Cov.fresh rfl (Cov.refl))))))))))
          · skip
            have hg33 := if_f hc34 hg33
            refine XL_q (w_take rfl hc34) (qt_move rfl) rfl rfl ?_
            refine XL_q (w_take rfl hc34) (qt_move rfl) rfl rfl ?_
            obtain ⟨x35, hx36, hg33⟩ := bind_some hg33
            refine XL_indexH H17.ctx (hp1) hx36 u27 i3 (w_take rfl hc34) rfl rfl rfl (fun b37 off38 cap39 hv40 => ?_)
            obtain ⟨F41, hat42, hdup43⟩ := H17.at (hp1) hx36 hv40
            refine XL_load_int (k := .i64) u3 rfl hat42 (w_take rfl hc34) rfl rfl ?_
            refine XL_q (w_take rfl hc34) (qt_move rfl) rfl rfl ?_
            obtain ⟨x44, hx45, hg33⟩ := bind_some hg33
            refine XL_q (w_take rfl hc34) (qt_shrO rfl rfl hx45) rfl rfl ?_
            refine XL_q (w_take rfl hc34) (qt_rem rfl rfl (by decide)) rfl rfl ?_
            refine XL_q (w_take rfl hc34) (qt_eql rfl rfl) rfl rfl ?_
            refine XL_q rfl (qt_pickF rfl hc34 rfl) rfl rfl ?_
            exact hk _ (Cov.same (vb hg33) (Cov.fresh rfl (Cov.fresh rfl (Cov.fresh rfl (Cov.fresh rfl (Cov.fresh rfl (Cov.fresh rfl (Cov.fresh rfl (Cov.fresh rfl (Cov.refl))))))))))
        refine QL_nil fun a ha w46 hb47 => ?_
        have H48 : Holds (([] : List Res).flatMap Res.own) w w46 [] G := H17.grow hb47
        refine nrm_seq (WP.app ?_ ha)
        refine WP_cond rfl (fun hc49 => ?_) (fun hc49 => ?_)
        · have hs14 := if_t hc49 hs14
          refine WP_seq ?_
          refine WP_region ?_
          refine XL_q rfl (qt_assign rfl) rfl rfl ?_
          refine WL_nil_seq ?_
          refine WP_ret fun a ha => ?_
          obtain rfl := Option.some.inj hs14
          exact ret_seq (ret_block (ret_seq (⟨ret_ne, rfl, ha.sub ⟨rfl, trivial⟩, H48⟩)))
        · have hs14 := if_f hc49 hs14
          refine WP_skip_seq ?_
          refine WP_seq ?_
          refine WP_region ?_
          refine XL_q rfl (qt_assign rfl) rfl rfl ?_
          refine WL_nil_seq ?_
          refine WP_block ?_
          obtain ⟨o51, ho52, hs14⟩ := bind_some hs14
          refine fun a53 ha54 => wp_loop_fix (I := fun s a w2 => match s with | s50 => (Fr a 71 [(0, .int .i64 p0), (1, vp1), (5, .int .i64 s8), (6, .int .i64 s50)] ∧ Holds (([] : List Res).flatMap Res.own) w w2 [] G)) (O := fun o e a w2 => match o with | .inl _ => e = .exit 2 ∧ (Fr a 71 [(0, .int .i64 p0), (1, vp1), (5, .int .i64 s8)] ∧ Holds (([] : List Res).flatMap Res.own) w w2 [] G) | .inr q0 => e = .ret ∧ (Fr a 71 [(4, .bool q0)] ∧ Holds (([] : List Res).flatMap Res.own) w w2 [] G)) ho52 ?_ ?_ ?_
          · exact ⟨ha54.sub ⟨rfl, rfl, rfl, rfl, trivial⟩, H48⟩
          · clear ha54
            intro s o57 a w55 hs56 hI58
            obtain ⟨s50, rfl⟩ : ∃ z, z = s := ⟨s, rfl⟩
            obtain ⟨ha, H59⟩ := hI58
            refine WP.app ?_ ha
            clear ha
            refine WP_seq ?_
            refine WP_seq ?_
            refine WP_region ?_
            refine XL_q rfl (qt_move rfl) rfl rfl ?_
            refine XL_q rfl (qt_move rfl) rfl rfl ?_
            refine XL_q rfl (qt_lss rfl rfl) rfl rfl ?_
            refine WL_nil_seq ?_
            refine WP_cond rfl (fun hc60 => ?_) (fun hc60 => ?_)
            · have hs56 := if_t hc60 hs56
              refine WP_skip_seq ?_
              refine WP_seq ?_
              refine WP_block ?_
              refine WP_seq ?_
              refine WP_quiet (by kernel_rfl) (by kernel_rfl) ?_
              refine XL_q rfl (qt_move rfl) rfl rfl ?_
              refine XL_q rfl (qt_move rfl) rfl rfl ?_
              obtain ⟨x61, hx62, hs56⟩ := bind_some hs56
              refine XL_indexH H59.ctx (hp1) hx62 u27 i3 rfl rfl rfl rfl (fun b63 off64 cap65 hv66 => ?_)
              obtain ⟨F67, hat68, hdup69⟩ := H59.at (hp1) hx62 hv66
              refine XL_load_int (k := .i64) u3 rfl hat68 rfl rfl rfl ?_
              refine XL_q rfl (qt_move rfl) rfl rfl ?_
              obtain ⟨x70, hx71, hs56⟩ := bind_some hs56
              refine XL_q rfl (qt_shlO rfl rfl hx71) rfl rfl ?_
              refine XL_q rfl (qt_sub rfl rfl) rfl rfl ?_
              obtain ⟨x72, hx73, hs56⟩ := bind_some hs56
              refine QL_call rfl rfl c70 (fun w' hb => (w_spec_l1In w' G x61 0 (IntKind.wrap .i64 (x70 - 1)) x72 hx73 (H59.grow hb).ctx).mono fun e w'' hK => ⟨hK.1, hK.2.bel⟩) (by rfl) ?_
              refine XL_q rfl (qt_not rfl) rfl rfl ?_
              refine XL_q rfl (qt_move rfl) rfl rfl ?_
              obtain ⟨b74, hg75, hs56⟩ := bind_some hs56
              refine XL_join 16 70 (.bool b74) ?_ (fun md hmd hk => ?_)
              rotate_left
              · obtain ⟨K, rfl⟩ := Md.quiet_of hmd
                rcases btf (!x72) with hc76 | hc76
                · skip
                  refine XL_skip (w_skip rfl hc76) rfl rfl ?_
                  refine XL_skip (w_skip rfl hc76) rfl rfl ?_
                  refine XL_skip (w_skip rfl hc76) rfl rfl ?_
                  refine XL_skip (w_skip rfl hc76) rfl rfl ?_
                  refine XL_skip (w_skip rfl hc76) rfl rfl ?_
                  refine XL_skip (w_skip rfl hc76) rfl rfl ?_
                  refine XL_skip (w_skip rfl hc76) rfl rfl ?_
                  refine XL_skip (w_skip rfl hc76) rfl rfl ?_
                  refine XL_skip (w_skip rfl hc76) rfl rfl ?_
                  refine XL_skip (w_skip rfl hc76) rfl rfl ?_
                  refine XL_skip (w_skip rfl hc76) rfl rfl ?_
                  refine XL_skip (w_skip rfl hc76) rfl rfl ?_
                  refine XL_skip (w_skip rfl hc76) rfl rfl ?_
                  refine XL_skip (w_skip rfl hc76) rfl rfl ?_
                  refine XL_skip (w_skip rfl hc76) rfl rfl ?_
                  refine XL_q rfl (qt_pickT rfl hc76 rfl) rfl rfl ?_
                  exact hk _ (Cov.same (vb (if_t hc76 hg75)) (Cov.fresh rfl (Cov.fresh rfl (Cov.fresh rfl (Cov.fresh rfl (Cov.fresh rfl (Cov.fresh rfl (Cov.fresh rfl (Cov.fresh rfl (Cov.fresh rfl (Cov.fresh rfl (Cov.fresh rfl (Cov.fresh rfl (Cov.fresh rfl (Cov.fresh rfl (Cov.fresh rfl (Cov.refl)))))))))))))))))
                · skip
                  have hg75 := if_f hc76 hg75
                  refine XL_q (w_take rfl hc76) (qt_move rfl) rfl rfl ?_
                  refine XL_q (w_take rfl hc76) (qt_move rfl) rfl rfl ?_
                  obtain ⟨x77, hx78, hg75⟩ := bind_some hg75
                  refine XL_indexH H59.ctx (hp1) hx78 u27 i3 (w_take rfl hc76) rfl rfl rfl (fun b79 off80 cap81 hv82 => ?_)
                  obtain ⟨F83, hat84, hdup85⟩ := H59.at (hp1) hx78 hv82
                  refine XL_load_int (k := .i64) u3 rfl hat84 (w_take rfl hc76) rfl rfl ?_
                  refine XL_q (w_take rfl hc76) (qt_move rfl) rfl rfl ?_
                  obtain ⟨x86, hx87, hg75⟩ := bind_some hg75
                  refine XL_q (w_take rfl hc76) (qt_shrO rfl rfl hx87) rfl rfl ?_
                  refine XL_q (w_take rfl hc76) (qt_rem rfl rfl (by decide)) rfl rfl ?_
                  refine XL_q (w_take rfl hc76) (qt_move rfl) rfl rfl ?_
                  refine XL_q (w_take rfl hc76) (qt_move rfl) rfl rfl ?_
                  obtain ⟨x88, hx89, hg75⟩ := bind_some hg75
                  refine XL_indexH H59.ctx (hp1) hx89 u27 i3 (w_take rfl hc76) rfl rfl rfl (fun b90 off91 cap92 hv93 => ?_)
                  obtain ⟨F94, hat95, hdup96⟩ := H59.at (hp1) hx89 hv93
                  refine XL_load_int (k := .i64) u3 rfl hat95 (w_take rfl hc76) rfl rfl ?_
                  refine XL_q (w_take rfl hc76) (qt_move rfl) rfl rfl ?_
                  obtain ⟨x97, hx98, hg75⟩ := bind_some hg75
                  refine XL_q (w_take rfl hc76) (qt_shrO rfl rfl hx98) rfl rfl ?_
                  refine XL_q (w_take rfl hc76) (qt_rem rfl rfl (by decide)) rfl rfl ?_
                  refine XL_q (w_take rfl hc76) (qt_neq rfl rfl) rfl rfl ?_
                  refine XL_q rfl (qt_pickF rfl hc76 rfl) rfl rfl ?_
                  exact hk _ (Cov.same (vb hg75) (Cov.fresh rfl (Cov.fresh rfl (Cov.fresh rfl (Cov.fresh rfl (Cov.fresh rfl (Cov.fresh rfl (Cov.fresh rfl (Cov.fresh rfl (Cov.fresh rfl (Cov.fresh rfl (Cov.fresh rfl (Cov.fresh rfl (Cov.fresh rfl (Cov.fresh rfl (Cov.fresh rfl (Cov.refl)))))))))))))))))
              refine QL_nil fun a ha w99 hb100 => ?_
              have H101 : Holds (([] : List Res).flatMap Res.own) w w99 [] G := H59.grow hb100
              refine nrm_seq (WP.app ?_ ha)
              refine WP_cond rfl (fun hc102 => ?_) (fun hc102 => ?_)
              · have hs56 := if_t hc102 hs56
                refine WP_seq ?_
                refine WP_region ?_
                refine XL_q rfl (qt_assign rfl) rfl rfl ?_
                refine WL_nil_seq ?_
                refine WP_ret fun a ha => ?_
                obtain rfl := Option.some.inj hs56
                exact ret_block (ret_seq (⟨ret_ne, rfl, ha.sub ⟨rfl, trivial⟩, H101⟩))
              · have hs56 := if_f hc102 hs56
                refine WP_skip fun a ha => ?_
                refine nrm_block (nrm_seq (WP.app ?_ ha))
                refine WP_region ?_
                refine XL_q rfl (qt_move rfl) rfl rfl ?_
                refine XL_q rfl (qt_add rfl rfl) rfl rfl ?_
                refine XL_q rfl (qt_assign rfl) rfl rfl ?_
                refine WL_nil fun a ha => ?_
                obtain rfl := Option.some.inj hs56
                exact ⟨rfl, ha.sub ⟨rfl, rfl, rfl, rfl, trivial⟩, H101⟩
            · have hs56 := if_f hc60 hs56
              refine WP_exit fun a ha => ?_
              obtain rfl := Option.some.inj hs56
              exact exit_seq (⟨exit_ne, rfl, ha.sub ⟨rfl, rfl, rfl, trivial⟩, H59⟩)
          · intro e a53 w103 hO104
            rcases o51 with o51 | o51
            · skip
              obtain ⟨rfl, hO106⟩ := hO104
              obtain ⟨ha, H105⟩ := hO106
              refine exit_block_eq (nrm_block (nrm_seq (WP.app ?_ ha)))
              refine WP_region ?_
              refine XL_q rfl (qt_move rfl) rfl rfl ?_
              refine XL_q rfl (qt_add rfl rfl) rfl rfl ?_
              refine XL_q rfl (qt_assign rfl) rfl rfl ?_
              refine WL_nil fun a ha => ?_
              obtain rfl := Option.some.inj hs14
              exact ⟨rfl, ha.sub ⟨rfl, rfl, rfl, trivial⟩, H105⟩
            · skip
              obtain ⟨p107, rfl⟩ : ∃ z, z = o51 := ⟨o51, rfl⟩
              obtain ⟨rfl, hO109⟩ := hO104
              obtain ⟨ha, H108⟩ := hO109
              obtain rfl := Option.some.inj hs14
              exact ret_block (ret_block (ret_seq (⟨ret_ne, rfl, ha.sub ⟨rfl, trivial⟩, H108⟩)))
      · have hs14 := if_f hc18 hs14
        refine WP_exit fun a ha => ?_
        obtain rfl := Option.some.inj hs14
        exact exit_seq (⟨exit_ne, rfl, ha.sub trivial, H17⟩)
    · intro e a11 w110 hO111
      rcases o9 with o9 | o9
      · skip
        obtain ⟨rfl, hO113⟩ := hO111
        obtain ⟨ha, H112⟩ := hO113
        refine exit_block_eq (nrm_seq (WP.app ?_ ha))
        refine WP_seq ?_
        refine WP_region ?_
        refine XL_q rfl (qt_assign rfl) rfl rfl ?_
        refine WL_nil_seq ?_
        refine WP_ret fun a ha => ?_
        obtain rfl := Option.some.inj h
        exact ret1 rfl ha rfl ⟨rfl, H112⟩
      · skip
        obtain ⟨p114, rfl⟩ : ∃ z, z = o9 := ⟨o9, rfl⟩
        obtain ⟨rfl, hO116⟩ := hO111
        obtain ⟨ha, H115⟩ := hO116
        obtain rfl := Option.some.inj h
        exact ret_block (ret_seq (ret1 rfl ha rfl ⟨rfl, H115⟩))
theorem w_laws_FnQuarrelsValid (w : World) (G : List Res) (vp0 : Value) (p0 : List Int) (hp0 : HasRo G (.int .u8) vp0 p0) (r : Bool) (h : laws_FnQuarrelsValidS p0 = some r) (H : Ctx w G) : Calls Tryd.prog 5 #[vp0] w fun e w' => e = .returned (.bool r) ∧ Holds (([] : List Res).flatMap Res.own) w w' [] G := by
  have H : Holds (([] : List Res).flatMap Res.own) w w [] G := Holds.startN H
  refine calls_enter (args := [vp0]) (n := 54) Tryd.func5 rfl rfl rfl ?_
  unfold laws_FnQuarrelsValidS at h
  refine WP_seq ?_
  refine WP_region ?_
  refine XL_q rfl (qt_assign rfl) rfl rfl ?_
  refine WL_nil_seq ?_
  refine WP_seq ?_
  refine WP_seq ?_
  refine WP_region ?_
  refine XL_q rfl (qt_move rfl) rfl rfl ?_
  refine XL_lenH H.ctx (t := (.int .u8)) (hp0.has) u22 rfl rfl rfl ?_
  refine XL_q rfl (qt_gtr rfl rfl) rfl rfl ?_
  refine WL_nil_seq ?_
  refine WP_cond rfl (fun hc1 => ?_) (fun hc1 => ?_)
  · have h := if_t hc1 h
    refine WP_seq ?_
    refine WP_region ?_
    refine XL_q rfl (qt_assign rfl) rfl rfl ?_
    refine WL_nil_seq ?_
    refine WP_ret fun a ha => ?_
    obtain rfl := Option.some.inj h
    exact ret_seq (ret1 rfl ha rfl ⟨rfl, H⟩)
  · have h := if_f hc1 h
    refine WP_skip_seq ?_
    refine WP_seq ?_
    refine WP_region ?_
    refine XL_q rfl (qt_move rfl) rfl rfl ?_
    obtain ⟨x2, hx3, h⟩ := bind_some h
    refine WL_call rfl rfl c25 (w_spec_DrawQuarrelsValid w G vp0 p0 (hp0) x2 hx3 H.ctx) (by rfl) ?_
    rintro _ w4 ⟨v6, rfl, H5⟩; refine ⟨_, rfl, ?_⟩
    have H7 : Holds (([] : List Res).flatMap Res.own) w w4 [.sl 3 (.int .i64) v6 x2.2] G := H.calledN (Rs := []) H5
    refine XL_q rfl (qt_move rfl) rfl rfl ?_
    refine XL_q rfl (qt_extract rfl rfl) rfl rfl ?_
    refine XL_q rfl (qt_extract rfl rfl) rfl rfl ?_
    refine XL_q rfl (qt_assign rfl) rfl rfl ?_
    refine XL_q rfl (qt_assign rfl) rfl rfl ?_
    refine WL_nil_seq ?_
    refine WP_seq ?_
    refine WP_still ?_
    refine XL_q rfl (qt_move rfl) rfl rfl ?_
    refine XL_q rfl (qt_move rfl) rfl rfl ?_
    obtain ⟨x8, hx9, h⟩ := bind_some h
    refine QL_call rfl rfl c26 (fun w' hb => (w_impl_QuarrelsValid w' ([.sl 3 (.int .i64) v6 x2.2] ++ G) x2.1 v6 x2.2 (Has.hd) x8 hx9 (H7.grow hb).ctx).mono fun e w'' hK => ⟨hK.1, hK.2.bel⟩) (by rfl) ?_
    refine XL_q rfl (qt_assign rfl) rfl rfl ?_
    refine QL_nil fun a ha w10 hb11 => ?_
    have H12 : Holds (([] : List Res).flatMap Res.own) w w10 [.sl 3 (.int .i64) v6 x2.2] G := H7.grow hb11
    refine nrm_seq (WP.app ?_ ha)
    refine WP_seq ?_
    refine WP_seq ?_
    refine WP_still ?_
    refine XL_q rfl (qt_move rfl) rfl rfl ?_
    refine XL_q rfl (qt_move rfl) rfl rfl ?_
    refine XL_q rfl (qt_move rfl) rfl rfl ?_
    obtain ⟨x13, hx14, h⟩ := bind_some h
    refine QL_call rfl rfl c27 (fun w' hb => (w_spec_QuarrelsValid w' ([.sl 3 (.int .i64) v6 x2.2] ++ G) x2.1 v6 x2.2 (Has.hd) x13 hx14 (H12.grow hb).ctx).mono fun e w'' hK => ⟨hK.1, hK.2.bel⟩) (by rfl) ?_
    refine XL_q rfl (qt_bneq u4 rfl rfl) rfl rfl ?_
    refine QL_nil fun a ha w15 hb16 => ?_
    have H17 : Holds (([] : List Res).flatMap Res.own) w w15 [.sl 3 (.int .i64) v6 x2.2] G := H12.grow hb16
    refine nrm_seq (WP.app ?_ ha)
    refine WP_cond rfl (fun hc18 => ?_) (fun hc18 => ?_)
    · have h := if_t hc18 h
      refine WP_seq ?_
      refine WP_region ?_
      refine XL_q rfl (qt_assign rfl) rfl rfl ?_
      refine WL_nil_seq ?_
      refine WP_ret fun a ha => ?_
      obtain rfl := Option.some.inj h
      have H19 : Holds (([] : List Res).flatMap Res.own) w w15 [] G := (H17.cut 0)
      exact ret_seq (ret1 rfl ha rfl ⟨rfl, H19⟩)
    · have h := if_f hc18 h
      refine WP_skip_seq ?_
      refine WP_seq ?_
      refine WP_seq ?_
      refine WP_region ?_
      refine XL_q rfl (qt_move rfl) rfl rfl ?_
      refine XL_q rfl (qt_not rfl) rfl rfl ?_
      refine WL_nil_seq ?_
      refine WP_cond rfl (fun hc20 => ?_) (fun hc20 => ?_)
      · have h := if_t hc20 h
        refine WP_seq ?_
        refine WP_still ?_
        obtain ⟨x21, hx22, h⟩ := bind_some h
        refine QL_call rfl rfl c26 (fun w' hb => (w_impl_QuarrelsValid w' ([.sl 3 (.int .i64) v6 x2.2] ++ G) 0 (.slice none 0 0) ([] : List Int) (HasRo.has HasRo.nil) x21 hx22 (H17.grow hb).ctx).mono fun e w'' hK => ⟨hK.1, hK.2.bel⟩) (by rfl) ?_
        refine XL_q rfl (qt_move rfl) rfl rfl ?_
        obtain ⟨b23, hg24, h⟩ := bind_some h
        refine XL_join 2 28 (.bool b23) ?_ (fun md hmd hk => ?_)
        rotate_left
        · obtain ⟨K, rfl⟩ := Md.quiet_of hmd
          rcases btf x21 with hc25 | hc25
          · skip
            have hg24 := if_t hc25 hg24
            obtain ⟨x26, hx27, hg24⟩ := bind_some hg24
            refine QL_call (w_take rfl hc25) rfl c20 (fun w' hb => (w_laws_alive w' ([.sl 3 (.int .i64) v6 x2.2] ++ G)  x26 hx27 (H17.grow hb).ctx).mono fun e w'' hK => ⟨hK.1, hK.2.bel⟩) (by rfl) ?_
            refine XL_q rfl (qt_pickT rfl hc25 rfl) rfl rfl ?_
            exact hk _ (Cov.same (vb hg24) (Cov.fresh rfl (Cov.refl)))
          · skip
            refine XL_skip (w_skip rfl hc25) rfl rfl ?_
            refine XL_q rfl (qt_pickF rfl hc25 rfl) rfl rfl ?_
            exact hk _ (Cov.same (vb (if_f hc25 hg24)) (Cov.fresh rfl (Cov.refl)))
        refine XL_q rfl (qt_assign rfl) rfl rfl ?_
        refine QL_nil fun a ha w28 hb29 => ?_
        have H30 : Holds (([] : List Res).flatMap Res.own) w w28 [.sl 3 (.int .i64) v6 x2.2] G := H17.grow hb29
        refine nrm_seq (WP.app ?_ ha)
        refine WP_ret fun a ha => ?_
        obtain rfl := Option.some.inj h
        have H31 : Holds (([] : List Res).flatMap Res.own) w w28 [] G := (H30.cut 0)
        exact ret_seq (ret1 rfl ha rfl ⟨rfl, H31⟩)
      · have h := if_f hc20 h
        refine WP_skip_seq ?_
        refine WP_seq ?_
        refine WP_region ?_
        refine WL_buildH (t := (.int .i64)) (args := []) (xs := ([] : List Int)) H17 (BltL.nil) u27 j3 rfl rfl rfl rfl rfl rfl (fun v32 w33 H34 => ?_)
        have H35 : Holds (([] : List Res).flatMap Res.own) w w33 [.sl 3 (.int .i64) v32 ([]), .sl 3 (.int .i64) v6 x2.2] G := H34
        refine XL_q rfl (qt_move rfl) rfl rfl ?_
        obtain ⟨x36, hx37, h⟩ := bind_some h
        refine WL_appendH H35 (Has.c (Has.hd)) hx37 u27 j3 rfl rfl rfl rfl rfl rfl (fun v38 w39 H40 => ?_)
        have H41 : Holds (([] : List Res).flatMap Res.own) w w39 [.sl 3 (.int .i64) v38 x36, .sl 3 (.int .i64) v6 x2.2] G := H40
        refine XL_q rfl (qt_assign rfl) rfl rfl ?_
        refine WL_nil_seq ?_
        refine WP_seq ?_
        refine WP_seq ?_
        refine WP_region ?_
        refine XL_q rfl (qt_move rfl) rfl rfl ?_
        refine XL_q rfl (qt_gtr rfl rfl) rfl rfl ?_
        refine WL_nil_seq ?_
        obtain ⟨o43, ho44, h⟩ := bind_some h
        obtain ⟨j42, rfl⟩ : ∃ z, z = o43 := ⟨o43, rfl⟩
        refine WP_join (M := fun a w2 => ∃ vj42, Fr a 54 [(3, .int .i64 x2.1), (6, vj42)] ∧ Holds (([] : List Res).flatMap Res.own) w w2 [.sl 3 (.int .i64) vj42 j42] G) ?_ ?_
        · refine WP_cond rfl (fun hc45 => ?_) (fun hc45 => ?_)
          · have ho44 := if_t hc45 ho44
            refine WP_region ?_
            refine XL_q rfl (qt_move rfl) rfl rfl ?_
            refine XL_q rfl (qt_move rfl) rfl rfl ?_
            obtain ⟨x46, hx47, ho44⟩ := bind_some ho44
            refine XL_indexH H41.ctx (Has.hd) hx47 u27 i3 rfl rfl rfl rfl (fun b48 off49 cap50 hv51 => ?_)
            obtain ⟨F52, hat53, hdup54⟩ := H41.at (Has.hd) hx47 hv51
            refine XL_load_int (k := .i64) u3 rfl hat53 rfl rfl rfl ?_
            refine XL_q rfl (qt_add rfl rfl) rfl rfl ?_
            obtain ⟨x55, hx56, ho44⟩ := bind_some ho44
            refine XL_indexH H41.ctx (Has.hd) hx56 u27 i3 rfl rfl rfl rfl (fun b57 off58 cap59 hv60 => ?_)
            refine WL_storeH (fo := 0) (cs' := [.int .i64 (IntKind.wrap .i64 (x46 + 1))]) H41 hx56 hv60 (Upd.whole (Blt.int)) rfl il3 rfl rfl rfl rfl (fun w61 H62 => ?_)
            have H63 : Holds (([] : List Res).flatMap Res.own) w w61 [.sl 3 (.int .i64) v38 (List.set x36 (Int.toNat 0) (IntKind.wrap .i64 (x46 + 1))), .sl 3 (.int .i64) v6 x2.2] G := H62
            refine WL_nil fun a ha => ?_
            obtain rfl := Option.some.inj ho44
            have H64 : Holds (([] : List Res).flatMap Res.own) w w61 [.sl 3 (.int .i64) v38 (List.set x36 (Int.toNat 0) (IntKind.wrap .i64 (x46 + 1)))] G := (H63.cut 1)
            exact nrm_seq (⟨v38, ha.sub ⟨rfl, rfl, trivial⟩, H64⟩)
          · have ho44 := if_f hc45 ho44
            refine WP_skip fun a ha => ?_
            obtain rfl := Option.some.inj ho44
            have H65 : Holds (([] : List Res).flatMap Res.own) w w39 [.sl 3 (.int .i64) v38 x36] G := (H41.cut 1)
            exact nrm_seq (⟨v38, ha.sub ⟨rfl, rfl, trivial⟩, H65⟩)
        · intro a w66 hI67
          obtain ⟨vj42, ha, H68⟩ := hI67
          refine WP.app ?_ ha
          clear ha
          refine WP_seq ?_
          refine WP_region ?_
          refine XL_q rfl (qt_move rfl) rfl rfl ?_
          refine XL_q rfl (qt_move rfl) rfl rfl ?_
          obtain ⟨x69, hx70, h⟩ := bind_some h
          refine WL_makeH H68 hx70 u27 j3 rfl (fun _ => ⟨rfl, rfl⟩) rfl rfl rfl rfl rfl (fun v71 w72 H73 => ?_)
          have H74 : Holds (([] : List Res).flatMap Res.own) w w72 [.sl 3 (.int .i64) v71 x69, .sl 3 (.int .i64) vj42 j42] G := H73
          obtain ⟨x75, hx76, h⟩ := bind_some h
          refine WL_call rfl rfl c26 (w_impl_QuarrelsValid w72 ([.sl 3 (.int .i64) v71 x69, .sl 3 (.int .i64) vj42 j42] ++ G) x2.1 v71 x69 (Has.hd) x75 hx76 H74.ctx) (by rfl) ?_
          rintro _ w77 ⟨rfl, H78⟩; refine ⟨_, rfl, ?_⟩
          have H79 : Holds (([] : List Res).flatMap Res.own) w w77 [.sl 3 (.int .i64) v71 x69, .sl 3 (.int .i64) vj42 j42] G := H74.calledN (Rs := []) H78
          refine XL_q rfl (qt_move rfl) rfl rfl ?_
          obtain ⟨o81, ho82, h⟩ := bind_some h
          obtain ⟨b80, rfl⟩ : ∃ z, z = o81 := ⟨o81, rfl⟩
          refine WL_cutM 9 (fun a w2 => (Fr a 54 [(53, .bool b80)] ∧ Holds (([] : List Res).flatMap Res.own) w w2 [] G)) ?_ ?_
          · rcases btf x75 with hc83 | hc83
            · have ho82 := if_t hc83 ho82
              refine XL_q (w_take rfl hc83) (qt_move rfl) rfl rfl ?_
              refine XL_q (w_take rfl hc83) (qt_eql rfl rfl) rfl rfl ?_
              refine XL_q (w_take rfl hc83) (qt_move rfl) rfl rfl ?_
              obtain ⟨o85, ho86, ho82⟩ := bind_some ho82
              obtain ⟨b84, rfl⟩ : ∃ z, z = o85 := ⟨o85, rfl⟩
              refine WL_cutM 5 (fun a w2 => (Fr a 54 [(44, .bool x75), (52, .bool b84)] ∧ Holds (([] : List Res).flatMap Res.own) w w2 [] G)) ?_ ?_
              · rcases btf (x2.1 == 0) with hc87 | hc87
                · have ho86 := if_t hc87 ho86
                  refine XL_skip (w_skip rfl hc87) rfl rfl ?_
                  refine XL_skip (w_skip rfl hc87) rfl rfl ?_
                  refine XL_skip (w_skip rfl hc87) rfl rfl ?_
                  refine XL_skip (w_skip rfl hc87) rfl rfl ?_
                  refine XL_q (w_take rfl hc83) (qt_pickT rfl hc87 rfl) rfl rfl ?_
                  refine WL_nil fun a ha => ?_
                  obtain rfl := Option.some.inj ho86
                  have H88 : Holds (([] : List Res).flatMap Res.own) w w77 [] G := ((H79.cut 0).cut 0)
                  exact nrm_seq ⟨ha.sub ⟨rfl, rfl, trivial⟩, H88⟩
                · have ho86 := if_f hc87 ho86
                  refine XL_q (w_take rfl hc87) (qt_move rfl) rfl rfl ?_
                  refine XL_q (w_take rfl hc87) (qt_move rfl) rfl rfl ?_
                  obtain ⟨x89, hx90, ho86⟩ := bind_some ho86
                  refine WL_call (w_take rfl hc87) rfl c26 (w_impl_QuarrelsValid w77 ([.sl 3 (.int .i64) v71 x69, .sl 3 (.int .i64) vj42 j42] ++ G) x2.1 vj42 j42 (Has.c (Has.hd)) x89 hx90 H79.ctx) (by rfl) ?_
                  rintro _ w91 ⟨rfl, H92⟩; refine ⟨_, rfl, ?_⟩
                  have H93 : Holds (([] : List Res).flatMap Res.own) w w91 [.sl 3 (.int .i64) v71 x69, .sl 3 (.int .i64) vj42 j42] G := H79.calledN (Rs := []) H92
                  refine XL_q (w_take rfl hc87) (qt_not rfl) rfl rfl ?_
                  refine XL_q (w_take rfl hc83) (qt_pickF rfl hc87 rfl) rfl rfl ?_
                  refine WL_nil fun a ha => ?_
                  obtain rfl := Option.some.inj ho86
                  have H94 : Holds (([] : List Res).flatMap Res.own) w w91 [] G := ((H93.cut 0).cut 0)
                  exact nrm_seq ⟨ha.sub ⟨rfl, rfl, trivial⟩, H94⟩
              intro a w95 hI96
              obtain ⟨ha, H97⟩ := hI96
              refine SL_app ?_ ha
              clear ha
              refine XL_q rfl (qt_pickT rfl hc83 rfl) rfl rfl ?_
              refine WL_nil fun a ha => ?_
              obtain rfl := Option.some.inj ho82
              exact nrm_seq ⟨ha.sub ⟨rfl, trivial⟩, H97⟩
            · have ho82 := if_f hc83 ho82
              refine XL_skip (w_skip rfl hc83) rfl rfl ?_
              refine XL_skip (w_skip rfl hc83) rfl rfl ?_
              refine XL_skip (w_skip rfl hc83) rfl rfl ?_
              refine XL_skip rfl rfl rfl ?_
              refine XL_skip rfl rfl rfl ?_
              refine XL_skip rfl rfl rfl ?_
              refine XL_skip rfl rfl rfl ?_
              refine XL_skip (w_skip rfl hc83) rfl rfl ?_
              refine XL_q rfl (qt_pickF rfl hc83 rfl) rfl rfl ?_
              refine WL_nil fun a ha => ?_
              obtain rfl := Option.some.inj ho82
              have H98 : Holds (([] : List Res).flatMap Res.own) w w77 [] G := ((H79.cut 0).cut 0)
              exact nrm_seq ⟨ha.sub ⟨rfl, trivial⟩, H98⟩
          intro a w99 hI100
          obtain ⟨ha, H101⟩ := hI100
          refine SL_app ?_ ha
          clear ha
          refine XL_q rfl (qt_assign rfl) rfl rfl ?_
          refine WL_nil_seq ?_
          refine WP_ret fun a ha => ?_
          obtain rfl := Option.some.inj h
          exact ret1 rfl ha rfl ⟨rfl, H101⟩
theorem w_spec_l20Chosen (w : World) (G : List Res) (bp0 : Nat) (vp0_0 : Value) (p0_0 : List Int) (hp0_0 : Has G (.int .u8) vp0_0 p0_0) (p0_1 : Int) (r : Int × Int × (List Int) × Int) (h : spec_l20ChosenS p0_0 p0_1 = some r) (H : Ctx w ([.bx bp0 66 [vp0_0, .int .i64 p0_1]] ++ G)) : Calls Tryd.prog 73 #[.pointer (some ⟨bp0, 0, none⟩)] w fun e w' => ∃ (v1 : Value), e = .returned (.tuple #[.int .i64 r.2.1, v1, .int .i64 r.2.2.2]) ∧ Holds (([.bx bp0 66 [vp0_0, .int .i64 p0_1]] : List Res).flatMap Res.own) w w' [.sl 3 (.int .i64) v1 r.2.2.1, .bx bp0 66 [vp0_0, .int .i64 r.1]] G := by
  have H : Holds (([.bx bp0 66 [vp0_0, .int .i64 p0_1]] : List Res).flatMap Res.own) w w [.bx bp0 66 [vp0_0, .int .i64 p0_1]] G := Holds.startN H
  refine calls_enter (args := [.pointer (some ⟨bp0, 0, none⟩)]) (n := 30) Tryd.func73 rfl rfl rfl ?_
  unfold spec_l20ChosenS at h
  refine WP_seq ?_
  refine WP_region ?_
  refine XL_q rfl (qt_assign rfl) rfl rfl ?_
  refine XL_q rfl (qt_assign rfl) rfl rfl ?_
  refine XL_q rfl (qt_assign rfl) rfl rfl ?_
  refine WL_nil_seq ?_
  refine WP_seq ?_
  refine WP_region ?_
  refine XL_q rfl (qt_move rfl) rfl rfl ?_
  obtain ⟨x1, hx2, h⟩ := bind_some h
  refine WL_call rfl rfl c67 (w_spec_l20Menu w G bp0 vp0_0 p0_0 (hp0_0) p0_1 12 x1 hx2 H.ctx) (by rfl) ?_
  rintro _ w3 ⟨v5, rfl, H4⟩; refine ⟨_, rfl, ?_⟩
  have H6 : Holds (([.bx bp0 66 [vp0_0, .int .i64 p0_1]] : List Res).flatMap Res.own) w w3 [.sl 3 (.int .i64) v5 x1.2.2, .bx bp0 66 [vp0_0, .int .i64 x1.1]] G := H.calledN (Rs := [_]) H4
  refine XL_q rfl (qt_move rfl) rfl rfl ?_
  refine XL_q rfl (qt_extract rfl rfl) rfl rfl ?_
  refine XL_q rfl (qt_extract rfl rfl) rfl rfl ?_
  refine XL_q rfl (qt_assign rfl) rfl rfl ?_
  refine XL_q rfl (qt_assign rfl) rfl rfl ?_
  refine WL_nil_seq ?_
  refine WP_seq ?_
  refine WP_region ?_
  refine XL_q rfl (qt_move rfl) rfl rfl ?_
  refine XL_q rfl (qt_move rfl) rfl rfl ?_
  refine XL_q rfl (qt_move rfl) rfl rfl ?_
  refine XL_q rfl (qt_move rfl) rfl rfl ?_
  refine XL_lenH H6.ctx (t := (.int .i64)) (Has.hd) u27 rfl rfl rfl ?_
  refine XL_q rfl (qt_min rfl rfl) rfl rfl ?_
  obtain ⟨x7, hx8, h⟩ := bind_some h
  refine XL_q rfl (qt_shlO rfl rfl hx8) rfl rfl ?_
  have H11 : Holds (([.bx bp0 66 [vp0_0, .int .i64 p0_1]] : List Res).flatMap Res.own) w w3 [.bx bp0 66 [vp0_0, .int .i64 x1.1], .sl 3 (.int .i64) v5 x1.2.2] G := H6.pull 1
  obtain ⟨x9, hx10, h⟩ := bind_some h
  refine WL_call rfl rfl c63 (w_spec_l20Rd__pick w3 ([.sl 3 (.int .i64) v5 x1.2.2] ++ G) bp0 vp0_0 p0_0 (hp0_0.c) x1.1 x7 x9 hx10 H11.ctx) (by rfl) ?_
  rintro _ w12 ⟨rfl, H13⟩; refine ⟨_, rfl, ?_⟩
  have H14 : Holds (([.bx bp0 66 [vp0_0, .int .i64 p0_1]] : List Res).flatMap Res.own) w w12 [.bx bp0 66 [vp0_0, .int .i64 x9.1], .sl 3 (.int .i64) v5 x1.2.2] G := H11.calledN (Rs := [_]) H13
  refine XL_q rfl (qt_move rfl) rfl rfl ?_
  obtain ⟨x15, hx16, h⟩ := bind_some h
  refine WL_call rfl rfl c63 (w_spec_l20Rd__pick w12 ([.sl 3 (.int .i64) v5 x1.2.2] ++ G) bp0 vp0_0 p0_0 (hp0_0.c) x9.1 40 x15 hx16 H14.ctx) (by rfl) ?_
  rintro _ w17 ⟨rfl, H18⟩; refine ⟨_, rfl, ?_⟩
  have H19 : Holds (([.bx bp0 66 [vp0_0, .int .i64 p0_1]] : List Res).flatMap Res.own) w w17 [.bx bp0 66 [vp0_0, .int .i64 x15.1], .sl 3 (.int .i64) v5 x1.2.2] G := H14.calledN (Rs := [_]) H18
  refine XL_q rfl (qt_quo rfl rfl (by decide)) rfl rfl ?_
  refine XL_q rfl (qt_mul rfl rfl) rfl rfl ?_
  refine XL_q rfl (qt_add rfl rfl) rfl rfl ?_
  refine XL_q rfl (qt_move rfl) rfl rfl ?_
  obtain ⟨x20, hx21, h⟩ := bind_some h
  refine WL_call rfl rfl c63 (w_spec_l20Rd__pick w17 ([.sl 3 (.int .i64) v5 x1.2.2] ++ G) bp0 vp0_0 p0_0 (hp0_0.c) x15.1 40 x20 hx21 H19.ctx) (by rfl) ?_
  rintro _ w22 ⟨rfl, H23⟩; refine ⟨_, rfl, ?_⟩
  have H24 : Holds (([.bx bp0 66 [vp0_0, .int .i64 p0_1]] : List Res).flatMap Res.own) w w22 [.bx bp0 66 [vp0_0, .int .i64 x20.1], .sl 3 (.int .i64) v5 x1.2.2] G := H19.calledN (Rs := [_]) H23
  refine XL_q rfl (qt_quo rfl rfl (by decide)) rfl rfl ?_
  refine XL_q rfl (qt_mul rfl rfl) rfl rfl ?_
  obtain ⟨x25, hx26, h⟩ := bind_some h
  refine XL_qe rfl (qt_sub rfl rfl) (vi hx26) rfl rfl ?_
  refine XL_q rfl (qt_assign rfl) rfl rfl ?_
  refine XL_q rfl (qt_assign rfl) rfl rfl ?_
  refine XL_q rfl (qt_assign rfl) rfl rfl ?_
  refine WL_nil_seq ?_
  refine WP_ret fun a ha => ?_
  obtain rfl := Option.some.inj h
  have H27 : Holds (([.bx bp0 66 [vp0_0, .int .i64 p0_1]] : List Res).flatMap Res.own) w w22 [.sl 3 (.int .i64) v5 x1.2.2, .bx bp0 66 [vp0_0, .int .i64 x20.1]] G := (H24.pull 1)
  exact ret3 rfl ha rfl rfl rfl ⟨v5, rfl, H27⟩
theorem w_spec_DrawFedBy (w : World) (G : List Res) (vp0 : Value) (p0 : List Int) (hp0 : HasRo G (.int .u8) vp0 p0) (r : Int × (List Int) × Int) (h : spec_DrawFedByS p0 = some r) (H : Ctx w G) : Calls Tryd.prog 28 #[vp0] w fun e w' => ∃ (v1 : Value), e = .returned (.tuple #[.int .i64 r.1, v1, .int .i64 r.2.2]) ∧ Holds (([] : List Res).flatMap Res.own) w w' [.sl 3 (.int .i64) v1 r.2.1] G := by
  have H : Holds (([] : List Res).flatMap Res.own) w w [] G := Holds.startN H
  refine calls_enter (args := [vp0]) (n := 11) Tryd.func28 rfl rfl rfl ?_
  unfold spec_DrawFedByS at h
  refine WP_seq ?_
  refine WP_region ?_
  refine XL_q rfl (qt_assign rfl) rfl rfl ?_
  refine XL_q rfl (qt_assign rfl) rfl rfl ?_
  refine XL_q rfl (qt_assign rfl) rfl rfl ?_
  refine WL_nil_seq ?_
  refine WP_seq ?_
  refine WP_region ?_
  refine XL_q rfl (qt_move rfl) rfl rfl ?_
  obtain ⟨x1, hx2, h⟩ := bind_some h
  refine WL_call rfl rfl c62 (w_spec_l20Open w G vp0 p0 (hp0) x1 hx2 H.ctx) (by rfl) ?_
  rintro _ w3 ⟨v5, b6, rfl, H4⟩; refine ⟨_, rfl, ?_⟩
  have H7 : Holds (([] : List Res).flatMap Res.own) w w3 [.ro (.int .u8) v5 x1.1, .bx b6 66 [v5, .int .i64 x1.2]] G := H.calledN (Rs := []) H4
  have H10 : Holds (([] : List Res).flatMap Res.own) w w3 [.bx b6 66 [v5, .int .i64 x1.2], .ro (.int .u8) v5 x1.1] G := H7.pull 1
  obtain ⟨x8, hx9, h⟩ := bind_some h
  refine WL_call rfl rfl c73 (w_spec_l20Chosen w3 ([.ro (.int .u8) v5 x1.1] ++ G) b6 v5 x1.1 (HasRo.has (HasRo.hd)) x1.2 x8 hx9 H10.ctx) (by rfl) ?_
  rintro _ w11 ⟨v13, rfl, H12⟩; refine ⟨_, rfl, ?_⟩
  have H14 : Holds (([] : List Res).flatMap Res.own) w w11 [.sl 3 (.int .i64) v13 x8.2.2.1, .bx b6 66 [v5, .int .i64 x8.1], .ro (.int .u8) v5 x1.1] G := H10.calledN (Rs := [_]) H12
  refine XL_q rfl (qt_extract rfl rfl) rfl rfl ?_
  refine XL_q rfl (qt_extract rfl rfl) rfl rfl ?_
  refine XL_q rfl (qt_extract rfl rfl) rfl rfl ?_
  refine XL_q rfl (qt_assign rfl) rfl rfl ?_
  refine XL_q rfl (qt_assign rfl) rfl rfl ?_
  refine XL_q rfl (qt_assign rfl) rfl rfl ?_
  refine WL_nil_seq ?_
  refine WP_ret fun a ha => ?_
  obtain rfl := Option.some.inj h
  have H15 : Holds (([] : List Res).flatMap Res.own) w w11 [.sl 3 (.int .i64) v13 x8.2.2.1] G := ((H14.cut 1).cut 1)
  exact ret3 rfl ha rfl rfl rfl ⟨v13, rfl, H15⟩
theorem w_impl_FedBy (w : World) (G : List Res) (p0 : Int) (vp1 : Value) (p1 : List Int) (hp1 : Has G (.int .i64) vp1 p1) (p2 : Int) (r : Int) (h : impl_FedByS p0 p1 p2 = some r) (H : Ctx w G) : Calls Tryd.prog 29 #[.int .i64 p0, vp1, .int .i64 p2] w fun e w' => e = .returned (.int .i64 r) ∧ Holds (([] : List Res).flatMap Res.own) w w' [] G := by
  have H : Holds (([] : List Res).flatMap Res.own) w w [] G := Holds.startN H
  refine calls_enter (args := [.int .i64 p0, vp1, .int .i64 p2]) (n := 42) Tryd.func29 rfl rfl rfl ?_
  unfold impl_FedByS at h
  refine WP_seq ?_
  refine WP_region ?_
  refine XL_q rfl (qt_assign rfl) rfl rfl ?_
  refine WL_nil_seq ?_
  refine WP_seq ?_
  refine WP_seq ?_
  refine WP_still ?_
  refine XL_q rfl (qt_move rfl) rfl rfl ?_
  refine XL_q rfl (qt_move rfl) rfl rfl ?_
  obtain ⟨x1, hx2, h⟩ := bind_some h
  refine QL_call rfl rfl c23 (fun w' hb => (w_impl_MenuValid w' G p0 vp1 p1 (hp1) x1 hx2 (H.grow hb).ctx).mono fun e w'' hK => ⟨hK.1, hK.2.bel⟩) (by rfl) ?_
  refine XL_q rfl (qt_not rfl) rfl rfl ?_
  refine XL_q rfl (qt_move rfl) rfl rfl ?_
  refine XL_join 3 17 (.bool ((!x1) || (decide (p2 < 0)))) ?_ (fun md hmd hk => ?_)
  rotate_left
  · obtain ⟨K, rfl⟩ := Md.quiet_of hmd
    rcases btf (!x1) with hc3 | hc3
    · skip
      refine XL_skip (w_skip rfl hc3) rfl rfl ?_
      refine XL_skip (w_skip rfl hc3) rfl rfl ?_
      refine XL_q rfl (qt_pickT rfl hc3 rfl) rfl rfl ?_
      exact hk _ (Cov.same (by rw [hc3]; rfl) (Cov.fresh rfl (Cov.fresh rfl (Cov.refl))))
    · skip
      refine XL_q (w_take rfl hc3) (qt_move rfl) rfl rfl ?_
      refine XL_q (w_take rfl hc3) (qt_lss rfl rfl) rfl rfl ?_
      refine XL_q rfl (qt_pickF rfl hc3 rfl) rfl rfl ?_
      exact hk _ (Cov.same (by rw [hc3]; rfl) (Cov.fresh rfl (Cov.fresh rfl (Cov.refl))))
  refine XL_q rfl (qt_move rfl) rfl rfl ?_
  obtain ⟨b4, hg5, h⟩ := bind_some h
  refine XL_join 6 24 (.bool b4) ?_ (fun md hmd hk => ?_)
  rotate_left
  · obtain ⟨K, rfl⟩ := Md.quiet_of hmd
    rcases btf ((!x1) || (decide (p2 < 0))) with hc6 | hc6
    · skip
      refine XL_skip (w_skip rfl hc6) rfl rfl ?_
      refine XL_skip (w_skip rfl hc6) rfl rfl ?_
      refine XL_skip (w_skip rfl hc6) rfl rfl ?_
      refine XL_skip (w_skip rfl hc6) rfl rfl ?_
      refine XL_skip (w_skip rfl hc6) rfl rfl ?_
      refine XL_q rfl (qt_pickT rfl hc6 rfl) rfl rfl ?_
      exact hk _ (Cov.same (vb (if_t hc6 hg5)) (Cov.fresh rfl (Cov.fresh rfl (Cov.fresh rfl (Cov.fresh rfl (Cov.fresh rfl (Cov.refl)))))))
    · skip
      have hg5 := if_f hc6 hg5
      refine XL_q (w_take rfl hc6) (qt_move rfl) rfl rfl ?_
      refine XL_q (w_take rfl hc6) (qt_move rfl) rfl rfl ?_
      refine XL_lenH H.ctx (t := (.int .i64)) (hp1) u27 (w_take rfl hc6) rfl rfl ?_
      obtain ⟨x7, hx8, hg5⟩ := bind_some hg5
      refine XL_q (w_take rfl hc6) (qt_shlO rfl rfl hx8) rfl rfl ?_
      refine XL_q (w_take rfl hc6) (qt_geq rfl rfl) rfl rfl ?_
      refine XL_q rfl (qt_pickF rfl hc6 rfl) rfl rfl ?_
      exact hk _ (Cov.same (vb hg5) (Cov.fresh rfl (Cov.fresh rfl (Cov.fresh rfl (Cov.fresh rfl (Cov.fresh rfl (Cov.refl)))))))
  refine QL_nil fun a ha w9 hb10 => ?_
  have H11 : Holds (([] : List Res).flatMap Res.own) w w9 [] G := H.grow hb10
  refine nrm_seq (WP.app ?_ ha)
  refine WP_cond rfl (fun hc12 => ?_) (fun hc12 => ?_)
  · have h := if_t hc12 h
    refine WP_seq ?_
    refine WP_region ?_
    refine XL_q rfl (qt_assign rfl) rfl rfl ?_
    refine WL_nil_seq ?_
    refine WP_ret fun a ha => ?_
    obtain rfl := Option.some.inj h
    exact ret_seq (ret1 rfl ha rfl ⟨rfl, H11⟩)
  · have h := if_f hc12 h
    refine WP_skip_seq ?_
    refine WP_seq ?_
    refine WP_region ?_
    refine XL_q rfl (qt_assign rfl) rfl rfl ?_
    refine WL_nil_seq ?_
    refine WP_seq ?_
    refine WP_seq ?_
    refine WP_region ?_
    refine XL_q rfl (qt_move rfl) rfl rfl ?_
    refine XL_lenH H11.ctx (t := (.int .i64)) (hp1) u27 rfl rfl rfl ?_
    refine XL_q rfl (qt_move rfl) rfl rfl ?_
    refine WL_nil_seq ?_
    refine WP_block ?_
    obtain ⟨o15, ho16, h⟩ := bind_some h
    refine fun a17 ha18 => wp_loop_fix (I := fun s a w2 => match s with | (s13, s14) => (Fr a 42 [(2, .int .i64 p2), (7, .int .i64 s13), (25, vp1), (26, .int .i64 (List.length p1 : Int)), (27, .int .i64 s14)] ∧ Holds (([] : List Res).flatMap Res.own) w w2 [] G)) (O := fun o e a w2 => match o with | q0 => e = .exit 0 ∧ (Fr a 42 [(7, .int .i64 q0)] ∧ Holds (([] : List Res).flatMap Res.own) w w2 [] G)) ho16 ?_ ?_ ?_
    · exact ⟨ha18.sub ⟨rfl, rfl, rfl, rfl, rfl, trivial⟩, H11⟩
    · clear ha18
      intro s o21 a w19 hs20 hI22
      obtain ⟨s13, s14⟩ := s
      obtain ⟨ha, H23⟩ := hI22
      refine WP.app ?_ ha
      clear ha
      refine WP_seq ?_
      refine WP_region ?_
      refine XL_q rfl (qt_lss rfl rfl) rfl rfl ?_
      refine WL_nil_seq ?_
      refine WP_seq ?_
      refine WP_cond rfl (fun hc24 => ?_) (fun hc24 => ?_)
      · have hs20 := if_t hc24 hs20
        refine WP_skip_seq ?_
        refine WP_seq ?_
        refine WP_block ?_
        refine WP_seq ?_
        refine WP_region ?_
        refine XL_q rfl (qt_move rfl) rfl rfl ?_
        obtain ⟨x25, hx26, hs20⟩ := bind_some hs20
        refine XL_indexH H23.ctx (hp1) hx26 u27 i3 rfl rfl rfl rfl (fun b27 off28 cap29 hv30 => ?_)
        obtain ⟨F31, hat32, hdup33⟩ := H23.at (hp1) hx26 hv30
        refine XL_load_int (k := .i64) u3 rfl hat32 rfl rfl rfl ?_
        refine XL_q rfl (qt_assign rfl) rfl rfl ?_
        refine XL_q rfl (qt_assign rfl) rfl rfl ?_
        refine WL_nil_seq ?_
        refine WP_seq ?_
        refine WP_region ?_
        refine XL_q rfl (qt_move rfl) rfl rfl ?_
        refine XL_q rfl (qt_move rfl) rfl rfl ?_
        obtain ⟨x34, hx35, hs20⟩ := bind_some hs20
        refine XL_q rfl (qt_shlO rfl rfl hx35) rfl rfl ?_
        refine XL_q rfl (qt_and rfl rfl) rfl rfl ?_
        refine XL_q rfl (qt_neq rfl rfl) rfl rfl ?_
        refine WL_nil_seq ?_
        refine WP_cond rfl (fun hc36 => ?_) (fun hc36 => ?_)
        · have hs20 := if_t hc36 hs20
          refine WP_region ?_
          refine XL_q rfl (qt_move rfl) rfl rfl ?_
          refine XL_q rfl (qt_move rfl) rfl rfl ?_
          refine XL_q rfl (qt_or rfl rfl) rfl rfl ?_
          refine XL_q rfl (qt_assign rfl) rfl rfl ?_
          refine WL_nil fun a ha => ?_
          refine nrm_block (nrm_seq (WP.app ?_ ha))
          refine WP_region ?_
          refine XL_q rfl (qt_add rfl rfl) rfl rfl ?_
          refine XL_q rfl (qt_move rfl) rfl rfl ?_
          refine WL_nil fun a ha => ?_
          obtain rfl := Option.some.inj hs20
          exact ⟨rfl, ha.sub ⟨rfl, rfl, rfl, rfl, rfl, trivial⟩, H23⟩
        · have hs20 := if_f hc36 hs20
          refine WP_skip fun a ha => ?_
          refine nrm_block (nrm_seq (WP.app ?_ ha))
          refine WP_region ?_
          refine XL_q rfl (qt_add rfl rfl) rfl rfl ?_
          refine XL_q rfl (qt_move rfl) rfl rfl ?_
          refine WL_nil fun a ha => ?_
          obtain rfl := Option.some.inj hs20
          exact ⟨rfl, ha.sub ⟨rfl, rfl, rfl, rfl, rfl, trivial⟩, H23⟩
      · have hs20 := if_f hc24 hs20
        refine WP_exit fun a ha => ?_
        obtain rfl := Option.some.inj hs20
        exact exit_seq (⟨exit_ne, rfl, ha.sub ⟨rfl, trivial⟩, H23⟩)
    · intro e a17 w37 hO38
      obtain ⟨p39, rfl⟩ : ∃ z, z = o15 := ⟨o15, rfl⟩
      obtain ⟨rfl, hO41⟩ := hO38
      obtain ⟨ha, H40⟩ := hO41
      refine exit_block_eq (nrm_seq (WP.app ?_ ha))
      refine WP_seq ?_
      refine WP_region ?_
      refine XL_q rfl (qt_move rfl) rfl rfl ?_
      refine XL_q rfl (qt_assign rfl) rfl rfl ?_
      refine WL_nil_seq ?_
      refine WP_ret fun a ha => ?_
      obtain rfl := Option.some.inj h
      exact ret1 rfl ha rfl ⟨rfl, H40⟩
theorem w_spec_FedBy (w : World) (G : List Res) (p0 : Int) (vp1 : Value) (p1 : List Int) (hp1 : Has G (.int .i64) vp1 p1) (p2 : Int) (r : Int) (h : spec_FedByS p0 p1 p2 = some r) (H : Ctx w G) : Calls Tryd.prog 30 #[.int .i64 p0, vp1, .int .i64 p2] w fun e w' => e = .returned (.int .i64 r) ∧ Holds (([] : List Res).flatMap Res.own) w w' [] G := by
  have H : Holds (([] : List Res).flatMap Res.own) w w [] G := Holds.startN H
  refine calls_enter (args := [.int .i64 p0, vp1, .int .i64 p2]) (n := 23) Tryd.func30 rfl rfl rfl ?_
  unfold spec_FedByS at h
  refine WP_seq ?_
  refine WP_region ?_
  refine XL_q rfl (qt_assign rfl) rfl rfl ?_
  refine WL_nil_seq ?_
  refine WP_seq ?_
  refine WP_seq ?_
  refine WP_still ?_
  refine XL_q rfl (qt_move rfl) rfl rfl ?_
  refine XL_q rfl (qt_move rfl) rfl rfl ?_
  obtain ⟨x1, hx2, h⟩ := bind_some h
  refine QL_call rfl rfl c24 (fun w' hb => (w_spec_MenuValid w' G p0 vp1 p1 (hp1) x1 hx2 (H.grow hb).ctx).mono fun e w'' hK => ⟨hK.1, hK.2.bel⟩) (by rfl) ?_
  refine XL_q rfl (qt_not rfl) rfl rfl ?_
  refine XL_q rfl (qt_move rfl) rfl rfl ?_
  obtain ⟨b3, hg4, h⟩ := bind_some h
  refine XL_join 8 19 (.bool b3) ?_ (fun md hmd hk => ?_)
  rotate_left
  · obtain ⟨K, rfl⟩ := Md.quiet_of hmd
    rcases btf (!x1) with hc5 | hc5
    · skip
      refine XL_skip (w_skip rfl hc5) rfl rfl ?_
      refine XL_skip (w_skip rfl hc5) rfl rfl ?_
      refine XL_skip (w_skip rfl hc5) rfl rfl ?_
      refine XL_skip (w_skip rfl hc5) rfl rfl ?_
      refine XL_skip (w_skip rfl hc5) rfl rfl ?_
      refine XL_skip (w_skip rfl hc5) rfl rfl ?_
      refine XL_skip (w_skip rfl hc5) rfl rfl ?_
      refine XL_q rfl (qt_pickT rfl hc5 rfl) rfl rfl ?_
      exact hk _ (Cov.same (vb (if_t hc5 hg4)) (Cov.fresh rfl (Cov.fresh rfl (Cov.fresh rfl (Cov.fresh rfl (Cov.fresh rfl (Cov.fresh rfl (Cov.fresh rfl (Cov.refl)))))))))
    · skip
      have hg4 := if_f hc5 hg4
      refine XL_q (w_take rfl hc5) (qt_move rfl) rfl rfl ?_
      refine XL_q (w_take rfl hc5) (qt_move rfl) rfl rfl ?_
      refine XL_lenH H.ctx (t := (.int .i64)) (hp1) u27 (w_take rfl hc5) rfl rfl ?_
      obtain ⟨x6, hx7, hg4⟩ := bind_some hg4
      refine XL_q (w_take rfl hc5) (qt_shlO rfl rfl hx7) rfl rfl ?_
      refine XL_q (w_take rfl hc5) (qt_sub rfl rfl) rfl rfl ?_
      obtain ⟨x8, hx9, hg4⟩ := bind_some hg4
      refine QL_call (w_take rfl hc5) rfl c70 (fun w' hb => (w_spec_l1In w' G p2 0 (IntKind.wrap .i64 (x6 - 1)) x8 hx9 (H.grow hb).ctx).mono fun e w'' hK => ⟨hK.1, hK.2.bel⟩) (by rfl) ?_
      refine XL_q (w_take rfl hc5) (qt_not rfl) rfl rfl ?_
      refine XL_q rfl (qt_pickF rfl hc5 rfl) rfl rfl ?_
      exact hk _ (Cov.same (vb hg4) (Cov.fresh rfl (Cov.fresh rfl (Cov.fresh rfl (Cov.fresh rfl (Cov.fresh rfl (Cov.fresh rfl (Cov.fresh rfl (Cov.refl)))))))))
  refine QL_nil fun a ha w10 hb11 => ?_
  have H12 : Holds (([] : List Res).flatMap Res.own) w w10 [] G := H.grow hb11
  refine nrm_seq (WP.app ?_ ha)
  refine WP_cond rfl (fun hc13 => ?_) (fun hc13 => ?_)
  · have h := if_t hc13 h
    refine WP_seq ?_
    refine WP_region ?_
    refine XL_q rfl (qt_assign rfl) rfl rfl ?_
    refine WL_nil_seq ?_
    refine WP_ret fun a ha => ?_
    obtain rfl := Option.some.inj h
    exact ret_seq (ret1 rfl ha rfl ⟨rfl, H12⟩)
  · have h := if_f hc13 h
    refine WP_skip_seq ?_
    refine WP_seq ?_
    refine WP_still ?_
    refine XL_q rfl (qt_move rfl) rfl rfl ?_
    refine XL_q rfl (qt_move rfl) rfl rfl ?_
    obtain ⟨x14, hx15, h⟩ := bind_some h
    refine QL_call rfl rfl c74 (fun w' hb => (w_spec_l6Fed w' G vp1 p1 (hp1) p2 x14 hx15 (H12.grow hb).ctx).mono fun e w'' hK => ⟨hK.1, hK.2.bel⟩) (by rfl) ?_
    refine XL_q rfl (qt_assign rfl) rfl rfl ?_
    refine QL_nil fun a ha w16 hb17 => ?_
    have H18 : Holds (([] : List Res).flatMap Res.own) w w16 [] G := H12.grow hb17
    refine nrm_seq (WP.app ?_ ha)
    refine WP_ret fun a ha => ?_
    obtain rfl := Option.some.inj h
    exact ret1 rfl ha rfl ⟨rfl, H18⟩
theorem w_laws_FnFedBy (w : World) (G : List Res) (vp0 : Value) (p0 : List Int) (hp0 : HasRo G (.int .u8) vp0 p0) (r : Bool) (h : laws_FnFedByS p0 = some r) (H : Ctx w G) : Calls Tryd.prog 6 #[vp0] w fun e w' => e = .returned (.bool r) ∧ Holds (([] : List Res).flatMap Res.own) w w' [] G := by
  have H : Holds (([] : List Res).flatMap Res.own) w w [] G := Holds.startN H
  refine calls_enter (args := [vp0]) (n := 76) Tryd.func6 rfl rfl rfl ?_
  unfold laws_FnFedByS at h
  refine WP_seq ?_
  refine WP_region ?_
  refine XL_q rfl (qt_assign rfl) rfl rfl ?_
  refine WL_nil_seq ?_
  refine WP_seq ?_
  refine WP_seq ?_
  refine WP_region ?_
  refine XL_q rfl (qt_move rfl) rfl rfl ?_
  refine XL_lenH H.ctx (t := (.int .u8)) (hp0.has) u22 rfl rfl rfl ?_
  refine XL_q rfl (qt_gtr rfl rfl) rfl rfl ?_
  refine WL_nil_seq ?_
  refine WP_cond rfl (fun hc1 => ?_) (fun hc1 => ?_)
  · have h := if_t hc1 h
    refine WP_seq ?_
    refine WP_region ?_
    refine XL_q rfl (qt_assign rfl) rfl rfl ?_
    refine WL_nil_seq ?_
    refine WP_ret fun a ha => ?_
    obtain rfl := Option.some.inj h
    exact ret_seq (ret1 rfl ha rfl ⟨rfl, H⟩)
  · have h := if_f hc1 h
    refine WP_skip_seq ?_
    refine WP_seq ?_
    refine WP_region ?_
    refine XL_q rfl (qt_move rfl) rfl rfl ?_
    obtain ⟨x2, hx3, h⟩ := bind_some h
    refine WL_call rfl rfl c28 (w_spec_DrawFedBy w G vp0 p0 (hp0) x2 hx3 H.ctx) (by rfl) ?_
    rintro _ w4 ⟨v6, rfl, H5⟩; refine ⟨_, rfl, ?_⟩
    have H7 : Holds (([] : List Res).flatMap Res.own) w w4 [.sl 3 (.int .i64) v6 x2.2.1] G := H.calledN (Rs := []) H5
    refine XL_q rfl (qt_move rfl) rfl rfl ?_
    refine XL_q rfl (qt_extract rfl rfl) rfl rfl ?_
    refine XL_q rfl (qt_extract rfl rfl) rfl rfl ?_
    refine XL_q rfl (qt_extract rfl rfl) rfl rfl ?_
    refine XL_q rfl (qt_assign rfl) rfl rfl ?_
    refine XL_q rfl (qt_assign rfl) rfl rfl ?_
    refine XL_q rfl (qt_assign rfl) rfl rfl ?_
    refine WL_nil_seq ?_
    refine WP_seq ?_
    refine WP_still ?_
    refine XL_q rfl (qt_move rfl) rfl rfl ?_
    refine XL_q rfl (qt_move rfl) rfl rfl ?_
    refine XL_q rfl (qt_move rfl) rfl rfl ?_
    obtain ⟨x8, hx9, h⟩ := bind_some h
    refine QL_call rfl rfl c29 (fun w' hb => (w_impl_FedBy w' ([.sl 3 (.int .i64) v6 x2.2.1] ++ G) x2.1 v6 x2.2.1 (Has.hd) x2.2.2 x8 hx9 (H7.grow hb).ctx).mono fun e w'' hK => ⟨hK.1, hK.2.bel⟩) (by rfl) ?_
    refine XL_q rfl (qt_assign rfl) rfl rfl ?_
    refine QL_nil fun a ha w10 hb11 => ?_
    have H12 : Holds (([] : List Res).flatMap Res.own) w w10 [.sl 3 (.int .i64) v6 x2.2.1] G := H7.grow hb11
    refine nrm_seq (WP.app ?_ ha)
    refine WP_seq ?_
    refine WP_seq ?_
    refine WP_still ?_
    refine XL_q rfl (qt_move rfl) rfl rfl ?_
    refine XL_q rfl (qt_move rfl) rfl rfl ?_
    refine XL_q rfl (qt_move rfl) rfl rfl ?_
    refine XL_q rfl (qt_move rfl) rfl rfl ?_
    obtain ⟨x13, hx14, h⟩ := bind_some h
    refine QL_call rfl rfl c30 (fun w' hb => (w_spec_FedBy w' ([.sl 3 (.int .i64) v6 x2.2.1] ++ G) x2.1 v6 x2.2.1 (Has.hd) x2.2.2 x13 hx14 (H12.grow hb).ctx).mono fun e w'' hK => ⟨hK.1, hK.2.bel⟩) (by rfl) ?_
    refine XL_q rfl (qt_neq rfl rfl) rfl rfl ?_
    refine QL_nil fun a ha w15 hb16 => ?_
    have H17 : Holds (([] : List Res).flatMap Res.own) w w15 [.sl 3 (.int .i64) v6 x2.2.1] G := H12.grow hb16
    refine nrm_seq (WP.app ?_ ha)
    refine WP_cond rfl (fun hc18 => ?_) (fun hc18 => ?_)
    · have h := if_t hc18 h
      refine WP_seq ?_
      refine WP_region ?_
      refine XL_q rfl (qt_assign rfl) rfl rfl ?_
      refine WL_nil_seq ?_
      refine WP_ret fun a ha => ?_
      obtain rfl := Option.some.inj h
      have H19 : Holds (([] : List Res).flatMap Res.own) w w15 [] G := (H17.cut 0)
      exact ret_seq (ret1 rfl ha rfl ⟨rfl, H19⟩)
    · have h := if_f hc18 h
      refine WP_skip_seq ?_
      refine WP_seq ?_
      refine WP_seq ?_
      refine WP_region ?_
      refine XL_q rfl (qt_move rfl) rfl rfl ?_
      refine XL_q rfl (qt_lss rfl rfl) rfl rfl ?_
      refine WL_nil_seq ?_
      refine WP_cond rfl (fun hc20 => ?_) (fun hc20 => ?_)
      · have h := if_t hc20 h
        refine WP_seq ?_
        refine WP_still ?_
        refine XL_q rfl (qt_move rfl) rfl rfl ?_
        refine XL_q rfl (qt_eql rfl rfl) rfl rfl ?_
        refine XL_q rfl (qt_move rfl) rfl rfl ?_
        obtain ⟨b21, hg22, h⟩ := bind_some h
        refine XL_join 2 35 (.bool b21) ?_ (fun md hmd hk => ?_)
        rotate_left
        · obtain ⟨K, rfl⟩ := Md.quiet_of hmd
          rcases btf (x8 == (-1)) with hc23 | hc23
          · skip
            have hg22 := if_t hc23 hg22
            obtain ⟨x24, hx25, hg22⟩ := bind_some hg22
            refine QL_call (w_take rfl hc23) rfl c20 (fun w' hb => (w_laws_alive w' ([.sl 3 (.int .i64) v6 x2.2.1] ++ G)  x24 hx25 (H17.grow hb).ctx).mono fun e w'' hK => ⟨hK.1, hK.2.bel⟩) (by rfl) ?_
            refine XL_q rfl (qt_pickT rfl hc23 rfl) rfl rfl ?_
            exact hk _ (Cov.same (vb hg22) (Cov.fresh rfl (Cov.refl)))
          · skip
            refine XL_skip (w_skip rfl hc23) rfl rfl ?_
            refine XL_q rfl (qt_pickF rfl hc23 rfl) rfl rfl ?_
            exact hk _ (Cov.same (vb (if_f hc23 hg22)) (Cov.fresh rfl (Cov.refl)))
        refine XL_q rfl (qt_assign rfl) rfl rfl ?_
        refine QL_nil fun a ha w26 hb27 => ?_
        have H28 : Holds (([] : List Res).flatMap Res.own) w w26 [.sl 3 (.int .i64) v6 x2.2.1] G := H17.grow hb27
        refine nrm_seq (WP.app ?_ ha)
        refine WP_ret fun a ha => ?_
        obtain rfl := Option.some.inj h
        have H29 : Holds (([] : List Res).flatMap Res.own) w w26 [] G := (H28.cut 0)
        exact ret_seq (ret1 rfl ha rfl ⟨rfl, H29⟩)
      · have h := if_f hc20 h
        refine WP_skip_seq ?_
        refine WP_seq ?_
        refine WP_seq ?_
        refine WP_region ?_
        refine XL_q rfl (qt_assign rfl) rfl rfl ?_
        refine WL_nil_seq ?_
        refine WP_block ?_
        obtain ⟨o31, ho32, h⟩ := bind_some h
        refine fun a33 ha34 => wp_loop_fix (I := fun s a w2 => match s with | s30 => (Fr a 76 [(3, .int .i64 x2.1), (4, v6), (5, .int .i64 x2.2.2), (6, .int .i64 x8), (7, .int .i64 s30)] ∧ Holds (([] : List Res).flatMap Res.own) w w2 [.sl 3 (.int .i64) v6 x2.2.1] G)) (O := fun o e a w2 => match o with | .inl _ => e = .exit 0 ∧ (Fr a 76 [(3, .int .i64 x2.1), (6, .int .i64 x8)] ∧ Holds (([] : List Res).flatMap Res.own) w w2 [] G) | .inr q0 => e = .ret ∧ (Fr a 76 [(2, .bool q0)] ∧ Holds (([] : List Res).flatMap Res.own) w w2 [] G)) ho32 ?_ ?_ ?_
        · exact ⟨ha34.sub ⟨rfl, rfl, rfl, rfl, rfl, trivial⟩, H17⟩
        · clear ha34
          intro s o37 a w35 hs36 hI38
          obtain ⟨s30, rfl⟩ : ∃ z, z = s := ⟨s, rfl⟩
          obtain ⟨ha, H39⟩ := hI38
          refine WP.app ?_ ha
          clear ha
          refine WP_seq ?_
          refine WP_seq ?_
          refine WP_region ?_
          refine XL_q rfl (qt_move rfl) rfl rfl ?_
          refine XL_q rfl (qt_move rfl) rfl rfl ?_
          refine XL_q rfl (qt_lss rfl rfl) rfl rfl ?_
          refine WL_nil_seq ?_
          refine WP_cond rfl (fun hc40 => ?_) (fun hc40 => ?_)
          · have hs36 := if_t hc40 hs36
            refine WP_skip_seq ?_
            refine WP_seq ?_
            refine WP_block ?_
            refine WP_seq ?_
            refine WP_region ?_
            refine XL_q rfl (qt_assign rfl) rfl rfl ?_
            refine WL_nil_seq ?_
            refine WP_seq ?_
            refine WP_seq ?_
            refine WP_region ?_
            refine XL_q rfl (qt_assign rfl) rfl rfl ?_
            refine WL_nil_seq ?_
            refine WP_block ?_
            obtain ⟨o43, ho44, hs36⟩ := bind_some hs36
            refine fun a45 ha46 => wp_loop_fix (I := fun s a w2 => match s with | (s41, s42) => (Fr a 76 [(3, .int .i64 x2.1), (4, v6), (5, .int .i64 x2.2.2), (6, .int .i64 x8), (7, .int .i64 s30), (8, .bool s41), (9, .int .i64 s42)] ∧ Holds (([] : List Res).flatMap Res.own) w w2 [.sl 3 (.int .i64) v6 x2.2.1] G)) (O := fun o e a w2 => match o with | q0 => e = .exit 2 ∧ (Fr a 76 [(3, .int .i64 x2.1), (4, v6), (5, .int .i64 x2.2.2), (6, .int .i64 x8), (7, .int .i64 s30), (8, .bool q0)] ∧ Holds (([] : List Res).flatMap Res.own) w w2 [.sl 3 (.int .i64) v6 x2.2.1] G)) ho44 ?_ ?_ ?_
            · exact ⟨ha46.sub ⟨rfl, rfl, rfl, rfl, rfl, rfl, rfl, trivial⟩, H39⟩
            · clear ha46
              intro s o49 a w47 hs48 hI50
              obtain ⟨s41, s42⟩ := s
              obtain ⟨ha, H51⟩ := hI50
              refine WP.app ?_ ha
              clear ha
              refine WP_seq ?_
              refine WP_seq ?_
              refine WP_region ?_
              refine XL_q rfl (qt_move rfl) rfl rfl ?_
              refine XL_q rfl (qt_move rfl) rfl rfl ?_
              refine XL_lenH H51.ctx (t := (.int .i64)) (Has.hd) u27 rfl rfl rfl ?_
              refine XL_q rfl (qt_lss rfl rfl) rfl rfl ?_
              refine WL_nil_seq ?_
              refine WP_cond rfl (fun hc52 => ?_) (fun hc52 => ?_)
              · have hs48 := if_t hc52 hs48
                refine WP_skip_seq ?_
                refine WP_seq ?_
                refine WP_block ?_
                refine WP_region ?_
                refine XL_q rfl (qt_move rfl) rfl rfl ?_
                refine XL_q rfl (qt_move rfl) rfl rfl ?_
                obtain ⟨b53, hg54, hs48⟩ := bind_some hs48
                refine XL_join 16 64 (.bool b53) ?_ (fun md hmd hk => ?_)
                rotate_left
                · obtain ⟨Q, rfl⟩ := Md.seq_of hmd
                  rcases btf s41 with hc55 | hc55
                  · skip
                    refine XL_skip (w_skip rfl hc55) rfl rfl ?_
                    refine XL_skip (w_skip rfl hc55) rfl rfl ?_
                    refine XL_skip (w_skip rfl hc55) rfl rfl ?_
                    refine XL_skip (w_skip rfl hc55) rfl rfl ?_
                    refine XL_skip (w_skip rfl hc55) rfl rfl ?_
                    refine XL_skip (w_skip rfl hc55) rfl rfl ?_
                    refine XL_skip rfl rfl rfl ?_
                    refine XL_skip rfl rfl rfl ?_
                    refine XL_skip rfl rfl rfl ?_
                    refine XL_skip rfl rfl rfl ?_
                    refine XL_skip rfl rfl rfl ?_
                    refine XL_skip rfl rfl rfl ?_
                    refine XL_skip rfl rfl rfl ?_
                    refine XL_skip rfl rfl rfl ?_
                    refine XL_skip (w_skip rfl hc55) rfl rfl ?_
                    refine XL_q rfl (qt_pickT rfl hc55 rfl) rfl rfl ?_
                    exact hk _ (Cov.same (vb (if_t hc55 hg54)) (Cov.fresh rfl (Cov.fresh rfl (Cov.fresh rfl (Cov.fresh rfl (Cov.fresh rfl (Cov.fresh rfl (Cov.fresh rfl (Cov.fresh rfl (Cov.fresh rfl (Cov.fresh rfl (Cov.fresh rfl (Cov.fresh rfl (Cov.fresh rfl (Cov.fresh rfl (Cov.fresh rfl (Cov.refl)))))))))))))))))
                  · skip
                    have hg54 := if_f hc55 hg54
                    refine XL_q (w_take rfl hc55) (qt_move rfl) rfl rfl ?_
                    refine XL_q (w_take rfl hc55) (qt_move rfl) rfl rfl ?_
                    obtain ⟨x56, hx57, hg54⟩ := bind_some hg54
                    refine XL_q (w_take rfl hc55) (qt_shrO rfl rfl hx57) rfl rfl ?_
                    refine XL_q (w_take rfl hc55) (qt_rem rfl rfl (by decide)) rfl rfl ?_
                    refine XL_q (w_take rfl hc55) (qt_eql rfl rfl) rfl rfl ?_
                    refine XL_q (w_take rfl hc55) (qt_move rfl) rfl rfl ?_
                    obtain ⟨b58, hg59, hg54⟩ := bind_some hg54
                    refine XL_join 9 63 (.bool b58) ?_ (fun md hmd hk => ?_)
                    rotate_left
                    · obtain ⟨Q, rfl⟩ := Md.seq_of hmd
                      rcases btf ((Int.tmod x56 2) == 1) with hc60 | hc60
                      · skip
                        have hg59 := if_t hc60 hg59
                        refine XL_q (w_take rfl hc60) (qt_move rfl) rfl rfl ?_
                        refine XL_q (w_take rfl hc60) (qt_move rfl) rfl rfl ?_
                        obtain ⟨x61, hx62, hg59⟩ := bind_some hg59
                        refine XL_indexH H51.ctx (Has.hd) hx62 u27 i3 (w_take rfl hc60) rfl rfl rfl (fun b63 off64 cap65 hv66 => ?_)
                        obtain ⟨F67, hat68, hdup69⟩ := H51.at (Has.hd) hx62 hv66
                        refine XL_load_int (k := .i64) u3 rfl hat68 (w_take rfl hc60) rfl rfl ?_
                        refine XL_q (w_take rfl hc60) (qt_move rfl) rfl rfl ?_
                        obtain ⟨x70, hx71, hg59⟩ := bind_some hg59
                        refine XL_q (w_take rfl hc60) (qt_shrO rfl rfl hx71) rfl rfl ?_
                        refine XL_q (w_take rfl hc60) (qt_rem rfl rfl (by decide)) rfl rfl ?_
                        refine XL_q (w_take rfl hc60) (qt_eql rfl rfl) rfl rfl ?_
                        refine XL_q (w_take rfl hc55) (qt_pickT rfl hc60 rfl) rfl rfl ?_
                        exact hk _ (Cov.same (vb hg59) (Cov.fresh rfl (Cov.fresh rfl (Cov.fresh rfl (Cov.fresh rfl (Cov.fresh rfl (Cov.fresh rfl (Cov.fresh rfl (Cov.fresh rfl (Cov.refl))))))))))
                      · skip
                        refine XL_skip (w_skip rfl hc60) rfl rfl ?_
                        refine XL_skip (w_skip rfl hc60) rfl rfl ?_
                        refine XL_skip (w_skip rfl hc60) rfl rfl ?_
                        refine XL_skip (w_skip rfl hc60) rfl rfl ?_
                        refine XL_skip (w_skip rfl hc60) rfl rfl ?_
                        refine XL_skip (w_skip rfl hc60) rfl rfl ?_
                        refine XL_skip (w_skip rfl hc60) rfl rfl ?_
                        refine XL_skip (w_skip rfl hc60) rfl rfl ?_
                        refine XL_q (w_take rfl hc55) (qt_pickF rfl hc60 rfl) rfl rfl ?_
                        exact hk _ (Cov.same (vb (if_f hc60 hg59)) (Cov.fresh rfl (Cov.fresh rfl (Cov.fresh rfl (Cov.fresh rfl (Cov.fresh rfl (Cov.fresh rfl (Cov.fresh rfl (Cov.fresh rfl (Cov.refl))))))))))
                    refine XL_q rfl (qt_pickF rfl hc55 rfl) rfl rfl ?_
                    exact hk _ (Cov.same (vb hg54) (Cov.fresh rfl (Cov.fresh rfl (Cov.fresh rfl (Cov.fresh rfl (Cov.fresh rfl (Cov.fresh rfl (Cov.fresh rfl (Cov.refl)))))))))
                refine XL_q rfl (qt_assign rfl) rfl rfl ?_
                refine WL_nil fun a ha => ?_
                refine nrm_block (nrm_seq (WP.app ?_ ha))
                refine WP_region ?_
                refine XL_q rfl (qt_move rfl) rfl rfl ?_
                refine XL_q rfl (qt_add rfl rfl) rfl rfl ?_
                refine XL_q rfl (qt_assign rfl) rfl rfl ?_
                refine WL_nil fun a ha => ?_
                obtain rfl := Option.some.inj hs48
                exact ⟨rfl, ha.sub ⟨rfl, rfl, rfl, rfl, rfl, rfl, rfl, trivial⟩, H51⟩
              · have hs48 := if_f hc52 hs48
                refine WP_exit fun a ha => ?_
                obtain rfl := Option.some.inj hs48
                exact exit_seq (⟨exit_ne, rfl, ha.sub ⟨rfl, rfl, rfl, rfl, rfl, rfl, trivial⟩, H51⟩)
            · intro e a45 w72 hO73
              obtain ⟨p74, rfl⟩ : ∃ z, z = o43 := ⟨o43, rfl⟩
              obtain ⟨rfl, hO76⟩ := hO73
              obtain ⟨ha, H75⟩ := hO76
              refine exit_block_eq (nrm_seq (WP.app ?_ ha))
              refine WP_seq ?_
              refine WP_region ?_
              refine XL_q rfl (qt_move rfl) rfl rfl ?_
              refine XL_q rfl (qt_move rfl) rfl rfl ?_
              refine XL_q rfl (qt_move rfl) rfl rfl ?_
              obtain ⟨x77, hx78, hs36⟩ := bind_some hs36
              refine XL_q rfl (qt_shrO rfl rfl hx78) rfl rfl ?_
              refine XL_q rfl (qt_rem rfl rfl (by decide)) rfl rfl ?_
              refine XL_q rfl (qt_eql rfl rfl) rfl rfl ?_
              refine XL_q rfl (qt_bneq u4 rfl rfl) rfl rfl ?_
              refine WL_nil_seq ?_
              refine WP_cond rfl (fun hc79 => ?_) (fun hc79 => ?_)
              · have hs36 := if_t hc79 hs36
                refine WP_seq ?_
                refine WP_region ?_
                refine XL_q rfl (qt_assign rfl) rfl rfl ?_
                refine WL_nil_seq ?_
                refine WP_ret fun a ha => ?_
                obtain rfl := Option.some.inj hs36
                have H80 : Holds (([] : List Res).flatMap Res.own) w w72 [] G := (H75.cut 0)
                exact ret_block (ret_seq (⟨ret_ne, rfl, ha.sub ⟨rfl, trivial⟩, H80⟩))
              · have hs36 := if_f hc79 hs36
                refine WP_skip fun a ha => ?_
                refine nrm_block (nrm_seq (WP.app ?_ ha))
                refine WP_region ?_
                refine XL_q rfl (qt_move rfl) rfl rfl ?_
                refine XL_q rfl (qt_add rfl rfl) rfl rfl ?_
                refine XL_q rfl (qt_assign rfl) rfl rfl ?_
                refine WL_nil fun a ha => ?_
                obtain rfl := Option.some.inj hs36
                exact ⟨rfl, ha.sub ⟨rfl, rfl, rfl, rfl, rfl, trivial⟩, H75⟩
          · have hs36 := if_f hc40 hs36
            refine WP_exit fun a ha => ?_
            obtain rfl := Option.some.inj hs36
            have H81 : Holds (([] : List Res).flatMap Res.own) w w35 [] G := (H39.cut 0)
            exact exit_seq (⟨exit_ne, rfl, ha.sub ⟨rfl, rfl, trivial⟩, H81⟩)
        · intro e a33 w82 hO83
          rcases o31 with o31 | o31
          · skip
            obtain ⟨rfl, hO85⟩ := hO83
            obtain ⟨ha, H84⟩ := hO85
            refine exit_block_eq (nrm_seq (WP.app ?_ ha))
            refine WP_seq ?_
            refine WP_region ?_
            refine XL_q rfl (qt_move rfl) rfl rfl ?_
            refine XL_q rfl (qt_move rfl) rfl rfl ?_
            obtain ⟨x86, hx87, h⟩ := bind_some h
            refine XL_q rfl (qt_shlO rfl rfl hx87) rfl rfl ?_
            refine XL_q rfl (qt_lss rfl rfl) rfl rfl ?_
            refine XL_q rfl (qt_assign rfl) rfl rfl ?_
            refine WL_nil_seq ?_
            refine WP_ret fun a ha => ?_
            obtain rfl := Option.some.inj h
            exact ret1 rfl ha rfl ⟨rfl, H84⟩
          · skip
            obtain ⟨p88, rfl⟩ : ∃ z, z = o31 := ⟨o31, rfl⟩
            obtain ⟨rfl, hO90⟩ := hO83
            obtain ⟨ha, H89⟩ := hO90
            obtain rfl := Option.some.inj h
            exact ret_block (ret_seq (ret1 rfl ha rfl ⟨rfl, H89⟩))
theorem w_spec_DrawSeatsLeast (w : World) (G : List Res) (vp0 : Value) (p0 : List Int) (hp0 : HasRo G (.int .u8) vp0 p0) (r : Int × (List Int)) (h : spec_DrawSeatsLeastS p0 = some r) (H : Ctx w G) : Calls Tryd.prog 31 #[vp0] w fun e w' => ∃ (v1 : Value), e = .returned (.tuple #[.int .i64 r.1, v1]) ∧ Holds (([] : List Res).flatMap Res.own) w w' [.sl 3 (.int .i64) v1 r.2] G := by
  have H : Holds (([] : List Res).flatMap Res.own) w w [] G := Holds.startN H
  refine calls_enter (args := [vp0]) (n := 9) Tryd.func31 rfl rfl rfl ?_
  unfold spec_DrawSeatsLeastS at h
  refine WP_seq ?_
  refine WP_region ?_
  refine XL_q rfl (qt_assign rfl) rfl rfl ?_
  refine XL_q rfl (qt_assign rfl) rfl rfl ?_
  refine WL_nil_seq ?_
  refine WP_seq ?_
  refine WP_region ?_
  refine XL_q rfl (qt_move rfl) rfl rfl ?_
  obtain ⟨x1, hx2, h⟩ := bind_some h
  refine WL_call rfl rfl c62 (w_spec_l20Open w G vp0 p0 (hp0) x1 hx2 H.ctx) (by rfl) ?_
  rintro _ w3 ⟨v5, b6, rfl, H4⟩; refine ⟨_, rfl, ?_⟩
  have H7 : Holds (([] : List Res).flatMap Res.own) w w3 [.ro (.int .u8) v5 x1.1, .bx b6 66 [v5, .int .i64 x1.2]] G := H.calledN (Rs := []) H4
  have H10 : Holds (([] : List Res).flatMap Res.own) w w3 [.bx b6 66 [v5, .int .i64 x1.2], .ro (.int .u8) v5 x1.1] G := H7.pull 1
  obtain ⟨x8, hx9, h⟩ := bind_some h
  refine WL_call rfl rfl c71 (w_spec_l20Quarrels w3 ([.ro (.int .u8) v5 x1.1] ++ G) b6 v5 x1.1 (HasRo.has (HasRo.hd)) x1.2 9 x8 hx9 H10.ctx) (by rfl) ?_
  rintro _ w11 ⟨v13, rfl, H12⟩; refine ⟨_, rfl, ?_⟩
  have H14 : Holds (([] : List Res).flatMap Res.own) w w11 [.sl 3 (.int .i64) v13 x8.2.2, .bx b6 66 [v5, .int .i64 x8.1], .ro (.int .u8) v5 x1.1] G := H10.calledN (Rs := [_]) H12
  refine XL_q rfl (qt_extract rfl rfl) rfl rfl ?_
  refine XL_q rfl (qt_extract rfl rfl) rfl rfl ?_
  refine XL_q rfl (qt_assign rfl) rfl rfl ?_
  refine XL_q rfl (qt_assign rfl) rfl rfl ?_
  refine WL_nil_seq ?_
  refine WP_ret fun a ha => ?_
  obtain rfl := Option.some.inj h
  have H15 : Holds (([] : List Res).flatMap Res.own) w w11 [.sl 3 (.int .i64) v13 x8.2.2] G := ((H14.cut 1).cut 1)
  exact ret2 rfl ha rfl rfl ⟨v13, rfl, H15⟩
end Go.Proofs.YtidhmbmollkhdaaDoor
