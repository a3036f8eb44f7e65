/- The walks: each Go function computes its shallow function. Printed by a program. -/
import Derived.Test.YtohhaladggoglaaDoorChecked
import Derived.Test.YtohhaladggoglaaDoorShS5
import Derived.Test.YtohhaladggoglaaDoorAlive
set_option linter.unusedVariables false
set_option maxRecDepth 10000
namespace Go.Proofs.YtohhaladggoglaaDoor
open Go Go.RowKit
noncomputable def fd40 : Array Field := match Tryd.prog.underlying 40 with | some (.struct fs) => fs | _ => #[]
theorem uf40 : Tryd.prog.underlying 40 = some (.struct fd40) := by kernel_rfl
noncomputable def fd69 : Array Field := match Tryd.prog.underlying 69 with | some (.struct fs) => fs | _ => #[]
theorem uf69 : Tryd.prog.underlying 69 = some (.struct fd69) := by kernel_rfl
theorem fl40 : (Tryd.prog.fieldsOf 40).toList.map (fun f => (f.name == "_", f.type, f.offset)) = keysI 3 0 3 := by kernel_rfl
theorem fu40 : Tryd.prog.underlying 40 = some (.struct (Tryd.prog.fieldsOf 40)) := by kernel_rfl
noncomputable def sd40 : TypeDesc := (Tryd.prog.underlying 40).getD .bool
theorem us40 : Tryd.prog.underlying 40 = some sd40 := by kernel_rfl
theorem uo40 : oneB sd40 = false := by kernel_rfl
theorem i3 : (Tryd.prog.info? 3).map (·.size) = some (Ty.size (.int .i64)) := by kernel_rfl
theorem i40 : (Tryd.prog.info? 40).map (·.size) = some (Ty.size (.pair (.int .i64) (.pair (.int .i64) (.int .i64)))) := by kernel_rfl
theorem i5 : (Tryd.prog.info? 5).map (·.size) = some (Ty.size (.int .u8)) := by kernel_rfl
theorem il3 : (Tryd.prog.info? 3).map (·.size) = some 1 := by kernel_rfl
theorem il40 : (Tryd.prog.info? 40).map (·.size) = some 3 := by kernel_rfl
theorem j3 : (Tryd.prog.info? 3).map (fun i => (i.zero, i.size, i.bytes)) = some (some (.int .i64 0), Ty.size (.int .i64), 8) := by kernel_rfl
theorem j40 : (Tryd.prog.info? 40).map (fun i => (i.zero, i.size, i.bytes)) = some (some (.agg #[.int .i64 0, .int .i64 0, .int .i64 0]), Ty.size (.pair (.int .i64) (.pair (.int .i64) (.int .i64))), 24) := by kernel_rfl
theorem nz22 : (Tryd.prog.info? 22).map (fun i => Nat.beq i.size 0) = some false := by kernel_rfl
theorem nz3 : (Tryd.prog.info? 3).map (fun i => Nat.beq i.size 0) = some false := by kernel_rfl
theorem u22 : Tryd.prog.underlying 22 = some (.slice 5) := by kernel_rfl
theorem u23 : Tryd.prog.underlying 23 = some (.slice 3) := by kernel_rfl
theorem u29 : Tryd.prog.underlying 29 = some (.slice 40) := by kernel_rfl
theorem u3 : Tryd.prog.underlying 3 = some (.int .i64) := by kernel_rfl
theorem u4 : Tryd.prog.underlying 4 = some (.bool) := by kernel_rfl
theorem u5 : Tryd.prog.underlying 5 = some (.int .u8) := by kernel_rfl
theorem u58 : Tryd.prog.underlying 58 = some (.int .u64) := by kernel_rfl
theorem u84 : Tryd.prog.underlying 84 = some (.int .u64) := by kernel_rfl
theorem z3 : (Tryd.prog.info? 3).map (·.zero) = some (some (.int .i64 0)) := by kernel_rfl
theorem z40 : (Tryd.prog.info? 40).map (·.zero) = some (some (.agg #[.int .i64 0, .int .i64 0, .int .i64 0])) := by kernel_rfl
theorem eqs40 (a0 b0 a1 b1 a2 b2 : Int) (w : World) : (Op.equalIn 10000 40 (.agg #[i64 a0, i64 a1, i64 a2]) (.agg #[i64 b0, i64 b1, i64 b2])).run Tryd.prog w = .ok (((a0, a1, a2) : Int × Int × Int) == ((b0, b1, b2) : Int × Int × Int)) w := by
  rw [run_equalIn_struct w 9999 40 _ _ fu40 (by kernel_rfl), run_eqFields_int (d := 9998) u3 _ _ [a0, a1, a2] [b0, b1, b2] _ 0 w rfl fl40 (fun i a h => by cases i with | zero => (simp at h; subst h; rfl) | succ i => cases i with | zero => (simp at h; subst h; rfl) | succ i => cases i with | zero => (simp at h; subst h; rfl) | succ i => simp at h) (fun i a h => by cases i with | zero => (simp at h; subst h; rfl) | succ i => cases i with | zero => (simp at h; subst h; rfl) | succ i => cases i with | zero => (simp at h; subst h; rfl) | succ i => simp at h)]
  congr 1
  rw [Bool.eq_iff_iff]
  simp
theorem fi40_0 : (fd40[0]?).map (fun f => (f.type, f.offset)) = some (3, 0) := by kernel_rfl
theorem fi40_1 : (fd40[1]?).map (fun f => (f.type, f.offset)) = some (3, 1) := by kernel_rfl
theorem fi40_2 : (fd40[2]?).map (fun f => (f.type, f.offset)) = some (3, 2) := by kernel_rfl
theorem fi69_0 : (fd69[0]?).map (fun f => (f.type, f.offset)) = some (22, 0) := by kernel_rfl
theorem fi69_1 : (fd69[1]?).map (fun f => (f.type, f.offset)) = some (3, 1) := by kernel_rfl
theorem c12 : Callable Tryd.prog 12 := ⟨Tryd.f12, Tryd.func12, by kernel_rfl, by kernel_rfl⟩
theorem c13 : Callable Tryd.prog 13 := ⟨Tryd.f13, Tryd.func13, by kernel_rfl, by kernel_rfl⟩
theorem c14 : Callable Tryd.prog 14 := ⟨Tryd.f14, Tryd.func14, by kernel_rfl, by kernel_rfl⟩
theorem c15 : Callable Tryd.prog 15 := ⟨Tryd.f15, Tryd.func15, by kernel_rfl, by kernel_rfl⟩
theorem c16 : Callable Tryd.prog 16 := ⟨Tryd.f16, Tryd.func16, by kernel_rfl, by kernel_rfl⟩
theorem c17 : Callable Tryd.prog 17 := ⟨Tryd.f17, Tryd.func17, by kernel_rfl, by kernel_rfl⟩
theorem c18 : Callable Tryd.prog 18 := ⟨Tryd.f18, Tryd.func18, by kernel_rfl, by kernel_rfl⟩
theorem c19 : Callable Tryd.prog 19 := ⟨Tryd.f19, Tryd.func19, by kernel_rfl, by kernel_rfl⟩
theorem c20 : Callable Tryd.prog 20 := ⟨Tryd.f20, Tryd.func20, by kernel_rfl, by kernel_rfl⟩
theorem c21 : Callable Tryd.prog 21 := ⟨Tryd.f21, Tryd.func21, by kernel_rfl, by kernel_rfl⟩
theorem c22 : Callable Tryd.prog 22 := ⟨Tryd.f22, Tryd.func22, by kernel_rfl, by kernel_rfl⟩
theorem c23 : Callable Tryd.prog 23 := ⟨Tryd.f23, Tryd.func23, by kernel_rfl, by kernel_rfl⟩
theorem c24 : Callable Tryd.prog 24 := ⟨Tryd.f24, Tryd.func24, by kernel_rfl, by kernel_rfl⟩
theorem c25 : Callable Tryd.prog 25 := ⟨Tryd.f25, Tryd.func25, by kernel_rfl, by kernel_rfl⟩
theorem c26 : Callable Tryd.prog 26 := ⟨Tryd.f26, Tryd.func26, by kernel_rfl, by kernel_rfl⟩
theorem c27 : Callable Tryd.prog 27 := ⟨Tryd.f27, Tryd.func27, by kernel_rfl, by kernel_rfl⟩
theorem c28 : Callable Tryd.prog 28 := ⟨Tryd.f28, Tryd.func28, by kernel_rfl, by kernel_rfl⟩
theorem c29 : Callable Tryd.prog 29 := ⟨Tryd.f29, Tryd.func29, by kernel_rfl, by kernel_rfl⟩
theorem c30 : Callable Tryd.prog 30 := ⟨Tryd.f30, Tryd.func30, by kernel_rfl, by kernel_rfl⟩
theorem c31 : Callable Tryd.prog 31 := ⟨Tryd.f31, Tryd.func31, by kernel_rfl, by kernel_rfl⟩
theorem c32 : Callable Tryd.prog 32 := ⟨Tryd.f32, Tryd.func32, by kernel_rfl, by kernel_rfl⟩
theorem c33 : Callable Tryd.prog 33 := ⟨Tryd.f33, Tryd.func33, by kernel_rfl, by kernel_rfl⟩
theorem c34 : Callable Tryd.prog 34 := ⟨Tryd.f34, Tryd.func34, by kernel_rfl, by kernel_rfl⟩
theorem c35 : Callable Tryd.prog 35 := ⟨Tryd.f35, Tryd.func35, by kernel_rfl, by kernel_rfl⟩
theorem c36 : Callable Tryd.prog 36 := ⟨Tryd.f36, Tryd.func36, by kernel_rfl, by kernel_rfl⟩
theorem c37 : Callable Tryd.prog 37 := ⟨Tryd.f37, Tryd.func37, by kernel_rfl, by kernel_rfl⟩
theorem c38 : Callable Tryd.prog 38 := ⟨Tryd.f38, Tryd.func38, by kernel_rfl, by kernel_rfl⟩
theorem c39 : Callable Tryd.prog 39 := ⟨Tryd.f39, Tryd.func39, by kernel_rfl, by kernel_rfl⟩
theorem c40 : Callable Tryd.prog 40 := ⟨Tryd.f40, Tryd.func40, by kernel_rfl, by kernel_rfl⟩
theorem c41 : Callable Tryd.prog 41 := ⟨Tryd.f41, Tryd.func41, by kernel_rfl, by kernel_rfl⟩
theorem c42 : Callable Tryd.prog 42 := ⟨Tryd.f42, Tryd.func42, by kernel_rfl, by kernel_rfl⟩
theorem c43 : Callable Tryd.prog 43 := ⟨Tryd.f43, Tryd.func43, by kernel_rfl, by kernel_rfl⟩
theorem c44 : Callable Tryd.prog 44 := ⟨Tryd.f44, Tryd.func44, by kernel_rfl, by kernel_rfl⟩
theorem c45 : Callable Tryd.prog 45 := ⟨Tryd.f45, Tryd.func45, by kernel_rfl, by kernel_rfl⟩
theorem c46 : Callable Tryd.prog 46 := ⟨Tryd.f46, Tryd.func46, by kernel_rfl, by kernel_rfl⟩
theorem c47 : Callable Tryd.prog 47 := ⟨Tryd.f47, Tryd.func47, by kernel_rfl, by kernel_rfl⟩
theorem c49 : Callable Tryd.prog 49 := ⟨Tryd.f49, Tryd.func49, by kernel_rfl, by kernel_rfl⟩
theorem c50 : Callable Tryd.prog 50 := ⟨Tryd.f50, Tryd.func50, by kernel_rfl, by kernel_rfl⟩
theorem c51 : Callable Tryd.prog 51 := ⟨Tryd.f51, Tryd.func51, by kernel_rfl, by kernel_rfl⟩
theorem c52 : Callable Tryd.prog 52 := ⟨Tryd.f52, Tryd.func52, by kernel_rfl, by kernel_rfl⟩
theorem c53 : Callable Tryd.prog 53 := ⟨Tryd.f53, Tryd.func53, by kernel_rfl, by kernel_rfl⟩
theorem c54 : Callable Tryd.prog 54 := ⟨Tryd.f54, Tryd.func54, by kernel_rfl, by kernel_rfl⟩
theorem c55 : Callable Tryd.prog 55 := ⟨Tryd.f55, Tryd.func55, by kernel_rfl, by kernel_rfl⟩
theorem c56 : Callable Tryd.prog 56 := ⟨Tryd.f56, Tryd.func56, by kernel_rfl, by kernel_rfl⟩
theorem c57 : Callable Tryd.prog 57 := ⟨Tryd.f57, Tryd.func57, by kernel_rfl, by kernel_rfl⟩
theorem c58 : Callable Tryd.prog 58 := ⟨Tryd.f58, Tryd.func58, by kernel_rfl, by kernel_rfl⟩
theorem c59 : Callable Tryd.prog 59 := ⟨Tryd.f59, Tryd.func59, by kernel_rfl, by kernel_rfl⟩
theorem c60 : Callable Tryd.prog 60 := ⟨Tryd.f60, Tryd.func60, by kernel_rfl, by kernel_rfl⟩
theorem c61 : Callable Tryd.prog 61 := ⟨Tryd.f61, Tryd.func61, by kernel_rfl, by kernel_rfl⟩
theorem c62 : Callable Tryd.prog 62 := ⟨Tryd.f62, Tryd.func62, by kernel_rfl, by kernel_rfl⟩
theorem c63 : Callable Tryd.prog 63 := ⟨Tryd.f63, Tryd.func63, by kernel_rfl, by kernel_rfl⟩
theorem c64 : Callable Tryd.prog 64 := ⟨Tryd.f64, Tryd.func64, by kernel_rfl, by kernel_rfl⟩
theorem c65 : Callable Tryd.prog 65 := ⟨Tryd.f65, Tryd.func65, by kernel_rfl, by kernel_rfl⟩
theorem c66 : Callable Tryd.prog 66 := ⟨Tryd.f66, Tryd.func66, by kernel_rfl, by kernel_rfl⟩
theorem c72 : Callable Tryd.prog 72 := ⟨Tryd.f72, Tryd.func72, by kernel_rfl, by kernel_rfl⟩
theorem c73 : Callable Tryd.prog 73 := ⟨Tryd.f73, Tryd.func73, by kernel_rfl, by kernel_rfl⟩
theorem c75 : Callable Tryd.prog 75 := ⟨Tryd.f75, Tryd.func75, by kernel_rfl, by kernel_rfl⟩
theorem c76 : Callable Tryd.prog 76 := ⟨Tryd.f76, Tryd.func76, by kernel_rfl, by kernel_rfl⟩
theorem c80 : Callable Tryd.prog 80 := ⟨Tryd.f80, Tryd.func80, by kernel_rfl, by kernel_rfl⟩
theorem c81 : Callable Tryd.prog 81 := ⟨Tryd.f81, Tryd.func81, by kernel_rfl, by kernel_rfl⟩
theorem c82 : Callable Tryd.prog 82 := ⟨Tryd.f82, Tryd.func82, by kernel_rfl, by kernel_rfl⟩
theorem w_spec_l20Open (w : World) (G : List Res) (vp0 : Value) (p0 : List Int) (hp0 : HasRo G (.int .u8) vp0 p0) (r : ((List Int) × Int)) (h : spec_l20OpenS p0 = some r) (H : Ctx w G) : Calls Tryd.prog 44 #[vp0] w fun e w' => ∃ (v1 : Value) (b2 : Nat), e = .returned (.pointer (some ⟨b2, 0, none⟩)) ∧ Holds (([] : List Res).flatMap Res.own) w w' [.ro (.int .u8) v1 r.1, .bx b2 69 [v1, .int .i64 r.2]] G := by
  have H : Holds (([] : List Res).flatMap Res.own) w w [] G := Holds.startN H
  refine calls_enter (args := [vp0]) (n := 11) Tryd.func44 rfl rfl rfl ?_
  unfold spec_l20OpenS at h
  refine WP_seq ?_
  refine WP_region ?_
  refine XL_q rfl (qt_assign rfl) rfl rfl ?_
  refine WL_nil_seq ?_
  refine WP_seq ?_
  refine WP_seq ?_
  refine WP_region ?_
  refine XL_q rfl (qt_move rfl) rfl rfl ?_
  refine XL_lenH H.ctx (t := (.int .u8)) (hp0.has) u22 rfl rfl rfl ?_
  refine XL_q rfl (qt_gtr rfl rfl) rfl rfl ?_
  refine WL_nil_seq ?_
  obtain ⟨o2, ho3, h⟩ := bind_some h
  obtain ⟨j1, rfl⟩ : ∃ z, z = o2 := ⟨o2, rfl⟩
  refine WP_join (M := fun a w2 => ∃ vj1, Fr a 11 [(0, vj1)] ∧ Holds (([] : List Res).flatMap Res.own) w w2 [.ro (.int .u8) vj1 j1] G) ?_ ?_
  · refine WP_cond rfl (fun hc4 => ?_) (fun hc4 => ?_)
    · have ho3 := if_t hc4 ho3
      refine WP_region ?_
      refine XL_q rfl (qt_move rfl) rfl rfl ?_
      obtain ⟨x5, hx6, ho3⟩ := bind_some ho3
      refine XL_sliceH H.ctx (hp0.has) hx6 u22 i5 rfl ⟨_, rfl⟩ rfl rfl rfl ?_
      refine XL_q rfl (qt_assign rfl) rfl rfl ?_
      refine WL_nil fun a ha => ?_
      obtain rfl := Option.some.inj ho3
      have H7 : Holds (([] : List Res).flatMap Res.own) w w [.ro (.int .u8) (subV (Ty.size (.int .u8)) vp0 (Int.toNat 0) (Int.toNat 2000)) x5] G := H.dup (HasRo.sub (hp0) hx6)
      exact nrm_seq (⟨(subV (Ty.size (.int .u8)) vp0 (Int.toNat 0) (Int.toNat 2000)), ha.sub ⟨rfl, trivial⟩, H7⟩)
    · have ho3 := if_f hc4 ho3
      refine WP_skip fun a ha => ?_
      obtain rfl := Option.some.inj ho3
      have H8 : Holds (([] : List Res).flatMap Res.own) w w [.ro (.int .u8) vp0 p0] G := H.dup (hp0)
      exact nrm_seq (⟨vp0, ha.sub ⟨rfl, trivial⟩, H8⟩)
  · intro a w9 hI10
    obtain ⟨vj1, ha, H11⟩ := hI10
    refine WP.app ?_ ha
    clear ha
    refine WP_seq ?_
    refine WP_region ?_
    refine XL_q rfl (qt_move rfl) rfl rfl ?_
    refine XL_q rfl (qt_build (args := [(0, .tmp 8)]) (css := [#[vj1]]) (cells := #[vj1, .int .i64 0]) rfl ⟨(H11.ctx.sliceCells (HasRo.has (HasRo.hd))), trivial⟩ (by kernel_rfl)) rfl rfl ?_
    refine WL_box (cs := [vj1, .int .i64 0]) H11 rfl rfl rfl rfl (fun b12 w13 H14 => ?_)
    have H15 : Holds (([] : List Res).flatMap Res.own) w w13 [.bx b12 69 [vj1, .int .i64 0], .ro (.int .u8) vj1 j1] G := H14
    refine XL_q rfl (qt_assign rfl) rfl rfl ?_
    refine WL_nil_seq ?_
    refine WP_ret fun a ha => ?_
    obtain rfl := Option.some.inj h
    have H16 : Holds (([] : List Res).flatMap Res.own) w w13 [.ro (.int .u8) vj1 j1, .bx b12 69 [vj1, .int .i64 0]] G := (H15.pull 1)
    exact ret1 rfl ha rfl ⟨vj1, b12, rfl, H16⟩
theorem w_spec_l20Rd__pick (w : World) (G : List Res) (bp0 : Nat) (vp0_0 : Value) (p0_0 : List Int) (hp0_0 : Has G (.int .u8) vp0_0 p0_0) (p0_1 : Int) (p1 : Int) (r : Int × Int) (h : spec_l20Rd__pickS p0_0 p0_1 p1 = some r) (H : Ctx w ([.bx bp0 69 [vp0_0, .int .i64 p0_1]] ++ G)) : Calls Tryd.prog 65 #[.pointer (some ⟨bp0, 0, none⟩), .int .i64 p1] w fun e w' => e = .returned (.int .i64 r.2) ∧ Holds (([.bx bp0 69 [vp0_0, .int .i64 p0_1]] : List Res).flatMap Res.own) w w' [.bx bp0 69 [vp0_0, .int .i64 r.1]] G := by
  have H : Holds (([.bx bp0 69 [vp0_0, .int .i64 p0_1]] : List Res).flatMap Res.own) w w [.bx bp0 69 [vp0_0, .int .i64 p0_1]] G := Holds.startN H
  refine calls_enter (args := [.pointer (some ⟨bp0, 0, none⟩), .int .i64 p1]) (n := 99) Tryd.func65 rfl rfl rfl ?_
  unfold spec_l20Rd__pickS at h
  refine WP_seq ?_
  refine WP_region ?_
  refine XL_q rfl (qt_assign rfl) rfl rfl ?_
  refine WL_nil_seq ?_
  refine WP_seq ?_
  refine WP_region ?_
  refine XL_q rfl (qt_move rfl) rfl rfl ?_
  refine XL_q rfl (qt_move rfl) rfl rfl ?_
  refine XL_q rfl (qt_nilCheck rfl) rfl rfl ?_
  refine XL_q rfl (qt_fieldAddr uf69 fi69_1 nz3 rfl) rfl rfl ?_
  have hB1 : Bx w bp0 69 [vp0_0, .int .i64 p0_1] := Holds.bx (H.pull 0)
  refine XL_load_bx u3 rfl hB1 rfl rfl rfl rfl ?_
  refine XL_q rfl (qt_add rfl rfl) rfl rfl ?_
  refine XL_q rfl (qt_nilCheck rfl) rfl rfl ?_
  refine XL_q rfl (qt_fieldAddr uf69 fi69_1 nz3 rfl) rfl rfl ?_
  refine WL_store_bx H rfl il3 rfl rfl rfl rfl rfl (fun w2 H3 => ?_)
  have H4 : Holds (([.bx bp0 69 [vp0_0, .int .i64 p0_1]] : List Res).flatMap Res.own) w w2 [.bx bp0 69 [vp0_0, .int .i64 (IntKind.wrap .i64 (p0_1 + 1))]] G := H3
  refine WL_nil_seq ?_
  refine WP_seq ?_
  refine WP_seq ?_
  refine WP_region ?_
  refine XL_q rfl (qt_move rfl) rfl rfl ?_
  refine XL_q rfl (qt_lss rfl rfl) rfl rfl ?_
  refine XL_q rfl (qt_move rfl) rfl rfl ?_
  refine XL_join 7 24 (.bool ((decide (p1 < 1)) || ((List.length p0_0 : Int) == 0))) ?_ (fun md hmd hk => ?_)
  rotate_left
  · obtain ⟨Q, rfl⟩ := Md.seq_of hmd
    rcases btf (decide (p1 < 1)) with hc5 | hc5
    · skip
      refine XL_skip (w_skip rfl hc5) rfl rfl ?_
      refine XL_skip (w_skip rfl hc5) rfl rfl ?_
      refine XL_skip (w_skip rfl hc5) rfl rfl ?_
      refine XL_skip (w_skip rfl hc5) rfl rfl ?_
      refine XL_skip (w_skip rfl hc5) rfl rfl ?_
      refine XL_skip (w_skip rfl hc5) rfl rfl ?_
      refine XL_q rfl (qt_pickT rfl hc5 rfl) rfl rfl ?_
      exact hk _ (Cov.same (by rw [hc5]; rfl) (Cov.fresh rfl (Cov.fresh rfl (Cov.fresh rfl (Cov.fresh rfl (Cov.fresh rfl (Cov.fresh rfl (Cov.refl))))))))
    · skip
      refine XL_q (w_take rfl hc5) (qt_move rfl) rfl rfl ?_
      refine XL_q (w_take rfl hc5) (qt_nilCheck rfl) rfl rfl ?_
      refine XL_q (w_take rfl hc5) (qt_fieldAddr uf69 fi69_0 nz22 rfl) rfl rfl ?_
      have hB6 : Bx w2 bp0 69 [vp0_0, .int .i64 (IntKind.wrap .i64 (p0_1 + 1))] := Holds.bx (H4.pull 0)
      refine XL_load_bx u22 rfl hB6 rfl (w_take rfl hc5) rfl rfl ?_
      refine XL_lenH H4.ctx (t := (.int .u8)) (hp0_0.c) u22 (w_take rfl hc5) rfl rfl ?_
      refine XL_q (w_take rfl hc5) (qt_eql rfl rfl) rfl rfl ?_
      refine XL_q rfl (qt_pickF rfl hc5 rfl) rfl rfl ?_
      exact hk _ (Cov.same (by rw [hc5]; rfl) (Cov.fresh rfl (Cov.fresh rfl (Cov.fresh rfl (Cov.fresh rfl (Cov.fresh rfl (Cov.fresh rfl (Cov.refl))))))))
  refine WL_nil_seq ?_
  refine WP_cond rfl (fun hc7 => ?_) (fun hc7 => ?_)
  · have h := if_t hc7 h
    refine WP_seq ?_
    refine WP_region ?_
    refine XL_q rfl (qt_assign rfl) rfl rfl ?_
    refine WL_nil_seq ?_
    refine WP_ret fun a ha => ?_
    obtain rfl := Option.some.inj h
    exact ret_seq (ret1 rfl ha rfl ⟨rfl, H4⟩)
  · have h := if_f hc7 h
    refine WP_skip_seq ?_
    refine WP_seq ?_
    refine WP_region ?_
    refine XL_q rfl (qt_move rfl) rfl rfl ?_
    refine XL_q rfl (qt_nilCheck rfl) rfl rfl ?_
    refine XL_q rfl (qt_fieldAddr uf69 fi69_1 nz3 rfl) rfl rfl ?_
    have hB8 : Bx w2 bp0 69 [vp0_0, .int .i64 (IntKind.wrap .i64 (p0_1 + 1))] := Holds.bx (H4.pull 0)
    refine XL_load_bx u3 rfl hB8 rfl rfl rfl rfl ?_
    refine XL_q rfl (qt_sub rfl rfl) rfl rfl ?_
    refine XL_q rfl (qt_assign rfl) rfl rfl ?_
    refine WL_nil_seq ?_
    refine WP_seq ?_
    refine WP_seq ?_
    refine WP_region ?_
    refine XL_q rfl (qt_move rfl) rfl rfl ?_
    refine XL_q rfl (qt_move rfl) rfl rfl ?_
    refine XL_q rfl (qt_nilCheck rfl) rfl rfl ?_
    refine XL_q rfl (qt_fieldAddr uf69 fi69_0 nz22 rfl) rfl rfl ?_
    have hB9 : Bx w2 bp0 69 [vp0_0, .int .i64 (IntKind.wrap .i64 (p0_1 + 1))] := Holds.bx (H4.pull 0)
    refine XL_load_bx u22 rfl hB9 rfl rfl rfl rfl ?_
    refine XL_lenH H4.ctx (t := (.int .u8)) (hp0_0.c) u22 rfl rfl rfl ?_
    refine XL_q rfl (qt_lss rfl rfl) rfl rfl ?_
    refine WL_nil_seq ?_
    refine WP_cond rfl (fun hc10 => ?_) (fun hc10 => ?_)
    · have h := if_t hc10 h
      refine WP_seq ?_
      refine WP_region ?_
      refine XL_q rfl (qt_move rfl) rfl rfl ?_
      refine XL_q rfl (qt_nilCheck rfl) rfl rfl ?_
      refine XL_q rfl (qt_fieldAddr uf69 fi69_0 nz22 rfl) rfl rfl ?_
      have hB11 : Bx w2 bp0 69 [vp0_0, .int .i64 (IntKind.wrap .i64 (p0_1 + 1))] := Holds.bx (H4.pull 0)
      refine XL_load_bx u22 rfl hB11 rfl rfl rfl rfl ?_
      refine XL_q rfl (qt_move rfl) rfl rfl ?_
      obtain ⟨x12, hx13, h⟩ := bind_some h
      refine XL_indexH H4.ctx (hp0_0.c) hx13 u22 i5 rfl rfl rfl rfl (fun b14 off15 cap16 hv17 => ?_)
      obtain ⟨F18, hat19, hdup20⟩ := H4.at (hp0_0.c) hx13 hv17
      refine XL_load_int (k := .u8) u5 rfl hat19 rfl rfl rfl ?_
      refine XL_q rfl (qt_int u3 rfl u5) rfl rfl ?_
      refine XL_q rfl (qt_move rfl) rfl rfl ?_
      obtain ⟨x21, hx22, h⟩ := bind_some h
      refine XL_q rfl (qt_remO rfl rfl hx22) rfl rfl ?_
      refine XL_q rfl (qt_assign rfl) rfl rfl ?_
      refine WL_nil_seq ?_
      refine WP_ret fun a ha => ?_
      obtain rfl := Option.some.inj h
      exact ret_seq (ret1 rfl ha rfl ⟨rfl, H4⟩)
    · have h := if_f hc10 h
      refine WP_skip_seq ?_
      refine WP_seq ?_
      refine WP_quiet (by kernel_rfl) (by kernel_rfl) ?_
      refine XL_q rfl (qt_move rfl) rfl rfl ?_
      refine XL_q rfl (qt_nilCheck rfl) rfl rfl ?_
      refine XL_q rfl (qt_fieldAddr uf69 fi69_0 nz22 rfl) rfl rfl ?_
      have hB23 : Bx w2 bp0 69 [vp0_0, .int .i64 (IntKind.wrap .i64 (p0_1 + 1))] := Holds.bx (H4.pull 0)
      refine XL_load_bx u22 rfl hB23 rfl rfl rfl rfl ?_
      refine XL_q rfl (qt_move rfl) rfl rfl ?_
      refine XL_q rfl (qt_move rfl) rfl rfl ?_
      refine XL_q rfl (qt_nilCheck rfl) rfl rfl ?_
      refine XL_q rfl (qt_fieldAddr uf69 fi69_0 nz22 rfl) rfl rfl ?_
      have hB24 : Bx w2 bp0 69 [vp0_0, .int .i64 (IntKind.wrap .i64 (p0_1 + 1))] := Holds.bx (H4.pull 0)
      refine XL_load_bx u22 rfl hB24 rfl rfl rfl rfl ?_
      refine XL_lenH H4.ctx (t := (.int .u8)) (hp0_0.c) u22 rfl rfl rfl ?_
      obtain ⟨x25, hx26, h⟩ := bind_some h
      refine XL_q rfl (qt_remO rfl rfl hx26) rfl rfl ?_
      obtain ⟨x27, hx28, h⟩ := bind_some h
      refine XL_indexH H4.ctx (hp0_0.c) hx28 u22 i5 rfl rfl rfl rfl (fun b29 off30 cap31 hv32 => ?_)
      obtain ⟨F33, hat34, hdup35⟩ := H4.at (hp0_0.c) hx28 hv32
      refine XL_load_int (k := .u8) u5 rfl hat34 rfl rfl rfl ?_
      refine XL_q rfl (qt_int u3 rfl u5) rfl rfl ?_
      refine XL_q rfl (qt_mul rfl rfl) rfl rfl ?_
      refine XL_q rfl (qt_move rfl) rfl rfl ?_
      refine XL_q rfl (qt_nilCheck rfl) rfl rfl ?_
      refine XL_q rfl (qt_fieldAddr uf69 fi69_0 nz22 rfl) rfl rfl ?_
      have hB36 : Bx w2 bp0 69 [vp0_0, .int .i64 (IntKind.wrap .i64 (p0_1 + 1))] := Holds.bx (H4.pull 0)
      refine XL_load_bx u22 rfl hB36 rfl rfl rfl rfl ?_
      refine XL_q rfl (qt_move rfl) rfl rfl ?_
      refine XL_q rfl (qt_mul rfl rfl) rfl rfl ?_
      refine XL_q rfl (qt_add rfl rfl) rfl rfl ?_
      refine XL_q rfl (qt_move rfl) rfl rfl ?_
      refine XL_q rfl (qt_nilCheck rfl) rfl rfl ?_
      refine XL_q rfl (qt_fieldAddr uf69 fi69_0 nz22 rfl) rfl rfl ?_
      have hB37 : Bx w2 bp0 69 [vp0_0, .int .i64 (IntKind.wrap .i64 (p0_1 + 1))] := Holds.bx (H4.pull 0)
      refine XL_load_bx u22 rfl hB37 rfl rfl rfl rfl ?_
      refine XL_lenH H4.ctx (t := (.int .u8)) (hp0_0.c) u22 rfl rfl rfl ?_
      obtain ⟨x38, hx39, h⟩ := bind_some h
      refine XL_q rfl (qt_remO rfl rfl hx39) rfl rfl ?_
      obtain ⟨x40, hx41, h⟩ := bind_some h
      refine XL_indexH H4.ctx (hp0_0.c) hx41 u22 i5 rfl rfl rfl rfl (fun b42 off43 cap44 hv45 => ?_)
      obtain ⟨F46, hat47, hdup48⟩ := H4.at (hp0_0.c) hx41 hv45
      refine XL_load_int (k := .u8) u5 rfl hat47 rfl rfl rfl ?_
      refine XL_q rfl (qt_int u3 rfl u5) rfl rfl ?_
      refine XL_q rfl (qt_mul rfl rfl) rfl rfl ?_
      refine XL_q rfl (qt_add rfl rfl) rfl rfl ?_
      refine XL_q rfl (qt_move rfl) rfl rfl ?_
      refine XL_q rfl (qt_mul rfl rfl) rfl rfl ?_
      obtain ⟨x49, hx50, h⟩ := bind_some h
      refine XL_qe rfl (qt_add rfl rfl) (vi hx50) rfl rfl ?_
      refine XL_q rfl (qt_move rfl) rfl rfl ?_
      refine XL_q rfl (qt_move rfl) rfl rfl ?_
      refine XL_q rfl (qt_nilCheck rfl) rfl rfl ?_
      refine XL_q rfl (qt_fieldAddr uf69 fi69_0 nz22 rfl) rfl rfl ?_
      have hB51 : Bx w2 bp0 69 [vp0_0, .int .i64 (IntKind.wrap .i64 (p0_1 + 1))] := Holds.bx (H4.pull 0)
      refine XL_load_bx u22 rfl hB51 rfl rfl rfl rfl ?_
      refine XL_lenH H4.ctx (t := (.int .u8)) (hp0_0.c) u22 rfl rfl rfl ?_
      obtain ⟨x52, hx53, h⟩ := bind_some h
      refine XL_q rfl (qt_quoO rfl rfl hx53) rfl rfl ?_
      refine XL_q rfl (qt_mul rfl rfl) rfl rfl ?_
      refine XL_q rfl (qt_add rfl rfl) rfl rfl ?_
      refine XL_q rfl (qt_assign rfl) rfl rfl ?_
      refine QL_nil fun a ha w54 hb55 => ?_
      have H56 : Holds (([.bx bp0 69 [vp0_0, .int .i64 p0_1]] : List Res).flatMap Res.own) w w54 [.bx bp0 69 [vp0_0, .int .i64 (IntKind.wrap .i64 (p0_1 + 1))]] G := H4.grow hb55
      refine nrm_seq (WP.app ?_ ha)
      refine WP_seq ?_
      refine WP_region ?_
      refine XL_q rfl (qt_move rfl) rfl rfl ?_
      refine XL_q rfl (qt_move rfl) rfl rfl ?_
      refine XL_q rfl (qt_quo rfl rfl (by decide)) rfl rfl ?_
      obtain ⟨x57, hx58, h⟩ := bind_some h
      refine XL_qe rfl (qt_xor rfl rfl) (vi hx58) rfl rfl ?_
      refine XL_q rfl (qt_assign rfl) rfl rfl ?_
      refine WL_nil_seq ?_
      refine WP_seq ?_
      refine WP_region ?_
      refine XL_q rfl (qt_move rfl) rfl rfl ?_
      refine XL_q rfl (qt_move rfl) rfl rfl ?_
      obtain ⟨x59, hx60, h⟩ := bind_some h
      refine XL_q rfl (qt_remO rfl rfl hx60) rfl rfl ?_
      refine XL_q rfl (qt_assign rfl) rfl rfl ?_
      refine WL_nil_seq ?_
      refine WP_ret fun a ha => ?_
      obtain rfl := Option.some.inj h
      exact ret1 rfl ha rfl ⟨rfl, H56⟩
theorem w_spec_l1Sum (w : World) (G : List Res) (vp0 : Value) (p0 : List Int) (hp0 : Has G (.int .i64) vp0 p0) (r : Int) (h : spec_l1SumS p0 = some r) (H : Ctx w G) : Calls Tryd.prog 47 #[vp0] w fun e w' => e = .returned (.int .i64 r) ∧ Holds (([] : List Res).flatMap Res.own) w w' [] G := by
  have H : Holds (([] : List Res).flatMap Res.own) w w [] G := Holds.startN H
  refine calls_enter (args := [vp0]) (n := 18) Tryd.func47 rfl rfl rfl ?_
  unfold spec_l1SumS at h
  refine WP_seq ?_
  refine WP_region ?_
  refine XL_q rfl (qt_assign rfl) rfl rfl ?_
  refine WL_nil_seq ?_
  refine WP_seq ?_
  refine WP_region ?_
  refine XL_q rfl (qt_assign rfl) rfl rfl ?_
  refine WL_nil_seq ?_
  refine WP_seq ?_
  refine WP_seq ?_
  refine WP_region ?_
  refine XL_q rfl (qt_assign rfl) rfl rfl ?_
  refine WL_nil_seq ?_
  refine WP_block ?_
  obtain ⟨o3, ho4, h⟩ := bind_some h
  refine fun a5 ha6 => wp_loop_fix (I := fun s a w2 => match s with | (s1, s2) => (Fr a 18 [(0, vp0), (3, .int .i64 s1), (4, .int .i64 s2)] ∧ Holds (([] : List Res).flatMap Res.own) w w2 [] G)) (O := fun o e a w2 => match o with | q0 => e = .exit 0 ∧ (Fr a 18 [(3, .int .i64 q0)] ∧ Holds (([] : List Res).flatMap Res.own) w w2 [] G)) ho4 ?_ ?_ ?_
  · exact ⟨ha6.sub ⟨rfl, rfl, rfl, trivial⟩, H⟩
  · clear ha6
    intro s o9 a w7 hs8 hI10
    obtain ⟨s1, s2⟩ := s
    obtain ⟨ha, H11⟩ := hI10
    refine WP.app ?_ ha
    clear ha
    refine WP_seq ?_
    refine WP_seq ?_
    refine WP_region ?_
    refine XL_q rfl (qt_move rfl) rfl rfl ?_
    refine XL_q rfl (qt_move rfl) rfl rfl ?_
    refine XL_lenH H11.ctx (t := (.int .i64)) (hp0) u23 rfl rfl rfl ?_
    refine XL_q rfl (qt_lss rfl rfl) rfl rfl ?_
    refine WL_nil_seq ?_
    refine WP_cond rfl (fun hc12 => ?_) (fun hc12 => ?_)
    · have hs8 := if_t hc12 hs8
      refine WP_skip_seq ?_
      refine WP_seq ?_
      refine WP_block ?_
      refine WP_region ?_
      refine XL_q rfl (qt_move rfl) rfl rfl ?_
      refine XL_q rfl (qt_move rfl) rfl rfl ?_
      refine XL_q rfl (qt_move rfl) rfl rfl ?_
      obtain ⟨x13, hx14, hs8⟩ := bind_some hs8
      refine XL_indexH H11.ctx (hp0) hx14 u23 i3 rfl rfl rfl rfl (fun b15 off16 cap17 hv18 => ?_)
      obtain ⟨F19, hat20, hdup21⟩ := H11.at (hp0) hx14 hv18
      refine XL_load_int (k := .i64) u3 rfl hat20 rfl rfl rfl ?_
      refine XL_q rfl (qt_add rfl rfl) rfl rfl ?_
      refine XL_q rfl (qt_assign rfl) rfl rfl ?_
      refine WL_nil fun a ha => ?_
      refine nrm_block (nrm_seq (WP.app ?_ ha))
      refine WP_region ?_
      refine XL_q rfl (qt_move rfl) rfl rfl ?_
      refine XL_q rfl (qt_add rfl rfl) rfl rfl ?_
      refine XL_q rfl (qt_assign rfl) rfl rfl ?_
      refine WL_nil fun a ha => ?_
      obtain rfl := Option.some.inj hs8
      exact ⟨rfl, ha.sub ⟨rfl, rfl, rfl, trivial⟩, H11⟩
    · have hs8 := if_f hc12 hs8
      refine WP_exit fun a ha => ?_
      obtain rfl := Option.some.inj hs8
      exact exit_seq (⟨exit_ne, rfl, ha.sub ⟨rfl, trivial⟩, H11⟩)
  · intro e a5 w22 hO23
    obtain ⟨p24, rfl⟩ : ∃ z, z = o3 := ⟨o3, rfl⟩
    obtain ⟨rfl, hO26⟩ := hO23
    obtain ⟨ha, H25⟩ := hO26
    refine exit_block_eq (nrm_seq (WP.app ?_ ha))
    refine WP_seq ?_
    refine WP_region ?_
    refine XL_q rfl (qt_move rfl) rfl rfl ?_
    refine XL_q rfl (qt_assign rfl) rfl rfl ?_
    refine WL_nil_seq ?_
    refine WP_ret fun a ha => ?_
    obtain rfl := Option.some.inj h
    exact ret1 rfl ha rfl ⟨rfl, H25⟩
theorem w_spec_l20Rd__odd (w : World) (G : List Res) (bp0 : Nat) (vp0_0 : Value) (p0_0 : List Int) (hp0_0 : Has G (.int .u8) vp0_0 p0_0) (p0_1 : Int) (p1 : Int) (r : Int × Bool) (h : spec_l20Rd__oddS p0_0 p0_1 p1 = some r) (H : Ctx w ([.bx bp0 69 [vp0_0, .int .i64 p0_1]] ++ G)) : Calls Tryd.prog 66 #[.pointer (some ⟨bp0, 0, none⟩), .int .i64 p1] w fun e w' => e = .returned (.bool r.2) ∧ Holds (([.bx bp0 69 [vp0_0, .int .i64 p0_1]] : List Res).flatMap Res.own) w w' [.bx bp0 69 [vp0_0, .int .i64 r.1]] G := by
  have H : Holds (([.bx bp0 69 [vp0_0, .int .i64 p0_1]] : List Res).flatMap Res.own) w w [.bx bp0 69 [vp0_0, .int .i64 p0_1]] G := Holds.startN H
  refine calls_enter (args := [.pointer (some ⟨bp0, 0, none⟩), .int .i64 p1]) (n := 15) Tryd.func66 rfl rfl rfl ?_
  unfold spec_l20Rd__oddS at h
  refine WP_seq ?_
  refine WP_region ?_
  refine XL_q rfl (qt_assign rfl) rfl rfl ?_
  refine WL_nil_seq ?_
  refine WP_seq ?_
  refine WP_region ?_
  refine XL_q rfl (qt_move rfl) rfl rfl ?_
  refine XL_q rfl (qt_gtr rfl rfl) rfl rfl ?_
  refine XL_q rfl (qt_move rfl) rfl rfl ?_
  obtain ⟨o3, ho4, h⟩ := bind_some h
  obtain ⟨g1, b2⟩ := o3
  refine WL_cutM 7 (fun a w2 => (Fr a 15 [(0, .pointer (some ⟨bp0, 0, none⟩)), (14, .bool b2)] ∧ Holds (([.bx bp0 69 [vp0_0, .int .i64 p0_1]] : List Res).flatMap Res.own) w w2 [.bx bp0 69 [vp0_0, .int .i64 g1]] G)) ?_ ?_
  · rcases btf (decide (p1 > 0)) with hc5 | hc5
    · have ho4 := if_t hc5 ho4
      refine XL_q (w_take rfl hc5) (qt_move rfl) rfl rfl ?_
      refine XL_q (w_take rfl hc5) (qt_move rfl) rfl rfl ?_
      obtain ⟨x6, hx7, ho4⟩ := bind_some ho4
      refine WL_call (w_take rfl hc5) rfl c65 (w_spec_l20Rd__pick w G bp0 vp0_0 p0_0 (hp0_0) p0_1 p1 x6 hx7 H.ctx) (by rfl) ?_
      rintro _ w8 ⟨rfl, H9⟩; refine ⟨_, rfl, ?_⟩
      have H10 : Holds (([.bx bp0 69 [vp0_0, .int .i64 p0_1]] : List Res).flatMap Res.own) w w8 [.bx bp0 69 [vp0_0, .int .i64 x6.1]] G := H.calledN (Rs := [_]) H9
      refine XL_q (w_take rfl hc5) (qt_move rfl) rfl rfl ?_
      refine XL_q (w_take rfl hc5) (qt_sub rfl rfl) rfl rfl ?_
      refine XL_q (w_take rfl hc5) (qt_eql rfl rfl) rfl rfl ?_
      refine XL_q rfl (qt_pickT rfl hc5 rfl) rfl rfl ?_
      refine WL_nil fun a ha => ?_
      obtain ⟨rfl, rfl⟩ := Option.some.inj ho4 |> Prod.mk.inj
      exact nrm_seq ⟨ha.sub ⟨rfl, rfl, trivial⟩, H10⟩
    · have ho4 := if_f hc5 ho4
      refine XL_skip (w_skip rfl hc5) rfl rfl ?_
      refine XL_skip (w_skip rfl hc5) rfl rfl ?_
      refine XL_skip (w_skip rfl hc5) rfl rfl ?_
      refine XL_skip (w_skip rfl hc5) rfl rfl ?_
      refine XL_skip (w_skip rfl hc5) rfl rfl ?_
      refine XL_skip (w_skip rfl hc5) rfl rfl ?_
      refine XL_q rfl (qt_pickF rfl hc5 rfl) rfl rfl ?_
      refine WL_nil fun a ha => ?_
      obtain ⟨rfl, rfl⟩ := Option.some.inj ho4 |> Prod.mk.inj
      exact nrm_seq ⟨ha.sub ⟨rfl, rfl, trivial⟩, H⟩
  intro a w11 hI12
  obtain ⟨ha, H13⟩ := hI12
  refine SL_app ?_ ha
  clear ha
  refine XL_q rfl (qt_assign rfl) rfl rfl ?_
  refine WL_nil_seq ?_
  refine WP_ret fun a ha => ?_
  obtain rfl := Option.some.inj h
  exact ret1 rfl ha rfl ⟨rfl, H13⟩
theorem w_spec_l20Owed (w : World) (G : List Res) (bp0 : Nat) (vp0_0 : Value) (p0_0 : List Int) (hp0_0 : Has G (.int .u8) vp0_0 p0_0) (p0_1 : Int) (p1 : Int) (r : Int × (List Int)) (h : spec_l20OwedS p0_0 p0_1 p1 = some r) (H : Ctx w ([.bx bp0 69 [vp0_0, .int .i64 p0_1]] ++ G)) : Calls Tryd.prog 43 #[.pointer (some ⟨bp0, 0, none⟩), .int .i64 p1] w fun e w' => ∃ (v1 : Value), e = .returned (v1) ∧ Holds (([.bx bp0 69 [vp0_0, .int .i64 p0_1]] : List Res).flatMap Res.own) w w' [.sl 3 (.int .i64) v1 r.2, .bx bp0 69 [vp0_0, .int .i64 r.1]] G := by
  have H : Holds (([.bx bp0 69 [vp0_0, .int .i64 p0_1]] : List Res).flatMap Res.own) w w [.bx bp0 69 [vp0_0, .int .i64 p0_1]] G := Holds.startN H
  refine calls_enter (args := [.pointer (some ⟨bp0, 0, none⟩), .int .i64 p1]) (n := 67) Tryd.func43 rfl rfl rfl ?_
  unfold spec_l20OwedS at h
  refine WP_seq ?_
  refine WP_region ?_
  refine XL_q rfl (qt_assign rfl) rfl rfl ?_
  refine WL_nil_seq ?_
  refine WP_seq ?_
  refine WP_region ?_
  refine WL_buildH (t := (.int .i64)) (args := []) (xs := ([] : List Int)) H (BltL.nil) u23 j3 rfl rfl rfl rfl rfl rfl (fun v1 w2 H3 => ?_)
  have H4 : Holds (([.bx bp0 69 [vp0_0, .int .i64 p0_1]] : List Res).flatMap Res.own) w w2 [.sl 3 (.int .i64) v1 ([]), .bx bp0 69 [vp0_0, .int .i64 p0_1]] G := H3
  refine XL_q rfl (qt_assign rfl) rfl rfl ?_
  refine WL_nil_seq ?_
  refine WP_seq ?_
  refine WP_seq ?_
  refine WP_region ?_
  refine XL_q rfl (qt_move rfl) rfl rfl ?_
  have H7 : Holds (([.bx bp0 69 [vp0_0, .int .i64 p0_1]] : List Res).flatMap Res.own) w w2 [.bx bp0 69 [vp0_0, .int .i64 p0_1], .sl 3 (.int .i64) v1 ([])] G := H4.pull 1
  obtain ⟨x5, hx6, h⟩ := bind_some h
  refine WL_call rfl rfl c65 (w_spec_l20Rd__pick w2 ([.sl 3 (.int .i64) v1 ([])] ++ G) bp0 vp0_0 p0_0 (hp0_0.c) p0_1 7 x5 hx6 H7.ctx) (by rfl) ?_
  rintro _ w8 ⟨rfl, H9⟩; refine ⟨_, rfl, ?_⟩
  have H10 : Holds (([.bx bp0 69 [vp0_0, .int .i64 p0_1]] : List Res).flatMap Res.own) w w8 [.bx bp0 69 [vp0_0, .int .i64 x5.1], .sl 3 (.int .i64) v1 ([])] G := H7.calledN (Rs := [_]) H9
  refine XL_q rfl (qt_assign rfl) rfl rfl ?_
  refine WL_nil_seq ?_
  refine WP_block ?_
  obtain ⟨o14, ho15, h⟩ := bind_some h
  have H18 : Holds (([.bx bp0 69 [vp0_0, .int .i64 p0_1]] : List Res).flatMap Res.own) w w8 [.bx bp0 69 [vp0_0, .int .i64 x5.1], .sl 3 (.int .i64) v1 ([])] G := ((H10.pull 1).pull 1)
  refine fun a16 ha17 => wp_loop_fix (I := fun s a w2 => match s with | (s11, s12, s13) => ∃ vs11, Fr a 67 [(0, .pointer (some ⟨bp0, 0, none⟩)), (1, .int .i64 p1), (5, vs11), (6, .int .i64 s12)] ∧ Holds (([.bx bp0 69 [vp0_0, .int .i64 p0_1]] : List Res).flatMap Res.own) w w2 [.bx bp0 69 [vp0_0, .int .i64 s13], .sl 3 (.int .i64) vs11 s11] G) (O := fun o e a w2 => match o with | (q0, q1) => e = .exit 0 ∧ ∃ vq0, Fr a 67 [(0, .pointer (some ⟨bp0, 0, none⟩)), (1, .int .i64 p1), (5, vq0)] ∧ Holds (([.bx bp0 69 [vp0_0, .int .i64 p0_1]] : List Res).flatMap Res.own) w w2 [.bx bp0 69 [vp0_0, .int .i64 q1], .sl 3 (.int .i64) vq0 q0] G) ho15 ?_ ?_ ?_
  · exact ⟨v1, ha17.sub ⟨rfl, rfl, rfl, rfl, trivial⟩, H18⟩
  · clear ha17
    intro s o21 a w19 hs20 hI22
    obtain ⟨s11, s12, s13⟩ := s
    obtain ⟨vs11, ha, H23⟩ := hI22
    refine WP.app ?_ ha
    clear ha
    refine WP_seq ?_
    refine WP_seq ?_
    refine WP_region ?_
    refine XL_q rfl (qt_move rfl) rfl rfl ?_
    refine XL_q rfl (qt_gtr rfl rfl) rfl rfl ?_
    refine WL_nil_seq ?_
    refine WP_cond rfl (fun hc24 => ?_) (fun hc24 => ?_)
    · have hs20 := if_t hc24 hs20
      refine WP_skip_seq ?_
      refine WP_seq ?_
      refine WP_block ?_
      refine WP_region ?_
      refine XL_q rfl (qt_move rfl) rfl rfl ?_
      refine XL_q rfl (qt_move rfl) rfl rfl ?_
      obtain ⟨x25, hx26, hs20⟩ := bind_some hs20
      refine WL_call rfl rfl c65 (w_spec_l20Rd__pick w19 ([.sl 3 (.int .i64) vs11 s11] ++ G) bp0 vp0_0 p0_0 (hp0_0.c) s13 9 x25 hx26 H23.ctx) (by rfl) ?_
      rintro _ w27 ⟨rfl, H28⟩; refine ⟨_, rfl, ?_⟩
      have H29 : Holds (([.bx bp0 69 [vp0_0, .int .i64 p0_1]] : List Res).flatMap Res.own) w w27 [.bx bp0 69 [vp0_0, .int .i64 x25.1], .sl 3 (.int .i64) vs11 s11] G := H23.calledN (Rs := [_]) H28
      refine XL_q rfl (qt_sub rfl rfl) rfl rfl ?_
      refine XL_q rfl (qt_move rfl) rfl rfl ?_
      obtain ⟨x30, hx31, hs20⟩ := bind_some hs20
      refine WL_call rfl rfl c65 (w_spec_l20Rd__pick w27 ([.sl 3 (.int .i64) vs11 s11] ++ G) bp0 vp0_0 p0_0 (hp0_0.c) x25.1 3 x30 hx31 H29.ctx) (by rfl) ?_
      rintro _ w32 ⟨rfl, H33⟩; refine ⟨_, rfl, ?_⟩
      have H34 : Holds (([.bx bp0 69 [vp0_0, .int .i64 p0_1]] : List Res).flatMap Res.own) w w32 [.bx bp0 69 [vp0_0, .int .i64 x30.1], .sl 3 (.int .i64) vs11 s11] G := H29.calledN (Rs := [_]) H33
      refine XL_q rfl (qt_add rfl rfl) rfl rfl ?_
      refine XL_q rfl (qt_mul rfl rfl) rfl rfl ?_
      refine WL_buildH (t := (.int .i64)) (args := [.tmp 21]) (xs := ([IntKind.wrap .i64 ((IntKind.wrap .i64 (x25.2 - 4)) * (IntKind.wrap .i64 (1 + x30.2)))] : List Int)) H34 (BltL.cons (Blt.int) rfl (BltL.nil)) u23 j3 rfl rfl rfl rfl rfl rfl (fun v35 w36 H37 => ?_)
      have H38 : Holds (([.bx bp0 69 [vp0_0, .int .i64 p0_1]] : List Res).flatMap Res.own) w w36 [.sl 3 (.int .i64) v35 ([IntKind.wrap .i64 ((IntKind.wrap .i64 (x25.2 - 4)) * (IntKind.wrap .i64 (1 + x30.2)))]), .bx bp0 69 [vp0_0, .int .i64 x30.1], .sl 3 (.int .i64) vs11 s11] G := H37
      have H39 : Holds (([.bx bp0 69 [vp0_0, .int .i64 p0_1]] : List Res).flatMap Res.own) w w36 [.sl 3 (.int .i64) vs11 s11, .sl 3 (.int .i64) v35 ([IntKind.wrap .i64 ((IntKind.wrap .i64 (x25.2 - 4)) * (IntKind.wrap .i64 (1 + x30.2)))]), .bx bp0 69 [vp0_0, .int .i64 x30.1]] G := H38.pull 2
      obtain ⟨x40, hx41, hs20⟩ := bind_some hs20
      refine WL_appendH H39 (Has.c (Has.hd)) hx41 u23 j3 rfl rfl rfl rfl rfl rfl (fun v42 w43 H44 => ?_)
      have H45 : Holds (([.bx bp0 69 [vp0_0, .int .i64 p0_1]] : List Res).flatMap Res.own) w w43 [.sl 3 (.int .i64) v42 x40, .sl 3 (.int .i64) v35 ([IntKind.wrap .i64 ((IntKind.wrap .i64 (x25.2 - 4)) * (IntKind.wrap .i64 (1 + x30.2)))]), .bx bp0 69 [vp0_0, .int .i64 x30.1]] G := H44
      refine XL_q rfl (qt_assign rfl) rfl rfl ?_
      refine WL_nil fun a ha => ?_
      refine nrm_block (nrm_seq (WP.app ?_ ha))
      refine WP_region ?_
      refine XL_q rfl (qt_move rfl) rfl rfl ?_
      refine XL_q rfl (qt_sub rfl rfl) rfl rfl ?_
      refine XL_q rfl (qt_assign rfl) rfl rfl ?_
      refine WL_nil fun a ha => ?_
      obtain rfl := Option.some.inj hs20
      have H46 : Holds (([.bx bp0 69 [vp0_0, .int .i64 p0_1]] : List Res).flatMap Res.own) w w43 [.bx bp0 69 [vp0_0, .int .i64 x30.1], .sl 3 (.int .i64) v42 x40] G := ((H45.cut 1).pull 1)
      exact ⟨rfl, v42, ha.sub ⟨rfl, rfl, rfl, rfl, trivial⟩, H46⟩
    · have hs20 := if_f hc24 hs20
      refine WP_exit fun a ha => ?_
      obtain rfl := Option.some.inj hs20
      have H47 : Holds (([.bx bp0 69 [vp0_0, .int .i64 p0_1]] : List Res).flatMap Res.own) w w19 [.bx bp0 69 [vp0_0, .int .i64 s13], .sl 3 (.int .i64) vs11 s11] G := ((H23.pull 1).pull 1)
      exact exit_seq (⟨exit_ne, rfl, vs11, ha.sub ⟨rfl, rfl, rfl, trivial⟩, H47⟩)
  · intro e a16 w48 hO49
    obtain ⟨p50, p51⟩ := o14
    obtain ⟨rfl, hO53⟩ := hO49
    obtain ⟨vp50, ha, H52⟩ := hO53
    refine exit_block_eq (nrm_seq (WP.app ?_ ha))
    refine WP_seq ?_
    refine WP_seq ?_
    refine WP_region ?_
    refine XL_q rfl (qt_move rfl) rfl rfl ?_
    refine XL_lenH H52.ctx (t := (.int .i64)) (Has.c (Has.hd)) u23 rfl rfl rfl ?_
    refine XL_q rfl (qt_gtr rfl rfl) rfl rfl ?_
    refine WL_nil_seq ?_
    obtain ⟨o55, ho56, h⟩ := bind_some h
    obtain ⟨j54, rfl⟩ : ∃ z, z = o55 := ⟨o55, rfl⟩
    refine WP_join (M := fun a w2 => ∃ vj54, Fr a 67 [(0, .pointer (some ⟨bp0, 0, none⟩)), (1, .int .i64 p1), (5, vj54)] ∧ Holds (([.bx bp0 69 [vp0_0, .int .i64 p0_1]] : List Res).flatMap Res.own) w w2 [.bx bp0 69 [vp0_0, .int .i64 p51], .sl 3 (.int .i64) vj54 j54] G) ?_ ?_
    · refine WP_cond rfl (fun hc57 => ?_) (fun hc57 => ?_)
      · have ho56 := if_t hc57 ho56
        refine WP_region ?_
        refine XL_q rfl (qt_move rfl) rfl rfl ?_
        refine XL_q rfl (qt_move rfl) rfl rfl ?_
        obtain ⟨x58, hx59, ho56⟩ := bind_some ho56
        refine WL_call rfl rfl c47 (w_spec_l1Sum w48 ([.bx bp0 69 [vp0_0, .int .i64 p51], .sl 3 (.int .i64) vp50 p50] ++ G) vp50 p50 (Has.c (Has.hd)) x58 hx59 H52.ctx) (by rfl) ?_
        rintro _ w60 ⟨rfl, H61⟩; refine ⟨_, rfl, ?_⟩
        have H62 : Holds (([.bx bp0 69 [vp0_0, .int .i64 p0_1]] : List Res).flatMap Res.own) w w60 [.bx bp0 69 [vp0_0, .int .i64 p51], .sl 3 (.int .i64) vp50 p50] G := H52.calledN (Rs := []) H61
        refine XL_q rfl (qt_neg rfl) rfl rfl ?_
        refine WL_buildH (t := (.int .i64)) (args := [.tmp 30]) (xs := ([IntKind.wrap .i64 (-x58)] : List Int)) H62 (BltL.cons (Blt.int) rfl (BltL.nil)) u23 j3 rfl rfl rfl rfl rfl rfl (fun v63 w64 H65 => ?_)
        have H66 : Holds (([.bx bp0 69 [vp0_0, .int .i64 p0_1]] : List Res).flatMap Res.own) w w64 [.sl 3 (.int .i64) v63 ([IntKind.wrap .i64 (-x58)]), .bx bp0 69 [vp0_0, .int .i64 p51], .sl 3 (.int .i64) vp50 p50] G := H65
        have H67 : Holds (([.bx bp0 69 [vp0_0, .int .i64 p0_1]] : List Res).flatMap Res.own) w w64 [.sl 3 (.int .i64) vp50 p50, .sl 3 (.int .i64) v63 ([IntKind.wrap .i64 (-x58)]), .bx bp0 69 [vp0_0, .int .i64 p51]] G := H66.pull 2
        obtain ⟨x68, hx69, ho56⟩ := bind_some ho56
        refine WL_appendH H67 (Has.c (Has.hd)) hx69 u23 j3 rfl rfl rfl rfl rfl rfl (fun v70 w71 H72 => ?_)
        have H73 : Holds (([.bx bp0 69 [vp0_0, .int .i64 p0_1]] : List Res).flatMap Res.own) w w71 [.sl 3 (.int .i64) v70 x68, .sl 3 (.int .i64) v63 ([IntKind.wrap .i64 (-x58)]), .bx bp0 69 [vp0_0, .int .i64 p51]] G := H72
        refine XL_q rfl (qt_assign rfl) rfl rfl ?_
        refine WL_nil fun a ha => ?_
        obtain rfl := Option.some.inj ho56
        have H74 : Holds (([.bx bp0 69 [vp0_0, .int .i64 p0_1]] : List Res).flatMap Res.own) w w71 [.bx bp0 69 [vp0_0, .int .i64 p51], .sl 3 (.int .i64) v70 x68] G := ((H73.cut 1).pull 1)
        exact nrm_seq (⟨v70, ha.sub ⟨rfl, rfl, rfl, trivial⟩, H74⟩)
      · have ho56 := if_f hc57 ho56
        refine WP_skip fun a ha => ?_
        obtain rfl := Option.some.inj ho56
        have H75 : Holds (([.bx bp0 69 [vp0_0, .int .i64 p0_1]] : List Res).flatMap Res.own) w w48 [.bx bp0 69 [vp0_0, .int .i64 p51], .sl 3 (.int .i64) vp50 p50] G := ((H52.pull 1).pull 1)
        exact nrm_seq (⟨vp50, ha.sub ⟨rfl, rfl, rfl, trivial⟩, H75⟩)
    · intro a w76 hI77
      obtain ⟨vj54, ha, H78⟩ := hI77
      refine WP.app ?_ ha
      clear ha
      refine WP_seq ?_
      refine WP_seq ?_
      refine WP_region ?_
      refine XL_q rfl (qt_move rfl) rfl rfl ?_
      obtain ⟨x79, hx80, h⟩ := bind_some h
      refine WL_call rfl rfl c65 (w_spec_l20Rd__pick w76 ([.sl 3 (.int .i64) vj54 j54] ++ G) bp0 vp0_0 p0_0 (hp0_0.c) p51 3 x79 hx80 H78.ctx) (by rfl) ?_
      rintro _ w81 ⟨rfl, H82⟩; refine ⟨_, rfl, ?_⟩
      have H83 : Holds (([.bx bp0 69 [vp0_0, .int .i64 p0_1]] : List Res).flatMap Res.own) w w81 [.bx bp0 69 [vp0_0, .int .i64 x79.1], .sl 3 (.int .i64) vj54 j54] G := H78.calledN (Rs := [_]) H82
      refine XL_q rfl (qt_eql rfl rfl) rfl rfl ?_
      refine XL_q rfl (qt_move rfl) rfl rfl ?_
      refine XL_join 4 40 (.bool ((x79.2 == 0) && (decide ((List.length j54 : Int) > 3)))) ?_ (fun md hmd hk => ?_)
      rotate_left
      · obtain ⟨Q, rfl⟩ := Md.seq_of hmd
        rcases btf (x79.2 == 0) with hc84 | hc84
        · skip
          refine XL_q (w_take rfl hc84) (qt_move rfl) rfl rfl ?_
          refine XL_lenH H83.ctx (t := (.int .i64)) (Has.c (Has.hd)) u23 (w_take rfl hc84) rfl rfl ?_
          refine XL_q (w_take rfl hc84) (qt_gtr rfl rfl) rfl rfl ?_
          refine XL_q rfl (qt_pickT rfl hc84 rfl) rfl rfl ?_
          exact hk _ (Cov.same (by rw [hc84]; rfl) (Cov.fresh rfl (Cov.fresh rfl (Cov.fresh rfl (Cov.refl)))))
        · skip
          refine XL_skip (w_skip rfl hc84) rfl rfl ?_
          refine XL_skip (w_skip rfl hc84) rfl rfl ?_
          refine XL_skip (w_skip rfl hc84) rfl rfl ?_
          refine XL_q rfl (qt_pickF rfl hc84 rfl) rfl rfl ?_
          exact hk _ (Cov.same (by rw [hc84]; rfl) (Cov.fresh rfl (Cov.fresh rfl (Cov.fresh rfl (Cov.refl)))))
      refine WL_nil_seq ?_
      obtain ⟨o86, ho87, h⟩ := bind_some h
      obtain ⟨j85, rfl⟩ : ∃ z, z = o86 := ⟨o86, rfl⟩
      refine WP_join (M := fun a w2 => ∃ vj54, Fr a 67 [(0, .pointer (some ⟨bp0, 0, none⟩)), (1, .int .i64 p1), (5, vj54)] ∧ Holds (([.bx bp0 69 [vp0_0, .int .i64 p0_1]] : List Res).flatMap Res.own) w w2 [.bx bp0 69 [vp0_0, .int .i64 x79.1], .sl 3 (.int .i64) vj54 j85] G) ?_ ?_
      · refine WP_cond rfl (fun hc88 => ?_) (fun hc88 => ?_)
        · have ho87 := if_t hc88 ho87
          refine WP_seq ?_
          refine WP_region ?_
          refine XL_q rfl (qt_move rfl) rfl rfl ?_
          refine XL_q rfl (qt_move rfl) rfl rfl ?_
          obtain ⟨x89, hx90, ho87⟩ := bind_some ho87
          refine XL_indexH H83.ctx (Has.c (Has.hd)) hx90 u23 i3 rfl rfl rfl rfl (fun b91 off92 cap93 hv94 => ?_)
          obtain ⟨F95, hat96, hdup97⟩ := H83.at (Has.c (Has.hd)) hx90 hv94
          refine XL_load_int (k := .i64) u3 rfl hat96 rfl rfl rfl ?_
          refine XL_q rfl (qt_neg rfl) rfl rfl ?_
          obtain ⟨x98, hx99, ho87⟩ := bind_some ho87
          refine XL_indexH H83.ctx (Has.c (Has.hd)) hx99 u23 i3 rfl rfl rfl rfl (fun b100 off101 cap102 hv103 => ?_)
          have H104 : Holds (([.bx bp0 69 [vp0_0, .int .i64 p0_1]] : List Res).flatMap Res.own) w w81 [.sl 3 (.int .i64) vj54 j54, .bx bp0 69 [vp0_0, .int .i64 x79.1]] G := H83.pull 1
          refine WL_storeH (fo := 0) (cs' := [.int .i64 (IntKind.wrap .i64 (-x89))]) H104 hx99 hv103 (Upd.whole (Blt.int)) rfl il3 rfl rfl rfl rfl (fun w105 H106 => ?_)
          have H107 : Holds (([.bx bp0 69 [vp0_0, .int .i64 p0_1]] : List Res).flatMap Res.own) w w105 [.sl 3 (.int .i64) vj54 (List.set j54 (Int.toNat 1) (IntKind.wrap .i64 (-x89))), .bx bp0 69 [vp0_0, .int .i64 x79.1]] G := H106
          refine WL_nil_seq ?_
          obtain ⟨x108, hx109, ho87⟩ := bind_some ho87
          obtain ⟨x117, hx118, ho87⟩ := bind_some ho87
          obtain ⟨x122, hx123, ho87⟩ := bind_some ho87
          refine WP_mid (Mid := fun a w2 => ∃ vz107_0, Fr a 67 [(0, .pointer (some ⟨bp0, 0, none⟩)), (1, .int .i64 p1), (5, vz107_0)] ∧ Holds (([.bx bp0 69 [vp0_0, .int .i64 p0_1]] : List Res).flatMap Res.own) w w2 [.bx bp0 69 [vp0_0, .int .i64 x79.1], .sl 3 (.int .i64) vz107_0 (List.set (List.set j54 (Int.toNat 1) (IntKind.wrap .i64 (-x89))) (Int.toNat 2) (IntKind.wrap .i64 (x108 - x117)))] G) ?_ ?_
          · refine WP_orders (by kernel_rfl) (fun w308 hb309 => ?_)
            have H310 : Holds (([.bx bp0 69 [vp0_0, .int .i64 p0_1]] : List Res).flatMap Res.own) w w308 [.sl 3 (.int .i64) vj54 (List.set j54 (Int.toNat 1) (IntKind.wrap .i64 (-x89))), .bx bp0 69 [vp0_0, .int .i64 x79.1]] G := H107.grow hb309
            refine XB_take (i := 0) rfl (by kernel_rfl) (by kernel_rfl) (by kernel_rfl) rfl (fun _ => qt_move rfl) rfl rfl ?_
            refine XB_take (i := 1) rfl (by kernel_rfl) (by kernel_rfl) (by kernel_rfl) rfl (fun _ => qt_move rfl) rfl rfl ?_
            refine XB_indexH (i := 2) rfl (by kernel_rfl) (by kernel_rfl) (by kernel_rfl) H310.ctx (Has.hd) hx109 u23 i3 rfl rfl rfl rfl (fun b311 off312 cap313 hv314 => ?_)
            refine XB_take (i := 4) rfl (by kernel_rfl) (by kernel_rfl) (by kernel_rfl) rfl (fun _ => qt_move rfl) rfl rfl ?_
            refine XB_all [3, 5] (by kernel_rfl) (by simp) (allc ?_ (allc ?_ alln))
            · refine XB_do rfl ?_
              obtain ⟨F315, hat316, hdup317⟩ := H310.at (Has.hd) hx109 hv314
              refine XL_load_int (k := .i64) u3 rfl hat316 rfl rfl rfl ?_
              refine WL_nil fun a ha => ⟨rfl, (?_ : XB _ _ _ _ _ _ _ _) a ha⟩
              refine XB_all [5] (by kernel_rfl) (by simp) (allc ?_ alln)
              · refine XB_do rfl ?_
                refine WL_call rfl rfl c47 (w_spec_l1Sum w308 ([.sl 3 (.int .i64) vj54 (List.set j54 (Int.toNat 1) (IntKind.wrap .i64 (-x89))), .bx bp0 69 [vp0_0, .int .i64 x79.1]] ++ G) vj54 (List.set j54 (Int.toNat 1) (IntKind.wrap .i64 (-x89))) (Has.hd) x117 hx118 H310.ctx) (by rfl) ?_
                rintro _ w318 ⟨rfl, H319⟩; refine ⟨_, rfl, ?_⟩
                have H320 : Holds (([.bx bp0 69 [vp0_0, .int .i64 p0_1]] : List Res).flatMap Res.own) w w318 [.sl 3 (.int .i64) vj54 (List.set j54 (Int.toNat 1) (IntKind.wrap .i64 (-x89))), .bx bp0 69 [vp0_0, .int .i64 x79.1]] G := H310.calledN (Rs := []) H319
                refine WL_nil fun a ha => ⟨rfl, (?_ : XB _ _ _ _ _ _ _ _) a ha⟩
                refine XB_take (i := 6) rfl (by kernel_rfl) (by kernel_rfl) (by kernel_rfl) rfl (fun _ => qt_sub rfl rfl) rfl rfl ?_
                refine XB_indexH (i := 7) rfl (by kernel_rfl) (by kernel_rfl) (by kernel_rfl) H320.ctx (Has.hd) hx123 u23 i3 rfl rfl rfl rfl (fun b321 off322 cap323 hv324 => ?_)
                refine XB_all [8] (by kernel_rfl) (by simp) (allc ?_ alln)
                · refine XB_do rfl ?_
                  refine WL_storeH (fo := 0) (cs' := [.int .i64 (IntKind.wrap .i64 (x108 - x117))]) H320 hx123 hv324 (Upd.whole (Blt.int)) rfl il3 rfl rfl rfl rfl (fun w325 H326 => ?_)
                  have H327 : Holds (([.bx bp0 69 [vp0_0, .int .i64 p0_1]] : List Res).flatMap Res.own) w w325 [.sl 3 (.int .i64) vj54 (List.set (List.set j54 (Int.toNat 1) (IntKind.wrap .i64 (-x89))) (Int.toNat 2) (IntKind.wrap .i64 (x108 - x117))), .bx bp0 69 [vp0_0, .int .i64 x79.1]] G := H326
                  refine WL_nil fun a ha => ⟨rfl, (?_ : XB _ _ _ _ _ _ _ _) a ha⟩
                  refine XB_done (by kernel_rfl) (fun a ha => ?_)
                  have H328 : Holds (([.bx bp0 69 [vp0_0, .int .i64 p0_1]] : List Res).flatMap Res.own) w w325 [.bx bp0 69 [vp0_0, .int .i64 x79.1], .sl 3 (.int .i64) vj54 (List.set (List.set j54 (Int.toNat 1) (IntKind.wrap .i64 (-x89))) (Int.toNat 2) (IntKind.wrap .i64 (x108 - x117)))] G := (H327.pull 1)
                  exact ⟨vj54, ha.sub ⟨rfl, rfl, rfl, trivial⟩, H328⟩
            · refine XB_do rfl ?_
              refine WL_call rfl rfl c47 (w_spec_l1Sum w308 ([.sl 3 (.int .i64) vj54 (List.set j54 (Int.toNat 1) (IntKind.wrap .i64 (-x89))), .bx bp0 69 [vp0_0, .int .i64 x79.1]] ++ G) vj54 (List.set j54 (Int.toNat 1) (IntKind.wrap .i64 (-x89))) (Has.hd) x117 hx118 H310.ctx) (by rfl) ?_
              rintro _ w329 ⟨rfl, H330⟩; refine ⟨_, rfl, ?_⟩
              have H331 : Holds (([.bx bp0 69 [vp0_0, .int .i64 p0_1]] : List Res).flatMap Res.own) w w329 [.sl 3 (.int .i64) vj54 (List.set j54 (Int.toNat 1) (IntKind.wrap .i64 (-x89))), .bx bp0 69 [vp0_0, .int .i64 x79.1]] G := H310.calledN (Rs := []) H330
              refine WL_nil fun a ha => ⟨rfl, (?_ : XB _ _ _ _ _ _ _ _) a ha⟩
              refine XB_all [3] (by kernel_rfl) (by simp) (allc ?_ alln)
              · refine XB_do rfl ?_
                obtain ⟨F332, hat333, hdup334⟩ := H331.at (Has.hd) hx109 hv314
                refine XL_load_int (k := .i64) u3 rfl hat333 rfl rfl rfl ?_
                refine WL_nil fun a ha => ⟨rfl, (?_ : XB _ _ _ _ _ _ _ _) a ha⟩
                refine XB_take (i := 6) rfl (by kernel_rfl) (by kernel_rfl) (by kernel_rfl) rfl (fun _ => qt_sub rfl rfl) rfl rfl ?_
                refine XB_indexH (i := 7) rfl (by kernel_rfl) (by kernel_rfl) (by kernel_rfl) H331.ctx (Has.hd) hx123 u23 i3 rfl rfl rfl rfl (fun b335 off336 cap337 hv338 => ?_)
                refine XB_all [8] (by kernel_rfl) (by simp) (allc ?_ alln)
                · refine XB_do rfl ?_
                  refine WL_storeH (fo := 0) (cs' := [.int .i64 (IntKind.wrap .i64 (x108 - x117))]) H331 hx123 hv338 (Upd.whole (Blt.int)) rfl il3 rfl rfl rfl rfl (fun w339 H340 => ?_)
                  have H341 : Holds (([.bx bp0 69 [vp0_0, .int .i64 p0_1]] : List Res).flatMap Res.own) w w339 [.sl 3 (.int .i64) vj54 (List.set (List.set j54 (Int.toNat 1) (IntKind.wrap .i64 (-x89))) (Int.toNat 2) (IntKind.wrap .i64 (x108 - x117))), .bx bp0 69 [vp0_0, .int .i64 x79.1]] G := H340
                  refine WL_nil fun a ha => ⟨rfl, (?_ : XB _ _ _ _ _ _ _ _) a ha⟩
                  refine XB_done (by kernel_rfl) (fun a ha => ?_)
                  have H342 : Holds (([.bx bp0 69 [vp0_0, .int .i64 p0_1]] : List Res).flatMap Res.own) w w339 [.bx bp0 69 [vp0_0, .int .i64 x79.1], .sl 3 (.int .i64) vj54 (List.set (List.set j54 (Int.toNat 1) (IntKind.wrap .i64 (-x89))) (Int.toNat 2) (IntKind.wrap .i64 (x108 - x117)))] G := (H341.pull 1)
                  exact ⟨vj54, ha.sub ⟨rfl, rfl, rfl, trivial⟩, H342⟩
          · intro a w343 hI344
            obtain ⟨vz107_0, ha, H345⟩ := hI344
            obtain rfl := Option.some.inj ho87
            have H346 : Holds (([.bx bp0 69 [vp0_0, .int .i64 p0_1]] : List Res).flatMap Res.own) w w343 [.bx bp0 69 [vp0_0, .int .i64 x79.1], .sl 3 (.int .i64) vz107_0 (List.set (List.set j54 (Int.toNat 1) (IntKind.wrap .i64 (-x89))) (Int.toNat 2) (IntKind.wrap .i64 (x108 - x117)))] G := ((H345.pull 1).pull 1)
            exact nrm_seq (⟨vz107_0, ha.sub ⟨rfl, rfl, rfl, trivial⟩, H346⟩)
        · have ho87 := if_f hc88 ho87
          refine WP_skip fun a ha => ?_
          obtain rfl := Option.some.inj ho87
          have H347 : Holds (([.bx bp0 69 [vp0_0, .int .i64 p0_1]] : List Res).flatMap Res.own) w w81 [.bx bp0 69 [vp0_0, .int .i64 x79.1], .sl 3 (.int .i64) vj54 j54] G := ((H83.pull 1).pull 1)
          exact nrm_seq (⟨vj54, ha.sub ⟨rfl, rfl, rfl, trivial⟩, H347⟩)
      · intro a w348 hI349
        obtain ⟨vj54, ha, H350⟩ := hI349
        refine WP.app ?_ ha
        clear ha
        refine WP_seq ?_
        refine WP_seq ?_
        refine WP_region ?_
        refine XL_q rfl (qt_move rfl) rfl rfl ?_
        refine XL_q rfl (qt_move rfl) rfl rfl ?_
        obtain ⟨x351, hx352, h⟩ := bind_some h
        refine WL_call rfl rfl c66 (w_spec_l20Rd__odd w348 ([.sl 3 (.int .i64) vj54 j85] ++ G) bp0 vp0_0 p0_0 (hp0_0.c) x79.1 p1 x351 hx352 H350.ctx) (by rfl) ?_
        rintro _ w353 ⟨rfl, H354⟩; refine ⟨_, rfl, ?_⟩
        have H355 : Holds (([.bx bp0 69 [vp0_0, .int .i64 p0_1]] : List Res).flatMap Res.own) w w353 [.bx bp0 69 [vp0_0, .int .i64 x351.1], .sl 3 (.int .i64) vj54 j85] G := H350.calledN (Rs := [_]) H354
        refine WL_nil_seq ?_
        refine WP_cond rfl (fun hc356 => ?_) (fun hc356 => ?_)
        · have h := if_t hc356 h
          refine WP_seq ?_
          refine WP_region ?_
          refine XL_q rfl (qt_move rfl) rfl rfl ?_
          refine WL_buildH (t := (.int .i64)) (args := [.const (.int .i64 1), .const (.int .i64 10000), .const (.int .i64 (-3))]) (xs := ([1, 10000, (-3)] : List Int)) H355 (BltL.cons (Blt.int) rfl (BltL.cons (Blt.int) rfl (BltL.cons (Blt.int) rfl (BltL.nil)))) u23 j3 rfl rfl rfl rfl rfl rfl (fun v357 w358 H359 => ?_)
          have H360 : Holds (([.bx bp0 69 [vp0_0, .int .i64 p0_1]] : List Res).flatMap Res.own) w w358 [.sl 3 (.int .i64) v357 ([1, 10000, (-3)]), .bx bp0 69 [vp0_0, .int .i64 x351.1], .sl 3 (.int .i64) vj54 j85] G := H359
          refine XL_q rfl (qt_move rfl) rfl rfl ?_
          have H363 : Holds (([.bx bp0 69 [vp0_0, .int .i64 p0_1]] : List Res).flatMap Res.own) w w358 [.bx bp0 69 [vp0_0, .int .i64 x351.1], .sl 3 (.int .i64) v357 ([1, 10000, (-3)]), .sl 3 (.int .i64) vj54 j85] G := H360.pull 1
          obtain ⟨x361, hx362, h⟩ := bind_some h
          refine WL_call rfl rfl c65 (w_spec_l20Rd__pick w358 ([.sl 3 (.int .i64) v357 ([1, 10000, (-3)]), .sl 3 (.int .i64) vj54 j85] ++ G) bp0 vp0_0 p0_0 (hp0_0.c.c) x351.1 3 x361 hx362 H363.ctx) (by rfl) ?_
          rintro _ w364 ⟨rfl, H365⟩; refine ⟨_, rfl, ?_⟩
          have H366 : Holds (([.bx bp0 69 [vp0_0, .int .i64 p0_1]] : List Res).flatMap Res.own) w w364 [.bx bp0 69 [vp0_0, .int .i64 x361.1], .sl 3 (.int .i64) v357 ([1, 10000, (-3)]), .sl 3 (.int .i64) vj54 j85] G := H363.calledN (Rs := [_]) H365
          obtain ⟨x367, hx368, h⟩ := bind_some h
          refine XL_indexH H366.ctx (Has.c (Has.hd)) hx368 u23 i3 rfl rfl rfl rfl (fun b369 off370 cap371 hv372 => ?_)
          obtain ⟨F373, hat374, hdup375⟩ := H366.at (Has.c (Has.hd)) hx368 hv372
          refine XL_load_int (k := .i64) u3 rfl hat374 rfl rfl rfl ?_
          refine WL_buildH (t := (.int .i64)) (args := [.tmp 63]) (xs := ([x367] : List Int)) H366 (BltL.cons (Blt.int) rfl (BltL.nil)) u23 j3 rfl rfl rfl rfl rfl rfl (fun v376 w377 H378 => ?_)
          have H379 : Holds (([.bx bp0 69 [vp0_0, .int .i64 p0_1]] : List Res).flatMap Res.own) w w377 [.sl 3 (.int .i64) v376 ([x367]), .bx bp0 69 [vp0_0, .int .i64 x361.1], .sl 3 (.int .i64) v357 ([1, 10000, (-3)]), .sl 3 (.int .i64) vj54 j85] G := H378
          have H380 : Holds (([.bx bp0 69 [vp0_0, .int .i64 p0_1]] : List Res).flatMap Res.own) w w377 [.sl 3 (.int .i64) vj54 j85, .sl 3 (.int .i64) v376 ([x367]), .bx bp0 69 [vp0_0, .int .i64 x361.1], .sl 3 (.int .i64) v357 ([1, 10000, (-3)])] G := H379.pull 3
          obtain ⟨x381, hx382, h⟩ := bind_some h
          refine WL_appendH H380 (Has.c (Has.hd)) hx382 u23 j3 rfl rfl rfl rfl rfl rfl (fun v383 w384 H385 => ?_)
          have H386 : Holds (([.bx bp0 69 [vp0_0, .int .i64 p0_1]] : List Res).flatMap Res.own) w w384 [.sl 3 (.int .i64) v383 x381, .sl 3 (.int .i64) v376 ([x367]), .bx bp0 69 [vp0_0, .int .i64 x361.1], .sl 3 (.int .i64) v357 ([1, 10000, (-3)])] G := H385
          refine XL_q rfl (qt_assign rfl) rfl rfl ?_
          refine WL_nil_seq ?_
          refine WP_ret fun a ha => ?_
          obtain rfl := Option.some.inj h
          have H387 : Holds (([.bx bp0 69 [vp0_0, .int .i64 p0_1]] : List Res).flatMap Res.own) w w384 [.sl 3 (.int .i64) v383 x381, .bx bp0 69 [vp0_0, .int .i64 x361.1]] G := ((((H386.cut 1).cut 2).pull 1).pull 1)
          exact ret_seq (ret1 rfl ha rfl ⟨v383, rfl, H387⟩)
        · have h := if_f hc356 h
          refine WP_skip_seq ?_
          refine WP_seq ?_
          refine WP_region ?_
          refine XL_q rfl (qt_move rfl) rfl rfl ?_
          refine XL_q rfl (qt_assign rfl) rfl rfl ?_
          refine WL_nil_seq ?_
          refine WP_ret fun a ha => ?_
          obtain rfl := Option.some.inj h
          have H388 : Holds (([.bx bp0 69 [vp0_0, .int .i64 p0_1]] : List Res).flatMap Res.own) w w353 [.sl 3 (.int .i64) vj54 j85, .bx bp0 69 [vp0_0, .int .i64 x351.1]] G := (H355.pull 1)
          exact ret1 rfl ha rfl ⟨vj54, rfl, H388⟩
theorem w_spec_DrawOwedValid (w : World) (G : List Res) (vp0 : Value) (p0 : List Int) (hp0 : HasRo G (.int .u8) vp0 p0) (r : (List Int)) (h : spec_DrawOwedValidS p0 = some r) (H : Ctx w G) : Calls Tryd.prog 12 #[vp0] w fun e w' => ∃ (v1 : Value), e = .returned (v1) ∧ Holds (([] : List Res).flatMap Res.own) w w' [.sl 3 (.int .i64) v1 r] G := by
  have H : Holds (([] : List Res).flatMap Res.own) w w [] G := Holds.startN H
  refine calls_enter (args := [vp0]) (n := 6) Tryd.func12 rfl rfl rfl ?_
  unfold spec_DrawOwedValidS at h
  refine WP_seq ?_
  refine WP_region ?_
  refine XL_q rfl (qt_assign rfl) rfl rfl ?_
  refine WL_nil_seq ?_
  refine WP_seq ?_
  refine WP_region ?_
  refine XL_q rfl (qt_move rfl) rfl rfl ?_
  obtain ⟨x1, hx2, h⟩ := bind_some h
  refine WL_call rfl rfl c44 (w_spec_l20Open w G vp0 p0 (hp0) x1 hx2 H.ctx) (by rfl) ?_
  rintro _ w3 ⟨v5, b6, rfl, H4⟩; refine ⟨_, rfl, ?_⟩
  have H7 : Holds (([] : List Res).flatMap Res.own) w w3 [.ro (.int .u8) v5 x1.1, .bx b6 69 [v5, .int .i64 x1.2]] G := H.calledN (Rs := []) H4
  have H10 : Holds (([] : List Res).flatMap Res.own) w w3 [.bx b6 69 [v5, .int .i64 x1.2], .ro (.int .u8) v5 x1.1] G := H7.pull 1
  obtain ⟨x8, hx9, h⟩ := bind_some h
  refine WL_call rfl rfl c43 (w_spec_l20Owed w3 ([.ro (.int .u8) v5 x1.1] ++ G) b6 v5 x1.1 (HasRo.has (HasRo.hd)) x1.2 2 x8 hx9 H10.ctx) (by rfl) ?_
  rintro _ w11 ⟨v13, rfl, H12⟩; refine ⟨_, rfl, ?_⟩
  have H14 : Holds (([] : List Res).flatMap Res.own) w w11 [.sl 3 (.int .i64) v13 x8.2, .bx b6 69 [v5, .int .i64 x8.1], .ro (.int .u8) v5 x1.1] G := H10.calledN (Rs := [_]) H12
  refine XL_q rfl (qt_assign rfl) rfl rfl ?_
  refine WL_nil_seq ?_
  refine WP_ret fun a ha => ?_
  obtain rfl := Option.some.inj h
  have H15 : Holds (([] : List Res).flatMap Res.own) w w11 [.sl 3 (.int .i64) v13 x8.2] G := ((H14.cut 1).cut 1)
  exact ret1 rfl ha rfl ⟨v13, rfl, H15⟩
theorem w_impl_sumOf (w : World) (G : List Res) (vp0 : Value) (p0 : List Int) (hp0 : Has G (.int .i64) vp0 p0) (r : Int) (h : impl_sumOfS p0 = some r) (H : Ctx w G) : Calls Tryd.prog 45 #[vp0] w fun e w' => e = .returned (.int .i64 r) ∧ Holds (([] : List Res).flatMap Res.own) w w' [] G := by
  have H : Holds (([] : List Res).flatMap Res.own) w w [] G := Holds.startN H
  refine calls_enter (args := [vp0]) (n := 17) Tryd.func45 rfl rfl rfl ?_
  unfold impl_sumOfS at h
  refine WP_seq ?_
  refine WP_region ?_
  refine XL_q rfl (qt_assign rfl) rfl rfl ?_
  refine WL_nil_seq ?_
  refine WP_seq ?_
  refine WP_region ?_
  refine XL_q rfl (qt_assign rfl) rfl rfl ?_
  refine WL_nil_seq ?_
  refine WP_seq ?_
  refine WP_seq ?_
  refine WP_region ?_
  refine XL_q rfl (qt_move rfl) rfl rfl ?_
  refine XL_lenH H.ctx (t := (.int .i64)) (hp0) u23 rfl rfl rfl ?_
  refine XL_q rfl (qt_move rfl) rfl rfl ?_
  refine WL_nil_seq ?_
  refine WP_block ?_
  obtain ⟨o3, ho4, h⟩ := bind_some h
  refine fun a5 ha6 => wp_loop_fix (I := fun s a w2 => match s with | (s1, s2) => (Fr a 17 [(3, .int .i64 s1), (6, vp0), (7, .int .i64 (List.length p0 : Int)), (8, .int .i64 s2)] ∧ Holds (([] : List Res).flatMap Res.own) w w2 [] G)) (O := fun o e a w2 => match o with | q0 => e = .exit 0 ∧ (Fr a 17 [(3, .int .i64 q0)] ∧ Holds (([] : List Res).flatMap Res.own) w w2 [] G)) ho4 ?_ ?_ ?_
  · exact ⟨ha6.sub ⟨rfl, rfl, rfl, rfl, trivial⟩, H⟩
  · clear ha6
    intro s o9 a w7 hs8 hI10
    obtain ⟨s1, s2⟩ := s
    obtain ⟨ha, H11⟩ := hI10
    refine WP.app ?_ ha
    clear ha
    refine WP_seq ?_
    refine WP_region ?_
    refine XL_q rfl (qt_lss rfl rfl) rfl rfl ?_
    refine WL_nil_seq ?_
    refine WP_seq ?_
    refine WP_cond rfl (fun hc12 => ?_) (fun hc12 => ?_)
    · have hs8 := if_t hc12 hs8
      refine WP_skip_seq ?_
      refine WP_seq ?_
      refine WP_block ?_
      refine WP_seq ?_
      refine WP_region ?_
      obtain ⟨x13, hx14, hs8⟩ := bind_some hs8
      refine XL_indexH H11.ctx (hp0) hx14 u23 i3 rfl rfl rfl rfl (fun b15 off16 cap17 hv18 => ?_)
      obtain ⟨F19, hat20, hdup21⟩ := H11.at (hp0) hx14 hv18
      refine XL_load_int (k := .i64) u3 rfl hat20 rfl rfl rfl ?_
      refine XL_q rfl (qt_assign rfl) rfl rfl ?_
      refine WL_nil_seq ?_
      refine WP_region ?_
      refine XL_q rfl (qt_move rfl) rfl rfl ?_
      refine XL_q rfl (qt_move rfl) rfl rfl ?_
      refine XL_q rfl (qt_add rfl rfl) rfl rfl ?_
      refine XL_q rfl (qt_assign rfl) rfl rfl ?_
      refine WL_nil fun a ha => ?_
      refine nrm_block (nrm_seq (WP.app ?_ ha))
      refine WP_region ?_
      refine XL_q rfl (qt_add rfl rfl) rfl rfl ?_
      refine XL_q rfl (qt_move rfl) rfl rfl ?_
      refine WL_nil fun a ha => ?_
      obtain rfl := Option.some.inj hs8
      exact ⟨rfl, ha.sub ⟨rfl, rfl, rfl, rfl, trivial⟩, H11⟩
    · have hs8 := if_f hc12 hs8
      refine WP_exit fun a ha => ?_
      obtain rfl := Option.some.inj hs8
      exact exit_seq (⟨exit_ne, rfl, ha.sub ⟨rfl, trivial⟩, H11⟩)
  · intro e a5 w22 hO23
    obtain ⟨p24, rfl⟩ : ∃ z, z = o3 := ⟨o3, rfl⟩
    obtain ⟨rfl, hO26⟩ := hO23
    obtain ⟨ha, H25⟩ := hO26
    refine exit_block_eq (nrm_seq (WP.app ?_ ha))
    refine WP_seq ?_
    refine WP_region ?_
    refine XL_q rfl (qt_move rfl) rfl rfl ?_
    refine XL_q rfl (qt_assign rfl) rfl rfl ?_
    refine WL_nil_seq ?_
    refine WP_ret fun a ha => ?_
    obtain rfl := Option.some.inj h
    exact ret1 rfl ha rfl ⟨rfl, H25⟩
theorem w_impl_OwedValid (w : World) (G : List Res) (vp0 : Value) (p0 : List Int) (hp0 : Has G (.int .i64) vp0 p0) (r : Bool) (h : impl_OwedValidS p0 = some r) (H : Ctx w G) : Calls Tryd.prog 13 #[vp0] w fun e w' => e = .returned (.bool r) ∧ Holds (([] : List Res).flatMap Res.own) w w' [] G := by
  have H : Holds (([] : List Res).flatMap Res.own) w w [] G := Holds.startN H
  refine calls_enter (args := [vp0]) (n := 24) Tryd.func13 rfl rfl rfl ?_
  unfold impl_OwedValidS at h
  refine WP_seq ?_
  refine WP_region ?_
  refine XL_q rfl (qt_assign rfl) rfl rfl ?_
  refine WL_nil_seq ?_
  refine WP_seq ?_
  refine WP_seq ?_
  refine WP_region ?_
  refine XL_q rfl (qt_move rfl) rfl rfl ?_
  refine XL_lenH H.ctx (t := (.int .i64)) (hp0) u23 rfl rfl rfl ?_
  refine XL_q rfl (qt_gtr rfl rfl) rfl rfl ?_
  refine WL_nil_seq ?_
  refine WP_cond rfl (fun hc1 => ?_) (fun hc1 => ?_)
  · have h := if_t hc1 h
    refine WP_seq ?_
    refine WP_region ?_
    refine XL_q rfl (qt_assign rfl) rfl rfl ?_
    refine WL_nil_seq ?_
    refine WP_ret fun a ha => ?_
    obtain rfl := Option.some.inj h
    exact ret_seq (ret1 rfl ha rfl ⟨rfl, H⟩)
  · have h := if_f hc1 h
    refine WP_skip_seq ?_
    refine WP_seq ?_
    refine WP_seq ?_
    refine WP_region ?_
    refine XL_q rfl (qt_move rfl) rfl rfl ?_
    refine XL_lenH H.ctx (t := (.int .i64)) (hp0) u23 rfl rfl rfl ?_
    refine XL_q rfl (qt_move rfl) rfl rfl ?_
    refine WL_nil_seq ?_
    refine WP_block ?_
    obtain ⟨o3, ho4, h⟩ := bind_some h
    refine fun a5 ha6 => wp_loop_fix (I := fun s a w2 => match s with | s2 => (Fr a 24 [(0, vp0), (8, vp0), (9, .int .i64 (List.length p0 : Int)), (10, .int .i64 s2)] ∧ Holds (([] : List Res).flatMap Res.own) w w2 [] G)) (O := fun o e a w2 => match o with | .inl _ => e = .exit 0 ∧ (Fr a 24 [(0, vp0)] ∧ Holds (([] : List Res).flatMap Res.own) w w2 [] G) | .inr q0 => e = .ret ∧ (Fr a 24 [(2, .bool q0)] ∧ Holds (([] : List Res).flatMap Res.own) w w2 [] G)) ho4 ?_ ?_ ?_
    · exact ⟨ha6.sub ⟨rfl, rfl, rfl, rfl, trivial⟩, H⟩
    · clear ha6
      intro s o9 a w7 hs8 hI10
      obtain ⟨s2, rfl⟩ : ∃ z, z = s := ⟨s, rfl⟩
      obtain ⟨ha, H11⟩ := hI10
      refine WP.app ?_ ha
      clear ha
      refine WP_seq ?_
      refine WP_region ?_
      refine XL_q rfl (qt_lss rfl rfl) rfl rfl ?_
      refine WL_nil_seq ?_
      refine WP_seq ?_
      refine WP_cond rfl (fun hc12 => ?_) (fun hc12 => ?_)
      · have hs8 := if_t hc12 hs8
        refine WP_skip_seq ?_
        refine WP_seq ?_
        refine WP_block ?_
        refine WP_seq ?_
        refine WP_region ?_
        obtain ⟨x13, hx14, hs8⟩ := bind_some hs8
        refine XL_indexH H11.ctx (hp0) hx14 u23 i3 rfl rfl rfl rfl (fun b15 off16 cap17 hv18 => ?_)
        obtain ⟨F19, hat20, hdup21⟩ := H11.at (hp0) hx14 hv18
        refine XL_load_int (k := .i64) u3 rfl hat20 rfl rfl rfl ?_
        refine XL_q rfl (qt_assign rfl) rfl rfl ?_
        refine WL_nil_seq ?_
        refine WP_seq ?_
        refine WP_region ?_
        refine XL_q rfl (qt_move rfl) rfl rfl ?_
        refine XL_q rfl (qt_lss rfl rfl) rfl rfl ?_
        refine XL_q rfl (qt_move rfl) rfl rfl ?_
        refine XL_join 3 19 (.bool ((decide (x13 < (-9999))) || (decide (x13 > 9999)))) ?_ (fun md hmd hk => ?_)
        rotate_left
        · obtain ⟨Q, rfl⟩ := Md.seq_of hmd
          rcases btf (decide (x13 < (-9999))) with hc22 | hc22
          · skip
            refine XL_skip (w_skip rfl hc22) rfl rfl ?_
            refine XL_skip (w_skip rfl hc22) rfl rfl ?_
            refine XL_q rfl (qt_pickT rfl hc22 rfl) rfl rfl ?_
            exact hk _ (Cov.same (by rw [hc22]; rfl) (Cov.fresh rfl (Cov.fresh rfl (Cov.refl))))
          · skip
            refine XL_q (w_take rfl hc22) (qt_move rfl) rfl rfl ?_
            refine XL_q (w_take rfl hc22) (qt_gtr rfl rfl) rfl rfl ?_
            refine XL_q rfl (qt_pickF rfl hc22 rfl) rfl rfl ?_
            exact hk _ (Cov.same (by rw [hc22]; rfl) (Cov.fresh rfl (Cov.fresh rfl (Cov.refl))))
        refine WL_nil_seq ?_
        refine WP_cond rfl (fun hc23 => ?_) (fun hc23 => ?_)
        · have hs8 := if_t hc23 hs8
          refine WP_seq ?_
          refine WP_region ?_
          refine XL_q rfl (qt_assign rfl) rfl rfl ?_
          refine WL_nil_seq ?_
          refine WP_ret fun a ha => ?_
          obtain rfl := Option.some.inj hs8
          exact ret_block (ret_seq (⟨ret_ne, rfl, ha.sub ⟨rfl, trivial⟩, H11⟩))
        · have hs8 := if_f hc23 hs8
          refine WP_skip fun a ha => ?_
          refine nrm_block (nrm_seq (WP.app ?_ ha))
          refine WP_region ?_
          refine XL_q rfl (qt_add rfl rfl) rfl rfl ?_
          refine XL_q rfl (qt_move rfl) rfl rfl ?_
          refine WL_nil fun a ha => ?_
          obtain rfl := Option.some.inj hs8
          exact ⟨rfl, ha.sub ⟨rfl, rfl, rfl, rfl, trivial⟩, H11⟩
      · have hs8 := if_f hc12 hs8
        refine WP_exit fun a ha => ?_
        obtain rfl := Option.some.inj hs8
        exact exit_seq (⟨exit_ne, rfl, ha.sub ⟨rfl, trivial⟩, H11⟩)
    · intro e a5 w24 hO25
      rcases o3 with o3 | o3
      · skip
        obtain ⟨rfl, hO27⟩ := hO25
        obtain ⟨ha, H26⟩ := hO27
        refine exit_block_eq (nrm_seq (WP.app ?_ ha))
        refine WP_seq ?_
        refine WP_still ?_
        refine XL_q rfl (qt_move rfl) rfl rfl ?_
        obtain ⟨x28, hx29, h⟩ := bind_some h
        refine QL_call rfl rfl c45 (fun w' hb => (w_impl_sumOf w' G vp0 p0 (hp0) x28 hx29 (H26.grow hb).ctx).mono fun e w'' hK => ⟨hK.1, hK.2.bel⟩) (by rfl) ?_
        refine XL_q rfl (qt_eql rfl rfl) rfl rfl ?_
        refine XL_q rfl (qt_assign rfl) rfl rfl ?_
        refine QL_nil fun a ha w30 hb31 => ?_
        have H32 : Holds (([] : List Res).flatMap Res.own) w w30 [] G := H26.grow hb31
        refine nrm_seq (WP.app ?_ ha)
        refine WP_ret fun a ha => ?_
        obtain rfl := Option.some.inj h
        exact ret1 rfl ha rfl ⟨rfl, H32⟩
      · skip
        obtain ⟨p33, rfl⟩ : ∃ z, z = o3 := ⟨o3, rfl⟩
        obtain ⟨rfl, hO35⟩ := hO25
        obtain ⟨ha, H34⟩ := hO35
        obtain rfl := Option.some.inj h
        exact ret_block (ret_seq (ret1 rfl ha rfl ⟨rfl, H34⟩))
theorem w_spec_l1In (w : World) (G : List Res) (p0 : Int) (p1 : Int) (p2 : Int) (r : Bool) (h : spec_l1InS p0 p1 p2 = some r) (H : Ctx w G) : Calls Tryd.prog 46 #[.int .i64 p0, .int .i64 p1, .int .i64 p2] w fun e w' => e = .returned (.bool r) ∧ Holds (([] : List Res).flatMap Res.own) w w' [] G := by
  have H : Holds (([] : List Res).flatMap Res.own) w w [] G := Holds.startN H
  refine calls_enter (args := [.int .i64 p0, .int .i64 p1, .int .i64 p2]) (n := 15) Tryd.func46 rfl rfl rfl ?_
  unfold spec_l1InS at h
  refine WP_seq ?_
  refine WP_region ?_
  refine XL_q rfl (qt_assign rfl) rfl rfl ?_
  refine WL_nil_seq ?_
  refine WP_seq ?_
  refine WP_region ?_
  refine XL_q rfl (qt_move rfl) rfl rfl ?_
  refine XL_q rfl (qt_move rfl) rfl rfl ?_
  refine XL_q rfl (qt_geq rfl rfl) rfl rfl ?_
  refine XL_q rfl (qt_move rfl) rfl rfl ?_
  refine XL_join 4 14 (.bool ((decide (p0 ≥ p1)) && (decide (p0 ≤ p2)))) ?_ (fun md hmd hk => ?_)
  rotate_left
  · obtain ⟨Q, rfl⟩ := Md.seq_of hmd
    rcases btf (decide (p0 ≥ p1)) with hc1 | hc1
    · skip
      refine XL_q (w_take rfl hc1) (qt_move rfl) rfl rfl ?_
      refine XL_q (w_take rfl hc1) (qt_move rfl) rfl rfl ?_
      refine XL_q (w_take rfl hc1) (qt_leq rfl rfl) rfl rfl ?_
      refine XL_q rfl (qt_pickT rfl hc1 rfl) rfl rfl ?_
      exact hk _ (Cov.same (by rw [hc1]; rfl) (Cov.fresh rfl (Cov.fresh rfl (Cov.fresh rfl (Cov.refl)))))
    · skip
      refine XL_skip (w_skip rfl hc1) rfl rfl ?_
      refine XL_skip (w_skip rfl hc1) rfl rfl ?_
      refine XL_skip (w_skip rfl hc1) rfl rfl ?_
      refine XL_q rfl (qt_pickF rfl hc1 rfl) rfl rfl ?_
      exact hk _ (Cov.same (by rw [hc1]; rfl) (Cov.fresh rfl (Cov.fresh rfl (Cov.fresh rfl (Cov.refl)))))
  refine XL_q rfl (qt_assign rfl) rfl rfl ?_
  refine WL_nil_seq ?_
  refine WP_ret fun a ha => ?_
  obtain rfl := Option.some.inj h
  exact ret1 rfl ha rfl ⟨rfl, H⟩
theorem w_spec_OwedValid (w : World) (G : List Res) (vp0 : Value) (p0 : List Int) (hp0 : Has G (.int .i64) vp0 p0) (r : Bool) (h : spec_OwedValidS p0 = some r) (H : Ctx w G) : Calls Tryd.prog 14 #[vp0] w fun e w' => e = .returned (.bool r) ∧ Holds (([] : List Res).flatMap Res.own) w w' [] G := by
  have H : Holds (([] : List Res).flatMap Res.own) w w [] G := Holds.startN H
  refine calls_enter (args := [vp0]) (n := 24) Tryd.func14 rfl rfl rfl ?_
  unfold spec_OwedValidS at h
  refine WP_seq ?_
  refine WP_region ?_
  refine XL_q rfl (qt_assign rfl) rfl rfl ?_
  refine WL_nil_seq ?_
  refine WP_seq ?_
  refine WP_seq ?_
  refine WP_region ?_
  refine XL_q rfl (qt_assign rfl) rfl rfl ?_
  refine WL_nil_seq ?_
  refine WP_block ?_
  obtain ⟨o2, ho3, h⟩ := bind_some h
  refine fun a4 ha5 => wp_loop_fix (I := fun s a w2 => match s with | s1 => (Fr a 24 [(0, vp0), (3, .int .i64 s1)] ∧ Holds (([] : List Res).flatMap Res.own) w w2 [] G)) (O := fun o e a w2 => match o with | .inl _ => e = .exit 0 ∧ (Fr a 24 [(0, vp0)] ∧ Holds (([] : List Res).flatMap Res.own) w w2 [] G) | .inr q0 => e = .ret ∧ (Fr a 24 [(2, .bool q0)] ∧ Holds (([] : List Res).flatMap Res.own) w w2 [] G)) ho3 ?_ ?_ ?_
  · exact ⟨ha5.sub ⟨rfl, rfl, trivial⟩, H⟩
  · clear ha5
    intro s o8 a w6 hs7 hI9
    obtain ⟨s1, rfl⟩ : ∃ z, z = s := ⟨s, rfl⟩
    obtain ⟨ha, H10⟩ := hI9
    refine WP.app ?_ ha
    clear ha
    refine WP_seq ?_
    refine WP_seq ?_
    refine WP_region ?_
    refine XL_q rfl (qt_move rfl) rfl rfl ?_
    refine XL_q rfl (qt_move rfl) rfl rfl ?_
    refine XL_lenH H10.ctx (t := (.int .i64)) (hp0) u23 rfl rfl rfl ?_
    refine XL_q rfl (qt_lss rfl rfl) rfl rfl ?_
    refine WL_nil_seq ?_
    refine WP_cond rfl (fun hc11 => ?_) (fun hc11 => ?_)
    · have hs7 := if_t hc11 hs7
      refine WP_skip_seq ?_
      refine WP_seq ?_
      refine WP_block ?_
      refine WP_seq ?_
      refine WP_still ?_
      refine XL_q rfl (qt_move rfl) rfl rfl ?_
      refine XL_q rfl (qt_move rfl) rfl rfl ?_
      obtain ⟨x12, hx13, hs7⟩ := bind_some hs7
      refine XL_indexH H10.ctx (hp0) hx13 u23 i3 rfl rfl rfl rfl (fun b14 off15 cap16 hv17 => ?_)
      obtain ⟨F18, hat19, hdup20⟩ := H10.at (hp0) hx13 hv17
      refine XL_load_int (k := .i64) u3 rfl hat19 rfl rfl rfl ?_
      obtain ⟨x21, hx22, hs7⟩ := bind_some hs7
      refine QL_call rfl rfl c46 (fun w' hb => (w_spec_l1In w' G x12 (-9999) 9999 x21 hx22 (H10.grow hb).ctx).mono fun e w'' hK => ⟨hK.1, hK.2.bel⟩) (by rfl) ?_
      refine XL_q rfl (qt_not rfl) rfl rfl ?_
      refine QL_nil fun a ha w23 hb24 => ?_
      have H25 : Holds (([] : List Res).flatMap Res.own) w w23 [] G := H10.grow hb24
      refine nrm_seq (WP.app ?_ ha)
      refine WP_cond rfl (fun hc26 => ?_) (fun hc26 => ?_)
      · have hs7 := if_t hc26 hs7
        refine WP_seq ?_
        refine WP_region ?_
        refine XL_q rfl (qt_assign rfl) rfl rfl ?_
        refine WL_nil_seq ?_
        refine WP_ret fun a ha => ?_
        obtain rfl := Option.some.inj hs7
        exact ret_block (ret_seq (⟨ret_ne, rfl, ha.sub ⟨rfl, trivial⟩, H25⟩))
      · have hs7 := if_f hc26 hs7
        refine WP_skip fun a ha => ?_
        refine nrm_block (nrm_seq (WP.app ?_ ha))
        refine WP_region ?_
        refine XL_q rfl (qt_move rfl) rfl rfl ?_
        refine XL_q rfl (qt_add rfl rfl) rfl rfl ?_
        refine XL_q rfl (qt_assign rfl) rfl rfl ?_
        refine WL_nil fun a ha => ?_
        obtain rfl := Option.some.inj hs7
        exact ⟨rfl, ha.sub ⟨rfl, rfl, trivial⟩, H25⟩
    · have hs7 := if_f hc11 hs7
      refine WP_exit fun a ha => ?_
      obtain rfl := Option.some.inj hs7
      exact exit_seq (⟨exit_ne, rfl, ha.sub ⟨rfl, trivial⟩, H10⟩)
  · intro e a4 w27 hO28
    rcases o2 with o2 | o2
    · skip
      obtain ⟨rfl, hO30⟩ := hO28
      obtain ⟨ha, H29⟩ := hO30
      refine exit_block_eq (nrm_seq (WP.app ?_ ha))
      refine WP_seq ?_
      refine WP_still ?_
      refine XL_q rfl (qt_move rfl) rfl rfl ?_
      refine XL_lenH H29.ctx (t := (.int .i64)) (hp0) u23 rfl rfl rfl ?_
      refine XL_q rfl (qt_leq rfl rfl) rfl rfl ?_
      refine XL_q rfl (qt_move rfl) rfl rfl ?_
      obtain ⟨b31, hg32, h⟩ := bind_some h
      refine XL_join 4 23 (.bool b31) ?_ (fun md hmd hk => ?_)
      rotate_left
      · obtain ⟨K, rfl⟩ := Md.quiet_of hmd
        rcases btf (decide ((List.length p0 : Int) ≤ 7)) with hc33 | hc33
        · skip
          have hg32 := if_t hc33 hg32
          refine XL_q (w_take rfl hc33) (qt_move rfl) rfl rfl ?_
          obtain ⟨x34, hx35, hg32⟩ := bind_some hg32
          refine QL_call (w_take rfl hc33) rfl c47 (fun w' hb => (w_spec_l1Sum w' G vp0 p0 (hp0) x34 hx35 (H29.grow hb).ctx).mono fun e w'' hK => ⟨hK.1, hK.2.bel⟩) (by rfl) ?_
          refine XL_q (w_take rfl hc33) (qt_eql rfl rfl) rfl rfl ?_
          refine XL_q rfl (qt_pickT rfl hc33 rfl) rfl rfl ?_
          exact hk _ (Cov.same (vb hg32) (Cov.fresh rfl (Cov.fresh rfl (Cov.fresh rfl (Cov.refl)))))
        · skip
          refine XL_skip (w_skip rfl hc33) rfl rfl ?_
          refine XL_skip (w_skip rfl hc33) rfl rfl ?_
          refine XL_skip (w_skip rfl hc33) rfl rfl ?_
          refine XL_q rfl (qt_pickF rfl hc33 rfl) rfl rfl ?_
          exact hk _ (Cov.same (vb (if_f hc33 hg32)) (Cov.fresh rfl (Cov.fresh rfl (Cov.fresh rfl (Cov.refl)))))
      refine XL_q rfl (qt_assign rfl) rfl rfl ?_
      refine QL_nil fun a ha w36 hb37 => ?_
      have H38 : Holds (([] : List Res).flatMap Res.own) w w36 [] G := H29.grow hb37
      refine nrm_seq (WP.app ?_ ha)
      refine WP_ret fun a ha => ?_
      obtain rfl := Option.some.inj h
      exact ret1 rfl ha rfl ⟨rfl, H38⟩
    · skip
      obtain ⟨p39, rfl⟩ : ∃ z, z = o2 := ⟨o2, rfl⟩
      obtain ⟨rfl, hO41⟩ := hO28
      obtain ⟨ha, H40⟩ := hO41
      obtain rfl := Option.some.inj h
      exact ret_block (ret_seq (ret1 rfl ha rfl ⟨rfl, H40⟩))
theorem w_laws_FnOwedValid (w : World) (G : List Res) (vp0 : Value) (p0 : List Int) (hp0 : HasRo G (.int .u8) vp0 p0) (r : Bool) (h : laws_FnOwedValidS p0 = some r) (H : Ctx w G) : Calls Tryd.prog 3 #[vp0] w fun e w' => e = .returned (.bool r) ∧ Holds (([] : List Res).flatMap Res.own) w w' [] G := by
  have H : Holds (([] : List Res).flatMap Res.own) w w [] G := Holds.startN H
  refine calls_enter (args := [vp0]) (n := 67) Tryd.func3 rfl rfl rfl ?_
  unfold laws_FnOwedValidS at h
  refine WP_seq ?_
  refine WP_region ?_
  refine XL_q rfl (qt_assign rfl) rfl rfl ?_
  refine WL_nil_seq ?_
  refine WP_seq ?_
  refine WP_seq ?_
  refine WP_region ?_
  refine XL_q rfl (qt_move rfl) rfl rfl ?_
  refine XL_lenH H.ctx (t := (.int .u8)) (hp0.has) u22 rfl rfl rfl ?_
  refine XL_q rfl (qt_gtr rfl rfl) rfl rfl ?_
  refine WL_nil_seq ?_
  refine WP_cond rfl (fun hc1 => ?_) (fun hc1 => ?_)
  · have h := if_t hc1 h
    refine WP_seq ?_
    refine WP_region ?_
    refine XL_q rfl (qt_assign rfl) rfl rfl ?_
    refine WL_nil_seq ?_
    refine WP_ret fun a ha => ?_
    obtain rfl := Option.some.inj h
    exact ret_seq (ret1 rfl ha rfl ⟨rfl, H⟩)
  · have h := if_f hc1 h
    refine WP_skip_seq ?_
    refine WP_seq ?_
    refine WP_region ?_
    refine XL_q rfl (qt_move rfl) rfl rfl ?_
    obtain ⟨x2, hx3, h⟩ := bind_some h
    refine WL_call rfl rfl c12 (w_spec_DrawOwedValid w G vp0 p0 (hp0) x2 hx3 H.ctx) (by rfl) ?_
    rintro _ w4 ⟨v6, rfl, H5⟩; refine ⟨_, rfl, ?_⟩
    have H7 : Holds (([] : List Res).flatMap Res.own) w w4 [.sl 3 (.int .i64) v6 x2] G := H.calledN (Rs := []) H5
    refine XL_q rfl (qt_assign rfl) rfl rfl ?_
    refine WL_nil_seq ?_
    refine WP_seq ?_
    refine WP_still ?_
    refine XL_q rfl (qt_move rfl) rfl rfl ?_
    obtain ⟨x8, hx9, h⟩ := bind_some h
    refine QL_call rfl rfl c13 (fun w' hb => (w_impl_OwedValid w' ([.sl 3 (.int .i64) v6 x2] ++ G) v6 x2 (Has.hd) x8 hx9 (H7.grow hb).ctx).mono fun e w'' hK => ⟨hK.1, hK.2.bel⟩) (by rfl) ?_
    refine XL_q rfl (qt_assign rfl) rfl rfl ?_
    refine QL_nil fun a ha w10 hb11 => ?_
    have H12 : Holds (([] : List Res).flatMap Res.own) w w10 [.sl 3 (.int .i64) v6 x2] G := H7.grow hb11
    refine nrm_seq (WP.app ?_ ha)
    refine WP_seq ?_
    refine WP_seq ?_
    refine WP_still ?_
    refine XL_q rfl (qt_move rfl) rfl rfl ?_
    refine XL_q rfl (qt_move rfl) rfl rfl ?_
    obtain ⟨x13, hx14, h⟩ := bind_some h
    refine QL_call rfl rfl c14 (fun w' hb => (w_spec_OwedValid w' ([.sl 3 (.int .i64) v6 x2] ++ G) v6 x2 (Has.hd) x13 hx14 (H12.grow hb).ctx).mono fun e w'' hK => ⟨hK.1, hK.2.bel⟩) (by rfl) ?_
    refine XL_q rfl (qt_bneq u4 rfl rfl) rfl rfl ?_
    refine QL_nil fun a ha w15 hb16 => ?_
    have H17 : Holds (([] : List Res).flatMap Res.own) w w15 [.sl 3 (.int .i64) v6 x2] G := H12.grow hb16
    refine nrm_seq (WP.app ?_ ha)
    refine WP_cond rfl (fun hc18 => ?_) (fun hc18 => ?_)
    · have h := if_t hc18 h
      refine WP_seq ?_
      refine WP_region ?_
      refine XL_q rfl (qt_assign rfl) rfl rfl ?_
      refine WL_nil_seq ?_
      refine WP_ret fun a ha => ?_
      obtain rfl := Option.some.inj h
      have H19 : Holds (([] : List Res).flatMap Res.own) w w15 [] G := (H17.cut 0)
      exact ret_seq (ret1 rfl ha rfl ⟨rfl, H19⟩)
    · have h := if_f hc18 h
      refine WP_skip_seq ?_
      refine WP_seq ?_
      refine WP_region ?_
      refine WL_buildH (t := (.int .i64)) (args := []) (xs := ([] : List Int)) H17 (BltL.nil) u23 j3 rfl rfl rfl rfl rfl rfl (fun v20 w21 H22 => ?_)
      have H23 : Holds (([] : List Res).flatMap Res.own) w w21 [.sl 3 (.int .i64) v20 ([]), .sl 3 (.int .i64) v6 x2] G := H22
      refine XL_q rfl (qt_assign rfl) rfl rfl ?_
      refine WL_nil_seq ?_
      refine WP_seq ?_
      refine WP_seq ?_
      refine WP_region ?_
      refine XL_q rfl (qt_assign rfl) rfl rfl ?_
      refine WL_nil_seq ?_
      refine WP_block ?_
      obtain ⟨o26, ho27, h⟩ := bind_some h
      have H30 : Holds (([] : List Res).flatMap Res.own) w w21 [.sl 3 (.int .i64) v6 x2, .sl 3 (.int .i64) v20 ([])] G := (H23.pull 1)
      refine fun a28 ha29 => wp_loop_fix (I := fun s a w2 => match s with | (s24, s25) => ∃ vs24, Fr a 67 [(3, v6), (4, .bool x8), (5, vs24), (6, .int .i64 s25)] ∧ Holds (([] : List Res).flatMap Res.own) w w2 [.sl 3 (.int .i64) v6 x2, .sl 3 (.int .i64) vs24 s24] G) (O := fun o e a w2 => match o with | q0 => e = .exit 0 ∧ ∃ vq0, Fr a 67 [(3, v6), (4, .bool x8), (5, vq0)] ∧ Holds (([] : List Res).flatMap Res.own) w w2 [.sl 3 (.int .i64) v6 x2, .sl 3 (.int .i64) vq0 q0] G) ho27 ?_ ?_ ?_
      · exact ⟨v20, ha29.sub ⟨rfl, rfl, rfl, rfl, trivial⟩, H30⟩
      · clear ha29
        intro s o33 a w31 hs32 hI34
        obtain ⟨s24, s25⟩ := s
        obtain ⟨vs24, ha, H35⟩ := hI34
        refine WP.app ?_ ha
        clear ha
        refine WP_seq ?_
        refine WP_seq ?_
        refine WP_region ?_
        refine XL_q rfl (qt_move rfl) rfl rfl ?_
        refine XL_q rfl (qt_move rfl) rfl rfl ?_
        refine XL_lenH H35.ctx (t := (.int .i64)) (Has.hd) u23 rfl rfl rfl ?_
        refine XL_q rfl (qt_lss rfl rfl) rfl rfl ?_
        refine WL_nil_seq ?_
        refine WP_cond rfl (fun hc36 => ?_) (fun hc36 => ?_)
        · have hs32 := if_t hc36 hs32
          refine WP_skip_seq ?_
          refine WP_seq ?_
          refine WP_block ?_
          refine WP_region ?_
          refine XL_q rfl (qt_move rfl) rfl rfl ?_
          refine XL_q rfl (qt_move rfl) rfl rfl ?_
          refine XL_q rfl (qt_move rfl) rfl rfl ?_
          obtain ⟨x37, hx38, hs32⟩ := bind_some hs32
          refine XL_indexH H35.ctx (Has.hd) hx38 u23 i3 rfl rfl rfl rfl (fun b39 off40 cap41 hv42 => ?_)
          obtain ⟨F43, hat44, hdup45⟩ := H35.at (Has.hd) hx38 hv42
          refine XL_load_int (k := .i64) u3 rfl hat44 rfl rfl rfl ?_
          refine XL_q rfl (qt_neg rfl) rfl rfl ?_
          refine WL_buildH (t := (.int .i64)) (args := [.tmp 31]) (xs := ([IntKind.wrap .i64 (-x37)] : List Int)) H35 (BltL.cons (Blt.int) rfl (BltL.nil)) u23 j3 rfl rfl rfl rfl rfl rfl (fun v46 w47 H48 => ?_)
          have H49 : Holds (([] : List Res).flatMap Res.own) w w47 [.sl 3 (.int .i64) v46 ([IntKind.wrap .i64 (-x37)]), .sl 3 (.int .i64) v6 x2, .sl 3 (.int .i64) vs24 s24] G := H48
          have H50 : Holds (([] : List Res).flatMap Res.own) w w47 [.sl 3 (.int .i64) vs24 s24, .sl 3 (.int .i64) v46 ([IntKind.wrap .i64 (-x37)]), .sl 3 (.int .i64) v6 x2] G := H49.pull 2
          obtain ⟨x51, hx52, hs32⟩ := bind_some hs32
          refine WL_appendH H50 (Has.c (Has.hd)) hx52 u23 j3 rfl rfl rfl rfl rfl rfl (fun v53 w54 H55 => ?_)
          have H56 : Holds (([] : List Res).flatMap Res.own) w w54 [.sl 3 (.int .i64) v53 x51, .sl 3 (.int .i64) v46 ([IntKind.wrap .i64 (-x37)]), .sl 3 (.int .i64) v6 x2] G := H55
          refine XL_q rfl (qt_assign rfl) rfl rfl ?_
          refine WL_nil fun a ha => ?_
          refine nrm_block (nrm_seq (WP.app ?_ ha))
          refine WP_region ?_
          refine XL_q rfl (qt_move rfl) rfl rfl ?_
          refine XL_q rfl (qt_add rfl rfl) rfl rfl ?_
          refine XL_q rfl (qt_assign rfl) rfl rfl ?_
          refine WL_nil fun a ha => ?_
          obtain rfl := Option.some.inj hs32
          have H57 : Holds (([] : List Res).flatMap Res.own) w w54 [.sl 3 (.int .i64) v6 x2, .sl 3 (.int .i64) v53 x51] G := ((H56.cut 1).pull 1)
          exact ⟨rfl, v53, ha.sub ⟨rfl, rfl, rfl, rfl, trivial⟩, H57⟩
        · have hs32 := if_f hc36 hs32
          refine WP_exit fun a ha => ?_
          obtain rfl := Option.some.inj hs32
          have H58 : Holds (([] : List Res).flatMap Res.own) w w31 [.sl 3 (.int .i64) v6 x2, .sl 3 (.int .i64) vs24 s24] G := ((H35.pull 1).pull 1)
          exact exit_seq (⟨exit_ne, rfl, vs24, ha.sub ⟨rfl, rfl, rfl, trivial⟩, H58⟩)
      · intro e a28 w59 hO60
        obtain ⟨p61, rfl⟩ : ∃ z, z = o26 := ⟨o26, rfl⟩
        obtain ⟨rfl, hO63⟩ := hO60
        obtain ⟨vp61, ha, H62⟩ := hO63
        refine exit_block_eq (nrm_seq (WP.app ?_ ha))
        refine WP_seq ?_
        refine WP_region ?_
        refine WL_buildH (t := (.int .i64)) (args := []) (xs := ([] : List Int)) H62 (BltL.nil) u23 j3 rfl rfl rfl rfl rfl rfl (fun v64 w65 H66 => ?_)
        have H67 : Holds (([] : List Res).flatMap Res.own) w w65 [.sl 3 (.int .i64) v64 ([]), .sl 3 (.int .i64) v6 x2, .sl 3 (.int .i64) vp61 p61] G := H66
        refine XL_q rfl (qt_move rfl) rfl rfl ?_
        obtain ⟨x68, hx69, h⟩ := bind_some h
        refine WL_appendH H67 (Has.c (Has.hd)) hx69 u23 j3 rfl rfl rfl rfl rfl rfl (fun v70 w71 H72 => ?_)
        have H73 : Holds (([] : List Res).flatMap Res.own) w w71 [.sl 3 (.int .i64) v70 x68, .sl 3 (.int .i64) v6 x2, .sl 3 (.int .i64) vp61 p61] G := H72
        refine XL_q rfl (qt_assign rfl) rfl rfl ?_
        refine WL_nil_seq ?_
        refine WP_seq ?_
        refine WP_seq ?_
        refine WP_region ?_
        refine XL_q rfl (qt_move rfl) rfl rfl ?_
        refine XL_lenH H73.ctx (t := (.int .i64)) (Has.hd) u23 rfl rfl rfl ?_
        refine XL_q rfl (qt_gtr rfl rfl) rfl rfl ?_
        refine WL_nil_seq ?_
        obtain ⟨o75, ho76, h⟩ := bind_some h
        obtain ⟨j74, rfl⟩ : ∃ z, z = o75 := ⟨o75, rfl⟩
        refine WP_join (M := fun a w2 => (Fr a 67 [(3, v6), (4, .bool x8), (5, vp61), (7, v70)] ∧ Holds (([] : List Res).flatMap Res.own) w w2 [.sl 3 (.int .i64) v6 x2, .sl 3 (.int .i64) vp61 p61, .sl 3 (.int .i64) v70 j74] G)) ?_ ?_
        · refine WP_cond rfl (fun hc77 => ?_) (fun hc77 => ?_)
          · have ho76 := if_t hc77 ho76
            refine WP_region ?_
            refine XL_q rfl (qt_move rfl) rfl rfl ?_
            refine XL_q rfl (qt_move rfl) rfl rfl ?_
            obtain ⟨x78, hx79, ho76⟩ := bind_some ho76
            refine XL_indexH H73.ctx (Has.hd) hx79 u23 i3 rfl rfl rfl rfl (fun b80 off81 cap82 hv83 => ?_)
            obtain ⟨F84, hat85, hdup86⟩ := H73.at (Has.hd) hx79 hv83
            refine XL_load_int (k := .i64) u3 rfl hat85 rfl rfl rfl ?_
            refine XL_q rfl (qt_add rfl rfl) rfl rfl ?_
            obtain ⟨x87, hx88, ho76⟩ := bind_some ho76
            refine XL_indexH H73.ctx (Has.hd) hx88 u23 i3 rfl rfl rfl rfl (fun b89 off90 cap91 hv92 => ?_)
            refine WL_storeH (fo := 0) (cs' := [.int .i64 (IntKind.wrap .i64 (x78 + 1))]) H73 hx88 hv92 (Upd.whole (Blt.int)) rfl il3 rfl rfl rfl rfl (fun w93 H94 => ?_)
            have H95 : Holds (([] : List Res).flatMap Res.own) w w93 [.sl 3 (.int .i64) v70 (List.set x68 (Int.toNat 0) (IntKind.wrap .i64 (x78 + 1))), .sl 3 (.int .i64) v6 x2, .sl 3 (.int .i64) vp61 p61] G := H94
            refine WL_nil fun a ha => ?_
            obtain rfl := Option.some.inj ho76
            have H96 : Holds (([] : List Res).flatMap Res.own) w w93 [.sl 3 (.int .i64) v6 x2, .sl 3 (.int .i64) vp61 p61, .sl 3 (.int .i64) v70 (List.set x68 (Int.toNat 0) (IntKind.wrap .i64 (x78 + 1)))] G := ((H95.pull 2).pull 2)
            exact nrm_seq (⟨ha.sub ⟨rfl, rfl, rfl, rfl, trivial⟩, H96⟩)
          · have ho76 := if_f hc77 ho76
            refine WP_skip fun a ha => ?_
            obtain rfl := Option.some.inj ho76
            have H97 : Holds (([] : List Res).flatMap Res.own) w w71 [.sl 3 (.int .i64) v6 x2, .sl 3 (.int .i64) vp61 p61, .sl 3 (.int .i64) v70 x68] G := ((H73.pull 2).pull 2)
            exact nrm_seq (⟨ha.sub ⟨rfl, rfl, rfl, rfl, trivial⟩, H97⟩)
        · intro a w98 hI99
          obtain ⟨ha, H100⟩ := hI99
          refine WP.app ?_ ha
          clear ha
          refine WP_seq ?_
          refine WP_still ?_
          refine XL_q rfl (qt_move rfl) rfl rfl ?_
          obtain ⟨x101, hx102, h⟩ := bind_some h
          refine QL_call rfl rfl c13 (fun w' hb => (w_impl_OwedValid w' ([.sl 3 (.int .i64) v6 x2, .sl 3 (.int .i64) vp61 p61, .sl 3 (.int .i64) v70 j74] ++ G) vp61 p61 (Has.c (Has.hd)) x101 hx102 (H100.grow hb).ctx).mono fun e w'' hK => ⟨hK.1, hK.2.bel⟩) (by rfl) ?_
          refine XL_q rfl (qt_move rfl) rfl rfl ?_
          refine XL_q rfl (qt_beql u4 rfl rfl) rfl rfl ?_
          refine XL_q rfl (qt_move rfl) rfl rfl ?_
          obtain ⟨b103, hg104, h⟩ := bind_some h
          refine XL_join 13 63 (.bool b103) ?_ (fun md hmd hk => ?_)
          rotate_left
          · obtain ⟨K, rfl⟩ := Md.quiet_of hmd
            rcases btf (x101 == x8) with hc105 | hc105
            · skip
              have hg104 := if_t hc105 hg104
              refine XL_q (w_take rfl hc105) (qt_move rfl) rfl rfl ?_
              refine XL_q (w_take rfl hc105) (qt_not rfl) rfl rfl ?_
              refine XL_q (w_take rfl hc105) (qt_move rfl) rfl rfl ?_
              refine XL_join 4 57 (.bool ((!x8) || ((List.length x2 : Int) == 0))) ?_ (fun md hmd hk => ?_)
              rotate_left
              · obtain ⟨K, rfl⟩ := Md.quiet_of hmd
                rcases btf (!x8) with hc106 | hc106
                · skip
                  refine XL_skip (w_skip rfl hc106) rfl rfl ?_
                  refine XL_skip (w_skip rfl hc106) rfl rfl ?_
                  refine XL_skip (w_skip rfl hc106) rfl rfl ?_
                  refine XL_q (w_take rfl hc105) (qt_pickT rfl hc106 rfl) rfl rfl ?_
                  exact hk _ (Cov.same (by rw [hc106]; rfl) (Cov.fresh rfl (Cov.fresh rfl (Cov.fresh rfl (Cov.refl)))))
                · skip
                  refine XL_q (w_take rfl hc106) (qt_move rfl) rfl rfl ?_
                  refine XL_lenH H100.ctx (t := (.int .i64)) (Has.hd) u23 (w_take rfl hc106) rfl rfl ?_
                  refine XL_q (w_take rfl hc106) (qt_eql rfl rfl) rfl rfl ?_
                  refine XL_q (w_take rfl hc105) (qt_pickF rfl hc106 rfl) rfl rfl ?_
                  exact hk _ (Cov.same (by rw [hc106]; rfl) (Cov.fresh rfl (Cov.fresh rfl (Cov.fresh rfl (Cov.refl)))))
              refine XL_q (w_take rfl hc105) (qt_move rfl) rfl rfl ?_
              obtain ⟨b107, hg108, hg104⟩ := bind_some hg104
              refine XL_join 4 62 (.bool b107) ?_ (fun md hmd hk => ?_)
              rotate_left
              · obtain ⟨K, rfl⟩ := Md.quiet_of hmd
                rcases btf ((!x8) || ((List.length x2 : Int) == 0)) with hc109 | hc109
                · skip
                  refine XL_skip (w_skip rfl hc109) rfl rfl ?_
                  refine XL_skip (w_skip rfl hc109) rfl rfl ?_
                  refine XL_skip (w_skip rfl hc109) rfl rfl ?_
                  refine XL_q (w_take rfl hc105) (qt_pickT rfl hc109 rfl) rfl rfl ?_
                  exact hk _ (Cov.same (vb (if_t hc109 hg108)) (Cov.fresh rfl (Cov.fresh rfl (Cov.fresh rfl (Cov.refl)))))
                · skip
                  have hg108 := if_f hc109 hg108
                  refine XL_q (w_take rfl hc109) (qt_move rfl) rfl rfl ?_
                  obtain ⟨x110, hx111, hg108⟩ := bind_some hg108
                  refine QL_call (w_take rfl hc109) rfl c13 (fun w' hb => (w_impl_OwedValid w' ([.sl 3 (.int .i64) v6 x2, .sl 3 (.int .i64) vp61 p61, .sl 3 (.int .i64) v70 j74] ++ G) v70 j74 (Has.c (Has.c (Has.hd))) x110 hx111 (H100.grow hb).ctx).mono fun e w'' hK => ⟨hK.1, hK.2.bel⟩) (by rfl) ?_
                  refine XL_q (w_take rfl hc109) (qt_not rfl) rfl rfl ?_
                  refine XL_q (w_take rfl hc105) (qt_pickF rfl hc109 rfl) rfl rfl ?_
                  exact hk _ (Cov.same (vb hg108) (Cov.fresh rfl (Cov.fresh rfl (Cov.fresh rfl (Cov.refl)))))
              refine XL_q rfl (qt_pickT rfl hc105 rfl) rfl rfl ?_
              exact hk _ (Cov.same (vb hg104) (Cov.fresh rfl (Cov.fresh rfl (Cov.fresh rfl (Cov.fresh rfl (Cov.fresh rfl (Cov.fresh rfl (Cov.refl))))))))
            · skip
              refine XL_skip (w_skip rfl hc105) rfl rfl ?_
              refine XL_skip (w_skip rfl hc105) rfl rfl ?_
              refine XL_skip (w_skip rfl hc105) rfl rfl ?_
              refine XL_skip rfl rfl rfl ?_
              refine XL_skip rfl rfl rfl ?_
              refine XL_skip rfl rfl rfl ?_
              refine XL_skip (w_skip rfl hc105) rfl rfl ?_
              refine XL_skip (w_skip rfl hc105) rfl rfl ?_
              refine XL_skip rfl rfl rfl ?_
              refine XL_skip rfl rfl rfl ?_
              refine XL_skip rfl rfl rfl ?_
              refine XL_skip (w_skip rfl hc105) rfl rfl ?_
              refine XL_q rfl (qt_pickF rfl hc105 rfl) rfl rfl ?_
              exact hk _ (Cov.same (vb (if_f hc105 hg104)) (Cov.fresh rfl (Cov.fresh rfl (Cov.fresh rfl (Cov.fresh rfl (Cov.fresh rfl (Cov.fresh rfl (Cov.fresh rfl (Cov.fresh rfl (Cov.fresh rfl (Cov.fresh rfl (Cov.fresh rfl (Cov.fresh rfl (Cov.refl))))))))))))))
          refine XL_q rfl (qt_move rfl) rfl rfl ?_
          obtain ⟨b112, hg113, h⟩ := bind_some h
          refine XL_join 2 66 (.bool b112) ?_ (fun md hmd hk => ?_)
          rotate_left
          · obtain ⟨K, rfl⟩ := Md.quiet_of hmd
            rcases btf b103 with hc114 | hc114
            · skip
              have hg113 := if_t hc114 hg113
              obtain ⟨x115, hx116, hg113⟩ := bind_some hg113
              refine QL_call (w_take rfl hc114) rfl c15 (fun w' hb => (w_laws_alive w' ([.sl 3 (.int .i64) v6 x2, .sl 3 (.int .i64) vp61 p61, .sl 3 (.int .i64) v70 j74] ++ G)  x115 hx116 (H100.grow hb).ctx).mono fun e w'' hK => ⟨hK.1, hK.2.bel⟩) (by rfl) ?_
              refine XL_q rfl (qt_pickT rfl hc114 rfl) rfl rfl ?_
              exact hk _ (Cov.same (vb hg113) (Cov.fresh rfl (Cov.refl)))
            · skip
              refine XL_skip (w_skip rfl hc114) rfl rfl ?_
              refine XL_q rfl (qt_pickF rfl hc114 rfl) rfl rfl ?_
              exact hk _ (Cov.same (vb (if_f hc114 hg113)) (Cov.fresh rfl (Cov.refl)))
          refine XL_q rfl (qt_assign rfl) rfl rfl ?_
          refine QL_nil fun a ha w117 hb118 => ?_
          have H119 : Holds (([] : List Res).flatMap Res.own) w w117 [.sl 3 (.int .i64) v6 x2, .sl 3 (.int .i64) vp61 p61, .sl 3 (.int .i64) v70 j74] G := H100.grow hb118
          refine nrm_seq (WP.app ?_ ha)
          refine WP_ret fun a ha => ?_
          obtain rfl := Option.some.inj h
          have H120 : Holds (([] : List Res).flatMap Res.own) w w117 [] G := (((H119.cut 0).cut 0).cut 0)
          exact ret1 rfl ha rfl ⟨rfl, H120⟩
theorem w_spec_l20Shares (w : World) (G : List Res) (bp0 : Nat) (vp0_0 : Value) (p0_0 : List Int) (hp0_0 : Has G (.int .u8) vp0_0 p0_0) (p0_1 : Int) (p1 : Int) (r : Int × (List Int)) (h : spec_l20SharesS p0_0 p0_1 p1 = some r) (H : Ctx w ([.bx bp0 69 [vp0_0, .int .i64 p0_1]] ++ G)) : Calls Tryd.prog 49 #[.pointer (some ⟨bp0, 0, none⟩), .int .i64 p1] w fun e w' => ∃ (v1 : Value), e = .returned (v1) ∧ Holds (([.bx bp0 69 [vp0_0, .int .i64 p0_1]] : List Res).flatMap Res.own) w w' [.sl 3 (.int .i64) v1 r.2, .bx bp0 69 [vp0_0, .int .i64 r.1]] G := by
  have H : Holds (([.bx bp0 69 [vp0_0, .int .i64 p0_1]] : List Res).flatMap Res.own) w w [.bx bp0 69 [vp0_0, .int .i64 p0_1]] G := Holds.startN H
  refine calls_enter (args := [.pointer (some ⟨bp0, 0, none⟩), .int .i64 p1]) (n := 52) Tryd.func49 rfl rfl rfl ?_
  unfold spec_l20SharesS at h
  refine WP_seq ?_
  refine WP_region ?_
  refine XL_q rfl (qt_assign rfl) rfl rfl ?_
  refine WL_nil_seq ?_
  refine WP_seq ?_
  refine WP_region ?_
  refine WL_buildH (t := (.int .i64)) (args := []) (xs := ([] : List Int)) H (BltL.nil) u23 j3 rfl rfl rfl rfl rfl rfl (fun v1 w2 H3 => ?_)
  have H4 : Holds (([.bx bp0 69 [vp0_0, .int .i64 p0_1]] : List Res).flatMap Res.own) w w2 [.sl 3 (.int .i64) v1 ([]), .bx bp0 69 [vp0_0, .int .i64 p0_1]] G := H3
  refine XL_q rfl (qt_assign rfl) rfl rfl ?_
  refine WL_nil_seq ?_
  refine WP_seq ?_
  refine WP_seq ?_
  refine WP_region ?_
  refine XL_q rfl (qt_move rfl) rfl rfl ?_
  have H7 : Holds (([.bx bp0 69 [vp0_0, .int .i64 p0_1]] : List Res).flatMap Res.own) w w2 [.bx bp0 69 [vp0_0, .int .i64 p0_1], .sl 3 (.int .i64) v1 ([])] G := H4.pull 1
  obtain ⟨x5, hx6, h⟩ := bind_some h
  refine WL_call rfl rfl c65 (w_spec_l20Rd__pick w2 ([.sl 3 (.int .i64) v1 ([])] ++ G) bp0 vp0_0 p0_0 (hp0_0.c) p0_1 7 x5 hx6 H7.ctx) (by rfl) ?_
  rintro _ w8 ⟨rfl, H9⟩; refine ⟨_, rfl, ?_⟩
  have H10 : Holds (([.bx bp0 69 [vp0_0, .int .i64 p0_1]] : List Res).flatMap Res.own) w w8 [.bx bp0 69 [vp0_0, .int .i64 x5.1], .sl 3 (.int .i64) v1 ([])] G := H7.calledN (Rs := [_]) H9
  refine XL_q rfl (qt_add rfl rfl) rfl rfl ?_
  refine XL_q rfl (qt_assign rfl) rfl rfl ?_
  refine WL_nil_seq ?_
  refine WP_block ?_
  obtain ⟨o14, ho15, h⟩ := bind_some h
  have H18 : Holds (([.bx bp0 69 [vp0_0, .int .i64 p0_1]] : List Res).flatMap Res.own) w w8 [.bx bp0 69 [vp0_0, .int .i64 x5.1], .sl 3 (.int .i64) v1 ([])] G := ((H10.pull 1).pull 1)
  refine fun a16 ha17 => wp_loop_fix (I := fun s a w2 => match s with | (s11, s12, s13) => ∃ vs11, Fr a 52 [(0, .pointer (some ⟨bp0, 0, none⟩)), (1, .int .i64 p1), (5, vs11), (6, .int .i64 s12)] ∧ Holds (([.bx bp0 69 [vp0_0, .int .i64 p0_1]] : List Res).flatMap Res.own) w w2 [.bx bp0 69 [vp0_0, .int .i64 s13], .sl 3 (.int .i64) vs11 s11] G) (O := fun o e a w2 => match o with | (q0, q1) => e = .exit 0 ∧ ∃ vq0, Fr a 52 [(0, .pointer (some ⟨bp0, 0, none⟩)), (1, .int .i64 p1), (5, vq0)] ∧ Holds (([.bx bp0 69 [vp0_0, .int .i64 p0_1]] : List Res).flatMap Res.own) w w2 [.bx bp0 69 [vp0_0, .int .i64 q1], .sl 3 (.int .i64) vq0 q0] G) ho15 ?_ ?_ ?_
  · exact ⟨v1, ha17.sub ⟨rfl, rfl, rfl, rfl, trivial⟩, H18⟩
  · clear ha17
    intro s o21 a w19 hs20 hI22
    obtain ⟨s11, s12, s13⟩ := s
    obtain ⟨vs11, ha, H23⟩ := hI22
    refine WP.app ?_ ha
    clear ha
    refine WP_seq ?_
    refine WP_seq ?_
    refine WP_region ?_
    refine XL_q rfl (qt_move rfl) rfl rfl ?_
    refine XL_q rfl (qt_gtr rfl rfl) rfl rfl ?_
    refine WL_nil_seq ?_
    refine WP_cond rfl (fun hc24 => ?_) (fun hc24 => ?_)
    · have hs20 := if_t hc24 hs20
      refine WP_skip_seq ?_
      refine WP_seq ?_
      refine WP_block ?_
      refine WP_region ?_
      refine XL_q rfl (qt_move rfl) rfl rfl ?_
      refine XL_q rfl (qt_move rfl) rfl rfl ?_
      obtain ⟨x25, hx26, hs20⟩ := bind_some hs20
      refine WL_call rfl rfl c65 (w_spec_l20Rd__pick w19 ([.sl 3 (.int .i64) vs11 s11] ++ G) bp0 vp0_0 p0_0 (hp0_0.c) s13 6 x25 hx26 H23.ctx) (by rfl) ?_
      rintro _ w27 ⟨rfl, H28⟩; refine ⟨_, rfl, ?_⟩
      have H29 : Holds (([.bx bp0 69 [vp0_0, .int .i64 p0_1]] : List Res).flatMap Res.own) w w27 [.bx bp0 69 [vp0_0, .int .i64 x25.1], .sl 3 (.int .i64) vs11 s11] G := H23.calledN (Rs := [_]) H28
      refine XL_q rfl (qt_move rfl) rfl rfl ?_
      obtain ⟨x30, hx31, hs20⟩ := bind_some hs20
      refine WL_call rfl rfl c65 (w_spec_l20Rd__pick w27 ([.sl 3 (.int .i64) vs11 s11] ++ G) bp0 vp0_0 p0_0 (hp0_0.c) x25.1 3 x30 hx31 H29.ctx) (by rfl) ?_
      rintro _ w32 ⟨rfl, H33⟩; refine ⟨_, rfl, ?_⟩
      have H34 : Holds (([.bx bp0 69 [vp0_0, .int .i64 p0_1]] : List Res).flatMap Res.own) w w32 [.bx bp0 69 [vp0_0, .int .i64 x30.1], .sl 3 (.int .i64) vs11 s11] G := H29.calledN (Rs := [_]) H33
      refine XL_q rfl (qt_add rfl rfl) rfl rfl ?_
      refine XL_q rfl (qt_mul rfl rfl) rfl rfl ?_
      refine WL_buildH (t := (.int .i64)) (args := [.tmp 21]) (xs := ([IntKind.wrap .i64 (x25.2 * (IntKind.wrap .i64 (1 + x30.2)))] : List Int)) H34 (BltL.cons (Blt.int) rfl (BltL.nil)) u23 j3 rfl rfl rfl rfl rfl rfl (fun v35 w36 H37 => ?_)
      have H38 : Holds (([.bx bp0 69 [vp0_0, .int .i64 p0_1]] : List Res).flatMap Res.own) w w36 [.sl 3 (.int .i64) v35 ([IntKind.wrap .i64 (x25.2 * (IntKind.wrap .i64 (1 + x30.2)))]), .bx bp0 69 [vp0_0, .int .i64 x30.1], .sl 3 (.int .i64) vs11 s11] G := H37
      have H39 : Holds (([.bx bp0 69 [vp0_0, .int .i64 p0_1]] : List Res).flatMap Res.own) w w36 [.sl 3 (.int .i64) vs11 s11, .sl 3 (.int .i64) v35 ([IntKind.wrap .i64 (x25.2 * (IntKind.wrap .i64 (1 + x30.2)))]), .bx bp0 69 [vp0_0, .int .i64 x30.1]] G := H38.pull 2
      obtain ⟨x40, hx41, hs20⟩ := bind_some hs20
      refine WL_appendH H39 (Has.c (Has.hd)) hx41 u23 j3 rfl rfl rfl rfl rfl rfl (fun v42 w43 H44 => ?_)
      have H45 : Holds (([.bx bp0 69 [vp0_0, .int .i64 p0_1]] : List Res).flatMap Res.own) w w43 [.sl 3 (.int .i64) v42 x40, .sl 3 (.int .i64) v35 ([IntKind.wrap .i64 (x25.2 * (IntKind.wrap .i64 (1 + x30.2)))]), .bx bp0 69 [vp0_0, .int .i64 x30.1]] G := H44
      refine XL_q rfl (qt_assign rfl) rfl rfl ?_
      refine WL_nil fun a ha => ?_
      refine nrm_block (nrm_seq (WP.app ?_ ha))
      refine WP_region ?_
      refine XL_q rfl (qt_move rfl) rfl rfl ?_
      refine XL_q rfl (qt_sub rfl rfl) rfl rfl ?_
      refine XL_q rfl (qt_assign rfl) rfl rfl ?_
      refine WL_nil fun a ha => ?_
      obtain rfl := Option.some.inj hs20
      have H46 : Holds (([.bx bp0 69 [vp0_0, .int .i64 p0_1]] : List Res).flatMap Res.own) w w43 [.bx bp0 69 [vp0_0, .int .i64 x30.1], .sl 3 (.int .i64) v42 x40] G := ((H45.cut 1).pull 1)
      exact ⟨rfl, v42, ha.sub ⟨rfl, rfl, rfl, rfl, trivial⟩, H46⟩
    · have hs20 := if_f hc24 hs20
      refine WP_exit fun a ha => ?_
      obtain rfl := Option.some.inj hs20
      have H47 : Holds (([.bx bp0 69 [vp0_0, .int .i64 p0_1]] : List Res).flatMap Res.own) w w19 [.bx bp0 69 [vp0_0, .int .i64 s13], .sl 3 (.int .i64) vs11 s11] G := ((H23.pull 1).pull 1)
      exact exit_seq (⟨exit_ne, rfl, vs11, ha.sub ⟨rfl, rfl, rfl, trivial⟩, H47⟩)
  · intro e a16 w48 hO49
    obtain ⟨p50, p51⟩ := o14
    obtain ⟨rfl, hO53⟩ := hO49
    obtain ⟨vp50, ha, H52⟩ := hO53
    refine exit_block_eq (nrm_seq (WP.app ?_ ha))
    refine WP_seq ?_
    refine WP_seq ?_
    refine WP_region ?_
    refine XL_q rfl (qt_move rfl) rfl rfl ?_
    refine XL_q rfl (qt_move rfl) rfl rfl ?_
    obtain ⟨x54, hx55, h⟩ := bind_some h
    refine WL_call rfl rfl c66 (w_spec_l20Rd__odd w48 ([.sl 3 (.int .i64) vp50 p50] ++ G) bp0 vp0_0 p0_0 (hp0_0.c) p51 p1 x54 hx55 H52.ctx) (by rfl) ?_
    rintro _ w56 ⟨rfl, H57⟩; refine ⟨_, rfl, ?_⟩
    have H58 : Holds (([.bx bp0 69 [vp0_0, .int .i64 p0_1]] : List Res).flatMap Res.own) w w56 [.bx bp0 69 [vp0_0, .int .i64 x54.1], .sl 3 (.int .i64) vp50 p50] G := H52.calledN (Rs := [_]) H57
    refine WL_nil_seq ?_
    refine WP_cond rfl (fun hc59 => ?_) (fun hc59 => ?_)
    · have h := if_t hc59 h
      refine WP_seq ?_
      refine WP_region ?_
      refine XL_q rfl (qt_move rfl) rfl rfl ?_
      obtain ⟨x60, hx61, h⟩ := bind_some h
      refine WL_call rfl rfl c65 (w_spec_l20Rd__pick w56 ([.sl 3 (.int .i64) vp50 p50] ++ G) bp0 vp0_0 p0_0 (hp0_0.c) x54.1 3 x60 hx61 H58.ctx) (by rfl) ?_
      rintro _ w62 ⟨rfl, H63⟩; refine ⟨_, rfl, ?_⟩
      have H64 : Holds (([.bx bp0 69 [vp0_0, .int .i64 p0_1]] : List Res).flatMap Res.own) w w62 [.bx bp0 69 [vp0_0, .int .i64 x60.1], .sl 3 (.int .i64) vp50 p50] G := H58.calledN (Rs := [_]) H63
      refine WL_nil_seq ?_
      refine WP_block ?_
      refine WP_seq ?_
      refine WP_region ?_
      refine XL_q rfl (qt_eql rfl rfl) rfl rfl ?_
      refine XL_q rfl (qt_assign rfl) rfl rfl ?_
      refine WL_nil_seq ?_
      refine WP_cond rfl (fun hc65 => ?_) (fun hc65 => ?_)
      · have h := if_t hc65 h
        refine WP_seq ?_
        refine WP_region ?_
        refine XL_q rfl (qt_move rfl) rfl rfl ?_
        obtain ⟨x66, hx67, h⟩ := bind_some h
        refine WL_call rfl rfl c65 (w_spec_l20Rd__pick w62 ([.sl 3 (.int .i64) vp50 p50] ++ G) bp0 vp0_0 p0_0 (hp0_0.c) x60.1 4 x66 hx67 H64.ctx) (by rfl) ?_
        rintro _ w68 ⟨rfl, H69⟩; refine ⟨_, rfl, ?_⟩
        have H70 : Holds (([.bx bp0 69 [vp0_0, .int .i64 p0_1]] : List Res).flatMap Res.own) w w68 [.bx bp0 69 [vp0_0, .int .i64 x66.1], .sl 3 (.int .i64) vp50 p50] G := H64.calledN (Rs := [_]) H69
        obtain ⟨x71, hx72, h⟩ := bind_some h
        refine WL_makeH H70 hx72 u23 j3 rfl (fun _ => ⟨rfl, rfl⟩) rfl rfl rfl rfl rfl (fun v73 w74 H75 => ?_)
        have H76 : Holds (([.bx bp0 69 [vp0_0, .int .i64 p0_1]] : List Res).flatMap Res.own) w w74 [.sl 3 (.int .i64) v73 x71, .bx bp0 69 [vp0_0, .int .i64 x66.1], .sl 3 (.int .i64) vp50 p50] G := H75
        refine XL_q rfl (qt_assign rfl) rfl rfl ?_
        refine WL_nil_seq ?_
        refine WP_ret fun a ha => ?_
        obtain rfl := Option.some.inj h
        have H77 : Holds (([.bx bp0 69 [vp0_0, .int .i64 p0_1]] : List Res).flatMap Res.own) w w74 [.sl 3 (.int .i64) v73 x71, .bx bp0 69 [vp0_0, .int .i64 x66.1]] G := (((H76.cut 2).pull 1).pull 1)
        exact ret_block (ret_seq (ret1 rfl ha rfl ⟨v73, rfl, H77⟩))
      · have h := if_f hc65 h
        refine WP_seq ?_
        refine WP_region ?_
        refine XL_q rfl (qt_eql rfl rfl) rfl rfl ?_
        refine XL_q rfl (qt_assign rfl) rfl rfl ?_
        refine WL_nil_seq ?_
        refine WP_cond rfl (fun hc78 => ?_) (fun hc78 => ?_)
        · have h := if_t hc78 h
          refine WP_seq ?_
          obtain ⟨x83, hx84, h⟩ := bind_some h
          obtain ⟨x89, hx90, h⟩ := bind_some h
          obtain ⟨x102, hx103, h⟩ := bind_some h
          obtain ⟨x104, hx105, h⟩ := bind_some h
          refine WP_join (M := fun a w2 => ∃ vz78_0, Fr a 52 [(0, .pointer (some ⟨bp0, 0, none⟩)), (4, vz78_0)] ∧ Holds (([.bx bp0 69 [vp0_0, .int .i64 p0_1]] : List Res).flatMap Res.own) w w2 [.bx bp0 69 [vp0_0, .int .i64 x83.1], .sl 3 (.int .i64) vz78_0 x104] G) ?_ ?_
          · refine WP_orders (by kernel_rfl) (fun w279 hb280 => ?_)
            have H281 : Holds (([.bx bp0 69 [vp0_0, .int .i64 p0_1]] : List Res).flatMap Res.own) w w279 [.bx bp0 69 [vp0_0, .int .i64 x60.1], .sl 3 (.int .i64) vp50 p50] G := H64.grow hb280
            refine XB_take (i := 1) rfl (by kernel_rfl) (by kernel_rfl) (by kernel_rfl) rfl (fun _ => qt_move rfl) rfl rfl ?_
            refine XB_take (i := 6) rfl (by kernel_rfl) (by kernel_rfl) (by kernel_rfl) rfl (fun _ => qt_move rfl) rfl rfl ?_
            refine XB_all [0, 2, 7] (by kernel_rfl) (by simp) (allc ?_ (allc ?_ (allc ?_ alln)))
            · refine XB_do rfl ?_
              refine WL_buildH (t := (.int .i64)) (args := [.const (.int .i64 (-1)), .const (.int .i64 21)]) (xs := ([(-1), 21] : List Int)) H281 (BltL.cons (Blt.int) rfl (BltL.cons (Blt.int) rfl (BltL.nil))) u23 j3 rfl rfl rfl rfl rfl rfl (fun v282 w283 H284 => ?_)
              have H285 : Holds (([.bx bp0 69 [vp0_0, .int .i64 p0_1]] : List Res).flatMap Res.own) w w283 [.sl 3 (.int .i64) v282 ([(-1), 21]), .bx bp0 69 [vp0_0, .int .i64 x60.1], .sl 3 (.int .i64) vp50 p50] G := H284
              refine WL_nil fun a ha => ⟨rfl, (?_ : XB _ _ _ _ _ _ _ _) a ha⟩
              refine XB_all [2, 7] (by kernel_rfl) (by simp) (allc ?_ (allc ?_ alln))
              · refine XB_do rfl ?_
                have H286 : Holds (([.bx bp0 69 [vp0_0, .int .i64 p0_1]] : List Res).flatMap Res.own) w w283 [.bx bp0 69 [vp0_0, .int .i64 x60.1], .sl 3 (.int .i64) v282 ([(-1), 21]), .sl 3 (.int .i64) vp50 p50] G := H285.pull 1
                refine WL_call rfl rfl c65 (w_spec_l20Rd__pick w283 ([.sl 3 (.int .i64) v282 ([(-1), 21]), .sl 3 (.int .i64) vp50 p50] ++ G) bp0 vp0_0 p0_0 (hp0_0.c.c) x60.1 2 x83 hx84 H286.ctx) (by rfl) ?_
                rintro _ w287 ⟨rfl, H288⟩; refine ⟨_, rfl, ?_⟩
                have H289 : Holds (([.bx bp0 69 [vp0_0, .int .i64 p0_1]] : List Res).flatMap Res.own) w w287 [.bx bp0 69 [vp0_0, .int .i64 x83.1], .sl 3 (.int .i64) v282 ([(-1), 21]), .sl 3 (.int .i64) vp50 p50] G := H286.calledN (Rs := [_]) H288
                refine WL_nil fun a ha => ⟨rfl, (?_ : XB _ _ _ _ _ _ _ _) a ha⟩
                refine XB_indexH (i := 3) rfl (by kernel_rfl) (by kernel_rfl) (by kernel_rfl) H289.ctx (Has.c (Has.hd)) hx90 u23 i3 rfl rfl rfl rfl (fun b290 off291 cap292 hv293 => ?_)
                refine XB_all [4, 7] (by kernel_rfl) (by simp) (allc ?_ (allc ?_ alln))
                · refine XB_do rfl ?_
                  obtain ⟨F294, hat295, hdup296⟩ := H289.at (Has.c (Has.hd)) hx90 hv293
                  refine XL_load_int (k := .i64) u3 rfl hat295 rfl rfl rfl ?_
                  refine WL_nil fun a ha => ⟨rfl, (?_ : XB _ _ _ _ _ _ _ _) a ha⟩
                  refine XB_all [5, 7] (by kernel_rfl) (by simp) (allc ?_ (allc ?_ alln))
                  · refine XB_do rfl ?_
                    refine WL_buildH (t := (.int .i64)) (args := [.tmp 41]) (xs := ([x89] : List Int)) H289 (BltL.cons (Blt.int) rfl (BltL.nil)) u23 j3 rfl rfl rfl rfl rfl rfl (fun v297 w298 H299 => ?_)
                    have H300 : Holds (([.bx bp0 69 [vp0_0, .int .i64 p0_1]] : List Res).flatMap Res.own) w w298 [.sl 3 (.int .i64) v297 ([x89]), .bx bp0 69 [vp0_0, .int .i64 x83.1], .sl 3 (.int .i64) v282 ([(-1), 21]), .sl 3 (.int .i64) vp50 p50] G := H299
                    refine WL_nil fun a ha => ⟨rfl, (?_ : XB _ _ _ _ _ _ _ _) a ha⟩
                    refine XB_all [7] (by kernel_rfl) (by simp) (allc ?_ alln)
                    · refine XB_do rfl ?_
                      refine XL_sliceH H300.ctx (Has.c (Has.c (Has.c (Has.hd)))) hx103 u23 i3 ⟨_, rfl⟩ rfl rfl rfl rfl ?_
                      refine WL_nil fun a ha => ⟨rfl, (?_ : XB _ _ _ _ _ _ _ _) a ha⟩
                      refine XB_all [8] (by kernel_rfl) (by simp) (allc ?_ alln)
                      · refine XB_do rfl ?_
                        refine WL_appendH H300 (Has.sub (Has.c (Has.c (Has.c (Has.hd)))) hx103) hx105 u23 j3 rfl rfl rfl rfl rfl rfl (fun v301 w302 H303 => ?_)
                        have H304 : Holds (([.bx bp0 69 [vp0_0, .int .i64 p0_1]] : List Res).flatMap Res.own) w w302 [.sl 3 (.int .i64) v301 x104, .bx bp0 69 [vp0_0, .int .i64 x83.1], .sl 3 (.int .i64) v282 ([(-1), 21]), .sl 3 (.int .i64) vp50 p50] G := H303
                        refine WL_nil fun a ha => ⟨rfl, (?_ : XB _ _ _ _ _ _ _ _) a ha⟩
                        refine XB_take (i := 9) rfl (by kernel_rfl) (by kernel_rfl) (by kernel_rfl) rfl (fun _ => qt_assign rfl) rfl rfl ?_
                        refine XB_done (by kernel_rfl) (fun a ha => ?_)
                        have H305 : Holds (([.bx bp0 69 [vp0_0, .int .i64 p0_1]] : List Res).flatMap Res.own) w w302 [.bx bp0 69 [vp0_0, .int .i64 x83.1], .sl 3 (.int .i64) v301 x104] G := (((H304.cut 2).cut 2).pull 1)
                        exact ⟨v301, ha.sub ⟨rfl, rfl, trivial⟩, H305⟩
                  · refine XB_do rfl ?_
                    refine XL_sliceH H289.ctx (Has.c (Has.c (Has.hd))) hx103 u23 i3 ⟨_, rfl⟩ rfl rfl rfl rfl ?_
                    refine WL_nil fun a ha => ⟨rfl, (?_ : XB _ _ _ _ _ _ _ _) a ha⟩
                    refine XB_all [5] (by kernel_rfl) (by simp) (allc ?_ alln)
                    · refine XB_do rfl ?_
                      refine WL_buildH (t := (.int .i64)) (args := [.tmp 41]) (xs := ([x89] : List Int)) H289 (BltL.cons (Blt.int) rfl (BltL.nil)) u23 j3 rfl rfl rfl rfl rfl rfl (fun v306 w307 H308 => ?_)
                      have H309 : Holds (([.bx bp0 69 [vp0_0, .int .i64 p0_1]] : List Res).flatMap Res.own) w w307 [.sl 3 (.int .i64) v306 ([x89]), .bx bp0 69 [vp0_0, .int .i64 x83.1], .sl 3 (.int .i64) v282 ([(-1), 21]), .sl 3 (.int .i64) vp50 p50] G := H308
                      refine WL_nil fun a ha => ⟨rfl, (?_ : XB _ _ _ _ _ _ _ _) a ha⟩
                      refine XB_all [8] (by kernel_rfl) (by simp) (allc ?_ alln)
                      · refine XB_do rfl ?_
                        refine WL_appendH H309 (Has.sub (Has.c (Has.c (Has.c (Has.hd)))) hx103) hx105 u23 j3 rfl rfl rfl rfl rfl rfl (fun v310 w311 H312 => ?_)
                        have H313 : Holds (([.bx bp0 69 [vp0_0, .int .i64 p0_1]] : List Res).flatMap Res.own) w w311 [.sl 3 (.int .i64) v310 x104, .bx bp0 69 [vp0_0, .int .i64 x83.1], .sl 3 (.int .i64) v282 ([(-1), 21]), .sl 3 (.int .i64) vp50 p50] G := H312
                        refine WL_nil fun a ha => ⟨rfl, (?_ : XB _ _ _ _ _ _ _ _) a ha⟩
                        refine XB_take (i := 9) rfl (by kernel_rfl) (by kernel_rfl) (by kernel_rfl) rfl (fun _ => qt_assign rfl) rfl rfl ?_
                        refine XB_done (by kernel_rfl) (fun a ha => ?_)
                        have H314 : Holds (([.bx bp0 69 [vp0_0, .int .i64 p0_1]] : List Res).flatMap Res.own) w w311 [.bx bp0 69 [vp0_0, .int .i64 x83.1], .sl 3 (.int .i64) v310 x104] G := (((H313.cut 2).cut 2).pull 1)
                        exact ⟨v310, ha.sub ⟨rfl, rfl, trivial⟩, H314⟩
                · refine XB_do rfl ?_
                  refine XL_sliceH H289.ctx (Has.c (Has.c (Has.hd))) hx103 u23 i3 ⟨_, rfl⟩ rfl rfl rfl rfl ?_
                  refine WL_nil fun a ha => ⟨rfl, (?_ : XB _ _ _ _ _ _ _ _) a ha⟩
                  refine XB_all [4] (by kernel_rfl) (by simp) (allc ?_ alln)
                  · refine XB_do rfl ?_
                    obtain ⟨F315, hat316, hdup317⟩ := H289.at (Has.c (Has.hd)) hx90 hv293
                    refine XL_load_int (k := .i64) u3 rfl hat316 rfl rfl rfl ?_
                    refine WL_nil fun a ha => ⟨rfl, (?_ : XB _ _ _ _ _ _ _ _) a ha⟩
                    refine XB_all [5] (by kernel_rfl) (by simp) (allc ?_ alln)
                    · refine XB_do rfl ?_
                      refine WL_buildH (t := (.int .i64)) (args := [.tmp 41]) (xs := ([x89] : List Int)) H289 (BltL.cons (Blt.int) rfl (BltL.nil)) u23 j3 rfl rfl rfl rfl rfl rfl (fun v318 w319 H320 => ?_)
                      have H321 : Holds (([.bx bp0 69 [vp0_0, .int .i64 p0_1]] : List Res).flatMap Res.own) w w319 [.sl 3 (.int .i64) v318 ([x89]), .bx bp0 69 [vp0_0, .int .i64 x83.1], .sl 3 (.int .i64) v282 ([(-1), 21]), .sl 3 (.int .i64) vp50 p50] G := H320
                      refine WL_nil fun a ha => ⟨rfl, (?_ : XB _ _ _ _ _ _ _ _) a ha⟩
                      refine XB_all [8] (by kernel_rfl) (by simp) (allc ?_ alln)
                      · refine XB_do rfl ?_
                        refine WL_appendH H321 (Has.sub (Has.c (Has.c (Has.c (Has.hd)))) hx103) hx105 u23 j3 rfl rfl rfl rfl rfl rfl (fun v322 w323 H324 => ?_)
                        have H325 : Holds (([.bx bp0 69 [vp0_0, .int .i64 p0_1]] : List Res).flatMap Res.own) w w323 [.sl 3 (.int .i64) v322 x104, .bx bp0 69 [vp0_0, .int .i64 x83.1], .sl 3 (.int .i64) v282 ([(-1), 21]), .sl 3 (.int .i64) vp50 p50] G := H324
                        refine WL_nil fun a ha => ⟨rfl, (?_ : XB _ _ _ _ _ _ _ _) a ha⟩
                        refine XB_take (i := 9) rfl (by kernel_rfl) (by kernel_rfl) (by kernel_rfl) rfl (fun _ => qt_assign rfl) rfl rfl ?_
                        refine XB_done (by kernel_rfl) (fun a ha => ?_)
                        have H326 : Holds (([.bx bp0 69 [vp0_0, .int .i64 p0_1]] : List Res).flatMap Res.own) w w323 [.bx bp0 69 [vp0_0, .int .i64 x83.1], .sl 3 (.int .i64) v322 x104] G := (((H325.cut 2).cut 2).pull 1)
                        exact ⟨v322, ha.sub ⟨rfl, rfl, trivial⟩, H326⟩
              · refine XB_do rfl ?_
                refine XL_sliceH H285.ctx (Has.c (Has.c (Has.hd))) hx103 u23 i3 ⟨_, rfl⟩ rfl rfl rfl rfl ?_
                refine WL_nil fun a ha => ⟨rfl, (?_ : XB _ _ _ _ _ _ _ _) a ha⟩
                refine XB_all [2] (by kernel_rfl) (by simp) (allc ?_ alln)
                · refine XB_do rfl ?_
                  have H327 : Holds (([.bx bp0 69 [vp0_0, .int .i64 p0_1]] : List Res).flatMap Res.own) w w283 [.bx bp0 69 [vp0_0, .int .i64 x60.1], .sl 3 (.int .i64) v282 ([(-1), 21]), .sl 3 (.int .i64) vp50 p50] G := H285.pull 1
                  refine WL_call rfl rfl c65 (w_spec_l20Rd__pick w283 ([.sl 3 (.int .i64) v282 ([(-1), 21]), .sl 3 (.int .i64) vp50 p50] ++ G) bp0 vp0_0 p0_0 (hp0_0.c.c) x60.1 2 x83 hx84 H327.ctx) (by rfl) ?_
                  rintro _ w328 ⟨rfl, H329⟩; refine ⟨_, rfl, ?_⟩
                  have H330 : Holds (([.bx bp0 69 [vp0_0, .int .i64 p0_1]] : List Res).flatMap Res.own) w w328 [.bx bp0 69 [vp0_0, .int .i64 x83.1], .sl 3 (.int .i64) v282 ([(-1), 21]), .sl 3 (.int .i64) vp50 p50] G := H327.calledN (Rs := [_]) H329
                  refine WL_nil fun a ha => ⟨rfl, (?_ : XB _ _ _ _ _ _ _ _) a ha⟩
                  refine XB_indexH (i := 3) rfl (by kernel_rfl) (by kernel_rfl) (by kernel_rfl) H330.ctx (Has.c (Has.hd)) hx90 u23 i3 rfl rfl rfl rfl (fun b331 off332 cap333 hv334 => ?_)
                  refine XB_all [4] (by kernel_rfl) (by simp) (allc ?_ alln)
                  · refine XB_do rfl ?_
                    obtain ⟨F335, hat336, hdup337⟩ := H330.at (Has.c (Has.hd)) hx90 hv334
                    refine XL_load_int (k := .i64) u3 rfl hat336 rfl rfl rfl ?_
                    refine WL_nil fun a ha => ⟨rfl, (?_ : XB _ _ _ _ _ _ _ _) a ha⟩
                    refine XB_all [5] (by kernel_rfl) (by simp) (allc ?_ alln)
                    · refine XB_do rfl ?_
                      refine WL_buildH (t := (.int .i64)) (args := [.tmp 41]) (xs := ([x89] : List Int)) H330 (BltL.cons (Blt.int) rfl (BltL.nil)) u23 j3 rfl rfl rfl rfl rfl rfl (fun v338 w339 H340 => ?_)
                      have H341 : Holds (([.bx bp0 69 [vp0_0, .int .i64 p0_1]] : List Res).flatMap Res.own) w w339 [.sl 3 (.int .i64) v338 ([x89]), .bx bp0 69 [vp0_0, .int .i64 x83.1], .sl 3 (.int .i64) v282 ([(-1), 21]), .sl 3 (.int .i64) vp50 p50] G := H340
                      refine WL_nil fun a ha => ⟨rfl, (?_ : XB _ _ _ _ _ _ _ _) a ha⟩
                      refine XB_all [8] (by kernel_rfl) (by simp) (allc ?_ alln)
                      · refine XB_do rfl ?_
                        refine WL_appendH H341 (Has.sub (Has.c (Has.c (Has.c (Has.hd)))) hx103) hx105 u23 j3 rfl rfl rfl rfl rfl rfl (fun v342 w343 H344 => ?_)
                        have H345 : Holds (([.bx bp0 69 [vp0_0, .int .i64 p0_1]] : List Res).flatMap Res.own) w w343 [.sl 3 (.int .i64) v342 x104, .bx bp0 69 [vp0_0, .int .i64 x83.1], .sl 3 (.int .i64) v282 ([(-1), 21]), .sl 3 (.int .i64) vp50 p50] G := H344
                        refine WL_nil fun a ha => ⟨rfl, (?_ : XB _ _ _ _ _ _ _ _) a ha⟩
                        refine XB_take (i := 9) rfl (by kernel_rfl) (by kernel_rfl) (by kernel_rfl) rfl (fun _ => qt_assign rfl) rfl rfl ?_
                        refine XB_done (by kernel_rfl) (fun a ha => ?_)
                        have H346 : Holds (([.bx bp0 69 [vp0_0, .int .i64 p0_1]] : List Res).flatMap Res.own) w w343 [.bx bp0 69 [vp0_0, .int .i64 x83.1], .sl 3 (.int .i64) v342 x104] G := (((H345.cut 2).cut 2).pull 1)
                        exact ⟨v342, ha.sub ⟨rfl, rfl, trivial⟩, H346⟩
            · refine XB_do rfl ?_
              refine WL_call rfl rfl c65 (w_spec_l20Rd__pick w279 ([.sl 3 (.int .i64) vp50 p50] ++ G) bp0 vp0_0 p0_0 (hp0_0.c) x60.1 2 x83 hx84 H281.ctx) (by rfl) ?_
              rintro _ w347 ⟨rfl, H348⟩; refine ⟨_, rfl, ?_⟩
              have H349 : Holds (([.bx bp0 69 [vp0_0, .int .i64 p0_1]] : List Res).flatMap Res.own) w w347 [.bx bp0 69 [vp0_0, .int .i64 x83.1], .sl 3 (.int .i64) vp50 p50] G := H281.calledN (Rs := [_]) H348
              refine WL_nil fun a ha => ⟨rfl, (?_ : XB _ _ _ _ _ _ _ _) a ha⟩
              refine XB_all [0, 7] (by kernel_rfl) (by simp) (allc ?_ (allc ?_ alln))
              · refine XB_do rfl ?_
                refine WL_buildH (t := (.int .i64)) (args := [.const (.int .i64 (-1)), .const (.int .i64 21)]) (xs := ([(-1), 21] : List Int)) H349 (BltL.cons (Blt.int) rfl (BltL.cons (Blt.int) rfl (BltL.nil))) u23 j3 rfl rfl rfl rfl rfl rfl (fun v350 w351 H352 => ?_)
                have H353 : Holds (([.bx bp0 69 [vp0_0, .int .i64 p0_1]] : List Res).flatMap Res.own) w w351 [.sl 3 (.int .i64) v350 ([(-1), 21]), .bx bp0 69 [vp0_0, .int .i64 x83.1], .sl 3 (.int .i64) vp50 p50] G := H352
                refine WL_nil fun a ha => ⟨rfl, (?_ : XB _ _ _ _ _ _ _ _) a ha⟩
                refine XB_indexH (i := 3) rfl (by kernel_rfl) (by kernel_rfl) (by kernel_rfl) H353.ctx (Has.hd) hx90 u23 i3 rfl rfl rfl rfl (fun b354 off355 cap356 hv357 => ?_)
                refine XB_all [4, 7] (by kernel_rfl) (by simp) (allc ?_ (allc ?_ alln))
                · refine XB_do rfl ?_
                  obtain ⟨F358, hat359, hdup360⟩ := H353.at (Has.hd) hx90 hv357
                  refine XL_load_int (k := .i64) u3 rfl hat359 rfl rfl rfl ?_
                  refine WL_nil fun a ha => ⟨rfl, (?_ : XB _ _ _ _ _ _ _ _) a ha⟩
                  refine XB_all [5, 7] (by kernel_rfl) (by simp) (allc ?_ (allc ?_ alln))
                  · refine XB_do rfl ?_
                    refine WL_buildH (t := (.int .i64)) (args := [.tmp 41]) (xs := ([x89] : List Int)) H353 (BltL.cons (Blt.int) rfl (BltL.nil)) u23 j3 rfl rfl rfl rfl rfl rfl (fun v361 w362 H363 => ?_)
                    have H364 : Holds (([.bx bp0 69 [vp0_0, .int .i64 p0_1]] : List Res).flatMap Res.own) w w362 [.sl 3 (.int .i64) v361 ([x89]), .sl 3 (.int .i64) v350 ([(-1), 21]), .bx bp0 69 [vp0_0, .int .i64 x83.1], .sl 3 (.int .i64) vp50 p50] G := H363
                    refine WL_nil fun a ha => ⟨rfl, (?_ : XB _ _ _ _ _ _ _ _) a ha⟩
                    refine XB_all [7] (by kernel_rfl) (by simp) (allc ?_ alln)
                    · refine XB_do rfl ?_
                      refine XL_sliceH H364.ctx (Has.c (Has.c (Has.c (Has.hd)))) hx103 u23 i3 ⟨_, rfl⟩ rfl rfl rfl rfl ?_
                      refine WL_nil fun a ha => ⟨rfl, (?_ : XB _ _ _ _ _ _ _ _) a ha⟩
                      refine XB_all [8] (by kernel_rfl) (by simp) (allc ?_ alln)
                      · refine XB_do rfl ?_
                        refine WL_appendH H364 (Has.sub (Has.c (Has.c (Has.c (Has.hd)))) hx103) hx105 u23 j3 rfl rfl rfl rfl rfl rfl (fun v365 w366 H367 => ?_)
                        have H368 : Holds (([.bx bp0 69 [vp0_0, .int .i64 p0_1]] : List Res).flatMap Res.own) w w366 [.sl 3 (.int .i64) v365 x104, .sl 3 (.int .i64) v350 ([(-1), 21]), .bx bp0 69 [vp0_0, .int .i64 x83.1], .sl 3 (.int .i64) vp50 p50] G := H367
                        refine WL_nil fun a ha => ⟨rfl, (?_ : XB _ _ _ _ _ _ _ _) a ha⟩
                        refine XB_take (i := 9) rfl (by kernel_rfl) (by kernel_rfl) (by kernel_rfl) rfl (fun _ => qt_assign rfl) rfl rfl ?_
                        refine XB_done (by kernel_rfl) (fun a ha => ?_)
                        have H369 : Holds (([.bx bp0 69 [vp0_0, .int .i64 p0_1]] : List Res).flatMap Res.own) w w366 [.bx bp0 69 [vp0_0, .int .i64 x83.1], .sl 3 (.int .i64) v365 x104] G := (((H368.cut 1).cut 2).pull 1)
                        exact ⟨v365, ha.sub ⟨rfl, rfl, trivial⟩, H369⟩
                  · refine XB_do rfl ?_
                    refine XL_sliceH H353.ctx (Has.c (Has.c (Has.hd))) hx103 u23 i3 ⟨_, rfl⟩ rfl rfl rfl rfl ?_
                    refine WL_nil fun a ha => ⟨rfl, (?_ : XB _ _ _ _ _ _ _ _) a ha⟩
                    refine XB_all [5] (by kernel_rfl) (by simp) (allc ?_ alln)
                    · refine XB_do rfl ?_
                      refine WL_buildH (t := (.int .i64)) (args := [.tmp 41]) (xs := ([x89] : List Int)) H353 (BltL.cons (Blt.int) rfl (BltL.nil)) u23 j3 rfl rfl rfl rfl rfl rfl (fun v370 w371 H372 => ?_)
                      have H373 : Holds (([.bx bp0 69 [vp0_0, .int .i64 p0_1]] : List Res).flatMap Res.own) w w371 [.sl 3 (.int .i64) v370 ([x89]), .sl 3 (.int .i64) v350 ([(-1), 21]), .bx bp0 69 [vp0_0, .int .i64 x83.1], .sl 3 (.int .i64) vp50 p50] G := H372
                      refine WL_nil fun a ha => ⟨rfl, (?_ : XB _ _ _ _ _ _ _ _) a ha⟩
                      refine XB_all [8] (by kernel_rfl) (by simp) (allc ?_ alln)
                      · refine XB_do rfl ?_
                        refine WL_appendH H373 (Has.sub (Has.c (Has.c (Has.c (Has.hd)))) hx103) hx105 u23 j3 rfl rfl rfl rfl rfl rfl (fun v374 w375 H376 => ?_)
                        have H377 : Holds (([.bx bp0 69 [vp0_0, .int .i64 p0_1]] : List Res).flatMap Res.own) w w375 [.sl 3 (.int .i64) v374 x104, .sl 3 (.int .i64) v350 ([(-1), 21]), .bx bp0 69 [vp0_0, .int .i64 x83.1], .sl 3 (.int .i64) vp50 p50] G := H376
                        refine WL_nil fun a ha => ⟨rfl, (?_ : XB _ _ _ _ _ _ _ _) a ha⟩
                        refine XB_take (i := 9) rfl (by kernel_rfl) (by kernel_rfl) (by kernel_rfl) rfl (fun _ => qt_assign rfl) rfl rfl ?_
                        refine XB_done (by kernel_rfl) (fun a ha => ?_)
                        have H378 : Holds (([.bx bp0 69 [vp0_0, .int .i64 p0_1]] : List Res).flatMap Res.own) w w375 [.bx bp0 69 [vp0_0, .int .i64 x83.1], .sl 3 (.int .i64) v374 x104] G := (((H377.cut 1).cut 2).pull 1)
                        exact ⟨v374, ha.sub ⟨rfl, rfl, trivial⟩, H378⟩
                · refine XB_do rfl ?_
                  refine XL_sliceH H353.ctx (Has.c (Has.c (Has.hd))) hx103 u23 i3 ⟨_, rfl⟩ rfl rfl rfl rfl ?_
                  refine WL_nil fun a ha => ⟨rfl, (?_ : XB _ _ _ _ _ _ _ _) a ha⟩
                  refine XB_all [4] (by kernel_rfl) (by simp) (allc ?_ alln)
                  · refine XB_do rfl ?_
                    obtain ⟨F379, hat380, hdup381⟩ := H353.at (Has.hd) hx90 hv357
                    refine XL_load_int (k := .i64) u3 rfl hat380 rfl rfl rfl ?_
                    refine WL_nil fun a ha => ⟨rfl, (?_ : XB _ _ _ _ _ _ _ _) a ha⟩
                    refine XB_all [5] (by kernel_rfl) (by simp) (allc ?_ alln)
                    · refine XB_do rfl ?_
                      refine WL_buildH (t := (.int .i64)) (args := [.tmp 41]) (xs := ([x89] : List Int)) H353 (BltL.cons (Blt.int) rfl (BltL.nil)) u23 j3 rfl rfl rfl rfl rfl rfl (fun v382 w383 H384 => ?_)
                      have H385 : Holds (([.bx bp0 69 [vp0_0, .int .i64 p0_1]] : List Res).flatMap Res.own) w w383 [.sl 3 (.int .i64) v382 ([x89]), .sl 3 (.int .i64) v350 ([(-1), 21]), .bx bp0 69 [vp0_0, .int .i64 x83.1], .sl 3 (.int .i64) vp50 p50] G := H384
                      refine WL_nil fun a ha => ⟨rfl, (?_ : XB _ _ _ _ _ _ _ _) a ha⟩
                      refine XB_all [8] (by kernel_rfl) (by simp) (allc ?_ alln)
                      · refine XB_do rfl ?_
                        refine WL_appendH H385 (Has.sub (Has.c (Has.c (Has.c (Has.hd)))) hx103) hx105 u23 j3 rfl rfl rfl rfl rfl rfl (fun v386 w387 H388 => ?_)
                        have H389 : Holds (([.bx bp0 69 [vp0_0, .int .i64 p0_1]] : List Res).flatMap Res.own) w w387 [.sl 3 (.int .i64) v386 x104, .sl 3 (.int .i64) v350 ([(-1), 21]), .bx bp0 69 [vp0_0, .int .i64 x83.1], .sl 3 (.int .i64) vp50 p50] G := H388
                        refine WL_nil fun a ha => ⟨rfl, (?_ : XB _ _ _ _ _ _ _ _) a ha⟩
                        refine XB_take (i := 9) rfl (by kernel_rfl) (by kernel_rfl) (by kernel_rfl) rfl (fun _ => qt_assign rfl) rfl rfl ?_
                        refine XB_done (by kernel_rfl) (fun a ha => ?_)
                        have H390 : Holds (([.bx bp0 69 [vp0_0, .int .i64 p0_1]] : List Res).flatMap Res.own) w w387 [.bx bp0 69 [vp0_0, .int .i64 x83.1], .sl 3 (.int .i64) v386 x104] G := (((H389.cut 1).cut 2).pull 1)
                        exact ⟨v386, ha.sub ⟨rfl, rfl, trivial⟩, H390⟩
              · refine XB_do rfl ?_
                refine XL_sliceH H349.ctx (Has.c (Has.hd)) hx103 u23 i3 ⟨_, rfl⟩ rfl rfl rfl rfl ?_
                refine WL_nil fun a ha => ⟨rfl, (?_ : XB _ _ _ _ _ _ _ _) a ha⟩
                refine XB_all [0] (by kernel_rfl) (by simp) (allc ?_ alln)
                · refine XB_do rfl ?_
                  refine WL_buildH (t := (.int .i64)) (args := [.const (.int .i64 (-1)), .const (.int .i64 21)]) (xs := ([(-1), 21] : List Int)) H349 (BltL.cons (Blt.int) rfl (BltL.cons (Blt.int) rfl (BltL.nil))) u23 j3 rfl rfl rfl rfl rfl rfl (fun v391 w392 H393 => ?_)
                  have H394 : Holds (([.bx bp0 69 [vp0_0, .int .i64 p0_1]] : List Res).flatMap Res.own) w w392 [.sl 3 (.int .i64) v391 ([(-1), 21]), .bx bp0 69 [vp0_0, .int .i64 x83.1], .sl 3 (.int .i64) vp50 p50] G := H393
                  refine WL_nil fun a ha => ⟨rfl, (?_ : XB _ _ _ _ _ _ _ _) a ha⟩
                  refine XB_indexH (i := 3) rfl (by kernel_rfl) (by kernel_rfl) (by kernel_rfl) H394.ctx (Has.hd) hx90 u23 i3 rfl rfl rfl rfl (fun b395 off396 cap397 hv398 => ?_)
                  refine XB_all [4] (by kernel_rfl) (by simp) (allc ?_ alln)
                  · refine XB_do rfl ?_
                    obtain ⟨F399, hat400, hdup401⟩ := H394.at (Has.hd) hx90 hv398
                    refine XL_load_int (k := .i64) u3 rfl hat400 rfl rfl rfl ?_
                    refine WL_nil fun a ha => ⟨rfl, (?_ : XB _ _ _ _ _ _ _ _) a ha⟩
                    refine XB_all [5] (by kernel_rfl) (by simp) (allc ?_ alln)
                    · refine XB_do rfl ?_
                      refine WL_buildH (t := (.int .i64)) (args := [.tmp 41]) (xs := ([x89] : List Int)) H394 (BltL.cons (Blt.int) rfl (BltL.nil)) u23 j3 rfl rfl rfl rfl rfl rfl (fun v402 w403 H404 => ?_)
                      have H405 : Holds (([.bx bp0 69 [vp0_0, .int .i64 p0_1]] : List Res).flatMap Res.own) w w403 [.sl 3 (.int .i64) v402 ([x89]), .sl 3 (.int .i64) v391 ([(-1), 21]), .bx bp0 69 [vp0_0, .int .i64 x83.1], .sl 3 (.int .i64) vp50 p50] G := H404
                      refine WL_nil fun a ha => ⟨rfl, (?_ : XB _ _ _ _ _ _ _ _) a ha⟩
                      refine XB_all [8] (by kernel_rfl) (by simp) (allc ?_ alln)
                      · refine XB_do rfl ?_
                        refine WL_appendH H405 (Has.sub (Has.c (Has.c (Has.c (Has.hd)))) hx103) hx105 u23 j3 rfl rfl rfl rfl rfl rfl (fun v406 w407 H408 => ?_)
                        have H409 : Holds (([.bx bp0 69 [vp0_0, .int .i64 p0_1]] : List Res).flatMap Res.own) w w407 [.sl 3 (.int .i64) v406 x104, .sl 3 (.int .i64) v391 ([(-1), 21]), .bx bp0 69 [vp0_0, .int .i64 x83.1], .sl 3 (.int .i64) vp50 p50] G := H408
                        refine WL_nil fun a ha => ⟨rfl, (?_ : XB _ _ _ _ _ _ _ _) a ha⟩
                        refine XB_take (i := 9) rfl (by kernel_rfl) (by kernel_rfl) (by kernel_rfl) rfl (fun _ => qt_assign rfl) rfl rfl ?_
                        refine XB_done (by kernel_rfl) (fun a ha => ?_)
                        have H410 : Holds (([.bx bp0 69 [vp0_0, .int .i64 p0_1]] : List Res).flatMap Res.own) w w407 [.bx bp0 69 [vp0_0, .int .i64 x83.1], .sl 3 (.int .i64) v406 x104] G := (((H409.cut 1).cut 2).pull 1)
                        exact ⟨v406, ha.sub ⟨rfl, rfl, trivial⟩, H410⟩
            · refine XB_do rfl ?_
              refine XL_sliceH H281.ctx (Has.c (Has.hd)) hx103 u23 i3 ⟨_, rfl⟩ rfl rfl rfl rfl ?_
              refine WL_nil fun a ha => ⟨rfl, (?_ : XB _ _ _ _ _ _ _ _) a ha⟩
              refine XB_all [0, 2] (by kernel_rfl) (by simp) (allc ?_ (allc ?_ alln))
              · refine XB_do rfl ?_
                refine WL_buildH (t := (.int .i64)) (args := [.const (.int .i64 (-1)), .const (.int .i64 21)]) (xs := ([(-1), 21] : List Int)) H281 (BltL.cons (Blt.int) rfl (BltL.cons (Blt.int) rfl (BltL.nil))) u23 j3 rfl rfl rfl rfl rfl rfl (fun v411 w412 H413 => ?_)
                have H414 : Holds (([.bx bp0 69 [vp0_0, .int .i64 p0_1]] : List Res).flatMap Res.own) w w412 [.sl 3 (.int .i64) v411 ([(-1), 21]), .bx bp0 69 [vp0_0, .int .i64 x60.1], .sl 3 (.int .i64) vp50 p50] G := H413
                refine WL_nil fun a ha => ⟨rfl, (?_ : XB _ _ _ _ _ _ _ _) a ha⟩
                refine XB_all [2] (by kernel_rfl) (by simp) (allc ?_ alln)
                · refine XB_do rfl ?_
                  have H415 : Holds (([.bx bp0 69 [vp0_0, .int .i64 p0_1]] : List Res).flatMap Res.own) w w412 [.bx bp0 69 [vp0_0, .int .i64 x60.1], .sl 3 (.int .i64) v411 ([(-1), 21]), .sl 3 (.int .i64) vp50 p50] G := H414.pull 1
                  refine WL_call rfl rfl c65 (w_spec_l20Rd__pick w412 ([.sl 3 (.int .i64) v411 ([(-1), 21]), .sl 3 (.int .i64) vp50 p50] ++ G) bp0 vp0_0 p0_0 (hp0_0.c.c) x60.1 2 x83 hx84 H415.ctx) (by rfl) ?_
                  rintro _ w416 ⟨rfl, H417⟩; refine ⟨_, rfl, ?_⟩
                  have H418 : Holds (([.bx bp0 69 [vp0_0, .int .i64 p0_1]] : List Res).flatMap Res.own) w w416 [.bx bp0 69 [vp0_0, .int .i64 x83.1], .sl 3 (.int .i64) v411 ([(-1), 21]), .sl 3 (.int .i64) vp50 p50] G := H415.calledN (Rs := [_]) H417
                  refine WL_nil fun a ha => ⟨rfl, (?_ : XB _ _ _ _ _ _ _ _) a ha⟩
                  refine XB_indexH (i := 3) rfl (by kernel_rfl) (by kernel_rfl) (by kernel_rfl) H418.ctx (Has.c (Has.hd)) hx90 u23 i3 rfl rfl rfl rfl (fun b419 off420 cap421 hv422 => ?_)
                  refine XB_all [4] (by kernel_rfl) (by simp) (allc ?_ alln)
                  · refine XB_do rfl ?_
                    obtain ⟨F423, hat424, hdup425⟩ := H418.at (Has.c (Has.hd)) hx90 hv422
                    refine XL_load_int (k := .i64) u3 rfl hat424 rfl rfl rfl ?_
                    refine WL_nil fun a ha => ⟨rfl, (?_ : XB _ _ _ _ _ _ _ _) a ha⟩
                    refine XB_all [5] (by kernel_rfl) (by simp) (allc ?_ alln)
                    · refine XB_do rfl ?_
                      refine WL_buildH (t := (.int .i64)) (args := [.tmp 41]) (xs := ([x89] : List Int)) H418 (BltL.cons (Blt.int) rfl (BltL.nil)) u23 j3 rfl rfl rfl rfl rfl rfl (fun v426 w427 H428 => ?_)
                      have H429 : Holds (([.bx bp0 69 [vp0_0, .int .i64 p0_1]] : List Res).flatMap Res.own) w w427 [.sl 3 (.int .i64) v426 ([x89]), .bx bp0 69 [vp0_0, .int .i64 x83.1], .sl 3 (.int .i64) v411 ([(-1), 21]), .sl 3 (.int .i64) vp50 p50] G := H428
                      refine WL_nil fun a ha => ⟨rfl, (?_ : XB _ _ _ _ _ _ _ _) a ha⟩
                      refine XB_all [8] (by kernel_rfl) (by simp) (allc ?_ alln)
                      · refine XB_do rfl ?_
                        refine WL_appendH H429 (Has.sub (Has.c (Has.c (Has.c (Has.hd)))) hx103) hx105 u23 j3 rfl rfl rfl rfl rfl rfl (fun v430 w431 H432 => ?_)
                        have H433 : Holds (([.bx bp0 69 [vp0_0, .int .i64 p0_1]] : List Res).flatMap Res.own) w w431 [.sl 3 (.int .i64) v430 x104, .bx bp0 69 [vp0_0, .int .i64 x83.1], .sl 3 (.int .i64) v411 ([(-1), 21]), .sl 3 (.int .i64) vp50 p50] G := H432
                        refine WL_nil fun a ha => ⟨rfl, (?_ : XB _ _ _ _ _ _ _ _) a ha⟩
                        refine XB_take (i := 9) rfl (by kernel_rfl) (by kernel_rfl) (by kernel_rfl) rfl (fun _ => qt_assign rfl) rfl rfl ?_
                        refine XB_done (by kernel_rfl) (fun a ha => ?_)
                        have H434 : Holds (([.bx bp0 69 [vp0_0, .int .i64 p0_1]] : List Res).flatMap Res.own) w w431 [.bx bp0 69 [vp0_0, .int .i64 x83.1], .sl 3 (.int .i64) v430 x104] G := (((H433.cut 2).cut 2).pull 1)
                        exact ⟨v430, ha.sub ⟨rfl, rfl, trivial⟩, H434⟩
              · refine XB_do rfl ?_
                refine WL_call rfl rfl c65 (w_spec_l20Rd__pick w279 ([.sl 3 (.int .i64) vp50 p50] ++ G) bp0 vp0_0 p0_0 (hp0_0.c) x60.1 2 x83 hx84 H281.ctx) (by rfl) ?_
                rintro _ w435 ⟨rfl, H436⟩; refine ⟨_, rfl, ?_⟩
                have H437 : Holds (([.bx bp0 69 [vp0_0, .int .i64 p0_1]] : List Res).flatMap Res.own) w w435 [.bx bp0 69 [vp0_0, .int .i64 x83.1], .sl 3 (.int .i64) vp50 p50] G := H281.calledN (Rs := [_]) H436
                refine WL_nil fun a ha => ⟨rfl, (?_ : XB _ _ _ _ _ _ _ _) a ha⟩
                refine XB_all [0] (by kernel_rfl) (by simp) (allc ?_ alln)
                · refine XB_do rfl ?_
                  refine WL_buildH (t := (.int .i64)) (args := [.const (.int .i64 (-1)), .const (.int .i64 21)]) (xs := ([(-1), 21] : List Int)) H437 (BltL.cons (Blt.int) rfl (BltL.cons (Blt.int) rfl (BltL.nil))) u23 j3 rfl rfl rfl rfl rfl rfl (fun v438 w439 H440 => ?_)
                  have H441 : Holds (([.bx bp0 69 [vp0_0, .int .i64 p0_1]] : List Res).flatMap Res.own) w w439 [.sl 3 (.int .i64) v438 ([(-1), 21]), .bx bp0 69 [vp0_0, .int .i64 x83.1], .sl 3 (.int .i64) vp50 p50] G := H440
                  refine WL_nil fun a ha => ⟨rfl, (?_ : XB _ _ _ _ _ _ _ _) a ha⟩
                  refine XB_indexH (i := 3) rfl (by kernel_rfl) (by kernel_rfl) (by kernel_rfl) H441.ctx (Has.hd) hx90 u23 i3 rfl rfl rfl rfl (fun b442 off443 cap444 hv445 => ?_)
                  refine XB_all [4] (by kernel_rfl) (by simp) (allc ?_ alln)
                  · refine XB_do rfl ?_
                    obtain ⟨F446, hat447, hdup448⟩ := H441.at (Has.hd) hx90 hv445
                    refine XL_load_int (k := .i64) u3 rfl hat447 rfl rfl rfl ?_
                    refine WL_nil fun a ha => ⟨rfl, (?_ : XB _ _ _ _ _ _ _ _) a ha⟩
                    refine XB_all [5] (by kernel_rfl) (by simp) (allc ?_ alln)
                    · refine XB_do rfl ?_
                      refine WL_buildH (t := (.int .i64)) (args := [.tmp 41]) (xs := ([x89] : List Int)) H441 (BltL.cons (Blt.int) rfl (BltL.nil)) u23 j3 rfl rfl rfl rfl rfl rfl (fun v449 w450 H451 => ?_)
                      have H452 : Holds (([.bx bp0 69 [vp0_0, .int .i64 p0_1]] : List Res).flatMap Res.own) w w450 [.sl 3 (.int .i64) v449 ([x89]), .sl 3 (.int .i64) v438 ([(-1), 21]), .bx bp0 69 [vp0_0, .int .i64 x83.1], .sl 3 (.int .i64) vp50 p50] G := H451
                      refine WL_nil fun a ha => ⟨rfl, (?_ : XB _ _ _ _ _ _ _ _) a ha⟩
                      refine XB_all [8] (by kernel_rfl) (by simp) (allc ?_ alln)
                      · refine XB_do rfl ?_
                        refine WL_appendH H452 (Has.sub (Has.c (Has.c (Has.c (Has.hd)))) hx103) hx105 u23 j3 rfl rfl rfl rfl rfl rfl (fun v453 w454 H455 => ?_)
                        have H456 : Holds (([.bx bp0 69 [vp0_0, .int .i64 p0_1]] : List Res).flatMap Res.own) w w454 [.sl 3 (.int .i64) v453 x104, .sl 3 (.int .i64) v438 ([(-1), 21]), .bx bp0 69 [vp0_0, .int .i64 x83.1], .sl 3 (.int .i64) vp50 p50] G := H455
                        refine WL_nil fun a ha => ⟨rfl, (?_ : XB _ _ _ _ _ _ _ _) a ha⟩
                        refine XB_take (i := 9) rfl (by kernel_rfl) (by kernel_rfl) (by kernel_rfl) rfl (fun _ => qt_assign rfl) rfl rfl ?_
                        refine XB_done (by kernel_rfl) (fun a ha => ?_)
                        have H457 : Holds (([.bx bp0 69 [vp0_0, .int .i64 p0_1]] : List Res).flatMap Res.own) w w454 [.bx bp0 69 [vp0_0, .int .i64 x83.1], .sl 3 (.int .i64) v453 x104] G := (((H456.cut 1).cut 2).pull 1)
                        exact ⟨v453, ha.sub ⟨rfl, rfl, trivial⟩, H457⟩
          · intro a w458 hI459
            obtain ⟨vz78_0, ha, H460⟩ := hI459
            refine WP.app ?_ ha
            clear ha
            refine WP_ret fun a ha => ?_
            obtain rfl := Option.some.inj h
            have H461 : Holds (([.bx bp0 69 [vp0_0, .int .i64 p0_1]] : List Res).flatMap Res.own) w w458 [.sl 3 (.int .i64) vz78_0 x104, .bx bp0 69 [vp0_0, .int .i64 x83.1]] G := (H460.pull 1)
            exact ret_block (ret_seq (ret1 rfl ha rfl ⟨vz78_0, rfl, H461⟩))
        · have h := if_f hc78 h
          refine WP_seq ?_
          refine WP_region ?_
          refine WL_buildH (t := (.int .i64)) (args := [.const (.int .i64 1), .const (.int .i64 1), .const (.int .i64 1), .const (.int .i64 1), .const (.int .i64 1), .const (.int .i64 1), .const (.int .i64 1), .const (.int .i64 1)]) (xs := ([1, 1, 1, 1, 1, 1, 1, 1] : List Int)) H64 (BltL.cons (Blt.int) rfl (BltL.cons (Blt.int) rfl (BltL.cons (Blt.int) rfl (BltL.cons (Blt.int) rfl (BltL.cons (Blt.int) rfl (BltL.cons (Blt.int) rfl (BltL.cons (Blt.int) rfl (BltL.cons (Blt.int) rfl (BltL.nil))))))))) u23 j3 rfl rfl rfl rfl rfl rfl (fun v462 w463 H464 => ?_)
          have H465 : Holds (([.bx bp0 69 [vp0_0, .int .i64 p0_1]] : List Res).flatMap Res.own) w w463 [.sl 3 (.int .i64) v462 ([1, 1, 1, 1, 1, 1, 1, 1]), .bx bp0 69 [vp0_0, .int .i64 x60.1], .sl 3 (.int .i64) vp50 p50] G := H464
          refine XL_q rfl (qt_assign rfl) rfl rfl ?_
          refine WL_nil_seq ?_
          refine WP_ret fun a ha => ?_
          obtain rfl := Option.some.inj h
          have H466 : Holds (([.bx bp0 69 [vp0_0, .int .i64 p0_1]] : List Res).flatMap Res.own) w w463 [.sl 3 (.int .i64) v462 ([1, 1, 1, 1, 1, 1, 1, 1]), .bx bp0 69 [vp0_0, .int .i64 x60.1]] G := (((H465.cut 2).pull 1).pull 1)
          exact ret_block (ret_seq (ret1 rfl ha rfl ⟨v462, rfl, H466⟩))
    · have h := if_f hc59 h
      refine WP_skip_seq ?_
      refine WP_seq ?_
      refine WP_seq ?_
      refine WP_still ?_
      refine XL_q rfl (qt_move rfl) rfl rfl ?_
      obtain ⟨x467, hx468, h⟩ := bind_some h
      refine QL_call rfl rfl c47 (fun w' hb => (w_spec_l1Sum w' ([.bx bp0 69 [vp0_0, .int .i64 x54.1], .sl 3 (.int .i64) vp50 p50] ++ G) vp50 p50 (Has.c (Has.hd)) x467 hx468 (H58.grow hb).ctx).mono fun e w'' hK => ⟨hK.1, hK.2.bel⟩) (by rfl) ?_
      refine XL_q rfl (qt_eql rfl rfl) rfl rfl ?_
      refine QL_nil fun a ha w469 hb470 => ?_
      have H471 : Holds (([.bx bp0 69 [vp0_0, .int .i64 p0_1]] : List Res).flatMap Res.own) w w469 [.bx bp0 69 [vp0_0, .int .i64 x54.1], .sl 3 (.int .i64) vp50 p50] G := H58.grow hb470
      refine nrm_seq (WP.app ?_ ha)
      obtain ⟨o473, ho474, h⟩ := bind_some h
      obtain ⟨j472, rfl⟩ : ∃ z, z = o473 := ⟨o473, rfl⟩
      refine WP_join (M := fun a w2 => ∃ vp50, Fr a 52 [(0, .pointer (some ⟨bp0, 0, none⟩)), (5, vp50)] ∧ Holds (([.bx bp0 69 [vp0_0, .int .i64 p0_1]] : List Res).flatMap Res.own) w w2 [.bx bp0 69 [vp0_0, .int .i64 x54.1], .sl 3 (.int .i64) vp50 j472] G) ?_ ?_
      · refine WP_cond rfl (fun hc475 => ?_) (fun hc475 => ?_)
        · have ho474 := if_t hc475 ho474
          refine WP_region ?_
          refine XL_q rfl (qt_move rfl) rfl rfl ?_
          obtain ⟨x476, hx477, ho474⟩ := bind_some ho474
          refine XL_indexH H471.ctx (Has.c (Has.hd)) hx477 u23 i3 rfl rfl rfl rfl (fun b478 off479 cap480 hv481 => ?_)
          have H482 : Holds (([.bx bp0 69 [vp0_0, .int .i64 p0_1]] : List Res).flatMap Res.own) w w469 [.sl 3 (.int .i64) vp50 p50, .bx bp0 69 [vp0_0, .int .i64 x54.1]] G := H471.pull 1
          refine WL_storeH (fo := 0) (cs' := [.int .i64 1]) H482 hx477 hv481 (Upd.whole (Blt.int)) rfl il3 rfl rfl rfl rfl (fun w483 H484 => ?_)
          have H485 : Holds (([.bx bp0 69 [vp0_0, .int .i64 p0_1]] : List Res).flatMap Res.own) w w483 [.sl 3 (.int .i64) vp50 (List.set p50 (Int.toNat 0) 1), .bx bp0 69 [vp0_0, .int .i64 x54.1]] G := H484
          refine WL_nil fun a ha => ?_
          obtain rfl := Option.some.inj ho474
          have H486 : Holds (([.bx bp0 69 [vp0_0, .int .i64 p0_1]] : List Res).flatMap Res.own) w w483 [.bx bp0 69 [vp0_0, .int .i64 x54.1], .sl 3 (.int .i64) vp50 (List.set p50 (Int.toNat 0) 1)] G := (H485.pull 1)
          exact nrm_seq (⟨vp50, ha.sub ⟨rfl, rfl, trivial⟩, H486⟩)
        · have ho474 := if_f hc475 ho474
          refine WP_skip fun a ha => ?_
          obtain rfl := Option.some.inj ho474
          have H487 : Holds (([.bx bp0 69 [vp0_0, .int .i64 p0_1]] : List Res).flatMap Res.own) w w469 [.bx bp0 69 [vp0_0, .int .i64 x54.1], .sl 3 (.int .i64) vp50 p50] G := ((H471.pull 1).pull 1)
          exact nrm_seq (⟨vp50, ha.sub ⟨rfl, rfl, trivial⟩, H487⟩)
      · intro a w488 hI489
        obtain ⟨vp50, ha, H490⟩ := hI489
        refine WP.app ?_ ha
        clear ha
        refine WP_seq ?_
        refine WP_region ?_
        refine XL_q rfl (qt_move rfl) rfl rfl ?_
        refine XL_q rfl (qt_assign rfl) rfl rfl ?_
        refine WL_nil_seq ?_
        refine WP_ret fun a ha => ?_
        obtain rfl := Option.some.inj h
        have H491 : Holds (([.bx bp0 69 [vp0_0, .int .i64 p0_1]] : List Res).flatMap Res.own) w w488 [.sl 3 (.int .i64) vp50 j472, .bx bp0 69 [vp0_0, .int .i64 x54.1]] G := (H490.pull 1)
        exact ret1 rfl ha rfl ⟨vp50, rfl, H491⟩
theorem w_spec_DrawSharesValid (w : World) (G : List Res) (vp0 : Value) (p0 : List Int) (hp0 : HasRo G (.int .u8) vp0 p0) (r : (List Int)) (h : spec_DrawSharesValidS p0 = some r) (H : Ctx w G) : Calls Tryd.prog 16 #[vp0] w fun e w' => ∃ (v1 : Value), e = .returned (v1) ∧ Holds (([] : List Res).flatMap Res.own) w w' [.sl 3 (.int .i64) v1 r] G := by
  have H : Holds (([] : List Res).flatMap Res.own) w w [] G := Holds.startN H
  refine calls_enter (args := [vp0]) (n := 6) Tryd.func16 rfl rfl rfl ?_
  unfold spec_DrawSharesValidS at h
  refine WP_seq ?_
  refine WP_region ?_
  refine XL_q rfl (qt_assign rfl) rfl rfl ?_
  refine WL_nil_seq ?_
  refine WP_seq ?_
  refine WP_region ?_
  refine XL_q rfl (qt_move rfl) rfl rfl ?_
  obtain ⟨x1, hx2, h⟩ := bind_some h
  refine WL_call rfl rfl c44 (w_spec_l20Open w G vp0 p0 (hp0) x1 hx2 H.ctx) (by rfl) ?_
  rintro _ w3 ⟨v5, b6, rfl, H4⟩; refine ⟨_, rfl, ?_⟩
  have H7 : Holds (([] : List Res).flatMap Res.own) w w3 [.ro (.int .u8) v5 x1.1, .bx b6 69 [v5, .int .i64 x1.2]] G := H.calledN (Rs := []) H4
  have H10 : Holds (([] : List Res).flatMap Res.own) w w3 [.bx b6 69 [v5, .int .i64 x1.2], .ro (.int .u8) v5 x1.1] G := H7.pull 1
  obtain ⟨x8, hx9, h⟩ := bind_some h
  refine WL_call rfl rfl c49 (w_spec_l20Shares w3 ([.ro (.int .u8) v5 x1.1] ++ G) b6 v5 x1.1 (HasRo.has (HasRo.hd)) x1.2 2 x8 hx9 H10.ctx) (by rfl) ?_
  rintro _ w11 ⟨v13, rfl, H12⟩; refine ⟨_, rfl, ?_⟩
  have H14 : Holds (([] : List Res).flatMap Res.own) w w11 [.sl 3 (.int .i64) v13 x8.2, .bx b6 69 [v5, .int .i64 x8.1], .ro (.int .u8) v5 x1.1] G := H10.calledN (Rs := [_]) H12
  refine XL_q rfl (qt_assign rfl) rfl rfl ?_
  refine WL_nil_seq ?_
  refine WP_ret fun a ha => ?_
  obtain rfl := Option.some.inj h
  have H15 : Holds (([] : List Res).flatMap Res.own) w w11 [.sl 3 (.int .i64) v13 x8.2] G := ((H14.cut 1).cut 1)
  exact ret1 rfl ha rfl ⟨v13, rfl, H15⟩
theorem w_impl_amountsOk (w : World) (G : List Res) (vp0 : Value) (p0 : List Int) (hp0 : Has G (.int .i64) vp0 p0) (p1 : Int) (p2 : Int) (r : Bool) (h : impl_amountsOkS p0 p1 p2 = some r) (H : Ctx w G) : Calls Tryd.prog 50 #[vp0, .int .i64 p1, .int .i64 p2] w fun e w' => e = .returned (.bool r) ∧ Holds (([] : List Res).flatMap Res.own) w w' [] G := by
  have H : Holds (([] : List Res).flatMap Res.own) w w [] G := Holds.startN H
  refine calls_enter (args := [vp0, .int .i64 p1, .int .i64 p2]) (n := 27) Tryd.func50 rfl rfl rfl ?_
  unfold impl_amountsOkS at h
  refine WP_seq ?_
  refine WP_region ?_
  refine XL_q rfl (qt_assign rfl) rfl rfl ?_
  refine WL_nil_seq ?_
  refine WP_seq ?_
  refine WP_seq ?_
  refine WP_region ?_
  refine XL_q rfl (qt_move rfl) rfl rfl ?_
  refine XL_lenH H.ctx (t := (.int .i64)) (hp0) u23 rfl rfl rfl ?_
  refine XL_q rfl (qt_move rfl) rfl rfl ?_
  refine XL_q rfl (qt_neq rfl rfl) rfl rfl ?_
  refine WL_nil_seq ?_
  refine WP_cond rfl (fun hc1 => ?_) (fun hc1 => ?_)
  · have h := if_t hc1 h
    refine WP_seq ?_
    refine WP_region ?_
    refine XL_q rfl (qt_assign rfl) rfl rfl ?_
    refine WL_nil_seq ?_
    refine WP_ret fun a ha => ?_
    obtain rfl := Option.some.inj h
    exact ret_seq (ret1 rfl ha rfl ⟨rfl, H⟩)
  · have h := if_f hc1 h
    refine WP_skip_seq ?_
    refine WP_seq ?_
    refine WP_seq ?_
    refine WP_region ?_
    refine XL_q rfl (qt_move rfl) rfl rfl ?_
    refine XL_lenH H.ctx (t := (.int .i64)) (hp0) u23 rfl rfl rfl ?_
    refine XL_q rfl (qt_move rfl) rfl rfl ?_
    refine WL_nil_seq ?_
    refine WP_block ?_
    obtain ⟨o3, ho4, h⟩ := bind_some h
    refine fun a5 ha6 => wp_loop_fix (I := fun s a w2 => match s with | s2 => (Fr a 27 [(2, .int .i64 p2), (13, vp0), (14, .int .i64 (List.length p0 : Int)), (15, .int .i64 s2)] ∧ Holds (([] : List Res).flatMap Res.own) w w2 [] G)) (O := fun o e a w2 => match o with | .inl _ => e = .exit 0 ∧ (Fr a 27 [] ∧ Holds (([] : List Res).flatMap Res.own) w w2 [] G) | .inr q0 => e = .ret ∧ (Fr a 27 [(6, .bool q0)] ∧ Holds (([] : List Res).flatMap Res.own) w w2 [] G)) ho4 ?_ ?_ ?_
    · exact ⟨ha6.sub ⟨rfl, rfl, rfl, rfl, trivial⟩, H⟩
    · clear ha6
      intro s o9 a w7 hs8 hI10
      obtain ⟨s2, rfl⟩ : ∃ z, z = s := ⟨s, rfl⟩
      obtain ⟨ha, H11⟩ := hI10
      refine WP.app ?_ ha
      clear ha
      refine WP_seq ?_
      refine WP_region ?_
      refine XL_q rfl (qt_lss rfl rfl) rfl rfl ?_
      refine WL_nil_seq ?_
      refine WP_seq ?_
      refine WP_cond rfl (fun hc12 => ?_) (fun hc12 => ?_)
      · have hs8 := if_t hc12 hs8
        refine WP_skip_seq ?_
        refine WP_seq ?_
        refine WP_block ?_
        refine WP_seq ?_
        refine WP_region ?_
        obtain ⟨x13, hx14, hs8⟩ := bind_some hs8
        refine XL_indexH H11.ctx (hp0) hx14 u23 i3 rfl rfl rfl rfl (fun b15 off16 cap17 hv18 => ?_)
        obtain ⟨F19, hat20, hdup21⟩ := H11.at (hp0) hx14 hv18
        refine XL_load_int (k := .i64) u3 rfl hat20 rfl rfl rfl ?_
        refine XL_q rfl (qt_assign rfl) rfl rfl ?_
        refine WL_nil_seq ?_
        refine WP_seq ?_
        refine WP_region ?_
        refine XL_q rfl (qt_move rfl) rfl rfl ?_
        refine XL_q rfl (qt_lss rfl rfl) rfl rfl ?_
        refine XL_q rfl (qt_move rfl) rfl rfl ?_
        refine XL_join 4 25 (.bool ((decide (x13 < 0)) || (decide (x13 > p2)))) ?_ (fun md hmd hk => ?_)
        rotate_left
        · obtain ⟨Q, rfl⟩ := Md.seq_of hmd
          rcases btf (decide (x13 < 0)) with hc22 | hc22
          · skip
            refine XL_skip (w_skip rfl hc22) rfl rfl ?_
            refine XL_skip (w_skip rfl hc22) rfl rfl ?_
            refine XL_skip (w_skip rfl hc22) rfl rfl ?_
            refine XL_q rfl (qt_pickT rfl hc22 rfl) rfl rfl ?_
            exact hk _ (Cov.same (by rw [hc22]; rfl) (Cov.fresh rfl (Cov.fresh rfl (Cov.fresh rfl (Cov.refl)))))
          · skip
            refine XL_q (w_take rfl hc22) (qt_move rfl) rfl rfl ?_
            refine XL_q (w_take rfl hc22) (qt_move rfl) rfl rfl ?_
            refine XL_q (w_take rfl hc22) (qt_gtr rfl rfl) rfl rfl ?_
            refine XL_q rfl (qt_pickF rfl hc22 rfl) rfl rfl ?_
            exact hk _ (Cov.same (by rw [hc22]; rfl) (Cov.fresh rfl (Cov.fresh rfl (Cov.fresh rfl (Cov.refl)))))
        refine WL_nil_seq ?_
        refine WP_cond rfl (fun hc23 => ?_) (fun hc23 => ?_)
        · have hs8 := if_t hc23 hs8
          refine WP_seq ?_
          refine WP_region ?_
          refine XL_q rfl (qt_assign rfl) rfl rfl ?_
          refine WL_nil_seq ?_
          refine WP_ret fun a ha => ?_
          obtain rfl := Option.some.inj hs8
          exact ret_block (ret_seq (⟨ret_ne, rfl, ha.sub ⟨rfl, trivial⟩, H11⟩))
        · have hs8 := if_f hc23 hs8
          refine WP_skip fun a ha => ?_
          refine nrm_block (nrm_seq (WP.app ?_ ha))
          refine WP_region ?_
          refine XL_q rfl (qt_add rfl rfl) rfl rfl ?_
          refine XL_q rfl (qt_move rfl) rfl rfl ?_
          refine WL_nil fun a ha => ?_
          obtain rfl := Option.some.inj hs8
          exact ⟨rfl, ha.sub ⟨rfl, rfl, rfl, rfl, trivial⟩, H11⟩
      · have hs8 := if_f hc12 hs8
        refine WP_exit fun a ha => ?_
        obtain rfl := Option.some.inj hs8
        exact exit_seq (⟨exit_ne, rfl, ha.sub trivial, H11⟩)
    · intro e a5 w24 hO25
      rcases o3 with o3 | o3
      · skip
        obtain ⟨rfl, hO27⟩ := hO25
        obtain ⟨ha, H26⟩ := hO27
        refine exit_block_eq (nrm_seq (WP.app ?_ ha))
        refine WP_seq ?_
        refine WP_region ?_
        refine XL_q rfl (qt_assign rfl) rfl rfl ?_
        refine WL_nil_seq ?_
        refine WP_ret fun a ha => ?_
        obtain rfl := Option.some.inj h
        exact ret1 rfl ha rfl ⟨rfl, H26⟩
      · skip
        obtain ⟨p28, rfl⟩ : ∃ z, z = o3 := ⟨o3, rfl⟩
        obtain ⟨rfl, hO30⟩ := hO25
        obtain ⟨ha, H29⟩ := hO30
        obtain rfl := Option.some.inj h
        exact ret_block (ret_seq (ret1 rfl ha rfl ⟨rfl, H29⟩))
theorem w_impl_SharesValid (w : World) (G : List Res) (vp0 : Value) (p0 : List Int) (hp0 : Has G (.int .i64) vp0 p0) (r : Bool) (h : impl_SharesValidS p0 = some r) (H : Ctx w G) : Calls Tryd.prog 17 #[vp0] w fun e w' => e = .returned (.bool r) ∧ Holds (([] : List Res).flatMap Res.own) w w' [] G := by
  have H : Holds (([] : List Res).flatMap Res.own) w w [] G := Holds.startN H
  refine calls_enter (args := [vp0]) (n := 21) Tryd.func17 rfl rfl rfl ?_
  unfold impl_SharesValidS at h
  refine WP_seq ?_
  refine WP_region ?_
  refine XL_q rfl (qt_assign rfl) rfl rfl ?_
  refine WL_nil_seq ?_
  refine WP_seq ?_
  refine WP_seq ?_
  refine WP_still ?_
  refine XL_q rfl (qt_move rfl) rfl rfl ?_
  refine XL_lenH H.ctx (t := (.int .i64)) (hp0) u23 rfl rfl rfl ?_
  refine XL_q rfl (qt_lss rfl rfl) rfl rfl ?_
  refine XL_q rfl (qt_move rfl) rfl rfl ?_
  refine XL_join 4 10 (.bool ((decide ((List.length p0 : Int) < 1)) || (decide ((List.length p0 : Int) > 7)))) ?_ (fun md hmd hk => ?_)
  rotate_left
  · obtain ⟨K, rfl⟩ := Md.quiet_of hmd
    rcases btf (decide ((List.length p0 : Int) < 1)) with hc1 | hc1
    · skip
      refine XL_skip (w_skip rfl hc1) rfl rfl ?_
      refine XL_skip (w_skip rfl hc1) rfl rfl ?_
      refine XL_skip (w_skip rfl hc1) rfl rfl ?_
      refine XL_q rfl (qt_pickT rfl hc1 rfl) rfl rfl ?_
      exact hk _ (Cov.same (by rw [hc1]; rfl) (Cov.fresh rfl (Cov.fresh rfl (Cov.fresh rfl (Cov.refl)))))
    · skip
      refine XL_q (w_take rfl hc1) (qt_move rfl) rfl rfl ?_
      refine XL_lenH H.ctx (t := (.int .i64)) (hp0) u23 (w_take rfl hc1) rfl rfl ?_
      refine XL_q (w_take rfl hc1) (qt_gtr rfl rfl) rfl rfl ?_
      refine XL_q rfl (qt_pickF rfl hc1 rfl) rfl rfl ?_
      exact hk _ (Cov.same (by rw [hc1]; rfl) (Cov.fresh rfl (Cov.fresh rfl (Cov.fresh rfl (Cov.refl)))))
  refine XL_q rfl (qt_move rfl) rfl rfl ?_
  obtain ⟨b2, hg3, h⟩ := bind_some h
  refine XL_join 6 17 (.bool b2) ?_ (fun md hmd hk => ?_)
  rotate_left
  · obtain ⟨K, rfl⟩ := Md.quiet_of hmd
    rcases btf ((decide ((List.length p0 : Int) < 1)) || (decide ((List.length p0 : Int) > 7))) with hc4 | hc4
    · skip
      refine XL_skip (w_skip rfl hc4) rfl rfl ?_
      refine XL_skip (w_skip rfl hc4) rfl rfl ?_
      refine XL_skip (w_skip rfl hc4) rfl rfl ?_
      refine XL_skip (w_skip rfl hc4) rfl rfl ?_
      refine XL_skip (w_skip rfl hc4) rfl rfl ?_
      refine XL_q rfl (qt_pickT rfl hc4 rfl) rfl rfl ?_
      exact hk _ (Cov.same (vb (if_t hc4 hg3)) (Cov.fresh rfl (Cov.fresh rfl (Cov.fresh rfl (Cov.fresh rfl (Cov.fresh rfl (Cov.refl)))))))
    · skip
      have hg3 := if_f hc4 hg3
      refine XL_q (w_take rfl hc4) (qt_move rfl) rfl rfl ?_
      refine XL_q (w_take rfl hc4) (qt_move rfl) rfl rfl ?_
      refine XL_lenH H.ctx (t := (.int .i64)) (hp0) u23 (w_take rfl hc4) rfl rfl ?_
      obtain ⟨x5, hx6, hg3⟩ := bind_some hg3
      refine QL_call (w_take rfl hc4) rfl c50 (fun w' hb => (w_impl_amountsOk w' G vp0 p0 (hp0) (List.length p0 : Int) 20 x5 hx6 (H.grow hb).ctx).mono fun e w'' hK => ⟨hK.1, hK.2.bel⟩) (by rfl) ?_
      refine XL_q (w_take rfl hc4) (qt_not rfl) rfl rfl ?_
      refine XL_q rfl (qt_pickF rfl hc4 rfl) rfl rfl ?_
      exact hk _ (Cov.same (vb hg3) (Cov.fresh rfl (Cov.fresh rfl (Cov.fresh rfl (Cov.fresh rfl (Cov.fresh rfl (Cov.refl)))))))
  refine QL_nil fun a ha w7 hb8 => ?_
  have H9 : Holds (([] : List Res).flatMap Res.own) w w7 [] G := H.grow hb8
  refine nrm_seq (WP.app ?_ ha)
  refine WP_cond rfl (fun hc10 => ?_) (fun hc10 => ?_)
  · have h := if_t hc10 h
    refine WP_seq ?_
    refine WP_region ?_
    refine XL_q rfl (qt_assign rfl) rfl rfl ?_
    refine WL_nil_seq ?_
    refine WP_ret fun a ha => ?_
    obtain rfl := Option.some.inj h
    exact ret_seq (ret1 rfl ha rfl ⟨rfl, H9⟩)
  · have h := if_f hc10 h
    refine WP_skip_seq ?_
    refine WP_seq ?_
    refine WP_still ?_
    refine XL_q rfl (qt_move rfl) rfl rfl ?_
    obtain ⟨x11, hx12, h⟩ := bind_some h
    refine QL_call rfl rfl c45 (fun w' hb => (w_impl_sumOf w' G vp0 p0 (hp0) x11 hx12 (H9.grow hb).ctx).mono fun e w'' hK => ⟨hK.1, hK.2.bel⟩) (by rfl) ?_
    refine XL_q rfl (qt_gtr rfl rfl) rfl rfl ?_
    refine XL_q rfl (qt_assign rfl) rfl rfl ?_
    refine QL_nil fun a ha w13 hb14 => ?_
    have H15 : Holds (([] : List Res).flatMap Res.own) w w13 [] G := H9.grow hb14
    refine nrm_seq (WP.app ?_ ha)
    refine WP_ret fun a ha => ?_
    obtain rfl := Option.some.inj h
    exact ret1 rfl ha rfl ⟨rfl, H15⟩
theorem w_spec_SharesValid (w : World) (G : List Res) (vp0 : Value) (p0 : List Int) (hp0 : Has G (.int .i64) vp0 p0) (r : Bool) (h : spec_SharesValidS p0 = some r) (H : Ctx w G) : Calls Tryd.prog 18 #[vp0] w fun e w' => e = .returned (.bool r) ∧ Holds (([] : List Res).flatMap Res.own) w w' [] G := by
  have H : Holds (([] : List Res).flatMap Res.own) w w [] G := Holds.startN H
  refine calls_enter (args := [vp0]) (n := 24) Tryd.func18 rfl rfl rfl ?_
  unfold spec_SharesValidS at h
  refine WP_seq ?_
  refine WP_region ?_
  refine XL_q rfl (qt_assign rfl) rfl rfl ?_
  refine WL_nil_seq ?_
  refine WP_seq ?_
  refine WP_seq ?_
  refine WP_region ?_
  refine XL_q rfl (qt_assign rfl) rfl rfl ?_
  refine WL_nil_seq ?_
  refine WP_block ?_
  obtain ⟨o2, ho3, h⟩ := bind_some h
  refine fun a4 ha5 => wp_loop_fix (I := fun s a w2 => match s with | s1 => (Fr a 24 [(0, vp0), (3, .int .i64 s1)] ∧ Holds (([] : List Res).flatMap Res.own) w w2 [] G)) (O := fun o e a w2 => match o with | .inl _ => e = .exit 0 ∧ (Fr a 24 [(0, vp0)] ∧ Holds (([] : List Res).flatMap Res.own) w w2 [] G) | .inr q0 => e = .ret ∧ (Fr a 24 [(2, .bool q0)] ∧ Holds (([] : List Res).flatMap Res.own) w w2 [] G)) ho3 ?_ ?_ ?_
  · exact ⟨ha5.sub ⟨rfl, rfl, trivial⟩, H⟩
  · clear ha5
    intro s o8 a w6 hs7 hI9
    obtain ⟨s1, rfl⟩ : ∃ z, z = s := ⟨s, rfl⟩
    obtain ⟨ha, H10⟩ := hI9
    refine WP.app ?_ ha
    clear ha
    refine WP_seq ?_
    refine WP_seq ?_
    refine WP_region ?_
    refine XL_q rfl (qt_move rfl) rfl rfl ?_
    refine XL_q rfl (qt_move rfl) rfl rfl ?_
    refine XL_lenH H10.ctx (t := (.int .i64)) (hp0) u23 rfl rfl rfl ?_
    refine XL_q rfl (qt_lss rfl rfl) rfl rfl ?_
    refine WL_nil_seq ?_
    refine WP_cond rfl (fun hc11 => ?_) (fun hc11 => ?_)
    · have hs7 := if_t hc11 hs7
      refine WP_skip_seq ?_
      refine WP_seq ?_
      refine WP_block ?_
      refine WP_seq ?_
      refine WP_still ?_
      refine XL_q rfl (qt_move rfl) rfl rfl ?_
      refine XL_q rfl (qt_move rfl) rfl rfl ?_
      obtain ⟨x12, hx13, hs7⟩ := bind_some hs7
      refine XL_indexH H10.ctx (hp0) hx13 u23 i3 rfl rfl rfl rfl (fun b14 off15 cap16 hv17 => ?_)
      obtain ⟨F18, hat19, hdup20⟩ := H10.at (hp0) hx13 hv17
      refine XL_load_int (k := .i64) u3 rfl hat19 rfl rfl rfl ?_
      obtain ⟨x21, hx22, hs7⟩ := bind_some hs7
      refine QL_call rfl rfl c46 (fun w' hb => (w_spec_l1In w' G x12 0 20 x21 hx22 (H10.grow hb).ctx).mono fun e w'' hK => ⟨hK.1, hK.2.bel⟩) (by rfl) ?_
      refine XL_q rfl (qt_not rfl) rfl rfl ?_
      refine QL_nil fun a ha w23 hb24 => ?_
      have H25 : Holds (([] : List Res).flatMap Res.own) w w23 [] G := H10.grow hb24
      refine nrm_seq (WP.app ?_ ha)
      refine WP_cond rfl (fun hc26 => ?_) (fun hc26 => ?_)
      · have hs7 := if_t hc26 hs7
        refine WP_seq ?_
        refine WP_region ?_
        refine XL_q rfl (qt_assign rfl) rfl rfl ?_
        refine WL_nil_seq ?_
        refine WP_ret fun a ha => ?_
        obtain rfl := Option.some.inj hs7
        exact ret_block (ret_seq (⟨ret_ne, rfl, ha.sub ⟨rfl, trivial⟩, H25⟩))
      · have hs7 := if_f hc26 hs7
        refine WP_skip fun a ha => ?_
        refine nrm_block (nrm_seq (WP.app ?_ ha))
        refine WP_region ?_
        refine XL_q rfl (qt_move rfl) rfl rfl ?_
        refine XL_q rfl (qt_add rfl rfl) rfl rfl ?_
        refine XL_q rfl (qt_assign rfl) rfl rfl ?_
        refine WL_nil fun a ha => ?_
        obtain rfl := Option.some.inj hs7
        exact ⟨rfl, ha.sub ⟨rfl, rfl, trivial⟩, H25⟩
    · have hs7 := if_f hc11 hs7
      refine WP_exit fun a ha => ?_
      obtain rfl := Option.some.inj hs7
      exact exit_seq (⟨exit_ne, rfl, ha.sub ⟨rfl, trivial⟩, H10⟩)
  · intro e a4 w27 hO28
    rcases o2 with o2 | o2
    · skip
      obtain ⟨rfl, hO30⟩ := hO28
      obtain ⟨ha, H29⟩ := hO30
      refine exit_block_eq (nrm_seq (WP.app ?_ ha))
      refine WP_seq ?_
      refine WP_still ?_
      refine XL_q rfl (qt_move rfl) rfl rfl ?_
      refine XL_lenH H29.ctx (t := (.int .i64)) (hp0) u23 rfl rfl rfl ?_
      obtain ⟨x31, hx32, h⟩ := bind_some h
      refine QL_call rfl rfl c46 (fun w' hb => (w_spec_l1In w' G (List.length p0 : Int) 1 7 x31 hx32 (H29.grow hb).ctx).mono fun e w'' hK => ⟨hK.1, hK.2.bel⟩) (by rfl) ?_
      refine XL_q rfl (qt_move rfl) rfl rfl ?_
      obtain ⟨b33, hg34, h⟩ := bind_some h
      refine XL_join 4 23 (.bool b33) ?_ (fun md hmd hk => ?_)
      rotate_left
      · obtain ⟨K, rfl⟩ := Md.quiet_of hmd
        rcases btf x31 with hc35 | hc35
        · skip
          have hg34 := if_t hc35 hg34
          refine XL_q (w_take rfl hc35) (qt_move rfl) rfl rfl ?_
          obtain ⟨x36, hx37, hg34⟩ := bind_some hg34
          refine QL_call (w_take rfl hc35) rfl c47 (fun w' hb => (w_spec_l1Sum w' G vp0 p0 (hp0) x36 hx37 (H29.grow hb).ctx).mono fun e w'' hK => ⟨hK.1, hK.2.bel⟩) (by rfl) ?_
          refine XL_q (w_take rfl hc35) (qt_gtr rfl rfl) rfl rfl ?_
          refine XL_q rfl (qt_pickT rfl hc35 rfl) rfl rfl ?_
          exact hk _ (Cov.same (vb hg34) (Cov.fresh rfl (Cov.fresh rfl (Cov.fresh rfl (Cov.refl)))))
        · skip
          refine XL_skip (w_skip rfl hc35) rfl rfl ?_
          refine XL_skip (w_skip rfl hc35) rfl rfl ?_
          refine XL_skip (w_skip rfl hc35) rfl rfl ?_
          refine XL_q rfl (qt_pickF rfl hc35 rfl) rfl rfl ?_
          exact hk _ (Cov.same (vb (if_f hc35 hg34)) (Cov.fresh rfl (Cov.fresh rfl (Cov.fresh rfl (Cov.refl)))))
      refine XL_q rfl (qt_assign rfl) rfl rfl ?_
      refine QL_nil fun a ha w38 hb39 => ?_
      have H40 : Holds (([] : List Res).flatMap Res.own) w w38 [] G := H29.grow hb39
      refine nrm_seq (WP.app ?_ ha)
      refine WP_ret fun a ha => ?_
      obtain rfl := Option.some.inj h
      exact ret1 rfl ha rfl ⟨rfl, H40⟩
    · skip
      obtain ⟨p41, rfl⟩ : ∃ z, z = o2 := ⟨o2, rfl⟩
      obtain ⟨rfl, hO43⟩ := hO28
      obtain ⟨ha, H42⟩ := hO43
      obtain rfl := Option.some.inj h
      exact ret_block (ret_seq (ret1 rfl ha rfl ⟨rfl, H42⟩))
theorem w_laws_FnSharesValid (w : World) (G : List Res) (vp0 : Value) (p0 : List Int) (hp0 : HasRo G (.int .u8) vp0 p0) (r : Bool) (h : laws_FnSharesValidS p0 = some r) (H : Ctx w G) : Calls Tryd.prog 4 #[vp0] w fun e w' => e = .returned (.bool r) ∧ Holds (([] : List Res).flatMap Res.own) w w' [] G := by
  have H : Holds (([] : List Res).flatMap Res.own) w w [] G := Holds.startN H
  refine calls_enter (args := [vp0]) (n := 44) Tryd.func4 rfl rfl rfl ?_
  unfold laws_FnSharesValidS at h
  refine WP_seq ?_
  refine WP_region ?_
  refine XL_q rfl (qt_assign rfl) rfl rfl ?_
  refine WL_nil_seq ?_
  refine WP_seq ?_
  refine WP_seq ?_
  refine WP_region ?_
  refine XL_q rfl (qt_move rfl) rfl rfl ?_
  refine XL_lenH H.ctx (t := (.int .u8)) (hp0.has) u22 rfl rfl rfl ?_
  refine XL_q rfl (qt_gtr rfl rfl) rfl rfl ?_
  refine WL_nil_seq ?_
  refine WP_cond rfl (fun hc1 => ?_) (fun hc1 => ?_)
  · have h := if_t hc1 h
    refine WP_seq ?_
    refine WP_region ?_
    refine XL_q rfl (qt_assign rfl) rfl rfl ?_
    refine WL_nil_seq ?_
    refine WP_ret fun a ha => ?_
    obtain rfl := Option.some.inj h
    exact ret_seq (ret1 rfl ha rfl ⟨rfl, H⟩)
  · have h := if_f hc1 h
    refine WP_skip_seq ?_
    refine WP_seq ?_
    refine WP_region ?_
    refine XL_q rfl (qt_move rfl) rfl rfl ?_
    obtain ⟨x2, hx3, h⟩ := bind_some h
    refine WL_call rfl rfl c16 (w_spec_DrawSharesValid w G vp0 p0 (hp0) x2 hx3 H.ctx) (by rfl) ?_
    rintro _ w4 ⟨v6, rfl, H5⟩; refine ⟨_, rfl, ?_⟩
    have H7 : Holds (([] : List Res).flatMap Res.own) w w4 [.sl 3 (.int .i64) v6 x2] G := H.calledN (Rs := []) H5
    refine XL_q rfl (qt_assign rfl) rfl rfl ?_
    refine WL_nil_seq ?_
    refine WP_seq ?_
    refine WP_still ?_
    refine XL_q rfl (qt_move rfl) rfl rfl ?_
    obtain ⟨x8, hx9, h⟩ := bind_some h
    refine QL_call rfl rfl c17 (fun w' hb => (w_impl_SharesValid w' ([.sl 3 (.int .i64) v6 x2] ++ G) v6 x2 (Has.hd) x8 hx9 (H7.grow hb).ctx).mono fun e w'' hK => ⟨hK.1, hK.2.bel⟩) (by rfl) ?_
    refine XL_q rfl (qt_assign rfl) rfl rfl ?_
    refine QL_nil fun a ha w10 hb11 => ?_
    have H12 : Holds (([] : List Res).flatMap Res.own) w w10 [.sl 3 (.int .i64) v6 x2] G := H7.grow hb11
    refine nrm_seq (WP.app ?_ ha)
    refine WP_seq ?_
    refine WP_seq ?_
    refine WP_still ?_
    refine XL_q rfl (qt_move rfl) rfl rfl ?_
    refine XL_q rfl (qt_move rfl) rfl rfl ?_
    obtain ⟨x13, hx14, h⟩ := bind_some h
    refine QL_call rfl rfl c18 (fun w' hb => (w_spec_SharesValid w' ([.sl 3 (.int .i64) v6 x2] ++ G) v6 x2 (Has.hd) x13 hx14 (H12.grow hb).ctx).mono fun e w'' hK => ⟨hK.1, hK.2.bel⟩) (by rfl) ?_
    refine XL_q rfl (qt_bneq u4 rfl rfl) rfl rfl ?_
    refine QL_nil fun a ha w15 hb16 => ?_
    have H17 : Holds (([] : List Res).flatMap Res.own) w w15 [.sl 3 (.int .i64) v6 x2] G := H12.grow hb16
    refine nrm_seq (WP.app ?_ ha)
    refine WP_cond rfl (fun hc18 => ?_) (fun hc18 => ?_)
    · have h := if_t hc18 h
      refine WP_seq ?_
      refine WP_region ?_
      refine XL_q rfl (qt_assign rfl) rfl rfl ?_
      refine WL_nil_seq ?_
      refine WP_ret fun a ha => ?_
      obtain rfl := Option.some.inj h
      have H19 : Holds (([] : List Res).flatMap Res.own) w w15 [] G := (H17.cut 0)
      exact ret_seq (ret1 rfl ha rfl ⟨rfl, H19⟩)
    · have h := if_f hc18 h
      refine WP_skip_seq ?_
      refine WP_seq ?_
      refine WP_region ?_
      refine WL_buildH (t := (.int .i64)) (args := []) (xs := ([] : List Int)) H17 (BltL.nil) u23 j3 rfl rfl rfl rfl rfl rfl (fun v20 w21 H22 => ?_)
      have H23 : Holds (([] : List Res).flatMap Res.own) w w21 [.sl 3 (.int .i64) v20 ([]), .sl 3 (.int .i64) v6 x2] G := H22
      refine XL_q rfl (qt_assign rfl) rfl rfl ?_
      refine WL_nil_seq ?_
      refine WP_seq ?_
      refine WP_seq ?_
      refine WP_region ?_
      refine XL_q rfl (qt_assign rfl) rfl rfl ?_
      refine WL_nil_seq ?_
      refine WP_block ?_
      obtain ⟨o26, ho27, h⟩ := bind_some h
      have H30 : Holds (([] : List Res).flatMap Res.own) w w21 [.sl 3 (.int .i64) v6 x2, .sl 3 (.int .i64) v20 ([])] G := (H23.pull 1)
      refine fun a28 ha29 => wp_loop_fix (I := fun s a w2 => match s with | (s24, s25) => ∃ vs24, Fr a 44 [(3, v6), (4, .bool x8), (5, vs24), (6, .int .i64 s25)] ∧ Holds (([] : List Res).flatMap Res.own) w w2 [.sl 3 (.int .i64) v6 x2, .sl 3 (.int .i64) vs24 s24] G) (O := fun o e a w2 => match o with | q0 => e = .exit 0 ∧ ∃ vq0, Fr a 44 [(3, v6), (4, .bool x8), (5, vq0)] ∧ Holds (([] : List Res).flatMap Res.own) w w2 [.sl 3 (.int .i64) v6 x2, .sl 3 (.int .i64) vq0 q0] G) ho27 ?_ ?_ ?_
      · exact ⟨v20, ha29.sub ⟨rfl, rfl, rfl, rfl, trivial⟩, H30⟩
      · clear ha29
        intro s o33 a w31 hs32 hI34
        obtain ⟨s24, s25⟩ := s
        obtain ⟨vs24, ha, H35⟩ := hI34
        refine WP.app ?_ ha
        clear ha
        refine WP_seq ?_
        refine WP_seq ?_
        refine WP_region ?_
        refine XL_q rfl (qt_move rfl) rfl rfl ?_
        refine XL_q rfl (qt_move rfl) rfl rfl ?_
        refine XL_lenH H35.ctx (t := (.int .i64)) (Has.hd) u23 rfl rfl rfl ?_
        refine XL_q rfl (qt_lss rfl rfl) rfl rfl ?_
        refine WL_nil_seq ?_
        refine WP_cond rfl (fun hc36 => ?_) (fun hc36 => ?_)
        · have hs32 := if_t hc36 hs32
          refine WP_skip_seq ?_
          refine WP_seq ?_
          refine WP_block ?_
          refine WP_region ?_
          refine XL_q rfl (qt_move rfl) rfl rfl ?_
          refine WL_buildH (t := (.int .i64)) (args := [.const (.int .i64 1)]) (xs := ([1] : List Int)) H35 (BltL.cons (Blt.int) rfl (BltL.nil)) u23 j3 rfl rfl rfl rfl rfl rfl (fun v37 w38 H39 => ?_)
          have H40 : Holds (([] : List Res).flatMap Res.own) w w38 [.sl 3 (.int .i64) v37 ([1]), .sl 3 (.int .i64) v6 x2, .sl 3 (.int .i64) vs24 s24] G := H39
          have H41 : Holds (([] : List Res).flatMap Res.own) w w38 [.sl 3 (.int .i64) vs24 s24, .sl 3 (.int .i64) v37 ([1]), .sl 3 (.int .i64) v6 x2] G := H40.pull 2
          obtain ⟨x42, hx43, hs32⟩ := bind_some hs32
          refine WL_appendH H41 (Has.c (Has.hd)) hx43 u23 j3 rfl rfl rfl rfl rfl rfl (fun v44 w45 H46 => ?_)
          have H47 : Holds (([] : List Res).flatMap Res.own) w w45 [.sl 3 (.int .i64) v44 x42, .sl 3 (.int .i64) v37 ([1]), .sl 3 (.int .i64) v6 x2] G := H46
          refine XL_q rfl (qt_assign rfl) rfl rfl ?_
          refine WL_nil fun a ha => ?_
          refine nrm_block (nrm_seq (WP.app ?_ ha))
          refine WP_region ?_
          refine XL_q rfl (qt_move rfl) rfl rfl ?_
          refine XL_q rfl (qt_add rfl rfl) rfl rfl ?_
          refine XL_q rfl (qt_assign rfl) rfl rfl ?_
          refine WL_nil fun a ha => ?_
          obtain rfl := Option.some.inj hs32
          have H48 : Holds (([] : List Res).flatMap Res.own) w w45 [.sl 3 (.int .i64) v6 x2, .sl 3 (.int .i64) v44 x42] G := ((H47.cut 1).pull 1)
          exact ⟨rfl, v44, ha.sub ⟨rfl, rfl, rfl, rfl, trivial⟩, H48⟩
        · have hs32 := if_f hc36 hs32
          refine WP_exit fun a ha => ?_
          obtain rfl := Option.some.inj hs32
          have H49 : Holds (([] : List Res).flatMap Res.own) w w31 [.sl 3 (.int .i64) v6 x2, .sl 3 (.int .i64) vs24 s24] G := ((H35.pull 1).pull 1)
          exact exit_seq (⟨exit_ne, rfl, vs24, ha.sub ⟨rfl, rfl, rfl, trivial⟩, H49⟩)
      · intro e a28 w50 hO51
        obtain ⟨p52, rfl⟩ : ∃ z, z = o26 := ⟨o26, rfl⟩
        obtain ⟨rfl, hO54⟩ := hO51
        obtain ⟨vp52, ha, H53⟩ := hO54
        refine exit_block_eq (nrm_seq (WP.app ?_ ha))
        refine WP_seq ?_
        refine WP_region ?_
        refine XL_q rfl (qt_move rfl) rfl rfl ?_
        refine XL_lenH H53.ctx (t := (.int .i64)) (Has.hd) u23 rfl rfl rfl ?_
        obtain ⟨x55, hx56, h⟩ := bind_some h
        refine WL_makeH H53 hx56 u23 j3 rfl (fun _ => ⟨rfl, rfl⟩) rfl rfl rfl rfl rfl (fun v57 w58 H59 => ?_)
        have H60 : Holds (([] : List Res).flatMap Res.own) w w58 [.sl 3 (.int .i64) v57 x55, .sl 3 (.int .i64) v6 x2, .sl 3 (.int .i64) vp52 p52] G := H59
        obtain ⟨x61, hx62, h⟩ := bind_some h
        refine WL_call rfl rfl c17 (w_impl_SharesValid w58 ([.sl 3 (.int .i64) v57 x55, .sl 3 (.int .i64) v6 x2, .sl 3 (.int .i64) vp52 p52] ++ G) v57 x55 (Has.hd) x61 hx62 H60.ctx) (by rfl) ?_
        rintro _ w63 ⟨rfl, H64⟩; refine ⟨_, rfl, ?_⟩
        have H65 : Holds (([] : List Res).flatMap Res.own) w w63 [.sl 3 (.int .i64) v57 x55, .sl 3 (.int .i64) v6 x2, .sl 3 (.int .i64) vp52 p52] G := H60.calledN (Rs := []) H64
        refine XL_q rfl (qt_not rfl) rfl rfl ?_
        refine XL_q rfl (qt_move rfl) rfl rfl ?_
        obtain ⟨o67, ho68, h⟩ := bind_some h
        obtain ⟨b66, rfl⟩ : ∃ z, z = o67 := ⟨o67, rfl⟩
        refine WL_cutM 7 (fun a w2 => (Fr a 44 [(40, .bool b66)] ∧ Holds (([] : List Res).flatMap Res.own) w w2 [] G)) ?_ ?_
        · rcases btf (!x61) with hc69 | hc69
          · have ho68 := if_t hc69 ho68
            refine XL_q (w_take rfl hc69) (qt_move rfl) rfl rfl ?_
            refine XL_q (w_take rfl hc69) (qt_not rfl) rfl rfl ?_
            refine XL_q (w_take rfl hc69) (qt_move rfl) rfl rfl ?_
            obtain ⟨o71, ho72, ho68⟩ := bind_some ho68
            obtain ⟨b70, rfl⟩ : ∃ z, z = o71 := ⟨o71, rfl⟩
            refine WL_cutM 3 (fun a w2 => (Fr a 44 [(33, .bool (!x61)), (39, .bool b70)] ∧ Holds (([] : List Res).flatMap Res.own) w w2 [] G)) ?_ ?_
            · rcases btf (!x8) with hc73 | hc73
              · have ho72 := if_t hc73 ho72
                refine XL_skip (w_skip rfl hc73) rfl rfl ?_
                refine XL_skip (w_skip rfl hc73) rfl rfl ?_
                refine XL_q (w_take rfl hc69) (qt_pickT rfl hc73 rfl) rfl rfl ?_
                refine WL_nil fun a ha => ?_
                obtain rfl := Option.some.inj ho72
                have H74 : Holds (([] : List Res).flatMap Res.own) w w63 [] G := (((H65.cut 0).cut 0).cut 0)
                exact nrm_seq ⟨ha.sub ⟨rfl, rfl, trivial⟩, H74⟩
              · have ho72 := if_f hc73 ho72
                refine XL_q (w_take rfl hc73) (qt_move rfl) rfl rfl ?_
                obtain ⟨x75, hx76, ho72⟩ := bind_some ho72
                refine WL_call (w_take rfl hc73) rfl c17 (w_impl_SharesValid w63 ([.sl 3 (.int .i64) v57 x55, .sl 3 (.int .i64) v6 x2, .sl 3 (.int .i64) vp52 p52] ++ G) vp52 p52 (Has.c (Has.c (Has.hd))) x75 hx76 H65.ctx) (by rfl) ?_
                rintro _ w77 ⟨rfl, H78⟩; refine ⟨_, rfl, ?_⟩
                have H79 : Holds (([] : List Res).flatMap Res.own) w w77 [.sl 3 (.int .i64) v57 x55, .sl 3 (.int .i64) v6 x2, .sl 3 (.int .i64) vp52 p52] G := H65.calledN (Rs := []) H78
                refine XL_q (w_take rfl hc69) (qt_pickF rfl hc73 rfl) rfl rfl ?_
                refine WL_nil fun a ha => ?_
                obtain rfl := Option.some.inj ho72
                have H80 : Holds (([] : List Res).flatMap Res.own) w w77 [] G := (((H79.cut 0).cut 0).cut 0)
                exact nrm_seq ⟨ha.sub ⟨rfl, rfl, trivial⟩, H80⟩
            intro a w81 hI82
            obtain ⟨ha, H83⟩ := hI82
            refine SL_app ?_ ha
            clear ha
            refine XL_q rfl (qt_pickT rfl hc69 rfl) rfl rfl ?_
            refine WL_nil fun a ha => ?_
            obtain rfl := Option.some.inj ho68
            exact nrm_seq ⟨ha.sub ⟨rfl, trivial⟩, H83⟩
          · have ho68 := if_f hc69 ho68
            refine XL_skip (w_skip rfl hc69) rfl rfl ?_
            refine XL_skip (w_skip rfl hc69) rfl rfl ?_
            refine XL_skip (w_skip rfl hc69) rfl rfl ?_
            refine XL_skip rfl rfl rfl ?_
            refine XL_skip rfl rfl rfl ?_
            refine XL_skip (w_skip rfl hc69) rfl rfl ?_
            refine XL_q rfl (qt_pickF rfl hc69 rfl) rfl rfl ?_
            refine WL_nil fun a ha => ?_
            obtain rfl := Option.some.inj ho68
            have H84 : Holds (([] : List Res).flatMap Res.own) w w63 [] G := (((H65.cut 0).cut 0).cut 0)
            exact nrm_seq ⟨ha.sub ⟨rfl, trivial⟩, H84⟩
        intro a w85 hI86
        obtain ⟨ha, H87⟩ := hI86
        refine SL_app ?_ ha
        clear ha
        refine XL_q rfl (qt_move rfl) rfl rfl ?_
        obtain ⟨o89, ho90, h⟩ := bind_some h
        obtain ⟨b88, rfl⟩ : ∃ z, z = o89 := ⟨o89, rfl⟩
        refine WL_cutM 2 (fun a w2 => (Fr a 44 [(43, .bool b88)] ∧ Holds (([] : List Res).flatMap Res.own) w w2 [] G)) ?_ ?_
        · rcases btf b66 with hc91 | hc91
          · have ho90 := if_t hc91 ho90
            obtain ⟨x92, hx93, ho90⟩ := bind_some ho90
            refine WL_call (w_take rfl hc91) rfl c15 (w_laws_alive w85 G  x92 hx93 H87.ctx) (by rfl) ?_
            rintro _ w94 ⟨rfl, H95⟩; refine ⟨_, rfl, ?_⟩
            have H96 : Holds (([] : List Res).flatMap Res.own) w w94 [] G := H87.calledN (Rs := []) H95
            refine XL_q rfl (qt_pickT rfl hc91 rfl) rfl rfl ?_
            refine WL_nil fun a ha => ?_
            obtain rfl := Option.some.inj ho90
            exact nrm_seq ⟨ha.sub ⟨rfl, trivial⟩, H96⟩
          · have ho90 := if_f hc91 ho90
            refine XL_skip (w_skip rfl hc91) rfl rfl ?_
            refine XL_q rfl (qt_pickF rfl hc91 rfl) rfl rfl ?_
            refine WL_nil fun a ha => ?_
            obtain rfl := Option.some.inj ho90
            exact nrm_seq ⟨ha.sub ⟨rfl, trivial⟩, H87⟩
        intro a w97 hI98
        obtain ⟨ha, H99⟩ := hI98
        refine SL_app ?_ ha
        clear ha
        refine XL_q rfl (qt_assign rfl) rfl rfl ?_
        refine WL_nil_seq ?_
        refine WP_ret fun a ha => ?_
        obtain rfl := Option.some.inj h
        exact ret1 rfl ha rfl ⟨rfl, H99⟩
theorem w_spec_DrawGroupsMost (w : World) (G : List Res) (vp0 : Value) (p0 : List Int) (hp0 : HasRo G (.int .u8) vp0 p0) (r : (List Int)) (h : spec_DrawGroupsMostS p0 = some r) (H : Ctx w G) : Calls Tryd.prog 19 #[vp0] w fun e w' => ∃ (v1 : Value), e = .returned (v1) ∧ Holds (([] : List Res).flatMap Res.own) w w' [.sl 3 (.int .i64) v1 r] G := by
  have H : Holds (([] : List Res).flatMap Res.own) w w [] G := Holds.startN H
  refine calls_enter (args := [vp0]) (n := 6) Tryd.func19 rfl rfl rfl ?_
  unfold spec_DrawGroupsMostS at h
  refine WP_seq ?_
  refine WP_region ?_
  refine XL_q rfl (qt_assign rfl) rfl rfl ?_
  refine WL_nil_seq ?_
  refine WP_seq ?_
  refine WP_region ?_
  refine XL_q rfl (qt_move rfl) rfl rfl ?_
  obtain ⟨x1, hx2, h⟩ := bind_some h
  refine WL_call rfl rfl c44 (w_spec_l20Open w G vp0 p0 (hp0) x1 hx2 H.ctx) (by rfl) ?_
  rintro _ w3 ⟨v5, b6, rfl, H4⟩; refine ⟨_, rfl, ?_⟩
  have H7 : Holds (([] : List Res).flatMap Res.own) w w3 [.ro (.int .u8) v5 x1.1, .bx b6 69 [v5, .int .i64 x1.2]] G := H.calledN (Rs := []) H4
  have H10 : Holds (([] : List Res).flatMap Res.own) w w3 [.bx b6 69 [v5, .int .i64 x1.2], .ro (.int .u8) v5 x1.1] G := H7.pull 1
  obtain ⟨x8, hx9, h⟩ := bind_some h
  refine WL_call rfl rfl c43 (w_spec_l20Owed w3 ([.ro (.int .u8) v5 x1.1] ++ G) b6 v5 x1.1 (HasRo.has (HasRo.hd)) x1.2 9 x8 hx9 H10.ctx) (by rfl) ?_
  rintro _ w11 ⟨v13, rfl, H12⟩; refine ⟨_, rfl, ?_⟩
  have H14 : Holds (([] : List Res).flatMap Res.own) w w11 [.sl 3 (.int .i64) v13 x8.2, .bx b6 69 [v5, .int .i64 x8.1], .ro (.int .u8) v5 x1.1] G := H10.calledN (Rs := [_]) H12
  refine XL_q rfl (qt_assign rfl) rfl rfl ?_
  refine WL_nil_seq ?_
  refine WP_ret fun a ha => ?_
  obtain rfl := Option.some.inj h
  have H15 : Holds (([] : List Res).flatMap Res.own) w w11 [.sl 3 (.int .i64) v13 x8.2] G := ((H14.cut 1).cut 1)
  exact ret1 rfl ha rfl ⟨v13, rfl, H15⟩
theorem w_impl_onlyOf (w : World) (G : List Res) (vp0 : Value) (p0 : List Int) (hp0 : Has G (.int .i64) vp0 p0) (p1 : Int) (r : (List Int)) (h : impl_onlyOfS p0 p1 = some r) (H : Ctx w G) : Calls Tryd.prog 63 #[vp0, .int .i64 p1] w fun e w' => ∃ (v1 : Value), e = .returned (v1) ∧ Holds (([] : List Res).flatMap Res.own) w w' [.sl 3 (.int .i64) v1 r] G := by
  have H : Holds (([] : List Res).flatMap Res.own) w w [] G := Holds.startN H
  refine calls_enter (args := [vp0, .int .i64 p1]) (n := 29) Tryd.func63 rfl rfl rfl ?_
  unfold impl_onlyOfS at h
  refine WP_seq ?_
  refine WP_region ?_
  refine XL_q rfl (qt_assign rfl) rfl rfl ?_
  refine WL_nil_seq ?_
  refine WP_seq ?_
  refine WP_region ?_
  refine XL_q rfl (qt_move rfl) rfl rfl ?_
  refine XL_lenH H.ctx (t := (.int .i64)) (hp0) u23 rfl rfl rfl ?_
  obtain ⟨x1, hx2, h⟩ := bind_some h
  refine WL_makeH H hx2 u23 j3 rfl (fun _ => ⟨rfl, rfl⟩) rfl rfl rfl rfl rfl (fun v3 w4 H5 => ?_)
  have H6 : Holds (([] : List Res).flatMap Res.own) w w4 [.sl 3 (.int .i64) v3 x1] G := H5
  refine XL_q rfl (qt_assign rfl) rfl rfl ?_
  refine WL_nil_seq ?_
  refine WP_seq ?_
  refine WP_seq ?_
  refine WP_region ?_
  refine XL_q rfl (qt_move rfl) rfl rfl ?_
  refine XL_lenH H6.ctx (t := (.int .i64)) (hp0.c) u23 rfl rfl rfl ?_
  refine XL_q rfl (qt_move rfl) rfl rfl ?_
  refine WL_nil_seq ?_
  refine WP_block ?_
  obtain ⟨o9, ho10, h⟩ := bind_some h
  refine fun a11 ha12 => wp_loop_fix (I := fun s a w2 => match s with | (s7, s8) => (Fr a 29 [(1, .int .i64 p1), (5, v3), (11, vp0), (12, .int .i64 (List.length p0 : Int)), (13, .int .i64 s7)] ∧ Holds (([] : List Res).flatMap Res.own) w w2 [.sl 3 (.int .i64) v3 s8] G)) (O := fun o e a w2 => match o with | q0 => e = .exit 0 ∧ (Fr a 29 [(5, v3)] ∧ Holds (([] : List Res).flatMap Res.own) w w2 [.sl 3 (.int .i64) v3 q0] G)) ho10 ?_ ?_ ?_
  · exact ⟨ha12.sub ⟨rfl, rfl, rfl, rfl, rfl, trivial⟩, H6⟩
  · clear ha12
    intro s o15 a w13 hs14 hI16
    obtain ⟨s7, s8⟩ := s
    obtain ⟨ha, H17⟩ := hI16
    refine WP.app ?_ ha
    clear ha
    refine WP_seq ?_
    refine WP_region ?_
    refine XL_q rfl (qt_lss rfl rfl) rfl rfl ?_
    refine WL_nil_seq ?_
    refine WP_seq ?_
    refine WP_cond rfl (fun hc18 => ?_) (fun hc18 => ?_)
    · have hs14 := if_t hc18 hs14
      refine WP_skip_seq ?_
      refine WP_seq ?_
      refine WP_block ?_
      refine WP_seq ?_
      refine WP_region ?_
      refine XL_q rfl (qt_move rfl) rfl rfl ?_
      obtain ⟨x19, hx20, hs14⟩ := bind_some hs14
      refine XL_indexH H17.ctx (hp0.c) hx20 u23 i3 rfl rfl rfl rfl (fun b21 off22 cap23 hv24 => ?_)
      obtain ⟨F25, hat26, hdup27⟩ := H17.at (hp0.c) hx20 hv24
      refine XL_load_int (k := .i64) u3 rfl hat26 rfl rfl rfl ?_
      refine XL_q rfl (qt_assign rfl) rfl rfl ?_
      refine XL_q rfl (qt_assign rfl) rfl rfl ?_
      refine WL_nil_seq ?_
      refine WP_seq ?_
      refine WP_region ?_
      refine XL_q rfl (qt_move rfl) rfl rfl ?_
      refine XL_q rfl (qt_move rfl) rfl rfl ?_
      obtain ⟨x28, hx29, hs14⟩ := bind_some hs14
      refine XL_q rfl (qt_shlO rfl rfl hx29) rfl rfl ?_
      refine XL_q rfl (qt_and rfl rfl) rfl rfl ?_
      refine XL_q rfl (qt_neq rfl rfl) rfl rfl ?_
      refine WL_nil_seq ?_
      refine WP_cond rfl (fun hc30 => ?_) (fun hc30 => ?_)
      · have hs14 := if_t hc30 hs14
        refine WP_region ?_
        refine XL_q rfl (qt_move rfl) rfl rfl ?_
        refine XL_q rfl (qt_move rfl) rfl rfl ?_
        refine XL_q rfl (qt_move rfl) rfl rfl ?_
        obtain ⟨x31, hx32, hs14⟩ := bind_some hs14
        refine XL_indexH H17.ctx (Has.hd) hx32 u23 i3 rfl rfl rfl rfl (fun b33 off34 cap35 hv36 => ?_)
        refine WL_storeH (fo := 0) (cs' := [.int .i64 x19]) H17 hx32 hv36 (Upd.whole (Blt.int)) rfl il3 rfl rfl rfl rfl (fun w37 H38 => ?_)
        have H39 : Holds (([] : List Res).flatMap Res.own) w w37 [.sl 3 (.int .i64) v3 (List.set s8 (Int.toNat s7) x19)] G := H38
        refine WL_nil fun a ha => ?_
        refine nrm_block (nrm_seq (WP.app ?_ ha))
        refine WP_region ?_
        refine XL_q rfl (qt_add rfl rfl) rfl rfl ?_
        refine XL_q rfl (qt_move rfl) rfl rfl ?_
        refine WL_nil fun a ha => ?_
        obtain rfl := Option.some.inj hs14
        exact ⟨rfl, ha.sub ⟨rfl, rfl, rfl, rfl, rfl, trivial⟩, H39⟩
      · have hs14 := if_f hc30 hs14
        refine WP_skip fun a ha => ?_
        refine nrm_block (nrm_seq (WP.app ?_ ha))
        refine WP_region ?_
        refine XL_q rfl (qt_add rfl rfl) rfl rfl ?_
        refine XL_q rfl (qt_move rfl) rfl rfl ?_
        refine WL_nil fun a ha => ?_
        obtain rfl := Option.some.inj hs14
        exact ⟨rfl, ha.sub ⟨rfl, rfl, rfl, rfl, rfl, trivial⟩, H17⟩
    · have hs14 := if_f hc18 hs14
      refine WP_exit fun a ha => ?_
      obtain rfl := Option.some.inj hs14
      exact exit_seq (⟨exit_ne, rfl, ha.sub ⟨rfl, trivial⟩, H17⟩)
  · intro e a11 w40 hO41
    obtain ⟨p42, rfl⟩ : ∃ z, z = o9 := ⟨o9, rfl⟩
    obtain ⟨rfl, hO44⟩ := hO41
    obtain ⟨ha, H43⟩ := hO44
    refine exit_block_eq (nrm_seq (WP.app ?_ ha))
    refine WP_seq ?_
    refine WP_region ?_
    refine XL_q rfl (qt_move rfl) rfl rfl ?_
    refine XL_q rfl (qt_assign rfl) rfl rfl ?_
    refine WL_nil_seq ?_
    refine WP_ret fun a ha => ?_
    obtain rfl := Option.some.inj h
    exact ret1 rfl ha rfl ⟨v3, rfl, H43⟩
theorem w_impl_groupTable (w : World) (G : List Res) (vp0 : Value) (p0 : List Int) (hp0 : Has G (.int .i64) vp0 p0) (r : (List Int)) (h : impl_groupTableS p0 = some r) (H : Ctx w G) : Calls Tryd.prog 51 #[vp0] w fun e w' => ∃ (v1 : Value), e = .returned (v1) ∧ Holds (([] : List Res).flatMap Res.own) w w' [.sl 3 (.int .i64) v1 r] G := by
  have H : Holds (([] : List Res).flatMap Res.own) w w [] G := Holds.startN H
  refine calls_enter (args := [vp0]) (n := 62) Tryd.func51 rfl rfl rfl ?_
  unfold impl_groupTableS at h
  refine WP_seq ?_
  refine WP_region ?_
  refine XL_q rfl (qt_assign rfl) rfl rfl ?_
  refine WL_nil_seq ?_
  refine WP_seq ?_
  refine WP_region ?_
  refine XL_q rfl (qt_move rfl) rfl rfl ?_
  refine XL_lenH H.ctx (t := (.int .i64)) (hp0) u23 rfl rfl rfl ?_
  obtain ⟨x1, hx2, h⟩ := bind_some h
  refine XL_q rfl (qt_shlO rfl rfl hx2) rfl rfl ?_
  obtain ⟨x3, hx4, h⟩ := bind_some h
  refine WL_makeH H hx4 u23 j3 rfl (fun _ => ⟨rfl, rfl⟩) rfl rfl rfl rfl rfl (fun v5 w6 H7 => ?_)
  have H8 : Holds (([] : List Res).flatMap Res.own) w w6 [.sl 3 (.int .i64) v5 x3] G := H7
  refine XL_q rfl (qt_assign rfl) rfl rfl ?_
  refine WL_nil_seq ?_
  refine WP_seq ?_
  refine WP_seq ?_
  refine WP_region ?_
  refine XL_q rfl (qt_assign rfl) rfl rfl ?_
  refine WL_nil_seq ?_
  refine WP_block ?_
  obtain ⟨o11, ho12, h⟩ := bind_some h
  refine fun a13 ha14 => wp_loop_fix (I := fun s a w2 => match s with | (s9, s10) => (Fr a 62 [(0, vp0), (3, v5), (4, .int .i64 s9)] ∧ Holds (([] : List Res).flatMap Res.own) w w2 [.sl 3 (.int .i64) v5 s10] G)) (O := fun o e a w2 => match o with | q0 => e = .exit 0 ∧ (Fr a 62 [(3, v5)] ∧ Holds (([] : List Res).flatMap Res.own) w w2 [.sl 3 (.int .i64) v5 q0] G)) ho12 ?_ ?_ ?_
  · exact ⟨ha14.sub ⟨rfl, rfl, rfl, trivial⟩, H8⟩
  · clear ha14
    intro s o17 a w15 hs16 hI18
    obtain ⟨s9, s10⟩ := s
    obtain ⟨ha, H19⟩ := hI18
    refine WP.app ?_ ha
    clear ha
    refine WP_seq ?_
    refine WP_seq ?_
    refine WP_region ?_
    refine XL_q rfl (qt_move rfl) rfl rfl ?_
    refine XL_q rfl (qt_move rfl) rfl rfl ?_
    refine XL_lenH H19.ctx (t := (.int .i64)) (Has.hd) u23 rfl rfl rfl ?_
    refine XL_q rfl (qt_lss rfl rfl) rfl rfl ?_
    refine WL_nil_seq ?_
    refine WP_cond rfl (fun hc20 => ?_) (fun hc20 => ?_)
    · have hs16 := if_t hc20 hs16
      refine WP_skip_seq ?_
      refine WP_seq ?_
      refine WP_block ?_
      refine WP_seq ?_
      refine WP_region ?_
      refine XL_q rfl (qt_move rfl) rfl rfl ?_
      refine XL_q rfl (qt_move rfl) rfl rfl ?_
      obtain ⟨x21, hx22, hs16⟩ := bind_some hs16
      refine XL_indexH H19.ctx (Has.hd) hx22 u23 i3 rfl rfl rfl rfl (fun b23 off24 cap25 hv26 => ?_)
      refine WL_storeH (fo := 0) (cs' := [.int .i64 (-1)]) H19 hx22 hv26 (Upd.whole (Blt.int)) rfl il3 rfl rfl rfl rfl (fun w27 H28 => ?_)
      have H29 : Holds (([] : List Res).flatMap Res.own) w w27 [.sl 3 (.int .i64) v5 (List.set s10 (Int.toNat s9) (-1))] G := H28
      refine WL_nil_seq ?_
      refine WP_seq ?_
      refine WP_seq ?_
      refine WP_region ?_
      refine XL_q rfl (qt_move rfl) rfl rfl ?_
      refine XL_q rfl (qt_move rfl) rfl rfl ?_
      obtain ⟨x30, hx31, hs16⟩ := bind_some hs16
      refine WL_call rfl rfl c63 (w_impl_onlyOf w27 ([.sl 3 (.int .i64) v5 (List.set s10 (Int.toNat s9) (-1))] ++ G) vp0 p0 (hp0.c) s9 x30 hx31 H29.ctx) (by rfl) ?_
      rintro _ w32 ⟨v34, rfl, H33⟩; refine ⟨_, rfl, ?_⟩
      have H35 : Holds (([] : List Res).flatMap Res.own) w w32 [.sl 3 (.int .i64) v34 x30, .sl 3 (.int .i64) v5 (List.set s10 (Int.toNat s9) (-1))] G := H29.calledN (Rs := []) H33
      obtain ⟨x36, hx37, hs16⟩ := bind_some hs16
      refine WL_call rfl rfl c45 (w_impl_sumOf w32 ([.sl 3 (.int .i64) v34 x30, .sl 3 (.int .i64) v5 (List.set s10 (Int.toNat s9) (-1))] ++ G) v34 x30 (Has.hd) x36 hx37 H35.ctx) (by rfl) ?_
      rintro _ w38 ⟨rfl, H39⟩; refine ⟨_, rfl, ?_⟩
      have H40 : Holds (([] : List Res).flatMap Res.own) w w38 [.sl 3 (.int .i64) v34 x30, .sl 3 (.int .i64) v5 (List.set s10 (Int.toNat s9) (-1))] G := H35.calledN (Rs := []) H39
      refine XL_q rfl (qt_neq rfl rfl) rfl rfl ?_
      refine WL_nil_seq ?_
      refine WP_cond rfl (fun hc41 => ?_) (fun hc41 => ?_)
      · have hs16 := if_t hc41 hs16
        refine WP_exit fun a ha => ?_
        refine exit_seq (exit_block_eq (nrm_seq (WP.app ?_ ha)))
        refine WP_region ?_
        refine XL_q rfl (qt_move rfl) rfl rfl ?_
        refine XL_q rfl (qt_add rfl rfl) rfl rfl ?_
        refine XL_q rfl (qt_assign rfl) rfl rfl ?_
        refine WL_nil fun a ha => ?_
        obtain rfl := Option.some.inj hs16
        have H42 : Holds (([] : List Res).flatMap Res.own) w w38 [.sl 3 (.int .i64) v5 (List.set s10 (Int.toNat s9) (-1))] G := (H40.cut 0)
        exact ⟨rfl, ha.sub ⟨rfl, rfl, rfl, trivial⟩, H42⟩
      · have hs16 := if_f hc41 hs16
        refine WP_skip_seq ?_
        refine WP_seq ?_
        refine WP_region ?_
        refine XL_q rfl (qt_move rfl) rfl rfl ?_
        refine XL_q rfl (qt_move rfl) rfl rfl ?_
        obtain ⟨x43, hx44, hs16⟩ := bind_some hs16
        refine XL_indexH H40.ctx (Has.c (Has.hd)) hx44 u23 i3 rfl rfl rfl rfl (fun b45 off46 cap47 hv48 => ?_)
        have H49 : Holds (([] : List Res).flatMap Res.own) w w38 [.sl 3 (.int .i64) v5 (List.set s10 (Int.toNat s9) (-1)), .sl 3 (.int .i64) v34 x30] G := H40.pull 1
        refine WL_storeH (fo := 0) (cs' := [.int .i64 1]) H49 hx44 hv48 (Upd.whole (Blt.int)) rfl il3 rfl rfl rfl rfl (fun w50 H51 => ?_)
        have H52 : Holds (([] : List Res).flatMap Res.own) w w50 [.sl 3 (.int .i64) v5 (List.set (List.set s10 (Int.toNat s9) (-1)) (Int.toNat s9) 1), .sl 3 (.int .i64) v34 x30] G := H51
        refine WL_nil_seq ?_
        refine WP_seq ?_
        refine WP_region ?_
        refine XL_q rfl (qt_move rfl) rfl rfl ?_
        refine XL_q rfl (qt_sub rfl rfl) rfl rfl ?_
        refine XL_q rfl (qt_move rfl) rfl rfl ?_
        refine XL_q rfl (qt_and rfl rfl) rfl rfl ?_
        refine XL_q rfl (qt_assign rfl) rfl rfl ?_
        refine WL_nil_seq ?_
        refine WP_block ?_
        obtain ⟨o55, ho56, hs16⟩ := bind_some hs16
        have H59 : Holds (([] : List Res).flatMap Res.own) w w50 [.sl 3 (.int .i64) v5 (List.set (List.set s10 (Int.toNat s9) (-1)) (Int.toNat s9) 1)] G := (H52.cut 1)
        refine fun a57 ha58 => wp_loop_fix (I := fun s a w2 => match s with | (s53, s54) => (Fr a 62 [(0, vp0), (3, v5), (4, .int .i64 s9), (5, .int .i64 s53)] ∧ Holds (([] : List Res).flatMap Res.own) w w2 [.sl 3 (.int .i64) v5 s54] G)) (O := fun o e a w2 => match o with | q0 => e = .exit 2 ∧ (Fr a 62 [(0, vp0), (3, v5), (4, .int .i64 s9)] ∧ Holds (([] : List Res).flatMap Res.own) w w2 [.sl 3 (.int .i64) v5 q0] G)) ho56 ?_ ?_ ?_
        · exact ⟨ha58.sub ⟨rfl, rfl, rfl, rfl, trivial⟩, H59⟩
        · clear ha58
          intro s o62 a w60 hs61 hI63
          obtain ⟨s53, s54⟩ := s
          obtain ⟨ha, H64⟩ := hI63
          refine WP.app ?_ ha
          clear ha
          refine WP_seq ?_
          refine WP_seq ?_
          refine WP_region ?_
          refine XL_q rfl (qt_move rfl) rfl rfl ?_
          refine XL_q rfl (qt_gtr rfl rfl) rfl rfl ?_
          refine WL_nil_seq ?_
          refine WP_cond rfl (fun hc65 => ?_) (fun hc65 => ?_)
          · have hs61 := if_t hc65 hs61
            refine WP_skip_seq ?_
            refine WP_seq ?_
            refine WP_block ?_
            refine WP_seq ?_
            refine WP_region ?_
            refine XL_q rfl (qt_move rfl) rfl rfl ?_
            refine XL_q rfl (qt_move rfl) rfl rfl ?_
            obtain ⟨x66, hx67, hs61⟩ := bind_some hs61
            refine XL_indexH H64.ctx (Has.hd) hx67 u23 i3 rfl rfl rfl rfl (fun b68 off69 cap70 hv71 => ?_)
            obtain ⟨F72, hat73, hdup74⟩ := H64.at (Has.hd) hx67 hv71
            refine XL_load_int (k := .i64) u3 rfl hat73 rfl rfl rfl ?_
            refine XL_q rfl (qt_gtr rfl rfl) rfl rfl ?_
            refine WL_nil_seq ?_
            refine WP_cond rfl (fun hc75 => ?_) (fun hc75 => ?_)
            · have hs61 := if_t hc75 hs61
              refine WP_tail 18 (by kernel_rfl) (by kernel_rfl) (fun w76 hb77 => ?_)
              have H78 : Holds (([] : List Res).flatMap Res.own) w w76 [.sl 3 (.int .i64) v5 s54] G := H64.grow hb77
              refine XL_q rfl (qt_move rfl) rfl rfl ?_
              refine XL_q rfl (qt_move rfl) rfl rfl ?_
              refine XL_q rfl (qt_move rfl) rfl rfl ?_
              refine XL_q rfl (qt_move rfl) rfl rfl ?_
              obtain ⟨x79, hx80, hs61⟩ := bind_some hs61
              refine XL_indexH H78.ctx (Has.hd) hx80 u23 i3 rfl rfl rfl rfl (fun b81 off82 cap83 hv84 => ?_)
              obtain ⟨F85, hat86, hdup87⟩ := H78.at (Has.hd) hx80 hv84
              refine XL_load_int (k := .i64) u3 rfl hat86 rfl rfl rfl ?_
              refine XL_q rfl (qt_move rfl) rfl rfl ?_
              refine XL_q rfl (qt_move rfl) rfl rfl ?_
              obtain ⟨x88, hx89, hs61⟩ := bind_some hs61
              refine XL_indexH H78.ctx (Has.hd) hx89 u23 i3 rfl rfl rfl rfl (fun b90 off91 cap92 hv93 => ?_)
              obtain ⟨F94, hat95, hdup96⟩ := H78.at (Has.hd) hx89 hv93
              refine XL_load_int (k := .i64) u3 rfl hat95 rfl rfl rfl ?_
              refine XL_q rfl (qt_move rfl) rfl rfl ?_
              refine XL_q rfl (qt_move rfl) rfl rfl ?_
              refine XL_q rfl (qt_move rfl) rfl rfl ?_
              refine XL_q rfl (qt_andNot rfl rfl) rfl rfl ?_
              obtain ⟨x97, hx98, hs61⟩ := bind_some hs61
              refine XL_indexH H78.ctx (Has.hd) hx98 u23 i3 rfl rfl rfl rfl (fun b99 off100 cap101 hv102 => ?_)
              obtain ⟨F103, hat104, hdup105⟩ := H78.at (Has.hd) hx98 hv102
              refine XL_load_int (k := .i64) u3 rfl hat104 rfl rfl rfl ?_
              refine XL_q rfl (qt_add rfl rfl) rfl rfl ?_
              refine XL_q rfl (qt_max rfl rfl) rfl rfl ?_
              refine SL_nil ?_
              obtain ⟨x106, hx107, hs61⟩ := bind_some hs61
              refine XL_indexH H78.ctx (Has.hd) hx107 u23 i3 rfl rfl rfl rfl (fun b108 off109 cap110 hv111 => ?_)
              refine WL_storeH (fo := 0) (cs' := [.int .i64 (if (IntKind.wrap .i64 (x88 + x97)) > x79 then IntKind.wrap .i64 (x88 + x97) else x79)]) H78 hx107 hv111 (Upd.whole (Blt.int)) rfl il3 rfl rfl rfl rfl (fun w112 H113 => ?_)
              have H114 : Holds (([] : List Res).flatMap Res.own) w w112 [.sl 3 (.int .i64) v5 (List.set s54 (Int.toNat s9) (if (IntKind.wrap .i64 (x88 + x97)) > x79 then IntKind.wrap .i64 (x88 + x97) else x79))] G := H113
              refine WL_nil fun a ha => ?_
              refine nrm_block (nrm_seq (WP.app ?_ ha))
              refine WP_region ?_
              refine XL_q rfl (qt_move rfl) rfl rfl ?_
              refine XL_q rfl (qt_sub rfl rfl) rfl rfl ?_
              refine XL_q rfl (qt_move rfl) rfl rfl ?_
              refine XL_q rfl (qt_and rfl rfl) rfl rfl ?_
              refine XL_q rfl (qt_assign rfl) rfl rfl ?_
              refine WL_nil fun a ha => ?_
              obtain rfl := Option.some.inj hs61
              exact ⟨rfl, ha.sub ⟨rfl, rfl, rfl, rfl, trivial⟩, H114⟩
            · have hs61 := if_f hc75 hs61
              refine WP_skip fun a ha => ?_
              refine nrm_block (nrm_seq (WP.app ?_ ha))
              refine WP_region ?_
              refine XL_q rfl (qt_move rfl) rfl rfl ?_
              refine XL_q rfl (qt_sub rfl rfl) rfl rfl ?_
              refine XL_q rfl (qt_move rfl) rfl rfl ?_
              refine XL_q rfl (qt_and rfl rfl) rfl rfl ?_
              refine XL_q rfl (qt_assign rfl) rfl rfl ?_
              refine WL_nil fun a ha => ?_
              obtain rfl := Option.some.inj hs61
              exact ⟨rfl, ha.sub ⟨rfl, rfl, rfl, rfl, trivial⟩, H64⟩
          · have hs61 := if_f hc65 hs61
            refine WP_exit fun a ha => ?_
            obtain rfl := Option.some.inj hs61
            exact exit_seq (⟨exit_ne, rfl, ha.sub ⟨rfl, rfl, rfl, trivial⟩, H64⟩)
        · intro e a57 w115 hO116
          obtain ⟨p117, rfl⟩ : ∃ z, z = o55 := ⟨o55, rfl⟩
          obtain ⟨rfl, hO119⟩ := hO116
          obtain ⟨ha, H118⟩ := hO119
          refine exit_block_eq (nrm_block (nrm_seq (WP.app ?_ ha)))
          refine WP_region ?_
          refine XL_q rfl (qt_move rfl) rfl rfl ?_
          refine XL_q rfl (qt_add rfl rfl) rfl rfl ?_
          refine XL_q rfl (qt_assign rfl) rfl rfl ?_
          refine WL_nil fun a ha => ?_
          obtain rfl := Option.some.inj hs16
          exact ⟨rfl, ha.sub ⟨rfl, rfl, rfl, trivial⟩, H118⟩
    · have hs16 := if_f hc20 hs16
      refine WP_exit fun a ha => ?_
      obtain rfl := Option.some.inj hs16
      exact exit_seq (⟨exit_ne, rfl, ha.sub ⟨rfl, trivial⟩, H19⟩)
  · intro e a13 w120 hO121
    obtain ⟨p122, rfl⟩ : ∃ z, z = o11 := ⟨o11, rfl⟩
    obtain ⟨rfl, hO124⟩ := hO121
    obtain ⟨ha, H123⟩ := hO124
    refine exit_block_eq (nrm_seq (WP.app ?_ ha))
    refine WP_seq ?_
    refine WP_region ?_
    refine XL_q rfl (qt_move rfl) rfl rfl ?_
    refine XL_q rfl (qt_assign rfl) rfl rfl ?_
    refine WL_nil_seq ?_
    refine WP_ret fun a ha => ?_
    obtain rfl := Option.some.inj h
    exact ret1 rfl ha rfl ⟨v5, rfl, H123⟩
theorem w_impl_concerned (w : World) (G : List Res) (vp0 : Value) (p0 : List Int) (hp0 : Has G (.int .i64) vp0 p0) (r : Int) (h : impl_concernedS p0 = some r) (H : Ctx w G) : Calls Tryd.prog 52 #[vp0] w fun e w' => e = .returned (.int .i64 r) ∧ Holds (([] : List Res).flatMap Res.own) w w' [] G := by
  have H : Holds (([] : List Res).flatMap Res.own) w w [] G := Holds.startN H
  refine calls_enter (args := [vp0]) (n := 21) Tryd.func52 rfl rfl rfl ?_
  unfold impl_concernedS at h
  refine WP_seq ?_
  refine WP_region ?_
  refine XL_q rfl (qt_assign rfl) rfl rfl ?_
  refine WL_nil_seq ?_
  refine WP_seq ?_
  refine WP_region ?_
  refine XL_q rfl (qt_assign rfl) rfl rfl ?_
  refine WL_nil_seq ?_
  refine WP_seq ?_
  refine WP_seq ?_
  refine WP_region ?_
  refine XL_q rfl (qt_move rfl) rfl rfl ?_
  refine XL_lenH H.ctx (t := (.int .i64)) (hp0) u23 rfl rfl rfl ?_
  refine XL_q rfl (qt_move rfl) rfl rfl ?_
  refine WL_nil_seq ?_
  refine WP_block ?_
  obtain ⟨o3, ho4, h⟩ := bind_some h
  refine fun a5 ha6 => wp_loop_fix (I := fun s a w2 => match s with | (s1, s2) => (Fr a 21 [(3, .int .i64 s1), (6, vp0), (7, .int .i64 (List.length p0 : Int)), (8, .int .i64 s2)] ∧ Holds (([] : List Res).flatMap Res.own) w w2 [] G)) (O := fun o e a w2 => match o with | q0 => e = .exit 0 ∧ (Fr a 21 [(3, .int .i64 q0)] ∧ Holds (([] : List Res).flatMap Res.own) w w2 [] G)) ho4 ?_ ?_ ?_
  · exact ⟨ha6.sub ⟨rfl, rfl, rfl, rfl, trivial⟩, H⟩
  · clear ha6
    intro s o9 a w7 hs8 hI10
    obtain ⟨s1, s2⟩ := s
    obtain ⟨ha, H11⟩ := hI10
    refine WP.app ?_ ha
    clear ha
    refine WP_seq ?_
    refine WP_region ?_
    refine XL_q rfl (qt_lss rfl rfl) rfl rfl ?_
    refine WL_nil_seq ?_
    refine WP_seq ?_
    refine WP_cond rfl (fun hc12 => ?_) (fun hc12 => ?_)
    · have hs8 := if_t hc12 hs8
      refine WP_skip_seq ?_
      refine WP_seq ?_
      refine WP_block ?_
      refine WP_seq ?_
      refine WP_region ?_
      refine XL_q rfl (qt_move rfl) rfl rfl ?_
      obtain ⟨x13, hx14, hs8⟩ := bind_some hs8
      refine XL_indexH H11.ctx (hp0) hx14 u23 i3 rfl rfl rfl rfl (fun b15 off16 cap17 hv18 => ?_)
      obtain ⟨F19, hat20, hdup21⟩ := H11.at (hp0) hx14 hv18
      refine XL_load_int (k := .i64) u3 rfl hat20 rfl rfl rfl ?_
      refine XL_q rfl (qt_assign rfl) rfl rfl ?_
      refine XL_q rfl (qt_assign rfl) rfl rfl ?_
      refine WL_nil_seq ?_
      refine WP_seq ?_
      refine WP_region ?_
      refine XL_q rfl (qt_move rfl) rfl rfl ?_
      refine XL_q rfl (qt_neq rfl rfl) rfl rfl ?_
      refine WL_nil_seq ?_
      refine WP_cond rfl (fun hc22 => ?_) (fun hc22 => ?_)
      · have hs8 := if_t hc22 hs8
        refine WP_region ?_
        refine XL_q rfl (qt_move rfl) rfl rfl ?_
        refine XL_q rfl (qt_move rfl) rfl rfl ?_
        obtain ⟨x23, hx24, hs8⟩ := bind_some hs8
        refine XL_q rfl (qt_shlO rfl rfl hx24) rfl rfl ?_
        refine XL_q rfl (qt_or rfl rfl) rfl rfl ?_
        refine XL_q rfl (qt_assign rfl) rfl rfl ?_
        refine WL_nil fun a ha => ?_
        refine nrm_block (nrm_seq (WP.app ?_ ha))
        refine WP_region ?_
        refine XL_q rfl (qt_add rfl rfl) rfl rfl ?_
        refine XL_q rfl (qt_move rfl) rfl rfl ?_
        refine WL_nil fun a ha => ?_
        obtain rfl := Option.some.inj hs8
        exact ⟨rfl, ha.sub ⟨rfl, rfl, rfl, rfl, trivial⟩, H11⟩
      · have hs8 := if_f hc22 hs8
        refine WP_skip fun a ha => ?_
        refine nrm_block (nrm_seq (WP.app ?_ ha))
        refine WP_region ?_
        refine XL_q rfl (qt_add rfl rfl) rfl rfl ?_
        refine XL_q rfl (qt_move rfl) rfl rfl ?_
        refine WL_nil fun a ha => ?_
        obtain rfl := Option.some.inj hs8
        exact ⟨rfl, ha.sub ⟨rfl, rfl, rfl, rfl, trivial⟩, H11⟩
    · have hs8 := if_f hc12 hs8
      refine WP_exit fun a ha => ?_
      obtain rfl := Option.some.inj hs8
      exact exit_seq (⟨exit_ne, rfl, ha.sub ⟨rfl, trivial⟩, H11⟩)
  · intro e a5 w25 hO26
    obtain ⟨p27, rfl⟩ : ∃ z, z = o3 := ⟨o3, rfl⟩
    obtain ⟨rfl, hO29⟩ := hO26
    obtain ⟨ha, H28⟩ := hO29
    refine exit_block_eq (nrm_seq (WP.app ?_ ha))
    refine WP_seq ?_
    refine WP_region ?_
    refine XL_q rfl (qt_move rfl) rfl rfl ?_
    refine XL_q rfl (qt_assign rfl) rfl rfl ?_
    refine WL_nil_seq ?_
    refine WP_ret fun a ha => ?_
    obtain rfl := Option.some.inj h
    exact ret1 rfl ha rfl ⟨rfl, H28⟩
theorem w_impl_GroupsMost (w : World) (G : List Res) (vp0 : Value) (p0 : List Int) (hp0 : Has G (.int .i64) vp0 p0) (r : Int) (h : impl_GroupsMostS p0 = some r) (H : Ctx w G) : Calls Tryd.prog 20 #[vp0] w fun e w' => e = .returned (.int .i64 r) ∧ Holds (([] : List Res).flatMap Res.own) w w' [] G := by
  have H : Holds (([] : List Res).flatMap Res.own) w w [] G := Holds.startN H
  refine calls_enter (args := [vp0]) (n := 12) Tryd.func20 rfl rfl rfl ?_
  unfold impl_GroupsMostS at h
  refine WP_seq ?_
  refine WP_region ?_
  refine XL_q rfl (qt_assign rfl) rfl rfl ?_
  refine WL_nil_seq ?_
  refine WP_seq ?_
  refine WP_seq ?_
  refine WP_still ?_
  refine XL_q rfl (qt_move rfl) rfl rfl ?_
  obtain ⟨x1, hx2, h⟩ := bind_some h
  refine QL_call rfl rfl c13 (fun w' hb => (w_impl_OwedValid w' G vp0 p0 (hp0) x1 hx2 (H.grow hb).ctx).mono fun e w'' hK => ⟨hK.1, hK.2.bel⟩) (by rfl) ?_
  refine XL_q rfl (qt_not rfl) rfl rfl ?_
  refine QL_nil fun a ha w3 hb4 => ?_
  have H5 : Holds (([] : List Res).flatMap Res.own) w w3 [] G := H.grow hb4
  refine nrm_seq (WP.app ?_ ha)
  refine WP_cond rfl (fun hc6 => ?_) (fun hc6 => ?_)
  · have h := if_t hc6 h
    refine WP_seq ?_
    refine WP_region ?_
    refine XL_q rfl (qt_assign rfl) rfl rfl ?_
    refine WL_nil_seq ?_
    refine WP_ret fun a ha => ?_
    obtain rfl := Option.some.inj h
    exact ret_seq (ret1 rfl ha rfl ⟨rfl, H5⟩)
  · have h := if_f hc6 h
    refine WP_skip_seq ?_
    refine WP_seq ?_
    refine WP_region ?_
    refine XL_q rfl (qt_move rfl) rfl rfl ?_
    obtain ⟨x7, hx8, h⟩ := bind_some h
    refine WL_call rfl rfl c51 (w_impl_groupTable w3 G vp0 p0 (hp0) x7 hx8 H5.ctx) (by rfl) ?_
    rintro _ w9 ⟨v11, rfl, H10⟩; refine ⟨_, rfl, ?_⟩
    have H12 : Holds (([] : List Res).flatMap Res.own) w w9 [.sl 3 (.int .i64) v11 x7] G := H5.calledN (Rs := []) H10
    refine XL_q rfl (qt_move rfl) rfl rfl ?_
    obtain ⟨x13, hx14, h⟩ := bind_some h
    refine WL_call rfl rfl c52 (w_impl_concerned w9 ([.sl 3 (.int .i64) v11 x7] ++ G) vp0 p0 (hp0.c) x13 hx14 H12.ctx) (by rfl) ?_
    rintro _ w15 ⟨rfl, H16⟩; refine ⟨_, rfl, ?_⟩
    have H17 : Holds (([] : List Res).flatMap Res.own) w w15 [.sl 3 (.int .i64) v11 x7] G := H12.calledN (Rs := []) H16
    obtain ⟨x18, hx19, h⟩ := bind_some h
    refine XL_indexH H17.ctx (Has.hd) hx19 u23 i3 rfl rfl rfl rfl (fun b20 off21 cap22 hv23 => ?_)
    obtain ⟨F24, hat25, hdup26⟩ := H17.at (Has.hd) hx19 hv23
    refine XL_load_int (k := .i64) u3 rfl hat25 rfl rfl rfl ?_
    refine XL_q rfl (qt_assign rfl) rfl rfl ?_
    refine WL_nil_seq ?_
    refine WP_ret fun a ha => ?_
    obtain rfl := Option.some.inj h
    have H27 : Holds (([] : List Res).flatMap Res.own) w w15 [] G := (H17.cut 0)
    exact ret1 rfl ha rfl ⟨rfl, H27⟩
theorem w_spec_l5Sum (w : World) (G : List Res) (vp0 : Value) (p0 : List Int) (hp0 : Has G (.int .i64) vp0 p0) (p1 : Int) (r : Int) (h : spec_l5SumS p0 p1 = some r) (H : Ctx w G) : Calls Tryd.prog 72 #[vp0, .int .i64 p1] w fun e w' => e = .returned (.int .i64 r) ∧ Holds (([] : List Res).flatMap Res.own) w w' [] G := by
  have H : Holds (([] : List Res).flatMap Res.own) w w [] G := Holds.startN H
  refine calls_enter (args := [vp0, .int .i64 p1]) (n := 25) Tryd.func72 rfl rfl rfl ?_
  unfold spec_l5SumS at h
  refine WP_seq ?_
  refine WP_region ?_
  refine XL_q rfl (qt_assign rfl) rfl rfl ?_
  refine WL_nil_seq ?_
  refine WP_seq ?_
  refine WP_region ?_
  refine XL_q rfl (qt_assign rfl) rfl rfl ?_
  refine WL_nil_seq ?_
  refine WP_seq ?_
  refine WP_seq ?_
  refine WP_region ?_
  refine XL_q rfl (qt_assign rfl) rfl rfl ?_
  refine WL_nil_seq ?_
  refine WP_block ?_
  obtain ⟨o3, ho4, h⟩ := bind_some h
  refine fun a5 ha6 => wp_loop_fix (I := fun s a w2 => match s with | (s1, s2) => (Fr a 25 [(0, vp0), (1, .int .i64 p1), (5, .int .i64 s1), (6, .int .i64 s2)] ∧ Holds (([] : List Res).flatMap Res.own) w w2 [] G)) (O := fun o e a w2 => match o with | q0 => e = .exit 0 ∧ (Fr a 25 [(5, .int .i64 q0)] ∧ Holds (([] : List Res).flatMap Res.own) w w2 [] G)) ho4 ?_ ?_ ?_
  · exact ⟨ha6.sub ⟨rfl, rfl, rfl, rfl, trivial⟩, H⟩
  · clear ha6
    intro s o9 a w7 hs8 hI10
    obtain ⟨s1, s2⟩ := s
    obtain ⟨ha, H11⟩ := hI10
    refine WP.app ?_ ha
    clear ha
    refine WP_seq ?_
    refine WP_seq ?_
    refine WP_region ?_
    refine XL_q rfl (qt_move rfl) rfl rfl ?_
    refine XL_q rfl (qt_move rfl) rfl rfl ?_
    refine XL_lenH H11.ctx (t := (.int .i64)) (hp0) u23 rfl rfl rfl ?_
    refine XL_q rfl (qt_lss rfl rfl) rfl rfl ?_
    refine WL_nil_seq ?_
    refine WP_cond rfl (fun hc12 => ?_) (fun hc12 => ?_)
    · have hs8 := if_t hc12 hs8
      refine WP_skip_seq ?_
      refine WP_seq ?_
      refine WP_block ?_
      refine WP_seq ?_
      refine WP_region ?_
      refine XL_q rfl (qt_move rfl) rfl rfl ?_
      refine XL_q rfl (qt_move rfl) rfl rfl ?_
      obtain ⟨x13, hx14, hs8⟩ := bind_some hs8
      refine XL_q rfl (qt_shrO rfl rfl hx14) rfl rfl ?_
      refine XL_q rfl (qt_rem rfl rfl (by decide)) rfl rfl ?_
      refine XL_q rfl (qt_eql rfl rfl) rfl rfl ?_
      refine WL_nil_seq ?_
      refine WP_cond rfl (fun hc15 => ?_) (fun hc15 => ?_)
      · have hs8 := if_t hc15 hs8
        refine WP_region ?_
        refine XL_q rfl (qt_move rfl) rfl rfl ?_
        refine XL_q rfl (qt_move rfl) rfl rfl ?_
        refine XL_q rfl (qt_move rfl) rfl rfl ?_
        obtain ⟨x16, hx17, hs8⟩ := bind_some hs8
        refine XL_indexH H11.ctx (hp0) hx17 u23 i3 rfl rfl rfl rfl (fun b18 off19 cap20 hv21 => ?_)
        obtain ⟨F22, hat23, hdup24⟩ := H11.at (hp0) hx17 hv21
        refine XL_load_int (k := .i64) u3 rfl hat23 rfl rfl rfl ?_
        refine XL_q rfl (qt_add rfl rfl) rfl rfl ?_
        refine XL_q rfl (qt_assign rfl) rfl rfl ?_
        refine WL_nil fun a ha => ?_
        refine nrm_block (nrm_seq (WP.app ?_ ha))
        refine WP_region ?_
        refine XL_q rfl (qt_move rfl) rfl rfl ?_
        refine XL_q rfl (qt_add rfl rfl) rfl rfl ?_
        refine XL_q rfl (qt_assign rfl) rfl rfl ?_
        refine WL_nil fun a ha => ?_
        obtain rfl := Option.some.inj hs8
        exact ⟨rfl, ha.sub ⟨rfl, rfl, rfl, rfl, trivial⟩, H11⟩
      · have hs8 := if_f hc15 hs8
        refine WP_skip fun a ha => ?_
        refine nrm_block (nrm_seq (WP.app ?_ ha))
        refine WP_region ?_
        refine XL_q rfl (qt_move rfl) rfl rfl ?_
        refine XL_q rfl (qt_add rfl rfl) rfl rfl ?_
        refine XL_q rfl (qt_assign rfl) rfl rfl ?_
        refine WL_nil fun a ha => ?_
        obtain rfl := Option.some.inj hs8
        exact ⟨rfl, ha.sub ⟨rfl, rfl, rfl, rfl, trivial⟩, H11⟩
    · have hs8 := if_f hc12 hs8
      refine WP_exit fun a ha => ?_
      obtain rfl := Option.some.inj hs8
      exact exit_seq (⟨exit_ne, rfl, ha.sub ⟨rfl, trivial⟩, H11⟩)
  · intro e a5 w25 hO26
    obtain ⟨p27, rfl⟩ : ∃ z, z = o3 := ⟨o3, rfl⟩
    obtain ⟨rfl, hO29⟩ := hO26
    obtain ⟨ha, H28⟩ := hO29
    refine exit_block_eq (nrm_seq (WP.app ?_ ha))
    refine WP_seq ?_
    refine WP_region ?_
    refine XL_q rfl (qt_move rfl) rfl rfl ?_
    refine XL_q rfl (qt_assign rfl) rfl rfl ?_
    refine WL_nil_seq ?_
    refine WP_ret fun a ha => ?_
    obtain rfl := Option.some.inj h
    exact ret1 rfl ha rfl ⟨rfl, H28⟩
theorem w_spec_l1Join (w : World) (G : List Res) (p0 : Int) (p1 : Int) (r : Int) (h : spec_l1JoinS p0 p1 = some r) (H : Ctx w G) : Calls Tryd.prog 80 #[.int .i64 p0, .int .i64 p1] w fun e w' => e = .returned (.int .i64 r) ∧ Holds (([] : List Res).flatMap Res.own) w w' [] G := by
  have H : Holds (([] : List Res).flatMap Res.own) w w [] G := Holds.startN H
  refine calls_enter (args := [.int .i64 p0, .int .i64 p1]) (n := 30) Tryd.func80 rfl rfl rfl ?_
  unfold spec_l1JoinS at h
  refine WP_seq ?_
  refine WP_region ?_
  refine XL_q rfl (qt_assign rfl) rfl rfl ?_
  refine WL_nil_seq ?_
  refine WP_seq ?_
  refine WP_region ?_
  refine XL_q rfl (qt_assign rfl) rfl rfl ?_
  refine WL_nil_seq ?_
  refine WP_seq ?_
  refine WP_seq ?_
  refine WP_region ?_
  refine XL_q rfl (qt_assign rfl) rfl rfl ?_
  refine WL_nil_seq ?_
  refine WP_block ?_
  obtain ⟨o3, ho4, h⟩ := bind_some h
  refine fun a5 ha6 => wp_loop_fix (I := fun s a w2 => match s with | (s1, s2) => (Fr a 30 [(0, .int .i64 p0), (1, .int .i64 p1), (5, .int .i64 s1), (6, .int .i64 s2)] ∧ Holds (([] : List Res).flatMap Res.own) w w2 [] G)) (O := fun o e a w2 => match o with | q0 => e = .exit 0 ∧ (Fr a 30 [(5, .int .i64 q0)] ∧ Holds (([] : List Res).flatMap Res.own) w w2 [] G)) ho4 ?_ ?_ ?_
  · exact ⟨ha6.sub ⟨rfl, rfl, rfl, rfl, trivial⟩, H⟩
  · clear ha6
    intro s o9 a w7 hs8 hI10
    obtain ⟨s1, s2⟩ := s
    obtain ⟨ha, H11⟩ := hI10
    refine WP.app ?_ ha
    clear ha
    refine WP_seq ?_
    refine WP_seq ?_
    refine WP_region ?_
    refine XL_q rfl (qt_move rfl) rfl rfl ?_
    refine XL_q rfl (qt_move rfl) rfl rfl ?_
    refine XL_q rfl (qt_move rfl) rfl rfl ?_
    refine XL_q rfl (qt_max rfl rfl) rfl rfl ?_
    refine XL_q rfl (qt_leq rfl rfl) rfl rfl ?_
    refine WL_nil_seq ?_
    refine WP_cond rfl (fun hc12 => ?_) (fun hc12 => ?_)
    · have hs8 := if_t hc12 hs8
      refine WP_skip_seq ?_
      refine WP_seq ?_
      refine WP_block ?_
      refine WP_seq ?_
      refine WP_region ?_
      refine XL_q rfl (qt_move rfl) rfl rfl ?_
      refine XL_q rfl (qt_move rfl) rfl rfl ?_
      obtain ⟨x13, hx14, hs8⟩ := bind_some hs8
      refine XL_q rfl (qt_quoO rfl rfl hx14) rfl rfl ?_
      refine XL_q rfl (qt_rem rfl rfl (by decide)) rfl rfl ?_
      refine XL_q rfl (qt_eql rfl rfl) rfl rfl ?_
      refine XL_q rfl (qt_move rfl) rfl rfl ?_
      obtain ⟨b15, hg16, hs8⟩ := bind_some hs8
      refine XL_join 6 25 (.bool b15) ?_ (fun md hmd hk => ?_)
      rotate_left
      · obtain ⟨Q, rfl⟩ := Md.seq_of hmd
        rcases btf ((Int.tmod x13 2) == 1) with hc17 | hc17
        · skip
          refine XL_skip (w_skip rfl hc17) rfl rfl ?_
          refine XL_skip (w_skip rfl hc17) rfl rfl ?_
          refine XL_skip (w_skip rfl hc17) rfl rfl ?_
          refine XL_skip (w_skip rfl hc17) rfl rfl ?_
          refine XL_skip (w_skip rfl hc17) rfl rfl ?_
          refine XL_q rfl (qt_pickT rfl hc17 rfl) rfl rfl ?_
          exact hk _ (Cov.same (vb (if_t hc17 hg16)) (Cov.fresh rfl (Cov.fresh rfl (Cov.fresh rfl (Cov.fresh rfl (Cov.fresh rfl (Cov.refl)))))))
        · skip
          have hg16 := if_f hc17 hg16
          refine XL_q (w_take rfl hc17) (qt_move rfl) rfl rfl ?_
          refine XL_q (w_take rfl hc17) (qt_move rfl) rfl rfl ?_
          obtain ⟨x18, hx19, hg16⟩ := bind_some hg16
          refine XL_q (w_take rfl hc17) (qt_quoO rfl rfl hx19) rfl rfl ?_
          refine XL_q (w_take rfl hc17) (qt_rem rfl rfl (by decide)) rfl rfl ?_
          refine XL_q (w_take rfl hc17) (qt_eql rfl rfl) rfl rfl ?_
          refine XL_q rfl (qt_pickF rfl hc17 rfl) rfl rfl ?_
          exact hk _ (Cov.same (vb hg16) (Cov.fresh rfl (Cov.fresh rfl (Cov.fresh rfl (Cov.fresh rfl (Cov.fresh rfl (Cov.refl)))))))
      refine WL_nil_seq ?_
      refine WP_cond rfl (fun hc20 => ?_) (fun hc20 => ?_)
      · have hs8 := if_t hc20 hs8
        refine WP_region ?_
        refine XL_q rfl (qt_move rfl) rfl rfl ?_
        refine XL_q rfl (qt_move rfl) rfl rfl ?_
        refine XL_q rfl (qt_add rfl rfl) rfl rfl ?_
        refine XL_q rfl (qt_assign rfl) rfl rfl ?_
        refine WL_nil fun a ha => ?_
        refine nrm_block (nrm_seq (WP.app ?_ ha))
        refine WP_region ?_
        refine XL_q rfl (qt_move rfl) rfl rfl ?_
        refine XL_q rfl (qt_mul rfl rfl) rfl rfl ?_
        refine XL_q rfl (qt_assign rfl) rfl rfl ?_
        refine WL_nil fun a ha => ?_
        obtain rfl := Option.some.inj hs8
        exact ⟨rfl, ha.sub ⟨rfl, rfl, rfl, rfl, trivial⟩, H11⟩
      · have hs8 := if_f hc20 hs8
        refine WP_skip fun a ha => ?_
        refine nrm_block (nrm_seq (WP.app ?_ ha))
        refine WP_region ?_
        refine XL_q rfl (qt_move rfl) rfl rfl ?_
        refine XL_q rfl (qt_mul rfl rfl) rfl rfl ?_
        refine XL_q rfl (qt_assign rfl) rfl rfl ?_
        refine WL_nil fun a ha => ?_
        obtain rfl := Option.some.inj hs8
        exact ⟨rfl, ha.sub ⟨rfl, rfl, rfl, rfl, trivial⟩, H11⟩
    · have hs8 := if_f hc12 hs8
      refine WP_exit fun a ha => ?_
      obtain rfl := Option.some.inj hs8
      exact exit_seq (⟨exit_ne, rfl, ha.sub ⟨rfl, trivial⟩, H11⟩)
  · intro e a5 w21 hO22
    obtain ⟨p23, rfl⟩ : ∃ z, z = o3 := ⟨o3, rfl⟩
    obtain ⟨rfl, hO25⟩ := hO22
    obtain ⟨ha, H24⟩ := hO25
    refine exit_block_eq (nrm_seq (WP.app ?_ ha))
    refine WP_seq ?_
    refine WP_region ?_
    refine XL_q rfl (qt_move rfl) rfl rfl ?_
    refine XL_q rfl (qt_assign rfl) rfl rfl ?_
    refine WL_nil_seq ?_
    refine WP_ret fun a ha => ?_
    obtain rfl := Option.some.inj h
    exact ret1 rfl ha rfl ⟨rfl, H24⟩
theorem w_spec_l1Meet (w : World) (G : List Res) (p0 : Int) (p1 : Int) (r : Int) (h : spec_l1MeetS p0 p1 = some r) (H : Ctx w G) : Calls Tryd.prog 73 #[.int .i64 p0, .int .i64 p1] w fun e w' => e = .returned (.int .i64 r) ∧ Holds (([] : List Res).flatMap Res.own) w w' [] G := by
  have H : Holds (([] : List Res).flatMap Res.own) w w [] G := Holds.startN H
  refine calls_enter (args := [.int .i64 p0, .int .i64 p1]) (n := 12) Tryd.func73 rfl rfl rfl ?_
  unfold spec_l1MeetS at h
  refine WP_seq ?_
  refine WP_region ?_
  refine XL_q rfl (qt_assign rfl) rfl rfl ?_
  refine WL_nil_seq ?_
  refine WP_seq ?_
  refine WP_still ?_
  refine XL_q rfl (qt_move rfl) rfl rfl ?_
  refine XL_q rfl (qt_move rfl) rfl rfl ?_
  refine XL_q rfl (qt_add rfl rfl) rfl rfl ?_
  refine XL_q rfl (qt_move rfl) rfl rfl ?_
  refine XL_q rfl (qt_move rfl) rfl rfl ?_
  obtain ⟨x1, hx2, h⟩ := bind_some h
  refine QL_call rfl rfl c80 (fun w' hb => (w_spec_l1Join w' G p0 p1 x1 hx2 (H.grow hb).ctx).mono fun e w'' hK => ⟨hK.1, hK.2.bel⟩) (by rfl) ?_
  refine XL_q rfl (qt_sub rfl rfl) rfl rfl ?_
  refine XL_q rfl (qt_assign rfl) rfl rfl ?_
  refine QL_nil fun a ha w3 hb4 => ?_
  have H5 : Holds (([] : List Res).flatMap Res.own) w w3 [] G := H.grow hb4
  refine nrm_seq (WP.app ?_ ha)
  refine WP_ret fun a ha => ?_
  obtain rfl := Option.some.inj h
  exact ret1 rfl ha rfl ⟨rfl, H5⟩
theorem w_spec_l5Groups (w : World) (G : List Res) (vp0 : Value) (p0 : List Int) (hp0 : Has G (.int .i64) vp0 p0) (r : (List Int)) (h : spec_l5GroupsS p0 = some r) (H : Ctx w G) : Calls Tryd.prog 53 #[vp0] w fun e w' => ∃ (v1 : Value), e = .returned (v1) ∧ Holds (([] : List Res).flatMap Res.own) w w' [.sl 3 (.int .i64) v1 r] G := by
  have H : Holds (([] : List Res).flatMap Res.own) w w [] G := Holds.startN H
  refine calls_enter (args := [vp0]) (n := 65) Tryd.func53 rfl rfl rfl ?_
  unfold spec_l5GroupsS at h
  refine WP_seq ?_
  refine WP_region ?_
  refine XL_q rfl (qt_assign rfl) rfl rfl ?_
  refine WL_nil_seq ?_
  refine WP_seq ?_
  refine WP_region ?_
  refine WL_buildH (t := (.int .i64)) (args := [.const (.int .i64 0)]) (xs := ([0] : List Int)) H (BltL.cons (Blt.int) rfl (BltL.nil)) u23 j3 rfl rfl rfl rfl rfl rfl (fun v1 w2 H3 => ?_)
  have H4 : Holds (([] : List Res).flatMap Res.own) w w2 [.sl 3 (.int .i64) v1 ([0])] G := H3
  refine XL_q rfl (qt_assign rfl) rfl rfl ?_
  refine WL_nil_seq ?_
  refine WP_seq ?_
  refine WP_seq ?_
  refine WP_region ?_
  refine XL_q rfl (qt_assign rfl) rfl rfl ?_
  refine WL_nil_seq ?_
  refine WP_block ?_
  obtain ⟨o7, ho8, h⟩ := bind_some h
  refine fun a9 ha10 => wp_loop_fix (I := fun s a w2 => match s with | (s5, s6) => ∃ vs5, Fr a 65 [(0, vp0), (3, vs5), (4, .int .i64 s6)] ∧ Holds (([] : List Res).flatMap Res.own) w w2 [.sl 3 (.int .i64) vs5 s5] G) (O := fun o e a w2 => match o with | q0 => e = .exit 0 ∧ ∃ vq0, Fr a 65 [(3, vq0)] ∧ Holds (([] : List Res).flatMap Res.own) w w2 [.sl 3 (.int .i64) vq0 q0] G) ho8 ?_ ?_ ?_
  · exact ⟨v1, ha10.sub ⟨rfl, rfl, rfl, trivial⟩, H4⟩
  · clear ha10
    intro s o13 a w11 hs12 hI14
    obtain ⟨s5, s6⟩ := s
    obtain ⟨vs5, ha, H15⟩ := hI14
    refine WP.app ?_ ha
    clear ha
    refine WP_seq ?_
    refine WP_seq ?_
    refine WP_region ?_
    refine XL_q rfl (qt_move rfl) rfl rfl ?_
    refine XL_q rfl (qt_move rfl) rfl rfl ?_
    refine XL_lenH H15.ctx (t := (.int .i64)) (hp0.c) u23 rfl rfl rfl ?_
    obtain ⟨x16, hx17, hs12⟩ := bind_some hs12
    refine XL_q rfl (qt_shlO rfl rfl hx17) rfl rfl ?_
    refine XL_q rfl (qt_lss rfl rfl) rfl rfl ?_
    refine WL_nil_seq ?_
    refine WP_cond rfl (fun hc18 => ?_) (fun hc18 => ?_)
    · have hs12 := if_t hc18 hs12
      refine WP_skip_seq ?_
      refine WP_seq ?_
      refine WP_block ?_
      refine WP_seq ?_
      refine WP_region ?_
      refine XL_q rfl (qt_assign rfl) rfl rfl ?_
      refine WL_nil_seq ?_
      refine WP_seq ?_
      refine WP_seq ?_
      refine WP_still ?_
      refine XL_q rfl (qt_move rfl) rfl rfl ?_
      refine XL_q rfl (qt_move rfl) rfl rfl ?_
      obtain ⟨x19, hx20, hs12⟩ := bind_some hs12
      refine QL_call rfl rfl c72 (fun w' hb => (w_spec_l5Sum w' ([.sl 3 (.int .i64) vs5 s5] ++ G) vp0 p0 (hp0.c) s6 x19 hx20 (H15.grow hb).ctx).mono fun e w'' hK => ⟨hK.1, hK.2.bel⟩) (by rfl) ?_
      refine XL_q rfl (qt_eql rfl rfl) rfl rfl ?_
      refine QL_nil fun a ha w21 hb22 => ?_
      have H23 : Holds (([] : List Res).flatMap Res.own) w w21 [.sl 3 (.int .i64) vs5 s5] G := H15.grow hb22
      refine nrm_seq (WP.app ?_ ha)
      obtain ⟨o25, ho26, hs12⟩ := bind_some hs12
      obtain ⟨j24, rfl⟩ : ∃ z, z = o25 := ⟨o25, rfl⟩
      refine WP_join (M := fun a w2 => (Fr a 65 [(0, vp0), (3, vs5), (4, .int .i64 s6), (5, .int .i64 j24)] ∧ Holds (([] : List Res).flatMap Res.own) w w2 [.sl 3 (.int .i64) vs5 s5] G)) ?_ ?_
      · refine WP_cond rfl (fun hc27 => ?_) (fun hc27 => ?_)
        · have ho26 := if_t hc27 ho26
          refine WP_seq ?_
          refine WP_region ?_
          refine XL_q rfl (qt_assign rfl) rfl rfl ?_
          refine WL_nil_seq ?_
          refine WP_seq ?_
          refine WP_region ?_
          refine XL_q rfl (qt_assign rfl) rfl rfl ?_
          refine WL_nil_seq ?_
          refine WP_block ?_
          obtain ⟨o30, ho31, ho26⟩ := bind_some ho26
          refine fun a32 ha33 => wp_loop_fix (I := fun s a w2 => match s with | (s28, s29) => (Fr a 65 [(0, vp0), (3, vs5), (4, .int .i64 s6), (5, .int .i64 s28), (6, .int .i64 s29)] ∧ Holds (([] : List Res).flatMap Res.own) w w2 [.sl 3 (.int .i64) vs5 s5] G)) (O := fun o e a w2 => match o with | q0 => e = .exit 2 ∧ (Fr a 65 [(0, vp0), (3, vs5), (4, .int .i64 s6), (5, .int .i64 q0)] ∧ Holds (([] : List Res).flatMap Res.own) w w2 [.sl 3 (.int .i64) vs5 s5] G)) ho31 ?_ ?_ ?_
          · exact ⟨ha33.sub ⟨rfl, rfl, rfl, rfl, rfl, trivial⟩, H23⟩
          · clear ha33
            intro s o36 a w34 hs35 hI37
            obtain ⟨s28, s29⟩ := s
            obtain ⟨ha, H38⟩ := hI37
            refine WP.app ?_ ha
            clear ha
            refine WP_seq ?_
            refine WP_seq ?_
            refine WP_region ?_
            refine XL_q rfl (qt_move rfl) rfl rfl ?_
            refine XL_q rfl (qt_move rfl) rfl rfl ?_
            refine XL_q rfl (qt_lss rfl rfl) rfl rfl ?_
            refine WL_nil_seq ?_
            refine WP_cond rfl (fun hc39 => ?_) (fun hc39 => ?_)
            · have hs35 := if_t hc39 hs35
              refine WP_skip_seq ?_
              refine WP_seq ?_
              refine WP_block ?_
              refine WP_seq ?_
              refine WP_still ?_
              refine XL_q rfl (qt_move rfl) rfl rfl ?_
              refine XL_q rfl (qt_move rfl) rfl rfl ?_
              refine XL_q rfl (qt_move rfl) rfl rfl ?_
              obtain ⟨x40, hx41, hs35⟩ := bind_some hs35
              refine QL_call rfl rfl c73 (fun w' hb => (w_spec_l1Meet w' ([.sl 3 (.int .i64) vs5 s5] ++ G) s29 s6 x40 hx41 (H38.grow hb).ctx).mono fun e w'' hK => ⟨hK.1, hK.2.bel⟩) (by rfl) ?_
              refine XL_q rfl (qt_sub rfl rfl) rfl rfl ?_
              refine XL_q rfl (qt_assign rfl) rfl rfl ?_
              refine QL_nil fun a ha w42 hb43 => ?_
              have H44 : Holds (([] : List Res).flatMap Res.own) w w42 [.sl 3 (.int .i64) vs5 s5] G := H38.grow hb43
              refine nrm_seq (WP.app ?_ ha)
              refine WP_seq ?_
              refine WP_still ?_
              refine XL_q rfl (qt_move rfl) rfl rfl ?_
              refine XL_q rfl (qt_move rfl) rfl rfl ?_
              obtain ⟨x45, hx46, hs35⟩ := bind_some hs35
              refine QL_call rfl rfl c73 (fun w' hb => (w_spec_l1Meet w' ([.sl 3 (.int .i64) vs5 s5] ++ G) s29 s6 x45 hx46 (H44.grow hb).ctx).mono fun e w'' hK => ⟨hK.1, hK.2.bel⟩) (by rfl) ?_
              refine XL_q rfl (qt_move rfl) rfl rfl ?_
              refine XL_q rfl (qt_eql rfl rfl) rfl rfl ?_
              refine XL_q rfl (qt_move rfl) rfl rfl ?_
              obtain ⟨b47, hg48, hs35⟩ := bind_some hs35
              refine XL_join 6 41 (.bool b47) ?_ (fun md hmd hk => ?_)
              rotate_left
              · obtain ⟨K, rfl⟩ := Md.quiet_of hmd
                rcases btf (x45 == s29) with hc49 | hc49
                · skip
                  have hg48 := if_t hc49 hg48
                  refine XL_q (w_take rfl hc49) (qt_move rfl) rfl rfl ?_
                  refine XL_q (w_take rfl hc49) (qt_move rfl) rfl rfl ?_
                  obtain ⟨x50, hx51, hg48⟩ := bind_some hg48
                  refine XL_indexH H44.ctx (Has.hd) hx51 u23 i3 (w_take rfl hc49) rfl rfl rfl (fun b52 off53 cap54 hv55 => ?_)
                  obtain ⟨F56, hat57, hdup58⟩ := H44.at (Has.hd) hx51 hv55
                  refine XL_load_int (k := .i64) u3 rfl hat57 (w_take rfl hc49) rfl rfl ?_
                  refine XL_q (w_take rfl hc49) (qt_geq rfl rfl) rfl rfl ?_
                  refine XL_q rfl (qt_pickT rfl hc49 rfl) rfl rfl ?_
                  exact hk _ (Cov.same (vb hg48) (Cov.fresh rfl (Cov.fresh rfl (Cov.fresh rfl (Cov.fresh rfl (Cov.fresh rfl (Cov.refl)))))))
                · skip
                  refine XL_skip (w_skip rfl hc49) rfl rfl ?_
                  refine XL_skip (w_skip rfl hc49) rfl rfl ?_
                  refine XL_skip (w_skip rfl hc49) rfl rfl ?_
                  refine XL_skip (w_skip rfl hc49) rfl rfl ?_
                  refine XL_skip (w_skip rfl hc49) rfl rfl ?_
                  refine XL_q rfl (qt_pickF rfl hc49 rfl) rfl rfl ?_
                  exact hk _ (Cov.same (vb (if_f hc49 hg48)) (Cov.fresh rfl (Cov.fresh rfl (Cov.fresh rfl (Cov.fresh rfl (Cov.fresh rfl (Cov.refl)))))))
              refine XL_q rfl (qt_move rfl) rfl rfl ?_
              obtain ⟨b59, hg60, hs35⟩ := bind_some hs35
              refine XL_join 6 48 (.bool b59) ?_ (fun md hmd hk => ?_)
              rotate_left
              · obtain ⟨K, rfl⟩ := Md.quiet_of hmd
                rcases btf b47 with hc61 | hc61
                · skip
                  have hg60 := if_t hc61 hg60
                  refine XL_q (w_take rfl hc61) (qt_move rfl) rfl rfl ?_
                  refine XL_q (w_take rfl hc61) (qt_move rfl) rfl rfl ?_
                  obtain ⟨x62, hx63, hg60⟩ := bind_some hg60
                  refine XL_indexH H44.ctx (Has.hd) hx63 u23 i3 (w_take rfl hc61) rfl rfl rfl (fun b64 off65 cap66 hv67 => ?_)
                  obtain ⟨F68, hat69, hdup70⟩ := H44.at (Has.hd) hx63 hv67
                  refine XL_load_int (k := .i64) u3 rfl hat69 (w_take rfl hc61) rfl rfl ?_
                  refine XL_q (w_take rfl hc61) (qt_geq rfl rfl) rfl rfl ?_
                  refine XL_q rfl (qt_pickT rfl hc61 rfl) rfl rfl ?_
                  exact hk _ (Cov.same (vb hg60) (Cov.fresh rfl (Cov.fresh rfl (Cov.fresh rfl (Cov.fresh rfl (Cov.fresh rfl (Cov.refl)))))))
                · skip
                  refine XL_skip (w_skip rfl hc61) rfl rfl ?_
                  refine XL_skip (w_skip rfl hc61) rfl rfl ?_
                  refine XL_skip (w_skip rfl hc61) rfl rfl ?_
                  refine XL_skip (w_skip rfl hc61) rfl rfl ?_
                  refine XL_skip (w_skip rfl hc61) rfl rfl ?_
                  refine XL_q rfl (qt_pickF rfl hc61 rfl) rfl rfl ?_
                  exact hk _ (Cov.same (vb (if_f hc61 hg60)) (Cov.fresh rfl (Cov.fresh rfl (Cov.fresh rfl (Cov.fresh rfl (Cov.fresh rfl (Cov.refl)))))))
              refine QL_nil fun a ha w71 hb72 => ?_
              have H73 : Holds (([] : List Res).flatMap Res.own) w w71 [.sl 3 (.int .i64) vs5 s5] G := H44.grow hb72
              refine nrm_seq (WP.app ?_ ha)
              refine WP_cond rfl (fun hc74 => ?_) (fun hc74 => ?_)
              · have hs35 := if_t hc74 hs35
                refine WP_quiet (by kernel_rfl) (by kernel_rfl) ?_
                refine XL_q rfl (qt_move rfl) rfl rfl ?_
                refine XL_q rfl (qt_move rfl) rfl rfl ?_
                refine XL_q rfl (qt_move rfl) rfl rfl ?_
                obtain ⟨x75, hx76, hs35⟩ := bind_some hs35
                refine XL_indexH H73.ctx (Has.hd) hx76 u23 i3 rfl rfl rfl rfl (fun b77 off78 cap79 hv80 => ?_)
                obtain ⟨F81, hat82, hdup83⟩ := H73.at (Has.hd) hx76 hv80
                refine XL_load_int (k := .i64) u3 rfl hat82 rfl rfl rfl ?_
                refine XL_q rfl (qt_move rfl) rfl rfl ?_
                refine XL_q rfl (qt_move rfl) rfl rfl ?_
                obtain ⟨x84, hx85, hs35⟩ := bind_some hs35
                refine XL_indexH H73.ctx (Has.hd) hx85 u23 i3 rfl rfl rfl rfl (fun b86 off87 cap88 hv89 => ?_)
                obtain ⟨F90, hat91, hdup92⟩ := H73.at (Has.hd) hx85 hv89
                refine XL_load_int (k := .i64) u3 rfl hat91 rfl rfl rfl ?_
                refine XL_q rfl (qt_add rfl rfl) rfl rfl ?_
                refine XL_q rfl (qt_max rfl rfl) rfl rfl ?_
                refine XL_q rfl (qt_assign rfl) rfl rfl ?_
                refine QL_nil fun a ha w93 hb94 => ?_
                have H95 : Holds (([] : List Res).flatMap Res.own) w w93 [.sl 3 (.int .i64) vs5 s5] G := H73.grow hb94
                refine nrm_block (nrm_seq (WP.app ?_ ha))
                refine WP_region ?_
                refine XL_q rfl (qt_move rfl) rfl rfl ?_
                refine XL_q rfl (qt_add rfl rfl) rfl rfl ?_
                refine XL_q rfl (qt_assign rfl) rfl rfl ?_
                refine WL_nil fun a ha => ?_
                obtain rfl := Option.some.inj hs35
                exact ⟨rfl, ha.sub ⟨rfl, rfl, rfl, rfl, rfl, trivial⟩, H95⟩
              · have hs35 := if_f hc74 hs35
                refine WP_skip fun a ha => ?_
                refine nrm_block (nrm_seq (WP.app ?_ ha))
                refine WP_region ?_
                refine XL_q rfl (qt_move rfl) rfl rfl ?_
                refine XL_q rfl (qt_add rfl rfl) rfl rfl ?_
                refine XL_q rfl (qt_assign rfl) rfl rfl ?_
                refine WL_nil fun a ha => ?_
                obtain rfl := Option.some.inj hs35
                exact ⟨rfl, ha.sub ⟨rfl, rfl, rfl, rfl, rfl, trivial⟩, H73⟩
            · have hs35 := if_f hc39 hs35
              refine WP_exit fun a ha => ?_
              obtain rfl := Option.some.inj hs35
              exact exit_seq (⟨exit_ne, rfl, ha.sub ⟨rfl, rfl, rfl, rfl, trivial⟩, H38⟩)
          · intro e a32 w96 hO97
            obtain ⟨p98, rfl⟩ : ∃ z, z = o30 := ⟨o30, rfl⟩
            obtain ⟨rfl, hO100⟩ := hO97
            obtain ⟨ha, H99⟩ := hO100
            obtain rfl := Option.some.inj ho26
            exact exit_block_eq (nrm_seq (⟨ha.sub ⟨rfl, rfl, rfl, rfl, trivial⟩, H99⟩))
        · have ho26 := if_f hc27 ho26
          refine WP_skip fun a ha => ?_
          obtain rfl := Option.some.inj ho26
          exact nrm_seq (⟨ha.sub ⟨rfl, rfl, rfl, rfl, trivial⟩, H23⟩)
      · intro a w101 hI102
        obtain ⟨ha, H103⟩ := hI102
        refine WP.app ?_ ha
        clear ha
        refine WP_region ?_
        refine XL_q rfl (qt_move rfl) rfl rfl ?_
        refine XL_q rfl (qt_move rfl) rfl rfl ?_
        refine WL_buildH (t := (.int .i64)) (args := [.tmp 61]) (xs := ([j24] : List Int)) H103 (BltL.cons (Blt.int) rfl (BltL.nil)) u23 j3 rfl rfl rfl rfl rfl rfl (fun v104 w105 H106 => ?_)
        have H107 : Holds (([] : List Res).flatMap Res.own) w w105 [.sl 3 (.int .i64) v104 ([j24]), .sl 3 (.int .i64) vs5 s5] G := H106
        have H108 : Holds (([] : List Res).flatMap Res.own) w w105 [.sl 3 (.int .i64) vs5 s5, .sl 3 (.int .i64) v104 ([j24])] G := H107.pull 1
        obtain ⟨x109, hx110, hs12⟩ := bind_some hs12
        refine WL_appendH H108 (Has.c (Has.hd)) hx110 u23 j3 rfl rfl rfl rfl rfl rfl (fun v111 w112 H113 => ?_)
        have H114 : Holds (([] : List Res).flatMap Res.own) w w112 [.sl 3 (.int .i64) v111 x109, .sl 3 (.int .i64) v104 ([j24])] G := H113
        refine XL_q rfl (qt_assign rfl) rfl rfl ?_
        refine WL_nil fun a ha => ?_
        refine nrm_block (nrm_seq (WP.app ?_ ha))
        refine WP_region ?_
        refine XL_q rfl (qt_move rfl) rfl rfl ?_
        refine XL_q rfl (qt_add rfl rfl) rfl rfl ?_
        refine XL_q rfl (qt_assign rfl) rfl rfl ?_
        refine WL_nil fun a ha => ?_
        obtain rfl := Option.some.inj hs12
        have H115 : Holds (([] : List Res).flatMap Res.own) w w112 [.sl 3 (.int .i64) v111 x109] G := (H114.cut 1)
        exact ⟨rfl, v111, ha.sub ⟨rfl, rfl, rfl, trivial⟩, H115⟩
    · have hs12 := if_f hc18 hs12
      refine WP_exit fun a ha => ?_
      obtain rfl := Option.some.inj hs12
      exact exit_seq (⟨exit_ne, rfl, vs5, ha.sub ⟨rfl, trivial⟩, H15⟩)
  · intro e a9 w116 hO117
    obtain ⟨p118, rfl⟩ : ∃ z, z = o7 := ⟨o7, rfl⟩
    obtain ⟨rfl, hO120⟩ := hO117
    obtain ⟨vp118, ha, H119⟩ := hO120
    refine exit_block_eq (nrm_seq (WP.app ?_ ha))
    refine WP_seq ?_
    refine WP_region ?_
    refine XL_q rfl (qt_move rfl) rfl rfl ?_
    refine XL_q rfl (qt_assign rfl) rfl rfl ?_
    refine WL_nil_seq ?_
    refine WP_ret fun a ha => ?_
    obtain rfl := Option.some.inj h
    exact ret1 rfl ha rfl ⟨vp118, rfl, H119⟩
theorem w_spec_GroupsMost (w : World) (G : List Res) (vp0 : Value) (p0 : List Int) (hp0 : Has G (.int .i64) vp0 p0) (r : Int) (h : spec_GroupsMostS p0 = some r) (H : Ctx w G) : Calls Tryd.prog 21 #[vp0] w fun e w' => e = .returned (.int .i64 r) ∧ Holds (([] : List Res).flatMap Res.own) w w' [] G := by
  have H : Holds (([] : List Res).flatMap Res.own) w w [] G := Holds.startN H
  refine calls_enter (args := [vp0]) (n := 36) Tryd.func21 rfl rfl rfl ?_
  unfold spec_GroupsMostS at h
  refine WP_seq ?_
  refine WP_region ?_
  refine XL_q rfl (qt_assign rfl) rfl rfl ?_
  refine WL_nil_seq ?_
  refine WP_seq ?_
  refine WP_seq ?_
  refine WP_still ?_
  refine XL_q rfl (qt_move rfl) rfl rfl ?_
  obtain ⟨x1, hx2, h⟩ := bind_some h
  refine QL_call rfl rfl c14 (fun w' hb => (w_spec_OwedValid w' G vp0 p0 (hp0) x1 hx2 (H.grow hb).ctx).mono fun e w'' hK => ⟨hK.1, hK.2.bel⟩) (by rfl) ?_
  refine XL_q rfl (qt_not rfl) rfl rfl ?_
  refine QL_nil fun a ha w3 hb4 => ?_
  have H5 : Holds (([] : List Res).flatMap Res.own) w w3 [] G := H.grow hb4
  refine nrm_seq (WP.app ?_ ha)
  refine WP_cond rfl (fun hc6 => ?_) (fun hc6 => ?_)
  · have h := if_t hc6 h
    refine WP_seq ?_
    refine WP_region ?_
    refine XL_q rfl (qt_assign rfl) rfl rfl ?_
    refine WL_nil_seq ?_
    refine WP_ret fun a ha => ?_
    obtain rfl := Option.some.inj h
    exact ret_seq (ret1 rfl ha rfl ⟨rfl, H5⟩)
  · have h := if_f hc6 h
    refine WP_skip_seq ?_
    refine WP_seq ?_
    refine WP_region ?_
    refine WL_buildH (t := (.int .i64)) (args := []) (xs := ([] : List Int)) H5 (BltL.nil) u23 j3 rfl rfl rfl rfl rfl rfl (fun v7 w8 H9 => ?_)
    have H10 : Holds (([] : List Res).flatMap Res.own) w w8 [.sl 3 (.int .i64) v7 ([])] G := H9
    refine XL_q rfl (qt_assign rfl) rfl rfl ?_
    refine WL_nil_seq ?_
    refine WP_seq ?_
    refine WP_seq ?_
    refine WP_region ?_
    refine XL_q rfl (qt_assign rfl) rfl rfl ?_
    refine WL_nil_seq ?_
    refine WP_block ?_
    obtain ⟨o13, ho14, h⟩ := bind_some h
    refine fun a15 ha16 => wp_loop_fix (I := fun s a w2 => match s with | (s11, s12) => ∃ vs11, Fr a 36 [(0, vp0), (3, vs11), (4, .int .i64 s12)] ∧ Holds (([] : List Res).flatMap Res.own) w w2 [.sl 3 (.int .i64) vs11 s11] G) (O := fun o e a w2 => match o with | q0 => e = .exit 0 ∧ ∃ vq0, Fr a 36 [(3, vq0)] ∧ Holds (([] : List Res).flatMap Res.own) w w2 [.sl 3 (.int .i64) vq0 q0] G) ho14 ?_ ?_ ?_
    · exact ⟨v7, ha16.sub ⟨rfl, rfl, rfl, trivial⟩, H10⟩
    · clear ha16
      intro s o19 a w17 hs18 hI20
      obtain ⟨s11, s12⟩ := s
      obtain ⟨vs11, ha, H21⟩ := hI20
      refine WP.app ?_ ha
      clear ha
      refine WP_seq ?_
      refine WP_seq ?_
      refine WP_region ?_
      refine XL_q rfl (qt_move rfl) rfl rfl ?_
      refine XL_q rfl (qt_move rfl) rfl rfl ?_
      refine XL_lenH H21.ctx (t := (.int .i64)) (hp0.c) u23 rfl rfl rfl ?_
      refine XL_q rfl (qt_lss rfl rfl) rfl rfl ?_
      refine WL_nil_seq ?_
      refine WP_cond rfl (fun hc22 => ?_) (fun hc22 => ?_)
      · have hs18 := if_t hc22 hs18
        refine WP_skip_seq ?_
        refine WP_seq ?_
        refine WP_block ?_
        refine WP_seq ?_
        refine WP_region ?_
        refine XL_q rfl (qt_move rfl) rfl rfl ?_
        refine XL_q rfl (qt_move rfl) rfl rfl ?_
        obtain ⟨x23, hx24, hs18⟩ := bind_some hs18
        refine XL_indexH H21.ctx (hp0.c) hx24 u23 i3 rfl rfl rfl rfl (fun b25 off26 cap27 hv28 => ?_)
        obtain ⟨F29, hat30, hdup31⟩ := H21.at (hp0.c) hx24 hv28
        refine XL_load_int (k := .i64) u3 rfl hat30 rfl rfl rfl ?_
        refine XL_q rfl (qt_neq rfl rfl) rfl rfl ?_
        refine WL_nil_seq ?_
        refine WP_cond rfl (fun hc32 => ?_) (fun hc32 => ?_)
        · have hs18 := if_t hc32 hs18
          refine WP_region ?_
          refine XL_q rfl (qt_move rfl) rfl rfl ?_
          refine XL_q rfl (qt_move rfl) rfl rfl ?_
          refine XL_q rfl (qt_move rfl) rfl rfl ?_
          obtain ⟨x33, hx34, hs18⟩ := bind_some hs18
          refine XL_indexH H21.ctx (hp0.c) hx34 u23 i3 rfl rfl rfl rfl (fun b35 off36 cap37 hv38 => ?_)
          obtain ⟨F39, hat40, hdup41⟩ := H21.at (hp0.c) hx34 hv38
          refine XL_load_int (k := .i64) u3 rfl hat40 rfl rfl rfl ?_
          refine WL_buildH (t := (.int .i64)) (args := [.tmp 25]) (xs := ([x33] : List Int)) H21 (BltL.cons (Blt.int) rfl (BltL.nil)) u23 j3 rfl rfl rfl rfl rfl rfl (fun v42 w43 H44 => ?_)
          have H45 : Holds (([] : List Res).flatMap Res.own) w w43 [.sl 3 (.int .i64) v42 ([x33]), .sl 3 (.int .i64) vs11 s11] G := H44
          have H46 : Holds (([] : List Res).flatMap Res.own) w w43 [.sl 3 (.int .i64) vs11 s11, .sl 3 (.int .i64) v42 ([x33])] G := H45.pull 1
          obtain ⟨x47, hx48, hs18⟩ := bind_some hs18
          refine WL_appendH H46 (Has.c (Has.hd)) hx48 u23 j3 rfl rfl rfl rfl rfl rfl (fun v49 w50 H51 => ?_)
          have H52 : Holds (([] : List Res).flatMap Res.own) w w50 [.sl 3 (.int .i64) v49 x47, .sl 3 (.int .i64) v42 ([x33])] G := H51
          refine XL_q rfl (qt_assign rfl) rfl rfl ?_
          refine WL_nil fun a ha => ?_
          refine nrm_block (nrm_seq (WP.app ?_ ha))
          refine WP_region ?_
          refine XL_q rfl (qt_move rfl) rfl rfl ?_
          refine XL_q rfl (qt_add rfl rfl) rfl rfl ?_
          refine XL_q rfl (qt_assign rfl) rfl rfl ?_
          refine WL_nil fun a ha => ?_
          obtain rfl := Option.some.inj hs18
          have H53 : Holds (([] : List Res).flatMap Res.own) w w50 [.sl 3 (.int .i64) v49 x47] G := (H52.cut 1)
          exact ⟨rfl, v49, ha.sub ⟨rfl, rfl, rfl, trivial⟩, H53⟩
        · have hs18 := if_f hc32 hs18
          refine WP_skip fun a ha => ?_
          refine nrm_block (nrm_seq (WP.app ?_ ha))
          refine WP_region ?_
          refine XL_q rfl (qt_move rfl) rfl rfl ?_
          refine XL_q rfl (qt_add rfl rfl) rfl rfl ?_
          refine XL_q rfl (qt_assign rfl) rfl rfl ?_
          refine WL_nil fun a ha => ?_
          obtain rfl := Option.some.inj hs18
          exact ⟨rfl, vs11, ha.sub ⟨rfl, rfl, rfl, trivial⟩, H21⟩
      · have hs18 := if_f hc22 hs18
        refine WP_exit fun a ha => ?_
        obtain rfl := Option.some.inj hs18
        exact exit_seq (⟨exit_ne, rfl, vs11, ha.sub ⟨rfl, trivial⟩, H21⟩)
    · intro e a15 w54 hO55
      obtain ⟨p56, rfl⟩ : ∃ z, z = o13 := ⟨o13, rfl⟩
      obtain ⟨rfl, hO58⟩ := hO55
      obtain ⟨vp56, ha, H57⟩ := hO58
      refine exit_block_eq (nrm_seq (WP.app ?_ ha))
      refine WP_seq ?_
      refine WP_region ?_
      refine XL_q rfl (qt_move rfl) rfl rfl ?_
      obtain ⟨x59, hx60, h⟩ := bind_some h
      refine WL_call rfl rfl c53 (w_spec_l5Groups w54 ([.sl 3 (.int .i64) vp56 p56] ++ G) vp56 p56 (Has.hd) x59 hx60 H57.ctx) (by rfl) ?_
      rintro _ w61 ⟨v63, rfl, H62⟩; refine ⟨_, rfl, ?_⟩
      have H64 : Holds (([] : List Res).flatMap Res.own) w w61 [.sl 3 (.int .i64) v63 x59, .sl 3 (.int .i64) vp56 p56] G := H57.calledN (Rs := []) H62
      refine XL_q rfl (qt_assign rfl) rfl rfl ?_
      refine WL_nil_seq ?_
      refine WP_seq ?_
      refine WP_region ?_
      refine XL_q rfl (qt_move rfl) rfl rfl ?_
      refine XL_q rfl (qt_move rfl) rfl rfl ?_
      refine XL_lenH H64.ctx (t := (.int .i64)) (Has.hd) u23 rfl rfl rfl ?_
      refine XL_q rfl (qt_sub rfl rfl) rfl rfl ?_
      obtain ⟨x65, hx66, h⟩ := bind_some h
      refine XL_indexH H64.ctx (Has.hd) hx66 u23 i3 rfl rfl rfl rfl (fun b67 off68 cap69 hv70 => ?_)
      obtain ⟨F71, hat72, hdup73⟩ := H64.at (Has.hd) hx66 hv70
      refine XL_load_int (k := .i64) u3 rfl hat72 rfl rfl rfl ?_
      refine XL_q rfl (qt_assign rfl) rfl rfl ?_
      refine WL_nil_seq ?_
      refine WP_ret fun a ha => ?_
      obtain rfl := Option.some.inj h
      have H74 : Holds (([] : List Res).flatMap Res.own) w w61 [] G := ((H64.cut 0).cut 0)
      exact ret1 rfl ha rfl ⟨rfl, H74⟩
end Go.Proofs.YtohhaladggoglaaDoor
