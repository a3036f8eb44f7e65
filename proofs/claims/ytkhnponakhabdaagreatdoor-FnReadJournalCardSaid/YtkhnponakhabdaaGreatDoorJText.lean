/- impl.JournalText, walked by hand over the kit's contracts of strings.Builder. Own work. -/
import Derived.Test.YtkhnponakhabdaaGreatDoorWS7J7
import Derived.Test.YtkhnponakhabdaaGreatDoorJTextS
set_option linter.unusedVariables false
set_option maxRecDepth 10000
namespace Go.Proofs.YtkhnponakhabdaaGreatDoor
open Go Go.RowKit
def BdP (T e : TypeId) (B b : Nat) (p v : Value) (bs : List Value) (w : World) : Prop := w.heap[b]? = some (.cells #[p, v] T (0, 0)) ∧ w.ownsRow B e 1 v bs.length bs
theorem BdP.stab {T e : TypeId} {B b : Nat} {p v : Value} {bs : List Value} : Stab (b :: v.ownBlock.toList) (BdP T e B b p v bs) := fun w w' hA ⟨h1, h2⟩ => by
 refine ⟨by rw [hA b (by simp)]; exact h1, ?_⟩
 obtain ⟨h5, h6⟩ := h2
 refine ⟨h5, ?_⟩
 rcases h6 with h6 | ⟨g, cap, cur, rfl, hb, hg, rest⟩
 ·exact .inl h6
 ·exact .inr ⟨g, cap, cur, rfl, hb, by rw [hA g (by simp [Value.ownBlock])]; exact hg, rest⟩
theorem Ctx.addOp {w w2 : World} {G : List Res} {F : List Nat} {φ : World → Prop} {hs : Stab F φ} (H : Ctx w G) (hb : Below w.heap.size w w2) (hF : ∀ k ∈ F, w.heap.size ≤ k ∧ k < w2.heap.size) (hφ : φ w2) : Ctx w2 (.op F φ hs :: G) := by
 obtain ⟨L, h1, h2, h3⟩ := H
 have hlt := h2.lt
 refine ⟨(.op F φ hs, []) :: L, by simp [h1], ⟨⟨rfl, fun k hk => (hF k hk).2, hφ⟩, h2.keep fun f hf k hk => hb.block k (by rcases hk with hk | hk <;> first | exact (hlt f hf).1 k hk | exact (hlt f hf).2 k hk)⟩, .cons (fun g hg => ⟨fun k hk hk' => ?_, fun k hk hk' => ?_, fun k _ hk => by cases hk⟩) (fun k _ hk => by cases hk) h3⟩
 ·have := (hF k hk).1; have := (hlt g hg).1 k hk'; omega
 ·have := (hF k hk).1; have := (hlt g hg).2 k hk'; omega
theorem IsBuilder.res {T e : TypeId} {B b : Nat} {bs : List Value} {w w0 : World} {G : List Res} (h : Lib.IsBuilder T e B b bs w) (H : Ctx w0 G) (hB : B = w0.heap.size) (hb : Below w0.heap.size w0 w) :
  ∃ F φ, ∃ hs : Stab F φ, Ctx w (.op F φ hs :: G) ∧ ∀ w', φ w' → Lib.IsBuilder T e B b bs w' := by
 have key : ∀ p, Lib.BuilderAt T e B b p bs w → ∃ F φ, ∃ hs : Stab F φ, Ctx w (.op F φ hs :: G) ∧ ∀ w', φ w' → Lib.BuilderAt T e B b p bs w' := by
  rintro p ⟨h1, v, h2, h3, h4⟩
  refine ⟨_, _, BdP.stab (T := T) (e := e) (B := B) (b := b) (p := p) (v := v) (bs := bs), H.addOp hb (fun k hk => ?_) ⟨h2, h3⟩, fun w' hw' => ⟨h1, v, hw'.1, hw'.2, h4⟩⟩
  rcases List.mem_cons.1 hk with rfl | hk
  ·exact ⟨by omega, by
    rcases Nat.lt_or_ge k w.heap.size with h | h
    ·exact h
    ·rw [Array.getElem?_eq_none h] at h2; cases h2⟩
  ·have := h3.lt k (by simpa using hk); omega
 rcases h with h | h
 ·obtain ⟨F, φ, hs, h1, h2⟩ := key _ h
  exact ⟨F, φ, hs, h1, fun w' hw' => .inl (h2 w' hw')⟩
 ·obtain ⟨F, φ, hs, h1, h2⟩ := key _ h
  exact ⟨F, φ, hs, h1, fun w' hw' => .inr (h2 w' hw')⟩
theorem Ctx.opP {w : World} {G : List Res} {F : List Nat} {φ : World → Prop} {hs : Stab F φ} (H : Ctx w (.op F φ hs :: G)) : φ w := by
 obtain ⟨S, L, h1, h2, _⟩ := H.cons_inv
 exact h2.2.2
theorem jz90 : (Tryz.prog.info? 110).map (·.zero) = some (some (.agg #[.pointer none, .slice none 0 0])) := by kernel_rfl
theorem jc58 : Callable Tryz.prog 73 := ⟨Tryz.f73, Tryz.func73, by kernel_rfl, by kernel_rfl⟩
theorem jc59 : Callable Tryz.prog 74 := ⟨Tryz.f74, Tryz.func74, by kernel_rfl, by kernel_rfl⟩
theorem jc60 : Callable Tryz.prog 75 := ⟨Tryz.f75, Tryz.func75, by kernel_rfl, by kernel_rfl⟩
theorem w_impl_JournalText (w : World) (G : List Res) (hGl : Glob G) (hGp : GlobP G) (vp0 : Value) (p0 : List (Int × Int × Int × Int)) (hp0 : Has G (.pair (.int .i64) (.pair (.int .i64) (.pair (.int .i64) (.int .i64)))) vp0 p0) (r : (List UInt8)) (h : impl_JournalTextS p0 = some r) (H : Ctx w G) : Calls Tryz.prog 26 #[vp0] w fun e w' => e = .returned (strV r) ∧ Holds (([] : List Res).flatMap Res.own) w w' [] G := by
 have H : Holds (([] : List Res).flatMap Res.own) w w [] G := Holds.startN H
 refine calls_enter (args := [vp0]) (n := 22) Tryz.func26 rfl rfl rfl ?_
 unfold impl_JournalTextS at h
 refine WP_seq ?_
 refine WP_region ?_
 refine XL_q rfl (qt_assign rfl) rfl rfl ?_
 refine WL_nil_seq ?_
 have H0 := H.ctx
 refine WP_seq ?_
 refine WP_region ?_
 refine WL_alloc (cs := [.pointer none, .slice none 0 0]) H jz90 rfl rfl rfl (fun bd wa Ha => ?_)
 have hbd : w.heap.size ≤ bd := by
  rcases Ha.lo _ List.mem_cons_self bd (by simp [Res.own]) with h | h
  ·cases h
  ·exact h
 have hIB : Lib.IsBuilder 110 5 w.heap.size bd (Lib.byteCells []) wa := .inl ⟨hbd, .slice none 0 0, Ha.bx, World.ownsRow_nil wa w.heap.size 5 1, by simp [Value.ownBlock]⟩
 have H : Holds (([] : List Res).flatMap Res.own) w wa [] G := Ha.cut 0
 refine WL_nil_seq ?_
 refine WP_seq ?_
 refine WP_seq ?_
 refine WP_region ?_
 refine XL_q rfl (qt_move rfl) rfl rfl ?_
 refine XL_lenH H.ctx (t := (.pair (.int .i64) (.pair (.int .i64) (.pair (.int .i64) (.int .i64))))) (hp0) u44 rfl rfl rfl ?_
 refine XL_q rfl (qt_move rfl) rfl rfl ?_
 refine WL_nil_seq ?_
 refine WP_block ?_
 obtain ⟨o2, ho3, h⟩ := bind_some h
 refine fun a4 ha5 => wp_loop_fix (I := fun s a w2 => match s with | (z1, s1) => (Fr a 22 [(3, .pointer (some ⟨bd, 0, none⟩)), (7, vp0), (8, .int .i64 (List.length p0 : Int)), (9, .int .i64 s1)] ∧ Holds (([] : List Res).flatMap Res.own) w w2 [] G ∧ Lib.IsBuilder 110 5 w.heap.size bd (Lib.byteCells z1) w2)) (O := fun o e a w2 => match o with | .inl z1 => e = .exit 0 ∧ (Fr a 22 [(3, .pointer (some ⟨bd, 0, none⟩))] ∧ Holds (([] : List Res).flatMap Res.own) w w2 [] G ∧ Lib.IsBuilder 110 5 w.heap.size bd (Lib.byteCells z1) w2) | .inr q0 => e = .ret ∧ (Fr a 22 [(2, strV q0)] ∧ Holds (([] : List Res).flatMap Res.own) w w2 [] G)) ho3 ?_ ?_ ?_
 ·exact ⟨ha5.sub ⟨rfl, rfl, rfl, rfl, trivial⟩, H, hIB⟩
 ·clear ha5
  intro s o8 a w6 hs7 hI9
  obtain ⟨z1, s1⟩ := s
  obtain ⟨ha, HX, hIBx⟩ := hI9
  obtain ⟨Fb, φb, sb, Cb, hφb⟩ := IsBuilder.res hIBx H0 rfl HX.bel
  have H10 : Holds (([] : List Res).flatMap Res.own) w6 w6 [] (.op Fb φb sb :: G) := Holds.startN (Rs := []) Cb
  refine WP.app ?_ ha
  clear ha
  refine WP_seq ?_
  refine WP_region ?_
  refine XL_q rfl (qt_lss rfl rfl) rfl rfl ?_
  refine WL_nil_seq ?_
  refine WP_seq ?_
  refine WP_cond rfl (fun hc11 => ?_) (fun hc11 => ?_)
  ·have hs7 := if_t hc11 hs7
   refine WP_skip_seq ?_
   refine WP_seq ?_
   refine WP_block ?_
   refine WP_seq ?_
   refine WP_region ?_
   obtain ⟨x12, hx13, hs7⟩ := bind_some hs7
   refine XL_indexH H10.ctx (hp0.c) hx13 u44 i52 rfl rfl rfl rfl (fun b14 off15 cap16 hv17 => ?_)
   obtain ⟨F18, hat19, hdup20⟩ := H10.atN (hp0.c) hx13 hv17
   refine XL_load_agg (t := (.pair (.int .i64) (.pair (.int .i64) (.pair (.int .i64) (.int .i64))))) us52 uo52 i52 hat19 rfl rfl rfl (fun cs21 hr22 => ?_)
   obtain ⟨c23, c24, F25, F26, rfl, eF29, hr27, hr28⟩ := hr22
   obtain ⟨rfl, _⟩ := hr27
   obtain ⟨c30, c31, F32, F33, rfl, eF36, hr34, hr35⟩ := hr28
   obtain ⟨rfl, _⟩ := hr34
   obtain ⟨c37, c38, F39, F40, rfl, eF43, hr41, hr42⟩ := hr35
   obtain ⟨rfl, _⟩ := hr41
   obtain ⟨rfl, _⟩ := hr42
   change XL _ _ _ _ _ ((12, .agg #[.int .i64 x12.1, .int .i64 x12.2.1, .int .i64 x12.2.2.1, .int .i64 x12.2.2.2]) :: _) _
   refine WL_alloc (cs := [.int .i64 0, .int .i64 0, .int .i64 0, .int .i64 0]) H10 z52 rfl rfl rfl (fun b44 w45 H46 => ?_)
   have H47 : Holds (([] : List Res).flatMap Res.own) w6 w45 [.bx b44 52 [.int .i64 0, .int .i64 0, .int .i64 0, .int .i64 0]] (.op Fb φb sb :: G) := H46
   refine WL_store_bxA (cs' := [.int .i64 x12.1, .int .i64 x12.2.1, .int .i64 x12.2.2.1, .int .i64 x12.2.2.2]) H47 rfl il52 rfl rfl rfl rfl rfl (fun w48 H49 => ?_)
   have H50 : Holds (([] : List Res).flatMap Res.own) w6 w48 [.bx b44 52 [.int .i64 x12.1, .int .i64 x12.2.1, .int .i64 x12.2.2.1, .int .i64 x12.2.2.2]] (.op Fb φb sb :: G) := H49
   refine WL_nil_seq ?_
   refine WP_seq ?_
   refine WP_still ?_
   have hB51 : Bx w48 b44 52 [.int .i64 x12.1, .int .i64 x12.2.1, .int .i64 x12.2.2.1, .int .i64 x12.2.2.2] := Holds.bx (H50.pull 0)
   refine XL_load_bxA (cs := [.int .i64 x12.1, .int .i64 x12.2.1, .int .i64 x12.2.2.1, .int .i64 x12.2.2.2]) us52 uo52 il52 hB51 rfl rfl rfl ?_
   change XL _ _ _ _ _ ((13, .agg #[.int .i64 x12.1, .int .i64 x12.2.1, .int .i64 x12.2.2.1, .int .i64 x12.2.2.2]) :: _) _
   obtain ⟨x52, hx53, hs7⟩ := bind_some hs7
   refine QL_call rfl rfl c23 (fun w' hb => (w_impl_DeedText hx53 hGl.c.c hGp.c.c (H50.grow hb).ctx).mono fun e w'' hK => ⟨hK.1, hK.2.bel⟩) (by rfl) ?_
   refine XL_q rfl (qt_assign rfl) rfl rfl ?_
   refine QL_nil fun a ha w54 hb55 => ?_
   have H56 : Holds (([] : List Res).flatMap Res.own) w6 w54 [.bx b44 52 [.int .i64 x12.1, .int .i64 x12.2.1, .int .i64 x12.2.2.1, .int .i64 x12.2.2.2]] (.op Fb φb sb :: G) := H50.grow hb55
   refine nrm_seq (WP.app ?_ ha)
   refine WP_seq ?_
   refine WP_seq ?_
   refine WP_region ?_
   refine XL_q rfl (qt_move rfl) rfl rfl ?_
   refine XL_q rfl (qt_seql rfl rfl) rfl rfl ?_
   refine WL_nil_seq ?_
   refine WP_cond rfl (fun hc57 => ?_) (fun hc57 => ?_)
   ·have hs7 := if_t hc57 hs7
    refine WP_seq ?_
    refine WP_region ?_
    refine XL_q rfl (qt_assign rfl) rfl rfl ?_
    refine WL_nil_seq ?_
    refine WP_ret fun a ha => ?_
    obtain rfl := Option.some.inj hs7
    exact ret_seq (ret_block (ret_seq (⟨ret_ne, rfl, ha.sub ⟨rfl, trivial⟩, HX.grow H56.bel⟩)))
   ·have hs7 := if_f hc57 hs7
    have hc70 : decide (z1.length + x52.length + 1 ≤ 140737488355328) = true := by
     rcases btf (decide (z1.length + x52.length + 1 ≤ 140737488355328)) with h0 | h0
     ·exact h0
     ·have := if_f h0 hs7; cases this
    have hs7 := if_t hc70 hs7
    have hle := of_decide_eq_true hc70
    have hIB1 := hφb w54 H56.ctx.tail.opP
    have hBl : Below w.heap.size w w54 := (HX.grow H56.bel).bel
    refine WP_skip_seq ?_
    refine WP_seq ?_
    refine WP_region ?_
    refine XL_q rfl (qt_move rfl) rfl rfl ?_
    refine WL_call (args := [.tmp 3, .tmp 17]) (vs := [.pointer (some ⟨bd, 0, none⟩), strV x52]) rfl rfl jc58 (Tryz.Builder_WriteString w.heap.size bd (Lib.byteCells z1) ⟨x52.toArray⟩ w54 hIB1 (by rw [Lib.byteCells_length, size_str]; omega) hBl.size) (by rfl) ?_
    rintro _ w71 ⟨rfl, hIB2, hB2⟩; refine ⟨_, rfl, ?_⟩
    refine WL_nil_seq ?_
    refine WP_region ?_
    refine WL_call (args := [.tmp 3, .const (.int .u8 10)]) (vs := [.pointer (some ⟨bd, 0, none⟩), .int .u8 10]) rfl rfl jc59 (Tryz.Builder_WriteByte w.heap.size bd _ 10 w71 (.inr hIB2) (by rw [List.length_append, Lib.byteCells_length, Lib.strCells_length, size_str]; omega) (Nat.le_trans hBl.size hB2.size)) (by rfl) ?_
    rintro _ w72 ⟨rfl, hIB3, hB3⟩; refine ⟨_, rfl, ?_⟩
    refine WL_nil fun a ha => ?_
    refine nrm_block (nrm_seq (WP.app ?_ ha))
    refine WP_region ?_
    refine XL_q rfl (qt_add rfl rfl) rfl rfl ?_
    refine XL_q rfl (qt_move rfl) rfl rfl ?_
    refine WL_nil fun a ha => ?_
    obtain rfl := Option.some.inj hs7
    refine ⟨rfl, ha.sub ⟨rfl, rfl, rfl, rfl, trivial⟩, (Holds.startN (Rs := []) H0).grow ((hBl.trans hB2).trans hB3), .inr ?_⟩
    rw [Lib.byteCells_append, Lib.byteCells_append]
    exact hIB3
  ·have hs7 := if_f hc11 hs7
   refine WP_exit fun a ha => ?_
   obtain rfl := Option.some.inj hs7
   exact exit_seq (⟨exit_ne, rfl, ha.sub ⟨rfl, trivial⟩, HX, hIBx⟩)
 ·intro e a4 w60 hO61
  rcases o2 with o2 | o2
  ·skip
   obtain ⟨rfl, hO63⟩ := hO61
   obtain ⟨ha, H62, hIBe⟩ := hO63
   refine exit_block_eq (nrm_seq (WP.app ?_ ha))
   refine WP_seq ?_
   refine WP_region ?_
   refine WL_call (args := [.tmp 3]) (vs := [.pointer (some ⟨bd, 0, none⟩)]) rfl rfl jc60 (Tryz.Builder_String_any w.heap.size bd o2 w60 hIBe H62.bel.size) (by rfl) ?_
   rintro _ w73 ⟨rfl, hB4⟩; refine ⟨_, rfl, ?_⟩
   refine XL_q rfl (qt_assign rfl) rfl rfl ?_
   refine WL_nil_seq ?_
   refine WP_ret fun a ha => ?_
   obtain rfl := Option.some.inj h
   exact ret1 rfl ha rfl ⟨rfl, (Holds.startN (Rs := []) H0).grow (H62.bel.trans hB4)⟩
  ·skip
   obtain ⟨p64, rfl⟩ : ∃ z, z = o2 := ⟨o2, rfl⟩
   obtain ⟨rfl, hO66⟩ := hO61
   obtain ⟨ha, H65⟩ := hO66
   obtain rfl := Option.some.inj h
   exact ret_block (ret_seq (ret1 rfl ha rfl ⟨rfl, H65⟩))
end Go.Proofs.YtkhnponakhabdaaGreatDoor
