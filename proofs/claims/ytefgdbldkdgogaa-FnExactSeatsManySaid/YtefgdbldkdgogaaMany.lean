/- impl.SeatsMany: a copy, sorted and made compact by the library. Own work. -/
import Derived.Test.YtefgdbldkdgogaaChecked
import Derived.Test.YtefgdbldkdgogaaShM
import Derived.Test.YtefgdbldkdgogaaShelf
import Derived.Sort.OwnSortedInts
set_option linter.unusedVariables false
namespace Go.Proofs.Ytefgdbldkdgogaa
open Go Go.RowKit
theorem i3 : (Try.prog.info? 3).map (·.size) = some (Ty.size (.int .i64)) := by kernel_rfl
theorem il3 : (Try.prog.info? 3).map (·.size) = some 1 := by kernel_rfl
theorem j3 : (Try.prog.info? 3).map (fun i => (i.zero, i.size, i.bytes)) = some (some (.int .i64 0), Ty.size (.int .i64), 8) := by kernel_rfl
theorem u22 : Try.prog.underlying 22 = some (.slice 3) := by kernel_rfl
theorem u3 : Try.prog.underlying 3 = some (.int .i64) := by kernel_rfl
theorem c18 : Callable Try.prog 18 := ⟨Try.f18, Try.func18, by kernel_rfl, by kernel_rfl⟩
theorem c20 : Callable Try.prog 20 := ⟨Try.f20, Try.func20, by kernel_rfl, by kernel_rfl⟩
theorem c47 : Callable Try.prog 47 := ⟨Try.f47, Try.func47, by kernel_rfl, by kernel_rfl⟩
theorem c48 : Callable Try.prog 48 := ⟨Try.f48, Try.func48, by kernel_rfl, by kernel_rfl⟩
theorem c60 : Callable Try.prog 60 := ⟨Try.f60, Try.func60, by kernel_rfl, by kernel_rfl⟩
theorem w_impl_copyInts (w : World) (G : List Res) (vp0 : Value) (p0 : List Int) (hp0 : Has G (.int .i64) vp0 p0) (r : (List Int)) (h : impl_copyIntsS p0 = some r) (H : Ctx w G) : Calls Try.prog 61 #[vp0] w fun e w' => ∃ (v1 : Value), e = .returned (v1) ∧ Holds (([] : List Res).flatMap Res.own) w w' [.sl 3 (.int .i64) v1 r] G := by
  have H : Holds (([] : List Res).flatMap Res.own) w w [] G := Holds.startN H
  refine calls_enter (args := [vp0]) (n := 14) Try.func61 rfl rfl rfl ?_
  unfold impl_copyIntsS at h
  refine WP_seq ?_
  refine WP_region ?_
  refine XL_q rfl (qt_assign rfl) rfl rfl ?_
  refine WL_nil_seq ?_
  refine WP_seq ?_
  refine WP_seq ?_
  refine WP_region ?_
  refine XL_q rfl (qt_move rfl) rfl rfl ?_
  refine XL_lenH H.ctx (t := (.int .i64)) (hp0) u22 rfl rfl rfl ?_
  refine XL_q rfl (qt_eql rfl rfl) rfl rfl ?_
  refine WL_nil_seq ?_
  refine WP_cond rfl (fun hc1 => ?_) (fun hc1 => ?_)
  · have h := if_t hc1 h
    refine WP_seq ?_
    refine WP_region ?_
    refine XL_q rfl (qt_assign rfl) rfl rfl ?_
    refine WL_nil_seq ?_
    refine WP_ret fun a ha => ?_
    obtain rfl := Option.some.inj h
    have H2 : Holds (([] : List Res).flatMap Res.own) w w [.sl 3 (.int .i64) (.slice none 0 0) ([])] G := H.nilSl
    exact ret_seq (ret1 rfl ha rfl ⟨(.slice none 0 0), rfl, H2⟩)
  · have h := if_f hc1 h
    refine WP_skip_seq ?_
    refine WP_seq ?_
    refine WP_region ?_
    refine XL_q rfl (qt_move rfl) rfl rfl ?_
    refine XL_lenH H.ctx (t := (.int .i64)) (hp0) u22 rfl rfl rfl ?_
    obtain ⟨x3, hx4, h⟩ := bind_some h
    refine WL_makeH H hx4 u22 j3 rfl (fun _ => ⟨rfl, rfl⟩) rfl rfl rfl rfl rfl (fun v5 w6 H7 => ?_)
    have H8 : Holds (([] : List Res).flatMap Res.own) w w6 [.sl 3 (.int .i64) v5 x3] G := H7
    refine XL_q rfl (qt_assign rfl) rfl rfl ?_
    refine WL_nil_seq ?_
    refine WP_seq ?_
    refine WP_region ?_
    refine XL_q rfl (qt_move rfl) rfl rfl ?_
    refine XL_q rfl (qt_move rfl) rfl rfl ?_
    refine WL_copyH rfl H8 (hp0.c) rfl u22 i3 rfl rfl rfl rfl (fun w9 H10 => ?_)
    have H11 : Holds (([] : List Res).flatMap Res.own) w w9 [.sl 3 (.int .i64) v5 (List.take (List.length x3) p0 ++ List.drop (List.length p0) x3)] G := H10
    refine WL_nil_seq ?_
    refine WP_seq ?_
    refine WP_region ?_
    refine XL_q rfl (qt_move rfl) rfl rfl ?_
    refine XL_q rfl (qt_assign rfl) rfl rfl ?_
    refine WL_nil_seq ?_
    refine WP_ret fun a ha => ?_
    obtain rfl := Option.some.inj h
    exact ret1 rfl ha rfl ⟨v5, rfl, H11⟩
theorem repL_ints {w : World} : ∀ {xs : List Int} {cs : List Value} {S : List Nat}, RepL (Rep w (.int .i64)) cs xs S → cs = xs.map (Value.int .i64) ∧ S = []
  | [], cs, S, h => ⟨h.1, h.2⟩
  | x :: xs, cs, S, ⟨c1, c2, F1, F2, h1, h2, h3, h4⟩ => by
    obtain ⟨e1, e2⟩ := repL_ints h4
    obtain ⟨e3, e4⟩ := h3
    subst e1 e2 e3 e4
    exact ⟨h1, h2⟩
theorem ints_repL {w : World} : ∀ (xs : List Int), RepL (Rep w (.int .i64)) (xs.map (Value.int .i64)) xs []
  | [] => ⟨rfl, rfl⟩
  | x :: xs => ⟨[.int .i64 x], xs.map (Value.int .i64), [], [], rfl, rfl, ⟨rfl, rfl⟩, ints_repL xs⟩
theorem srt_length (x : List Int) : (srt x).length = x.length := List.length_mergeSort x
section
variable {M : List Nat} {w0 w : World} {Γ G : List Res} {v : Value} {x : List Int}
/-- what an own slice of integers is -/
theorem own_ints (H : Holds M w0 w (.sl 3 (.int .i64) v x :: Γ) G) : (v = .slice none 0 0 ∧ x = []) ∨ ∃ g cap cur, v = .slice (some ⟨g, 0, none⟩) x.length cap ∧ w.heap[g]? = some (.cells cur 3 (0, 0)) ∧ x.length ≤ cap ∧ cap ≤ maxLen ∧ cur.size = cap * 1 ∧ cur.toList.take x.length = x.map (Value.int .i64) := by
  obtain ⟨S, L, h1, ⟨cs, hown, hrep⟩, ht, ha⟩ := H.ctx.cons_inv
  obtain ⟨rfl, rfl⟩ := repL_ints hrep
  obtain ⟨hl, h2⟩ := hown
  rcases h2 with ⟨rfl, h3⟩ | ⟨g, cap, cur, rfl, _, hg, hn, hcap, hsz, htk⟩
  · left
    exact ⟨rfl, List.length_eq_zero_iff.1 h3⟩
  · right
    exact ⟨g, cap, cur, rfl, hg, hn, hcap, hsz, by have htk' : cur.toList.take (x.length * 1) = x.map (Value.int .i64) := htk
                                                   rwa [Nat.mul_one] at htk'⟩
theorem sort_call (H : Holds M w0 w (.sl 3 (.int .i64) v x :: Γ) G) (hr : x.length ≤ 1099511627776) :
    Calls Try.prog 62 #[v] w fun e w' => e = .returned (.tuple #[]) ∧ Holds M w0 w' (.sl 3 (.int .i64) v (srt x) :: Γ) G := by
  rcases own_ints H with ⟨rfl, rfl⟩ | ⟨g, cap, cur, rfl, hg, hn, hcap, hsz, htk⟩
  · refine (Try.slices_Sort_int_none none 0 w).mono ?_
    rintro e w' ⟨rfl, rfl⟩
    have hs : srt [] = [] := List.length_eq_zero_iff.1 (srt_length [])
    rw [hs]
    exact ⟨rfl, H⟩
  · refine (Try.slices_Sort_int g 0 cap x w (holds_of_blockI hg htk) (Array.getElem?_eq_some_iff.1 hg).1 (by omega)).mono ?_
    rintro e w' ⟨rfl, n, os, rfl⟩
    refine ⟨rfl, H.upd fun S L h1 hs ht ha => ⟨[], grown_chg (v := .slice (some ⟨g, 0, none⟩) x.length cap) (grownBy_sortedI _), ?_, (fun k hk => .inl hk), (fun k hk => by cases hk), (fun k _ hk => by cases hk)⟩⟩
    have ho := ownsRow_sortedI (base := 0) (n := n) (os := os) (ss := x) (ts := srt x) (srt_length x) (Nat.zero_le g) hg hn hcap hsz
    rw [← srt_length x] at ho
    refine ⟨_, ?_, ints_repL (srt x)⟩
    rw [srt_length x] at ho ⊢
    exact ho
theorem compact_call (H : Holds M w0 w (.sl 3 (.int .i64) v x :: Γ) G) :
    Calls Try.prog 63 #[v] w fun e w' => ∃ p cap, e = .returned (.slice p (Lib.compact x).length cap) ∧ Holds M w0 w' Γ G := by
  rcases own_ints H with ⟨rfl, rfl⟩ | ⟨g, cap, cur, rfl, hg, hn, hcap, hsz, htk⟩
  · refine (Try.slices_Compact_int_empty none 0 w).mono ?_
    rintro e w' ⟨rfl, rfl⟩
    exact ⟨none, 0, rfl, H.tail⟩
  · have hml : maxLen = 9223372036854775807 := rfl
    refine (Try.slices_Compact_int g 0 cap x w (holds_of_blockI hg htk) (by omega) hn).mono ?_
    rintro e w' ⟨rfl, q, rfl⟩
    refine ⟨_, _, rfl, ?_⟩
    have hgb := grownBy_sortedI (w := w) (g := g) (n := q) (os := #[]) (Lib.compact x ++ List.replicate (x.length - (Lib.compact x).length) 0).toArray
    rw [Go.Sort.grow_empty] at hgb
    revert hgb
    generalize Go.Sort.putRow (Value.int .i64) (Go.Sort.ahead w q) g 0 (Lib.compact x ++ List.replicate (x.length - (Lib.compact x).length) 0).toArray = W'
    intro hgb
    have hch : Chg (Res.own (.sl 3 (.int .i64) (.slice (some ⟨g, 0, none⟩) x.length cap) x)) w W' := grown_chg (v := .slice (some ⟨g, 0, none⟩) x.length cap) hgb
    have H2 : Holds M w0 W' (.ro .bool (.slice none 0 0) [] :: Γ) G := H.upd fun S L h1 hs ht ha => ⟨[], hch, ⟨none, 0, rfl, Nat.le_refl _, .inl ⟨rfl, rfl⟩⟩, (fun k hk => by cases hk), (fun k hk => by cases hk), (fun k hk => by cases hk)⟩
    exact H2.tail
end
theorem k61 : Callable Try.prog 61 := ⟨Try.f61, Try.func61, by kernel_rfl, by kernel_rfl⟩
theorem k62 : Callable Try.prog 62 := ⟨Try.f62, Try.func62, by kernel_rfl, by kernel_rfl⟩
theorem k63 : Callable Try.prog 63 := ⟨Try.f63, Try.func63, by kernel_rfl, by kernel_rfl⟩
theorem w_impl_SeatsMany (w : World) (G : List Res) (vp0 : Value) (p0 : List Int) (hp0 : Has G (.int .i64) vp0 p0) (r : Int) (h : impl_SeatsManyS p0 = some r) (H : Ctx w G) : Calls Try.prog 48 #[vp0] w fun e w' => e = .returned (.int .i64 r) ∧ Holds (([] : List Res).flatMap Res.own) w w' [] G := by
  have H : Holds (([] : List Res).flatMap Res.own) w w [] G := Holds.startN H
  refine calls_enter (args := [vp0]) (n := 11) Try.func48 rfl rfl rfl ?_
  unfold impl_SeatsManyS at h
  obtain ⟨x1, hx1, h⟩ := bind_some h
  have hc : x1.length ≤ 1099511627776 := by
    by_cases hc : x1.length ≤ 1099511627776
    · exact hc
    · rw [if_neg (by simpa using hc)] at h; cases h
  rw [if_pos (decide_eq_true hc)] at h
  obtain rfl := Option.some.inj h
  refine WP_seq ?_
  refine WP_region ?_
  refine XL_q rfl (qt_assign rfl) rfl rfl ?_
  refine WL_nil_seq ?_
  refine WP_seq ?_
  refine WP_region ?_
  refine XL_q rfl (qt_move rfl) rfl rfl ?_
  refine WL_call rfl rfl k61 (w_impl_copyInts w G vp0 p0 hp0 x1 hx1 H.ctx) (by rfl) ?_
  rintro _ w3 ⟨v5, rfl, H4⟩; refine ⟨_, rfl, ?_⟩
  have H6 : Holds (([] : List Res).flatMap Res.own) w w3 [.sl 3 (.int .i64) v5 x1] G := H.calledN (Rs := []) H4
  refine XL_q rfl (qt_assign rfl) rfl rfl ?_
  refine WL_nil_seq ?_
  refine WP_seq ?_
  refine WP_region ?_
  refine XL_q rfl (qt_move rfl) rfl rfl ?_
  refine WL_call rfl rfl k62 (sort_call H6 hc) (by rfl) ?_
  rintro _ w4 ⟨rfl, H7⟩; refine ⟨_, rfl, ?_⟩
  refine WL_nil_seq ?_
  refine WP_seq ?_
  refine WP_region ?_
  refine XL_q rfl (qt_move rfl) rfl rfl ?_
  refine WL_call rfl rfl k63 (compact_call H7) (by rfl) ?_
  rintro _ w5 ⟨p, cap, rfl, H8⟩; refine ⟨_, rfl, ?_⟩
  refine XL_q rfl (qt_len u22 rfl) rfl rfl ?_
  refine XL_q rfl (qt_assign rfl) rfl rfl ?_
  refine WL_nil_seq ?_
  refine WP_ret fun a ha => ?_
  exact ret1 rfl ha rfl ⟨rfl, H8⟩
end Go.Proofs.Ytefgdbldkdgogaa
