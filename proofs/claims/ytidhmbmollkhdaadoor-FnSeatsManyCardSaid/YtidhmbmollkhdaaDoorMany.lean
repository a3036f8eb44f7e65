/- impl.SeatsMany: a copy, sorted and made compact by the library. Own work. -/
import Derived.Test.YtidhmbmollkhdaaDoorWS6K1
import Derived.Test.YtidhmbmollkhdaaDoorShelf
import Derived.Sort.OwnSortedInts
set_option linter.unusedVariables false
namespace Go.Proofs.YtidhmbmollkhdaaDoor
open Go Go.RowKit
theorem repL_ints {w : World} : ∀ {xs : List Int} {cs : List Value} {S : List Nat}, RepL (Rep w (.int .i64)) cs xs S → cs = xs.map (Value.int .i64) ∧ S = []
  | [], cs, S, h => ⟨h.1, h.2⟩
  | x :: xs, cs, S, ⟨c1, c2, F1, F2, h1, h2, h3, h4⟩ => by
    obtain ⟨e1, e2⟩ := repL_ints h4
    obtain ⟨e3, e4⟩ := h3
    subst e1 e2 e3 e4
    exact ⟨h1, h2⟩
theorem ints_repL {w : World} : ∀ (xs : List Int), RepL (Rep w (.int .i64)) (xs.map (Value.int .i64)) xs []
  | [] => ⟨rfl, rfl⟩
  | x :: xs => ⟨[.int .i64 x], xs.map (Value.int .i64), [], [], rfl, rfl, ⟨rfl, rfl⟩, ints_repL xs⟩
def srt (x : List Int) : List Int := x.mergeSort fun a b => decide (a ≤ b)
theorem srt_length (x : List Int) : (srt x).length = x.length := List.length_mergeSort x
section
variable {M : List Nat} {w0 w : World} {Γ G : List Res} {v : Value} {x : List Int}
/-- what an own slice of integers is -/
theorem own_ints (H : Holds M w0 w (.sl 3 (.int .i64) v x :: Γ) G) : (v = .slice none 0 0 ∧ x = []) ∨ ∃ g cap cur, v = .slice (some ⟨g, 0, none⟩) x.length cap ∧ w.heap[g]? = some (.cells cur 3 (0, 0)) ∧ x.length ≤ cap ∧ cap ≤ maxLen ∧ cur.size = cap * 1 ∧ cur.toList.take x.length = x.map (Value.int .i64) := by
  obtain ⟨S, L, h1, ⟨cs, hown, hrep⟩, ht, ha⟩ := H.ctx.cons_inv
  obtain ⟨rfl, rfl⟩ := repL_ints hrep
  obtain ⟨hl, h2⟩ := hown
  rcases h2 with ⟨rfl, h3⟩ | ⟨g, cap, cur, rfl, _, hg, hn, hcap, hsz, htk⟩
  · left
    exact ⟨rfl, List.length_eq_zero_iff.1 h3⟩
  · right
    exact ⟨g, cap, cur, rfl, hg, hn, hcap, hsz, by have htk' : cur.toList.take (x.length * 1) = x.map (Value.int .i64) := htk
                                                   rwa [Nat.mul_one] at htk'⟩
theorem sort_call (H : Holds M w0 w (.sl 3 (.int .i64) v x :: Γ) G) (hr : x.length ≤ 1099511627776) :
    Calls Tryd.prog 82 #[v] w fun e w' => e = .returned (.tuple #[]) ∧ Holds M w0 w' (.sl 3 (.int .i64) v (srt x) :: Γ) G := by
  rcases own_ints H with ⟨rfl, rfl⟩ | ⟨g, cap, cur, rfl, hg, hn, hcap, hsz, htk⟩
  · refine (Tryd.slices_Sort_int_none none 0 w).mono ?_
    rintro e w' ⟨rfl, rfl⟩
    have hs : srt [] = [] := List.length_eq_zero_iff.1 (srt_length [])
    rw [hs]
    exact ⟨rfl, H⟩
  · refine (Tryd.slices_Sort_int g 0 cap x w (holds_of_blockI hg htk) (Array.getElem?_eq_some_iff.1 hg).1 (by omega)).mono ?_
    rintro e w' ⟨rfl, n, os, rfl⟩
    refine ⟨rfl, H.upd fun S L h1 hs ht ha => ⟨[], grown_chg (v := .slice (some ⟨g, 0, none⟩) x.length cap) (grownBy_sortedI _), ?_, (fun k hk => .inl hk), (fun k hk => by cases hk), (fun k _ hk => by cases hk)⟩⟩
    have ho := ownsRow_sortedI (base := 0) (n := n) (os := os) (ss := x) (ts := srt x) (srt_length x) (Nat.zero_le g) hg hn hcap hsz
    rw [← srt_length x] at ho
    refine ⟨_, ?_, ints_repL (srt x)⟩
    rw [srt_length x] at ho ⊢
    exact ho
theorem compact_call (H : Holds M w0 w (.sl 3 (.int .i64) v x :: Γ) G) :
    Calls Tryd.prog 83 #[v] w fun e w' => ∃ p cap, e = .returned (.slice p (Lib.compact x).length cap) ∧ Holds M w0 w' Γ G := by
  rcases own_ints H with ⟨rfl, rfl⟩ | ⟨g, cap, cur, rfl, hg, hn, hcap, hsz, htk⟩
  · refine (Tryd.slices_Compact_int_empty none 0 w).mono ?_
    rintro e w' ⟨rfl, rfl⟩
    exact ⟨none, 0, rfl, H.tail⟩
  · have hml : maxLen = 9223372036854775807 := rfl
    refine (Tryd.slices_Compact_int g 0 cap x w (holds_of_blockI hg htk) (by omega) hn).mono ?_
    rintro e w' ⟨rfl, q, rfl⟩
    refine ⟨_, _, rfl, ?_⟩
    have hgb := grownBy_sortedI (w := w) (g := g) (n := q) (os := #[]) (Lib.compact x ++ List.replicate (x.length - (Lib.compact x).length) 0).toArray
    rw [Go.Sort.grow_empty] at hgb
    revert hgb
    generalize Go.Sort.putRow (Value.int .i64) (Go.Sort.ahead w q) g 0 (Lib.compact x ++ List.replicate (x.length - (Lib.compact x).length) 0).toArray = W'
    intro hgb
    have hch : Chg (Res.own (.sl 3 (.int .i64) (.slice (some ⟨g, 0, none⟩) x.length cap) x)) w W' := grown_chg (v := .slice (some ⟨g, 0, none⟩) x.length cap) hgb
    have H2 : Holds M w0 W' (.ro .bool (.slice none 0 0) [] :: Γ) G := H.upd fun S L h1 hs ht ha => ⟨[], hch, ⟨none, 0, rfl, Nat.le_refl _, .inl ⟨rfl, rfl⟩⟩, (fun k hk => by cases hk), (fun k hk => by cases hk), (fun k hk => by cases hk)⟩
    exact H2.tail
end
noncomputable def impl_SeatsManyS (p0 : List Int) : Option Int := (impl_copyIntsS p0).bind fun x => if decide (x.length ≤ 1099511627776) then some ((Lib.compact (srt x)).length : Int) else none
theorem k81 : Callable Tryd.prog 81 := ⟨Tryd.f81, Tryd.func81, by kernel_rfl, by kernel_rfl⟩
theorem k82 : Callable Tryd.prog 82 := ⟨Tryd.f82, Tryd.func82, by kernel_rfl, by kernel_rfl⟩
theorem k83 : Callable Tryd.prog 83 := ⟨Tryd.f83, Tryd.func83, by kernel_rfl, by kernel_rfl⟩
theorem w_impl_SeatsMany (w : World) (G : List Res) (vp0 : Value) (p0 : List Int) (hp0 : Has G (.int .i64) vp0 p0) (r : Int) (h : impl_SeatsManyS p0 = some r) (H : Ctx w G) : Calls Tryd.prog 54 #[vp0] w fun e w' => e = .returned (.int .i64 r) ∧ Holds (([] : List Res).flatMap Res.own) w w' [] G := by
  have H : Holds (([] : List Res).flatMap Res.own) w w [] G := Holds.startN H
  refine calls_enter (args := [vp0]) (n := 11) Tryd.func54 rfl rfl rfl ?_
  unfold impl_SeatsManyS at h
  obtain ⟨x1, hx1, h⟩ := bind_some h
  have hc : x1.length ≤ 1099511627776 := by
    by_cases hc : x1.length ≤ 1099511627776
    · exact hc
    · rw [if_neg (by simpa using hc)] at h; cases h
  rw [if_pos (decide_eq_true hc)] at h
  obtain rfl := Option.some.inj h
  refine WP_seq ?_
  refine WP_region ?_
  refine XL_q rfl (qt_assign rfl) rfl rfl ?_
  refine WL_nil_seq ?_
  refine WP_seq ?_
  refine WP_region ?_
  refine XL_q rfl (qt_move rfl) rfl rfl ?_
  refine WL_call rfl rfl k81 (w_impl_copyInts w G vp0 p0 hp0 x1 hx1 H.ctx) (by rfl) ?_
  rintro _ w3 ⟨v5, rfl, H4⟩; refine ⟨_, rfl, ?_⟩
  have H6 : Holds (([] : List Res).flatMap Res.own) w w3 [.sl 3 (.int .i64) v5 x1] G := H.calledN (Rs := []) H4
  refine XL_q rfl (qt_assign rfl) rfl rfl ?_
  refine WL_nil_seq ?_
  refine WP_seq ?_
  refine WP_region ?_
  refine XL_q rfl (qt_move rfl) rfl rfl ?_
  refine WL_call rfl rfl k82 (sort_call H6 hc) (by rfl) ?_
  rintro _ w4 ⟨rfl, H7⟩; refine ⟨_, rfl, ?_⟩
  refine WL_nil_seq ?_
  refine WP_seq ?_
  refine WP_region ?_
  refine XL_q rfl (qt_move rfl) rfl rfl ?_
  refine WL_call rfl rfl k83 (compact_call H7) (by rfl) ?_
  rintro _ w5 ⟨p, cap, rfl, H8⟩; refine ⟨_, rfl, ?_⟩
  refine XL_q rfl (qt_len u27 rfl) rfl rfl ?_
  refine XL_q rfl (qt_assign rfl) rfl rfl ?_
  refine WL_nil_seq ?_
  refine WP_ret fun a ha => ?_
  exact ret1 rfl ha rfl ⟨rfl, H8⟩
end Go.Proofs.YtidhmbmollkhdaaDoor
