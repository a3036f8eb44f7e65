/- How a sum is shared: both functions hand out by the greatest remainders. Own work; no program in sight. -/
import Derived.Test.YtohhaladggoglaaDoorRank
set_option linter.unusedVariables false
namespace Go.Proofs.YtohhaladggoglaaDoor
open Go Go.RowKit
def cl (L : List Nat) : List Int := L.map (fun x : Nat => (x : Int))
theorem cl_length (L : List Nat) : (cl L).length = L.length := by simp [cl]
theorem cl_geti {L : List Nat} {k : Nat} (h : k < L.length) : geti (cl L) (k : Int) = some ((nth L k : Nat) : Int) := geti_nth h
theorem cl_mid (P : List Nat) (x : Nat) (Q : List Nat) : geti (cl (P ++ x :: Q)) (P.length : Int) = some (x : Int) := by
  rw [cl_geti (by simp)]
  congr 2
  rw [nth_lt (by simp)]; simp
theorem cl_swap (P : List Nat) (y e : Nat) (Q : List Nat) : List.set (List.set (cl (P ++ y :: e :: Q)) (P.length + 1) (y : Int)) P.length (e : Int) = cl (P ++ e :: y :: Q) := by
  unfold cl
  simp only [List.map_append, List.map_cons]
  rw [List.set_append, if_neg (by simp), List.set_append, if_neg (by simp)]
  simp
section sort
variable {sh : List Int} {T S : Int}
def rr (sh : List Int) (T S : Int) (k : Nat) : Int := rest T S (at0 sh) k
/-- shares and a sum as they may be -/
structure Sh (sh : List Int) (T S : Int) : Prop where
  ok : SharesOk sh
  t0 : 0 ≤ T
  t1 : T ≤ 9999
  s : S = sm sh
theorem Sh.pos (h : Sh sh T S) : 0 < S := by rw [h.s]; exact h.ok.2.2
theorem Sh.le (h : Sh sh T S) : S ≤ 140 := by
  have h1 : Rg 20 sh := fun x hx => by have := h.ok.2.1 x hx; omega
  have h2 := h1.sm (by omega)
  have := h.ok.1
  rw [h.s]; omega
theorem Sh.at (h : Sh sh T S) {k : Nat} (hk : k < sh.length) : 0 ≤ at0 sh k ∧ at0 sh k ≤ 20 := h.ok.2.1 _ (at0_mem hk)
theorem Sh.mul (h : Sh sh T S) {k : Nat} (hk : k < sh.length) : 0 ≤ T * at0 sh k ∧ T * at0 sh k ≤ 199980 := by
  have h1 := h.at hk
  have h2 := mul_in (a := T) (b := at0 sh k) (A := 9999) (B := 20) ⟨by have := h.t0; omega, h.t1⟩ h1 (by omega)
  exact ⟨Int.mul_nonneg h.t0 h1.1, by omega⟩
theorem Sh.remE (h : Sh sh T S) {k : Nat} (hk : k < sh.length) : iremO .i64 (IntKind.wrap .i64 (T * at0 sh k)) S = some (rr sh T S k) := by
  have h1 := h.mul hk
  have h2 := h.pos
  rw [wr ⟨by omega, by omega⟩]
  unfold iremO
  rw [if_neg (by simp; omega), Int.tmod_eq_emod_of_nonneg h1.1]; rfl
theorem Sh.quoE (h : Sh sh T S) {k : Nat} (hk : k < sh.length) : iquoO .i64 (IntKind.wrap .i64 (T * at0 sh k)) S = some (quo T S (at0 sh) k) := by
  have h1 := h.mul hk
  have h2 := h.pos
  rw [wr ⟨by omega, by omega⟩]
  unfold iquoO
  have h3 : 0 ≤ T * at0 sh k / S := Int.ediv_nonneg h1.1 (by omega)
  have h4 : T * at0 sh k / S ≤ T * at0 sh k := Int.ediv_le_self _ h1.1
  rw [if_neg (by simp; omega), Int.tdiv_eq_ediv_of_nonneg h1.1, wr ⟨by omega, by omega⟩]; rfl
theorem Sh.rlt (h : Sh sh T S) (k : Nat) : 0 ≤ rr sh T S k ∧ rr sh T S k < 140 := by
  have := rest_lt (T := T) (sh := at0 sh) h.pos k
  have := h.le
  unfold rr; omega
theorem cmp_eq (h : Sh sh T S) {a b : Nat} (ha : a < sh.length) (hb : b < sh.length) : impl_ShareOf_1S (a : Int) (b : Int) T sh S = some (rr sh T S b - rr sh T S a) := by
  unfold impl_ShareOf_1S
  have h1 := h.rlt a
  have h2 := h.rlt b
  rw [geti_at0 hb, Option.bind_some, h.remE hb, Option.bind_some, geti_at0 ha, Option.bind_some, h.remE ha, Option.bind_some, wr ⟨by omega, by omega⟩]
/-- one number is put in its place -/
theorem ins_ret (h : Sh sh T S) {A B : List Nat} {e : Nat} (hs : A.Pairwise (bef (rr sh T S))) (hlt : ∀ y ∈ A, y < e) (he : e < sh.length) (hbig : A.length ≤ 1000000) :
    Ret (loop (σ := Int × (List Int)) (ρ := ((List Int))) (fun (s : Int × (List Int)) => match s with | (s4, s5) => ((if (decide (s4 > 0)) then ((geti s5 s4).bind fun x6 => ((geti s5 (IntKind.wrap .i64 (s4 - 1))).bind fun x15 => ((impl_ShareOf_1S x6 x15 T sh S).bind fun x24 => some (decide (x24 < 0))))) else some false).bind fun b6 => (if b6 then ((geti s5 (IntKind.wrap .i64 (s4 - 1))).bind fun x12 => ((geti s5 s4).bind fun x21 => ((geti s5 s4).bind fun x30 => ((geti (List.set s5 (Int.toNat s4) x12) (IntKind.wrap .i64 (s4 - 1))).bind fun x39 => (some (.inl (IntKind.wrap .i64 (s4 - 1), (List.set (List.set s5 (Int.toNat s4) x12) (Int.toNat (IntKind.wrap .i64 (s4 - 1))) x21)))))))) else (some (.inr s5))))) ((A.length : Nat), cl (A ++ e :: B)))
      (fun r => ∃ A', r = cl (A' ++ B) ∧ A'.Perm (A ++ [e]) ∧ A'.Pairwise (bef (rr sh T S))) := by
  have hAl : ∀ y ∈ A, y < sh.length := fun y hy => Nat.lt_trans (hlt y hy) he
  refine Ret.loop (fun s => ∃ A1 A2, A1 ++ A2 = A ∧ s = (((A1.length : Nat) : Int), cl (A1 ++ e :: (A2 ++ B))) ∧ ∀ y ∈ A2, rr sh T S y < rr sh T S e) (fun s => s.1.toNat) ⟨A, [], by simp, by simp, fun y hy => by cases hy⟩ ?_
  rintro s ⟨A1, A2, hA, rfl, h2⟩
  dsimp only
  rcases List.eq_nil_or_concat A1 with rfl | ⟨A1', y, hc⟩
  · rw [if_neg (by simp), Option.bind_some, if_neg (by simp)]
    refine Ret.pure ⟨e :: A2, by simp, ?_, ?_⟩
    · rw [List.nil_append] at hA; subst hA; exact List.perm_append_singleton e A2 |>.symm
    · rw [List.nil_append] at hA; subst hA
      exact List.pairwise_cons.2 ⟨fun y hy => .inl (h2 y hy), hs⟩
  · rw [List.concat_eq_append] at hc
    subst hc
    have hy : y ∈ A := by rw [← hA]; simp
    have hyl := hAl y hy
    have hye := hlt y hy
    have hlen : A1'.length ≤ 1000000 := by rw [← hA] at hbig; simp at hbig; omega
    have e1 : A1' ++ [y] ++ e :: (A2 ++ B) = A1' ++ y :: e :: (A2 ++ B) := by simp
    have g1 : geti (cl (A1' ++ [y] ++ e :: (A2 ++ B))) (((A1' ++ [y]).length : Nat) : Int) = some (e : Int) := cl_mid (A1' ++ [y]) e (A2 ++ B)
    have g2 : geti (cl (A1' ++ [y] ++ e :: (A2 ++ B))) ((A1'.length : Nat) : Int) = some (y : Int) := by rw [e1]; exact cl_mid A1' y _
    have e2 : IntKind.wrap .i64 ((((A1' ++ [y]).length : Nat) : Int) - 1) = ((A1'.length : Nat) : Int) := by
      have e3 : (((A1' ++ [y]).length : Nat) : Int) - 1 = ((A1'.length : Nat) : Int) := by simp
      rw [e3, wr ⟨by omega, by omega⟩]
    rw [if_pos (by simp only [List.length_append, List.length_cons, List.length_nil, decide_eq_true_eq]; omega), g1, Option.bind_some, e2, g2, Option.bind_some, cmp_eq h he hyl, Option.bind_some, Option.bind_some]
    by_cases hr : rr sh T S y < rr sh T S e
    · rw [if_pos (by simp only [decide_eq_true_eq]; omega), Option.bind_some, Option.bind_some, Option.bind_some]
      have g3 : Ret (geti (List.set (cl (A1' ++ [y] ++ e :: (A2 ++ B))) (Int.toNat (((A1' ++ [y]).length : Nat) : Int)) (y : Int)) ((A1'.length : Nat) : Int)) (fun _ => True) := by
        rw [geti_at0 (by simp [cl])]; exact Ret.pure trivial
      obtain ⟨z, hz, _⟩ := g3
      rw [hz, Option.bind_some]
      refine Ret.pure ⟨⟨A1', y :: A2, by rw [← hA]; simp, ?_, fun z hz => ?_⟩, by simp⟩
      · rw [e1, Int.toNat_natCast, Int.toNat_natCast, show (A1' ++ [y]).length = A1'.length + 1 by simp, cl_swap]
        simp
      · rcases List.mem_cons.1 hz with rfl | hz
        · exact hr
        · exact h2 z hz
    · rw [if_neg (by simp only [decide_eq_true_eq]; omega)]
      refine Ret.pure ⟨A1' ++ [y] ++ e :: A2, by simp, ?_, ?_⟩
      · rw [← hA]
        have : (A1' ++ [y] ++ e :: A2).Perm (e :: (A1' ++ [y] ++ A2)) := List.perm_middle
        exact this.trans (List.perm_append_singleton e _).symm
      · rw [← hA] at hs
        have hp := List.pairwise_append.1 hs
        have hyb : bef (rr sh T S) y e := by
          unfold bef
          rcases Int.lt_or_le (rr sh T S e) (rr sh T S y) with h3 | h3
          · exact .inl h3
          · exact .inr ⟨by omega, hye⟩
        have hpre : ∀ z ∈ A1' ++ [y], bef (rr sh T S) z e := fun z hz => by
          rcases List.mem_append.1 hz with hz | hz
          · exact ((List.pairwise_append.1 hp.1).2.2 z hz y (by simp)).trans hyb
          · simp at hz; subst hz; exact hyb
        refine List.pairwise_append.2 ⟨hp.1, List.pairwise_cons.2 ⟨fun z hz => .inl (h2 z hz), hp.2.1⟩, fun a ha b hb => ?_⟩
        rcases List.mem_cons.1 hb with rfl | hb
        · exact hpre a ha
        · exact hp.2.2 a ha b hb
theorem range_split {i n : Nat} (h : i < n) : List.range' i (n - i) = i :: List.range' (i + 1) (n - (i + 1)) := by
  rw [show n - i = (n - (i + 1)) + 1 by omega, List.range'_succ]
theorem sort_ret (h : Sh sh T S) : Ret (slices_SortStableFunc___int_intS (cl (List.range sh.length)) (fun x y => impl_ShareOf_1S x y T sh S)) (fun r => ∃ L, r = cl L ∧ Rk (rr sh T S) sh.length L) := by
  have hn := h.ok.1
  have key : Ret (slices_insertionSortCmpFunc_intS (cl (List.range sh.length)) 0 (sh.length : Int) (fun x y => impl_ShareOf_1S x y T sh S)) (fun r => ∃ L, r = cl L ∧ Rk (rr sh T S) sh.length L) := by
    unfold slices_insertionSortCmpFunc_intS
    rw [show IntKind.wrap .i64 (0 + 1) = 1 by decide]
    refine Ret.loopb (fun s => ∃ (i : Nat) (A : List Nat), 1 ≤ i ∧ i ≤ sh.length ∧ s = ((i : Int), cl (A ++ List.range' i (sh.length - i))) ∧ A.Perm (List.range i) ∧ A.Pairwise (bef (rr sh T S))) (fun s => sh.length - s.1.toNat) (fun r => ∃ L, r = cl L ∧ Rk (rr sh T S) sh.length L) ?_ ?_ (fun r hr => Ret.pure hr)
    · refine ⟨1, [0], by omega, by omega, ?_, .refl _, by simp⟩
      have : List.range sh.length = [0] ++ List.range' 1 (sh.length - 1) := by
        rw [List.range_eq_range', show sh.length = (sh.length - 1) + 1 by omega, List.range'_succ]; simp
      rw [this]; rfl
    · rintro s ⟨i, A, h1, hi, rfl, hp, hs⟩
      dsimp only
      by_cases hin : i < sh.length
      · rw [if_pos (by simp only [decide_eq_true_eq]; omega), range_split hin]
        have hAl : A.length = i := by have := hp.length_eq; simpa using this
        have hlt : ∀ y ∈ A, y < i := fun y hy => List.mem_range.1 (hp.mem_iff.1 hy)
        have hins := ins_ret h (A := A) (B := List.range' (i + 1) (sh.length - (i + 1))) (e := i) hs hlt hin (by omega)
        rw [hAl] at hins
        refine Ret.bind hins ?_
        rintro r ⟨A', rfl, hp', hs'⟩
        rw [wr_succ (n := sh.length) (by omega) hin]
        refine Ret.pure ⟨⟨i + 1, A', by omega, by omega, rfl, ?_, hs'⟩, by simp; omega⟩
        rw [List.range_succ]; exact hp'.trans (hp.append_right [i])
      · have : i = sh.length := by omega
        subst this
        rw [if_neg (by simp)]
        refine Ret.pure ⟨A, by simp, hp, hs⟩
  unfold slices_SortStableFunc___int_intS slices_stableCmpFunc_intS
  refine Ret.bind (Q := fun r => ∃ L, r = cl L ∧ Rk (rr sh T S) sh.length L) ?_ (fun r hr => Ret.pure hr)
  rw [loopDet (fun _ => ((0 : Int), (20 : Int), cl (List.range sh.length))) 0 ((0 : Int), cl (List.range sh.length)) rfl (fun k hk => by omega) (by dsimp only; rw [if_neg (by simp only [decide_eq_true_eq, cl_length, List.length_range]; omega)]), Option.bind_some]
  dsimp only
  rw [cl_length, List.length_range]
  refine Ret.bind key (fun x12 hx => ?_)
  rw [loopDet (fun _ => ((20 : Int), x12)) 0 x12 rfl (fun k hk => by omega) (by dsimp only; rw [if_neg (by simp only [decide_eq_true_eq]; omega)]), Option.bind_some]
  exact Ret.pure hx
theorem indices_eq {n : Nat} (h : n ≤ 1000) : impl_indicesS (n : Int) = some (cl (List.range n)) := by
  unfold impl_indicesS
  rw [mk_ra h, Option.bind_some, ra_length]
  rw [loopDet (fun k => ((k : Int), ra n (fun j => if j < k then (j : Int) else 0))) n (cl (List.range n))]
  · rfl
  · simp only [Nat.not_lt_zero, if_false]; rfl
  · intro k hk
    dsimp only
    rw [if_pos (by simp only [decide_eq_true_eq]; omega), ra_geti _ hk, Option.bind_some, wr_succ (n := n) (by omega) hk, ra_set]
    congr 3
    apply ra_ext
    intro j hj
    by_cases h1 : j = k
    · rw [if_pos h1, if_pos (by omega), h1]
    · rw [if_neg h1]
      by_cases h2 : j < k
      · rw [if_pos h2, if_pos (by omega)]
      · rw [if_neg h2, if_neg (by omega)]
  · dsimp only
    rw [if_neg (by simp)]
    congr 2
    unfold cl
    apply List.map_congr_left
    intro j hj
    rw [if_pos (List.mem_range.1 hj)]
/-- the parts -/
def Parts (sh : List Int) (T S : Int) (xs : List Int) : Prop := ∃ L : List Nat, ∃ left : Nat, Rk (rr sh T S) sh.length L ∧ (left : Int) = T - sm (ra sh.length (quo T S (at0 sh))) ∧ left < sh.length ∧ xs = ra sh.length (inc (quo T S (at0 sh)) L left)
theorem ra_self (sh : List Int) : ra sh.length (at0 sh) = sh := (ra_of sh).symm
theorem Sh.leftE (h : Sh sh T S) : ∃ left : Nat, (left : Int) = T - sm (ra sh.length (quo T S (at0 sh))) ∧ left < sh.length := by
  have := left_bounds (n := sh.length) (sh := at0 sh) (T := T) h.pos (by rw [ra_self, h.s]) (by have := h.ok.1; omega)
  exact ⟨(T - sm (ra sh.length (quo T S (at0 sh)))).toNat, by omega, by omega⟩
theorem quo_bd (h : Sh sh T S) {k : Nat} (hk : k < sh.length) : 0 ≤ quo T S (at0 sh) k ∧ quo T S (at0 sh) k ≤ 199980 := by
  have h1 := h.mul hk
  exact ⟨Int.ediv_nonneg h1.1 (by have := h.pos; omega), Int.le_trans (Int.ediv_le_self _ h1.1) h1.2⟩
theorem ra_bd {n : Nat} {f : Nat → Int} (hn : n ≤ 1000) (h : ∀ k, k < n → 0 ≤ f k ∧ f k ≤ 1000000) : Bd (ra n f) := ⟨by rw [ra_length]; omega, fun x hx => by
  obtain ⟨i, hi, rfl⟩ := mem_at0 hx
  rw [ra_length] at hi
  rw [ra_at _ hi]
  have := h i hi; omega⟩
theorem inc_bd (h : Sh sh T S) (L : List Nat) (j : Nat) {k : Nat} (hk : k < sh.length) : 0 ≤ inc (quo T S (at0 sh)) L j k ∧ inc (quo T S (at0 sh)) L j k ≤ 199981 := by
  have := quo_bd h hk
  unfold inc; split <;> omega
theorem implShare_ret (h : Sh sh T S) : Ret (impl_ShareOfS sh T) (Parts sh T S) := by
  have hn := h.ok.1
  have ht0 := h.t0
  have ht1 := h.t1
  unfold impl_ShareOfS
  rw [implSharesValid_eq _ (by omega), Option.bind_some, decide_eq_true h.ok, if_neg (by simp; omega), implSum_eq (sbd_of hn.2 h.ok.2.1), Option.bind_some, mk_ra (by omega), Option.bind_some, ← h.s]
  rw [loopDet (fun k => ((k : Int), ra sh.length (fun j => if j < k then quo T S (at0 sh) j else 0))) sh.length (ra sh.length (quo T S (at0 sh)))]
  · rw [Option.bind_some]
    dsimp only
    rw [indices_eq (by omega), Option.bind_some]
    refine Ret.bind (sort_ret h) ?_
    rintro x71 ⟨L, rfl, hL⟩
    rw [implSum_eq (ra_bd (by omega) (fun k hk => by have := quo_bd h hk; omega)), Option.bind_some]
    obtain ⟨left, hl1, hl2⟩ := h.leftE
    rw [← hl1, wr ⟨by omega, by omega⟩]
    have hLl := hL.length
    have hsub : subO (cl L) 0 (left : Int) = some (cl (L.take left)) := by
      unfold subO
      rw [if_pos (by rw [cl_length]; simp; omega)]
      unfold cl
      simp
    rw [hsub, Option.bind_some]
    rw [loopDet (fun j => ((j : Int), ra sh.length (inc (quo T S (at0 sh)) L j))) left (ra sh.length (inc (quo T S (at0 sh)) L left))]
    · exact Ret.pure ⟨L, left, hL, hl1, hl2, rfl⟩
    · rw [ra_ext (fun k _ => inc_zero _ L k)]; rfl
    · intro j hj
      dsimp only
      have hjl : j < L.length := by omega
      have hnl := hL.lt (nth_mem hjl)
      have e : nth (L.take left) j = nth L j := by rw [nth_lt (by rw [List.length_take]; omega), nth_lt hjl, List.getElem_take]
      have hb := inc_bd h L j hnl
      rw [if_pos (by simp only [cl_length, List.length_take, decide_eq_true_eq]; omega), cl_geti (by rw [List.length_take]; omega), e, Option.bind_some, ra_geti _ hnl, Option.bind_some, Option.bind_some, wr_succ (n := left) (by omega) hj, wr ⟨by omega, by omega⟩, inc_set hL _ hjl]
    · dsimp only
      rw [if_neg (by simp only [cl_length, List.length_take, decide_eq_true_eq]; omega)]
  · simp only [Nat.not_lt_zero, if_false]; rfl
  · intro k hk
    dsimp only
    rw [if_pos (by simp only [decide_eq_true_eq]; omega), geti_at0 hk, Option.bind_some, h.quoE hk, Option.bind_some, ra_geti _ hk, Option.bind_some, wr_succ (n := sh.length) (by omega) hk, ra_set]
    congr 3
    apply ra_ext
    intro j hj
    by_cases h1 : j = k
    · rw [if_pos h1, if_pos (by omega), h1]
    · rw [if_neg h1]
      by_cases h2 : j < k
      · rw [if_pos h2, if_pos (by omega)]
      · rw [if_neg h2, if_neg (by omega)]
  · dsimp only
    rw [if_neg (by simp)]
    congr 2
    apply ra_ext
    intro j hj
    rw [if_pos hj]
theorem l1Has_eq (L : List Nat) (k : Nat) (hl : L.length ≤ 1000000) : spec_l1HasS (cl L) (k : Int) = some (decide (k ∈ L)) := by
  unfold spec_l1HasS
  rw [loopExit (s := (0 : Int)) (fun i => (i : Int)) L.length (fun i => if nth L i = k then some (.inr true) else none) (.inl ()) rfl]
  · rw [Option.bind_some]
    have key : ∀ d i, i + d = L.length → firstOf (ρ := Unit ⊕ Bool) (fun i => if nth L i = k then some (.inr true) else none) i d = if k ∈ L.drop i then some (.inr true) else none := by
      intro d
      induction d with
      | zero => intro i hi; rw [List.drop_eq_nil_of_le (by omega)]; simp [firstOf]
      | succ d ih =>
        intro i hi
        unfold firstOf
        have e : L.drop i = nth L i :: L.drop (i + 1) := by rw [nth_lt (by omega)]; exact List.drop_eq_getElem_cons (by omega)
        rw [e]
        by_cases h : nth L i = k
        · rw [if_pos h]; simp [h]
        · rw [if_neg h]
          dsimp only
          rw [ih (i + 1) (by omega)]
          have : k ∈ nth L i :: L.drop (i + 1) ↔ k ∈ L.drop (i + 1) := by
            rw [List.mem_cons]; exact ⟨fun h2 => h2.resolve_left (fun e => h e.symm), .inr⟩
          simp only [this]
    rw [key L.length 0 (by omega), List.drop_zero]
    by_cases h : k ∈ L <;> simp [h]
  · intro i hi
    dsimp only
    rw [if_pos (by simp only [cl_length, decide_eq_true_eq]; omega), cl_geti hi, Option.bind_some, wr_succ (n := L.length) (by omega) hi]
    by_cases h : nth L i = k
    · rw [if_pos h, if_pos (by simp; omega)]
    · rw [if_neg h, if_neg (by simp; omega)]
  · dsimp only; rw [if_neg (by simp [cl_length])]
def bestTo (r : Nat → Int) (G : List Nat) : Nat → Int
  | 0 => -1
  | k + 1 => if decide (k ∉ G) && (decide (bestTo r G k < 0) || decide (r k > r (bestTo r G k).toNat)) then (k : Int) else bestTo r G k
theorem bestTo_spec (r : Nat → Int) (G : List Nat) : ∀ k, (bestTo r G k = -1 ∧ ∀ i, i < k → i ∈ G) ∨ ∃ b : Nat, bestTo r G k = (b : Int) ∧ b < k ∧ b ∉ G ∧ ∀ i, i < k → i ∉ G → i = b ∨ bef r b i
  | 0 => .inl ⟨rfl, fun i hi => by omega⟩
  | k + 1 => by
    have hle : ∀ i, i < k + 1 → i < k ∨ i = k := fun i hi => by omega
    rcases bestTo_spec r G k with ⟨h1, h2⟩ | ⟨b, h1, h2, h3, h4⟩
    · by_cases hk : k ∈ G
      · left
        refine ⟨by simp [bestTo, hk, h1], fun i hi => ?_⟩
        rcases hle i hi with h | rfl
        · exact h2 i h
        · exact hk
      · right
        refine ⟨k, by simp [bestTo, hk, h1], by omega, hk, fun i hi hn => ?_⟩
        rcases hle i hi with h | rfl
        · exact absurd (h2 i h) hn
        · exact .inl rfl
    · right
      by_cases hk : k ∈ G
      · refine ⟨b, by simp [bestTo, hk, h1], by omega, h3, fun i hi hn => ?_⟩
        rcases hle i hi with h | rfl
        · exact h4 i h hn
        · exact absurd hk hn
      · by_cases hr : r k > r b
        · refine ⟨k, ?_, by omega, hk, fun i hi hn => ?_⟩
          · have : (bestTo r G k).toNat = b := by rw [h1]; omega
            simp only [bestTo, this]
            rw [if_pos (by simp [hk, hr])]
          · rcases hle i hi with h | rfl
            · right
              rcases h4 i h hn with rfl | h5
              · exact .inl hr
              · exact bef.trans (.inl hr) h5
            · exact .inl rfl
        · refine ⟨b, ?_, by omega, h3, fun i hi hn => ?_⟩
          · have : (bestTo r G k).toNat = b := by rw [h1]; omega
            simp only [bestTo, this]
            rw [if_neg (by simp [hr, h1]), h1]
          · rcases hle i hi with h | rfl
            · exact h4 i h hn
            · right
              unfold bef
              rcases Int.lt_or_le (r i) (r b) with h | h
              · exact .inl h
              · exact .inr ⟨by omega, by omega⟩
theorem specShare_eq (h : Sh sh T S) {L : List Nat} {left : Nat} (hL : Rk (rr sh T S) sh.length L) (hl1 : (left : Int) = T - sm (ra sh.length (quo T S (at0 sh)))) (hl2 : left < sh.length) :
    spec_ShareOfS sh T = some (ra sh.length (inc (quo T S (at0 sh)) L left)) := by
  have hn := h.ok.1
  have ht0 := h.t0
  have ht1 := h.t1
  have hLl := hL.length
  unfold spec_ShareOfS
  rw [specSharesValid_eq _ (by omega), Option.bind_some, decide_eq_true h.ok, if_neg (by simp), l1In_eq, Option.bind_some, decide_eq_true ⟨ht0, ht1⟩, Option.bind_some, if_neg (by simp), specSum_eq (sbd_of hn.2 h.ok.2.1), Option.bind_some, ← h.s]
  rw [loopDet (fun k => (ra k (quo T S (at0 sh)), (k : Int))) sh.length (ra sh.length (quo T S (at0 sh)))]
  · rw [Option.bind_some]
    dsimp only
    rw [specSum_eq (ra_bd (by omega) (fun k hk => by have := quo_bd h hk; omega)), Option.bind_some, ← hl1, wr ⟨by omega, by omega⟩]
    rw [loopDet (fun j => (cl (L.take j), ((left : Int) - j), ra sh.length (inc (quo T S (at0 sh)) L j))) left (ra sh.length (inc (quo T S (at0 sh)) L left))]
    · rfl
    · rw [ra_ext (fun k _ => inc_zero _ L k)]; simp [cl]
    · intro j hj
      dsimp only
      have hjl : j < L.length := by omega
      have hnl := hL.lt (nth_mem hjl)
      rw [if_pos (by simp only [decide_eq_true_eq]; omega)]
      have hbest : bestTo (rr sh T S) (L.take j) sh.length = ((nth L j : Nat) : Int) := by
        rcases bestTo_spec (rr sh T S) (L.take j) sh.length with ⟨_, h2⟩ | ⟨b, h1, h2, h3, h4⟩
        · exact absurd (h2 _ hnl) (hL.not_take hjl)
        · rw [h1, hL.next hjl h2 h3 h4]
      rw [loopDet (fun k => (bestTo (rr sh T S) (L.take j) k, (k : Int))) sh.length ((nth L j : Nat) : Int)]
      · rw [Option.bind_some]
        have hb := inc_bd h L j hnl
        rw [appO_ok (by simp [cl]; omega), Option.bind_some, ra_geti _ hnl, Option.bind_some, Option.bind_some, wr ⟨by omega, by omega⟩, wr (x := inc (quo T S (at0 sh)) L j (nth L j) + 1) ⟨by omega, by omega⟩, inc_set hL _ hjl]
        congr 3
        · rw [List.take_succ_eq_append_getElem hjl, ← nth_lt hjl]; simp [cl]
        · congr 1; omega
      · rfl
      · intro k hk
        dsimp only
        rw [if_pos (by simp only [decide_eq_true_eq]; omega), l1Has_eq _ _ (by rw [List.length_take]; omega), Option.bind_some, wr_succ (n := sh.length) (by omega) hk]
        have hstep : bestTo (rr sh T S) (L.take j) (k + 1) = if decide (k ∉ L.take j) && (decide (bestTo (rr sh T S) (L.take j) k < 0) || decide (rr sh T S k > rr sh T S (bestTo (rr sh T S) (L.take j) k).toNat)) then (k : Int) else bestTo (rr sh T S) (L.take j) k := rfl
        rw [hstep]
        by_cases hk2 : k ∈ L.take j
        · simp [hk2]
        · rcases bestTo_spec (rr sh T S) (L.take j) k with ⟨h1, _⟩ | ⟨b, h1, h2, _, _⟩
          · rw [h1]; simp [hk2]
          · have hneg : decide ((b : Int) < 0) = false := by simp
            rw [h1, hneg, if_pos (by simp [hk2]), if_neg (by simp), geti_at0 hk, Option.bind_some, h.remE hk, Option.bind_some, geti_at0 (by omega), Option.bind_some, h.remE (by omega), Option.bind_some, Option.bind_some, Int.toNat_natCast]
            by_cases hr : rr sh T S k > rr sh T S b <;> simp [hk2, hr]
      · dsimp only
        rw [if_neg (by simp), hbest]
    · dsimp only
      rw [if_neg (by simp only [decide_eq_true_eq]; omega)]
  · rfl
  · intro k hk
    dsimp only
    rw [if_pos (by simp only [decide_eq_true_eq]; omega), geti_at0 hk, Option.bind_some, h.quoE hk, Option.bind_some, appO_ok (by rw [ra_length]; simp; omega), Option.bind_some, wr_succ (n := sh.length) (by omega) hk, ra_succ]
  · dsimp only
    rw [if_neg (by simp)]
end sort
theorem share_both {sh : List Int} {T S : Int} (h : Sh sh T S) : ∃ xs, impl_ShareOfS sh T = some xs ∧ spec_ShareOfS sh T = some xs ∧ Parts sh T S xs := by
  obtain ⟨xs, h1, L, left, hL, hl1, hl2, rfl⟩ := implShare_ret h
  exact ⟨_, h1, specShare_eq h hL hl1 hl2, L, left, hL, hl1, hl2, rfl⟩
theorem share_not {sh : List Int} {T : Int} (hl : sh.length ≤ 1000) (h : ¬ (SharesOk sh ∧ 0 ≤ T ∧ T ≤ 9999)) : impl_ShareOfS sh T = some [] ∧ spec_ShareOfS sh T = some [] := by
  constructor
  · unfold impl_ShareOfS
    rw [implSharesValid_eq _ (by omega), Option.bind_some, if_pos]
    simp only [Bool.or_eq_true, Bool.not_eq_true', decide_eq_false_iff_not, decide_eq_true_eq]
    by_cases h1 : SharesOk sh
    · have : ¬ (0 ≤ T ∧ T ≤ 9999) := fun h2 => h ⟨h1, h2.1, h2.2⟩
      omega
    · exact .inl (.inl h1)
  · unfold spec_ShareOfS
    rw [specSharesValid_eq _ (by omega), Option.bind_some]
    by_cases h1 : SharesOk sh
    · rw [decide_eq_true h1, if_neg (by simp), l1In_eq, Option.bind_some, decide_eq_false (fun h2 => h ⟨h1, h2⟩), Option.bind_some, if_pos (by simp)]
    · rw [decide_eq_false h1, if_pos (by simp), Option.bind_some, if_pos rfl]
theorem sameInts_eq (xs ys : List Int) (h : xs.length ≤ 4611686018427387904) : laws_sameIntsS xs ys = some (decide (xs = ys)) := by
  unfold laws_sameIntsS
  by_cases hl : xs.length = ys.length
  · rw [if_neg (by simp [hl])]
    rw [loopAll xs.length (fun k => decide (at0 xs k = at0 ys k))]
    · rw [Option.bind_some]
      refine (fin2 _).trans ?_
      congr 1
      rw [Bool.eq_iff_iff, List.all_eq_true, decide_eq_true_eq]
      constructor
      · intro hh
        exact ext_at0 hl (fun i hi => of_decide_eq_true (hh i (List.mem_range.2 hi)))
      · intro hh i hi; rw [hh]; simp
    · intro k hk
      dsimp only
      rw [if_pos (by simp only [decide_eq_true_eq]; omega), geti_at0 hk, Option.bind_some, geti_at0 (by omega), Option.bind_some, wr_succ (n := xs.length) (by omega) hk]
      by_cases he : at0 xs k = at0 ys k <;> simp [he]
    · dsimp only; rw [if_neg (by simp)]
  · rw [if_pos (by simp; omega), decide_eq_false (fun e => hl (by rw [e]))]
end Go.Proofs.YtohhaladggoglaaDoor
