/- Houses that come in: their sizes, copies, comparison; the exact laws. Own work; no program in sight. -/
import Derived.Test.YtcjkbcdlpfgbgaaGreatDoorHouse3
set_option linter.unusedVariables false
namespace Go.Proofs.YtcjkbcdlpfgbgaaGreatDoor
open Go Go.RowKit
/-! ### sizes -/
def RItems (xs : List HItem) : Prop := xs.length ≤ 9223372036854775807 ∧ ∀ x ∈ xs, x.2.1.length ≤ 9223372036854775807
def RTabs (ts : List HTab) : Prop := ts.length ≤ 9223372036854775807 ∧ ∀ t ∈ ts, t.2.1.length ≤ 9223372036854775807 ∧ t.2.2.length ≤ 9223372036854775807
def RHouse (it : List HItem) (pr st : List Int) (tb : List HTab) : Prop := RItems it ∧ pr.length ≤ 9223372036854775807 ∧ st.length ≤ 9223372036854775807 ∧ RTabs tb
def SzOk (o : Option Int) (b : Int) (P : Prop) : Prop := Ret o (fun r => r < 0 ∨ (0 ≤ r ∧ r ≤ b ∧ P))
theorem sz_flat {n : Nat} {b : Int} (hb : 0 ≤ b ∧ b ≤ 1048576) (hn : n ≤ 9223372036854775807) : SzOk (if decide (IntKind.wrap .i64 (b - (n : Int)) < 0) then (some (-1)) else (some (IntKind.wrap .i64 (b - (n : Int))))) b (n ≤ 1048576) := by
  rw [wr (x := b - (n : Int)) ⟨by omega, by omega⟩]
  refine Ret.ite (fun h => Ret.pure (.inl (by omega))) (fun h => ?_)
  have := of_decide_eq_false h
  exact Ret.pure (.inr ⟨by omega, by omega, by omega⟩)
theorem szPart_ok (ps : List (Int × Int)) {b : Int} (hb : 0 ≤ b ∧ b ≤ 1048576) (hn : ps.length ≤ 9223372036854775807) : SzOk (laws_szPartSS ps b) b (ps.length ≤ 1048576) := sz_flat hb hn
theorem szInt_ok (ps : List Int) {b : Int} (hb : 0 ≤ b ∧ b ≤ 1048576) (hn : ps.length ≤ 9223372036854775807) : SzOk (laws_szIntSS ps b) b (ps.length ≤ 1048576) := sz_flat hb hn
theorem szOrder_ok (ps : List (Int × Int)) {b : Int} (hb : 0 ≤ b ∧ b ≤ 1048576) (hn : ps.length ≤ 9223372036854775807) : SzOk (laws_szOrderSS ps b) b (ps.length ≤ 1048576) := sz_flat hb hn
theorem SzOk.step {o : Option Int} {b : Int} {P Q : Prop} {f : Int → Option Int} (h : SzOk o b P) (hf : P → ∀ r, 0 ≤ r → r ≤ b → SzOk (f r) b Q) : SzOk (o.bind fun r => if decide (r < 0) then some (-1) else f r) b Q := by
  refine Ret.bind h (fun r hr => Ret.ite (fun h1 => Ret.pure (.inl (by omega))) (fun h1 => ?_))
  have := of_decide_eq_false h1
  rcases hr with hr | hr
  · omega
  · exact hf hr.2.2 r hr.1 hr.2.1
theorem SzOk.mono {o : Option Int} {b c : Int} {P Q : Prop} (h : SzOk o b P) (hbc : b ≤ c) (hp : P → Q) : SzOk o c Q := Ret.mono h fun r hr => hr.imp id fun h => ⟨h.1, by omega, hp h.2.2⟩
theorem SzOk.ret {b r : Int} {P : Prop} (h0 : 0 ≤ r) (h1 : r ≤ b) (hp : P) : SzOk (some r) b P := Ret.pure (.inr ⟨h0, h1, hp⟩)
theorem szItem_ok (m : Int) (ps : List (Int × Int)) (g : Int) {b : Int} (hb : 0 ≤ b ∧ b ≤ 1048576) (hn : ps.length ≤ 9223372036854775807) : SzOk (laws_szItemS m ps g b) b (ps.length ≤ 1048576) :=
  SzOk.step (szPart_ok ps hb hn) (fun hp r h0 h1 => SzOk.ret h0 h1 hp)
theorem szTable_ok (a : Int) (os : List (Int × Int)) (ds : List Int) {b : Int} (hb : 0 ≤ b ∧ b ≤ 1048576) (ho : os.length ≤ 9223372036854775807) (hd : ds.length ≤ 9223372036854775807) : SzOk (laws_szTableS a os ds b) b (os.length ≤ 1048576 ∧ ds.length ≤ 1048576) :=
  SzOk.step (szOrder_ok os hb ho) (fun hp r h0 h1 => SzOk.step ((szInt_ok ds ⟨h0, by omega⟩ hd).mono h1 id) (fun hq r' h0' h1' => SzOk.ret h0' h1' ⟨hp, hq⟩))
theorem sz_list {α : Type} (xs : List α) (P : α → Prop) (sz : α → Int → Option Int) {b : Int} (hb : 0 ≤ b ∧ b ≤ 1048576) (hn : xs.length ≤ 9223372036854775807)
    (hs : ∀ x ∈ xs, ∀ c, 0 ≤ c ∧ c ≤ 1048576 → SzOk (sz x c) c (P x)) {step : Int × Int → Option ((Int × Int) ⊕ (Int ⊕ Int))}
    (hstep : ∀ c (k : Nat) (hk : k < xs.length), step (c, (k : Int)) = ((sz xs[k] c).bind fun r => if decide (r < 0) then some (.inr (.inr (-1))) else some (.inl (r, IntKind.wrap .i64 ((k : Int) + 1)))))
    (hend : ∀ c, step (c, (xs.length : Int)) = some (.inr (.inl c))) :
    SzOk (if decide (IntKind.wrap .i64 (b - (xs.length : Int)) < 0) then (some (-1)) else ((loop (σ := Int × Int) (ρ := Int ⊕ Int) step (IntKind.wrap .i64 (b - (xs.length : Int)), 0)).bind fun o => match o with | .inl p => some p | .inr p => some p)) b (xs.length ≤ 1048576 ∧ ∀ x ∈ xs, P x) := by
  rw [wr (x := b - (xs.length : Int)) ⟨by omega, by omega⟩]
  refine Ret.ite (fun h => Ret.pure (.inl (by omega))) (fun h => ?_)
  have h0 := of_decide_eq_false h
  refine Ret.loopb (fun s => (0 ≤ s.1 ∧ s.1 ≤ b) ∧ ∃ k : Nat, s.2 = k ∧ k ≤ xs.length ∧ ∀ x ∈ xs.take k, P x) (fun s => xs.length - s.2.toNat) (fun r => match r with | .inl c => (0 ≤ c ∧ c ≤ b) ∧ ∀ x ∈ xs, P x | .inr c => c < 0) ⟨by dsimp only; omega, 0, rfl, by omega, by simp⟩ ?_ (fun r hr => ?_)
  · rintro ⟨c, i⟩ ⟨hc, k, hi, hle, ht⟩
    dsimp only at hc hi
    subst hi
    by_cases hk : k < xs.length
    · rw [hstep c k hk]
      refine Ret.bind (hs _ (List.getElem_mem hk) c ⟨hc.1, by omega⟩) (fun r hr => Ret.ite (fun h1 => Ret.pure (by show (-1 : Int) < 0; omega)) (fun h1 => ?_))
      have h2 := of_decide_eq_false h1
      rcases hr with hr | hr
      · omega
      · rw [wr_succ (n := xs.length) (by omega) hk]
        refine Ret.pure ⟨⟨⟨hr.1, by dsimp only; omega⟩, k + 1, rfl, by omega, fun x hx => ?_⟩, by dsimp only; omega⟩
        rcases (mem_take_succ hk).1 hx with h | h
        · exact ht x h
        · rw [h]; exact hr.2.2
    · have : k = xs.length := by omega
      subst this
      rw [hend]
      rw [List.take_length] at ht
      exact Ret.pure ⟨hc, ht⟩
  · cases r with
    | inl c => exact Ret.pure (.inr ⟨hr.1.1, hr.1.2, by omega, hr.2⟩)
    | inr c => exact Ret.pure (.inl hr)
theorem szItems_ok (xs : List HItem) {b : Int} (hb : 0 ≤ b ∧ b ≤ 1048576) (h : RItems xs) : SzOk (laws_szItemSS xs b) b (ItemsL xs) := by
  unfold laws_szItemSS
  refine sz_list xs (fun x => x.2.1.length ≤ 1048576) (fun x c => laws_szItemS x.1 x.2.1 x.2.2 c) hb h.1 (fun x hx c hc => szItem_ok _ _ _ hc (h.2 x hx)) (fun c k hk => ?_) (fun c => ?_)
  · (try dsimp only)
    rw [if_pos (lt_dec hk), geti_lt' hk, Option.bind_some]
  · (try dsimp only)
    rw [if_neg (by simp)]
theorem szTables_ok (ts : List HTab) {b : Int} (hb : 0 ≤ b ∧ b ≤ 1048576) (h : RTabs ts) : SzOk (laws_szTableSS ts b) b (TabsL ts) := by
  unfold laws_szTableSS
  refine sz_list ts (fun t => t.2.1.length ≤ 1048576 ∧ t.2.2.length ≤ 1048576) (fun x c => laws_szTableS x.1 x.2.1 x.2.2 c) hb h.1 (fun x hx c hc => szTable_ok _ _ _ hc (h.2 x hx).1 (h.2 x hx).2) (fun c k hk => ?_) (fun c => ?_)
  · (try dsimp only)
    rw [if_pos (lt_dec hk), geti_lt' hk, Option.bind_some]
  · (try dsimp only)
    rw [if_neg (by simp)]
theorem szHouse_ok {it : List HItem} {pr st : List Int} (cash : Int) {tb : List HTab} (h : RHouse it pr st tb) : SzOk (laws_szHouseS it pr st cash tb 1048576) 1048576 (HouseL it pr st tb) := by
  unfold laws_szHouseS
  refine SzOk.step (szItems_ok it ⟨by omega, by omega⟩ h.1) (fun h1 r1 a1 b1 => ?_)
  refine SzOk.step ((szInt_ok pr ⟨a1, b1⟩ h.2.1).mono b1 id) (fun h2 r2 a2 b2 => ?_)
  refine SzOk.step ((szInt_ok st ⟨a2, b2⟩ h.2.2.1).mono b2 id) (fun h3 r3 a3 b3 => ?_)
  refine SzOk.step ((szTables_ok tb ⟨a3, b3⟩ h.2.2.2).mono b3 id) (fun h4 r4 a4 b4 => ?_)
  exact SzOk.ret a4 b4 ⟨h1, h2, h3, h4⟩
/-! ### copies -/
theorem map_self {α : Type} (xs : List α) : xs.map (fun x => x) = xs := List.map_id' xs
theorem geti_any {α : Type} {xs ys : List α} {k : Nat} (hl : ys.length = xs.length) (hk : k < xs.length) : geti ys (k : Int) = some (ys[k]'(by omega)) := geti_lt' (by omega)
theorem toInts_id (ps : List Int) (h : ps.length ≤ 1048576) : laws_toIntSS ps = some ps := by
  unfold laws_toIntSS
  rw [mkO_nat _ (by omega), Option.bind_some, copyLoop ps (fun x => x), map_self]
  · rfl
  · intro k hk ys hl
    (try dsimp only)
    rw [if_pos (lt_dec hk), geti_lt' hk, Option.bind_some, geti_any hl hk, Option.bind_some, wr_succ (n := ps.length) (by omega) hk]
    rfl
  · intro ys hl
    (try dsimp only)
    rw [if_neg (by simp)]
theorem toParts_id (ps : List (Int × Int)) (h : ps.length ≤ 1048576) : laws_toPartSS ps = some ps := by
  unfold laws_toPartSS
  rw [mkO_nat _ (by omega), Option.bind_some, copyLoop ps (fun x => x), map_self]
  · rfl
  · intro k hk ys hl
    (try dsimp only)
    unfold laws_toPartS
    rw [if_pos (lt_dec hk), geti_lt' hk, Option.bind_some, Option.bind_some, geti_any hl hk, Option.bind_some, wr_succ (n := ps.length) (by omega) hk]
    rfl
  · intro ys hl
    (try dsimp only)
    rw [if_neg (by simp)]
theorem toOrders_id (ps : List (Int × Int)) (h : ps.length ≤ 1048576) : laws_toOrderSS ps = some ps := by
  unfold laws_toOrderSS
  rw [mkO_nat _ (by omega), Option.bind_some, copyLoop ps (fun x => x), map_self]
  · rfl
  · intro k hk ys hl
    (try dsimp only)
    unfold laws_toOrderS
    rw [if_pos (lt_dec hk), geti_lt' hk, Option.bind_some, Option.bind_some, geti_any hl hk, Option.bind_some, wr_succ (n := ps.length) (by omega) hk]
    rfl
  · intro ys hl
    (try dsimp only)
    rw [if_neg (by simp)]
theorem toItems_id {xs : List HItem} (h : ItemsL xs) : laws_toItemSS xs = some xs := by
  have hl' := h.1
  unfold laws_toItemSS
  rw [mkO_nat _ (by omega), Option.bind_some, copyLoop xs (fun x => x), map_self]
  · rfl
  · intro k hk ys hl
    (try dsimp only)
    unfold laws_toItemS
    rw [if_pos (lt_dec hk), geti_lt' hk, Option.bind_some, toParts_id _ (h.2 _ (List.getElem_mem hk)), Option.bind_some, Option.bind_some, geti_any hl hk, Option.bind_some, wr_succ (n := xs.length) (by omega) hk]
    rfl
  · intro ys hl
    (try dsimp only)
    rw [if_neg (by simp)]
theorem toTables_id {xs : List HTab} (h : TabsL xs) : laws_toTableSS xs = some xs := by
  have hl' := h.1
  unfold laws_toTableSS
  rw [mkO_nat _ (by omega), Option.bind_some, copyLoop xs (fun x => x), map_self]
  · rfl
  · intro k hk ys hl
    have hm := h.2 _ (List.getElem_mem hk)
    (try dsimp only)
    unfold laws_toTableS
    rw [if_pos (lt_dec hk), geti_lt' hk, Option.bind_some, toOrders_id _ hm.1, Option.bind_some, toInts_id _ hm.2, Option.bind_some, Option.bind_some, geti_any hl hk, Option.bind_some, wr_succ (n := xs.length) (by omega) hk]
    rfl
  · intro ys hl
    (try dsimp only)
    rw [if_neg (by simp)]
theorem toHouse_id {it : List HItem} {pr st : List Int} (cash : Int) {tb : List HTab} (h : HouseL it pr st tb) : laws_toHouseS it pr st cash tb = some (it, pr, st, cash, tb) := by
  unfold laws_toHouseS
  rw [toItems_id h.1, Option.bind_some, toInts_id pr h.2.1, Option.bind_some, toInts_id st h.2.2.1, Option.bind_some, toTables_id h.2.2.2, Option.bind_some]
/-! ### comparison with itself -/
theorem allI_always {α : Type} (xs : List α) : allI xs (fun _ _ => true) = true := allI_true.2 fun _ _ => rfl
theorem eqInts_self (ps : List Int) (h : ps.length ≤ 1048576) : laws_eqIntSS ps ps = some true := by
  unfold laws_eqIntSS
  rw [if_neg (by simp), loopList ps (fun _ _ => true), allI_always]
  · rfl
  · intro k hk
    (try dsimp only)
    rw [if_pos (lt_dec hk), geti_lt' hk, Option.bind_some, Option.bind_some, if_neg (by simp), wr_succ (n := ps.length) (by omega) hk]
    rfl
  · (try dsimp only)
    rw [if_neg (by simp)]
theorem eqPart_self (a b : Int) : laws_eqPartS a b a b = some true := by unfold laws_eqPartS; simp
theorem eqOrder_self (a b : Int) : laws_eqOrderS a b a b = some true := by unfold laws_eqOrderS; simp
theorem eqParts_self (ps : List (Int × Int)) (h : ps.length ≤ 1048576) : laws_eqPartSS ps ps = some true := by
  unfold laws_eqPartSS
  rw [if_neg (by simp), loopList ps (fun _ _ => true), allI_always]
  · rfl
  · intro k hk
    (try dsimp only)
    rw [if_pos (lt_dec hk), geti_lt' hk, Option.bind_some, Option.bind_some, eqPart_self, Option.bind_some, if_neg (by simp), wr_succ (n := ps.length) (by omega) hk]
    rfl
  · (try dsimp only)
    rw [if_neg (by simp)]
theorem eqOrders_self (ps : List (Int × Int)) (h : ps.length ≤ 1048576) : laws_eqOrderSS ps ps = some true := by
  unfold laws_eqOrderSS
  rw [if_neg (by simp), loopList ps (fun _ _ => true), allI_always]
  · rfl
  · intro k hk
    (try dsimp only)
    rw [if_pos (lt_dec hk), geti_lt' hk, Option.bind_some, Option.bind_some, eqOrder_self, Option.bind_some, if_neg (by simp), wr_succ (n := ps.length) (by omega) hk]
    rfl
  · (try dsimp only)
    rw [if_neg (by simp)]
theorem eqItem_self (m : Int) (ps : List (Int × Int)) (g : Int) (h : ps.length ≤ 1048576) : laws_eqItemS m ps g m ps g = some true := by
  unfold laws_eqItemS
  rw [if_neg (by simp), eqParts_self ps h, Option.bind_some, if_neg (by simp), if_neg (by simp)]
theorem eqTable_self (a : Int) (os : List (Int × Int)) (ds : List Int) (h : os.length ≤ 1048576) (h' : ds.length ≤ 1048576) : laws_eqTableS a os ds a os ds = some true := by
  unfold laws_eqTableS
  rw [if_neg (by simp), eqOrders_self os h, Option.bind_some, if_neg (by simp), eqInts_self ds h', Option.bind_some, if_neg (by simp)]
theorem eqItems_self {xs : List HItem} (h : ItemsL xs) : laws_eqItemSS xs xs = some true := by
  have hl' := h.1
  unfold laws_eqItemSS
  rw [if_neg (by simp), loopList xs (fun _ _ => true), allI_always]
  · rfl
  · intro k hk
    (try dsimp only)
    rw [if_pos (lt_dec hk), geti_lt' hk, Option.bind_some, Option.bind_some, eqItem_self _ _ _ (h.2 _ (List.getElem_mem hk)), Option.bind_some, if_neg (by simp), wr_succ (n := xs.length) (by omega) hk]
    rfl
  · (try dsimp only)
    rw [if_neg (by simp)]
theorem eqTables_self {xs : List HTab} (h : TabsL xs) : laws_eqTableSS xs xs = some true := by
  have hl' := h.1
  unfold laws_eqTableSS
  rw [if_neg (by simp), loopList xs (fun _ _ => true), allI_always]
  · rfl
  · intro k hk
    have hm := h.2 _ (List.getElem_mem hk)
    (try dsimp only)
    rw [if_pos (lt_dec hk), geti_lt' hk, Option.bind_some, Option.bind_some, eqTable_self _ _ _ hm.1 hm.2, Option.bind_some, if_neg (by simp), wr_succ (n := xs.length) (by omega) hk]
    rfl
  · (try dsimp only)
    rw [if_neg (by simp)]
theorem eqHouse_self {it : List HItem} {pr st : List Int} (cash : Int) {tb : List HTab} (h : HouseL it pr st tb) : laws_eqHouseS it pr st cash tb it pr st cash tb = some true := by
  unfold laws_eqHouseS
  rw [eqItems_self h.1, Option.bind_some, if_neg (by simp), eqInts_self pr h.2.1, Option.bind_some, if_neg (by simp), eqInts_self st h.2.2.1, Option.bind_some, if_neg (by simp), if_neg (by simp), eqTables_self h.2.2.2, Option.bind_some, if_neg (by simp)]
theorem rhouse_of {it : List HItem} {pr st : List Int} {tb : List HTab} {I : HItem → Prop} {T : HTab → Prop} (h1 : it.length ≤ maxLen ∧ ∀ x ∈ it, I x) (hI : ∀ x, I x → x.2.1.length ≤ maxLen) (h2 : pr.length ≤ maxLen) (h3 : st.length ≤ maxLen) (h4 : tb.length ≤ maxLen ∧ ∀ x ∈ tb, T x) (hT : ∀ x, T x → x.2.1.length ≤ maxLen ∧ x.2.2.length ≤ maxLen) : RHouse it pr st tb :=
  ⟨⟨h1.1, fun x hx => hI x (h1.2 x hx)⟩, h2, h3, h4.1, fun t ht => hT t (h4.2 t ht)⟩
end Go.Proofs.YtcjkbcdlpfgbgaaGreatDoor
