/- Deeds that are read. Own work; no program in sight. -/
import Derived.Test.YtcjkbcdlpfgbgaaDoorNum2
set_option linter.unusedVariables false
namespace Go.Proofs.YtcjkbcdlpfgbgaaDoor
open Go Go.RowKit
def rd (w : List UInt8) : Int := if IsNum 5 w then ((val w : Nat) : Int) else -1
def rdAt (tl : List (List UInt8)) (i : Nat) : Int := match tl[i]? with | some w => rd w | none => 0
theorem rdAt_lt {tl : List (List UInt8)} {i : Nat} (h : i < tl.length) : rdAt tl i = rd tl[i] := by unfold rdAt; rw [List.getElem?_eq_getElem h]
def Lto (tl : List (List UInt8)) (j : Nat) : List Int := [if 0 < j then rdAt tl 0 else 0, if 1 < j then rdAt tl 1 else 0, if 2 < j then rdAt tl 2 else 0]
theorem Lto_set {tl : List (List UInt8)} {j : Nat} (h : j < 3) : (Lto tl j).set j (rdAt tl j) = Lto tl (j + 1) := by
  have hc : j = 0 ∨ j = 1 ∨ j = 2 := by omega
  rcases hc with rfl | rfl | rfl <;> rfl
theorem Lto_get {tl : List (List UInt8)} {j i : Nat} (h : i < 3) : (Lto tl j).getD i 0 = if i < j then rdAt tl i else 0 := by
  have hc : i = 0 ∨ i = 1 ∨ i = 2 := by omega
  rcases hc with rfl | rfl | rfl <;> rfl
theorem Lto_len (tl : List (List UInt8)) (j : Nat) : (Lto tl j).length = 3 := rfl
def nameAt (k : Nat) : List UInt8 := deedNames.getD k []
def kdTo (hd : List UInt8) : Nat → Int
  | 0 => -1
  | k + 1 => if hd = nameAt k then (k : Int) else kdTo hd k
theorem names_ne : ∀ i, i < 6 → ∀ j, j < 6 → nameAt i = nameAt j → i = j := by decide
theorem kdTo_hit {hd : List UInt8} : ∀ {n k : Nat}, k < n → n ≤ 6 → hd = nameAt k → kdTo hd n = (k : Int)
  | n + 1, k, h, hn, he => by
    unfold kdTo
    by_cases h1 : hd = nameAt n
    · rw [if_pos h1]
      have := names_ne k (by omega) n (by omega) (he ▸ h1)
      rw [this]
    · rw [if_neg h1]
      have : k ≠ n := fun e => h1 (e ▸ he)
      exact kdTo_hit (by omega) (by omega) he
theorem kdTo_back {hd : List UInt8} : ∀ {n : Nat}, kdTo hd n = -1 ∨ ∃ k, k < n ∧ kdTo hd n = (k : Int) ∧ hd = nameAt k
  | 0 => .inl rfl
  | n + 1 => by
    unfold kdTo
    by_cases h1 : hd = nameAt n
    · rw [if_pos h1]; exact .inr ⟨n, by omega, rfl, h1⟩
    · rw [if_neg h1]
      rcases kdTo_back (hd := hd) (n := n) with h | ⟨k, h2, h3, h4⟩
      · exact .inl h
      · exact .inr ⟨k, by omega, h3, h4⟩
/-- what the specification reads -/
def readS (s : List UInt8) : (Int × Int × Int × Int) × Bool :=
  let hd := (pieces 32 s).head!; let tl := (pieces 32 s).tail; let L := Lto tl (min 3 tl.length); let kd := kdTo hd 6
  if s = [] ∨ kindText kd (L.getD 0 0) (L.getD 1 0) (L.getD 2 0) ≠ s then ((0, 0, 0, 0), false) else ((kd, L.getD 0 0, L.getD 1 0, L.getD 2 0), true)
theorem name_geti {k : Nat} (h : k < 6) : geti deedNames (k : Int) = some (nameAt k) := by
  have hl : k < deedNames.length := h
  rw [geti_lt' hl]
  unfold nameAt
  rw [List.getD_eq_getElem?_getD, List.getElem?_eq_getElem hl]; rfl
theorem specRead_eq (s : List UInt8) (h : s.length ≤ 1048576) : spec_ReadDeedS s = some (readS s) := by
  unfold spec_ReadDeedS readS
  have hc := cut_eq s 32 h
  rw [show (((32 : UInt8).toNat : Nat) : Int) = 32 from rfl] at hc
  rw [hc, Option.bind_some]
  have hpl := pieces_length 32 s
  have hne := pieces_ne 32 s
  generalize pieces 32 s = W at hpl hne ⊢
  cases W with
  | nil => exact absurd rfl hne
  | cons hd tl =>
    rw [loopDet (s := ((0 : Int), (-1 : Int))) (fun k => ((k : Int), kdTo hd k)) 6 (kdTo hd 6) rfl]
    · rw [Option.bind_some]
      dsimp only [List.head!, List.tail_cons]
      rw [loopDet (s := ((1 : Int), [0, 0, 0])) (fun j => (((j + 1 : Nat) : Int), Lto tl j)) (min 3 tl.length) (Lto tl (min 3 tl.length)) rfl]
      · rw [Option.bind_some]
        have hL := Lto_len tl (min 3 tl.length)
        generalize Lto tl (min 3 tl.length) = L at hL ⊢
        have g0 : geti L 0 = some (L.getD 0 0) := geti_getD (k := 0) (by omega)
        have g1 : geti L 1 = some (L.getD 1 0) := geti_getD (k := 1) (by omega)
        have g2 : geti L 2 = some (L.getD 2 0) := geti_getD (k := 2) (by omega)
        rw [g0, Option.bind_some, g1, Option.bind_some, g2, Option.bind_some, specDeed_eq, Option.bind_some]
        by_cases hs : s = []
        · rw [if_pos (by simpa using hs), Option.bind_some, if_pos rfl, if_pos (.inl hs)]
        · rw [if_neg (by simpa using hs), Option.bind_some]
          by_cases ht : kindText (kdTo hd 6) (L.getD 0 0) (L.getD 1 0) (L.getD 2 0) = s
          · rw [if_neg (by rw [ht]; simp), if_neg (by rintro (h | h); exact hs h; exact h ht)]
          · rw [if_pos (by simpa using ht), if_pos (.inr ht)]
      · intro j hj
        (try dsimp only)
        have hl : (hd :: tl).length = tl.length + 1 := rfl
        have hjl : j < tl.length := by omega
        rw [if_pos (by simp; omega), show geti (hd :: tl) ((j + 1 : Nat) : Int) = some tl[j] by rw [geti_nat]; simp [hjl], Option.bind_some, read_eq, Option.bind_some]
        rw [wr (x := ((j + 1 : Nat) : Int) - 1) ⟨by omega, by omega⟩, show ((j + 1 : Nat) : Int) - 1 = (j : Int) by omega, geti_getD (by rw [Lto_len]; omega), Option.bind_some, wr_succ (n := 1000000) (k := j + 1) (by omega) (by omega)]
        have := Lto_set (tl := tl) (j := j) (by omega)
        rw [rdAt_lt hjl] at this
        rw [← this]
        rfl
      · (try dsimp only)
        rw [if_neg]
        simp
        omega
    · intro k hk
      (try dsimp only)
      rw [if_pos (by simp; omega), show geti (hd :: tl) 0 = some hd from rfl, Option.bind_some, specName_eq hk, name_geti hk, Option.bind_some, wr_succ (n := 6) (by omega) hk]
      rw [show kdTo hd (k + 1) = if hd = nameAt k then (k : Int) else kdTo hd k from rfl]
      by_cases he : hd = nameAt k
      · rw [if_pos (by simpa using he), if_pos he]
      · rw [if_neg (by simpa using he), if_neg he]
    · rfl
/-! ### the program's reading -/
theorem firstOf_none {ρ : Type} {p : Nat → Option ρ} : ∀ {n k : Nat}, (∀ j, k ≤ j → j < k + n → p j = none) → firstOf p k n = none
  | 0, _, _ => rfl
  | n + 1, k, h => by
    unfold firstOf
    rw [h k (by omega) (by omega)]
    exact firstOf_none fun j h1 h2 => h j (by omega) (by omega)
theorem firstOf_one {ρ : Type} {p : Nat → Option ρ} : ∀ {n k i : Nat}, k ≤ i → i < k + n → (∀ j, k ≤ j → j < k + n → j ≠ i → p j = none) → firstOf p k n = p i
  | 0, _, _, h1, h2, _ => by omega
  | n + 1, k, i, h1, h2, h => by
    unfold firstOf
    by_cases hk : k = i
    · subst hk
      cases hp : p k with
      | none => exact firstOf_none fun j h3 h4 => h j (by omega) (by omega) (by omega)
      | some r => rfl
    · rw [h k (by omega) (by omega) hk]
      exact firstOf_one (by omega) (by omega) fun j h3 h4 h5 => h j (by omega) (by omega) h5
def numAt (k : Nat) : Nat := (deedNumbers.getD k 0).toNat
theorem num_geti {k : Nat} (h : k < 6) : geti deedNumbers (k : Int) = some ((numAt k : Nat) : Int) ∧ numAt k ≤ 3 := by
  have hc : k = 0 ∨ k = 1 ∨ k = 2 ∨ k = 3 ∨ k = 4 ∨ k = 5 := by omega
  rcases hc with rfl | rfl | rfl | rfl | rfl | rfl <;> exact ⟨rfl, by decide⟩
/-- what the program reads -/
def okWords (hd : List UInt8) (tl : List (List UInt8)) (k : Nat) : Prop := hd = nameAt k ∧ tl.length = numAt k
instance (hd : List UInt8) (tl : List (List UInt8)) (k : Nat) : Decidable (okWords hd tl k) := inferInstanceAs (Decidable (_ ∧ _))
theorem isNum35 {w : List UInt8} (h : IsNum 3 w) : IsNum 5 w := ⟨⟨h.1.1, by have := h.1.2; omega⟩, h.2⟩
theorem innerLoop (tl : List (List UInt8)) (h3 : tl.length ≤ 3) {step : Int × Int × Int × Int × Int × List Int → Option ((Int × Int × Int × Int × Int × List Int) ⊕ ((Int × Int × Int × Int × List Int) ⊕ (Bool × Int × Int × Int × Int × List Int)))}
    (hs : ∀ j (hj : j < tl.length) (L : List Int), L.length = 3 → step ((j : Int), 0, 0, 0, 0, L) = some (if IsNum 3 tl[j] then .inl (((j + 1 : Nat) : Int), 0, 0, 0, 0, L.set j ((val tl[j] : Nat) : Int)) else .inr (.inr (false, 0, 0, 0, 0, L))))
    (he : ∀ L, step ((tl.length : Int), 0, 0, 0, 0, L) = some (.inr (.inl (0, 0, 0, 0, L)))) :
    Ret (loop (σ := Int × Int × Int × Int × Int × List Int) (ρ := (Int × Int × Int × Int × List Int) ⊕ (Bool × Int × Int × Int × Int × List Int)) step (0, 0, 0, 0, 0, [0, 0, 0])) (fun r =>
      (r = .inl (0, 0, 0, 0, Lto tl tl.length) ∧ ∀ w ∈ tl, IsNum 3 w) ∨ ((∃ L, r = .inr (false, 0, 0, 0, 0, L)) ∧ ¬ ∀ w ∈ tl, IsNum 3 w)) := by
  refine Ret.loop (fun s => ∃ j : Nat, s = ((j : Int), 0, 0, 0, 0, Lto tl j) ∧ j ≤ tl.length ∧ ∀ i (hi : i < tl.length), i < j → IsNum 3 tl[i]) (fun s => tl.length - s.1.toNat) ⟨0, rfl, by omega, fun i hi h => by omega⟩ ?_
  rintro s ⟨j, rfl, hj, hp⟩
  by_cases hjl : j < tl.length
  · rw [hs j hjl _ (Lto_len _ _)]
    by_cases hn : IsNum 3 tl[j]
    · rw [if_pos hn]
      have := Lto_set (tl := tl) (j := j) (by omega)
      rw [rdAt_lt hjl, rd, if_pos (isNum35 hn)] at this
      rw [this]
      refine Ret.pure ⟨⟨j + 1, rfl, by omega, fun i hi h => ?_⟩, by dsimp only; omega⟩
      rcases Nat.lt_or_ge i j with h1 | h1
      · exact hp i hi h1
      · have : i = j := by omega
        subst this; exact hn
    · rw [if_neg hn]
      exact Ret.pure (.inr ⟨⟨_, rfl⟩, fun h => hn (h _ (List.getElem_mem hjl))⟩)
  · have : j = tl.length := by omega
    subst this
    rw [he]
    refine Ret.pure (.inl ⟨rfl, fun w hw => ?_⟩)
    obtain ⟨i, hi, rfl⟩ := List.mem_iff_getElem.1 hw
    exact hp i hi hi
def hdOf (s : List UInt8) : List UInt8 := (pieces 32 s).head!
def tlOf (s : List UInt8) : List (List UInt8) := (pieces 32 s).tail
def Fits (s : List UInt8) (k : Nat) : Prop := okWords (hdOf s) (tlOf s) k ∧ ∀ w ∈ tlOf s, IsNum 3 w
theorem implRead (s : List UInt8) (h : s.length ≤ 1048576) : Ret (impl_ReadDeedS s) (fun r => (∃ k, k < 6 ∧ Fits s k ∧ r = (((k : Int), (Lto (tlOf s) (tlOf s).length).getD 0 0, (Lto (tlOf s) (tlOf s).length).getD 1 0, (Lto (tlOf s) (tlOf s).length).getD 2 0), true)) ∨ (r = ((0, 0, 0, 0), false) ∧ ∀ k, k < 6 → ¬ Fits s k)) := by
  unfold impl_ReadDeedS Fits hdOf tlOf
  rw [split_eq s 32 (by omega), Option.bind_some]
  have hpl := pieces_length 32 s
  have hne := pieces_ne 32 s
  generalize pieces 32 s = W at hpl hne ⊢
  cases W with
  | nil => exact absurd rfl hne
  | cons hd tl =>
    dsimp only [List.head!, List.tail_cons]
    have hWl : (hd :: tl).length = tl.length + 1 := rfl
    refine Ret.loopb (fun t => ∃ k : Nat, t = ((k : Int), 0, 0, 0, 0) ∧ k ≤ 6 ∧ ∀ j, j < k → ¬ okWords hd tl j) (fun t => 6 - t.1.toNat)
      (fun r => (r = .inl (0, 0, 0, 0) ∧ ∀ j, j < 6 → ¬ okWords hd tl j) ∨ ∃ k, k < 6 ∧ okWords hd tl k ∧ (((∀ w ∈ tl, IsNum 3 w) ∧ r = .inr (true, (k : Int), (Lto tl tl.length).getD 0 0, (Lto tl tl.length).getD 1 0, (Lto tl tl.length).getD 2 0)) ∨ ((¬ ∀ w ∈ tl, IsNum 3 w) ∧ r = .inr (false, 0, 0, 0, 0))))
      ⟨0, rfl, by omega, fun j hj => by omega⟩ ?_ ?_
    · rintro t ⟨k, rfl, hk6, hno⟩
      (try dsimp only)
      by_cases hk : k < 6
      · obtain ⟨hng, hn3⟩ := num_geti hk
        rw [if_pos (by simp; omega), name_geti hk, Option.bind_some, show geti (hd :: tl) 0 = some hd from rfl, Option.bind_some, hng, Option.bind_some, wr_succ (n := 6) (by omega) hk, wr (x := 1 + ((numAt k : Nat) : Int)) ⟨by omega, by omega⟩]
        have next : ¬ okWords hd tl k → ∀ j, j < k + 1 → ¬ okWords hd tl j := by
          intro hw j hj
          rcases Nat.lt_or_ge j k with h1 | h1
          · exact hno j h1
          · have : j = k := by omega
            subst this; exact hw
        by_cases hh : hd = nameAt k
        · rw [if_neg (by simpa using hh)]
          by_cases hl : tl.length = numAt k
          · have hw : okWords hd tl k := ⟨hh, hl⟩
            have hb : (((hd :: tl).length : Int) != 1 + ((numAt k : Nat) : Int)) = false := by
              rw [hWl]; simp; omega
            rw [hb, Option.bind_some, if_neg (by simp)]
            have hs : subO (hd :: tl) 1 ((hd :: tl).length : Int) = some tl := by
              unfold subO
              rw [if_pos (by simp; omega)]
              simp
            rw [hs, Option.bind_some]
            refine Ret.bind (innerLoop tl (by omega) ?_ ?_) (fun r hr => ?_)
            · intro j hj L hL
              (try dsimp only)
              rw [if_pos (lt_dec hj), geti_lt' hj, Option.bind_some, readNumber_eq, Option.bind_some, wr_succ (n := tl.length) (by omega) hj]
              by_cases hn : IsNum 3 tl[j]
              · rw [if_pos hn, if_pos hn, if_neg (by simp), geti_getD (by omega), Option.bind_some]
                rfl
              · rw [if_neg hn, if_neg hn]; rfl
            · intro L
              (try dsimp only)
              rw [if_neg (by simp)]
            · rcases hr with ⟨rfl, hall⟩ | ⟨⟨L, rfl⟩, hall⟩
              · (try dsimp only)
                have hL := Lto_len tl tl.length
                generalize Lto tl tl.length = L at hL ⊢
                have g0 : geti L 0 = some (L.getD 0 0) := geti_getD (k := 0) (by omega)
                have g1 : geti L 1 = some (L.getD 1 0) := geti_getD (k := 1) (by omega)
                have g2 : geti L 2 = some (L.getD 2 0) := geti_getD (k := 2) (by omega)
                rw [g0, Option.bind_some, g1, Option.bind_some, g2, Option.bind_some]
                exact Ret.pure (.inr ⟨k, hk, hw, .inl ⟨hall, rfl⟩⟩)
              · exact Ret.pure (.inr ⟨k, hk, hw, .inr ⟨hall, rfl⟩⟩)
          · have hb : (((hd :: tl).length : Int) != 1 + ((numAt k : Nat) : Int)) = true := by
              rw [hWl]; simp; omega
            rw [hb, Option.bind_some, if_pos rfl]
            exact Ret.pure ⟨⟨k + 1, rfl, by omega, next fun hw => hl hw.2⟩, by dsimp only; omega⟩
        · rw [if_pos (by simpa using hh), Option.bind_some, if_pos rfl]
          exact Ret.pure ⟨⟨k + 1, rfl, by omega, next fun hw => hh hw.1⟩, by dsimp only; omega⟩
      · have : k = 6 := by omega
        subst this
        rw [if_neg (by simp)]
        exact Ret.pure (.inl ⟨rfl, hno⟩)
    · rintro r hr
      rcases hr with ⟨rfl, hno⟩ | ⟨k, hk, hw, ⟨hall, rfl⟩ | ⟨hall, rfl⟩⟩
      · exact Ret.pure (.inr ⟨rfl, fun k hk hf => hno k hk hf.1⟩)
      · exact Ret.pure (.inl ⟨k, hk, ⟨hw, hall⟩, rfl⟩)
      · exact Ret.pure (.inr ⟨rfl, fun k _ hf => hall hf.2⟩)
end Go.Proofs.YtcjkbcdlpfgbgaaDoor
