/- The pieces of a text between the places of a byte: cut, split, joined. Own work; no program in sight. -/
import Derived.Test.YtcjkbcdlpfgbgaaDoorDeed
import Derived.Lib.IndexMore
import Derived.Lib.Split
set_option linter.unusedVariables false
namespace Go.Proofs.YtcjkbcdlpfgbgaaDoor
open Go Go.RowKit
def pieces (c : UInt8) : List UInt8 → List (List UInt8)
  | [] => [[]]
  | b :: l => if b = c then [] :: pieces c l else (b :: (pieces c l).head!) :: (pieces c l).tail
theorem pieces_eq (c b : UInt8) (l : List UInt8) : pieces c (b :: l) = if b = c then [] :: pieces c l else (b :: (pieces c l).head!) :: (pieces c l).tail := rfl
theorem pieces_ne (c : UInt8) : ∀ l, pieces c l ≠ []
  | [] => by simp [pieces]
  | b :: l => by rw [pieces_eq]; split <;> simp
theorem pieces_none {c : UInt8} : ∀ {l : List UInt8}, c ∉ l → pieces c l = [l]
  | [], _ => rfl
  | b :: l, h => by
    have h1 : ¬ b = c := fun e => h (e ▸ List.mem_cons_self)
    have h2 := pieces_none (l := l) (fun e => h (List.mem_cons_of_mem _ e))
    rw [pieces_eq, if_neg h1, h2]; rfl
theorem pieces_cons {c : UInt8} : ∀ {w : List UInt8} (l : List UInt8), c ∉ w → pieces c (w ++ c :: l) = w :: pieces c l
  | [], l, _ => by
    show pieces c (c :: l) = _
    rw [pieces_eq, if_pos rfl]
  | b :: w, l, h => by
    have h1 : ¬ b = c := fun e => h (e ▸ List.mem_cons_self)
    have h2 := pieces_cons (w := w) l (fun e => h (List.mem_cons_of_mem _ e))
    show pieces c (b :: (w ++ c :: l)) = _
    rw [pieces_eq, if_neg h1, h2]; rfl
def joinW (c : UInt8) : List (List UInt8) → List UInt8
  | [] => []
  | w :: ws => w ++ (ws.map (c :: ·)).flatten
theorem joinW_cons (c : UInt8) (w w2 : List UInt8) (ws : List (List UInt8)) : joinW c (w :: w2 :: ws) = w ++ c :: joinW c (w2 :: ws) := by simp [joinW]
theorem pieces_join {c : UInt8} : ∀ {ws : List (List UInt8)}, ws ≠ [] → (∀ w ∈ ws, c ∉ w) → pieces c (joinW c ws) = ws
  | [], h, _ => absurd rfl h
  | [w], _, h => by
    have := pieces_none (h w (by simp))
    simpa [joinW] using this
  | w :: w2 :: ws, _, h => by
    rw [joinW_cons, pieces_cons _ (h w (by simp)), pieces_join (by simp) (fun x hx => h x (by simp at hx ⊢; exact .inr hx))]
theorem join_pieces (c : UInt8) : ∀ l, joinW c (pieces c l) = l
  | [] => rfl
  | b :: l => by
    have ih := join_pieces c l
    have hne := pieces_ne c l
    rw [pieces_eq]
    generalize pieces c l = p at ih hne
    cases p with
    | nil => exact absurd rfl hne
    | cons w ws =>
      split
      · rename_i h
        rw [joinW_cons, ih, h]; rfl
      · show joinW c ((b :: w) :: ws) = _
        rw [← ih]; rfl
theorem pieces_mem {c : UInt8} : ∀ {l w : List UInt8}, w ∈ pieces c l → c ∉ w
  | [], w, h => by simp [pieces] at h; rw [h]; simp
  | b :: l, w, h => by
    have hne := pieces_ne c l
    have ih := fun w (h : w ∈ pieces c l) => pieces_mem (w := w) h
    rw [pieces_eq] at h
    generalize pieces c l = p at ih hne h
    cases p with
    | nil => exact absurd rfl hne
    | cons v vs =>
      split at h
      · rcases List.mem_cons.1 h with rfl | h
        · simp
        · exact ih w h
      · rename_i hb
        rcases List.mem_cons.1 h with rfl | h
        · intro hc
          rcases List.mem_cons.1 hc with hc | hc
          · exact hb hc.symm
          · exact ih v (by simp) hc
        · exact ih w (by simp at h ⊢; exact .inr h)
theorem pieces_length (c : UInt8) : ∀ l, (pieces c l).length ≤ l.length + 1
  | [] => by simp [pieces]
  | b :: l => by
    have ih := pieces_length c l
    rw [pieces_eq]
    split
    · simp; omega
    · simp; omega
/-! ### the library's Split -/
theorem indexByte_pieces (c : UInt8) : ∀ s : List UInt8, (Lib.indexByte s c = -1 ∧ pieces c s = [s]) ∨ ∃ i : Nat, Lib.indexByte s c = i ∧ i < s.length ∧ pieces c s = s.take i :: pieces c (s.drop (i + 1))
  | [] => .inl ⟨rfl, rfl⟩
  | b :: l => by
    rw [pieces_eq]
    unfold Lib.indexByte
    by_cases hb : b = c
    · rw [if_pos (by simpa using hb), if_pos hb]
      exact .inr ⟨0, rfl, by simp, by simp⟩
    · rw [if_neg (by simpa using hb), if_neg hb]
      rcases indexByte_pieces c l with ⟨h1, h2⟩ | ⟨i, h1, h2, h3⟩
      · left
        rw [h1, h2]; exact ⟨rfl, rfl⟩
      · right
        refine ⟨i + 1, ?_, by simp; omega, ?_⟩
        · rw [h1, if_neg (by simp)]; omega
        · rw [h3]; rfl
theorem splitK_pieces (c : UInt8) : ∀ (fuel : Nat) (s : List UInt8), s.length < fuel → Lib.splitK [c] 0 (Lib.countFrom [c] fuel s) s = pieces c s
  | 0, s, h => by omega
  | fuel + 1, s, h => by
    unfold Lib.countFrom
    rw [Lib.index_one]
    rcases indexByte_pieces c s with ⟨h1, h2⟩ | ⟨i, h1, h2, h3⟩
    · rw [h1, if_pos (by rfl), h2]; rfl
    · rw [h1, if_neg (by simp)]
      have hi : ((i : Nat) : Int).toNat = i := rfl
      rw [hi, Nat.add_comm 1]
      unfold Lib.splitK
      rw [Lib.index_one, h1, if_neg (by simp), hi, h3]
      have := splitK_pieces c fuel (s.drop (i + 1)) (by simp; omega)
      simp only [List.length_cons, List.length_nil, Nat.zero_add, Nat.add_zero]
      rw [this]
theorem split_eq (s : List UInt8) (c : UInt8) (h : s.length < 4294967281) : strings_SplitS s [c] = some (pieces c s) := by
  unfold strings_SplitS
  rw [if_pos ⟨h, by simp⟩, Lib.splitB_data]
  congr 1
  exact splitK_pieces c (s.length + 1) s (by omega)
/-! ### the specification's cut -/
theorem take_drop_mem {α : Type} {s : List α} {c : α} {i k : Nat} (h : ∀ j (hj : j < s.length), i ≤ j → j < k → s[j] ≠ c) : c ∉ (s.take k).drop i := by
  intro hm
  obtain ⟨j, hj, he⟩ := List.mem_drop_iff_getElem.1 hm
  simp only [List.length_take] at hj
  have := h (i + j) (by omega) (by omega) (by omega)
  simp at he
  exact this he
theorem byteAt_lt {s : List UInt8} {k : Nat} (h : k < s.length) : byteAt s (k : Int) = some (((s[k]).toNat : Nat) : Int) := by
  unfold byteAt; rw [geti_lt' h]; rfl
theorem byte_eq (b c : UInt8) : ((((b.toNat : Nat) : Int)) == ((c.toNat : Nat) : Int)) = decide (b = c) := by
  rw [Bool.eq_iff_iff, beq_iff_eq, decide_eq_true_eq]
  constructor
  · intro h
    exact UInt8.toNat_inj.1 (by omega)
  · rintro rfl; rfl
theorem cut_eq (s : List UInt8) (c : UInt8) (h : s.length ≤ 1048576) : spec_l1CutS s ((c.toNat : Nat) : Int) = some (pieces c s) := by
  unfold spec_l1CutS
  refine Ret.eq (Ret.loopb (fun t => ∃ (out : List (List UInt8)) (i k : Nat), t = (out, (i : Int), (k : Int)) ∧ i ≤ k ∧ k ≤ s.length ∧ out.length ≤ k ∧ pieces c s = out ++ pieces c (s.drop i) ∧ ∀ j (hj : j < s.length), i ≤ j → j < k → s[j] ≠ c) (fun t => s.length - t.2.2.toNat)
    (fun r => ∃ (out : List (List UInt8)) (i : Nat), r = (out, (i : Int)) ∧ i ≤ s.length ∧ out.length ≤ s.length ∧ pieces c s = out ++ [s.drop i]) ⟨[], 0, 0, rfl, by omega, by omega, by simp, by simp, fun j hj h1 h2 => by omega⟩ ?_ ?_)
  · rintro t ⟨out, i, k, rfl, hik, hks, hol, hp, hno⟩
    (try dsimp only)
    by_cases hk : k < s.length
    · rw [if_pos (lt_dec hk), byteAt_lt hk, Option.bind_some, byte_eq, wr_succ (n := s.length) (by omega) hk]
      by_cases hc : s[k] = c
      · rw [decide_eq_true hc, if_pos rfl]
        have hs : subO s (i : Int) (k : Int) = some ((s.take k).drop i) := by
          unfold subO; rw [if_pos (by simp; omega)]; simp
        rw [hs, Option.bind_some, appO_le (by simp; omega), Option.bind_some]
        refine Ret.pure ⟨⟨_, k + 1, k + 1, rfl, by omega, by omega, by simp; omega, ?_, fun j hj h1 h2 => by omega⟩, by dsimp only; omega⟩
        have e : s.drop i = (s.take k).drop i ++ c :: s.drop (k + 1) := by
          have e1 : s = s.take k ++ c :: s.drop (k + 1) := by
            rw [← hc]
            have := List.take_append_drop k s
            rw [List.drop_eq_getElem_cons hk] at this
            exact this.symm
          conv => lhs; rw [e1]
          rw [List.drop_append_of_le_length (by simp; omega)]
        rw [hp, e, pieces_cons _ (take_drop_mem hno)]
        simp
      · rw [decide_eq_false hc, if_neg (by simp)]
        refine Ret.pure ⟨⟨out, i, k + 1, rfl, by omega, by omega, by omega, hp, fun j hj h1 h2 => ?_⟩, by dsimp only; omega⟩
        rcases Nat.lt_or_ge j k with h3 | h3
        · exact hno j hj h1 h3
        · have : j = k := by omega
          subst this; exact hc
    · have : k = s.length := by omega
      subst this
      rw [if_neg (by simp)]
      refine Ret.pure ⟨out, i, rfl, by omega, hol, ?_⟩
      have := take_drop_mem hno
      rw [List.take_length] at this
      rw [hp, pieces_none this]
  · rintro r ⟨out, i, rfl, hi, hol, hp⟩
    (try dsimp only)
    have hs : subO s (i : Int) (s.length : Int) = some (s.drop i) := by
      unfold subO; rw [if_pos (by simp; omega)]; simp
    rw [hs, Option.bind_some, appO_le (by simp; omega), Option.bind_some]
    exact Ret.pure hp.symm
end Go.Proofs.YtcjkbcdlpfgbgaaDoor
