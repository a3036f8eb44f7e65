/- HouseRun of both sides is the run of deeds. Own work; no program in sight. -/
import Derived.Test.YtpabogkcmbkffaaGreatDoorGo
set_option linter.unusedVariables false
namespace Go.Proofs.YtpabogkcmbkffaaGreatDoor
open Go Go.RowKit
theorem implRun_eq {h : HH} (hL : HL h) (xs : List HDeed) (hx : xs.length ≤ 1048576) : impl_HouseRunS h.1 h.2.1 h.2.2.1 h.2.2.2.1 h.2.2.2.2 xs = some (goR h xs) := by
  obtain ⟨it, pr, st, cash, tb⟩ := h
  have e0 : goZ (xs.take 0) (it, pr, st, cash, tb) = ((it, pr, st, cash, tb), 0) := rfl
  show impl_HouseRunS it pr st cash tb xs = _
  unfold impl_HouseRunS goR
  rw [implHouse_eq _ hL, Option.bind_some]
  by_cases hv : hB (it, pr, st, cash, tb) = true
  · have hv' : houseB it pr st cash tb = true := hv
    rw [if_neg (by rw [hv']; simp), if_pos hv, implCopyH_id _ hL, Option.bind_some, loopDet (s := ((0 : Int), (0 : Int), it, pr, st, cash, tb)) (fun k => (((goZ (xs.take k) (it, pr, st, cash, tb)).2 : Int), (k : Int), (goZ (xs.take k) (it, pr, st, cash, tb)).1)) xs.length (((goZ xs (it, pr, st, cash, tb)).2 : Int), (goZ xs (it, pr, st, cash, tb)).1) (by rw [e0]; rfl)]
    · rfl
    · intro k hk
      have hk' := goZ_all hL hv (xs.take k)
      (try dsimp only)
      rw [if_pos (lt_dec hk), geti_lt' hk, Option.bind_some, implDo_eq hk'.1, Option.bind_some, wr_succ (n := xs.length) (by omega) hk]
      exact go_step hL hv hx hk (fun n s => (some (.inl (n, ((k + 1 : Nat) : Int), s)) : Option ((Int × Int × HH) ⊕ (Int × HH))))
    · (try dsimp only)
      rw [if_neg (by simp), List.take_of_length_le (Nat.le_refl _)]
  · have hv' : ¬ houseB it pr st cash tb = true := hv
    rw [if_pos (by simpa using hv'), if_neg hv]
theorem specRun_eq {h : HH} (hL : HL h) (xs : List HDeed) (hx : xs.length ≤ 1048576) : spec_HouseRunS h.1 h.2.1 h.2.2.1 h.2.2.2.1 h.2.2.2.2 xs = some (goR h xs) := by
  obtain ⟨it, pr, st, cash, tb⟩ := h
  have e0 : goZ (xs.take 0) (it, pr, st, cash, tb) = ((it, pr, st, cash, tb), 0) := rfl
  show spec_HouseRunS it pr st cash tb xs = _
  unfold spec_HouseRunS goR
  rw [specHouse_eq _ hL, Option.bind_some]
  by_cases hv : hB (it, pr, st, cash, tb) = true
  · have hv' : houseB it pr st cash tb = true := hv
    rw [if_neg (by rw [hv']; simp), if_pos hv, specCopyH_id _ hL, Option.bind_some, loopDet (s := ((0 : Int), (0 : Int), it, pr, st, cash, tb)) (fun k => (((goZ (xs.take k) (it, pr, st, cash, tb)).2 : Int), (k : Int), (goZ (xs.take k) (it, pr, st, cash, tb)).1)) xs.length (((goZ xs (it, pr, st, cash, tb)).2 : Int), (goZ xs (it, pr, st, cash, tb)).1) (by rw [e0]; rfl)]
    · rfl
    · intro k hk
      have hk' := goZ_all hL hv (xs.take k)
      (try dsimp only)
      rw [if_pos (lt_dec hk), geti_lt' hk, Option.bind_some, specDo_eq hk'.1, Option.bind_some, wr_succ (n := xs.length) (by omega) hk]
      have := go_step hL hv hx hk (fun n s => (some (.inl (n, ((k + 1 : Nat) : Int), s)) : Option ((Int × Int × HH) ⊕ (Int × HH))))
      refine Eq.trans ?_ this
      by_cases hb : (stepZ (goZ (xs.take k) (it, pr, st, cash, tb)).1 xs[k]).2 = true
      · rw [if_pos hb]; exact if_pos hb
      · rw [if_neg hb, (stepZ_cases hk'.2.1 xs[k]).2 (by simpa using hb)]; exact if_neg hb
    · (try dsimp only)
      rw [if_neg (by simp), List.take_of_length_le (Nat.le_refl _)]
  · have hv' : ¬ houseB it pr st cash tb = true := hv
    rw [if_pos (by simpa using hv'), if_neg hv]
end Go.Proofs.YtpabogkcmbkffaaGreatDoor
