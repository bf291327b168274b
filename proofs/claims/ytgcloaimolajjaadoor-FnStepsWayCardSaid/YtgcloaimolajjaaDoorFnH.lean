/- Contracts of the laws' own helpers: sameInts, sameSteps, hasInt, ascend, start, end. -/
import Derived.Test.YtgcloaimolajjaaDoorFnP
import Derived.Test.YtgcloaimolajjaaDoorLawSt
import Derived.Test.YtgcloaimolajjaaDoorDoor
namespace Go.Proofs.YtgcloaimolajjaaDoor
open Go.RowKit
set_option linter.all false
theorem LegsAt.tail {w : World} {b off : Nat} {q : Lg} {L : List Lg} (h : LegsAt w (some ⟨b, off, none⟩) (q :: L)) : LegsAt w (some ⟨b, off + 5, none⟩) L := fun _ => by
  obtain ⟨b', off', e, hb, hc⟩ := h (by simp)
  simp only [Option.some.injEq, Addr.mk.injEq, and_true] at e
  obtain ⟨rfl, rfl⟩ := e
  refine ⟨b, off + 5, rfl, hb, fun k g hk => ?_⟩
  have := hc (k + 1) g (by simpa using hk)
  rw [show off + (k + 1) * 5 = off + 5 + k * 5 by omega] at this
  exact this
theorem LegsAt.take {w : World} {A : Option Addr} {L : List Lg} (h : LegsAt w A L) (m : Nat) : LegsAt w A (L.take m) := fun hne => by
  obtain ⟨b, off, e, hb, hc⟩ := h (by rintro rfl; simp at hne)
  refine ⟨b, off, e, hb, fun k g hk => hc k g ?_⟩
  rw [List.getElem?_take] at hk
  split at hk
  · exact hk
  · cases hk
theorem LegsAt.nil {w : World} {A : Option Addr} : LegsAt w A [] := fun h => absurd rfl h
set_option maxHeartbeats 1000000 in
theorem sameInts_same (A B : Option Addr) (ca cb : Nat) (l : List Int) (w : World) (hA : IntsAt w A l) (hB : IntsAt w B l) (hm : l.length ≤ 1000) :
    Calls Tryd.prog 21 #[.slice A l.length ca, .slice B l.length cb] w fun r w' => r = .returned (.bool true) ∧ New w w' := by
  go_enter Tryd.func21, Tryd.ntmps21
  go_wp2_with fail
  go_loopw [5] (fun i wr => ∃ k : Nat, k ≤ l.length ∧ i = .int .i64 k ∧ New w wr) (fun i _ => l.length - (intOf i).toNat)
  case atStart => exact ⟨0, Nat.zero_le _, rfl, New.refl _⟩
  case round =>
    obtain ⟨k, hk, rfl, hw⟩ := hrel
    by_cases hlt : k < l.length
    · obtain ⟨b, off, y, hAe, hy, hc⟩ := (hA.keep hw).at_ hlt
      obtain ⟨b2, off2, y2, hBe, hy2, hc2⟩ := (hB.keep hw).at_ hlt
      obtain rfl : y = y2 := hy.symm.trans hy2
      have hk0 : (0 : Int) ≤ (k : Int) := by omega
      have hk1 : (k : Int) < (l.length : Int) := by omega
      have t1 : (y != y) = false := by simp
      subst hAe
      subst hBe
      clear hy hy2
      go_wp2_with fail
      go_quiet (fail)
      go_wp2_with fail
      go_roundw
      case rel => exact ⟨k + 1, by omega, by go_num, hw.trans (by repeat (first | with_reducible exact New.refl _ | with_reducible assumption | with_reducible refine New.alloc ?_ _ | with_reducible refine New.drewN ?_ _ | with_reducible refine New.drew ?_ | with_reducible refine New.setCell ?_ (by first | omega | (simp; done) | (simp; omega)) _ | with_reducible refine New.tail (by assumption) ?_))⟩
      case measure => simp [intOf]; omega
    · obtain rfl : k = l.length := by omega
      go_wp2_with fail
      go_ret
      exact ⟨rfl, hw⟩
set_option maxHeartbeats 1000000 in
theorem hasInt_any (A : Option Addr) (cap : Nat) (l : List Int) (x : Int) (w : World) (h : IntsAt w A l) (hm : l.length ≤ 1000) :
    Calls Tryd.prog 40 #[.slice A l.length cap, .int .i64 x] w fun r w' => r = .returned (.bool (l.any (· == x))) ∧ w = w' := by
  go_enter Tryd.func40, Tryd.ntmps40
  go_wp2_with fail
  go_loop [5] (fun i => ∃ k : Nat, k ≤ l.length ∧ i = .int .i64 k ∧ Hid (∀ j (hj : j < l.length), j < k → l[j] ≠ x)) (fun i => l.length - (intOf i).toNat)
  case atStart => exact ⟨0, Nat.zero_le _, rfl, fun j _ h => absurd h (Nat.not_lt_zero _)⟩
  case round =>
    obtain ⟨k, hk, rfl, HD⟩ := hrel
    by_cases hlt : k < l.length
    · obtain ⟨b, off, y, hA, hy, hc⟩ := h.at_ hlt
      have hc0 := hc w (New.refl w)
      have HY := Lib.hid hy
      have hk0 : (0 : Int) ≤ (k : Int) := by omega
      have hk1 : (k : Int) < (l.length : Int) := by omega
      subst hA
      clear hc hy
      by_cases hyx : y = x
      · have t1 : (y == x) = true := by simpa using hyx
        have HH : Hid (l.any (· == x) = true) := List.any_eq_true.2 ⟨_, List.getElem_mem hlt, by rw [HY.out]; exact t1⟩
        clear hyx
        go_wp2_with fail
        go_ret
        exact ⟨ret_bool HH.out.symm, rfl⟩
      · have t1 : (y == x) = false := by simpa using hyx
        go_wp2_with fail
        go_round
        case rel => exact ⟨k + 1, by omega, by go_num, fun j hj hjk => by
          rcases Nat.lt_or_ge j k with h1 | h1
          · exact HD.out j hj h1
          · obtain rfl : j = k := by omega
            rw [HY.out]; exact hyx⟩
        case measure => simp [intOf]; omega
    · obtain rfl : k = l.length := by omega
      have HH : Hid (l.any (· == x) = false) := by
        show _ = _
        rw [List.any_eq_false]
        intro y hy
        obtain ⟨j, hj, rfl⟩ := List.getElem_of_mem hy
        simpa using HD.out j hj hj
      go_wp2_with fail
      go_ret
      exact ⟨ret_bool HH.out.symm, rfl⟩
set_option maxHeartbeats 1000000 in
theorem ascend_any (A : Option Addr) (cap : Nat) (l : List Int) (w : World) (h : IntsAt w A l) (hm : l.length ≤ 1000) (hs : ∀ k (hk : k + 1 < l.length), l[k] < l[k + 1]) :
    Calls Tryd.prog 35 #[.slice A l.length cap] w fun r w' => r = .returned (.bool true) ∧ New w w' := by
  have HS := Lib.hid hs
  clear hs
  go_enter Tryd.func35, Tryd.ntmps35
  go_wp2_with fail
  go_loopw [3] (fun i wr => ∃ k : Nat, i = .int .i64 (k + 1 : Nat) ∧ k ≤ l.length ∧ New w wr) (fun i _ => l.length - (intOf i).toNat)
  case atStart => exact ⟨0, rfl, Nat.zero_le _, New.refl _⟩
  case round =>
    obtain ⟨k, rfl, hk, hw⟩ := hrel
    by_cases hlt : k + 1 < l.length
    · obtain ⟨b, off, y, hAe, hy, hc⟩ := (h.keep hw).at_ (show k < l.length by omega)
      obtain ⟨b2, off2, y2, hBe, hy2, hc2⟩ := (h.keep hw).at_ hlt
      have hyy := HS.out k hlt
      rw [hy, hy2] at hyy
      subst hAe
      simp only [Option.some.injEq, Addr.mk.injEq, and_true] at hBe
      obtain ⟨rfl, rfl⟩ := hBe
      have hyn : ¬ y2 ≤ y := by omega
      have hk0 : (0 : Int) ≤ (k : Int) := by omega
      have hk1 : (k : Int) < (l.length : Int) := by omega
      have hk2 : (k : Int) + 1 < (l.length : Int) := by omega
      have hk3 : (0 : Int) ≤ (k : Int) + 1 := by omega
      clear hy hy2 hyy
      go_wp2_with fail
      go_quiet (fail)
      go_wp2_with fail
      go_roundw
      case rel => exact ⟨k + 1, by go_num, by omega, hw.trans (by repeat (first | with_reducible exact New.refl _ | with_reducible assumption | with_reducible refine New.alloc ?_ _ | with_reducible refine New.drewN ?_ _ | with_reducible refine New.drew ?_ | with_reducible refine New.setCell ?_ (by first | omega | (simp; done) | (simp; omega)) _ | with_reducible refine New.tail (by assumption) ?_))⟩
      case measure => simp [intOf]; omega
    · have hlt' : ¬ (k : Int) + 1 < (l.length : Int) := by omega
      go_wp2_with fail
      go_ret
      exact ⟨rfl, hw⟩
end Go.Proofs.YtgcloaimolajjaaDoor
