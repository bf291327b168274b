/- Contracts of Closes (program and reference). -/
import Derived.Test.YtgcloaimolajjaaDoorMiss
namespace Go.Proofs.YtgcloaimolajjaaDoor
open Go.RowKit
set_option linter.all false
/-- Leg i closes. -/
noncomputable def zeroB (st : Int) (L : List Lg) (i : Nat) : Bool := (miF st L i (stE L) Lg.e == 0) && (miF st L i (stN L) Lg.n == 0) && (miF st L i (stU L) Lg.u == 0)
noncomputable def clB (st : Int) (L : List Lg) : Bool := svB st L && (List.range L.length).all (zeroB st L)
theorem clB_no {st : Int} {L : List Lg} (h : svB st L = false) : clB st L = false := by simp [clB, h]
theorem clB_bad {st : Int} {L : List Lg} {k : Nat} (hk : k < L.length) (h : zeroB st L k = false) : clB st L = false := by
  have : (List.range L.length).all (zeroB st L) = false := by rw [List.all_eq_false]; exact ⟨k, by simp [hk], by simp [h]⟩
  simp [clB, this]
theorem clB_good {st : Int} {L : List Lg} (h1 : svB st L = true) (h : ∀ k, k < L.length → zeroB st L k = true) : clB st L = true := by
  have : (List.range L.length).all (zeroB st L) = true := by rw [List.all_eq_true]; intro k hk; exact h k (by simpa using hk)
  simp [clB, h1, this]
theorem implCloses_no (st : Int) (A : Option Addr) (cap : Nat) (L : List Lg) (w : World) (hL : LegsAt w A L) (hm : L.length ≤ 1099511627776) (hv : svB st L = false) :
    Calls Tryd.prog 51 #[.agg #[.int .i64 st, .slice A L.length cap]] w fun r w' => r = .returned (.bool false) ∧ New w w' := by
  have h1 : New w (w.alloc (Obj.cells #[.int .i64 st, .slice A L.length cap] 25)) := (by repeat (first | with_reducible exact New.refl _ | with_reducible assumption | with_reducible refine New.alloc ?_ _ | with_reducible refine New.drewN ?_ _ | with_reducible refine New.drew ?_ | with_reducible refine New.setCell ?_ (by first | omega | (simp; done) | (simp; omega)) _ | with_reducible refine New.tail (by assumption) ?_))
  have hL' := hL.keep h1
  go_enter Tryd.func51, Tryd.ntmps51
  go_wp2_with (go_at_call 16; refine (implSurveyValid_any _ _ _ _ _ hL' hm).mono ?_; rw [hv]; rintro e w1 ⟨rfl, hn⟩)
  go_ret
  exact ⟨rfl, h1.trans hn⟩
set_option maxHeartbeats 1000000 in
theorem implCloses_ok (n : Nat) (A : Option Addr) (cap : Nat) (L : List Lg) (w : World) (hL : LegsAt w A L) (hv : svB n L = true) :
    Calls Tryd.prog 51 #[.agg #[.int .i64 n, .slice A L.length cap]] w fun r w' => r = .returned (.bool (clB n L)) ∧ New w w' := by
  obtain ⟨b1, b2, b3, b4⟩ := svB_true hv
  have HV := Lib.hid hv
  have h1 : New w (w.alloc (Obj.cells #[.int .i64 n, .slice A L.length cap] 25)) := (by repeat (first | with_reducible exact New.refl _ | with_reducible assumption | with_reducible refine New.alloc ?_ _ | with_reducible refine New.drewN ?_ _ | with_reducible refine New.drew ?_ | with_reducible refine New.setCell ?_ (by first | omega | (simp; done) | (simp; omega)) _ | with_reducible refine New.tail (by assumption) ?_))
  have h2 := Has.new w #[.int .i64 n, .slice A L.length cap] 25
  have hL' := hL.keep h1
  clear b4 hv
  go_enter Tryd.func51, Tryd.ntmps51
  go_upto_region 1 with fail
  generalize (w.alloc (Obj.cells #[.int .i64 n, .slice A L.length cap] 25)) = W0 at *
  have c2 := h2.cells2
  clear h2
  go_wp2_with fail
  refine (implSurveyValid_any _ _ _ _ _ hL' (by omega)).mono ?_
  rw [HV.out]
  rintro e w1 ⟨rfl, hn1⟩
  go_wp2_with fail
  go_loopw [12] (fun i wr => ∃ k : Nat, k ≤ L.length ∧ i = .int .i64 k ∧ New W0 wr ∧ Hid (∀ j, j < k → zeroB n L j = true)) (fun i _ => L.length - (intOf i).toNat)
  case atStart => exact ⟨0, Nat.zero_le _, rfl, hn1, fun j h => absurd h (Nat.not_lt_zero _)⟩
  case round =>
    obtain ⟨k, hk, rfl, hw, HD⟩ := hrel
    by_cases hlt : k < L.length
    · have hlt' : (k : Int) < (L.length : Int) := by omega
      have c3 := fun w' (hn : New wr w') => c2 w' (hw.trans hn)
      obtain ⟨E, hE⟩ : ∃ x, miF n L k (stE L) Lg.e = x := ⟨_, rfl⟩
      obtain ⟨N, hN⟩ : ∃ x, miF n L k (stN L) Lg.n = x := ⟨_, rfl⟩
      obtain ⟨U, hU⟩ : ∃ x, miF n L k (stU L) Lg.u = x := ⟨_, rfl⟩
      have hz : zeroB n L k = ((E == 0) && (N == 0) && (U == 0)) := by unfold zeroB; rw [hE, hN, hU]
      have HP := Lib.hid (And.intro hE (And.intro hN hU))
      have HZ := Lib.hid hz
      clear hE hN hU hz
      by_cases hE0 : E = 0
      · subst hE0
        by_cases hN0 : N = 0
        · subst hN0
          by_cases hU0 : U = 0
          · subst hU0
            have HZ0 : Hid (zeroB n L k = true) := HZ.out
            go_wp2_with fail
            refine (implMisclosure_any _ _ _ _ _ _ (hL'.keep hw) (by omega)).mono ?_
            rw [HP.out.1, HP.out.2.1, HP.out.2.2]
            rintro e w3 ⟨rfl, hn3⟩
            go_wp2_with fail
            go_roundw
            case rel => exact ⟨k + 1, by omega, by go_num, hw.trans (hn3.alloc _), fun j hj => by
              rcases Nat.lt_or_ge j k with hjk | hjk
              · exact HD.out j hjk
              · obtain rfl : j = k := by omega
                exact HZ0.out⟩
            case measure => simp [intOf]; omega
          · have HZ0 : Hid (zeroB n L k = false) := HZ.out.trans (by simp [hU0])
            go_wp2_with fail
            refine (implMisclosure_any _ _ _ _ _ _ (hL'.keep hw) (by omega)).mono ?_
            rw [HP.out.1, HP.out.2.1, HP.out.2.2]
            rintro e w3 ⟨rfl, hn3⟩
            go_wp2_with fail
            go_ret
            exact ⟨ret_bool (clB_bad hlt HZ0.out).symm, h1.trans (hw.trans (hn3.alloc _))⟩
        · have HZ0 : Hid (zeroB n L k = false) := HZ.out.trans (by simp [hN0])
          go_wp2_with fail
          refine (implMisclosure_any _ _ _ _ _ _ (hL'.keep hw) (by omega)).mono ?_
          rw [HP.out.1, HP.out.2.1, HP.out.2.2]
          rintro e w3 ⟨rfl, hn3⟩
          go_wp2_with fail
          go_ret
          exact ⟨ret_bool (clB_bad hlt HZ0.out).symm, h1.trans (hw.trans (hn3.alloc _))⟩
      · have HZ0 : Hid (zeroB n L k = false) := HZ.out.trans (by simp [hE0])
        go_wp2_with fail
        refine (implMisclosure_any _ _ _ _ _ _ (hL'.keep hw) (by omega)).mono ?_
        rw [HP.out.1, HP.out.2.1, HP.out.2.2]
        rintro e w3 ⟨rfl, hn3⟩
        go_wp2_with fail
        go_ret
        exact ⟨ret_bool (clB_bad hlt HZ0.out).symm, h1.trans (hw.trans (hn3.alloc _))⟩
    · obtain rfl : k = L.length := by omega
      go_wp2_with fail
      go_ret
      exact ⟨ret_bool (clB_good HV.out HD.out).symm, h1.trans hw⟩
theorem implCloses_any (st : Int) (A : Option Addr) (cap : Nat) (L : List Lg) (w : World) (hL : LegsAt w A L) (hm : L.length ≤ 1099511627776) :
    Calls Tryd.prog 51 #[.agg #[.int .i64 st, .slice A L.length cap]] w fun r w' => r = .returned (.bool (clB st L)) ∧ New w w' := by
  cases hv : svB st L
  · rw [clB_no hv]
    exact implCloses_no st A cap L w hL hm hv
  · obtain ⟨n, rfl⟩ := svB_nat hv
    exact implCloses_ok n A cap L w hL hv
set_option maxHeartbeats 1000000 in
theorem specCloses_ok (n : Nat) (A : Option Addr) (cap : Nat) (L : List Lg) (w : World) (hL : LegsAt w A L) (hv : svB n L = true) :
    Calls Tryd.prog 52 #[.agg #[.int .i64 n, .slice A L.length cap]] w fun r w' => r = .returned (.bool (clB n L)) ∧ New w w' := by
  obtain ⟨b1, b2, b3, b4⟩ := svB_true hv
  have HV := Lib.hid hv
  have h1 : New w (w.alloc (Obj.cells #[.int .i64 n, .slice A L.length cap] 25)) := (by repeat (first | with_reducible exact New.refl _ | with_reducible assumption | with_reducible refine New.alloc ?_ _ | with_reducible refine New.drewN ?_ _ | with_reducible refine New.drew ?_ | with_reducible refine New.setCell ?_ (by first | omega | (simp; done) | (simp; omega)) _ | with_reducible refine New.tail (by assumption) ?_))
  have h2 := Has.new w #[.int .i64 n, .slice A L.length cap] 25
  have hL' := hL.keep h1
  clear b4 hv
  go_enter Tryd.func52, Tryd.ntmps52
  go_upto_region 1 with fail
  generalize (w.alloc (Obj.cells #[.int .i64 n, .slice A L.length cap] 25)) = W0 at *
  have c2 := h2.cells2
  clear h2
  go_wp2_with fail
  go_loopw [3] (fun i wr => ∃ k : Nat, k ≤ L.length ∧ i = .int .i64 k ∧ New W0 wr ∧ Hid (∀ j, j < k → zeroB n L j = true)) (fun i _ => L.length - (intOf i).toNat)
  case atStart => exact ⟨0, Nat.zero_le _, rfl, New.refl _, fun j h => absurd h (Nat.not_lt_zero _)⟩
  case round =>
    obtain ⟨k, hk, rfl, hw, HD⟩ := hrel
    by_cases hlt : k < L.length
    · have hlt' : (k : Int) < (L.length : Int) := by omega
      have c3 := fun w' (hn : New wr w') => c2 w' (hw.trans hn)
      obtain ⟨E, hE⟩ : ∃ x, miF n L k (stE L) Lg.e = x := ⟨_, rfl⟩
      obtain ⟨N, hN⟩ : ∃ x, miF n L k (stN L) Lg.n = x := ⟨_, rfl⟩
      obtain ⟨U, hU⟩ : ∃ x, miF n L k (stU L) Lg.u = x := ⟨_, rfl⟩
      have hz : zeroB n L k = ((E == 0) && (N == 0) && (U == 0)) := by unfold zeroB; rw [hE, hN, hU]
      have HP := Lib.hid (And.intro hE (And.intro hN hU))
      have HZ := Lib.hid hz
      clear hE hN hU hz
      by_cases hE0 : E = 0
      · subst hE0
        by_cases hN0 : N = 0
        · subst hN0
          by_cases hU0 : U = 0
          · subst hU0
            have HZ0 : Hid (zeroB n L k = true) := HZ.out
            go_wp2_with fail
            refine (specSurveyValid_any _ _ _ _ _ (hL'.keep hw) (by omega)).mono ?_
            rw [HV.out]
            rintro e w2 ⟨rfl, hn2⟩
            have hw2 := hw.trans hn2
            go_wp2_with fail
            refine (specMisclosure_any _ _ _ _ _ _ (hL'.keep hw2) (by omega)).mono ?_
            rw [HP.out.1, HP.out.2.1, HP.out.2.2]
            rintro e w3 ⟨rfl, hn3⟩
            go_wp2_with fail
            go_roundw
            case rel => exact ⟨k + 1, by omega, by go_num, hw2.trans (hn3.alloc _), fun j hj => by
              rcases Nat.lt_or_ge j k with hjk | hjk
              · exact HD.out j hjk
              · obtain rfl : j = k := by omega
                exact HZ0.out⟩
            case measure => simp [intOf]; omega
          · have HZ0 : Hid (zeroB n L k = false) := HZ.out.trans (by simp [hU0])
            go_wp2_with fail
            refine (specSurveyValid_any _ _ _ _ _ (hL'.keep hw) (by omega)).mono ?_
            rw [HV.out]
            rintro e w2 ⟨rfl, hn2⟩
            have hw2 := hw.trans hn2
            go_wp2_with fail
            refine (specMisclosure_any _ _ _ _ _ _ (hL'.keep hw2) (by omega)).mono ?_
            rw [HP.out.1, HP.out.2.1, HP.out.2.2]
            rintro e w3 ⟨rfl, hn3⟩
            go_wp2_with fail
            go_ret
            exact ⟨ret_bool (clB_bad hlt HZ0.out).symm, h1.trans (hw2.trans (hn3.alloc _))⟩
        · have HZ0 : Hid (zeroB n L k = false) := HZ.out.trans (by simp [hN0])
          go_wp2_with fail
          refine (specSurveyValid_any _ _ _ _ _ (hL'.keep hw) (by omega)).mono ?_
          rw [HV.out]
          rintro e w2 ⟨rfl, hn2⟩
          have hw2 := hw.trans hn2
          go_wp2_with fail
          refine (specMisclosure_any _ _ _ _ _ _ (hL'.keep hw2) (by omega)).mono ?_
          rw [HP.out.1, HP.out.2.1, HP.out.2.2]
          rintro e w3 ⟨rfl, hn3⟩
          go_wp2_with fail
          go_ret
          exact ⟨ret_bool (clB_bad hlt HZ0.out).symm, h1.trans (hw2.trans (hn3.alloc _))⟩
      · have HZ0 : Hid (zeroB n L k = false) := HZ.out.trans (by simp [hE0])
        go_wp2_with fail
        refine (specSurveyValid_any _ _ _ _ _ (hL'.keep hw) (by omega)).mono ?_
        rw [HV.out]
        rintro e w2 ⟨rfl, hn2⟩
        have hw2 := hw.trans hn2
        go_wp2_with fail
        refine (specMisclosure_any _ _ _ _ _ _ (hL'.keep hw2) (by omega)).mono ?_
        rw [HP.out.1, HP.out.2.1, HP.out.2.2]
        rintro e w3 ⟨rfl, hn3⟩
        go_wp2_with fail
        go_ret
        exact ⟨ret_bool (clB_bad hlt HZ0.out).symm, h1.trans (hw2.trans (hn3.alloc _))⟩
    · obtain rfl : k = L.length := by omega
      have hnlt : ¬ (L.length : Int) < (L.length : Int) := by omega
      have c3 := fun w' (hn : New wr w') => c2 w' (hw.trans hn)
      go_wp2_with fail
      refine (specSurveyValid_any _ _ _ _ _ (hL'.keep hw) (by omega)).mono ?_
      rw [HV.out]
      rintro e w2 ⟨rfl, hn2⟩
      go_wp2_with fail
      go_ret
      exact ⟨ret_bool (clB_good HV.out HD.out).symm, h1.trans (hw.trans hn2)⟩
set_option maxHeartbeats 1000000 in
theorem specCloses_no (st : Int) (A : Option Addr) (cap : Nat) (L : List Lg) (w : World) (hL : LegsAt w A L) (hm : L.length ≤ 1099511627776) (hv : svB st L = false) :
    Calls Tryd.prog 52 #[.agg #[.int .i64 st, .slice A L.length cap]] w fun r w' => r = .returned (.bool false) ∧ New w w' := by
  have h1 : New w (w.alloc (Obj.cells #[.int .i64 st, .slice A L.length cap] 25)) := (by repeat (first | with_reducible exact New.refl _ | with_reducible assumption | with_reducible refine New.alloc ?_ _ | with_reducible refine New.drewN ?_ _ | with_reducible refine New.drew ?_ | with_reducible refine New.setCell ?_ (by first | omega | (simp; done) | (simp; omega)) _ | with_reducible refine New.tail (by assumption) ?_))
  have h2 := Has.new w #[.int .i64 st, .slice A L.length cap] 25
  have hL' := hL.keep h1
  have HV := Lib.hid hv
  clear hv
  by_cases h0 : 0 < L.length
  · have h0' : (0 : Int) < (L.length : Int) := by omega
    go_enter Tryd.func52, Tryd.ntmps52
    go_upto_region 1 with fail
    generalize (w.alloc (Obj.cells #[.int .i64 st, .slice A L.length cap] 25)) = W0 at *
    have c2 := h2.cells2
    clear h2
    go_wp2_with fail
    refine wp_loop_rounds 1 ?_
    rw [rounds_succ]
    go_wp2_with fail
    refine (specSurveyValid_any _ _ _ _ _ hL' hm).mono ?_
    rw [HV.out]
    rintro e w1 ⟨rfl, hn1⟩
    go_wp2_with fail
    refine (specSurveyValid_any _ _ _ _ _ (hL'.keep hn1) hm).mono ?_
    rw [HV.out]
    rintro e w2 ⟨rfl, hn2⟩
    go_wp2_with fail
    go_ret
    exact ⟨rfl, h1.trans (hn1.trans hn2)⟩
  · have h0' : ¬ (0 : Int) < (L.length : Int) := by omega
    go_enter Tryd.func52, Tryd.ntmps52
    go_upto_region 1 with fail
    generalize (w.alloc (Obj.cells #[.int .i64 st, .slice A L.length cap] 25)) = W0 at *
    have c2 := h2.cells2
    clear h2
    go_wp2_with fail
    refine wp_loop_rounds 1 ?_
    rw [rounds_succ]
    go_wp2_with fail
    refine (specSurveyValid_any _ _ _ _ _ hL' hm).mono ?_
    rw [HV.out]
    rintro e w1 ⟨rfl, hn1⟩
    go_wp2_with fail
    go_ret
    exact ⟨rfl, h1.trans hn1⟩
theorem specCloses_any (st : Int) (A : Option Addr) (cap : Nat) (L : List Lg) (w : World) (hL : LegsAt w A L) (hm : L.length ≤ 1099511627776) :
    Calls Tryd.prog 52 #[.agg #[.int .i64 st, .slice A L.length cap]] w fun r w' => r = .returned (.bool (clB st L)) ∧ New w w' := by
  cases hv : svB st L
  · rw [clB_no hv]
    exact specCloses_no st A cap L w hL hm hv
  · obtain ⟨n, rfl⟩ := svB_nat hv
    exact specCloses_ok n A cap L w hL hv
end Go.Proofs.YtgcloaimolajjaaDoor
