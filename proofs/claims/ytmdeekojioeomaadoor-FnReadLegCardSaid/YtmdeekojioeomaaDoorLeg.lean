/- Contracts of LegBack, LegValid (program and reference), toLeg, eqLeg, legWay. -/
import Derived.Test.YtmdeekojioeomaaDoorWay
namespace Go.Proofs.YtmdeekojioeomaaDoor
open Go.RowKit
set_option linter.all false
def legB (st f t e n u : Int) : Bool := inB st 1 6 && inB f 0 (st - 1) && inB t 0 (st - 1) && (f != t) && inB e (-99) 99 && inB n (-99) 99 && inB u (-99) 99
theorem legB_t {st f t e n u : Int} : legB st f t e n u = true ↔ 1 ≤ st ∧ st ≤ 6 ∧ 0 ≤ f ∧ f < st ∧ 0 ≤ t ∧ t < st ∧ f ≠ t ∧ -99 ≤ e ∧ e ≤ 99 ∧ -99 ≤ n ∧ n ≤ 99 ∧ -99 ≤ u ∧ u ≤ 99 := by
  unfold legB
  simp only [Bool.and_eq_true, inB_t, bne_iff_ne]
  omega
theorem ix_in (f st : Int) : ixB f st = inB f 0 (st - 1) := by rw [Bool.eq_iff_iff, ixB_t, inB_t]; omega
theorem wi_in (f : Int) : wiB f 99 = inB f (-99) 99 := by rw [Bool.eq_iff_iff, wiB_t, inB_t]
set_option maxHeartbeats 1000000 in
theorem specLegValid_any (st f t e n u : Int) (w : World) : Calls Tryd.prog 26 #[.int .i64 st, .agg #[.int .i64 f, .int .i64 t, .int .i64 e, .int .i64 n, .int .i64 u]] w fun r w' => r = .returned (.bool (legB st f t e n u)) ∧ New w w' := by
  cases h1 : inB st 1 6
  case false => (go_enter Tryd.func26, Tryd.ntmps26; go_wp2_with (go_at_call 38; refine (l1In_any _ _ _ _).mono ?_; rintro e w' ⟨rfl, rfl⟩); go_ret; exact ⟨ret_bool (by simp [legB, *]), (by repeat (first | with_reducible exact New.refl _ | with_reducible assumption | with_reducible refine New.alloc ?_ _ | with_reducible refine New.drewN ?_ _ | with_reducible refine New.drew ?_ | with_reducible refine New.setCell ?_ (by first | omega | (simp; done) | (simp; omega)) _ | with_reducible refine New.tail (by assumption) ?_))⟩)
  case true =>
  have b := inB_t.1 h1
  cases h2 : inB f 0 (st - 1)
  case false => (go_enter Tryd.func26, Tryd.ntmps26; go_wp2_with (go_at_call 38; refine (l1In_any _ _ _ _).mono ?_; rintro e w' ⟨rfl, rfl⟩); go_ret; exact ⟨ret_bool (by simp [legB, *]), (by repeat (first | with_reducible exact New.refl _ | with_reducible assumption | with_reducible refine New.alloc ?_ _ | with_reducible refine New.drewN ?_ _ | with_reducible refine New.drew ?_ | with_reducible refine New.setCell ?_ (by first | omega | (simp; done) | (simp; omega)) _ | with_reducible refine New.tail (by assumption) ?_))⟩)
  case true =>
  cases h3 : inB t 0 (st - 1)
  case false => (go_enter Tryd.func26, Tryd.ntmps26; go_wp2_with (go_at_call 38; refine (l1In_any _ _ _ _).mono ?_; rintro e w' ⟨rfl, rfl⟩); go_ret; exact ⟨ret_bool (by simp [legB, *]), (by repeat (first | with_reducible exact New.refl _ | with_reducible assumption | with_reducible refine New.alloc ?_ _ | with_reducible refine New.drewN ?_ _ | with_reducible refine New.drew ?_ | with_reducible refine New.setCell ?_ (by first | omega | (simp; done) | (simp; omega)) _ | with_reducible refine New.tail (by assumption) ?_))⟩)
  case true =>
  cases h4 : f != t
  case false => (go_enter Tryd.func26, Tryd.ntmps26; go_wp2_with (go_at_call 38; refine (l1In_any _ _ _ _).mono ?_; rintro e w' ⟨rfl, rfl⟩); go_ret; exact ⟨ret_bool (by simp [legB, *]), (by repeat (first | with_reducible exact New.refl _ | with_reducible assumption | with_reducible refine New.alloc ?_ _ | with_reducible refine New.drewN ?_ _ | with_reducible refine New.drew ?_ | with_reducible refine New.setCell ?_ (by first | omega | (simp; done) | (simp; omega)) _ | with_reducible refine New.tail (by assumption) ?_))⟩)
  case true =>
  cases h5 : inB e (-99) 99
  case false => (go_enter Tryd.func26, Tryd.ntmps26; go_wp2_with (go_at_call 38; refine (l1In_any _ _ _ _).mono ?_; rintro e w' ⟨rfl, rfl⟩); go_ret; exact ⟨ret_bool (by simp [legB, *]), (by repeat (first | with_reducible exact New.refl _ | with_reducible assumption | with_reducible refine New.alloc ?_ _ | with_reducible refine New.drewN ?_ _ | with_reducible refine New.drew ?_ | with_reducible refine New.setCell ?_ (by first | omega | (simp; done) | (simp; omega)) _ | with_reducible refine New.tail (by assumption) ?_))⟩)
  case true =>
  cases h6 : inB n (-99) 99
  case false => (go_enter Tryd.func26, Tryd.ntmps26; go_wp2_with (go_at_call 38; refine (l1In_any _ _ _ _).mono ?_; rintro e w' ⟨rfl, rfl⟩); go_ret; exact ⟨ret_bool (by simp [legB, *]), (by repeat (first | with_reducible exact New.refl _ | with_reducible assumption | with_reducible refine New.alloc ?_ _ | with_reducible refine New.drewN ?_ _ | with_reducible refine New.drew ?_ | with_reducible refine New.setCell ?_ (by first | omega | (simp; done) | (simp; omega)) _ | with_reducible refine New.tail (by assumption) ?_))⟩)
  case true => (go_enter Tryd.func26, Tryd.ntmps26; go_wp2_with (go_at_call 38; refine (l1In_any _ _ _ _).mono ?_; rintro e w' ⟨rfl, rfl⟩); go_ret; exact ⟨ret_bool (by simp [legB, *]), (by repeat (first | with_reducible exact New.refl _ | with_reducible assumption | with_reducible refine New.alloc ?_ _ | with_reducible refine New.drewN ?_ _ | with_reducible refine New.drew ?_ | with_reducible refine New.setCell ?_ (by first | omega | (simp; done) | (simp; omega)) _ | with_reducible refine New.tail (by assumption) ?_))⟩)
set_option maxHeartbeats 1000000 in
theorem implLegValid_any (st f t e n u : Int) (w : World) : Calls Tryd.prog 11 #[.int .i64 st, .agg #[.int .i64 f, .int .i64 t, .int .i64 e, .int .i64 n, .int .i64 u]] w fun r w' => r = .returned (.bool (legB st f t e n u)) ∧ New w w' := by
  cases h1 : inB st 1 6
  case false =>
    have b := inB_f.1 h1
    by_cases b1 : st < 1
    · (go_enter Tryd.func11, Tryd.ntmps11; go_wp2_with (first | (go_at_call 28; refine (isIndex_any _ _ _).mono ?_; rintro e w' ⟨rfl, rfl⟩) | (go_at_call 29; refine (stepFits_any _ _).mono ?_; rintro e w' ⟨rfl, rfl⟩)); go_ret; exact ⟨ret_bool (by simp [legB, wi_in, *]), (by repeat (first | with_reducible exact New.refl _ | with_reducible assumption | with_reducible refine New.alloc ?_ _ | with_reducible refine New.drewN ?_ _ | with_reducible refine New.drew ?_ | with_reducible refine New.setCell ?_ (by first | omega | (simp; done) | (simp; omega)) _ | with_reducible refine New.tail (by assumption) ?_))⟩)
    · have b2 : 6 < st := by omega
      (go_enter Tryd.func11, Tryd.ntmps11; go_wp2_with (first | (go_at_call 28; refine (isIndex_any _ _ _).mono ?_; rintro e w' ⟨rfl, rfl⟩) | (go_at_call 29; refine (stepFits_any _ _).mono ?_; rintro e w' ⟨rfl, rfl⟩)); go_ret; exact ⟨ret_bool (by simp [legB, wi_in, *]), (by repeat (first | with_reducible exact New.refl _ | with_reducible assumption | with_reducible refine New.alloc ?_ _ | with_reducible refine New.drewN ?_ _ | with_reducible refine New.drew ?_ | with_reducible refine New.setCell ?_ (by first | omega | (simp; done) | (simp; omega)) _ | with_reducible refine New.tail (by assumption) ?_))⟩)
  case true =>
  have b := inB_t.1 h1
  obtain ⟨b1, b2⟩ := b
  cases h2 : inB f 0 (st - 1)
  case false => have h2' : ixB f st = false := (ix_in f st).trans h2
                (go_enter Tryd.func11, Tryd.ntmps11; go_wp2_with (first | (go_at_call 28; refine (isIndex_any _ _ _).mono ?_; rintro e w' ⟨rfl, rfl⟩) | (go_at_call 29; refine (stepFits_any _ _).mono ?_; rintro e w' ⟨rfl, rfl⟩)); go_ret; exact ⟨ret_bool (by simp [legB, wi_in, *]), (by repeat (first | with_reducible exact New.refl _ | with_reducible assumption | with_reducible refine New.alloc ?_ _ | with_reducible refine New.drewN ?_ _ | with_reducible refine New.drew ?_ | with_reducible refine New.setCell ?_ (by first | omega | (simp; done) | (simp; omega)) _ | with_reducible refine New.tail (by assumption) ?_))⟩)
  case true =>
  have h2' : ixB f st = true := (ix_in f st).trans h2
  cases h3 : inB t 0 (st - 1)
  case false => have h3' : ixB t st = false := (ix_in t st).trans h3
                (go_enter Tryd.func11, Tryd.ntmps11; go_wp2_with (first | (go_at_call 28; refine (isIndex_any _ _ _).mono ?_; rintro e w' ⟨rfl, rfl⟩) | (go_at_call 29; refine (stepFits_any _ _).mono ?_; rintro e w' ⟨rfl, rfl⟩)); go_ret; exact ⟨ret_bool (by simp [legB, wi_in, *]), (by repeat (first | with_reducible exact New.refl _ | with_reducible assumption | with_reducible refine New.alloc ?_ _ | with_reducible refine New.drewN ?_ _ | with_reducible refine New.drew ?_ | with_reducible refine New.setCell ?_ (by first | omega | (simp; done) | (simp; omega)) _ | with_reducible refine New.tail (by assumption) ?_))⟩)
  case true =>
  have h3' : ixB t st = true := (ix_in t st).trans h3
  by_cases h4 : f = t
  · have h4' : (f == t) = true := by simp [h4]
    have h4'' : (f != t) = false := by simp [h4]
    clear h4
    (go_enter Tryd.func11, Tryd.ntmps11; go_wp2_with (first | (go_at_call 28; refine (isIndex_any _ _ _).mono ?_; rintro e w' ⟨rfl, rfl⟩) | (go_at_call 29; refine (stepFits_any _ _).mono ?_; rintro e w' ⟨rfl, rfl⟩)); go_ret; exact ⟨ret_bool (by simp [legB, wi_in, *]), (by repeat (first | with_reducible exact New.refl _ | with_reducible assumption | with_reducible refine New.alloc ?_ _ | with_reducible refine New.drewN ?_ _ | with_reducible refine New.drew ?_ | with_reducible refine New.setCell ?_ (by first | omega | (simp; done) | (simp; omega)) _ | with_reducible refine New.tail (by assumption) ?_))⟩)
  have h4' : (f == t) = false := by simp [h4]
  have h4'' : (f != t) = true := by simp [h4]
  cases h5 : wiB e 99
  case false => rw [wi_in] at h5
                have h5' := (wi_in e).trans h5
                (go_enter Tryd.func11, Tryd.ntmps11; go_wp2_with (first | (go_at_call 28; refine (isIndex_any _ _ _).mono ?_; rintro e w' ⟨rfl, rfl⟩) | (go_at_call 29; refine (stepFits_any _ _).mono ?_; rintro e w' ⟨rfl, rfl⟩)); go_ret; exact ⟨ret_bool (by simp [legB, wi_in, *]), (by repeat (first | with_reducible exact New.refl _ | with_reducible assumption | with_reducible refine New.alloc ?_ _ | with_reducible refine New.drewN ?_ _ | with_reducible refine New.drew ?_ | with_reducible refine New.setCell ?_ (by first | omega | (simp; done) | (simp; omega)) _ | with_reducible refine New.tail (by assumption) ?_))⟩)
  case true =>
  have h5' := (wi_in e).symm.trans h5
  cases h6 : wiB n 99
  case false => have h6' := (wi_in n).symm.trans h6
                (go_enter Tryd.func11, Tryd.ntmps11; go_wp2_with (first | (go_at_call 28; refine (isIndex_any _ _ _).mono ?_; rintro e w' ⟨rfl, rfl⟩) | (go_at_call 29; refine (stepFits_any _ _).mono ?_; rintro e w' ⟨rfl, rfl⟩)); go_ret; exact ⟨ret_bool (by simp [legB, wi_in, *]), (by repeat (first | with_reducible exact New.refl _ | with_reducible assumption | with_reducible refine New.alloc ?_ _ | with_reducible refine New.drewN ?_ _ | with_reducible refine New.drew ?_ | with_reducible refine New.setCell ?_ (by first | omega | (simp; done) | (simp; omega)) _ | with_reducible refine New.tail (by assumption) ?_))⟩)
  case true => have h6' := (wi_in n).symm.trans h6
               (go_enter Tryd.func11, Tryd.ntmps11; go_wp2_with (first | (go_at_call 28; refine (isIndex_any _ _ _).mono ?_; rintro e w' ⟨rfl, rfl⟩) | (go_at_call 29; refine (stepFits_any _ _).mono ?_; rintro e w' ⟨rfl, rfl⟩)); go_ret; exact ⟨ret_bool (by simp [legB, wi_in, *]), (by repeat (first | with_reducible exact New.refl _ | with_reducible assumption | with_reducible refine New.alloc ?_ _ | with_reducible refine New.drewN ?_ _ | with_reducible refine New.drew ?_ | with_reducible refine New.setCell ?_ (by first | omega | (simp; done) | (simp; omega)) _ | with_reducible refine New.tail (by assumption) ?_))⟩)
theorem toLeg_any (f t e n u : Int) (w : World) : Calls Tryd.prog 17 #[.agg #[.int .i64 f, .int .i64 t, .int .i64 e, .int .i64 n, .int .i64 u]] w fun r w' => r = .returned (.agg #[.int .i64 f, .int .i64 t, .int .i64 e, .int .i64 n, .int .i64 u]) ∧ New w w' := by
  go_enter Tryd.func17, Tryd.ntmps17
  go_wp2
  exact bodyPost_ret (v := .agg #[.int .i64 f, .int .i64 t, .int .i64 e, .int .i64 n, .int .i64 u]) (by simp [results, Tryd.results17, go_sem]) rfl ⟨rfl, (by repeat (first | with_reducible exact New.refl _ | with_reducible assumption | with_reducible refine New.alloc ?_ _ | with_reducible refine New.drewN ?_ _ | with_reducible refine New.drew ?_ | with_reducible refine New.setCell ?_ (by first | omega | (simp; done) | (simp; omega)) _ | with_reducible refine New.tail (by assumption) ?_))⟩
theorem eqLeg_refl (f t e n u : Int) (w : World) : Calls Tryd.prog 15 #[.agg #[.int .i64 f, .int .i64 t, .int .i64 e, .int .i64 n, .int .i64 u], .agg #[.int .i64 f, .int .i64 t, .int .i64 e, .int .i64 n, .int .i64 u]] w fun r w' => r = .returned (.bool true) ∧ New w w' := by
  go_enter Tryd.func15, Tryd.ntmps15
  go_wp2
  go_ret
  exact ⟨rfl, (by repeat (first | with_reducible exact New.refl _ | with_reducible assumption | with_reducible refine New.alloc ?_ _ | with_reducible refine New.drewN ?_ _ | with_reducible refine New.drew ?_ | with_reducible refine New.setCell ?_ (by first | omega | (simp; done) | (simp; omega)) _ | with_reducible refine New.tail (by assumption) ?_))⟩
theorem legWay_any (f t e n u : Int) (w : World) : Calls Tryd.prog 25 #[.agg #[.int .i64 f, .int .i64 t, .int .i64 e, .int .i64 n, .int .i64 u]] w fun r w' => r = .returned (.agg #[.int .i64 e, .int .i64 n, .int .i64 u]) ∧ New w w' := by
  go_enter Tryd.func25, Tryd.ntmps25
  go_wp2
  exact bodyPost_ret (v := .agg #[.int .i64 e, .int .i64 n, .int .i64 u]) (by simp [results, Tryd.results25, go_sem]) rfl ⟨rfl, (by repeat (first | with_reducible exact New.refl _ | with_reducible assumption | with_reducible refine New.alloc ?_ _ | with_reducible refine New.drewN ?_ _ | with_reducible refine New.drew ?_ | with_reducible refine New.setCell ?_ (by first | omega | (simp; done) | (simp; omega)) _ | with_reducible refine New.tail (by assumption) ?_))⟩
end Go.Proofs.YtmdeekojioeomaaDoor
