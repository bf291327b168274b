/- Contracts of TreesMany (program and reference). -/
import Derived.Test.YtbjahideaonimaaLink
namespace Go.Proofs.Ytbjahideaonimaa
open Go.RowKit
set_option linter.all false
def tmZ (st : Int) (L : List Lg) : Int := if svB st L then detM (linksM st L) else -1
theorem tmZ_no {st : Int} {L : List Lg} (h : svB st L = false) : tmZ st L = -1 := by simp [tmZ, h]
theorem tmZ_ok {st : Int} {L : List Lg} (h : svB st L = true) : tmZ st L = detM (linksM st L) := by simp [tmZ, h]
theorem linksM_small (st : Int) (L : List Lg) : (linksM st L).length ≤ 5 ∧ ∀ r ∈ linksM st L, r.length ≤ 5 := by
  unfold linksM
  split
  · rename_i h
    obtain ⟨b1, b2, _, _⟩ := svB_true h
    exact ⟨by rw [sq_length]; omega, fun r hr => by rw [sq_rows hr]; omega⟩
  · exact ⟨by simp, by simp⟩
set_option maxHeartbeats 1000000 in
theorem implTreesMany_any (st : Int) (A : Option Addr) (cap : Nat) (L : List Lg) (w : World) (hL : LegsAt w A L) (hm : L.length ≤ 1099511627776) :
    Calls Try.prog 43 #[.agg #[.int .i64 st, .slice A L.length cap]] w fun r w' => r = .returned (.int .i64 (tmZ st L)) ∧ New w w' := by
  have h1 : New w (w.alloc (Obj.cells #[.int .i64 st, .slice A L.length cap] 33)) := (by repeat (first | with_reducible exact New.refl _ | with_reducible assumption | with_reducible refine New.alloc ?_ _ | with_reducible refine New.drewN ?_ _ | with_reducible refine New.drew ?_ | with_reducible refine New.setCell ?_ (by first | omega | (simp; done) | (simp; omega)) _ | with_reducible refine New.tail (by assumption) ?_))
  have h2 := Has.new w #[.int .i64 st, .slice A L.length cap] 33
  have hL' := hL.keep h1
  cases hv : svB st L
  · have HV := Lib.hid hv
    clear hv
    go_enter Try.func43, Try.ntmps43
    go_upto_region 1 with fail
    generalize (w.alloc (Obj.cells #[.int .i64 st, .slice A L.length cap] 33)) = W0 at *
    have c2 := h2.cells2
    clear h2
    go_wp2_with fail
    refine (implSurveyValid_any _ _ _ _ _ hL' hm).mono ?_
    rw [HV.out]
    rintro e w1 ⟨rfl, hn1⟩
    go_wp2_with fail
    go_ret
    exact ⟨ret_int (tmZ_no HV.out).symm, h1.trans hn1⟩
  · have HV := Lib.hid hv
    obtain ⟨s1, s2⟩ := linksM_small st L
    have HS2 : Hid (∀ r ∈ linksM st L, r.length ≤ 1099511627776) := fun r hr => by have := s2 r hr; omega
    clear hv s2
    go_enter Try.func43, Try.ntmps43
    go_upto_region 1 with fail
    generalize (w.alloc (Obj.cells #[.int .i64 st, .slice A L.length cap] 33)) = W0 at *
    have c2 := h2.cells2
    clear h2
    go_wp2_with fail
    refine (implSurveyValid_any _ _ _ _ _ hL' hm).mono ?_
    rw [HV.out]
    rintro e w1 ⟨rfl, hn1⟩
    have c3 := fun w' (hn : New w1 w') => c2 w' (hn1.trans hn)
    go_wp2_with fail
    refine (implLinks_any _ _ _ _ _ (hL'.keep hn1) hm).mono ?_
    rintro e w2 ⟨B, cp, rfl, hF, hn2⟩
    go_wp2_with fail
    refine (implDet_any _ _ _ _ hF.reads (by omega) HS2.out).mono ?_
    rintro e w3 ⟨rfl, hn3⟩
    go_wp2_with fail
    go_ret
    exact ⟨ret_int (tmZ_ok HV.out).symm, h1.trans (hn1.trans (hn2.trans hn3))⟩
end Go.Proofs.Ytbjahideaonimaa
