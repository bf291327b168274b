/- Contracts of l2Det and Det (reference) and Det (program). -/
import Derived.Test.YtbjahideaonimaaMinor
namespace Go.Proofs.Ytbjahideaonimaa
open Go.RowKit
set_option linter.all false
/-- What Det returns. -/
def detM (M : List (List Int)) : Int := if mvB M then detR M.length M else 0
theorem mvB_sq {M : List (List Int)} (h : mvB M = true) : Sq M.length M := ⟨rfl, (mvB_true h).2⟩
set_option maxHeartbeats 1000000 in
theorem implDet_any (A : Option Addr) (cap : Nat) (M : List (List Int)) (w : World) (hM : MatAt w A M) (hm : M.length ≤ 1099511627776) (hr : ∀ r ∈ M, r.length ≤ 1099511627776) :
    Calls Try.prog 51 #[.slice A M.length cap] w fun e w' => e = .returned (.int .i64 (detM M)) ∧ New w w' := by
  have HR := Lib.hid hr
  clear hr
  cases hv : mvB M
  · go_enter Try.func51, Try.ntmps51
    go_wp2_with fail
    refine (implMatrixValid_any _ _ _ _ hM hm HR.out).mono ?_
    rw [hv]
    rintro e w1 ⟨rfl, hn⟩
    go_wp2_with fail
    go_ret
    exact ⟨ret_int (by simp [detM, hv]), hn⟩
  · have HV := Lib.hid hv
    clear hv
    go_enter Try.func51, Try.ntmps51
    go_wp2_with fail
    refine (implMatrixValid_any _ _ _ _ hM hm HR.out).mono ?_
    rw [HV.out]
    rintro e w1 ⟨rfl, hn⟩
    go_wp2_with fail
    refine (detFrom_any _ _ M.length M (mvB_sq HV.out) (mvB_true HV.out).1 M.length 0 0 (List.range M.length) _ (by omega) (by simp) (Free.all _) (by omega) (hM.keep hn)).mono ?_
    rw [sub_zero (mvB_sq HV.out)]
    rintro e w2 ⟨rfl, hn2⟩
    go_wp2_with fail
    go_ret
    exact ⟨ret_int (by simp [detM, HV.out]), hn.trans hn2⟩
end Go.Proofs.Ytbjahideaonimaa
