/- Contracts of WayAdd, WayTimes (program and reference), toWay, eqWay. -/
import Derived.Test.YtbjahideaonimaaScal
namespace Go.Proofs.Ytbjahideaonimaa
open Go.RowKit
set_option linter.all false
def ad (a b : Int) : Int := wrap64 (a + b)
def mu (a b : Int) : Int := wrap64 (a * b)
def ng (a : Int) : Int := wrap64 (-a)
theorem mu_comm (a b : Int) : mu a b = mu b a := by unfold mu; rw [Int.mul_comm]
theorem ad_comm (a b : Int) : ad a b = ad b a := by unfold ad; rw [Int.add_comm]
theorem implWayAdd_any (a b c d e f : Int) (w : World) : Calls Try.prog 36 #[.agg #[.int .i64 a, .int .i64 b, .int .i64 c], .agg #[.int .i64 d, .int .i64 e, .int .i64 f]] w
    fun r w' => r = .returned (.agg #[.int .i64 (ad a d), .int .i64 (ad b e), .int .i64 (ad c f)]) ∧ New w w' := by
  go_enter Try.func36, Try.ntmps36
  go_wp2
  exact bodyPost_ret (v := .agg #[.int .i64 (ad a d), .int .i64 (ad b e), .int .i64 (ad c f)]) (by simp [results, Try.results36, go_sem, ad]) rfl ⟨rfl, (by repeat (first | with_reducible exact New.refl _ | with_reducible assumption | with_reducible refine New.alloc ?_ _ | with_reducible refine New.drewN ?_ _ | with_reducible refine New.drew ?_ | with_reducible refine New.setCell ?_ (by first | omega | (simp; done) | (simp; omega)) _ | with_reducible refine New.tail (by assumption) ?_))⟩
theorem specWayAdd_any (a b c d e f : Int) (w : World) : Calls Try.prog 32 #[.agg #[.int .i64 a, .int .i64 b, .int .i64 c], .agg #[.int .i64 d, .int .i64 e, .int .i64 f]] w
    fun r w' => r = .returned (.agg #[.int .i64 (ad a d), .int .i64 (ad b e), .int .i64 (ad c f)]) ∧ New w w' := by
  go_enter Try.func32, Try.ntmps32
  go_wp2
  exact bodyPost_ret (v := .agg #[.int .i64 (ad a d), .int .i64 (ad b e), .int .i64 (ad c f)]) (by simp [results, Try.results32, go_sem, ad]) rfl ⟨rfl, (by repeat (first | with_reducible exact New.refl _ | with_reducible assumption | with_reducible refine New.alloc ?_ _ | with_reducible refine New.drewN ?_ _ | with_reducible refine New.drew ?_ | with_reducible refine New.setCell ?_ (by first | omega | (simp; done) | (simp; omega)) _ | with_reducible refine New.tail (by assumption) ?_))⟩
theorem implWayTimes_any (a b c n : Int) (w : World) : Calls Try.prog 37 #[.agg #[.int .i64 a, .int .i64 b, .int .i64 c], .int .i64 n] w
    fun r w' => r = .returned (.agg #[.int .i64 (mu a n), .int .i64 (mu b n), .int .i64 (mu c n)]) ∧ New w w' := by
  go_enter Try.func37, Try.ntmps37
  go_wp2
  exact bodyPost_ret (v := .agg #[.int .i64 (mu a n), .int .i64 (mu b n), .int .i64 (mu c n)]) (by simp [results, Try.results37, go_sem, mu]) rfl ⟨rfl, (by repeat (first | with_reducible exact New.refl _ | with_reducible assumption | with_reducible refine New.alloc ?_ _ | with_reducible refine New.drewN ?_ _ | with_reducible refine New.drew ?_ | with_reducible refine New.setCell ?_ (by first | omega | (simp; done) | (simp; omega)) _ | with_reducible refine New.tail (by assumption) ?_))⟩
theorem specWayTimes_any (a b c n : Int) (w : World) : Calls Try.prog 33 #[.agg #[.int .i64 a, .int .i64 b, .int .i64 c], .int .i64 n] w
    fun r w' => r = .returned (.agg #[.int .i64 (mu a n), .int .i64 (mu b n), .int .i64 (mu c n)]) ∧ New w w' := by
  go_enter Try.func33, Try.ntmps33
  go_wp2
  exact bodyPost_ret (v := .agg #[.int .i64 (mu a n), .int .i64 (mu b n), .int .i64 (mu c n)]) (by simp [results, Try.results33, go_sem, mu, Int.mul_comm]) rfl ⟨rfl, (by repeat (first | with_reducible exact New.refl _ | with_reducible assumption | with_reducible refine New.alloc ?_ _ | with_reducible refine New.drewN ?_ _ | with_reducible refine New.drew ?_ | with_reducible refine New.setCell ?_ (by first | omega | (simp; done) | (simp; omega)) _ | with_reducible refine New.tail (by assumption) ?_))⟩
theorem toWay_any (a b c : Int) (w : World) : Calls Try.prog 46 #[.agg #[.int .i64 a, .int .i64 b, .int .i64 c]] w
    fun r w' => r = .returned (.agg #[.int .i64 a, .int .i64 b, .int .i64 c]) ∧ New w w' := by
  go_enter Try.func46, Try.ntmps46
  go_wp2
  exact bodyPost_ret (v := .agg #[.int .i64 a, .int .i64 b, .int .i64 c]) (by simp [results, Try.results46, go_sem]) rfl ⟨rfl, (by repeat (first | with_reducible exact New.refl _ | with_reducible assumption | with_reducible refine New.alloc ?_ _ | with_reducible refine New.drewN ?_ _ | with_reducible refine New.drew ?_ | with_reducible refine New.setCell ?_ (by first | omega | (simp; done) | (simp; omega)) _ | with_reducible refine New.tail (by assumption) ?_))⟩
theorem eqWay_refl (a b c : Int) (w : World) : Calls Try.prog 17 #[.agg #[.int .i64 a, .int .i64 b, .int .i64 c], .agg #[.int .i64 a, .int .i64 b, .int .i64 c]] w
    fun r w' => r = .returned (.bool true) ∧ New w w' := by
  go_enter Try.func17, Try.ntmps17
  go_wp2
  go_ret
  exact ⟨rfl, (by repeat (first | with_reducible exact New.refl _ | with_reducible assumption | with_reducible refine New.alloc ?_ _ | with_reducible refine New.drewN ?_ _ | with_reducible refine New.drew ?_ | with_reducible refine New.setCell ?_ (by first | omega | (simp; done) | (simp; omega)) _ | with_reducible refine New.tail (by assumption) ?_))⟩
end Go.Proofs.Ytbjahideaonimaa
