/- Contracts of WayAdd, WayTimes (program and reference), toWay, eqWay. -/
import Derived.Test.YtgcloaimolajjaaDoorScal
namespace Go.Proofs.YtgcloaimolajjaaDoor
open Go.RowKit
set_option linter.all false
def ad (a b : Int) : Int := wrap64 (a + b)
def mu (a b : Int) : Int := wrap64 (a * b)
def ng (a : Int) : Int := wrap64 (-a)
theorem mu_comm (a b : Int) : mu a b = mu b a := by unfold mu; rw [Int.mul_comm]
theorem ad_comm (a b : Int) : ad a b = ad b a := by unfold ad; rw [Int.add_comm]
theorem implWayAdd_any (a b c d e f : Int) (w : World) : Calls Tryd.prog 49 #[.agg #[.int .i64 a, .int .i64 b, .int .i64 c], .agg #[.int .i64 d, .int .i64 e, .int .i64 f]] w
    fun r w' => r = .returned (.agg #[.int .i64 (ad a d), .int .i64 (ad b e), .int .i64 (ad c f)]) ∧ New w w' := by
  go_enter Tryd.func49, Tryd.ntmps49
  go_wp2
  exact bodyPost_ret (v := .agg #[.int .i64 (ad a d), .int .i64 (ad b e), .int .i64 (ad c f)]) (by simp [results, Tryd.results49, go_sem, ad]) rfl ⟨rfl, (by repeat (first | with_reducible exact New.refl _ | with_reducible assumption | with_reducible refine New.alloc ?_ _ | with_reducible refine New.drewN ?_ _ | with_reducible refine New.drew ?_ | with_reducible refine New.setCell ?_ (by first | omega | (simp; done) | (simp; omega)) _ | with_reducible refine New.tail (by assumption) ?_))⟩
theorem specWayAdd_any (a b c d e f : Int) (w : World) : Calls Tryd.prog 79 #[.agg #[.int .i64 a, .int .i64 b, .int .i64 c], .agg #[.int .i64 d, .int .i64 e, .int .i64 f]] w
    fun r w' => r = .returned (.agg #[.int .i64 (ad a d), .int .i64 (ad b e), .int .i64 (ad c f)]) ∧ New w w' := by
  go_enter Tryd.func79, Tryd.ntmps79
  go_wp2
  exact bodyPost_ret (v := .agg #[.int .i64 (ad a d), .int .i64 (ad b e), .int .i64 (ad c f)]) (by simp [results, Tryd.results79, go_sem, ad]) rfl ⟨rfl, (by repeat (first | with_reducible exact New.refl _ | with_reducible assumption | with_reducible refine New.alloc ?_ _ | with_reducible refine New.drewN ?_ _ | with_reducible refine New.drew ?_ | with_reducible refine New.setCell ?_ (by first | omega | (simp; done) | (simp; omega)) _ | with_reducible refine New.tail (by assumption) ?_))⟩
theorem implWayTimes_any (a b c n : Int) (w : World) : Calls Tryd.prog 56 #[.agg #[.int .i64 a, .int .i64 b, .int .i64 c], .int .i64 n] w
    fun r w' => r = .returned (.agg #[.int .i64 (mu a n), .int .i64 (mu b n), .int .i64 (mu c n)]) ∧ New w w' := by
  go_enter Tryd.func56, Tryd.ntmps56
  go_wp2
  exact bodyPost_ret (v := .agg #[.int .i64 (mu a n), .int .i64 (mu b n), .int .i64 (mu c n)]) (by simp [results, Tryd.results56, go_sem, mu]) rfl ⟨rfl, (by repeat (first | with_reducible exact New.refl _ | with_reducible assumption | with_reducible refine New.alloc ?_ _ | with_reducible refine New.drewN ?_ _ | with_reducible refine New.drew ?_ | with_reducible refine New.setCell ?_ (by first | omega | (simp; done) | (simp; omega)) _ | with_reducible refine New.tail (by assumption) ?_))⟩
theorem specWayTimes_any (a b c n : Int) (w : World) : Calls Tryd.prog 81 #[.agg #[.int .i64 a, .int .i64 b, .int .i64 c], .int .i64 n] w
    fun r w' => r = .returned (.agg #[.int .i64 (mu a n), .int .i64 (mu b n), .int .i64 (mu c n)]) ∧ New w w' := by
  go_enter Tryd.func81, Tryd.ntmps81
  go_wp2
  exact bodyPost_ret (v := .agg #[.int .i64 (mu a n), .int .i64 (mu b n), .int .i64 (mu c n)]) (by simp [results, Tryd.results81, go_sem, mu, Int.mul_comm]) rfl ⟨rfl, (by repeat (first | with_reducible exact New.refl _ | with_reducible assumption | with_reducible refine New.alloc ?_ _ | with_reducible refine New.drewN ?_ _ | with_reducible refine New.drew ?_ | with_reducible refine New.setCell ?_ (by first | omega | (simp; done) | (simp; omega)) _ | with_reducible refine New.tail (by assumption) ?_))⟩
end Go.Proofs.YtgcloaimolajjaaDoor
