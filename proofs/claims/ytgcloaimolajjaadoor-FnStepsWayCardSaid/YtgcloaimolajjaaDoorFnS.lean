/- Contracts of the laws' own helpers on steps: sameSteps, start, end; used legs. -/
import Derived.Test.YtgcloaimolajjaaDoorFnP2
import Derived.Test.YtgcloaimolajjaaDoorFnH
import Derived.Test.YtgcloaimolajjaaDoorEq
namespace Go.Proofs.YtgcloaimolajjaaDoor
open Go.RowKit
set_option linter.all false
set_option maxHeartbeats 1000000 in
theorem step_eq (w : World) (a d : Int) (b e : Bool) : (Op.equalIn 10000 40 (.agg #[.int .i64 a, .bool b]) (.agg #[.int .i64 d, .bool e])).run Tryd.prog w = .ok (decide (a = d ∧ b = e)) w := by
  have u3 := Tryd.underlying3
  have a3 := Tryd.isAgg3
  have z3 := Tryd.sizeOf3
  have u4 := Tryd.underlying4
  have a4 := Tryd.isAgg4
  have z4 := Tryd.sizeOf4
  have hS : Tryd.prog.underlying 40 = some (.struct (Tryd.prog.fieldsOf 40)) := by kernel_rfl
  have hp : Tryd.prog.stoodInHeld 40 = false := by kernel_rfl
  rw [show (10000 : Nat) = 9999 + 1 from rfl, run_equalIn_agg w 9999 _ _ _ hS hp]
  simp only [Program.fieldsOf, Tryd.underlying40]
  go_simp
  by_cases h1 : a = d <;> by_cases h2 : b = e <;> simp [h1, h2]
theorem step_neq (w : World) (a d : Int) (b e : Bool) : (binOp .neq 40 (.agg #[.int .i64 a, .bool b]) (.agg #[.int .i64 d, .bool e])).run Tryd.prog w = .ok (.bool (!decide (a = d ∧ b = e))) w := by
  rw [run_neq_struct, step_eq]; rfl
set_option maxHeartbeats 1000000 in
theorem sameSteps_same (A B : Option Addr) (ca cb : Nat) (S : List St) (w : World) (hA : StepsAt w A S) (hB : StepsAt w B S) (hm : S.length ≤ 1000) :
    Calls Tryd.prog 39 #[.slice A S.length ca, .slice B S.length cb] w fun r w' => r = .returned (.bool true) ∧ New w w' := by
  have q0 := step_neq
  go_enter Tryd.func39, Tryd.ntmps39
  go_wp2_with fail
  go_loopw [5] (fun i wr => ∃ k : Nat, k ≤ S.length ∧ i = .int .i64 k ∧ New w wr) (fun i _ => S.length - (intOf i).toNat)
  case atStart => exact ⟨0, Nat.zero_le _, rfl, New.refl _⟩
  case round =>
    obtain ⟨k, hk, rfl, hw⟩ := hrel
    by_cases hlt : k < S.length
    · obtain ⟨b, off, xi, xb, e1, hg, hc⟩ := (hA.keep hw).at_ hlt
      obtain ⟨b', off', xi', xb', e2, hg', hc'⟩ := (hB.keep hw).at_ hlt
      rw [hg] at hg'
      obtain ⟨rfl, rfl⟩ := St.mk.inj hg'
      subst e1 e2
      clear hg hg' hA hB
      have hk0 : (0 : Int) ≤ (k : Int) := by omega
      have hk1 : (k : Int) < (S.length : Int) := by omega
      go_wp2_with fail
      go_quiet (fail)
      go_wp2_with fail
      go_roundw
      case rel => exact ⟨k + 1, by omega, by go_num, hw.trans (by repeat (first | with_reducible exact New.refl _ | with_reducible assumption | with_reducible refine New.alloc ?_ _ | with_reducible refine New.drewN ?_ _ | with_reducible refine New.drew ?_ | with_reducible refine New.setCell ?_ (by first | omega | (simp; done) | (simp; omega)) _ | with_reducible refine New.tail (by assumption) ?_))⟩
      case measure => simp [intOf]; omega
    · obtain rfl : k = S.length := by omega
      clear q0
      go_wp2_with fail
      go_ret
      exact ⟨rfl, hw⟩
set_option maxHeartbeats 1000000 in
theorem start_any (st : Int) (A : Option Addr) (cap : Nat) (L : List Lg) (j : Nat) (b : Bool) (w : World) (hL : LegsAt w A L) (hj : j < L.length) :
    Calls Tryd.prog 41 #[.agg #[.int .i64 st, .slice A L.length cap], .agg #[.int .i64 j, .bool b]] w fun r w' => r = .returned (.int .i64 (sBeg L ⟨j, b⟩)) ∧ New w w' := by
  have hl := legAt_get hj
  obtain ⟨bb, off, f, t, e, n, u, hA, hg, hc⟩ := hL.at_ hj
  rw [hg] at hl
  have Hb : Hid (sBeg L ⟨j, b⟩ = bk b t f) := by unfold sBeg; rw [hl]; rfl
  have hj0 : (0 : Int) ≤ (j : Int) := by omega
  have hj1 : (j : Int) < (L.length : Int) := by omega
  rw [Hb.out]
  have hk : New w ((w.alloc (.cells #[.int .i64 st, .slice A L.length cap] 25)).alloc (.cells #[.int .i64 j, .bool b] 40)) := (by repeat (first | with_reducible exact New.refl _ | with_reducible assumption | with_reducible refine New.alloc ?_ _ | with_reducible refine New.drewN ?_ _ | with_reducible refine New.drew ?_ | with_reducible refine New.setCell ?_ (by first | omega | (simp; done) | (simp; omega)) _ | with_reducible refine New.tail (by assumption) ?_))
  have h2 := (Has.new w #[.int .i64 st, .slice A L.length cap] 25).alloc (.cells #[.int .i64 j, .bool b] 40)
  have h3 := Has.new (w.alloc (.cells #[.int .i64 st, .slice A L.length cap] 25)) #[.int .i64 j, .bool b] 40
  rw [World.size_alloc] at h3
  subst hA
  clear hl hg hL
  go_enter Tryd.func41, Tryd.ntmps41
  go_upto_region 1 with fail
  generalize ((w.alloc (.cells #[.int .i64 st, .slice (some ⟨bb, off, none⟩) L.length cap] 25)).alloc (.cells #[.int .i64 j, .bool b] 40)) = W0 at *
  have c2 := h2.at2
  have c3 := h3.at2
  have c4 := hc W0 hk
  clear hc
  cases b
  · go_wp2_with fail
    go_ret
    exact ⟨rfl, hk⟩
  · go_wp2_with fail
    go_ret
    exact ⟨rfl, hk⟩
set_option maxHeartbeats 1000000 in
theorem end_any (st : Int) (A : Option Addr) (cap : Nat) (L : List Lg) (j : Nat) (b : Bool) (w : World) (hL : LegsAt w A L) (hj : j < L.length) :
    Calls Tryd.prog 42 #[.agg #[.int .i64 st, .slice A L.length cap], .agg #[.int .i64 j, .bool b]] w fun r w' => r = .returned (.int .i64 (sEnd L ⟨j, b⟩)) ∧ New w w' := by
  have hl := legAt_get hj
  obtain ⟨bb, off, f, t, e, n, u, hA, hg, hc⟩ := hL.at_ hj
  rw [hg] at hl
  have Hb : Hid (sEnd L ⟨j, b⟩ = bk b f t) := by unfold sEnd; rw [hl]; rfl
  have hj0 : (0 : Int) ≤ (j : Int) := by omega
  have hj1 : (j : Int) < (L.length : Int) := by omega
  rw [Hb.out]
  have hk : New w ((w.alloc (.cells #[.int .i64 st, .slice A L.length cap] 25)).alloc (.cells #[.int .i64 j, .bool b] 40)) := (by repeat (first | with_reducible exact New.refl _ | with_reducible assumption | with_reducible refine New.alloc ?_ _ | with_reducible refine New.drewN ?_ _ | with_reducible refine New.drew ?_ | with_reducible refine New.setCell ?_ (by first | omega | (simp; done) | (simp; omega)) _ | with_reducible refine New.tail (by assumption) ?_))
  have h2 := (Has.new w #[.int .i64 st, .slice A L.length cap] 25).alloc (.cells #[.int .i64 j, .bool b] 40)
  have h3 := Has.new (w.alloc (.cells #[.int .i64 st, .slice A L.length cap] 25)) #[.int .i64 j, .bool b] 40
  rw [World.size_alloc] at h3
  subst hA
  clear hl hg hL
  go_enter Tryd.func42, Tryd.ntmps42
  go_upto_region 1 with fail
  generalize ((w.alloc (.cells #[.int .i64 st, .slice (some ⟨bb, off, none⟩) L.length cap] 25)).alloc (.cells #[.int .i64 j, .bool b] 40)) = W0 at *
  have c2 := h2.at2
  have c3 := h3.at2
  have c4 := hc W0 hk
  clear hc
  cases b
  · go_wp2_with fail
    go_ret
    exact ⟨rfl, hk⟩
  · go_wp2_with fail
    go_ret
    exact ⟨rfl, hk⟩
/-- The legs of the first steps. -/
def usedL (S : List St) (k : Nat) : List Int := (S.take k).map St.i
theorem usedL_len {S : List St} {k : Nat} (hk : k ≤ S.length) : (usedL S k).length = k := by unfold usedL; rw [List.length_map, List.length_take]; omega
theorem usedL_succ {S : List St} {k : Nat} (hk : k < S.length) {x : St} (hx : S[k] = x) : usedL S (k + 1) = usedL S k ++ [x.i] := by
  unfold usedL
  rw [List.take_add_one, List.getElem?_eq_getElem hk, hx, List.map_append]
  rfl
theorem usedL_no {S : List St} (hn : (S.map St.i).Nodup) {k : Nat} (hk : k < S.length) {x : St} (hx : S[k] = x) : (usedL S k).any (· == x.i) = false := by
  rw [List.any_eq_false]
  intro y hy
  unfold usedL at hy
  rw [List.mem_map] at hy
  obtain ⟨z, hz, rfl⟩ := hy
  obtain ⟨j, hj, rfl⟩ := List.getElem_of_mem hz
  rw [List.length_take] at hj
  rw [List.getElem_take]
  intro e
  have e' : S[j].i = S[k].i := by rw [hx]; simpa using e
  have h1 : j < (S.map St.i).length := by rw [List.length_map]; omega
  have h2 : k < (S.map St.i).length := by rw [List.length_map]; omega
  have := (List.getElem_inj (h₀ := h1) (h₁ := h2) hn).1 (by rw [List.getElem_map, List.getElem_map]; exact e')
  omega
end Go.Proofs.YtgcloaimolajjaaDoor
