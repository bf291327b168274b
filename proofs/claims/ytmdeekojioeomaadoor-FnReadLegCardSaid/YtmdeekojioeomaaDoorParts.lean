/- Contracts of Parts, PartsMany, LoopsMany (program and reference). -/
import Derived.Test.YtmdeekojioeomaaDoorInts
namespace Go.Proofs.YtmdeekojioeomaaDoor
open Go.RowKit
set_option linter.all false
theorem svB_true {st : Int} {L : List Lg} (h : svB st L = true) : 1 ≤ st ∧ st ≤ 6 ∧ L.length ≤ 9 ∧ ∀ g ∈ L, Lg.ok st g = true := by
  unfold svB at h
  simp only [Bool.and_eq_true, decide_eq_true_eq, inB_t, List.all_eq_true] at h
  exact ⟨h.1.1.1, h.1.1.2, h.1.2, h.2⟩
theorem ok_facts {n : Nat} {g : Lg} (h : Lg.ok n g = true) : 0 ≤ g.f ∧ g.f < n ∧ 0 ≤ g.t ∧ g.t < n ∧ g.f ≠ g.t := by
  unfold Lg.ok at h
  rw [legB_t] at h
  omega
theorem partsL_length (n : Nat) (L : List Lg) : (partsL n L).length = n := by
  unfold partsL
  suffices ∀ l : List Int, (L.foldl (fun l g => joinL l g.f g.t) l).length = l.length by rw [this, ownL_length]
  induction L with
  | nil => intro l; rfl
  | cons g L ih => intro l; rw [List.foldl_cons, ih, joinL_length]
theorem partsL_take (n : Nat) (L : List Lg) (k : Nat) (g : Lg) (hk : L[k]? = some g) : partsL n (L.take (k + 1)) = joinL (partsL n (L.take k)) g.f g.t := by
  rw [List.take_add_one, hk]
  unfold partsL
  rw [List.foldl_append]
  rfl
/-- What PartsMany returns. -/
def pmZ (st : Int) (L : List Lg) : Int := if svB st L then (cntL (partsL st.toNat L) st.toNat : Nat) else -1
def lmZ (st : Int) (L : List Lg) : Int := if svB st L then (L.length : Int) - st + pmZ st L else -1
theorem pmZ_no {st : Int} {L : List Lg} (h : svB st L = false) : pmZ st L = -1 := by simp [pmZ, h]
theorem pmZ_ok {n : Nat} {L : List Lg} (h : svB n L = true) : pmZ n L = (cntL (partsL n L) n : Nat) := by simp [pmZ, h]
theorem lmZ_no {st : Int} {L : List Lg} (h : svB st L = false) : lmZ st L = -1 := by simp [lmZ, h]
theorem lmZ_ok {st : Int} {L : List Lg} (h : svB st L = true) : lmZ st L = (L.length : Int) - st + pmZ st L := by simp [lmZ, h]
theorem pmZ_bd (st : Int) (L : List Lg) : -1 ≤ pmZ st L ∧ pmZ st L ≤ 6 := by
  unfold pmZ
  split
  · rename_i h
    have := svB_true h
    have := cntL_le (partsL st.toNat L) st.toNat
    omega
  · omega
theorem svB_nat {st : Int} {L : List Lg} (h : svB st L = true) : ∃ n : Nat, st = n := ⟨st.toNat, by have := (svB_true h).1; omega⟩
end Go.Proofs.YtmdeekojioeomaaDoor
