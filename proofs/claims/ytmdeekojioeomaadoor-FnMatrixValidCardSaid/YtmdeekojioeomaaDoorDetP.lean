/- Determinants in plain Lean: by minors along the first row; the same over sets of free columns. -/
import Derived.Test.YtmdeekojioeomaaDoorTurn
namespace Go.Proofs.YtmdeekojioeomaaDoor
set_option linter.all false
def sgn (k : Nat) : Int := if k % 2 = 0 then 1 else -1
theorem sgn_zero : sgn 0 = 1 := rfl
theorem sgn_succ (k : Nat) : sgn (k + 1) = -sgn k := by
  unfold sgn
  by_cases h : k % 2 = 0
  · rw [if_pos h, if_neg (by omega)]
  · rw [if_neg h, if_pos (by omega)]; rfl
theorem sgn_cases (k : Nat) : sgn k = 1 ∨ sgn k = -1 := by unfold sgn; split <;> simp
def minor (M : List (List Int)) (k : Nat) : List (List Int) := M.tail.map fun r => r.eraseIdx k
def detR : Nat → List (List Int) → Int
  | 0, _ => 1
  | n + 1, M => ((List.range (n + 1)).map fun k => sgn k * mAt M 0 k * detR n (minor M k)).sum
/-- The sum of the first k terms. -/
def detP (n : Nat) (M : List (List Int)) (k : Nat) : Int := ((List.range k).map fun k => sgn k * mAt M 0 k * detR n (minor M k)).sum
theorem detP_zero (n : Nat) (M : List (List Int)) : detP n M 0 = 0 := rfl
theorem detP_succ (n : Nat) (M : List (List Int)) (k : Nat) : detP n M (k + 1) = detP n M k + sgn k * mAt M 0 k * detR n (minor M k) := by
  unfold detP; rw [List.range_succ, List.map_append, List.sum_append]; simp
theorem detP_all (n : Nat) (M : List (List Int)) : detP n M (n + 1) = detR (n + 1) M := rfl
/-- A square of small numbers. -/
def Sq (n : Nat) (M : List (List Int)) : Prop := M.length = n ∧ ∀ r ∈ M, r.length = n ∧ ∀ x ∈ r, -999 ≤ x ∧ x ≤ 999
theorem Sq.minor {n : Nat} {M : List (List Int)} (h : Sq (n + 1) M) {k : Nat} (hk : k < n + 1) : Sq n (minor M k) := by
  obtain ⟨h1, h2⟩ := h
  refine ⟨by simp [Go.Proofs.YtmdeekojioeomaaDoor.minor, h1], fun r hr => ?_⟩
  unfold Go.Proofs.YtmdeekojioeomaaDoor.minor at hr
  rw [List.mem_map] at hr
  obtain ⟨q, hq, rfl⟩ := hr
  obtain ⟨a, b⟩ := h2 q (List.mem_of_mem_tail hq)
  exact ⟨by rw [List.length_eraseIdx, if_pos (by omega)]; omega, fun x hx => b x (List.mem_of_mem_eraseIdx hx)⟩
theorem Sq.entry {n : Nat} {M : List (List Int)} (h : Sq n M) (r c : Nat) : -999 ≤ mAt M r c ∧ mAt M r c ≤ 999 := by
  unfold mAt
  simp only [List.getD_eq_getElem?_getD]
  by_cases hr : r < M.length
  · rw [List.getElem?_eq_getElem hr, Option.getD_some]
    by_cases hc : c < M[r].length
    · rw [List.getElem?_eq_getElem hc]
      exact (h.2 _ (List.getElem_mem hr)).2 _ (List.getElem_mem hc)
    · rw [List.getElem?_eq_none (by omega)]; simp
  · rw [List.getElem?_eq_none (show M.length ≤ r by omega)]; simp
def detB : Nat → Nat
  | 0 => 1
  | n + 1 => (n + 1) * (999 * detB n)
theorem natAbs_mul3 (a b c : Int) : (a * b * c).natAbs = a.natAbs * b.natAbs * c.natAbs := by rw [Int.natAbs_mul, Int.natAbs_mul]
theorem sgn_abs (k : Nat) : (sgn k).natAbs = 1 := by rcases sgn_cases k with h | h <;> rw [h] <;> rfl
theorem detP_le {n : Nat} {M : List (List Int)} (h : Sq (n + 1) M) (ih : ∀ k, k < n + 1 → (detR n (minor M k)).natAbs ≤ detB n) : ∀ k, k ≤ n + 1 → (detP n M k).natAbs ≤ k * (999 * detB n) := by
  intro k
  induction k with
  | zero => intro _; simp [detP]
  | succ k ik =>
    intro hk
    rw [detP_succ]
    have h1 := ik (by omega)
    have h2 : (sgn k * mAt M 0 k * detR n (minor M k)).natAbs ≤ 999 * detB n := by
      rw [natAbs_mul3, sgn_abs, Nat.one_mul]
      have := h.entry 0 k
      exact Nat.mul_le_mul (by omega) (ih k (by omega))
    have h3 := Int.natAbs_add_le (detP n M k) (sgn k * mAt M 0 k * detR n (minor M k))
    rw [Nat.succ_mul]
    omega
theorem detR_le : ∀ {n : Nat} {M : List (List Int)}, Sq n M → (detR n M).natAbs ≤ detB n := by
  intro n
  induction n with
  | zero => intro M _; simp [detR, detB]
  | succ n ih =>
    intro M h
    have := detP_le h (fun k hk => ih (h.minor hk)) (n + 1) (Nat.le_refl _)
    rw [detP_all] at this
    exact this
theorem detB_le {n : Nat} (h : n ≤ 4) : 999 * detB n ≤ 36028797018963968 := by
  have : n = 0 ∨ n = 1 ∨ n = 2 ∨ n = 3 ∨ n = 4 := by omega
  rcases this with rfl | rfl | rfl | rfl | rfl <;> decide
/-- One term, and the sum ahead of it, are small. -/
theorem det_small {n : Nat} {M : List (List Int)} (h : Sq (n + 1) M) (hn : n ≤ 4) (k : Nat) (hk : k < n + 1) :
    (-36028797018963968 ≤ mAt M 0 k * detR n (minor M k) ∧ mAt M 0 k * detR n (minor M k) ≤ 36028797018963968) ∧ (-180143985094819840 ≤ detP n M k ∧ detP n M k ≤ 180143985094819840) ∧ (-36028797018963968 ≤ detR n (minor M k) ∧ detR n (minor M k) ≤ 36028797018963968) := by
  have hb := detB_le hn
  have h1 := detR_le (h.minor hk)
  have h2 := detP_le h (fun k hk => detR_le (h.minor hk)) k (by omega)
  have h3 : (mAt M 0 k * detR n (minor M k)).natAbs ≤ 999 * detB n := by
    rw [Int.natAbs_mul]
    have := h.entry 0 k
    exact Nat.mul_le_mul (by omega) h1
  have h4 : k * (999 * detB n) ≤ 5 * 36028797018963968 := Nat.mul_le_mul (by omega) hb
  refine ⟨by omega, by omega, by omega⟩
/-- The rows from one on, in the columns F. -/
def sub (M : List (List Int)) (row : Nat) (F : List Nat) : List (List Int) := (M.drop row).map fun r => F.map fun c => r.getD c 0
theorem sub_minor (M : List (List Int)) (row : Nat) (F : List Nat) (j : Nat) : minor (sub M row F) j = sub M (row + 1) (F.eraseIdx j) := by
  unfold minor sub
  rw [← List.map_tail, List.tail_drop, List.map_map]
  apply List.map_congr_left
  intro r _
  simp [List.eraseIdx_eq_take_drop_succ]
theorem sub_at (M : List (List Int)) (row : Nat) (F : List Nat) (j c : Nat) (hr : row < M.length) (hj : F[j]? = some c) : mAt (sub M row F) 0 j = mAt M row c := by
  unfold mAt sub
  rw [List.drop_eq_getElem_cons hr]
  simp [hj, hr]
theorem sub_zero {M : List (List Int)} {n : Nat} (h : Sq n M) : sub M 0 (List.range n) = M := by
  unfold sub
  rw [List.drop_zero]
  conv => rhs; rw [← List.map_id M]
  apply List.map_congr_left
  intro r hr
  have hl := (h.2 r hr).1
  apply List.ext_getElem?
  intro i
  by_cases hi : i < n
  · simp [hi, List.getElem?_eq_getElem (show i < r.length by omega)]
  · simp [hi]; omega
theorem sub_sq {M : List (List Int)} {n : Nat} (h : Sq n M) (row : Nat) (F : List Nat) (hF : F.length = n - row) : Sq (n - row) (sub M row F) := by
  refine ⟨by simp [sub, h.1], fun r hr => ?_⟩
  unfold sub at hr
  rw [List.mem_map] at hr
  obtain ⟨q, hq, rfl⟩ := hr
  have hq2 := h.2 q (List.mem_of_mem_drop hq)
  refine ⟨by simp [hF], fun x hx => ?_⟩
  rw [List.mem_map] at hx
  obtain ⟨c, _, rfl⟩ := hx
  by_cases hc : c < q.length
  · rw [List.getD_eq_getElem?_getD, List.getElem?_eq_getElem hc]
    exact hq2.2 _ (List.getElem_mem hc)
  · rw [List.getD_eq_getElem?_getD, List.getElem?_eq_none (by omega)]; simp
end Go.Proofs.YtmdeekojioeomaaDoor
