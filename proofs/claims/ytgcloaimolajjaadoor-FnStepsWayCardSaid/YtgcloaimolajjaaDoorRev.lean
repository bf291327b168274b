/- slices.Reverse at steps. -/
import Derived.Test.YtgcloaimolajjaaDoorBfsM
namespace Go.Proofs.YtgcloaimolajjaaDoor
open Go.RowKit
set_option linter.all false
/-- The first k and the last k have been exchanged. -/
def rvT (S : List St) (k : Nat) : List St := (List.range S.length).map fun i => if i < k ∨ S.length ≤ i + k then S.getD (S.length - 1 - i) ⟨0, false⟩ else S.getD i ⟨0, false⟩
theorem rvT_len (S : List St) (k : Nat) : (rvT S k).length = S.length := by simp [rvT]
theorem rvT_get (S : List St) (k i : Nat) (h : i < S.length) : (rvT S k)[i]? = some (if i < k ∨ S.length ≤ i + k then S.getD (S.length - 1 - i) ⟨0, false⟩ else S.getD i ⟨0, false⟩) := by simp [rvT, h]
theorem rvT_zero (S : List St) : rvT S 0 = S := by
  apply List.ext_getElem?
  intro i
  by_cases h : i < S.length
  · rw [rvT_get S 0 i h, if_neg (by omega), List.getD_eq_getElem?_getD, List.getElem?_eq_getElem h]; rfl
  · rw [List.getElem?_eq_none (by rw [rvT_len]; omega), List.getElem?_eq_none (by omega)]
theorem rvT_all (S : List St) (k : Nat) (h : S.length ≤ 2 * k + 1) : rvT S k = S.reverse := by
  apply List.ext_getElem?
  intro i
  by_cases hi : i < S.length
  · rw [rvT_get S k i hi, List.getElem?_reverse hi, List.getD_eq_getElem?_getD, List.getD_eq_getElem?_getD]
    by_cases hc : i < k ∨ S.length ≤ i + k
    · rw [if_pos hc, List.getElem?_eq_getElem (show S.length - 1 - i < S.length by omega)]; rfl
    · rw [if_neg hc, show S.length - 1 - i = i by omega, List.getElem?_eq_getElem hi]; rfl
  · rw [List.getElem?_eq_none (by rw [rvT_len]; omega), List.getElem?_eq_none (by simp; omega)]
theorem rvT_set (S : List St) (k m : Nat) (hkm : k + m + 1 = S.length) (hlt : k < m) : ((rvT S k).set k (S.getD m ⟨0, false⟩)).set m (S.getD k ⟨0, false⟩) = rvT S (k + 1) := by
  apply List.ext_getElem?
  intro i
  by_cases hi : i < S.length
  · rw [rvT_get S (k + 1) i hi, List.getElem?_set, List.getElem?_set, List.length_set, rvT_len, rvT_get S k i hi]
    by_cases h1 : m = i
    · subst h1
      rw [if_pos rfl, if_pos hi, if_pos (by omega), show S.length - 1 - m = k by omega]
    · rw [if_neg h1]
      by_cases h2 : k = i
      · subst h2
        rw [if_pos rfl, if_pos hi, if_pos (by omega), show S.length - 1 - k = m by omega]
      · rw [if_neg h2]
        by_cases hc : i < k ∨ S.length ≤ i + k
        · rw [if_pos hc, if_pos (by omega)]
        · rw [if_neg hc, if_neg (by omega)]
  · rw [List.getElem?_eq_none (by simp [rvT_len]; omega), List.getElem?_eq_none (by rw [rvT_len]; omega)]
theorem rvT_at (S : List St) (k m : Nat) (hkm : k + m + 1 = S.length) (hlt : k < m) : (rvT S k)[k]? = some (S.getD k ⟨0, false⟩) ∧ (rvT S k)[m]? = some (S.getD m ⟨0, false⟩) := by
  rw [rvT_get S k k (by omega), rvT_get S k m (by omega), if_neg (by omega), if_neg (by omega)]
  exact ⟨rfl, rfl⟩
set_option maxHeartbeats 1000000 in
theorem stepsReverse_blk (g cap n : Nat) (S : List St) (w : World) (hln : S.length = n) (h : StepBlk w g S) (hn0 : 0 < n) (hn : n ≤ 1000) :
    Calls Tryd.prog 76 #[.slice (some ⟨g, 0, none⟩) n cap] w fun e w' => e = .returned (.tuple #[]) ∧ Only g w w' ∧ StepBlk w' g S.reverse := by
  have HL := Lib.hid hln
  clear hln
  go_enter Tryd.func76, Tryd.ntmps76
  go_wp2_with fail
  go_loopw [2, 3] (fun i j wr => ∃ k m : Nat, k + m + 1 = n ∧ i = .int .i64 k ∧ j = .int .i64 m ∧ Only g w wr ∧ StepBlk wr g (rvT S k)) (fun i j _ => (intOf j).toNat)
  case atStart => exact ⟨0, n - 1, by omega, rfl, by go_num, Only.refl _ _, by rw [rvT_zero]; exact h⟩
  case round =>
    obtain ⟨k, m, hkm, rfl, rfl, hw, hb⟩ := hrel
    have hkm' : k + m + 1 = S.length := by rw [HL.out]; exact hkm
    by_cases hlt : k < m
    · obtain ⟨r1, r2⟩ := rvT_at S k m hkm' hlt
      have hst := rvT_set S k m hkm' hlt
      obtain ⟨x, hx⟩ : ∃ x, S.getD k ⟨0, false⟩ = x := ⟨_, rfl⟩
      obtain ⟨y, hy⟩ : ∃ y, S.getD m ⟨0, false⟩ = y := ⟨_, rfl⟩
      rw [hx] at r1 hst
      rw [hy] at r2 hst
      obtain ⟨xi, xb⟩ := x
      obtain ⟨yi, yb⟩ := y
      have HS := Lib.hid hst
      obtain ⟨c1, c2⟩ := hb.cell r1 wr (New.refl _)
      obtain ⟨c3, c4⟩ := hb.cell r2 wr (New.refl _)
      have f := fun k => hb.free k wr (New.refl _)
      have hlt' : (k : Int) < (m : Int) := by omega
      have hk0 : (0 : Int) ≤ (k : Int) := by omega
      have hm0 : (0 : Int) ≤ (m : Int) := by omega
      have hkn : (k : Int) < (n : Int) := by omega
      have hmn : (m : Int) < (n : Int) := by omega
      clear hx hy r1 r2 hst
      have b1 := (hb.set k ⟨yi, yb⟩ (by rw [rvT_len]; omega)).set m ⟨xi, xb⟩ (by rw [List.length_set, rvT_len]; omega)
      rw [HS.out] at b1
      have HB := Lib.hid (b1.keep ((New.refl _).drew))
      have HO := Lib.hid (Only.drew ((((hw.setCell (p := ⟨g, k * 2, none⟩) rfl (.int .i64 yi)).setCell (p := ⟨g, k * 2 + 1, none⟩) rfl (.bool yb)).setCell (p := ⟨g, m * 2, none⟩) rfl (.int .i64 xi)).setCell (p := ⟨g, m * 2 + 1, none⟩) rfl (.bool xb)))
      clear b1
      go_wp2_with fail
      go_region
      all_goals
        go_wp2_with fail
        go_roundw
        case rel => exact ⟨k + 1, m - 1, by omega, by go_num, by go_num, HO.out, HB.out⟩
        case measure => simp [intOf]; omega
    · have hnlt : ¬ (k : Int) < (m : Int) := by omega
      have hr := rvT_all S k (by omega)
      rw [hr] at hb
      clear hr
      go_wp2_with fail
      go_end0
      exact ⟨rfl, hw, hb⟩
theorem stepsReverse_any (A : Option Addr) (cap n : Nat) (S : List St) (w0 w : World) (hln : S.length = n) (h : FSteps w0 w A S) (hs : w0.heap.size ≤ w.heap.size) (hn : n ≤ 1000) :
    Calls Tryd.prog 76 #[.slice A n cap] w fun e w' => e = .returned (.tuple #[]) ∧ Below w0.heap.size w w' ∧ FSteps w0 w' A S.reverse := by
  by_cases h0 : S = []
  · subst h0
    subst hln
    go_enter Tryd.func76, Tryd.ntmps76
    go_wp2_with fail
    refine wp_loop_rounds 1 ?_
    rw [rounds_succ]
    go_wp2_with fail
    go_end0
    exact ⟨rfl, Below.refl _ _, FSteps.nil⟩
  · obtain ⟨g, rfl, hg, hb⟩ := h h0
    have hl : 0 < n := by rw [← hln]; exact List.length_pos_iff.2 h0
    exact (stepsReverse_blk g cap n S w hln hb hl hn).mono fun e w' ⟨h1, h2, h3⟩ => ⟨h1, h2.below hg hs, fun _ => ⟨g, rfl, hg, h3⟩⟩
end Go.Proofs.YtgcloaimolajjaaDoor
