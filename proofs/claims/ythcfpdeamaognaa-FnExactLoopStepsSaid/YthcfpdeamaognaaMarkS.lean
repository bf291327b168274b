/- markStepS and heldStepS: steps in new memory, marked and looked at again. -/
import Derived.Test.YthcfpdeamaognaaBfsM
import Derived.Test.YthcfpdeamaognaaMarks
namespace Go.Proofs.Ythcfpdeamaognaa
open Go.RowKit
set_option linter.all false
def mkSt (k : Nat) : St := ⟨1 + 2 * (k : Int), (2 + 2 * (k : Int)) % 3 == 0⟩
def mkS (n : Nat) : List St := (List.range n).map mkSt
theorem mkS_length (n : Nat) : (mkS n).length = n := by simp [mkS]
theorem mkS_get (n k : Nat) (h : k < n) : (mkS n)[k]? = some (mkSt k) := by simp [mkS, h]
def msTo (S : List St) (k : Nat) : List St := mkS k ++ S.drop k
theorem msTo_zero (S : List St) : msTo S 0 = S := by simp [msTo, mkS]
theorem msTo_all (S : List St) : msTo S S.length = mkS S.length := by simp [msTo]
theorem msTo_len (S : List St) (k : Nat) (h : k ≤ S.length) : (msTo S k).length = S.length := by simp [msTo, mkS_length]; omega
theorem msTo_set (S : List St) (k : Nat) (h : k < S.length) : (msTo S k).set k (mkSt k) = msTo S (k + 1) := by
  unfold msTo mkS
  rw [List.range_succ, List.map_append, List.set_append_right _ _ (by simp)]
  have e2 : k - ((List.range k).map mkSt).length = 0 := by simp
  rw [e2, List.drop_eq_getElem_cons h, List.set_cons_zero]
  simp only [List.map_cons, List.map_nil, List.append_assoc, List.singleton_append]
set_option maxHeartbeats 1000000 in
theorem markStepS_blk (g ca n : Nat) (S : List St) (w : World) (hln : S.length = n) (h : StepBlk w g S) (hm : n ≤ 1000) :
    Calls Try.prog 37 #[.slice (some ⟨g, 0, none⟩) n ca, .int .i64 1] w fun r w' => r = .returned (.int .i64 (1 + 2 * n)) ∧ Only g w w' ∧ StepBlk w' g (mkS n) := by
  subst hln
  go_enter Try.func37, Try.ntmps37
  go_wp2_with fail
  go_loopw [5, 1] (fun i v wr => ∃ k : Nat, k ≤ S.length ∧ i = .int .i64 k ∧ v = .int .i64 (1 + 2 * k) ∧ Only g w wr ∧ StepBlk wr g (msTo S k)) (fun i _ _ => S.length - (intOf i).toNat)
  case atStart => exact ⟨0, Nat.zero_le _, rfl, by simp, Only.refl _ _, by rw [msTo_zero]; exact h⟩
  case round =>
    obtain ⟨k, hk, rfl, rfl, hw, hi⟩ := hrel
    by_cases hlt : k < S.length
    · have Hset := Lib.hid (msTo_set S k hlt)
      have hl : k < (msTo S k).length := by rw [msTo_len _ _ (by omega)]; exact hlt
      have HL := Lib.hid hl
      obtain ⟨x, hx⟩ : ∃ x, (msTo S k)[k]? = some x := ⟨_, List.getElem?_eq_getElem hl⟩
      have c1 := hi.cell hx
      have f1 := hi.free
      have e2 : (1 + 2 * (k : Int) + 1) % 3 = (2 + 2 * (k : Int)) % 3 := by rw [show 1 + 2 * (k : Int) + 1 = 2 + 2 * (k : Int) by omega]
      have E2 := Lib.hid e2
      have c2 : ∀ v, ((wr.setCell ⟨g, k * 2, none⟩ v).cell? ⟨g, k * 2 + 1, none⟩).isSome = true := fun v => by
        obtain ⟨cs, h1, h2, h3⟩ := hi
        rw [(h1.set (k * 2) v).cells (k * 2 + 1) _ (New.refl _), Array.getElem?_setIfInBounds, if_neg (by omega), Array.getElem?_eq_getElem (by omega)]
        rfl
      have f2 : ∀ v, (wr.setCell ⟨g, k * 2, none⟩ v).frozen? ⟨g, k * 2 + 1, none⟩ = false := fun v => by
        obtain ⟨cs, h1, h2, h3⟩ := hi
        exact (h1.set (k * 2) v).free _
      have HI := Lib.hid (hi.set k (mkSt k) hl)
      clear hl e2 hi hx
      go_wp2_with fail
      go_roundw
      case rel =>
        have h2 := HI.out
        rw [Hset.out] at h2
        refine ⟨k + 1, by omega, by go_num, ?_, (hw.setCell (p := ⟨g, k * 2, none⟩) rfl _).setCell (p := ⟨g, k * 2 + 1, none⟩) rfl _, by rw [E2.out]; exact h2⟩
        simp; omega
      case measure => simp [intOf]; omega
    · obtain rfl : k = S.length := by omega
      go_wp2_with fail
      go_ret
      exact ⟨rfl, hw, by rw [← msTo_all]; exact hi⟩
theorem markStepS_at (A : Option Addr) (ca n : Nat) (S : List St) (w0 w : World) (hln : S.length = n) (h : FSteps w0 w A S) (hn : w0.heap.size ≤ w.heap.size) (hm : n ≤ 1000) :
    Calls Try.prog 37 #[.slice A n ca, .int .i64 1] w fun r w' => r = .returned (.int .i64 (1 + 2 * n)) ∧ Below w0.heap.size w w' ∧ FSteps w0 w' A (mkS n) := by
  by_cases hl : S = []
  · subst hl
    subst hln
    go_enter Try.func37, Try.ntmps37
    go_wp2_with fail
    refine wp_loop_rounds 1 ?_
    rw [rounds_succ]
    go_wp2_with fail
    go_ret
    exact ⟨by simp, Below.refl _ _, by intro h; simp [mkS] at h⟩
  · obtain ⟨g, rfl, hg, hi⟩ := h hl
    exact (markStepS_blk g ca n S w hln hi hm).mono fun e w' ⟨he, ho, hi'⟩ => ⟨he, ho.below hg hn, fun _ => ⟨g, rfl, hg, hi'⟩⟩
set_option maxHeartbeats 1000000 in
theorem heldStepS_any (A : Option Addr) (ca n : Nat) (w : World) (h : StepsAt w A (mkS n)) (hm : n ≤ 1000) :
    Calls Try.prog 38 #[.slice A n ca, .int .i64 1] w fun r w' => r = .returned (.int .i64 (1 + 2 * n)) ∧ New w w' := by
  go_enter Try.func38, Try.ntmps38
  go_wp2_with fail
  go_loopw [5, 1] (fun i v wr => ∃ k : Nat, k ≤ n ∧ i = .int .i64 k ∧ v = .int .i64 (1 + 2 * k) ∧ New w wr) (fun i _ _ => n - (intOf i).toNat)
  case atStart => exact ⟨0, Nat.zero_le _, rfl, by simp, New.refl _⟩
  case round =>
    obtain ⟨k, hk, rfl, rfl, hw⟩ := hrel
    by_cases hlt : k < n
    · have hl : k < (mkS n).length := by rw [mkS_length]; exact hlt
      obtain ⟨b, off, i, bb, hA, hx, hc⟩ := (h.keep hw).at_ hl
      have hg := mkS_get n k hlt
      rw [List.getElem?_eq_getElem hl, hx] at hg
      simp only [mkSt, Option.some.injEq, St.mk.injEq] at hg
      obtain ⟨rfl, rfl⟩ := hg
      have e2 : (1 + 2 * (k : Int) + 1) % 3 = (2 + 2 * (k : Int)) % 3 := by rw [show 1 + 2 * (k : Int) + 1 = 2 + 2 * (k : Int) by omega]
      have e3 : (1 + 2 * (k : Int) != 1 + 2 * (k : Int)) = false := by simp
      have e4 : (((2 + 2 * (k : Int)) % 3 == 0) != ((2 + 2 * (k : Int)) % 3 == 0)) = false := by simp
      have hk0 : (0 : Int) ≤ (k : Int) := by omega
      have hk1 : (k : Int) < (n : Int) := by omega
      subst hA
      clear hx hl
      go_wp2_with fail
      go_roundw
      case rel =>
        refine ⟨k + 1, by omega, by go_num, ?_, hw⟩
        simp; omega
      case measure => simp [intOf]; omega
    · obtain rfl : k = n := by omega
      go_wp2_with fail
      go_ret
      exact ⟨rfl, hw⟩
end Go.Proofs.Ythcfpdeamaognaa
