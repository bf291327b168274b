/- Contracts of TreesWith (reference): how many trees have a leg. -/
import Derived.Test.YtbjahideaonimaaTrB
import Derived.Lib.SliceRun
namespace Go.Proofs.Ytbjahideaonimaa
open Go.RowKit
set_option linter.all false
def hasB (l : List Int) (x : Int) : Bool := l.any (· == x)
theorem hasB_yes {l : List Int} {x : Int} {k : Nat} (hk : k < l.length) (h : l[k] = x) : hasB l x = true := by
  unfold hasB; rw [List.any_eq_true]; exact ⟨l[k], List.getElem_mem hk, by simp [h]⟩
theorem hasB_no {l : List Int} {x : Int} (h : ∀ k (hk : k < l.length), l[k] ≠ x) : hasB l x = false := by
  unfold hasB; rw [List.any_eq_false]; intro y hy
  obtain ⟨k, hk, e⟩ := List.mem_iff_getElem.1 hy
  have := h k hk
  rw [e] at this
  simpa using this
theorem hasB_mem {l : List Int} {x : Int} : hasB l x = true ↔ x ∈ l := by
  unfold hasB; rw [List.any_eq_true]
  exact ⟨fun ⟨y, h1, h2⟩ => by simp at h2; rw [← h2]; exact h1, fun h => ⟨x, h, by simp⟩⟩
set_option maxHeartbeats 1000000 in
theorem l1Has_any (A : Option Addr) (cap : Nat) (l : List Int) (x : Int) (w : World) (h : IntsAt w A l) (hm : l.length ≤ 1000) :
    Calls Try.prog 40 #[.slice A l.length cap, .int .i64 x] w fun r w' => r = .returned (.bool (hasB l x)) ∧ w = w' := by
  go_enter Try.func40, Try.ntmps40
  go_wp2_with fail
  go_loop [5] (fun i => ∃ k : Nat, k ≤ l.length ∧ i = .int .i64 k ∧ Hid (∀ j (hj : j < l.length), j < k → l[j] ≠ x)) (fun i => l.length - (intOf i).toNat)
  case atStart => exact ⟨0, Nat.zero_le _, rfl, fun j _ h => absurd h (Nat.not_lt_zero _)⟩
  case round =>
    obtain ⟨k, hk, rfl, HD⟩ := hrel
    by_cases hlt : k < l.length
    · obtain ⟨b, off, y, hA, hy, hc⟩ := h.at_ hlt
      have hc0 := hc w (New.refl w)
      have HY := Lib.hid hy
      have hk0 : (0 : Int) ≤ (k : Int) := by omega
      have hk1 : (k : Int) < (l.length : Int) := by omega
      subst hA
      clear hc hy
      by_cases hyx : y = x
      · have t1 : (y == x) = true := by simpa using hyx
        have HH : Hid (hasB l x = true) := hasB_yes hlt (by rw [HY.out]; exact hyx)
        clear hyx
        go_wp2_with fail
        go_ret
        exact ⟨ret_bool HH.out.symm, rfl⟩
      · have t1 : (y == x) = false := by simpa using hyx
        go_wp2_with fail
        go_round
        case rel => exact ⟨k + 1, by omega, by go_num, fun j hj hjk => by
          rcases Nat.lt_or_ge j k with h1 | h1
          · exact HD.out j hj h1
          · obtain rfl : j = k := by omega
            rw [HY.out]; exact hyx⟩
        case measure => simp [intOf]; omega
    · obtain rfl : k = l.length := by omega
      have HH : Hid (hasB l x = false) := hasB_no fun k hk => HD.out k hk hk
      go_wp2_with fail
      go_ret
      exact ⟨ret_bool HH.out.symm, rfl⟩

theorem chI_has (s k i : Nat) (hi : i < k) : hasB (chI s k) (i : Int) = s.testBit i := by
  rw [Bool.eq_iff_iff, hasB_mem]
  unfold chI
  rw [List.mem_map]
  constructor
  · rintro ⟨a, ha, e⟩
    have e : a = i := by have : (a : Int) = (i : Int) := e; omega
    subst e
    simpa using (List.mem_filter.1 ha).2
  · intro h
    exact ⟨i, List.mem_filter.2 ⟨List.mem_range.2 hi, h⟩, rfl⟩
/-- How many of the first k rows have the number. -/
def hasN (M : List (List Int)) (x : Int) (k : Nat) : Nat := ((M.take k).filter fun r => hasB r x).length
theorem hasN_zero (M : List (List Int)) (x : Int) : hasN M x 0 = 0 := by simp [hasN]
theorem hasN_succ {M : List (List Int)} {x : Int} {k : Nat} (hk : k < M.length) {b : Bool} (hb : hasB M[k] x = b) : hasN M x (k + 1) = hasN M x k + if b then 1 else 0 := by
  unfold hasN
  rw [List.take_succ_eq_append_getElem hk, List.filter_append, List.length_append]
  cases b <;> simp [hb]
theorem hasN_le (M : List (List Int)) (x : Int) (k : Nat) : hasN M x k ≤ k := by unfold hasN; exact Nat.le_trans (List.length_filter_le ..) (by simp; omega)
/-- What TreesWith returns. -/
def twN (n : Nat) (L : List Lg) (i : Nat) : Nat := ((List.range (2 ^ L.length)).filter fun s => goodS n L s && s.testBit i).length
theorem hasN_all (n : Nat) (L : List Lg) (i : Nat) (hi : i < L.length) : hasN (trM n L (2 ^ L.length)) (i : Int) (trM n L (2 ^ L.length)).length = twN n L i := by
  unfold hasN twN
  rw [List.take_length]
  unfold trM
  rw [List.filter_map, List.length_map, List.filter_filter]
  congr 1
  apply List.filter_congr
  intro s _
  simp only [Function.comp, chI_has s L.length i hi, Bool.and_comm]
def twZ (st : Int) (L : List Lg) (ix : Int) : Int := if svB st L && ixB ix L.length then (twN st.toNat L ix.toNat : Int) else -1
theorem twZ_no1 {st : Int} {L : List Lg} {ix : Int} (h : svB st L = false) : twZ st L ix = -1 := by simp [twZ, h]
theorem twZ_no2 {st : Int} {L : List Lg} {ix : Int} (h : ixB ix L.length = false) : twZ st L ix = -1 := by simp [twZ, h]
theorem twZ_ok {n : Nat} {L : List Lg} {i : Nat} (h1 : svB n L = true) (h : i < L.length) : twZ n L i = (twN n L i : Int) := by
  unfold twZ
  rw [h1, ixB_t.2 (show (0 : Int) ≤ (i : Int) ∧ (i : Int) < (L.length : Int) by omega)]
  simp
set_option maxHeartbeats 4000000 in
theorem specTreesWith_ok (n i : Nat) (A : Option Addr) (cap : Nat) (L : List Lg) (w : World) (hL : LegsAt w A L) (hv : svB n L = true) (hi : i < L.length) :
    Calls Try.prog 20 #[.agg #[.int .i64 n, .slice A L.length cap], .int .i64 i] w fun r w' => r = .returned (.int .i64 (twN n L i : Int)) ∧ New w w' := by
  obtain ⟨b1, b2, b3, _⟩ := svB_true hv
  have HV := Lib.hid hv
  have HI : Hid (inB (i : Int) 0 ((L.length : Int) - 1) = true) := inB_t.2 (by omega)
  have h1 : New w (w.alloc (Obj.cells #[.int .i64 n, .slice A L.length cap] 33)) := (by repeat (first | with_reducible exact New.refl _ | with_reducible assumption | with_reducible refine New.alloc ?_ _ | with_reducible refine New.drewN ?_ _ | with_reducible refine New.drew ?_ | with_reducible refine New.setCell ?_ (by first | omega | (simp; done) | (simp; omega)) _ | with_reducible refine New.tail (by assumption) ?_))
  have h2 := Has.new w #[.int .i64 n, .slice A L.length cap] 33
  have hL' := hL.keep h1
  have HN := Lib.hid (hasN_all n L i hi)
  have hML := trM_len n L (2 ^ L.length)
  have h512 : 2 ^ L.length ≤ 512 := Nat.pow_le_pow_right (by decide : 2 > 0) b3
  have hrow : ∀ r ∈ trM n L (2 ^ L.length), r.length ≤ 9 := fun r hr => by
    unfold trM at hr
    rw [List.mem_map] at hr
    obtain ⟨s, _, rfl⟩ := hr
    have := chI_len s L.length
    omega
  have HROW := Lib.hid hrow
  clear hrow hL
  go_enter Try.func20, Try.ntmps20
  go_upto_region 1 with fail
  generalize (w.alloc (Obj.cells #[.int .i64 n, .slice A L.length cap] 33)) = W0 at *
  have c2 := h2.cells2
  go_wp2_with fail
  refine (specSurveyValid_any _ _ _ _ _ hL' (by omega)).mono ?_
  rw [HV.out]
  rintro _ w1 ⟨rfl, hn1⟩
  have c4 := fun w' (hn : New w1 w') => c2 w' (hn1.trans hn)
  go_wp2_with fail
  refine (l1In_any _ _ _ _).mono ?_
  rw [HI.out]
  rintro _ w2 ⟨rfl, rfl⟩
  go_wp2_with fail
  refine (treesAll_any n A cap L _ (hL'.keep hn1) HV.out).mono ?_
  rintro _ w3 ⟨B, cb, rfl, hM, hn3⟩
  obtain ⟨M, hMM⟩ : ∃ M, trM n L (2 ^ L.length) = M := ⟨_, rfl⟩
  rw [hMM] at hM HN HROW hML
  rw [hMM]
  have hM1 : M.length ≤ 512 := by omega
  have hk3 := h1.trans (hn1.trans hn3)
  clear hMM c2 c4 hn1 hn3 h2
  go_wp2_with fail
  go_loopw [7, 5] (fun j v wr => ∃ k : Nat, k ≤ M.length ∧ j = .int .i64 k ∧ v = .int .i64 (hasN M i k : Int) ∧ wr = w3) (fun j _ _ => M.length - (intOf j).toNat)
  case atStart => exact ⟨0, Nat.zero_le _, rfl, by rw [hasN_zero]; rfl, rfl⟩
  case round =>
    obtain ⟨k, hk, rfl, rfl, rfl⟩ := hrel
    have hle := hasN_le M i k
    by_cases hlt : k < M.length
    · obtain ⟨b, off, R, c, hA, hI, hc⟩ := hM.at_ hlt
      subst hA
      have hlt' : (k : Int) < (M.length : Int) := by omega
      have hk0 : (0 : Int) ≤ (k : Int) := by omega
      have hcc := hc wr (New.refl _)
      have hr9 := HROW.out _ (List.getElem_mem hlt)
      obtain ⟨r, hr⟩ : ∃ r, M[k] = r := ⟨_, rfl⟩
      obtain ⟨b, hb⟩ : ∃ b, hasB M[k] (i : Int) = b := ⟨_, rfl⟩
      have HS := Lib.hid (hasN_succ hlt hb)
      rw [hr] at hI hcc hr9 hb
      have HB := Lib.hid hb
      clear hr hb hc
      go_wp2_with fail
      refine (l1Has_any R c r i _ hI (by omega)).mono ?_
      rw [HB.out]
      rintro _ w4 ⟨rfl, rfl⟩
      cases b
      · go_wp2_with fail
        go_roundw
        case rel => exact ⟨k + 1, by omega, by go_num, by rw [HS.out]; rfl, trivial⟩
        case measure => simp [intOf]; omega
      · go_wp2_with fail
        go_roundw
        case rel => exact ⟨k + 1, by omega, by go_num, by rw [HS.out]; simp, trivial⟩
        case measure => simp [intOf]; omega
    · obtain rfl : k = M.length := by omega
      go_wp2_with fail
      rw [HN.out]
      go_ret
      exact ⟨rfl, hk3⟩
set_option maxHeartbeats 1000000 in
theorem specTreesWith_any (st ix : Int) (A : Option Addr) (cap : Nat) (L : List Lg) (w : World) (hL : LegsAt w A L) (hm : L.length ≤ 1099511627776) :
    Calls Try.prog 20 #[.agg #[.int .i64 st, .slice A L.length cap], .int .i64 ix] w fun r w' => r = .returned (.int .i64 (twZ st L ix)) ∧ New w w' := by
  have h1 : New w (w.alloc (Obj.cells #[.int .i64 st, .slice A L.length cap] 33)) := (by repeat (first | with_reducible exact New.refl _ | with_reducible assumption | with_reducible refine New.alloc ?_ _ | with_reducible refine New.drewN ?_ _ | with_reducible refine New.drew ?_ | with_reducible refine New.setCell ?_ (by first | omega | (simp; done) | (simp; omega)) _ | with_reducible refine New.tail (by assumption) ?_))
  have h2 := Has.new w #[.int .i64 st, .slice A L.length cap] 33
  have hL' := hL.keep h1
  cases hv : svB st L
  · have HV := Lib.hid hv
    clear hv
    go_enter Try.func20, Try.ntmps20
    go_wp2_with (go_at_call 24; refine (specSurveyValid_any _ _ _ _ _ hL' hm).mono ?_; rw [HV.out]; rintro _ w1 ⟨rfl, hn1⟩)
    go_ret
    exact ⟨ret_int (twZ_no1 HV.out).symm, h1.trans hn1⟩
  · cases hi : ixB ix L.length
    · have hi2 : inB ix 0 ((L.length : Int) - 1) = false := by rw [inB_f]; have := ixB_f.1 hi; omega
      have HV := Lib.hid hv
      have HI := Lib.hid hi
      have HI2 := Lib.hid hi2
      clear hv hi hi2
      go_enter Try.func20, Try.ntmps20
      go_upto_region 1 with fail
      generalize (w.alloc (Obj.cells #[.int .i64 st, .slice A L.length cap] 33)) = W0 at *
      have c2 := h2.cells2
      clear h2
      go_wp2_with fail
      refine (specSurveyValid_any _ _ _ _ _ hL' hm).mono ?_
      rw [HV.out]
      rintro _ w1 ⟨rfl, hn1⟩
      have c4 := fun w' (hn : New w1 w') => c2 w' (hn1.trans hn)
      clear c2
      go_wp2_with fail
      refine (l1In_any _ _ _ _).mono ?_
      (first | rw [HI2.out] | rw [show IntKind.i64.wrap ((L.length : Int) - 1) = (L.length : Int) - 1 by rw [IntKind.wrap_i64]; omega, HI2.out])
      rintro _ w2 ⟨rfl, rfl⟩
      go_wp2_with fail
      go_ret
      exact ⟨ret_int (twZ_no2 HI.out).symm, h1.trans hn1⟩
    · obtain ⟨n, rfl⟩ := svB_nat hv
      obtain ⟨x0, x1⟩ := ixB_t.1 hi
      obtain ⟨i, rfl⟩ := Int.eq_ofNat_of_zero_le x0
      rw [twZ_ok hv (show i < L.length by omega)]
      exact specTreesWith_ok n i A cap L w hL hv (by omega)
end Go.Proofs.Ytbjahideaonimaa
