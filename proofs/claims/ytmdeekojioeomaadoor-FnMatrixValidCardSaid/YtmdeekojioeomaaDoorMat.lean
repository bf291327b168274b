/- Matrices in memory; contracts of MatrixValid (program and reference) and of the laws' helpers on matrices. -/
import Derived.Test.YtmdeekojioeomaaDoorInts
import Derived.Test.YtmdeekojioeomaaDoorOpen
namespace Go.Proofs.YtmdeekojioeomaaDoor
open Go.ChangeShapes Go.WideShapes Go.ChangeAt Go.RowKit Go.Deep Go.Joins
set_option linter.all false
/-- The slice at A reads as these rows. -/
def MatAt (w : World) (A : Option Addr) (M : List (List Int)) : Prop :=
  M ≠ [] → ∃ b off, A = some ⟨b, off, none⟩ ∧ b < w.heap.size ∧ ∀ (k : Nat) (r : List Int), M[k]? = some r → ∃ R c, w.cell? ⟨b, off + k, none⟩ = some (.slice R r.length c) ∧ IntsAt w R r
theorem MatAt.keep {w w' : World} {A : Option Addr} {M : List (List Int)} (h : MatAt w A M) (hn : New w w') : MatAt w' A M := fun hne => by
  obtain ⟨b, off, e, hb, hc⟩ := h hne
  refine ⟨b, off, e, Nat.lt_of_lt_of_le hb hn.size, fun k r hk => ?_⟩
  obtain ⟨R, c, h1, h2⟩ := hc k r hk
  exact ⟨R, c, (New.cell hn (p := ⟨b, off + k, none⟩) hb).trans h1, h2.keep hn⟩
theorem MatAt.at_ {w : World} {A : Option Addr} {M : List (List Int)} (h : MatAt w A M) {k : Nat} (hk : k < M.length) : ∃ b off R c, A = some ⟨b, off, none⟩ ∧ IntsAt w R M[k] ∧ ∀ w', New w w' → w'.cell? ⟨b, off + k, none⟩ = some (.slice R M[k].length c) := by
  obtain ⟨b, off, e, hb, hc⟩ := h (by intro h0; subst h0; simp at hk)
  obtain ⟨R, c, h1, h2⟩ := hc k _ (List.getElem?_eq_getElem hk)
  exact ⟨b, off, R, c, e, h2, fun w' hn => (New.cell hn (p := ⟨b, off + k, none⟩) hb).trans h1⟩
def fitB (r : List Int) : Bool := r.all fun x => inB x (-999) 999
def mvB (M : List (List Int)) : Bool := decide (M.length ≤ 5) && M.all fun r => decide (r.length = M.length) && fitB r
theorem fitB_bad {r : List Int} {k : Nat} (hk : k < r.length) (h : inB r[k] (-999) 999 = false) : fitB r = false := by
  unfold fitB; rw [List.all_eq_false]; exact ⟨_, List.getElem_mem hk, by simp [h]⟩
theorem fitB_good {r : List Int} (h : ∀ k (hk : k < r.length), inB r[k] (-999) 999 = true) : fitB r = true := by
  unfold fitB; rw [List.all_eq_true]; intro x hx
  obtain ⟨k, hk, rfl⟩ := List.getElem_of_mem hx
  exact h k hk
theorem mvB_big {M : List (List Int)} (h : ¬ M.length ≤ 5) : mvB M = false := by simp [mvB, h]
theorem mvB_bad {M : List (List Int)} {k : Nat} (hk : k < M.length) (h : (decide (M[k].length = M.length) && fitB M[k]) = false) : mvB M = false := by
  unfold mvB
  have : (M.all fun r => decide (r.length = M.length) && fitB r) = false := by rw [List.all_eq_false]; exact ⟨_, List.getElem_mem hk, by simpa using h⟩
  rw [this]; simp
theorem mvB_good {M : List (List Int)} (h5 : M.length ≤ 5) (h : ∀ k (hk : k < M.length), M[k].length = M.length ∧ fitB M[k] = true) : mvB M = true := by
  unfold mvB
  simp only [Bool.and_eq_true, decide_eq_true_eq, List.all_eq_true]
  refine ⟨h5, fun r hr => ?_⟩
  obtain ⟨k, hk, rfl⟩ := List.getElem_of_mem hr
  exact h k hk
theorem mvB_true {M : List (List Int)} (h : mvB M = true) : M.length ≤ 5 ∧ ∀ r ∈ M, r.length = M.length ∧ ∀ x ∈ r, -999 ≤ x ∧ x ≤ 999 := by
  unfold mvB fitB at h
  simp only [Bool.and_eq_true, decide_eq_true_eq, List.all_eq_true, inB_t] at h
  exact h
theorem wi_in999 (x : Int) : wiB x 999 = inB x (-999) 999 := by rw [Bool.eq_iff_iff, wiB_t, inB_t]
theorem entriesFit_any (A : Option Addr) (cap n : Nat) (r : List Int) (w : World) (hln : r.length = n) (h : IntsAt w A r) (hm : n ≤ 1099511627776) :
    Calls Tryd.prog 37 #[.slice A n cap] w fun e w' => e = .returned (.bool (fitB r)) ∧ New w w' := by
  subst hln
  go_enter Tryd.func37, Tryd.ntmps37
  go_wp2_with fail
  go_loopw [7, 4] (fun i _ wr => ∃ k : Nat, k ≤ r.length ∧ i = .int .i64 k ∧ New w wr ∧ ∀ j (hj : j < r.length), j < k → inB r[j] (-999) 999 = true) (fun i _ _ => r.length - (intOf i).toNat)
  case atStart => exact ⟨0, Nat.zero_le _, rfl, New.refl _, fun j hj h => absurd h (Nat.not_lt_zero _)⟩
  case round =>
    obtain ⟨k, hk, rfl, hw, hall⟩ := hrel
    have Hall := Lib.hid hall
    clear hall
    by_cases hlt : k < r.length
    · obtain ⟨b, off, x, hA, hx, hc⟩ := (h.keep hw).at_ hlt
      subst hA
      have HX := Lib.hid hx
      clear hx
      cases hv : inB x (-999) 999
      · have HV := Lib.hid ((wi_in999 x).trans hv)
        have HV2 := Lib.hid hv
        clear hv
        go_wp2_with (go_at_call 41; refine (isWithin_any _ _ _ (by omega) (by omega)).mono ?_; rw [HV.out]; rintro e w1 ⟨rfl, rfl⟩)
        go_ret
        exact ⟨ret_bool (fitB_bad hlt (by rw [HX.out]; exact HV2.out)).symm, hw⟩
      · have HV := Lib.hid ((wi_in999 x).trans hv)
        have HV2 := Lib.hid hv
        clear hv
        go_wp2_with (go_at_call 41; refine (isWithin_any _ _ _ (by omega) (by omega)).mono ?_; rw [HV.out]; rintro e w1 ⟨rfl, rfl⟩)
        go_roundw
        case rel => exact ⟨k + 1, by omega, by go_num, hw, fun j hj h => by
          rcases Nat.lt_or_ge j k with hjk | hjk
          · exact Hall.out j hj hjk
          · obtain rfl : j = k := by omega
            rw [HX.out]; exact HV2.out⟩
        case measure => simp [intOf]; omega
    · go_wp2_with fail
      go_ret
      exact ⟨ret_bool (fitB_good fun j hj => Hall.out j hj (by omega)).symm, hw⟩
set_option maxHeartbeats 1000000 in
theorem implMatrixValid_any (A : Option Addr) (cap : Nat) (M : List (List Int)) (w : World) (h : MatAt w A M) (hm : M.length ≤ 1099511627776) (hr : ∀ r ∈ M, r.length ≤ 1099511627776) :
    Calls Tryd.prog 19 #[.slice A M.length cap] w fun e w' => e = .returned (.bool (mvB M)) ∧ New w w' := by
  have HR := Lib.hid hr
  clear hr
  by_cases h5 : M.length ≤ 5
  · go_enter Tryd.func19, Tryd.ntmps19
    go_wp2_with fail
    go_loopw [10, 4] (fun i _ wr => ∃ k : Nat, k ≤ M.length ∧ i = .int .i64 k ∧ New w wr ∧ ∀ j (hj : j < M.length), j < k → M[j].length = M.length ∧ fitB M[j] = true) (fun i _ _ => M.length - (intOf i).toNat)
    case atStart => exact ⟨0, Nat.zero_le _, rfl, New.refl _, fun j hj h => absurd h (Nat.not_lt_zero _)⟩
    case round =>
      obtain ⟨k, hk, rfl, hw, hall⟩ := hrel
      have Hall := Lib.hid hall
      clear hall
      by_cases hlt : k < M.length
      · obtain ⟨b, off, R, c, hA, hI, hc⟩ := (h.keep hw).at_ hlt
        subst hA
        have hlen := HR.out M[k] (List.getElem_mem hlt)
        obtain ⟨r, hrk⟩ : ∃ r, M[k] = r := ⟨_, rfl⟩
        have HK := Lib.hid hrk
        rw [hrk] at hI hc hlen
        clear hrk
        by_cases hl : r.length = M.length
        · have HL := Lib.hid hl
          have hl1 : ((r.length : Int) != (M.length : Int)) = false := by simp [hl]
          clear hl
          cases hf : fitB r
          · have HF := Lib.hid hf
            clear hf
            go_wp2_with (go_at_call 37; refine (entriesFit_any _ _ _ _ _ rfl hI hlen).mono ?_; rw [HF.out]; rintro e w1 ⟨rfl, hn⟩)
            go_ret
            exact ⟨ret_bool (mvB_bad hlt (by rw [HK.out, HF.out]; simp)).symm, hw.trans hn⟩
          · have HF := Lib.hid hf
            clear hf
            go_wp2_with (go_at_call 37; refine (entriesFit_any _ _ _ _ _ rfl hI hlen).mono ?_; rw [HF.out]; rintro e w1 ⟨rfl, hn⟩)
            go_roundw
            case rel => exact ⟨k + 1, by omega, by go_num, hw.trans hn, fun j hj h => by
              rcases Nat.lt_or_ge j k with hjk | hjk
              · exact Hall.out j hj hjk
              · obtain rfl : j = k := by omega
                rw [HK.out]; exact ⟨HL.out, HF.out⟩⟩
            case measure => simp [intOf]; omega
        · have HL := Lib.hid hl
          have hl1 : ((r.length : Int) != (M.length : Int)) = true := by simp; omega
          clear hl
          go_wp2_with fail
          go_ret
          exact ⟨ret_bool (mvB_bad hlt (by rw [HK.out]; simp; intro h; exact absurd h HL.out)).symm, hw⟩
      · go_wp2_with fail
        go_ret
        exact ⟨ret_bool (mvB_good h5 fun j hj => Hall.out j hj (by omega)).symm, hw⟩
  · have h5' : (5 : Int) < (M.length : Int) := by omega
    go_enter Tryd.func19, Tryd.ntmps19
    go_wp2_with fail
    go_ret
    exact ⟨ret_bool (mvB_big h5).symm, New.refl _⟩
set_option maxHeartbeats 1000000 in
theorem specMatrixValid_any (A : Option Addr) (cap : Nat) (M : List (List Int)) (w : World) (h : MatAt w A M) (hm : M.length ≤ 1099511627776) (hr : ∀ r ∈ M, r.length ≤ 1099511627776) :
    Calls Tryd.prog 20 #[.slice A M.length cap] w fun e w' => e = .returned (.bool (mvB M)) ∧ New w w' := by
  have HR := Lib.hid hr
  clear hr
  go_enter Tryd.func20, Tryd.ntmps20
  go_wp2_with fail
  go_loopw [3, 4] (fun i _ wr => ∃ k : Nat, k ≤ M.length ∧ i = .int .i64 k ∧ New w wr ∧ ∀ j (hj : j < M.length), j < k → M[j].length = M.length ∧ fitB M[j] = true) (fun i _ _ => M.length - (intOf i).toNat)
  case atStart => exact ⟨0, Nat.zero_le _, rfl, New.refl _, fun j hj h => absurd h (Nat.not_lt_zero _)⟩
  case round =>
    obtain ⟨k, hk, rfl, hw, hall⟩ := hrel
    have Hall := Lib.hid hall
    clear hall
    by_cases hlt : k < M.length
    · obtain ⟨b, off, R, c, hA, hI, hc⟩ := (h.keep hw).at_ hlt
      subst hA
      have hlen := HR.out M[k] (List.getElem_mem hlt)
      obtain ⟨r, hrk⟩ : ∃ r, M[k] = r := ⟨_, rfl⟩
      have HK := Lib.hid hrk
      rw [hrk] at hI hc hlen
      clear hrk
      by_cases hl : r.length = M.length
      · have HL := Lib.hid hl
        have hl1 : ((r.length : Int) != (M.length : Int)) = false := by simp [hl]
        clear hl
        go_wp2_with fail
        obtain ⟨wo, hwo⟩ : ∃ wo : World, wo = wr := ⟨_, rfl⟩
        have HW := Lib.hid hwo
        clear hwo
        go_loopw [4] (fun i wi => ∃ q : Nat, q ≤ r.length ∧ i = .int .i64 q ∧ New wr wi ∧ ∀ j (hj : j < r.length), j < q → inB r[j] (-999) 999 = true) (fun i _ => r.length - (intOf i).toNat)
        case atStart => exact ⟨0, Nat.zero_le _, rfl, New.refl _, fun j hj h => absurd h (Nat.not_lt_zero _)⟩
        case round =>
          obtain ⟨q, hq, rfl, hwi, hin⟩ := hrel
          have Hin := Lib.hid hin
          clear hin
          by_cases hql : q < r.length
          · obtain ⟨b2, off2, x, hR, hx, hcx⟩ := (hI.keep hwi).at_ hql
            subst hR
            have HX := Lib.hid hx
            clear hx
            cases hv : inB x (-999) 999
            · have HV := Lib.hid hv
              clear hv
              go_wp2_with (go_at_call 38; refine (l1In_any _ _ _ _).mono ?_; rw [HV.out]; rintro e w1 ⟨rfl, rfl⟩)
              go_ret
              exact ⟨ret_bool (mvB_bad hlt (by rw [HK.out, fitB_bad hql (by rw [HX.out]; exact HV.out)]; simp)).symm, hw.trans hwi⟩
            · have HV := Lib.hid hv
              clear hv
              go_wp2_with (go_at_call 38; refine (l1In_any _ _ _ _).mono ?_; rw [HV.out]; rintro e w1 ⟨rfl, rfl⟩)
              go_roundw
              case rel => exact ⟨q + 1, by omega, by go_num, hwi, fun j hj h => by
                rcases Nat.lt_or_ge j q with hjk | hjk
                · exact Hin.out j hj hjk
                · obtain rfl : j = q := by omega
                  rw [HX.out]; exact HV.out⟩
              case measure => simp [intOf]; omega
          · go_wp2_with fail
            go_roundw
            case rel => exact ⟨k + 1, by omega, by go_num, hw.trans hwi, fun j hj h => by
              rcases Nat.lt_or_ge j k with hjk | hjk
              · exact Hall.out j hj hjk
              · obtain rfl : j = k := by omega
                rw [HK.out]; exact ⟨HL.out, fitB_good fun a ha => Hin.out a ha (by omega)⟩⟩
            case measure => simp [intOf]; omega
      · have HL := Lib.hid hl
        have hl1 : ((r.length : Int) != (M.length : Int)) = true := by simp; omega
        clear hl
        go_wp2_with fail
        go_ret
        exact ⟨ret_bool (mvB_bad hlt (by rw [HK.out]; simp; intro h; exact absurd h HL.out)).symm, hw⟩
    · by_cases h5 : M.length ≤ 5
      · go_wp2_with fail
        go_ret
        exact ⟨ret_bool (by rw [mvB_good h5 fun j hj => Hall.out j hj (by omega)]; simp; omega), hw⟩
      · go_wp2_with fail
        go_ret
        exact ⟨ret_bool (by rw [mvB_big h5]; simp; omega), hw⟩
end Go.Proofs.YtmdeekojioeomaaDoor
