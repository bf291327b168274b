/- Contracts of l2Det and Det (reference) and Det (program). -/
import Derived.Test.YtmopbghngaeplaaMinor
namespace Go.Proofs.Ytmopbghngaeplaa
open Go.RowKit
set_option linter.all false
set_option maxHeartbeats 4000000 in
theorem specL2Det_any : ∀ (n N : Nat) (A : Option Addr) (cap : Nat) (M : List (List Int)) (w : World), N = n → Sq N M → n ≤ 5 → MatC w A M →
    Calls Try.prog 62 #[.slice A N cap] w fun e w' => e = .returned (.int .i64 (detR n M)) ∧ New w w' := by
  intro n
  induction n with
  | zero =>
    intro N A cap M w hN hsq h5 hM
    subst hN
    go_enter Try.func62, Try.ntmps62
    go_wp2_with fail
    go_ret
    exact ⟨rfl, New.refl _⟩
  | succ n ih =>
    intro N A cap M w hN hsq h5 hM
    have IH := Lib.hid ih
    have HN := Lib.hid hN
    have HSQ := Lib.hid hsq
    have h0M : 0 < M.length := by rw [hsq.1]; omega
    obtain ⟨b, off, R, c0, hA, hq, hI, hc⟩ := hM.at_ h0M
    subst hA
    have hlen : M[0].length = N := (hsq.2 _ (List.getElem_mem h0M)).1
    have Hme : Hid (∀ q, q < N → M[0][q]? = some (mAt M 0 q)) := fun q hq => by rw [List.getElem?_eq_getElem (by omega), mAt_get h0M (by omega)]
    obtain ⟨r, hrk⟩ : ∃ r, M[0] = r := ⟨_, rfl⟩
    rw [hrk] at hI hc hlen Hme
    rw [hlen] at hc
    simp only [Nat.add_zero] at hc
    have HL := Lib.hid hlen
    have hN0 : ((N : Int) == 0) = false := by simp; omega
    have hNp : (0 : Int) < (N : Int) := by omega
    have hNn : 0 < N := by omega
    have hminor := fun c (hc : c < n + 1) => specMinor_any (some ⟨b, off, none⟩) cap n N c M
    have hdet : Sq (n + 1) M := by rw [← hN]; exact hsq
    have HDS := Lib.hid hdet
    clear hrk hlen hsq ih hdet hN hq
    go_enter Try.func62, Try.ntmps62
    go_wp2_with fail
    go_loopw [5, 3, 4] (fun i s g wr => ∃ k : Nat, k ≤ N ∧ i = .int .i64 k ∧ s = .int .i64 (detP n M k) ∧ g = .int .i64 (sgn k) ∧ New w wr) (fun i _ _ _ => N - (intOf i).toNat)
    case atStart => exact ⟨0, Nat.zero_le _, rfl, rfl, rfl, New.refl _⟩
    case round =>
      obtain ⟨k, hk, rfl, rfl, rfl, hw⟩ := hrel
      by_cases hlt : k < N
      · have hlt' : (k : Int) < (N : Int) := by omega
        have hk0 : (0 : Int) ≤ (k : Int) := by omega
        obtain ⟨b2, off2, x, hR, hx, hcx⟩ := hI.at_ (k := k) (by rw [HL.out]; exact hlt)
        subst hR
        have hxm : x = mAt M 0 k := by
          have h2 := Hme.out k hlt
          rw [List.getElem?_eq_getElem (by rw [HL.out]; exact hlt), hx] at h2
          simpa using h2
        have hkn : k < n + 1 := by have := HN.out; omega
        obtain ⟨⟨p1, p2⟩, ⟨q1, q2⟩, r1, r2⟩ := det_small HDS.out (by omega) k hkn
        have h5x := HDS.out.entry 0 k
        have hdp := detP_succ n M k
        rw [← hxm] at p1 p2 hdp h5x
        obtain ⟨dt, hdt⟩ : ∃ dt, detR n (minor M k) = dt := ⟨_, rfl⟩
        have HDT := Lib.hid hdt
        rw [hdt] at p1 p2 r1 r2 hdp
        obtain ⟨dp, hdpe⟩ : ∃ dp, detP n M k = dp := ⟨_, rfl⟩
        rw [hdpe] at hdp q1 q2
        have HDP := Lib.hid hdp
        have HSN := Lib.hid (sgn_succ k)
        have hm := Int.neg_mul x dt
        have p3 : -36028797018963968 ≤ -x * dt := by rw [hm]; omega
        have p4 : -x * dt ≤ 36028797018963968 := by rw [hm]; omega
        have HMN := Lib.hid (HDS.out.minor hkn)
        have HMC := Lib.hid hM
        have HSQN : Hid (Sq N M) := HSQ
        rw [hdpe]
        clear hx hxm hdp hdt hdpe hm hM hminor HSQ
        by_cases hx0 : x = 0
        · subst hx0
          rcases sgn_cases k with hs | hs
          · rw [hs] at HSN HDP ⊢
            go_wp2_with fail
            go_roundw
            case rel => exact ⟨k + 1, by omega, by go_num, by rw [HDP.out]; simp, by first | (rw [HSN.out]; rfl) | rw [HSN.out], hw⟩
            case measure => simp [intOf]; omega
          · rw [hs] at HSN HDP ⊢
            go_wp2_with fail
            go_roundw
            case rel => exact ⟨k + 1, by omega, by go_num, by rw [HDP.out]; simp, by first | (rw [HSN.out]; rfl) | rw [HSN.out], hw⟩
            case measure => simp [intOf]; omega
        · have hx0' : (x != 0) = true := by simpa using hx0
          rcases sgn_cases k with hs | hs
          · rw [hs] at HSN HDP ⊢
            have e1 : IntKind.i64.wrap x = x := by rw [IntKind.wrap_i64]; omega
            have e2 : IntKind.i64.wrap (x * dt) = x * dt := by rw [IntKind.wrap_i64]; omega
            have e3 : IntKind.i64.wrap (dp + x * dt) = dp + x * dt := by rw [IntKind.wrap_i64]; omega
            go_wp2_with fail
            go_region_held3 (fun w' => New w w') ((repeat (first | with_reducible exact New.refl _ | with_reducible assumption | with_reducible refine New.alloc ?_ _ | with_reducible refine New.drewN ?_ _ | with_reducible refine New.drew ?_ | with_reducible refine New.setCell ?_ (by first | omega | (simp; done) | (simp; omega)) _ | with_reducible refine New.tail (by assumption) ?_))) (first
              | (go_at_call 70; refine (specMinor_any _ _ n N k M _ HN.out HSQN.out (by omega) (by omega) (HMC.out.keep (by repeat (first | with_reducible exact New.refl _ | with_reducible assumption | with_reducible refine New.alloc ?_ _ | with_reducible refine New.drewN ?_ _ | with_reducible refine New.drew ?_ | with_reducible refine New.setCell ?_ (by first | omega | (simp; done) | (simp; omega)) _ | with_reducible refine New.tail (by assumption) ?_)))).mono ?_; rintro e w1 ⟨B1, cp1, rfl, hM1, hn1⟩)
              | (go_at_call 62; refine (IH.out n _ _ _ _ rfl HMN.out (by omega) hM1).mono ?_; rw [HDT.out]; rintro e w2 ⟨rfl, hn2⟩))
            go_wp2_with fail
            go_roundw
            case rel => exact ⟨k + 1, by omega, by go_num, by rw [HDP.out]; simp, by first | (rw [HSN.out]; rfl) | rw [HSN.out], (by repeat (first | with_reducible exact New.refl _ | with_reducible assumption | with_reducible refine New.alloc ?_ _ | with_reducible refine New.drewN ?_ _ | with_reducible refine New.drew ?_ | with_reducible refine New.setCell ?_ (by first | omega | (simp; done) | (simp; omega)) _ | with_reducible refine New.tail (by assumption) ?_))⟩
            case measure => simp [intOf]; omega
          · rw [hs] at HSN HDP ⊢
            have e1 : IntKind.i64.wrap (-x) = -x := by rw [IntKind.wrap_i64]; omega
            have e2 : IntKind.i64.wrap (-x * dt) = -x * dt := by rw [IntKind.wrap_i64]; omega
            have e3 : IntKind.i64.wrap (dp + -x * dt) = dp + -x * dt := by rw [IntKind.wrap_i64]; omega
            go_wp2_with fail
            go_region_held3 (fun w' => New w w') ((repeat (first | with_reducible exact New.refl _ | with_reducible assumption | with_reducible refine New.alloc ?_ _ | with_reducible refine New.drewN ?_ _ | with_reducible refine New.drew ?_ | with_reducible refine New.setCell ?_ (by first | omega | (simp; done) | (simp; omega)) _ | with_reducible refine New.tail (by assumption) ?_))) (first
              | (go_at_call 70; refine (specMinor_any _ _ n N k M _ HN.out HSQN.out (by omega) (by omega) (HMC.out.keep (by repeat (first | with_reducible exact New.refl _ | with_reducible assumption | with_reducible refine New.alloc ?_ _ | with_reducible refine New.drewN ?_ _ | with_reducible refine New.drew ?_ | with_reducible refine New.setCell ?_ (by first | omega | (simp; done) | (simp; omega)) _ | with_reducible refine New.tail (by assumption) ?_)))).mono ?_; rintro e w1 ⟨B1, cp1, rfl, hM1, hn1⟩)
              | (go_at_call 62; refine (IH.out n _ _ _ _ rfl HMN.out (by omega) hM1).mono ?_; rw [HDT.out]; rintro e w2 ⟨rfl, hn2⟩))
            go_wp2_with fail
            go_roundw
            case rel => exact ⟨k + 1, by omega, by go_num, by rw [HDP.out]; simp, by first | (rw [HSN.out]; rfl) | rw [HSN.out], (by repeat (first | with_reducible exact New.refl _ | with_reducible assumption | with_reducible refine New.alloc ?_ _ | with_reducible refine New.drewN ?_ _ | with_reducible refine New.drew ?_ | with_reducible refine New.setCell ?_ (by first | omega | (simp; done) | (simp; omega)) _ | with_reducible refine New.tail (by assumption) ?_))⟩
            case measure => simp [intOf]; omega
      · obtain rfl : k = N := by omega
        have HK := HN.out
        clear hM hminor
        go_wp2_with fail
        go_ret
        exact ⟨ret_int (by rw [HK]; exact detP_all _ _), hw⟩
/-- What Det returns. -/
def detM (M : List (List Int)) : Int := if mvB M then detR M.length M else 0
theorem mvB_sq {M : List (List Int)} (h : mvB M = true) : Sq M.length M := ⟨rfl, (mvB_true h).2⟩
set_option maxHeartbeats 1000000 in
theorem specDet_any (A : Option Addr) (cap : Nat) (M : List (List Int)) (w : World) (hM : MatC w A M) (hm : M.length ≤ 1099511627776) (hr : ∀ r ∈ M, r.length ≤ 1099511627776) :
    Calls Try.prog 37 #[.slice A M.length cap] w fun e w' => e = .returned (.int .i64 (detM M)) ∧ New w w' := by
  have HR := Lib.hid hr
  clear hr
  cases hv : mvB M
  · go_enter Try.func37, Try.ntmps37
    go_wp2_with fail
    refine (specMatrixValid_any _ _ _ _ hM.reads hm HR.out).mono ?_
    rw [hv]
    rintro e w1 ⟨rfl, hn⟩
    go_wp2_with fail
    go_ret
    exact ⟨ret_int (by simp [detM, hv]), hn⟩
  · have HV := Lib.hid hv
    clear hv
    go_enter Try.func37, Try.ntmps37
    go_wp2_with fail
    refine (specMatrixValid_any _ _ _ _ hM.reads hm HR.out).mono ?_
    rw [HV.out]
    rintro e w1 ⟨rfl, hn⟩
    go_wp2_with fail
    refine (specL2Det_any M.length _ _ _ _ _ rfl (mvB_sq HV.out) (mvB_true HV.out).1 (hM.keep hn)).mono ?_
    rintro e w2 ⟨rfl, hn2⟩
    go_wp2_with fail
    go_ret
    exact ⟨ret_int (by simp [detM, HV.out]), hn.trans hn2⟩
set_option maxHeartbeats 1000000 in
theorem implDet_any (A : Option Addr) (cap : Nat) (M : List (List Int)) (w : World) (hM : MatAt w A M) (hm : M.length ≤ 1099511627776) (hr : ∀ r ∈ M, r.length ≤ 1099511627776) :
    Calls Try.prog 38 #[.slice A M.length cap] w fun e w' => e = .returned (.int .i64 (detM M)) ∧ New w w' := by
  have HR := Lib.hid hr
  clear hr
  cases hv : mvB M
  · go_enter Try.func38, Try.ntmps38
    go_wp2_with fail
    refine (implMatrixValid_any _ _ _ _ hM hm HR.out).mono ?_
    rw [hv]
    rintro e w1 ⟨rfl, hn⟩
    go_wp2_with fail
    go_ret
    exact ⟨ret_int (by simp [detM, hv]), hn⟩
  · have HV := Lib.hid hv
    clear hv
    go_enter Try.func38, Try.ntmps38
    go_wp2_with fail
    refine (implMatrixValid_any _ _ _ _ hM hm HR.out).mono ?_
    rw [HV.out]
    rintro e w1 ⟨rfl, hn⟩
    go_wp2_with fail
    refine (detFrom_any _ _ M.length M (mvB_sq HV.out) (mvB_true HV.out).1 M.length 0 0 (List.range M.length) _ (by omega) (by simp) (Free.all _) (by omega) (hM.keep hn)).mono ?_
    rw [sub_zero (mvB_sq HV.out)]
    rintro e w2 ⟨rfl, hn2⟩
    go_wp2_with fail
    go_ret
    exact ⟨ret_int (by simp [detM, HV.out]), hn.trans hn2⟩
end Go.Proofs.Ytmopbghngaeplaa
