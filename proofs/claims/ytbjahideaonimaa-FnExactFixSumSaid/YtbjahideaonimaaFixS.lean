/- Contracts of FixSum (program and reference). -/
import Derived.Test.YtbjahideaonimaaFixM
namespace Go.Proofs.Ytbjahideaonimaa
open Go.RowKit
set_option linter.all false
theorem ad_assoc3 (s a b c : Int) : ad s (ad (ad a b) c) = ad (ad (ad s a) b) c := by unfold ad wrap64; omega
/-- The square of what leg k misses by. -/
def fmQ (st : Int) (L : List Lg) (dn : Int) (N : List Wy) (k : Nat) : Int :=
  ad (ad (mu (fmF st L dn N k Lg.e Wy.e) (fmF st L dn N k Lg.e Wy.e)) (mu (fmF st L dn N k Lg.n Wy.n) (fmF st L dn N k Lg.n Wy.n))) (mu (fmF st L dn N k Lg.u Wy.u) (fmF st L dn N k Lg.u Wy.u))
def fsK (st : Int) (L : List Lg) (dn : Int) (N : List Wy) : Nat → Int
  | 0 => 0
  | k + 1 => ad (fsK st L dn N k) (fmQ st L dn N k)
theorem fsK_succ (st : Int) (L : List Lg) (dn : Int) (N : List Wy) (k : Nat) : fsK st L dn N (k + 1) = ad (fsK st L dn N k) (ad (ad (mu (fmF st L dn N k Lg.e Wy.e) (fmF st L dn N k Lg.e Wy.e)) (mu (fmF st L dn N k Lg.n Wy.n) (fmF st L dn N k Lg.n Wy.n))) (mu (fmF st L dn N k Lg.u Wy.u) (fmF st L dn N k Lg.u Wy.u))) := rfl
/-- What FixSum returns. -/
def fsZ (st : Int) (L : List Lg) (dn : Int) (N : List Wy) : Int := if fvB st L dn N then fsK st L dn N L.length else -1
theorem fsZ_no {st : Int} {L : List Lg} {dn : Int} {N : List Wy} (h : fvB st L dn N = false) : fsZ st L dn N = -1 := by simp [fsZ, h]
theorem fsZ_ok {st : Int} {L : List Lg} {dn : Int} {N : List Wy} (h : fvB st L dn N = true) : fsZ st L dn N = fsK st L dn N L.length := by simp [fsZ, h]
set_option maxHeartbeats 4000000 in
theorem implFixSum_any (st : Int) (A B : Option Addr) (cap cb : Nat) (L : List Lg) (dn : Int) (N : List Wy) (w : World) (hL : LegsAt w A L) (hN : WaysAt w B N) (hm : L.length ≤ 1099511627776) (hmn : N.length ≤ 1099511627776) :
    Calls Try.prog 19 #[.agg #[.int .i64 st, .slice A L.length cap], .agg #[.int .i64 dn, .slice B N.length cb]] w fun r w' => r = .returned (.int .i64 (fsZ st L dn N)) ∧ New w w' := by
  have h1 : New w ((w.alloc (Obj.cells #[.int .i64 st, .slice A L.length cap] 33)).alloc (Obj.cells #[.int .i64 dn, .slice B N.length cb] 37)) := (by repeat (first | with_reducible exact New.refl _ | with_reducible assumption | with_reducible refine New.alloc ?_ _ | with_reducible refine New.drewN ?_ _ | with_reducible refine New.drew ?_ | with_reducible refine New.setCell ?_ (by first | omega | (simp; done) | (simp; omega)) _ | with_reducible refine New.tail (by assumption) ?_))
  have h2 := (Has.new w #[.int .i64 st, .slice A L.length cap] 33).alloc (Obj.cells #[.int .i64 dn, .slice B N.length cb] 37)
  have h3 := Has.new (w.alloc (Obj.cells #[.int .i64 st, .slice A L.length cap] 33)) #[.int .i64 dn, .slice B N.length cb] 37
  simp only [World.size_alloc] at h3
  have hL' := hL.keep h1
  have hN' := hN.keep h1
  obtain ⟨fv, hv⟩ : ∃ b, fvB st L dn N = b := ⟨_, rfl⟩
  have HV := Lib.hid hv
  clear hv hL hN
  go_enter Try.func19, Try.ntmps19
  go_upto_region 1 with fail
  generalize ((w.alloc (Obj.cells #[.int .i64 st, .slice A L.length cap] 33)).alloc (Obj.cells #[.int .i64 dn, .slice B N.length cb] 37)) = W0 at *
  have c2 := h2.cells2
  have c3 := h3.cells2
  clear h2 h3
  go_wp2_with fail
  refine (implFixValid_any _ _ _ _ _ _ _ _ _ hL' hN' hm hmn).mono ?_
  rw [HV.out]
  rintro _ w1 ⟨rfl, hn1⟩
  have d2 := fun w' hn => c2 w' (hn1.trans hn)
  have d3 := fun w' hn => c3 w' (hn1.trans hn)
  have hL1 := hL'.keep hn1
  have hN1 := hN'.keep hn1
  have hk1 := h1.trans hn1
  clear c2 c3 hL' hN' h1 hn1
  cases fv
  · go_wp2_with fail
    go_ret
    exact ⟨ret_int (fsZ_no HV.out).symm, hk1⟩
  · go_wp2_with fail
    go_loopw [16, 5, 6, 7, 8] (fun i v _ _ _ wr => ∃ k : Nat, k ≤ L.length ∧ i = .int .i64 k ∧ v = .int .i64 (fsK st L dn N k) ∧ New w1 wr) (fun i _ _ _ _ _ => L.length - (intOf i).toNat)
    case atStart => exact ⟨0, Nat.zero_le _, rfl, rfl, New.refl _⟩
    case round =>
      obtain ⟨k, hk, rfl, rfl, hw⟩ := hrel
      have c4 := fun w' hn => d2 w' (hw.trans hn)
      have c5 := fun w' hn => d3 w' (hw.trans hn)
      by_cases hlt : k < L.length
      · have hlt' : (k : Int) < (L.length : Int) := by omega
        have hFM := implFixMiss_any st A B cap cb L dn N k wr (hL1.keep hw) (hN1.keep hw) hm hmn
        have KS := fsK_succ st L dn N k
        obtain ⟨e, he⟩ : ∃ x, fmF st L dn N k Lg.e Wy.e = x := ⟨_, rfl⟩
        obtain ⟨n, hn⟩ : ∃ x, fmF st L dn N k Lg.n Wy.n = x := ⟨_, rfl⟩
        obtain ⟨u, hu⟩ : ∃ x, fmF st L dn N k Lg.u Wy.u = x := ⟨_, rfl⟩
        obtain ⟨b, hb⟩ : ∃ x, fmB st L dn N k = x := ⟨_, rfl⟩
        obtain ⟨s, hs⟩ : ∃ x, fsK st L dn N k = x := ⟨_, rfl⟩
        rw [he, hn, hu, hb] at hFM
        rw [he, hn, hu, hs] at KS
        rw [hs]
        have KS := Lib.hid KS
        clear he hn hu hb hs d2 d3
        go_wp2_with fail
        refine hFM.mono ?_
        rintro _ w2 ⟨rfl, hn2⟩
        clear hFM
        go_upto_region 8 with fail
        have h7 := Has.new w2 #[.int .i64 e, .int .i64 n, .int .i64 u] 43
        have hk7 : New w1 (w2.alloc (.cells #[.int .i64 e, .int .i64 n, .int .i64 u] 43)) := (hw.trans hn2).alloc _
        generalize (w2.alloc (.cells #[.int .i64 e, .int .i64 n, .int .i64 u] 43)) = W7 at *
        have c7 := h7.at3
        clear h7 hn2 c4 c5
        go_wp2_with fail
        go_roundw
        case rel => exact ⟨k + 1, by omega, by go_num, by rw [KS.out]; rfl, hk7⟩
        case measure => simp [intOf]; omega
      · obtain rfl : k = L.length := by omega
        go_wp2_with fail
        go_ret
        exact ⟨ret_int (fsZ_ok HV.out).symm, hk1.trans hw⟩
set_option maxHeartbeats 4000000 in
theorem specFixSum_any (st : Int) (A B : Option Addr) (cap cb : Nat) (L : List Lg) (dn : Int) (N : List Wy) (w : World) (hL : LegsAt w A L) (hN : WaysAt w B N) (hm : L.length ≤ 1099511627776) (hmn : N.length ≤ 1099511627776) :
    Calls Try.prog 18 #[.agg #[.int .i64 st, .slice A L.length cap], .agg #[.int .i64 dn, .slice B N.length cb]] w fun r w' => r = .returned (.int .i64 (fsZ st L dn N)) ∧ New w w' := by
  have h1 : New w ((w.alloc (Obj.cells #[.int .i64 st, .slice A L.length cap] 33)).alloc (Obj.cells #[.int .i64 dn, .slice B N.length cb] 37)) := (by repeat (first | with_reducible exact New.refl _ | with_reducible assumption | with_reducible refine New.alloc ?_ _ | with_reducible refine New.drewN ?_ _ | with_reducible refine New.drew ?_ | with_reducible refine New.setCell ?_ (by first | omega | (simp; done) | (simp; omega)) _ | with_reducible refine New.tail (by assumption) ?_))
  have h2 := (Has.new w #[.int .i64 st, .slice A L.length cap] 33).alloc (Obj.cells #[.int .i64 dn, .slice B N.length cb] 37)
  have h3 := Has.new (w.alloc (Obj.cells #[.int .i64 st, .slice A L.length cap] 33)) #[.int .i64 dn, .slice B N.length cb] 37
  simp only [World.size_alloc] at h3
  have hL' := hL.keep h1
  have hN' := hN.keep h1
  obtain ⟨fv, hv⟩ : ∃ b, fvB st L dn N = b := ⟨_, rfl⟩
  have HV := Lib.hid hv
  clear hv hL hN
  go_enter Try.func18, Try.ntmps18
  go_upto_region 1 with fail
  generalize ((w.alloc (Obj.cells #[.int .i64 st, .slice A L.length cap] 33)).alloc (Obj.cells #[.int .i64 dn, .slice B N.length cb] 37)) = W0 at *
  have c2 := h2.cells2
  have c3 := h3.cells2
  clear h2 h3
  go_wp2_with fail
  refine (specFixValid_any _ _ _ _ _ _ _ _ _ hL' hN' hm hmn).mono ?_
  rw [HV.out]
  rintro _ w1 ⟨rfl, hn1⟩
  have d2 := fun w' hn => c2 w' (hn1.trans hn)
  have d3 := fun w' hn => c3 w' (hn1.trans hn)
  have hL1 := hL'.keep hn1
  have hN1 := hN'.keep hn1
  have hk1 := h1.trans hn1
  clear c2 c3 hL' hN' h1 hn1
  cases fv
  · go_wp2_with fail
    go_ret
    exact ⟨ret_int (fsZ_no HV.out).symm, hk1⟩
  · go_wp2_with fail
    go_loopw [6, 5, 7, 8] (fun i v _ _ wr => ∃ k : Nat, k ≤ L.length ∧ i = .int .i64 k ∧ v = .int .i64 (fsK st L dn N k) ∧ New w1 wr) (fun i _ _ _ _ => L.length - (intOf i).toNat)
    case atStart => exact ⟨0, Nat.zero_le _, rfl, rfl, New.refl _⟩
    case round =>
      obtain ⟨k, hk, rfl, rfl, hw⟩ := hrel
      have c4 := fun w' hn => d2 w' (hw.trans hn)
      have c5 := fun w' hn => d3 w' (hw.trans hn)
      by_cases hlt : k < L.length
      · have hlt' : (k : Int) < (L.length : Int) := by omega
        have hFM := specFixMiss_any st A B cap cb L dn N k wr (hL1.keep hw) (hN1.keep hw) hm hmn
        have KS := fsK_succ st L dn N k
        obtain ⟨e, he⟩ : ∃ x, fmF st L dn N k Lg.e Wy.e = x := ⟨_, rfl⟩
        obtain ⟨n, hn⟩ : ∃ x, fmF st L dn N k Lg.n Wy.n = x := ⟨_, rfl⟩
        obtain ⟨u, hu⟩ : ∃ x, fmF st L dn N k Lg.u Wy.u = x := ⟨_, rfl⟩
        obtain ⟨b, hb⟩ : ∃ x, fmB st L dn N k = x := ⟨_, rfl⟩
        obtain ⟨s, hs⟩ : ∃ x, fsK st L dn N k = x := ⟨_, rfl⟩
        rw [he, hn, hu, hb] at hFM
        rw [he, hn, hu, hs] at KS
        rw [hs]
        have KS := Lib.hid KS
        clear he hn hu hb hs d2 d3
        go_wp2_with fail
        refine hFM.mono ?_
        rintro _ w2 ⟨rfl, hn2⟩
        clear hFM
        go_upto_region 8 with fail
        have h7 := Has.new w2 #[.int .i64 e, .int .i64 n, .int .i64 u] 43
        have hk7 : New w1 (w2.alloc (.cells #[.int .i64 e, .int .i64 n, .int .i64 u] 43)) := (hw.trans hn2).alloc _
        generalize (w2.alloc (.cells #[.int .i64 e, .int .i64 n, .int .i64 u] 43)) = W7 at *
        have c7 := h7.at3
        clear h7 hn2 c4 c5
        go_wp2_with fail
        go_roundw
        case rel => exact ⟨k + 1, by omega, by go_num, by rw [KS.out, ad_assoc3]; rfl, hk7⟩
        case measure => simp [intOf]; omega
      · obtain rfl : k = L.length := by omega
        go_wp2_with fail
        go_ret
        exact ⟨ret_int (fsZ_ok HV.out).symm, hk1.trans hw⟩
end Go.Proofs.Ytbjahideaonimaa
