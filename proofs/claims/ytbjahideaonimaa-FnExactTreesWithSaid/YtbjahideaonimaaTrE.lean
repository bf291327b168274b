/- The contract of TreesWith (program). -/
import Derived.Test.YtbjahideaonimaaTrC
import Derived.Test.YtbjahideaonimaaTrD
import Derived.Test.YtbjahideaonimaaTreesMany
namespace Go.Proofs.Ytbjahideaonimaa
open Go.RowKit
set_option linter.all false
theorem LegRow.lt {w : World} {g q : Nat} {L : List Lg} (h : LegRow w g q L) : g < w.heap.size := by
  obtain ⟨cur, h1, _⟩ := h
  exact h1.lt
theorem tm_with {n : Nat} {L : List Lg} (h : svB n L = true) {i : Nat} (hi : i < L.length) : tmZ n L - tmZ n (L.eraseIdx i) = (twN n L i : Int) := by
  have h2 : svB n (L.eraseIdx i) = true := by
    obtain ⟨a, b, c, d⟩ := svB_true h
    refine svB_good a b (by rw [List.length_eraseIdx]; split <;> omega) fun j hj => d _ (List.mem_of_mem_eraseIdx (List.getElem_mem hj))
  rw [tmZ_ok h, tmZ_ok h2, trees_with h hi]
  rfl
theorem tm_small {n : Nat} {L : List Lg} (h : svB n L = true) : 0 ≤ tmZ n L ∧ tmZ n L ≤ 512 := by
  rw [tmZ_ok h, trees_det h]
  unfold kt
  have h1 : ((List.range (2 ^ L.length)).filter fun s => goodB n (ownL n) (n - 1) (chS L s)).length ≤ 2 ^ L.length := Nat.le_trans (List.length_filter_le ..) (by simp)
  have h2 : 2 ^ L.length ≤ 512 := Nat.pow_le_pow_right (by decide : 2 > 0) (svB_true h).2.2.1
  omega
set_option maxHeartbeats 4000000 in
theorem implTreesWith_ok (n i : Nat) (A : Option Addr) (cap : Nat) (L : List Lg) (w : World) (hL : LegsAt w A L) (hv : svB n L = true) (hi : i < L.length) :
    Calls Try.prog 21 #[.agg #[.int .i64 n, .slice A L.length cap], .int .i64 i] w fun r w' => r = .returned (.int .i64 (twN n L i : Int)) ∧ New w w' := by
  obtain ⟨b1, b2, b3, _⟩ := svB_true hv
  have HV := Lib.hid hv
  have HI : Hid (ixB (i : Int) L.length = true) := ixB_t.2 (by omega)
  have HT := Lib.hid (tm_with hv hi)
  have hv2 : svB n (L.eraseIdx i) = true := by
    obtain ⟨a, b, c, d⟩ := svB_true hv
    refine svB_good a b (by rw [List.length_eraseIdx]; split <;> omega) fun j hj => d _ (List.mem_of_mem_eraseIdx (List.getElem_mem hj))
  obtain ⟨t1, t2⟩ := tm_small hv
  obtain ⟨t3, t4⟩ := tm_small hv2
  have hel : (L.eraseIdx i).length = L.length - 1 := by rw [List.length_eraseIdx, if_pos hi]
  obtain ⟨b, off, e1, hb, _⟩ := hL (by rintro rfl; simp at hi)
  subst e1
  have h1 : New w (w.alloc (Obj.cells #[.int .i64 n, .slice (some ⟨b, off, none⟩) L.length cap] 33)) := (by repeat (first | with_reducible exact New.refl _ | with_reducible assumption | with_reducible refine New.alloc ?_ _ | with_reducible refine New.drewN ?_ _ | with_reducible refine New.drew ?_ | with_reducible refine New.setCell ?_ (by first | omega | (simp; done) | (simp; omega)) _ | with_reducible refine New.tail (by assumption) ?_))
  have h2 := Has.new w #[.int .i64 n, .slice (some ⟨b, off, none⟩) L.length cap] 33
  have hL' := hL.keep h1
  clear hv hv2 hL hb
  go_enter Try.func21, Try.ntmps21
  go_upto_region 1 with fail
  generalize (w.alloc (Obj.cells #[.int .i64 n, .slice (some ⟨b, off, none⟩) L.length cap] 33)) = W0 at *
  have c2 := h2.cells2
  go_wp2_with fail
  refine (implSurveyValid_any _ _ _ _ _ hL' (by omega)).mono ?_
  rw [HV.out]
  rintro _ w1 ⟨rfl, hn1⟩
  have c4 := fun w' (hn : New w1 w') => c2 w' (hn1.trans hn)
  have hL1 := hL'.keep hn1
  have hk1 := h1.trans hn1
  clear c2 h2 hL' h1 hn1
  go_upto_region 3 with (go_at_call 35; refine (isIndex_any _ _ _).mono ?_; rw [HI.out]; rintro _ w2 ⟨rfl, rfl⟩)
  have hwi : IntKind.i64.wrap ((i : Int) + 1) = (i : Int) + 1 := by rw [IntKind.wrap_i64]; omega
  obtain ⟨m, hm⟩ : ∃ m, L.length = m := ⟨_, rfl⟩
  have HM := Lib.hid hm
  have hCL := fun w' (hn : New w1 w') => cloneLegs_any b off cap L w' (hL1.keep hn) (by omega) (by omega)
  rw [hm] at c4 hCL ⊢
  have hi1 : i < m := by omega
  have hm9 : m ≤ 9 := by omega
  rw [hm] at hel b3 hi
  clear hm
  go_cut [5] (fun s5 wx => ∃ g5 gd cd, s5 = .pointer (some ⟨g5, 0, none⟩) ∧ Has wx g5 #[.int .i64 n, .slice (some ⟨gd, 0, none⟩) (m - 1) cd] 33 ∧ LegsAt wx (some ⟨gd, 0, none⟩) (L.eraseIdx i) ∧ New w1 wx)
  case first =>
    go_region_held3 (fun w' => New w1 w') ((repeat (first | with_reducible exact New.refl _ | with_reducible assumption | with_reducible refine New.alloc ?_ _ | with_reducible refine New.drewN ?_ _ | with_reducible refine New.drew ?_ | with_reducible refine New.setCell ?_ (by first | omega | (simp; done) | (simp; omega)) _ | with_reducible refine New.tail (by assumption) ?_))) (first
      | (go_at_call 42; refine (hCL _ (by repeat (first | with_reducible exact New.refl _ | with_reducible assumption | with_reducible refine New.alloc ?_ _ | with_reducible refine New.drewN ?_ _ | with_reducible refine New.drew ?_ | with_reducible refine New.setCell ?_ (by first | omega | (simp; done) | (simp; omega)) _ | with_reducible refine New.tail (by assumption) ?_))).mono ?_; rintro _ w3 ⟨g, q, rfl, hg, hR, hqm, hnC⟩; have hkC : New w1 w3 := New.tail hnC (by repeat (first | with_reducible exact New.refl _ | with_reducible assumption | with_reducible refine New.alloc ?_ _ | with_reducible refine New.drewN ?_ _ | with_reducible refine New.drew ?_ | with_reducible refine New.setCell ?_ (by first | omega | (simp; done) | (simp; omega)) _ | with_reducible refine New.tail (by assumption) ?_)); (try simp only [World.size_alloc, World.size_drew] at hg); (first | (have hh := Has.keep (Has.new _ _ _) hnC; (first | have hq := Has.at5 hh | have hq := Has.at3 hh | have hq := Has.at2 hh | have hq := Has.at1 hh)) | (have hh := Has.keep (Has.new _ _ _).drew hnC; (first | have hq := Has.at5 hh | have hq := Has.at3 hh | have hq := Has.at2 hh | have hq := Has.at1 hh)) | skip))
      | (go_at_call 41; refine (deleteLeg_any g q i m L _ HM.out (hR.keep (by repeat (first | with_reducible exact New.refl _ | with_reducible refine New.alloc ?_ _ | with_reducible refine New.drew ?_))) hi1 hqm).mono ?_; rintro _ w4 ⟨rfl, hLD, hoD⟩; have hgl := hR.lt; have hzD := hoD.size; have hkD : New w1 w4 := New.only (show New w1 _ from (by repeat (first | with_reducible exact New.refl _ | with_reducible assumption | with_reducible refine New.alloc ?_ _ | with_reducible refine New.drewN ?_ _ | with_reducible refine New.drew ?_ | with_reducible refine New.setCell ?_ (by first | omega | (simp; done) | (simp; omega)) _ | with_reducible refine New.tail (by assumption) ?_))) hoD (by omega); (first | (have hh2 := Has.only hh hoD (by omega); have hq2 := Has.at2 hh2) | (have hh2 := Has.only (Has.new _ _ _) hoD (by omega); have hq2 := Has.at2 hh2) | (have hh2 := Has.only (Has.new _ _ _).drew hoD (by omega); have hq2 := Has.at2 hh2) | skip)))
    all_goals
      go_wp2_with fail
      go_meet
      first
        | exact ⟨_, g, q, rfl, Has.new _ _ _, hLD.keep ((New.refl _).alloc _), hkD.alloc _⟩
        | exact ⟨_, g, q, rfl, hh2.set2, (hLD.far (fun p hp => by cases hp; simp only; omega) _).far (fun p hp => by cases hp; simp only; omega) _, (hkD.setCell (by simp only; have := hkC.size; omega) _).setCell (by simp only; have := hkC.size; omega) _⟩
  case rest =>
    obtain ⟨g5, gd, cd, rfl, h5, hLD, hwc⟩ := hcut
    have c5 := h5.cells2
    have d4 := fun w' (hn : New wc w') => c4 w' (hwc.trans hn)
    have hL2 := hL1.keep hwc
    have hk2 := hk1.trans hwc
    have hTM : ∀ w', New wc w' → Calls Try.prog 43 #[.agg #[.int .i64 n, .slice (some ⟨b, off, none⟩) m cap]] w' fun r w'' => r = .returned (.int .i64 (tmZ n L)) ∧ New w' w'' := fun w' hn => by
      have := implTreesMany_any n (some ⟨b, off, none⟩) cap L w' (hL2.keep hn) (by rw [HM.out]; omega)
      rwa [HM.out] at this
    have hTD : ∀ w', New wc w' → Calls Try.prog 43 #[.agg #[.int .i64 n, .slice (some ⟨gd, 0, none⟩) (m - 1) cd]] w' fun r w'' => r = .returned (.int .i64 (tmZ n (L.eraseIdx i))) ∧ New w' w'' := fun w' hn => by
      have := implTreesMany_any n (some ⟨gd, 0, none⟩) cd (L.eraseIdx i) w' (hLD.keep hn) (by omega)
      rwa [hel] at this
    obtain ⟨T, hT⟩ : ∃ T, tmZ n L = T := ⟨_, rfl⟩
    obtain ⟨D, hD⟩ : ∃ D, tmZ n (L.eraseIdx i) = D := ⟨_, rfl⟩
    have hTT := HT.out
    rw [hT, hD] at hTT
    rw [hT] at hTM t1 t2
    rw [hD] at hTD t3 t4
    have HTT := Lib.hid hTT
    clear c4 hL1 hk1 hwc h5 hLD hL2 hel hT hD hTT hCL
    go_wp2_with fail
    go_region_held3 (fun w' => New wc w') ((repeat (first | with_reducible exact New.refl _ | with_reducible assumption | with_reducible refine New.alloc ?_ _ | with_reducible refine New.drewN ?_ _ | with_reducible refine New.drew ?_ | with_reducible refine New.setCell ?_ (by first | omega | (simp; done) | (simp; omega)) _ | with_reducible refine New.tail (by assumption) ?_))) (first | (go_at_call 43; with_reducible refine (hTM _ (by repeat (first | with_reducible exact New.refl _ | with_reducible assumption | with_reducible refine New.alloc ?_ _ | with_reducible refine New.drewN ?_ _ | with_reducible refine New.drew ?_ | with_reducible refine New.setCell ?_ (by first | omega | (simp; done) | (simp; omega)) _ | with_reducible refine New.tail (by assumption) ?_))).mono ?_; rintro _ w5 ⟨rfl, hn5⟩; have hk5 : New wc w5 := (by repeat (first | with_reducible exact New.refl _ | with_reducible assumption | with_reducible refine New.alloc ?_ _ | with_reducible refine New.drewN ?_ _ | with_reducible refine New.drew ?_ | with_reducible refine New.setCell ?_ (by first | omega | (simp; done) | (simp; omega)) _ | with_reducible refine New.tail (by assumption) ?_))) | (go_at_call 43; with_reducible refine (hTD _ (by repeat (first | with_reducible exact New.refl _ | with_reducible assumption | with_reducible refine New.alloc ?_ _ | with_reducible refine New.drewN ?_ _ | with_reducible refine New.drew ?_ | with_reducible refine New.setCell ?_ (by first | omega | (simp; done) | (simp; omega)) _ | with_reducible refine New.tail (by assumption) ?_))).mono ?_; rintro _ w6 ⟨rfl, hn6⟩; have hk6 : New wc w6 := (by repeat (first | with_reducible exact New.refl _ | with_reducible assumption | with_reducible refine New.alloc ?_ _ | with_reducible refine New.drewN ?_ _ | with_reducible refine New.drew ?_ | with_reducible refine New.setCell ?_ (by first | omega | (simp; done) | (simp; omega)) _ | with_reducible refine New.tail (by assumption) ?_))))
    have hsub : IntKind.i64.wrap (T - D) = T - D := by rw [IntKind.wrap_i64]; omega
    go_wp2_with fail
    go_ret
    exact ⟨ret_int (by first | (rw [hsub]; exact HTT.out) | exact HTT.out), hk2.trans (by repeat (first | with_reducible exact New.refl _ | with_reducible assumption | with_reducible refine New.alloc ?_ _ | with_reducible refine New.drewN ?_ _ | with_reducible refine New.drew ?_ | with_reducible refine New.setCell ?_ (by first | omega | (simp; done) | (simp; omega)) _ | with_reducible refine New.tail (by assumption) ?_))⟩
set_option maxHeartbeats 1000000 in
theorem implTreesWith_any (st ix : Int) (A : Option Addr) (cap : Nat) (L : List Lg) (w : World) (hL : LegsAt w A L) (hm : L.length ≤ 1099511627776) :
    Calls Try.prog 21 #[.agg #[.int .i64 st, .slice A L.length cap], .int .i64 ix] w fun r w' => r = .returned (.int .i64 (twZ st L ix)) ∧ New w w' := by
  have h1 : New w (w.alloc (Obj.cells #[.int .i64 st, .slice A L.length cap] 33)) := (by repeat (first | with_reducible exact New.refl _ | with_reducible assumption | with_reducible refine New.alloc ?_ _ | with_reducible refine New.drewN ?_ _ | with_reducible refine New.drew ?_ | with_reducible refine New.setCell ?_ (by first | omega | (simp; done) | (simp; omega)) _ | with_reducible refine New.tail (by assumption) ?_))
  have h2 := Has.new w #[.int .i64 st, .slice A L.length cap] 33
  have hL' := hL.keep h1
  cases hv : svB st L
  · have HV := Lib.hid hv
    clear hv
    go_enter Try.func21, Try.ntmps21
    go_wp2_with (go_at_call 28; refine (implSurveyValid_any _ _ _ _ _ hL' hm).mono ?_; rw [HV.out]; rintro _ w1 ⟨rfl, hn1⟩)
    go_ret
    exact ⟨ret_int (twZ_no1 HV.out).symm, h1.trans hn1⟩
  · cases hi : ixB ix L.length
    · have HV := Lib.hid hv
      have HI := Lib.hid hi
      clear hv hi
      go_enter Try.func21, Try.ntmps21
      go_upto_region 1 with fail
      generalize (w.alloc (Obj.cells #[.int .i64 st, .slice A L.length cap] 33)) = W0 at *
      have c2 := h2.cells2
      clear h2
      go_wp2_with fail
      refine (implSurveyValid_any _ _ _ _ _ hL' hm).mono ?_
      rw [HV.out]
      rintro _ w1 ⟨rfl, hn1⟩
      have c4 := fun w' (hn : New w1 w') => c2 w' (hn1.trans hn)
      clear c2
      go_wp2_with (go_at_call 35; refine (isIndex_any _ _ _).mono ?_; rw [HI.out]; rintro _ w2 ⟨rfl, rfl⟩)
      go_ret
      exact ⟨ret_int (twZ_no2 HI.out).symm, h1.trans hn1⟩
    · obtain ⟨n, rfl⟩ := svB_nat hv
      obtain ⟨x0, x1⟩ := ixB_t.1 hi
      obtain ⟨i, rfl⟩ := Int.eq_ofNat_of_zero_le x0
      rw [twZ_ok hv (show i < L.length by omega)]
      exact implTreesWith_ok n i A cap L w hL hv (by omega)
end Go.Proofs.Ytbjahideaonimaa
