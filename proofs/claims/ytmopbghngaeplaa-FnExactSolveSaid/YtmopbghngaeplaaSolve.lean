/- Contracts of Solve (program and reference). -/
import Derived.Test.YtmopbghngaeplaaCol
namespace Go.Proofs.Ytmopbghngaeplaa
open Go.RowKit
set_option linter.all false
def solOk (M : List (List Int)) (R : List Int) : Bool := mvB M && decide (R.length = M.length) && fitB R && decide (detM M ≠ 0)
def solL (M : List (List Int)) (R : List Int) : List Int := (List.range M.length).map fun c => detM (colM M c R)
def solS (M : List (List Int)) (R : List Int) : List Int := if solOk M R then solL M R else []
def solD (M : List (List Int)) (R : List Int) : Int := if solOk M R then detM M else 0
theorem solL_length (M : List (List Int)) (R : List Int) : (solL M R).length = M.length := by simp [solL]
theorem solL_get {M : List (List Int)} {R : List Int} {c : Nat} (h : c < M.length) : (solL M R)[c]? = some (detM (colM M c R)) := by simp [solL, h]
theorem solS_small (M : List (List Int)) (R : List Int) : (solS M R).length ≤ 1048576 := by
  unfold solS
  split
  · rename_i h
    unfold solOk at h
    simp only [Bool.and_eq_true] at h
    rw [solL_length]
    have := (mvB_true h.1.1.1).1
    omega
  · simp
theorem sol_no {M : List (List Int)} {R : List Int} (h : solOk M R = false) : solS M R = [] ∧ solD M R = 0 := by simp [solS, solD, h]
theorem sol_ok {M : List (List Int)} {R : List Int} (h : solOk M R = true) : solS M R = solL M R ∧ solD M R = detM M := by simp [solS, solD, h]
theorem detM_no {M : List (List Int)} (h : mvB M = false) : detM M = 0 := by simp [detM, h]
set_option maxHeartbeats 4000000 in
theorem implSolve_no (A B : Option Addr) (cap capB n m : Nat) (M : List (List Int)) (R : List Int) (w : World) (hn : M.length = n) (hmr : R.length = m) (hM : MatAt w A M) (hB : IntsAt w B R) (hm : n ≤ 1099511627776) (hr : ∀ r ∈ M, r.length ≤ 1099511627776) (hR : m ≤ 1099511627776) (hv : solOk M R = false) :
    Calls Try.prog 45 #[.slice A n cap, .slice B m capB] w fun e w' => e = .returned (.tuple #[.slice none 0 0, .int .i64 0]) ∧ New w w' := by
  have hval := fun w (h : MatAt w A M) => implMatrixValid_any A cap M w h (by omega) hr
  have hdet := fun w (h : MatAt w A M) => implDet_any A cap M w h (by omega) hr
  rw [hn] at hval hdet
  have HVAL := Lib.hid hval
  have HDET := Lib.hid hdet
  have HN := Lib.hid hn
  have HMR := Lib.hid hmr
  have HV := Lib.hid hv
  clear hval hdet hv hr hmr hn
  cases h1 : mvB M
  · have H1 := Lib.hid h1
    clear h1
    go_enter Try.func45, Try.ntmps45
    go_wp2_with fail
    refine (HVAL.out _ hM).mono ?_
    rw [H1.out]
    rintro e w1 ⟨rfl, hn1⟩
    go_wp2_with fail
    go_ret2
    exact ⟨rfl, hn1⟩
  have H1 := Lib.hid h1
  clear h1
  by_cases hlen : m = n
  · subst hlen
    cases h2 : fitB R
    · have H2 := Lib.hid h2
      clear h2
      go_enter Try.func45, Try.ntmps45
      go_wp2_with fail
      refine (HVAL.out _ hM).mono ?_
      rw [H1.out]
      rintro e w1 ⟨rfl, hn1⟩
      go_wp2_with fail
      refine (entriesFit_any _ _ _ _ _ HMR.out (hB.keep hn1) hR).mono ?_
      rw [H2.out]
      rintro e w2 ⟨rfl, hn2⟩
      go_wp2_with fail
      go_ret2
      exact ⟨rfl, hn1.trans hn2⟩
    · have H2 := Lib.hid h2
      have H3 : Hid (detM M = 0) := by
        have h4 := HV.out
        unfold solOk at h4
        rw [H1.out, h2, HMR.out, HN.out] at h4
        show detM M = 0
        simpa using h4
      clear h2
      go_enter Try.func45, Try.ntmps45
      go_wp2_with fail
      refine (HVAL.out _ hM).mono ?_
      rw [H1.out]
      rintro e w1 ⟨rfl, hn1⟩
      go_wp2_with fail
      refine (entriesFit_any _ _ _ _ _ HMR.out (hB.keep hn1) hR).mono ?_
      rw [H2.out]
      rintro e w2 ⟨rfl, hn2⟩
      have hk2 := hn1.trans hn2
      go_wp2_with fail
      refine (HDET.out _ (hM.keep hk2)).mono ?_
      rw [H3.out]
      rintro e w3 ⟨rfl, hn3⟩
      go_wp2_with fail
      go_ret2
      exact ⟨rfl, hk2.trans hn3⟩
  · have hne : ((m : Int) != (n : Int)) = true := by simp; omega
    go_enter Try.func45, Try.ntmps45
    go_wp2_with fail
    refine (HVAL.out _ hM).mono ?_
    rw [H1.out]
    rintro e w1 ⟨rfl, hn1⟩
    go_wp2_with fail
    go_ret2
    exact ⟨rfl, hn1⟩
set_option maxHeartbeats 4000000 in
theorem implSolve_ok (A B : Option Addr) (cap capB n : Nat) (M : List (List Int)) (R : List Int) (w : World) (hn : M.length = n) (hM : MatAt w A M) (hB : IntsAt w B R) (hv : solOk M R = true) :
    Calls Try.prog 45 #[.slice A n cap, .slice B n capB] w fun e w' => ∃ g cp, e = .returned (.tuple #[.slice (some ⟨g, 0, none⟩) n cp, .int .i64 (detM M)]) ∧ w.heap.size ≤ g ∧ Ints w' g (solL M R) ∧ New w w' := by
  have h4 := hv
  unfold solOk at h4
  simp only [Bool.and_eq_true, decide_eq_true_eq] at h4
  obtain ⟨⟨⟨h1, hRl⟩, h2⟩, h3⟩ := h4
  obtain ⟨b5, brow⟩ := mvB_true h1
  have hsq := mvB_sq h1
  have hr : ∀ r ∈ M, r.length ≤ 1099511627776 := fun r h => by have := (brow r h).1; omega
  have hval := fun w (h : MatAt w A M) => implMatrixValid_any A cap M w h (by omega) hr
  have hdet := fun w (h : MatAt w A M) => implDet_any A cap M w h (by omega) hr
  rw [hn] at hval hdet hRl b5 hsq
  have HVAL := Lib.hid hval
  have HDET := Lib.hid hdet
  have HN := Lib.hid hn
  have HMR := Lib.hid hRl
  have HSQ := Lib.hid hsq
  have H1 := Lib.hid h1
  have H2 := Lib.hid h2
  obtain ⟨D, hD⟩ : ∃ D, detM M = D := ⟨_, rfl⟩
  have HD := Lib.hid hD
  rw [hD] at h3 ⊢
  have hD0 : (D == 0) = false := by simpa using h3
  have hmk := makeInts n (by omega)
  have HSL : Hid ((solL M R).length = n) := (solL_length M R).trans hn
  have HSG : Hid (∀ c, c < n → (solL M R)[c]? = some (detM (colM M c R))) := fun c hc => solL_get (by omega)
  clear hval hdet hv hr hn h1 h2 h3 hD hRl brow hsq
  go_enter Try.func45, Try.ntmps45
  go_wp2_with fail
  refine (HVAL.out _ hM).mono ?_
  rw [H1.out]
  rintro e w1 ⟨rfl, hn1⟩
  go_wp2_with fail
  refine (entriesFit_any _ _ _ _ _ HMR.out (hB.keep hn1) (by omega)).mono ?_
  rw [H2.out]
  rintro e w2 ⟨rfl, hn2⟩
  have hk2 := hn1.trans hn2
  go_wp2_with fail
  refine (HDET.out _ (hM.keep hk2)).mono ?_
  rw [HD.out]
  rintro e w3 ⟨rfl, hn3⟩
  have hk3 := hk2.trans hn3
  have hz3 := hk3.size
  clear hn1 hn2 hk2 hn3
  go_wp2_with fail
  go_loopw [33, 8] (fun i _ wr => ∃ k : Nat, k ≤ n ∧ i = .int .i64 k ∧ New w wr ∧ Ints wr w3.heap.size (cpTo (solL M R) k)) (fun i _ _ => n - (intOf i).toNat)
  case atStart => exact ⟨0, Nat.zero_le _, rfl, hk3.alloc _, by rw [cpTo_zero, HSL.out]; exact Ints.made _ _⟩
  case round =>
    obtain ⟨k, hk, rfl, hw, hi⟩ := hrel
    by_cases hlt : k < n
    · have hltS : k < (solL M R).length := by rw [HSL.out]; exact hlt
      have hset := cpTo_set (solL M R) k hltS
      have hg := HSG.out k hlt
      rw [List.getElem?_eq_getElem hltS] at hg
      simp only [Option.some.injEq] at hg
      rw [hg] at hset
      obtain ⟨x, hx⟩ : ∃ x, (cpTo (solL M R) k)[k]? = some x := ⟨_, List.getElem?_eq_getElem (by rw [cpTo_len _ _ (by omega)]; exact hltS)⟩
      have HSET := Lib.hid hset
      have HCL : Hid ((colM M k R).length = n) := by rw [Hid, colM_length (by rw [HMR.out, HN.out]), HN.out]
      have HCR : Hid (∀ r ∈ colM M k R, r.length ≤ 1099511627776) := fun r h => by rw [colM_rows HSQ.out r h]; omega
      have c1 := hi.cell hx
      have f1 := hi.free
      have hlt' : (k : Int) < (n : Int) := by omega
      have hk0 : (0 : Int) ≤ (k : Int) := by omega
      clear hset hg hx hmk
      go_wp2_with fail
      refine (withColumn_any _ _ _ _ n k M R _ HSQ.out b5 HMR.out hlt (hM.keep hw) (hB.keep hw)).mono ?_
      rintro e w4 ⟨g4, rfl, hM4, hn4⟩
      have hdet4 := fun cap => implDet_any (some ⟨g4, 0, none⟩) cap (colM M k R) w4 hM4 (by rw [HCL.out]; omega) HCR.out
      rw [HCL.out] at hdet4
      have HD4 := Lib.hid hdet4
      clear hdet4
      go_wp2_with fail
      refine (HD4.out _).mono ?_
      rintro e w5 ⟨rfl, hn5⟩
      have hk5 := hn4.trans hn5
      have hi5 := hi.keep hk5
      have c5 := fun w' hn => c1 w' (hk5.trans hn)
      have f5 := fun w' hn => f1 k w' (hk5.trans hn)
      clear c1 f1 hi hM4 hn4 hn5
      go_wp2_with fail
      go_roundw
      case rel => exact ⟨k + 1, by omega, by go_num, (hw.trans hk5).setCell (p := ⟨w3.heap.size, k, none⟩) hz3 _, by rw [← HSET.out]; exact hi5.set k _⟩
      case measure => simp [intOf]; omega
    · obtain rfl : k = n := by omega
      have hall : cpTo (solL M R) k = solL M R := by have := cpTo_all (solL M R); rw [HSL.out] at this; exact this
      rw [hall] at hi
      clear hall hmk
      go_wp2_with fail
      go_ret2
      exact ⟨_, _, rfl, hz3, hi, hw⟩
theorem implSolve_any (A B : Option Addr) (cap capB m : Nat) (M : List (List Int)) (R : List Int) (w : World) (hmr : R.length = m) (hM : MatAt w A M) (hB : IntsAt w B R) (hm : M.length ≤ 1099511627776) (hr : ∀ r ∈ M, r.length ≤ 1099511627776) (hR : m ≤ 1099511627776) :
    Calls Try.prog 45 #[.slice A M.length cap, .slice B m capB] w fun e w' => ∃ C cp, e = .returned (.tuple #[.slice C (solS M R).length cp, .int .i64 (solD M R)]) ∧ FInts w w' C (solS M R) ∧ New w w' := by
  cases hv : solOk M R
  · obtain ⟨e1, e2⟩ := sol_no hv
    rw [e1, e2]
    exact (implSolve_no A B cap capB _ m M R w rfl hmr hM hB hm hr hR hv).mono fun e w' ⟨h1, h2⟩ => ⟨_, _, h1, FInts.nil, h2⟩
  · obtain ⟨e1, e2⟩ := sol_ok hv
    rw [e1, e2, solL_length]
    have h4 := hv
    unfold solOk at h4
    simp only [Bool.and_eq_true, decide_eq_true_eq] at h4
    have hml : m = M.length := by rw [← hmr]; exact h4.1.1.2
    subst hml
    exact (implSolve_ok A B cap capB _ M R w rfl hM hB hv).mono fun e w' ⟨g, cp, h1, h2, h3, h4⟩ => ⟨_, _, h1, FInts.mk h2 h3, h4⟩
set_option maxHeartbeats 4000000 in
theorem specSolve_no (A B : Option Addr) (cap capB n m : Nat) (M : List (List Int)) (R : List Int) (w : World) (hn : M.length = n) (hmr : R.length = m) (hM : MatC w A M) (hB : IntsAt w B R) (hm : n ≤ 1099511627776) (hr : ∀ r ∈ M, r.length ≤ 1099511627776) (hR : m ≤ 1099511627776) (hv : solOk M R = false) :
    Calls Try.prog 43 #[.slice A n cap, .slice B m capB] w fun e w' => ∃ g, e = .returned (.tuple #[.slice (some ⟨g, 0, none⟩) 0 0, .int .i64 0]) ∧ New w w' := by
  have hdet := fun w (h : MatC w A M) => specDet_any A cap M w h (by omega) hr
  rw [hn] at hdet
  have HDET := Lib.hid hdet
  have HN := Lib.hid hn
  have HMR := Lib.hid hmr
  have HV := Lib.hid hv
  by_cases h1 : detM M = 0
  · have H1 := Lib.hid h1
    clear h1 hdet hv hr hmr hn
    go_enter Try.func43, Try.ntmps43
    go_wp2_with fail
    refine (HDET.out _ (hM.keep (by repeat (first | with_reducible exact New.refl _ | with_reducible assumption | with_reducible refine New.alloc ?_ _ | with_reducible refine New.drewN ?_ _ | with_reducible refine New.drew ?_ | with_reducible refine New.setCell ?_ (by first | omega | (simp; done) | (simp; omega)) _ | with_reducible refine New.tail (by assumption) ?_)))).mono ?_
    rw [H1.out]
    rintro e w1 ⟨rfl, hn1⟩
    have hk1 : New w w1 := New.trans (by repeat (first | with_reducible exact New.refl _ | with_reducible assumption | with_reducible refine New.alloc ?_ _ | with_reducible refine New.drewN ?_ _ | with_reducible refine New.drew ?_ | with_reducible refine New.setCell ?_ (by first | omega | (simp; done) | (simp; omega)) _ | with_reducible refine New.tail (by assumption) ?_)) hn1
    go_wp2_with fail
    go_ret2
    exact ⟨_, rfl, hk1⟩
  have hmv : mvB M = true := by cases h : mvB M; exact absurd (detM_no h) h1; rfl
  obtain ⟨D, hD⟩ : ∃ D, detM M = D := ⟨_, rfl⟩
  have HD := Lib.hid hD
  rw [hD] at h1
  have hD0 : (D == 0) = false := by simpa using h1
  by_cases hlen : m = n
  · subst hlen
    have H2 : Hid (fitB R = false) := by
      show fitB R = false
      have h4 := hv
      unfold solOk at h4
      rw [hmv, hmr, hn, hD] at h4
      simpa [h1] using h4
    clear hdet hv hr hmr hn hD h1 hmv
    go_enter Try.func43, Try.ntmps43
    go_wp2_with fail
    refine (HDET.out _ (hM.keep (by repeat (first | with_reducible exact New.refl _ | with_reducible assumption | with_reducible refine New.alloc ?_ _ | with_reducible refine New.drewN ?_ _ | with_reducible refine New.drew ?_ | with_reducible refine New.setCell ?_ (by first | omega | (simp; done) | (simp; omega)) _ | with_reducible refine New.tail (by assumption) ?_)))).mono ?_
    rw [HD.out]
    rintro e w1 ⟨rfl, hn1⟩
    have hk1 : New w w1 := New.trans (by repeat (first | with_reducible exact New.refl _ | with_reducible assumption | with_reducible refine New.alloc ?_ _ | with_reducible refine New.drewN ?_ _ | with_reducible refine New.drew ?_ | with_reducible refine New.setCell ?_ (by first | omega | (simp; done) | (simp; omega)) _ | with_reducible refine New.tail (by assumption) ?_)) hn1
    go_wp2_with fail
    go_loopw [8] (fun i wr => ∃ k : Nat, k ≤ m ∧ i = .int .i64 k ∧ New w wr ∧ Hid (∀ j (hj : j < R.length), j < k → inB R[j] (-999) 999 = true)) (fun i _ => m - (intOf i).toNat)
    case atStart => exact ⟨0, Nat.zero_le _, rfl, hk1, fun j hj h => absurd h (Nat.not_lt_zero _)⟩
    case round =>
      obtain ⟨k, hk, rfl, hw, Hall⟩ := hrel
      by_cases hlt : k < m
      · have hlt' : (k : Int) < (m : Int) := by omega
        have hk0 : (0 : Int) ≤ (k : Int) := by omega
        obtain ⟨b3, off3, x, hB3, hx, hcx⟩ := (hB.keep hw).at_ (k := k) (by rw [HMR.out]; exact hlt)
        subst hB3
        have HX := Lib.hid hx
        clear hx
        cases hv : inB x (-999) 999
        · have HV2 := Lib.hid hv
          clear hv
          go_wp2_with fail
          refine (l1In_any _ _ _ _).mono ?_
          rw [HV2.out]
          rintro e w2 ⟨rfl, rfl⟩
          go_wp2_with fail
          go_ret2
          exact ⟨_, rfl, hw⟩
        · have HV2 := Lib.hid hv
          clear hv
          go_wp2_with fail
          refine (l1In_any _ _ _ _).mono ?_
          rw [HV2.out]
          rintro e w2 ⟨rfl, rfl⟩
          go_wp2_with fail
          go_roundw
          case rel => exact ⟨k + 1, by omega, by go_num, hw, fun j hj h => by
            rcases Nat.lt_or_ge j k with hjk | hjk
            · exact Hall.out j hj hjk
            · obtain rfl : j = k := by omega
              rw [HX.out]; exact HV2.out⟩
          case measure => simp [intOf]; omega
      · exfalso
        have h5 := fitB_good (r := R) fun j hj => Hall.out j hj (by rw [HMR.out] at hj; omega)
        rw [H2.out] at h5
        exact absurd h5 (by decide)
  · have hne : ((m : Int) != (n : Int)) = true := by simp; omega
    clear hdet hv hr hmr hn hD h1 hmv
    go_enter Try.func43, Try.ntmps43
    go_wp2_with fail
    refine (HDET.out _ (hM.keep (by repeat (first | with_reducible exact New.refl _ | with_reducible assumption | with_reducible refine New.alloc ?_ _ | with_reducible refine New.drewN ?_ _ | with_reducible refine New.drew ?_ | with_reducible refine New.setCell ?_ (by first | omega | (simp; done) | (simp; omega)) _ | with_reducible refine New.tail (by assumption) ?_)))).mono ?_
    rw [HD.out]
    rintro e w1 ⟨rfl, hn1⟩
    have hk1 : New w w1 := New.trans (by repeat (first | with_reducible exact New.refl _ | with_reducible assumption | with_reducible refine New.alloc ?_ _ | with_reducible refine New.drewN ?_ _ | with_reducible refine New.drew ?_ | with_reducible refine New.setCell ?_ (by first | omega | (simp; done) | (simp; omega)) _ | with_reducible refine New.tail (by assumption) ?_)) hn1
    go_wp2_with fail
    go_ret2
    exact ⟨_, rfl, hk1⟩
set_option maxHeartbeats 4000000 in
theorem specSolve_ok (A B : Option Addr) (cap capB n : Nat) (M : List (List Int)) (R : List Int) (w : World) (hn : M.length = n) (hM : MatC w A M) (hB : IntsAt w B R) (hv : solOk M R = true) :
    Calls Try.prog 43 #[.slice A n cap, .slice B n capB] w fun e w' => ∃ C cp, e = .returned (.tuple #[.slice C n cp, .int .i64 (detM M)]) ∧ FInts w w' C (solL M R) ∧ New w w' := by
  have h4 := hv
  unfold solOk at h4
  simp only [Bool.and_eq_true, decide_eq_true_eq] at h4
  obtain ⟨⟨⟨h1, hRl⟩, h2⟩, h3⟩ := h4
  obtain ⟨b5, brow⟩ := mvB_true h1
  have hsq := mvB_sq h1
  have hr : ∀ r ∈ M, r.length ≤ 1099511627776 := fun r h => by have := (brow r h).1; omega
  have hdet := fun w (h : MatC w A M) => specDet_any A cap M w h (by omega) hr
  rw [hn] at hdet hRl b5 hsq
  obtain ⟨i0, hi, hz, hs, hb⟩ := info_parts infoInt
  have HDET := Lib.hid hdet
  have HN := Lib.hid hn
  have HMR := Lib.hid hRl
  have HSQ := Lib.hid hsq
  have H2 : Hid (∀ x ∈ R, inB x (-999) 999 = true) := by
    unfold fitB at h2
    rw [List.all_eq_true] at h2
    exact h2
  obtain ⟨D, hD⟩ : ∃ D, detM M = D := ⟨_, rfl⟩
  have HD := Lib.hid hD
  rw [hD] at h3 ⊢
  have hD0 : (D == 0) = false := by simpa using h3
  have HSL : Hid ((solL M R).length = n) := (solL_length M R).trans hn
  have HST : Hid (∀ c, c < n → (solL M R).take (c + 1) = (solL M R).take c ++ [detM (colM M c R)]) := fun c hc => by
    rw [List.take_add_one, solL_get (by omega)]; rfl
  clear hdet hv hr hn h1 h2 h3 hD hRl brow hsq
  go_enter Try.func43, Try.ntmps43
  go_wp2_with fail
  refine (HDET.out _ (hM.keep (by repeat (first | with_reducible exact New.refl _ | with_reducible assumption | with_reducible refine New.alloc ?_ _ | with_reducible refine New.drewN ?_ _ | with_reducible refine New.drew ?_ | with_reducible refine New.setCell ?_ (by first | omega | (simp; done) | (simp; omega)) _ | with_reducible refine New.tail (by assumption) ?_)))).mono ?_
  rw [HD.out]
  rintro e w1 ⟨rfl, hn1⟩
  have hk1 : New w w1 := New.trans (by repeat (first | with_reducible exact New.refl _ | with_reducible assumption | with_reducible refine New.alloc ?_ _ | with_reducible refine New.drewN ?_ _ | with_reducible refine New.drew ?_ | with_reducible refine New.setCell ?_ (by first | omega | (simp; done) | (simp; omega)) _ | with_reducible refine New.tail (by assumption) ?_)) hn1
  have hown0 : w1.ownsRow w.heap.size 3 1 (.slice (some ⟨w.heap.size, 0, none⟩) 0 0) 0 [] := own_new (World.ownsRow_made w #[] 0 (Nat.le_refl _) (by simp) rfl) hn1
  go_wp2_with fail
  go_loopw [8] (fun i wr => ∃ k : Nat, k ≤ n ∧ i = .int .i64 k ∧ New w1 wr) (fun i _ => n - (intOf i).toNat)
  case atStart => exact ⟨0, Nat.zero_le _, rfl, New.refl _⟩
  case round =>
    obtain ⟨k, hk, rfl, hw1⟩ := hrel
    have hw := hk1.trans hw1
    by_cases hlt : k < n
    · have hlt' : (k : Int) < (n : Int) := by omega
      have hk0 : (0 : Int) ≤ (k : Int) := by omega
      have hltR : k < R.length := by rw [HMR.out]; exact hlt
      obtain ⟨b3, off3, x, hB3, hx, hcx⟩ := (hB.keep hw).at_ hltR
      subst hB3
      have HV2 : Hid (inB x (-999) 999 = true) := by have := H2.out _ (List.getElem_mem hltR); rw [hx] at this; exact this
      clear hx
      go_wp2_with fail
      refine (l1In_any _ _ _ _).mono ?_
      rw [HV2.out]
      rintro e w2 ⟨rfl, rfl⟩
      go_wp2_with fail
      go_roundw
      case rel => exact ⟨k + 1, by omega, by go_num, hw1⟩
      case measure => simp [intOf]; omega
    · obtain rfl : k = n := by omega
      have hown1 := own_new hown0 hw1
      obtain ⟨wo, rfl⟩ : ∃ wo : World, wo = wr := ⟨_, rfl⟩
      clear hown0 hn1 hw1 hk1
      go_wp2_with fail
      go_loopw [9, 6] (fun i v wr => ∃ q : Nat, q ≤ k ∧ i = .int .i64 q ∧ New w wr ∧ wr.ownsRow w.heap.size 3 1 v q (((solL M R).take q).map (Value.int .i64))) (fun i _ _ => k - (intOf i).toNat)
      case atStart => exact ⟨0, Nat.zero_le _, rfl, hw, hown1⟩
      case round =>
        obtain ⟨q, hq, rfl, hwq, hownq⟩ := hrel
        by_cases hlt : q < k
        · have hlt' : (q : Int) < (k : Int) := by omega
          have hq0 : (0 : Int) ≤ (q : Int) := by omega
          have HCL : Hid ((colM M q R).length = k) := by rw [Hid, colM_length (by rw [HMR.out, HN.out]), HN.out]
          have HCR : Hid (∀ r ∈ colM M q R, r.length ≤ 1099511627776) := fun r h => by rw [colM_rows HSQ.out r h]; omega
          have HTK := Lib.hid (HST.out q hlt)
          clear hown1
          go_wp2_with fail
          refine (l2Column_any _ _ _ _ k q M R _ HSQ.out b5 HMR.out hlt (hM.keep hwq) (hB.keep hwq)).mono ?_
          rintro e w4 ⟨B4, cp4, rfl, hM4, hn4⟩
          have hdet4 := fun cap => specDet_any B4 cap (colM M q R) w4 hM4 (by rw [HCL.out]; omega) HCR.out
          rw [HCL.out] at hdet4
          have HD4 := Lib.hid hdet4
          clear hdet4
          obtain ⟨y, hy⟩ : ∃ y, detM (colM M q R) = y := ⟨_, rfl⟩
          rw [hy] at HD4 HTK
          clear hy
          go_wp2_with fail
          refine (HD4.out _).mono ?_
          rintro e w5 ⟨rfl, hn5⟩
          have hk5 := hn4.trans hn5
          have hown5 := own_new hownq hk5
          have hw5 := hwq.trans hk5
          clear hownq hM4 hn4 hn5 hk5
          go_wp2_with (at_builtin; refine wpList_append_own _ rfl _ _ 58 rfl w.heap.size 3 i0 (.int .i64 0) 1 8 Try.underlying58 hi hz hs hb rfl (by decide) _ _ _ rfl (own_new hown5 ((New.refl _).alloc _)) ⟨w5.heap.size, 0, none⟩ 1 1 [.int .i64 y] rfl rfl (one_new _ _ _) (one_oneCell _) (by unfold maxLen; omega) (by omega) (by have := hw5.size; simp; omega) ?_; intro v' w6 hown' hgrow _)
          have hnew : New w w6 := (hw5.alloc _).grown hgrow (fun j hj => (hown5.lt j hj).1)
          rw [← List.map_singleton, ← List.map_append, ← HTK.out] at hown'
          go_wp2_with fail
          go_roundw
          case rel => exact ⟨q + 1, by omega, by go_num, hnew, hown'⟩
          case measure => simp [intOf]; omega
        · obtain rfl : q = k := by omega
          rw [List.take_of_length_le (by rw [HSL.out]; exact Nat.le_refl _)] at hownq
          obtain ⟨C, cp, hv6, hF⟩ := FInts.of_own (w0 := w) hownq (Nat.le_refl _)
          rw [HSL.out] at hv6
          subst hv6
          clear hownq hown1
          go_wp2_with fail
          go_ret2
          exact ⟨_, _, rfl, hF, hwq⟩
theorem specSolve_any (A B : Option Addr) (cap capB m : Nat) (M : List (List Int)) (R : List Int) (w : World) (hmr : R.length = m) (hM : MatC w A M) (hB : IntsAt w B R) (hm : M.length ≤ 1099511627776) (hr : ∀ r ∈ M, r.length ≤ 1099511627776) (hR : m ≤ 1099511627776) :
    Calls Try.prog 43 #[.slice A M.length cap, .slice B m capB] w fun e w' => ∃ C cp, e = .returned (.tuple #[.slice C (solS M R).length cp, .int .i64 (solD M R)]) ∧ FInts w w' C (solS M R) ∧ New w w' := by
  cases hv : solOk M R
  · obtain ⟨e1, e2⟩ := sol_no hv
    rw [e1, e2]
    exact (specSolve_no A B cap capB _ m M R w rfl hmr hM hB hm hr hR hv).mono fun e w' ⟨g, h1, h2⟩ => ⟨_, _, h1, FInts.nil, h2⟩
  · obtain ⟨e1, e2⟩ := sol_ok hv
    rw [e1, e2, solL_length]
    have h4 := hv
    unfold solOk at h4
    simp only [Bool.and_eq_true, decide_eq_true_eq] at h4
    have hml : m = M.length := by rw [← hmr]; exact h4.1.1.2
    subst hml
    exact (specSolve_ok A B cap capB _ M R w rfl hM hB hv).mono fun e w' ⟨C, cp, h1, h2, h3⟩ => ⟨_, _, h1, h2, h3⟩
end Go.Proofs.Ytmopbghngaeplaa
