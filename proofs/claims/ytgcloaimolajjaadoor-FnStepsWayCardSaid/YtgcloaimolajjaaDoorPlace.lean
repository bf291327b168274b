/- Contracts of TreePlace, LoopSteps, Misclosure, Closes (program and reference). -/
import Derived.Test.YtgcloaimolajjaaDoorTw
import Derived.Test.YtgcloaimolajjaaDoorSTw
import Derived.Test.YtgcloaimolajjaaDoorStepsWay
namespace Go.Proofs.YtgcloaimolajjaaDoor
open Go.RowKit
set_option linter.all false
/-- The way that TreePlace walks. -/
noncomputable def tpS (st : Int) (L : List Lg) (v : Int) : List St := twS st L (lab (partsL st.toNat L) v) v
def tpOk (st : Int) (L : List Lg) (v : Int) : Bool := svB st L && ixB v st
noncomputable def tpF (st : Int) (L : List Lg) (v : Int) (F : St → Int) : Int := if tpOk st L v then swB st L (tpS st L v) F else 0
noncomputable def tpB (st : Int) (L : List Lg) (v : Int) : Bool := tpOk st L v && soB st L (tpS st L v)
theorem tpOk_no1 {st : Int} {L : List Lg} {v : Int} (h : svB st L = false) : tpOk st L v = false := by simp [tpOk, h]
theorem tpOk_no2 {st : Int} {L : List Lg} {v : Int} (h : ixB v st = false) : tpOk st L v = false := by simp [tpOk, h]
theorem tpOk_yes {st : Int} {L : List Lg} {v : Int} (h1 : svB st L = true) (h : ixB v st = true) : tpOk st L v = true := by simp [tpOk, h1, h]
theorem tpF_no {st : Int} {L : List Lg} {v : Int} (F : St → Int) (h : tpOk st L v = false) : tpF st L v F = 0 := by simp [tpF, h]
theorem tpF_yes {st : Int} {L : List Lg} {v : Int} (F : St → Int) (h : tpOk st L v = true) : tpF st L v F = swB st L (tpS st L v) F := by simp [tpF, h]
theorem tpB_no {st : Int} {L : List Lg} {v : Int} (h : tpOk st L v = false) : tpB st L v = false := by simp [tpB, h]
theorem tpB_yes {st : Int} {L : List Lg} {v : Int} (h : tpOk st L v = true) : tpB st L v = soB st L (tpS st L v) := by simp [tpB, h]
theorem tp_way {n : Nat} {L : List Lg} {v : Nat} (h : svB n L = true) (hv : v < n) : twB n L (lab (partsL n L) v) v = true ∧ inS n (lab (partsL n L) v) := by
  have hS : inS n (v : Int) := ⟨by omega, by omega⟩
  obtain ⟨S, hS2⟩ := tw_least h hS
  exact ⟨(tw_ok hS2).2, by have := hS2.2.1; simpa using this⟩
set_option maxHeartbeats 2000000 in
theorem implTreePlace_ok (n v : Nat) (A : Option Addr) (cap : Nat) (L : List Lg) (w : World) (hL : LegsAt w A L) (hv : svB n L = true) (hvn : v < n) :
    Calls Tryd.prog 44 #[.agg #[.int .i64 n, .slice A L.length cap], .int .i64 v] w fun r w' => r = .returned (.tuple #[.agg #[.int .i64 (swB n L (tpS n L v) (stE L)), .int .i64 (swB n L (tpS n L v) (stN L)), .int .i64 (swB n L (tpS n L v) (stU L))], .bool (soB n L (tpS n L v))]) ∧ New w w' := by
  obtain ⟨b1, b2, b3, b4⟩ := svB_true hv
  obtain ⟨hw1, hw2⟩ := tp_way hv hvn
  obtain ⟨p, hp⟩ := Int.eq_ofNat_of_zero_le hw2.1
  have hpn : p < n := by have := hw2.2; omega
  have hpl : Hid ((partsL n L)[v]? = some (p : Int)) := by
    have h1 := lab_get (l := partsL n L) (a := (v : Int)) (by omega) (by rw [partsL_length]; simpa using hvn)
    rw [hp] at h1
    show _ = _
    simpa using h1
  rw [hp] at hw1
  have hSl := twS_len n L p v
  obtain ⟨S, hS⟩ : ∃ S, twS n L p v = S := ⟨_, rfl⟩
  have hTP : tpS n L v = S := by show twS n L (lab (partsL (n : Int).toNat L) v) v = S; simp only [Int.toNat_natCast]; rw [hp, hS]
  rw [hTP]
  rw [hS] at hSl
  have HS := Lib.hid hS
  have HB := Lib.hid hw1
  have HV := Lib.hid hv
  have HI : Hid (ixB (v : Int) n = true) := ixB_t.2 (by omega)
  obtain ⟨se, hse⟩ : ∃ x, swB n L S (stE L) = x := ⟨_, rfl⟩
  obtain ⟨sn, hsn⟩ : ∃ x, swB n L S (stN L) = x := ⟨_, rfl⟩
  obtain ⟨su, hsu⟩ : ∃ x, swB n L S (stU L) = x := ⟨_, rfl⟩
  obtain ⟨so, hso⟩ : ∃ x, soB n L S = x := ⟨_, rfl⟩
  have HSW := Lib.hid (And.intro hse (And.intro hsn (And.intro hsu hso)))
  rw [hse, hsn, hsu, hso]
  have hPL := partsL_length n L
  have HPL := Lib.hid hPL
  have h1 : New w ((w.alloc (Obj.cells #[.int .i64 n, .slice A L.length cap] 25)).alloc (Obj.cells #[.int .i64 0, .int .i64 0, .int .i64 0] 53)) := (by repeat (first | with_reducible exact New.refl _ | with_reducible assumption | with_reducible refine New.alloc ?_ _ | with_reducible refine New.drewN ?_ _ | with_reducible refine New.drew ?_ | with_reducible refine New.setCell ?_ (by first | omega | (simp; done) | (simp; omega)) _ | with_reducible refine New.tail (by assumption) ?_))
  have h2 := (Has.new w #[.int .i64 n, .slice A L.length cap] 25).alloc (Obj.cells #[.int .i64 0, .int .i64 0, .int .i64 0] 53)
  have h3 := Has.new (w.alloc (Obj.cells #[.int .i64 n, .slice A L.length cap] 25)) #[.int .i64 0, .int .i64 0, .int .i64 0] 53
  simp only [World.size_alloc] at h3
  have hL' := hL.keep h1
  have hv0 : (0 : Int) ≤ (v : Int) := by omega
  have hv1 : (v : Int) < (n : Int) := by omega
  clear b4 hw1 hw2 hp hS hTP hv hse hsn hsu hso hPL
  go_enter Tryd.func44, Tryd.ntmps44
  go_upto_region 1 with fail
  generalize ((w.alloc (Obj.cells #[.int .i64 n, .slice A L.length cap] 25)).alloc (Obj.cells #[.int .i64 0, .int .i64 0, .int .i64 0] 53)) = W0 at *
  have c2 := h2.cells2
  clear h2
  go_wp2_with fail
  refine (implSurveyValid_any _ _ _ _ _ hL' (by omega)).mono ?_
  rw [HV.out]
  rintro e w1 ⟨rfl, hn1⟩
  go_upto_region 3 with (go_at_call 71; refine (isIndex_any _ _ _).mono ?_; rw [HI.out]; rintro e w2 ⟨rfl, rfl⟩)
  have hL1 := hL'.keep hn1
  have c3 := fun w' (hn : New w1 w') => c2 w' (hn1.trans hn)
  clear c2
  go_cut [6, 7] (fun s6 s7 wx => ∃ B cp, s6 = .slice B S.length cp ∧ s7 = .bool true ∧ FSteps w1 wx B S ∧ New w1 wx)
  case first =>
    go_region_with (first
      | (go_at_call 20; refine (implParts_ok _ _ _ _ _ ?_ HV.out).mono ?_; exact hL1.keep (by repeat (first | with_reducible exact New.refl _ | with_reducible assumption | with_reducible refine New.alloc ?_ _ | with_reducible refine New.drewN ?_ _ | with_reducible refine New.drew ?_ | with_reducible refine New.setCell ?_ (by first | omega | (simp; done) | (simp; omega)) _ | with_reducible refine New.tail (by assumption) ?_)); rintro e w3 ⟨gP, rfl, hgP, hI, hn3⟩; have hk3 : New w1 w3 := New.tail hn3 (by repeat (first | with_reducible exact New.refl _ | with_reducible assumption | with_reducible refine New.alloc ?_ _ | with_reducible refine New.drewN ?_ _ | with_reducible refine New.drew ?_ | with_reducible refine New.setCell ?_ (by first | omega | (simp; done) | (simp; omega)) _ | with_reducible refine New.tail (by assumption) ?_)); have cP := hI.cell hpl.out)
      | (go_at_call 37; refine (implTreeWay_any _ _ _ _ _ _ _ ?_ (by omega)).mono ?_; exact hL1.keep (by repeat (first | with_reducible exact New.refl _ | with_reducible assumption | with_reducible refine New.alloc ?_ _ | with_reducible refine New.drewN ?_ _ | with_reducible refine New.drew ?_ | with_reducible refine New.setCell ?_ (by first | omega | (simp; done) | (simp; omega)) _ | with_reducible refine New.tail (by assumption) ?_)); rw [HS.out, HB.out]; rintro e w4 ⟨B, cp, rfl, hF, hn4⟩; have hk4 : New w1 w4 := New.tail hn4 (by repeat (first | with_reducible exact New.refl _ | with_reducible assumption | with_reducible refine New.alloc ?_ _ | with_reducible refine New.drewN ?_ _ | with_reducible refine New.drew ?_ | with_reducible refine New.setCell ?_ (by first | omega | (simp; done) | (simp; omega)) _ | with_reducible refine New.tail (by assumption) ?_))))
    all_goals
      go_wp2_with fail
      go_meet
      exact ⟨_, _, rfl, rfl, hF.older (New.size (by repeat (first | with_reducible exact New.refl _ | with_reducible assumption | with_reducible refine New.alloc ?_ _ | with_reducible refine New.drewN ?_ _ | with_reducible refine New.drew ?_ | with_reducible refine New.setCell ?_ (by first | omega | (simp; done) | (simp; omega)) _ | with_reducible refine New.tail (by assumption) ?_))), hk4⟩
  case rest =>
    obtain ⟨B, cp, rfl, rfl, hF, hwc⟩ := hcut
    have h3c := h3.keep (hn1.trans hwc)
    have c4 := fun w' (hn : New wc w') => c3 w' (hwc.trans hn)
    have c5 := h3c.cells3
    have f5 := h3c.frees
    clear c3 h3
    go_wp2_with fail
    refine (implStepsWay_any _ _ _ _ _ _ _ _ (hL1.keep hwc) hF.reads (by omega) (by omega)).mono ?_
    rw [HSW.out.1, HSW.out.2.1, HSW.out.2.2.1, HSW.out.2.2.2]
    rintro e w5 ⟨rfl, hn5⟩
    go_wp2_with fail
    have hlt := h3c.lt
    have hz := hn5.size
    exact bodyPost_ret (v := .tuple #[.agg #[.int .i64 se, .int .i64 sn, .int .i64 su], .bool so]) (by simp [results, Tryd.results44, go_sem, c5, hn5]) rfl ⟨rfl, New.setCell (New.setCell (New.setCell (h1.trans (hn1.trans (hwc.trans hn5))) (p := ⟨w.heap.size + 1, 0, none⟩) (by simp) _) (p := ⟨w.heap.size + 1, 1, none⟩) (by simp) _) (p := ⟨w.heap.size + 1, 2, none⟩) (by simp) _⟩

set_option maxHeartbeats 1000000 in
theorem implTreePlace_bad (st v : Int) (A : Option Addr) (cap : Nat) (L : List Lg) (w : World) (hL : LegsAt w A L) (hm : L.length ≤ 1099511627776) (h : svB st L = false ∨ (svB st L = true ∧ ixB v st = false)) :
    Calls Tryd.prog 44 #[.agg #[.int .i64 st, .slice A L.length cap], .int .i64 v] w fun r w' => r = .returned (.tuple #[.agg #[.int .i64 0, .int .i64 0, .int .i64 0], .bool false]) ∧ New w w' := by
  have h1 : New w ((w.alloc (Obj.cells #[.int .i64 st, .slice A L.length cap] 25)).alloc (Obj.cells #[.int .i64 0, .int .i64 0, .int .i64 0] 53)) := (by repeat (first | with_reducible exact New.refl _ | with_reducible assumption | with_reducible refine New.alloc ?_ _ | with_reducible refine New.drewN ?_ _ | with_reducible refine New.drew ?_ | with_reducible refine New.setCell ?_ (by first | omega | (simp; done) | (simp; omega)) _ | with_reducible refine New.tail (by assumption) ?_))
  have h2 := (Has.new w #[.int .i64 st, .slice A L.length cap] 25).alloc (Obj.cells #[.int .i64 0, .int .i64 0, .int .i64 0] 53)
  have h3 := Has.new (w.alloc (Obj.cells #[.int .i64 st, .slice A L.length cap] 25)) #[.int .i64 0, .int .i64 0, .int .i64 0] 53
  simp only [World.size_alloc] at h3
  have hL' := hL.keep h1
  rcases h with h | ⟨hv, h⟩
  · have H := Lib.hid h
    clear h
    go_enter Tryd.func44, Tryd.ntmps44
    go_upto_region 1 with fail
    generalize ((w.alloc (Obj.cells #[.int .i64 st, .slice A L.length cap] 25)).alloc (Obj.cells #[.int .i64 0, .int .i64 0, .int .i64 0] 53)) = W0 at *
    have c2 := h2.cells2
    clear h2
    go_wp2_with fail
    refine (implSurveyValid_any _ _ _ _ _ hL' hm).mono ?_
    rw [H.out]
    rintro e w1 ⟨rfl, hn1⟩
    have c5 := h3.keep hn1 |>.cells3
    have f5 := h3.keep hn1 |>.frees
    go_wp2_with fail
    exact bodyPost_ret (v := .tuple #[.agg #[.int .i64 0, .int .i64 0, .int .i64 0], .bool false]) (by simp [results, Tryd.results44, go_sem, c5]) rfl ⟨rfl, New.setCell (New.setCell (New.setCell (h1.trans hn1) (p := ⟨w.heap.size + 1, 0, none⟩) (by simp) _) (p := ⟨w.heap.size + 1, 1, none⟩) (by simp) _) (p := ⟨w.heap.size + 1, 2, none⟩) (by simp) _⟩
  · obtain ⟨b1, b2, b3, b4⟩ := svB_true hv
    have H := Lib.hid h
    have HV := Lib.hid hv
    clear h hv b4
    go_enter Tryd.func44, Tryd.ntmps44
    go_upto_region 1 with fail
    generalize ((w.alloc (Obj.cells #[.int .i64 st, .slice A L.length cap] 25)).alloc (Obj.cells #[.int .i64 0, .int .i64 0, .int .i64 0] 53)) = W0 at *
    have c2 := h2.cells2
    clear h2
    go_wp2_with fail
    refine (implSurveyValid_any _ _ _ _ _ hL' hm).mono ?_
    rw [HV.out]
    rintro e w1 ⟨rfl, hn1⟩
    have c5 := h3.keep hn1 |>.cells3
    have f5 := h3.keep hn1 |>.frees
    go_wp2_with (go_at_call 71; refine (isIndex_any _ _ _).mono ?_; rw [H.out]; rintro e w2 ⟨rfl, rfl⟩)
    exact bodyPost_ret (v := .tuple #[.agg #[.int .i64 0, .int .i64 0, .int .i64 0], .bool false]) (by simp [results, Tryd.results44, go_sem, c5]) rfl ⟨rfl, New.setCell (New.setCell (New.setCell (h1.trans hn1) (p := ⟨w.heap.size + 1, 0, none⟩) (by simp) _) (p := ⟨w.heap.size + 1, 1, none⟩) (by simp) _) (p := ⟨w.heap.size + 1, 2, none⟩) (by simp) _⟩

theorem implTreePlace_any (st v : Int) (A : Option Addr) (cap : Nat) (L : List Lg) (w : World) (hL : LegsAt w A L) (hm : L.length ≤ 1099511627776) :
    Calls Tryd.prog 44 #[.agg #[.int .i64 st, .slice A L.length cap], .int .i64 v] w fun r w' => r = .returned (.tuple #[.agg #[.int .i64 (tpF st L v (stE L)), .int .i64 (tpF st L v (stN L)), .int .i64 (tpF st L v (stU L))], .bool (tpB st L v)]) ∧ New w w' := by
  cases hv : svB st L
  · have h := tpOk_no1 (v := v) hv
    rw [tpF_no _ h, tpF_no _ h, tpF_no _ h, tpB_no h]
    exact implTreePlace_bad st v A cap L w hL hm (.inl hv)
  · cases hi : ixB v st
    · have h := tpOk_no2 (L := L) hi
      rw [tpF_no _ h, tpF_no _ h, tpF_no _ h, tpB_no h]
      exact implTreePlace_bad st v A cap L w hL hm (.inr ⟨hv, hi⟩)
    · have h := tpOk_yes hv hi
      rw [tpF_yes _ h, tpF_yes _ h, tpF_yes _ h, tpB_yes h]
      obtain ⟨n, rfl⟩ := svB_nat hv
      have hi2 := ixB_t.1 hi
      obtain ⟨v, rfl⟩ := Int.eq_ofNat_of_zero_le hi2.1
      exact implTreePlace_ok n v A cap L w hL hv (by omega)
theorem specParts_n (n : Nat) (A : Option Addr) (cap : Nat) (L : List Lg) (w : World) (hL : LegsAt w A L) (hv : svB n L = true) (hn : 1 ≤ n) :
    Calls Tryd.prog 22 #[.agg #[.int .i64 n, .slice A L.length cap]] w fun r w' => ∃ g cp, r = .returned (.slice (some ⟨g, 0, none⟩) n cp) ∧ w.heap.size ≤ g ∧ Ints w' g (partsL n L) ∧ New w w' :=
  (specParts_any n A cap L w hL (by have := (svB_true hv).2.2.1; omega)).mono fun e w' ⟨B, cp, h1, h2, h3⟩ => by
    rw [prL_ok hv, partsL_length] at h1
    rw [prL_ok hv] at h2
    obtain ⟨g, rfl, hg, hI⟩ := h2 (by intro e; have := congrArg List.length e; rw [partsL_length] at this; simp at this; omega)
    exact ⟨g, cp, h1, hg, hI, h3⟩
set_option maxHeartbeats 2000000 in
theorem specTreePlace_ok (n v : Nat) (A : Option Addr) (cap : Nat) (L : List Lg) (w : World) (hL : LegsAt w A L) (hv : svB n L = true) (hvn : v < n) :
    Calls Tryd.prog 45 #[.agg #[.int .i64 n, .slice A L.length cap], .int .i64 v] w fun r w' => r = .returned (.tuple #[.agg #[.int .i64 (swB n L (tpS n L v) (stE L)), .int .i64 (swB n L (tpS n L v) (stN L)), .int .i64 (swB n L (tpS n L v) (stU L))], .bool (soB n L (tpS n L v))]) ∧ New w w' := by
  obtain ⟨b1, b2, b3, b4⟩ := svB_true hv
  obtain ⟨hw1, hw2⟩ := tp_way hv hvn
  obtain ⟨p, hp⟩ := Int.eq_ofNat_of_zero_le hw2.1
  have hpn : p < n := by have := hw2.2; omega
  have hpl : Hid ((partsL n L)[v]? = some (p : Int)) := by
    have h1 := lab_get (l := partsL n L) (a := (v : Int)) (by omega) (by rw [partsL_length]; simpa using hvn)
    rw [hp] at h1
    show _ = _
    simpa using h1
  rw [hp] at hw1
  have hSl := twS_len n L p v
  obtain ⟨S, hS⟩ : ∃ S, twS n L p v = S := ⟨_, rfl⟩
  have hTP : tpS n L v = S := by show twS n L (lab (partsL (n : Int).toNat L) v) v = S; simp only [Int.toNat_natCast]; rw [hp, hS]
  rw [hTP]
  rw [hS] at hSl
  have HS := Lib.hid hS
  have HB := Lib.hid hw1
  have HV := Lib.hid hv
  have HI : Hid (inB (v : Int) 0 ((n : Int) - 1) = true) := inB_t.2 (by omega)
  obtain ⟨se, hse⟩ : ∃ x, swB n L S (stE L) = x := ⟨_, rfl⟩
  obtain ⟨sn, hsn⟩ : ∃ x, swB n L S (stN L) = x := ⟨_, rfl⟩
  obtain ⟨su, hsu⟩ : ∃ x, swB n L S (stU L) = x := ⟨_, rfl⟩
  obtain ⟨so, hso⟩ : ∃ x, soB n L S = x := ⟨_, rfl⟩
  have HSW := Lib.hid (And.intro hse (And.intro hsn (And.intro hsu hso)))
  rw [hse, hsn, hsu, hso]
  have hPL := partsL_length n L
  have HPL := Lib.hid hPL
  have h1 : New w ((w.alloc (Obj.cells #[.int .i64 n, .slice A L.length cap] 25)).alloc (Obj.cells #[.int .i64 0, .int .i64 0, .int .i64 0] 53)) := (by repeat (first | with_reducible exact New.refl _ | with_reducible assumption | with_reducible refine New.alloc ?_ _ | with_reducible refine New.drewN ?_ _ | with_reducible refine New.drew ?_ | with_reducible refine New.setCell ?_ (by first | omega | (simp; done) | (simp; omega)) _ | with_reducible refine New.tail (by assumption) ?_))
  have h2 := (Has.new w #[.int .i64 n, .slice A L.length cap] 25).alloc (Obj.cells #[.int .i64 0, .int .i64 0, .int .i64 0] 53)
  have h3 := Has.new (w.alloc (Obj.cells #[.int .i64 n, .slice A L.length cap] 25)) #[.int .i64 0, .int .i64 0, .int .i64 0] 53
  simp only [World.size_alloc] at h3
  have hL' := hL.keep h1
  have hv0 : (0 : Int) ≤ (v : Int) := by omega
  have hv1 : (v : Int) < (n : Int) := by omega
  clear b4 hw1 hw2 hp hS hTP hv hse hsn hsu hso hPL
  go_enter Tryd.func45, Tryd.ntmps45
  go_upto_region 1 with fail
  generalize ((w.alloc (Obj.cells #[.int .i64 n, .slice A L.length cap] 25)).alloc (Obj.cells #[.int .i64 0, .int .i64 0, .int .i64 0] 53)) = W0 at *
  have c2 := h2.cells2
  clear h2
  go_wp2_with fail
  refine (specSurveyValid_any _ _ _ _ _ hL' (by omega)).mono ?_
  rw [HV.out]
  rintro e w1 ⟨rfl, hn1⟩
  go_upto_region 3 with (go_at_call 64; refine (l1In_any _ _ _ _).mono ?_; rw [HI.out]; rintro e w2 ⟨rfl, rfl⟩)
  have hL1 := hL'.keep hn1
  have c3 := fun w' (hn : New w1 w') => c2 w' (hn1.trans hn)
  clear c2
  go_cut [6, 7] (fun s6 s7 wx => ∃ B cp, s6 = .slice B S.length cp ∧ s7 = .bool true ∧ FSteps w1 wx B S ∧ New w1 wx)
  case first =>
    go_region_with (first
      | (go_at_call 22; refine (specParts_n _ _ _ _ _ ?_ HV.out (by omega)).mono ?_; exact hL1.keep (by repeat (first | with_reducible exact New.refl _ | with_reducible assumption | with_reducible refine New.alloc ?_ _ | with_reducible refine New.drewN ?_ _ | with_reducible refine New.drew ?_ | with_reducible refine New.setCell ?_ (by first | omega | (simp; done) | (simp; omega)) _ | with_reducible refine New.tail (by assumption) ?_)); rintro e w3 ⟨gP, cpP, rfl, hgP, hI, hn3⟩; have hk3 : New w1 w3 := New.tail hn3 (by repeat (first | with_reducible exact New.refl _ | with_reducible assumption | with_reducible refine New.alloc ?_ _ | with_reducible refine New.drewN ?_ _ | with_reducible refine New.drew ?_ | with_reducible refine New.setCell ?_ (by first | omega | (simp; done) | (simp; omega)) _ | with_reducible refine New.tail (by assumption) ?_)); have cP := hI.cell hpl.out)
      | (go_at_call 38; refine (specTreeWay_any _ _ _ _ _ _ _ ?_ (by omega)).mono ?_; exact hL1.keep (by repeat (first | with_reducible exact New.refl _ | with_reducible assumption | with_reducible refine New.alloc ?_ _ | with_reducible refine New.drewN ?_ _ | with_reducible refine New.drew ?_ | with_reducible refine New.setCell ?_ (by first | omega | (simp; done) | (simp; omega)) _ | with_reducible refine New.tail (by assumption) ?_)); rw [HS.out, HB.out]; rintro e w4 ⟨B, cp, rfl, hF, hn4⟩; have hk4 : New w1 w4 := New.tail hn4 (by repeat (first | with_reducible exact New.refl _ | with_reducible assumption | with_reducible refine New.alloc ?_ _ | with_reducible refine New.drewN ?_ _ | with_reducible refine New.drew ?_ | with_reducible refine New.setCell ?_ (by first | omega | (simp; done) | (simp; omega)) _ | with_reducible refine New.tail (by assumption) ?_))))
    all_goals
      go_wp2_with fail
      go_meet
      exact ⟨_, _, rfl, rfl, hF.older (New.size (by repeat (first | with_reducible exact New.refl _ | with_reducible assumption | with_reducible refine New.alloc ?_ _ | with_reducible refine New.drewN ?_ _ | with_reducible refine New.drew ?_ | with_reducible refine New.setCell ?_ (by first | omega | (simp; done) | (simp; omega)) _ | with_reducible refine New.tail (by assumption) ?_))), hk4⟩
  case rest =>
    obtain ⟨B, cp, rfl, rfl, hF, hwc⟩ := hcut
    have h3c := h3.keep (hn1.trans hwc)
    have c4 := fun w' (hn : New wc w') => c3 w' (hwc.trans hn)
    have c5 := h3c.cells3
    have f5 := h3c.frees
    clear c3 h3
    go_wp2_with fail
    refine (specStepsWay_any _ _ _ _ _ _ _ _ (hL1.keep hwc) hF.reads (by omega) (by omega)).mono ?_
    rw [HSW.out.1, HSW.out.2.1, HSW.out.2.2.1, HSW.out.2.2.2]
    rintro e w5 ⟨rfl, hn5⟩
    go_wp2_with fail
    have hlt := h3c.lt
    have hz := hn5.size
    exact bodyPost_ret (v := .tuple #[.agg #[.int .i64 se, .int .i64 sn, .int .i64 su], .bool so]) (by simp [results, Tryd.results45, go_sem, c5, hn5]) rfl ⟨rfl, New.setCell (New.setCell (New.setCell (h1.trans (hn1.trans (hwc.trans hn5))) (p := ⟨w.heap.size + 1, 0, none⟩) (by simp) _) (p := ⟨w.heap.size + 1, 1, none⟩) (by simp) _) (p := ⟨w.heap.size + 1, 2, none⟩) (by simp) _⟩

set_option maxHeartbeats 1000000 in
theorem specTreePlace_bad (st v : Int) (A : Option Addr) (cap : Nat) (L : List Lg) (w : World) (hL : LegsAt w A L) (hm : L.length ≤ 1099511627776) (h : svB st L = false ∨ (svB st L = true ∧ inB v 0 (st - 1) = false)) :
    Calls Tryd.prog 45 #[.agg #[.int .i64 st, .slice A L.length cap], .int .i64 v] w fun r w' => r = .returned (.tuple #[.agg #[.int .i64 0, .int .i64 0, .int .i64 0], .bool false]) ∧ New w w' := by
  have h1 : New w ((w.alloc (Obj.cells #[.int .i64 st, .slice A L.length cap] 25)).alloc (Obj.cells #[.int .i64 0, .int .i64 0, .int .i64 0] 53)) := (by repeat (first | with_reducible exact New.refl _ | with_reducible assumption | with_reducible refine New.alloc ?_ _ | with_reducible refine New.drewN ?_ _ | with_reducible refine New.drew ?_ | with_reducible refine New.setCell ?_ (by first | omega | (simp; done) | (simp; omega)) _ | with_reducible refine New.tail (by assumption) ?_))
  have h2 := (Has.new w #[.int .i64 st, .slice A L.length cap] 25).alloc (Obj.cells #[.int .i64 0, .int .i64 0, .int .i64 0] 53)
  have h3 := Has.new (w.alloc (Obj.cells #[.int .i64 st, .slice A L.length cap] 25)) #[.int .i64 0, .int .i64 0, .int .i64 0] 53
  simp only [World.size_alloc] at h3
  have hL' := hL.keep h1
  rcases h with h | ⟨hv, h⟩
  · have H := Lib.hid h
    clear h
    go_enter Tryd.func45, Tryd.ntmps45
    go_upto_region 1 with fail
    generalize ((w.alloc (Obj.cells #[.int .i64 st, .slice A L.length cap] 25)).alloc (Obj.cells #[.int .i64 0, .int .i64 0, .int .i64 0] 53)) = W0 at *
    have c2 := h2.cells2
    clear h2
    go_wp2_with fail
    refine (specSurveyValid_any _ _ _ _ _ hL' hm).mono ?_
    rw [H.out]
    rintro e w1 ⟨rfl, hn1⟩
    have c5 := h3.keep hn1 |>.cells3
    have f5 := h3.keep hn1 |>.frees
    go_wp2_with fail
    exact bodyPost_ret (v := .tuple #[.agg #[.int .i64 0, .int .i64 0, .int .i64 0], .bool false]) (by simp [results, Tryd.results45, go_sem, c5]) rfl ⟨rfl, New.setCell (New.setCell (New.setCell (h1.trans hn1) (p := ⟨w.heap.size + 1, 0, none⟩) (by simp) _) (p := ⟨w.heap.size + 1, 1, none⟩) (by simp) _) (p := ⟨w.heap.size + 1, 2, none⟩) (by simp) _⟩
  · obtain ⟨b1, b2, b3, b4⟩ := svB_true hv
    have H := Lib.hid h
    have HV := Lib.hid hv
    clear h hv b4
    go_enter Tryd.func45, Tryd.ntmps45
    go_upto_region 1 with fail
    generalize ((w.alloc (Obj.cells #[.int .i64 st, .slice A L.length cap] 25)).alloc (Obj.cells #[.int .i64 0, .int .i64 0, .int .i64 0] 53)) = W0 at *
    have c2 := h2.cells2
    clear h2
    go_wp2_with fail
    refine (specSurveyValid_any _ _ _ _ _ hL' hm).mono ?_
    rw [HV.out]
    rintro e w1 ⟨rfl, hn1⟩
    have c5 := h3.keep hn1 |>.cells3
    have f5 := h3.keep hn1 |>.frees
    go_wp2_with (go_at_call 64; refine (l1In_any _ _ _ _).mono ?_; rw [H.out]; rintro e w2 ⟨rfl, rfl⟩)
    exact bodyPost_ret (v := .tuple #[.agg #[.int .i64 0, .int .i64 0, .int .i64 0], .bool false]) (by simp [results, Tryd.results45, go_sem, c5]) rfl ⟨rfl, New.setCell (New.setCell (New.setCell (h1.trans hn1) (p := ⟨w.heap.size + 1, 0, none⟩) (by simp) _) (p := ⟨w.heap.size + 1, 1, none⟩) (by simp) _) (p := ⟨w.heap.size + 1, 2, none⟩) (by simp) _⟩

theorem specTreePlace_any (st v : Int) (A : Option Addr) (cap : Nat) (L : List Lg) (w : World) (hL : LegsAt w A L) (hm : L.length ≤ 1099511627776) :
    Calls Tryd.prog 45 #[.agg #[.int .i64 st, .slice A L.length cap], .int .i64 v] w fun r w' => r = .returned (.tuple #[.agg #[.int .i64 (tpF st L v (stE L)), .int .i64 (tpF st L v (stN L)), .int .i64 (tpF st L v (stU L))], .bool (tpB st L v)]) ∧ New w w' := by
  cases hv : svB st L
  · have h := tpOk_no1 (v := v) hv
    rw [tpF_no _ h, tpF_no _ h, tpF_no _ h, tpB_no h]
    exact specTreePlace_bad st v A cap L w hL hm (.inl hv)
  · cases hi : ixB v st
    · have h := tpOk_no2 (L := L) hi
      rw [tpF_no _ h, tpF_no _ h, tpF_no _ h, tpB_no h]
      exact specTreePlace_bad st v A cap L w hL hm (.inr ⟨hv, by rw [← ix_in]; exact hi⟩)
    · have h := tpOk_yes hv hi
      rw [tpF_yes _ h, tpF_yes _ h, tpF_yes _ h, tpB_yes h]
      obtain ⟨n, rfl⟩ := svB_nat hv
      have hi2 := ixB_t.1 hi
      obtain ⟨v, rfl⟩ := Int.eq_ofNat_of_zero_le hi2.1
      exact specTreePlace_ok n v A cap L w hL hv (by omega)
end Go.Proofs.YtgcloaimolajjaaDoor
