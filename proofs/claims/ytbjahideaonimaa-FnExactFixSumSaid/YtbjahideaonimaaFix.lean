/- Contracts of FixValid (program and reference). -/
import Derived.Test.YtbjahideaonimaaWys
import Derived.Test.YtbjahideaonimaaWay
import Derived.Test.YtbjahideaonimaaSurv
import Derived.Test.YtbjahideaonimaaParts
import Derived.Laws.StructEq
namespace Go.Proofs.Ytbjahideaonimaa
open Go.RowKit
set_option linter.all false
def wyOk (q : Wy) : Bool := wiB q.e 99999 && wiB q.n 99999 && wiB q.u 99999
theorem wyOk_t {q : Wy} : wyOk q = true ↔ (-99999 ≤ q.e ∧ q.e ≤ 99999) ∧ (-99999 ≤ q.n ∧ q.n ≤ 99999) ∧ (-99999 ≤ q.u ∧ q.u ≤ 99999) := by
  unfold wyOk
  simp only [Bool.and_eq_true, wiB_t, and_assoc]
/-- What FixValid returns. -/
def fvB (st : Int) (L : List Lg) (dn : Int) (N : List Wy) : Bool := svB st L && inB dn 1 999 && decide ((N.length : Int) = st) && decide (N[0]? = some ⟨0, 0, 0⟩) && N.all wyOk
theorem fvB_sv {st : Int} {L : List Lg} {dn : Int} {N : List Wy} (h : svB st L = false) : fvB st L dn N = false := by simp [fvB, h]
theorem fvB_dn {st : Int} {L : List Lg} {dn : Int} {N : List Wy} (h : ¬ (1 ≤ dn ∧ dn ≤ 999)) : fvB st L dn N = false := by simp only [fvB, inB_f.2 h]; simp
theorem fvB_len {st : Int} {L : List Lg} {dn : Int} {N : List Wy} (h : ¬ (N.length : Int) = st) : fvB st L dn N = false := by simp [fvB, h]
theorem fvB_zero {st : Int} {L : List Lg} {dn : Int} {N : List Wy} (h : ¬ N[0]? = some ⟨0, 0, 0⟩) : fvB st L dn N = false := by simp [fvB, h]
theorem fvB_bad {st : Int} {L : List Lg} {dn : Int} {N : List Wy} {k : Nat} (hk : k < N.length) (h : wyOk N[k] = false) : fvB st L dn N = false := by
  have : N.all wyOk = false := by rw [List.all_eq_false]; exact ⟨_, List.getElem_mem hk, by simp [h]⟩
  simp [fvB, this]
theorem fvB_good {st : Int} {L : List Lg} {dn : Int} {N : List Wy} (h1 : svB st L = true) (h2 : 1 ≤ dn ∧ dn ≤ 999) (h3 : (N.length : Int) = st) (h4 : N[0]? = some ⟨0, 0, 0⟩) (h : ∀ k (hk : k < N.length), wyOk N[k] = true) : fvB st L dn N = true := by
  have : N.all wyOk = true := by
    rw [List.all_eq_true]; intro x hx
    obtain ⟨k, hk, rfl⟩ := List.getElem_of_mem hx
    exact h k hk
  simp only [fvB, h1, inB_t.2 h2, h3, h4, this]
  simp
theorem fvB_true {st : Int} {L : List Lg} {dn : Int} {N : List Wy} (h : fvB st L dn N = true) : svB st L = true ∧ (1 ≤ dn ∧ dn ≤ 999) ∧ (N.length : Int) = st ∧ ∀ q ∈ N, wyOk q = true := by
  unfold fvB at h
  simp only [Bool.and_eq_true, decide_eq_true_eq, inB_t, List.all_eq_true] at h
  exact ⟨h.1.1.1.1, h.1.1.1.2, h.1.1.2, h.2⟩
theorem guardWay : Try.prog.eqGuardType Try.prog.depth 43 = false := by kernel_rfl
set_option maxHeartbeats 1000000 in
theorem way_eq (w : World) (a b c d e f : Int) : (Op.equalIn 10000 43 (.agg #[.int .i64 a, .int .i64 b, .int .i64 c]) (.agg #[.int .i64 d, .int .i64 e, .int .i64 f])).run Try.prog w = .ok (decide (a = d ∧ b = e ∧ c = f)) w := by
  have u3 := Try.underlying3
  have a3 := Try.isAgg3
  have z3 := Try.sizeOf3
  have hS : Try.prog.underlying 43 = some (.struct (Try.prog.fieldsOf 43)) := by kernel_rfl
  have hp : Try.prog.stoodInHeld 43 = false := by kernel_rfl
  rw [show (10000 : Nat) = 9999 + 1 from rfl, run_equalIn_agg w 9999 _ _ _ hS hp]
  simp only [Program.fieldsOf, Try.underlying43]
  go_simp
  by_cases h1 : a = d <;> by_cases h2 : b = e <;> by_cases h3 : c = f <;> simp [h1, h2, h3]
theorem way_neq (w : World) (a b c d e f : Int) : (binOp .neq 43 (.agg #[.int .i64 a, .int .i64 b, .int .i64 c]) (.agg #[.int .i64 d, .int .i64 e, .int .i64 f])).run Try.prog w = .ok (.bool (!decide (a = d ∧ b = e ∧ c = f))) w := by
  rw [run_neq_struct, way_eq]; rfl
set_option maxHeartbeats 4000000 in
theorem implFixValid_any (st : Int) (A B : Option Addr) (cap cb : Nat) (L : List Lg) (dn : Int) (N : List Wy) (w : World) (hL : LegsAt w A L) (hN : WaysAt w B N) (hm : L.length ≤ 1099511627776) (hmn : N.length ≤ 1099511627776) :
    Calls Try.prog 12 #[.agg #[.int .i64 st, .slice A L.length cap], .agg #[.int .i64 dn, .slice B N.length cb]] w fun r w' => r = .returned (.bool (fvB st L dn N)) ∧ New w w' := by
  have h1 : New w ((w.alloc (Obj.cells #[.int .i64 st, .slice A L.length cap] 33)).alloc (Obj.cells #[.int .i64 dn, .slice B N.length cb] 37)) := (by repeat (first | with_reducible exact New.refl _ | with_reducible assumption | with_reducible refine New.alloc ?_ _ | with_reducible refine New.drewN ?_ _ | with_reducible refine New.drew ?_ | with_reducible refine New.setCell ?_ (by first | omega | (simp; done) | (simp; omega)) _ | with_reducible refine New.tail (by assumption) ?_))
  have h2 := (Has.new w #[.int .i64 st, .slice A L.length cap] 33).alloc (Obj.cells #[.int .i64 dn, .slice B N.length cb] 37)
  have h3 := Has.new (w.alloc (Obj.cells #[.int .i64 st, .slice A L.length cap] 33)) #[.int .i64 dn, .slice B N.length cb] 37
  simp only [World.size_alloc] at h3
  have hL' := hL.keep h1
  have hN' := hN.keep h1
  have q1 := way_neq
  obtain ⟨sv, hv⟩ : ∃ b, svB st L = b := ⟨_, rfl⟩
  have HV := Lib.hid hv
  clear hv hL hN
  go_enter Try.func12, Try.ntmps12
  go_upto_region 1 with fail
  generalize ((w.alloc (Obj.cells #[.int .i64 st, .slice A L.length cap] 33)).alloc (Obj.cells #[.int .i64 dn, .slice B N.length cb] 37)) = W0 at *
  have c2 := h2.cells2
  have c3 := h3.cells2
  clear h2 h3
  go_wp2_with fail
  refine (implSurveyValid_any _ _ _ _ _ hL' hm).mono ?_
  rw [HV.out]
  rintro _ w1 ⟨rfl, hn1⟩
  have c4 := fun w' hn => c2 w' (hn1.trans hn)
  have c5 := fun w' hn => c3 w' (hn1.trans hn)
  have hN1 := hN'.keep hn1
  clear c2 c3 hN'
  cases sv
  · go_wp2_with fail
    go_ret
    exact ⟨ret_bool (fvB_sv HV.out).symm, h1.trans hn1⟩
  by_cases d1 : dn < 1
  · go_wp2_with fail
    go_ret
    exact ⟨ret_bool (fvB_dn (by omega)).symm, h1.trans hn1⟩
  by_cases d2 : 999 < dn
  · go_wp2_with fail
    go_ret
    exact ⟨ret_bool (fvB_dn (by omega)).symm, h1.trans hn1⟩
  by_cases hln : (N.length : Int) = st
  rotate_left
  · have hb : ((N.length : Int) != st) = true := by simpa using hln
    have HB := Lib.hid hln
    clear hln
    go_wp2_with fail
    go_ret
    exact ⟨ret_bool (fvB_len HB.out).symm, h1.trans hn1⟩
  obtain ⟨b1, b2, _, _⟩ := svB_true HV.out
  have hpos : 0 < N.length := by omega
  have hpos' : (0 : Int) < (N.length : Int) := by omega
  have hb : ((N.length : Int) != st) = false := by simpa using hln
  have HLN := Lib.hid hln
  obtain ⟨bN, oN, e, n, u, hB, hg, hc⟩ := hN1.at_ hpos
  subst hB
  have HG := Lib.hid (show N[0]? = some ⟨e, n, u⟩ by rw [List.getElem?_eq_getElem hpos, hg])
  simp only [Nat.zero_mul, Nat.add_zero] at hc
  clear hg hln
  by_cases hz : e = 0 ∧ n = 0 ∧ u = 0
  rotate_left
  · have hz' : decide (e = 0 ∧ n = 0 ∧ u = 0) = false := by simpa using hz
    have HZ := Lib.hid hz
    clear hz
    go_wp2_with fail
    go_ret
    exact ⟨ret_bool (fvB_zero (fun h => HZ.out (by have := Option.some.inj (HG.out.symm.trans h); cases this; exact ⟨rfl, rfl, rfl⟩))).symm, h1.trans hn1⟩
  obtain ⟨rfl, rfl, rfl⟩ := hz
  go_wp2_with fail
  clear hc q1 hb
  go_loopw [39] (fun i wr => ∃ k : Nat, k ≤ N.length ∧ i = .int .i64 k ∧ New w1 wr ∧ Hid (∀ j (hj : j < N.length), j < k → wyOk N[j] = true)) (fun i _ => N.length - (intOf i).toNat)
  case atStart => exact ⟨0, Nat.zero_le _, rfl, New.refl _, fun j hj h => absurd h (Nat.not_lt_zero _)⟩
  case round =>
    obtain ⟨k, hk, rfl, hw, HALL⟩ := hrel
    have c6 := fun w' hn => c5 w' (hw.trans hn)
    by_cases hlt : k < N.length
    · have hlt' : (k : Int) < (N.length : Int) := by omega
      obtain ⟨b', o', e, n, u, hA, hg, hc⟩ := (hN1.keep hw).at_ hlt
      obtain ⟨rfl, rfl⟩ : bN = b' ∧ oN = o' := by simpa using hA
      obtain ⟨xe, he⟩ : ∃ b, wiB e 99999 = b := ⟨_, rfl⟩
      obtain ⟨xn, hn⟩ : ∃ b, wiB n 99999 = b := ⟨_, rfl⟩
      obtain ⟨xu, hu⟩ : ∃ b, wiB u 99999 = b := ⟨_, rfl⟩
      have HOK := Lib.hid (show wyOk N[k] = (xe && xn && xu) by rw [hg, ← he, ← hn, ← hu]; rfl)
      have HE := Lib.hid he
      have HNN := Lib.hid hn
      have HU := Lib.hid hu
      clear hA hg he hn hu c4 c5
      cases xe
      · go_wp2_with (go_at_call 29; refine (isWithin_any _ _ _ (by omega) (by omega)).mono ?_; (first | rw [HE.out] | rw [HNN.out] | rw [HU.out]); rintro _ _ ⟨rfl, rfl⟩)
        go_ret
        exact ⟨ret_bool (fvB_bad hlt HOK.out).symm, h1.trans (hn1.trans (hw.trans (by repeat (first | with_reducible exact New.refl _ | with_reducible assumption | with_reducible refine New.alloc ?_ _ | with_reducible refine New.drewN ?_ _ | with_reducible refine New.drew ?_ | with_reducible refine New.setCell ?_ (by first | omega | (simp; done) | (simp; omega)) _ | with_reducible refine New.tail (by assumption) ?_))))⟩
      cases xn
      · go_wp2_with (go_at_call 29; refine (isWithin_any _ _ _ (by omega) (by omega)).mono ?_; (first | rw [HE.out] | rw [HNN.out] | rw [HU.out]); rintro _ _ ⟨rfl, rfl⟩)
        go_ret
        exact ⟨ret_bool (fvB_bad hlt HOK.out).symm, h1.trans (hn1.trans (hw.trans (by repeat (first | with_reducible exact New.refl _ | with_reducible assumption | with_reducible refine New.alloc ?_ _ | with_reducible refine New.drewN ?_ _ | with_reducible refine New.drew ?_ | with_reducible refine New.setCell ?_ (by first | omega | (simp; done) | (simp; omega)) _ | with_reducible refine New.tail (by assumption) ?_))))⟩
      cases xu
      · go_wp2_with (go_at_call 29; refine (isWithin_any _ _ _ (by omega) (by omega)).mono ?_; (first | rw [HE.out] | rw [HNN.out] | rw [HU.out]); rintro _ _ ⟨rfl, rfl⟩)
        go_ret
        exact ⟨ret_bool (fvB_bad hlt HOK.out).symm, h1.trans (hn1.trans (hw.trans (by repeat (first | with_reducible exact New.refl _ | with_reducible assumption | with_reducible refine New.alloc ?_ _ | with_reducible refine New.drewN ?_ _ | with_reducible refine New.drew ?_ | with_reducible refine New.setCell ?_ (by first | omega | (simp; done) | (simp; omega)) _ | with_reducible refine New.tail (by assumption) ?_))))⟩
      go_wp2_with (go_at_call 29; refine (isWithin_any _ _ _ (by omega) (by omega)).mono ?_; (first | rw [HE.out] | rw [HNN.out] | rw [HU.out]); rintro _ _ ⟨rfl, rfl⟩)
      go_roundw
      case rel => exact ⟨k + 1, by omega, by go_num, hw.trans (by repeat (first | with_reducible exact New.refl _ | with_reducible assumption | with_reducible refine New.alloc ?_ _ | with_reducible refine New.drewN ?_ _ | with_reducible refine New.drew ?_ | with_reducible refine New.setCell ?_ (by first | omega | (simp; done) | (simp; omega)) _ | with_reducible refine New.tail (by assumption) ?_)), fun j hj h => by
        rcases Nat.lt_or_ge j k with hjk | hjk
        · exact HALL.out j hj hjk
        · obtain rfl : j = k := by omega
          exact HOK.out⟩
      case measure => simp [intOf]; omega
    · have hlt' : ¬ (k : Int) < (N.length : Int) := by omega
      go_wp2_with fail
      go_ret
      exact ⟨ret_bool (fvB_good HV.out (by omega) HLN.out HG.out fun j hj => HALL.out j hj (by omega)).symm, h1.trans (hn1.trans hw)⟩
set_option maxHeartbeats 4000000 in
theorem specFixValid_any (st : Int) (A B : Option Addr) (cap cb : Nat) (L : List Lg) (dn : Int) (N : List Wy) (w : World) (hL : LegsAt w A L) (hN : WaysAt w B N) (hm : L.length ≤ 1099511627776) (hmn : N.length ≤ 1099511627776) :
    Calls Try.prog 9 #[.agg #[.int .i64 st, .slice A L.length cap], .agg #[.int .i64 dn, .slice B N.length cb]] w fun r w' => r = .returned (.bool (fvB st L dn N)) ∧ New w w' := by
  have h1 : New w ((w.alloc (Obj.cells #[.int .i64 st, .slice A L.length cap] 33)).alloc (Obj.cells #[.int .i64 dn, .slice B N.length cb] 37)) := (by repeat (first | with_reducible exact New.refl _ | with_reducible assumption | with_reducible refine New.alloc ?_ _ | with_reducible refine New.drewN ?_ _ | with_reducible refine New.drew ?_ | with_reducible refine New.setCell ?_ (by first | omega | (simp; done) | (simp; omega)) _ | with_reducible refine New.tail (by assumption) ?_))
  have h2 := (Has.new w #[.int .i64 st, .slice A L.length cap] 33).alloc (Obj.cells #[.int .i64 dn, .slice B N.length cb] 37)
  have h3 := Has.new (w.alloc (Obj.cells #[.int .i64 st, .slice A L.length cap] 33)) #[.int .i64 dn, .slice B N.length cb] 37
  simp only [World.size_alloc] at h3
  have hL' := hL.keep h1
  have hN' := hN.keep h1
  have q1 := way_neq
  obtain ⟨sv, hv⟩ : ∃ b, svB st L = b := ⟨_, rfl⟩
  have HV := Lib.hid hv
  clear hv hL hN
  go_enter Try.func9, Try.ntmps9
  go_upto_region 1 with fail
  generalize ((w.alloc (Obj.cells #[.int .i64 st, .slice A L.length cap] 33)).alloc (Obj.cells #[.int .i64 dn, .slice B N.length cb] 37)) = W0 at *
  have c2 := h2.cells2
  have c3 := h3.cells2
  clear h2 h3
  go_wp2_with fail
  refine (specSurveyValid_any _ _ _ _ _ hL' hm).mono ?_
  rw [HV.out]
  rintro _ w1 ⟨rfl, hn1⟩
  have c4 := fun w' hn => c2 w' (hn1.trans hn)
  have c5 := fun w' hn => c3 w' (hn1.trans hn)
  have hN1 := hN'.keep hn1
  clear c2 c3 hN'
  cases sv
  · go_wp2_with fail
    go_ret
    exact ⟨ret_bool (fvB_sv HV.out).symm, h1.trans hn1⟩
  cases hd : inB dn 1 999
  · have HD := Lib.hid hd
    clear hd
    go_wp2_with (go_at_call 25; refine (l1In_any _ _ _ _).mono ?_; rw [HD.out]; rintro _ _ ⟨rfl, rfl⟩)
    go_ret
    exact ⟨ret_bool (fvB_dn (inB_f.1 HD.out)).symm, h1.trans hn1⟩
  have HD := Lib.hid hd
  have hd' := inB_t.1 hd
  have d1 : ¬ dn < 1 := by omega
  have d2 : ¬ 999 < dn := by omega
  clear hd
  by_cases hln : (N.length : Int) = st
  rotate_left
  · have hb : ((N.length : Int) != st) = true := by simpa using hln
    have HB := Lib.hid hln
    clear hln
    go_wp2_with (go_at_call 25; refine (l1In_any _ _ _ _).mono ?_; rw [HD.out]; rintro _ _ ⟨rfl, rfl⟩)
    go_ret
    exact ⟨ret_bool (fvB_len HB.out).symm, h1.trans hn1⟩
  obtain ⟨b1, b2, _, _⟩ := svB_true HV.out
  have hpos : 0 < N.length := by omega
  have hpos' : (0 : Int) < (N.length : Int) := by omega
  have hb : ((N.length : Int) != st) = false := by simpa using hln
  have HLN := Lib.hid hln
  obtain ⟨bN, oN, e, n, u, hB, hg, hc⟩ := hN1.at_ hpos
  subst hB
  have HG := Lib.hid (show N[0]? = some ⟨e, n, u⟩ by rw [List.getElem?_eq_getElem hpos, hg])
  simp only [Nat.zero_mul, Nat.add_zero] at hc
  clear hg hln
  by_cases hz : e = 0 ∧ n = 0 ∧ u = 0
  rotate_left
  · have hz' : decide (e = 0 ∧ n = 0 ∧ u = 0) = false := by simpa using hz
    have HZ := Lib.hid hz
    clear hz
    go_wp2_with (go_at_call 25; refine (l1In_any _ _ _ _).mono ?_; rw [HD.out]; rintro _ _ ⟨rfl, rfl⟩)
    go_ret
    exact ⟨ret_bool (fvB_zero (fun h => HZ.out (by have := Option.some.inj (HG.out.symm.trans h); cases this; exact ⟨rfl, rfl, rfl⟩))).symm, h1.trans hn1⟩
  obtain ⟨rfl, rfl, rfl⟩ := hz
  go_wp2_with (go_at_call 25; refine (l1In_any _ _ _ _).mono ?_; rw [HD.out]; rintro _ _ ⟨rfl, rfl⟩)
  clear hc q1 hb
  go_loopw [5] (fun i wr => ∃ k : Nat, k ≤ N.length ∧ i = .int .i64 k ∧ New w1 wr ∧ Hid (∀ j (hj : j < N.length), j < k → wyOk N[j] = true)) (fun i _ => N.length - (intOf i).toNat)
  case atStart => exact ⟨0, Nat.zero_le _, rfl, New.refl _, fun j hj h => absurd h (Nat.not_lt_zero _)⟩
  case round =>
    obtain ⟨k, hk, rfl, hw, HALL⟩ := hrel
    have c6 := fun w' hn => c5 w' (hw.trans hn)
    by_cases hlt : k < N.length
    · have hlt' : (k : Int) < (N.length : Int) := by omega
      obtain ⟨b', o', e, n, u, hA, hg, hc⟩ := (hN1.keep hw).at_ hlt
      obtain ⟨rfl, rfl⟩ : bN = b' ∧ oN = o' := by simpa using hA
      obtain ⟨xe, he⟩ : ∃ b, inB e (-99999) 99999 = b := ⟨_, rfl⟩
      obtain ⟨xn, hn⟩ : ∃ b, inB n (-99999) 99999 = b := ⟨_, rfl⟩
      obtain ⟨xu, hu⟩ : ∃ b, inB u (-99999) 99999 = b := ⟨_, rfl⟩
      have HOK := Lib.hid (show wyOk N[k] = (xe && xn && xu) by rw [hg, ← he, ← hn, ← hu]; rfl)
      have HE := Lib.hid he
      have HNN := Lib.hid hn
      have HU := Lib.hid hu
      clear hA hg he hn hu c4 c5
      cases xe
      · go_wp2_with (go_at_call 25; refine (l1In_any _ _ _ _).mono ?_; (first | rw [HE.out] | rw [HNN.out] | rw [HU.out]); rintro _ _ ⟨rfl, rfl⟩)
        go_ret
        exact ⟨ret_bool (fvB_bad hlt HOK.out).symm, h1.trans (hn1.trans (hw.trans (by repeat (first | with_reducible exact New.refl _ | with_reducible assumption | with_reducible refine New.alloc ?_ _ | with_reducible refine New.drewN ?_ _ | with_reducible refine New.drew ?_ | with_reducible refine New.setCell ?_ (by first | omega | (simp; done) | (simp; omega)) _ | with_reducible refine New.tail (by assumption) ?_))))⟩
      cases xn
      · go_wp2_with (go_at_call 25; refine (l1In_any _ _ _ _).mono ?_; (first | rw [HE.out] | rw [HNN.out] | rw [HU.out]); rintro _ _ ⟨rfl, rfl⟩)
        go_ret
        exact ⟨ret_bool (fvB_bad hlt HOK.out).symm, h1.trans (hn1.trans (hw.trans (by repeat (first | with_reducible exact New.refl _ | with_reducible assumption | with_reducible refine New.alloc ?_ _ | with_reducible refine New.drewN ?_ _ | with_reducible refine New.drew ?_ | with_reducible refine New.setCell ?_ (by first | omega | (simp; done) | (simp; omega)) _ | with_reducible refine New.tail (by assumption) ?_))))⟩
      cases xu
      · go_wp2_with (go_at_call 25; refine (l1In_any _ _ _ _).mono ?_; (first | rw [HE.out] | rw [HNN.out] | rw [HU.out]); rintro _ _ ⟨rfl, rfl⟩)
        go_ret
        exact ⟨ret_bool (fvB_bad hlt HOK.out).symm, h1.trans (hn1.trans (hw.trans (by repeat (first | with_reducible exact New.refl _ | with_reducible assumption | with_reducible refine New.alloc ?_ _ | with_reducible refine New.drewN ?_ _ | with_reducible refine New.drew ?_ | with_reducible refine New.setCell ?_ (by first | omega | (simp; done) | (simp; omega)) _ | with_reducible refine New.tail (by assumption) ?_))))⟩
      go_wp2_with (go_at_call 25; refine (l1In_any _ _ _ _).mono ?_; (first | rw [HE.out] | rw [HNN.out] | rw [HU.out]); rintro _ _ ⟨rfl, rfl⟩)
      go_roundw
      case rel => exact ⟨k + 1, by omega, by go_num, hw.trans (by repeat (first | with_reducible exact New.refl _ | with_reducible assumption | with_reducible refine New.alloc ?_ _ | with_reducible refine New.drewN ?_ _ | with_reducible refine New.drew ?_ | with_reducible refine New.setCell ?_ (by first | omega | (simp; done) | (simp; omega)) _ | with_reducible refine New.tail (by assumption) ?_)), fun j hj h => by
        rcases Nat.lt_or_ge j k with hjk | hjk
        · exact HALL.out j hj hjk
        · obtain rfl : j = k := by omega
          exact HOK.out⟩
      case measure => simp [intOf]; omega
    · have hlt' : ¬ (k : Int) < (N.length : Int) := by omega
      go_wp2_with fail
      go_ret
      exact ⟨ret_bool (fvB_good HV.out (by omega) HLN.out HG.out fun j hj => HALL.out j hj (by omega)).symm, h1.trans (hn1.trans hw)⟩
end Go.Proofs.Ytbjahideaonimaa
