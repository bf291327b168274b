/- FnStepsWay: whatever the code is, the law returns true and leaves it as it was. No condition. -/
import Derived.Test.YtgcloaimolajjaaDoorDrawStp
import Derived.Test.YtgcloaimolajjaaDoorFnH
import Derived.Test.YtgcloaimolajjaaDoorFnP4
import Derived.Test.YtgcloaimolajjaaDoorEq
namespace Go.Proofs.YtgcloaimolajjaaDoor
open Go.ChangeShapes Go.WideShapes Go.ChangeAt Go.RowKit Go.Deep Go.Joins
set_option linter.all false
theorem back_succ2 {S : List St} {t i : Nat} (h : i + t + 1 = S.length) {xi : Int} {xb : Bool} (hx : S[i]'(by omega) = ⟨xi, xb⟩) : (backS S).take (t + 1) = (backS S).take t ++ [⟨xi, !xb⟩] := by
  have ht : t < (backS S).length := by rw [backS_len]; omega
  rw [List.take_add_one, List.getElem?_eq_getElem ht]
  have g : ∀ j (hj : j < (backS S).length) (hj' : S.length - 1 - j < S.length), (backS S)[j] = flip S[S.length - 1 - j] := fun j hj hj' => by
    unfold backS at hj ⊢
    simp [List.getElem_reverse]
  have e : S.length - 1 - t = i := by omega
  have : (backS S)[t] = flip (S[i]'(by omega)) := by
    rw [g t ht (by omega)]
    congr 1
    exact getElem_congr_idx e
  rw [this, hx]
  rfl

set_option maxHeartbeats 4000000 in
set_option maxRecDepth 100000 in
theorem lawFnStepsWay_walk (A : Option Addr) (n cap : Nat) (w : World) (hB : Bytes w A n) (hc : n ≤ cap) (hn : n ≤ maxLen) (ht : Tab w) :
    Calls Tryd.prog 13 #[.slice A n cap] w fun r w' => r = .returned (.bool true) ∧ New w w' := by
  by_cases hbig : (1048576 : Int) < (n : Int)
  · go_enter Tryd.func13, Tryd.ntmps13
    go_wp2_with fail
    go_ret
    exact ⟨rfl, New.refl _⟩
  have HT := Lib.hid ht
  clear ht
  go_enter Tryd.func13, Tryd.ntmps13
  go_wp2_with fail
  refine (drawStepsWay_any A n cap _ hB hc hn).mono ?_
  rintro _ w1 ⟨st, B, L, cp, C, S, c, rfl, ⟨hcp, s0, s1, hlen, hsm⟩, ⟨hS9, hSc⟩, hL, hS, hn1⟩
  clear hsm hB hc hn
  go_upto_region 4 with fail
  have h3 := Has.new w1 #[.int .i64 st, .slice B L.length cp] 25
  have hk : New w (w1.alloc (.cells #[.int .i64 st, .slice B L.length cp] 25)) := (by repeat (first | with_reducible exact New.refl _ | with_reducible assumption | with_reducible refine New.alloc ?_ _ | with_reducible refine New.drewN ?_ _ | with_reducible refine New.drew ?_ | with_reducible refine New.setCell ?_ (by first | omega | (simp; done) | (simp; omega)) _ | with_reducible refine New.tail (by assumption) ?_))
  have hL3 := hL.keep ((New.refl w1).alloc (.cells #[.int .i64 st, .slice B L.length cp] 25))
  have hS3 := hS.keep ((New.refl w1).alloc (.cells #[.int .i64 st, .slice B L.length cp] 25))
  generalize (w1.alloc (.cells #[.int .i64 st, .slice B L.length cp] 25)) = W1 at *
  have c3 := h3.cells2
  clear hL hS hn1 h3
  have H3 : ∀ w', New W1 w' → Calls Tryd.prog 18 #[] w' fun r w'' => r = .returned (.bool true) ∧ New w' w'' := fun w' hn => alive_any w' (HT.out.keep (hk.trans hn))
  have H1 : ∀ w', New W1 w' → Calls Tryd.prog 54 #[.agg #[.int .i64 st, .slice B L.length cp], .slice C S.length c] w' fun r w'' => r = .returned (.tuple #[.agg #[.int .i64 (swB st L S (stE L)), .int .i64 (swB st L S (stN L)), .int .i64 (swB st L S (stU L))], .bool (soB st L S)]) ∧ New w' w'' := fun w' hn => implStepsWay_any st B C cp c L S w' (hL3.keep hn) (hS3.keep hn) (by omega) (by omega)
  have H2 : ∀ w', New W1 w' → Calls Tryd.prog 55 #[.agg #[.int .i64 st, .slice B L.length cp], .slice C S.length c] w' fun r w'' => r = .returned (.tuple #[.agg #[.int .i64 (swB st L S (stE L)), .int .i64 (swB st L S (stN L)), .int .i64 (swB st L S (stU L))], .bool (soB st L S)]) ∧ New w' w'' := fun w' hn => specStepsWay_any st B C cp c L S w' (hL3.keep hn) (hS3.keep hn) (by omega) (by omega)
  have q1 := way_neq
  have q2 := way_eql
  have hfix : ∃ (x1 x2 x3 : Int) (ok : Bool), swB st L S (stE L) = x1 ∧ swB st L S (stN L) = x2 ∧ swB st L S (stU L) = x3 ∧ soB st L S = ok := ⟨_, _, _, _, rfl, rfl, rfl, rfl⟩
  obtain ⟨x1, x2, x3, ok, e1, e2, e3, e4⟩ := hfix
  rw [e1, e2, e3, e4] at H1 H2
  have HE := Lib.hid (And.intro e1 (And.intro e2 e3))
  have HO := Lib.hid e4
  clear e1 e2 e3 e4
  go_wp2_with fail
  refine (H1 _ (by repeat (first | with_reducible exact New.refl _ | with_reducible assumption | with_reducible refine New.alloc ?_ _ | with_reducible refine New.drewN ?_ _ | with_reducible refine New.drew ?_ | with_reducible refine New.setCell ?_ (by first | omega | (simp; done) | (simp; omega)) _ | with_reducible refine New.tail (by assumption) ?_))).mono ?_
  rintro _ w2 ⟨rfl, hn2⟩
  go_upto_region 5 with fail
  have h5 := Has.new w2 #[.int .i64 x1, .int .i64 x2, .int .i64 x3] 53
  have hn5 : New W1 (w2.alloc (.cells #[.int .i64 x1, .int .i64 x2, .int .i64 x3] 53)) := hn2.alloc _
  generalize (w2.alloc (.cells #[.int .i64 x1, .int .i64 x2, .int .i64 x3] 53)) = W5 at *
  have c5 := h5.cells3
  clear hn2 h5
  go_wp2_with fail
  refine (H2 _ (by repeat (first | with_reducible exact New.refl _ | with_reducible assumption | with_reducible refine New.alloc ?_ _ | with_reducible refine New.drewN ?_ _ | with_reducible refine New.drew ?_ | with_reducible refine New.setCell ?_ (by first | omega | (simp; done) | (simp; omega)) _ | with_reducible refine New.tail (by assumption) ?_))).mono ?_
  rintro _ w6 ⟨rfl, hn6⟩
  go_upto_region 6 with fail
  have h7 := Has.new w6 #[.int .i64 x1, .int .i64 x2, .int .i64 x3] 53
  have hn7 : New W5 (w6.alloc (.cells #[.int .i64 x1, .int .i64 x2, .int .i64 x3] 53)) := hn6.alloc _
  generalize (w6.alloc (.cells #[.int .i64 x1, .int .i64 x2, .int .i64 x3] 53)) = W7 at *
  have c7 := h7.cells3
  have d5 := fun w' (hn : New W7 w') => c5 w' (hn7.trans hn)
  have hn8 : New W1 W7 := hn5.trans hn7
  have d3 := fun w' (hn : New W7 w') => c3 w' (hn8.trans hn)
  have hkk := hk.trans hn8
  clear hn6 h7 c5 c3 hn5 hn7 H1 H2
  cases ok
  · have z1 : x1 = 0 := HE.out.1.symm.trans (swB_no _ HO.out)
    have z2 : x2 = 0 := HE.out.2.1.symm.trans (swB_no _ HO.out)
    have z3 : x3 = 0 := HE.out.2.2.symm.trans (swB_no _ HO.out)
    subst z1 z2 z3
    have H9 := H3 W7 hn8
    clear HE HO hL3 hS3
    go_wp2_with fail
    refine H9.mono ?_
    rintro _ w9 ⟨rfl, hn9⟩
    go_wp2_with fail
    go_ret
    exact ⟨rfl, hkk.trans (by repeat (first | with_reducible exact New.refl _ | with_reducible assumption | with_reducible refine New.alloc ?_ _ | with_reducible refine New.drewN ?_ _ | with_reducible refine New.drew ?_ | with_reducible refine New.setCell ?_ (by first | omega | (simp; done) | (simp; omega)) _ | with_reducible refine New.tail (by assumption) ?_))⟩
  · obtain ⟨hv, f1, f2⟩ := so_facts HO.out
    obtain ⟨i0, hi, hz, hs, hby⟩ := info_parts infoStep
    have B1 := Lib.hid ((sw_back HO.out (by omega) (smE hv)).trans (by rw [show swB st L S (stG Lg.e L) = x1 from HE.out.1]))
    have B2 := Lib.hid ((sw_back HO.out (by omega) (smN hv)).trans (by rw [show swB st L S (stG Lg.n L) = x2 from HE.out.2.1]))
    have B3 := Lib.hid ((sw_back HO.out (by omega) (smU hv)).trans (by rw [show swB st L S (stG Lg.u L) = x3 from HE.out.2.2]))
    have F1 := Lib.hid (so_back HO.out)
    have hLW := hL3.keep hn8
    have hSW := hS3.keep hn8
    have HV := Lib.hid hv
    have HF1 := Lib.hid f1
    have t0 : IntKind.i64.wrap ((S.length : Int) - 1) = (S.length : Int) - 1 := by rw [IntKind.wrap_i64]; omega
    clear hL3 hS3 H3 hv f1 f2
    go_wp2_with fail
    clear c7
    go_loopw [9, 10] (fun v i wr => ∃ t : Nat, t ≤ S.length ∧ i = .int .i64 ((S.length : Int) - 1 - t) ∧ New W7 wr ∧ wr.ownsRow W7.heap.size 40 2 v t (stC ((backS S).take t))) (fun _ i _ => (intOf i + 1).toNat)
    case atStart => exact ⟨0, Nat.zero_le _, by simp, (by repeat (first | with_reducible exact New.refl _ | with_reducible assumption | with_reducible refine New.alloc ?_ _ | with_reducible refine New.drewN ?_ _ | with_reducible refine New.drew ?_ | with_reducible refine New.setCell ?_ (by first | omega | (simp; done) | (simp; omega)) _ | with_reducible refine New.tail (by assumption) ?_)), World.ownsRow_made W7 #[] 0 (Nat.le_refl _) (by simp) rfl⟩
    case round =>
      obtain ⟨t, ht, rfl, hw, hown⟩ := hrel
      clear t0
      by_cases hlt : t < S.length
      · obtain ⟨i, hi'⟩ : ∃ i, i + t + 1 = S.length := ⟨S.length - 1 - t, by omega⟩
        have e : (S.length : Int) - 1 - t = (i : Int) := by omega
        rw [e]
        obtain ⟨b2, off2, xi, xb, e1, hg, hc⟩ := hSW.at_ (show i < S.length by omega)
        have HBK := Lib.hid (back_succ2 hi' hg)
        have HI := Lib.hid hi'
        subst e1
        have q4 : (0 : Int) ≤ (i : Int) := by omega
        have q5 : (i : Int) < (S.length : Int) := by omega
        have q6 : IntKind.i64.wrap ((i : Int) - 1) = (i : Int) - 1 := by rw [IntKind.wrap_i64]; omega
        have hsz := hw.size
        clear hg hi' e
        go_wp2_with fail
        go_region_held3 (fun w' => New W7 w') ((repeat (first | with_reducible exact New.refl _ | with_reducible assumption | with_reducible refine New.alloc ?_ _ | with_reducible refine New.drewN ?_ _ | with_reducible refine New.drew ?_ | with_reducible refine New.setCell ?_ (by first | omega | (simp; done) | (simp; omega)) _ | with_reducible refine New.tail (by assumption) ?_))) (first | (refine step_own (by rfl) _ _ 35 (by rfl) W7.heap.size 40 i0 (.agg #[.int .i64 0, .bool false]) 2 16 Tryd.underlying35 hi hz hs hby rfl (by decide) _ t _ (by rfl) (own_new hown (by repeat (first | with_reducible exact New.refl _ | with_reducible assumption | with_reducible refine New.alloc ?_ _ | with_reducible refine New.drewN ?_ _ | with_reducible refine New.drew ?_ | with_reducible refine New.setCell ?_ (by first | omega | (simp; done) | (simp; omega)) _ | with_reducible refine New.tail (by assumption) ?_))) ⟨wr.heap.size, 0, none⟩ 1 1 [.int .i64 xi, .bool (!xb)] (by rfl) (by rfl) (two_new _ _ _ _) (stC_one [⟨xi, !xb⟩]) (by unfold maxLen; omega) (by omega) (by simp; omega) ?_; intro v' wE hown' hgrow _; have hwE : New W7 wE := New.grown (show New W7 ((wr.drew).alloc (.cells #[.int .i64 xi, .bool (!xb)] 40)) from (by repeat (first | with_reducible exact New.refl _ | with_reducible assumption | with_reducible refine New.alloc ?_ _ | with_reducible refine New.drewN ?_ _ | with_reducible refine New.drew ?_ | with_reducible refine New.setCell ?_ (by first | omega | (simp; done) | (simp; omega)) _ | with_reducible refine New.tail (by assumption) ?_))) hgrow (fun j hj => (hown.lt j hj).1)))
        go_wp2_with fail
        go_roundw
        case rel => exact ⟨t + 1, by omega, by have := HI.out; (first | (congr 1; omega) | (congr 1; done) | (simp; omega)), (by repeat (first | with_reducible exact New.refl _ | with_reducible assumption | with_reducible refine New.alloc ?_ _ | with_reducible refine New.drewN ?_ _ | with_reducible refine New.drew ?_ | with_reducible refine New.setCell ?_ (by first | omega | (simp; done) | (simp; omega)) _ | with_reducible refine New.tail (by assumption) ?_)), by rw [HBK.out, stC_snoc]; exact hown'⟩
        case measure => first | (simp [intOf]; done) | (simp [intOf]; omega)
      · obtain rfl : t = S.length := by omega
        have e : (S.length : Int) - 1 - S.length = -1 := by omega
        rw [e]
        have hbl : (backS S).take S.length = backS S := by rw [← backS_len S, List.take_length]
        rw [hbl, ← backS_len S] at hown
        obtain ⟨D, d, hD, hf⟩ := FSteps.of_own (w0 := W7) hown (Nat.le_refl _)
        subst hD
        have HBL := Lib.hid (backS_len S)
        have hLr := hLW.keep hw
        have hSr := hSW.keep hw
        have HB : ∀ w', New wr w' → Calls Tryd.prog 54 #[.agg #[.int .i64 st, .slice B L.length cp], .slice D (backS S).length d] w' fun r w'' => r = .returned (.tuple #[.agg #[.int .i64 (mu x1 (-1)), .int .i64 (mu x2 (-1)), .int .i64 (mu x3 (-1))], .bool true]) ∧ New w' w'' := fun w' hn => by
          have := implStepsWay_any st B D cp d L (backS S) w' (hLr.keep hn) (hf.reads.keep hn) (by omega) (by have := HBL.out; omega)
          rwa [F1.out, show swB st L (backS S) (stE L) = mu x1 (-1) from B1.out, show swB st L (backS S) (stN L) = mu x2 (-1) from B2.out, show swB st L (backS S) (stU L) = mu x3 (-1) from B3.out] at this
        rw [HBL.out] at HB ⊢
        have g3 := fun w' (hn : New wr w') => d3 w' (hw.trans hn)
        have g5 := fun w' (hn : New wr w') => d5 w' (hw.trans hn)
        have hkr := hkk.trans hw
        obtain ⟨y1, hy1⟩ : ∃ y, mu x1 (-1) = y := ⟨_, rfl⟩
        obtain ⟨y2, hy2⟩ : ∃ y, mu x2 (-1) = y := ⟨_, rfl⟩
        obtain ⟨y3, hy3⟩ : ∃ y, mu x3 (-1) = y := ⟨_, rfl⟩
        have HWT : ∀ w', Calls Tryd.prog 56 #[.agg #[.int .i64 x1, .int .i64 x2, .int .i64 x3], .int .i64 (-1)] w' fun r w'' => r = .returned (.agg #[.int .i64 y1, .int .i64 y2, .int .i64 y3]) ∧ New w' w'' := fun w' => by
          have := implWayTimes_any x1 x2 x3 (-1) w'
          rwa [hy1, hy2, hy3] at this
        rw [hy1, hy2, hy3] at HB
        clear hy1 hy2 hy3 B1 B2 B3 F1 hbl hown hf hLW hSW d3 d5 hlt ht e HBL
        go_wp2_with fail
        refine (HB _ (by repeat (first | with_reducible exact New.refl _ | with_reducible assumption | with_reducible refine New.alloc ?_ _ | with_reducible refine New.drewN ?_ _ | with_reducible refine New.drew ?_ | with_reducible refine New.setCell ?_ (by first | omega | (simp; done) | (simp; omega)) _ | with_reducible refine New.tail (by assumption) ?_))).mono ?_
        rintro _ w8 ⟨rfl, hn9⟩
        go_upto_region 16 with fail
        have h11 := Has.new w8 #[.int .i64 y1, .int .i64 y2, .int .i64 y3] 53
        have hnA : New wr (w8.alloc (.cells #[.int .i64 y1, .int .i64 y2, .int .i64 y3] 53)) := hn9.alloc _
        generalize (w8.alloc (.cells #[.int .i64 y1, .int .i64 y2, .int .i64 y3] 53)) = W9 at *
        have c11 := h11.cells3
        have k3 := fun w' (hn : New W9 w') => g3 w' (hnA.trans hn)
        have k5 := fun w' (hn : New W9 w') => g5 w' (hnA.trans hn)
        have hkA := hkr.trans hnA
        have hLA := hLr.keep hnA
        have hSA := hSr.keep hnA
        clear hn9 h11 g3 g5 HB hLr hSr hw hkr
        go_wp2_with fail
        go_region_held3 (fun w' => New W9 w') ((repeat (first | with_reducible exact New.refl _ | with_reducible assumption | with_reducible refine New.alloc ?_ _ | with_reducible refine New.drewN ?_ _ | with_reducible refine New.drew ?_ | with_reducible refine New.setCell ?_ (by first | omega | (simp; done) | (simp; omega)) _ | with_reducible refine New.tail (by assumption) ?_))) (first | (go_at_call 56; refine (HWT _).mono ?_; rintro _ wt ⟨rfl, hnt⟩; have hkt : New W9 wt := (by repeat (first | with_reducible exact New.refl _ | with_reducible assumption | with_reducible refine New.alloc ?_ _ | with_reducible refine New.drewN ?_ _ | with_reducible refine New.drew ?_ | with_reducible refine New.setCell ?_ (by first | omega | (simp; done) | (simp; omega)) _ | with_reducible refine New.tail (by assumption) ?_))))
        clear HWT c11
        have HC : ∀ w', New W9 w' → Calls Tryd.prog 51 #[.agg #[.int .i64 st, .slice B L.length cp]] w' fun r w'' => r = .returned (.bool (clB st L)) ∧ New w' w'' := fun w' hn => implCloses_any st B cp L w' (hLA.keep hn) (by omega)
        obtain ⟨cl, hcl⟩ : ∃ cl, clB st L = cl := ⟨_, rfl⟩
        rw [hcl] at HC
        have HCL := Lib.hid hcl
        clear hcl
        by_cases hS0 : S.length = 0
        · obtain rfl := List.eq_nil_of_length_eq_zero hS0
          have z1 : x1 = 0 := HE.out.1.symm.trans (sw_none _)
          have z2 : x2 = 0 := HE.out.2.1.symm.trans (sw_none _)
          have z3 : x3 = 0 := HE.out.2.2.symm.trans (sw_none _)
          subst z1 z2 z3
          clear HE HO HC HCL hLA hSA HF1
          simp only [List.length_nil] at *
          go_wp2_with fail
          go_ret
          exact ⟨rfl, hkA.trans (by repeat (first | with_reducible exact New.refl _ | with_reducible assumption | with_reducible refine New.alloc ?_ _ | with_reducible refine New.drewN ?_ _ | with_reducible refine New.drew ?_ | with_reducible refine New.setCell ?_ (by first | omega | (simp; done) | (simp; omega)) _ | with_reducible refine New.tail (by assumption) ?_))⟩
        · have hS1 : (0 : Int) < (S.length : Int) := by omega
          have hS2 : ((S.length : Int) == 0) = false := by simpa using (show (S.length : Int) ≠ 0 by omega)
          cases cl
          · go_wp2_with fail
            refine (HC _ (by repeat (first | with_reducible exact New.refl _ | with_reducible assumption | with_reducible refine New.alloc ?_ _ | with_reducible refine New.drewN ?_ _ | with_reducible refine New.drew ?_ | with_reducible refine New.setCell ?_ (by first | omega | (simp; done) | (simp; omega)) _ | with_reducible refine New.tail (by assumption) ?_))).mono ?_
            rintro _ w10 ⟨rfl, hn10⟩
            go_wp2_with fail
            go_ret
            exact ⟨rfl, hkA.trans (by repeat (first | with_reducible exact New.refl _ | with_reducible assumption | with_reducible refine New.alloc ?_ _ | with_reducible refine New.drewN ?_ _ | with_reducible refine New.drew ?_ | with_reducible refine New.setCell ?_ (by first | omega | (simp; done) | (simp; omega)) _ | with_reducible refine New.tail (by assumption) ?_))⟩
          · obtain ⟨m, rfl⟩ := svB_nat HV.out
            have hS00 : 0 < S.length := by omega
            have hSl : S.length - 1 < S.length := by omega
            obtain ⟨q, hq⟩ : ∃ q, S.length - 1 = q := ⟨_, rfl⟩
            have hql : q < S.length := by omega
            have hqq : S[S.length - 1]'hSl = S[q]'hql := getElem_congr_idx hq
            have hP := sw_places HO.out (by omega) HCL.out hS00
            obtain ⟨b2, off2, xi, xb, eC, hg0, hc0⟩ := hSA.at_ hS00
            obtain ⟨b3, off3, zi, zb, eC', hg1, hc1⟩ := hSA.at_ hql
            have f0 := HF1.out _ (List.getElem_mem hS00)
            have f1 := HF1.out _ (List.getElem_mem hql)
            rw [hg0] at f0 hP
            rw [hqq, hg1] at hP
            rw [hg1] at f1
            simp only at f0 f1
            obtain ⟨j0, rfl⟩ := Int.eq_ofNat_of_zero_le f0.1
            obtain ⟨j1, rfl⟩ := Int.eq_ofNat_of_zero_le f1.1
            have g0 : j0 < L.length := by omega
            have g1 : j1 < L.length := by omega
            subst eC
            obtain ⟨rfl, rfl⟩ : b2 = b3 ∧ off2 = off3 := by simpa using eC'
            rw [HE.out.1, HE.out.2.1, HE.out.2.2] at hP
            obtain ⟨u, hu⟩ : ∃ u, sBeg L ⟨(j0 : Int), xb⟩ = u := ⟨_, rfl⟩
            obtain ⟨v, hv⟩ : ∃ v, sEnd L ⟨(j1 : Int), zb⟩ = v := ⟨_, rfl⟩
            have H0 : ∀ w', New W9 w' → Calls Tryd.prog 41 #[.agg #[.int .i64 (m : Int), .slice B L.length cp], .agg #[.int .i64 j0, .bool xb]] w' fun r w'' => r = .returned (.int .i64 u) ∧ New w' w'' := fun w' hn => by
              have := start_any (m : Int) B cp L j0 xb w' (hLA.keep hn) g0
              rwa [hu] at this
            have H1 : ∀ w', New W9 w' → Calls Tryd.prog 42 #[.agg #[.int .i64 (m : Int), .slice B L.length cp], .agg #[.int .i64 j1, .bool zb]] w' fun r w'' => r = .returned (.int .i64 v) ∧ New w' w'' := fun w' hn => by
              have := end_any (m : Int) B cp L j1 zb w' (hLA.keep hn) g1
              rwa [hv] at this
            have T0 : ∀ w', New W9 w' → Calls Tryd.prog 44 #[.agg #[.int .i64 (m : Int), .slice B L.length cp], .int .i64 u] w' fun r w'' => r = .returned (.tuple #[.agg #[.int .i64 (tpF m L u (stE L)), .int .i64 (tpF m L u (stN L)), .int .i64 (tpF m L u (stU L))], .bool (tpB m L u)]) ∧ New w' w'' := fun w' hn => implTreePlace_any m u B cp L w' (hLA.keep hn) (by omega)
            have T1 : ∀ w', New W9 w' → Calls Tryd.prog 44 #[.agg #[.int .i64 (m : Int), .slice B L.length cp], .int .i64 v] w' fun r w'' => r = .returned (.tuple #[.agg #[.int .i64 (tpF m L v (stE L)), .int .i64 (tpF m L v (stN L)), .int .i64 (tpF m L v (stU L))], .bool (tpB m L v)]) ∧ New w' w'' := fun w' hn => implTreePlace_any m v B cp L w' (hLA.keep hn) (by omega)
            rw [hu, hv] at hP
            obtain ⟨a1, ha1⟩ : ∃ x, tpF m L u (stE L) = x := ⟨_, rfl⟩
            obtain ⟨a2, ha2⟩ : ∃ x, tpF m L u (stN L) = x := ⟨_, rfl⟩
            obtain ⟨a3, ha3⟩ : ∃ x, tpF m L u (stU L) = x := ⟨_, rfl⟩
            obtain ⟨a4, ha4⟩ : ∃ x, tpB m L u = x := ⟨_, rfl⟩
            obtain ⟨b1, hb1⟩ : ∃ x, tpF m L v (stE L) = x := ⟨_, rfl⟩
            obtain ⟨b2', hb2⟩ : ∃ x, tpF m L v (stN L) = x := ⟨_, rfl⟩
            obtain ⟨b3, hb3⟩ : ∃ x, tpF m L v (stU L) = x := ⟨_, rfl⟩
            obtain ⟨b4, hb4⟩ : ∃ x, tpB m L v = x := ⟨_, rfl⟩
            rw [ha1, ha2, ha3, ha4] at T0
            rw [hb1, hb2, hb3, hb4] at T1
            rw [ha1, ha2, ha3, hb1, hb2, hb3] at hP
            have HWA : ∀ w', Calls Tryd.prog 49 #[.agg #[.int .i64 a1, .int .i64 a2, .int .i64 a3], .agg #[.int .i64 x1, .int .i64 x2, .int .i64 x3]] w' fun r w'' => r = .returned (.agg #[.int .i64 b1, .int .i64 b2', .int .i64 b3]) ∧ New w' w'' := fun w' => by
              have := implWayAdd_any a1 a2 a3 x1 x2 x3 w'
              rwa [hP.1, hP.2.1, hP.2.2] at this
            have sl : IntKind.i64.wrap (q : Int) = (q : Int) := by rw [IntKind.wrap_i64]; omega
            have sl0 : (S.length : Int) - 1 = (q : Int) := by omega
            have sl1 : (0 : Int) ≤ (q : Int) := by omega
            have sl2 : (q : Int) < (S.length : Int) := by omega
            clear hq hqq hP ha1 ha2 ha3 ha4 hb1 hb2 hb3 hb4 hu hv hg0 hg1 f0 f1 g0 g1 eC' HE HO HF1 HCL HV hLA hSA
            simp only [Nat.zero_mul, Nat.add_zero] at hc0
            go_wp2_with fail
            refine (HC _ (by repeat (first | with_reducible exact New.refl _ | with_reducible assumption | with_reducible refine New.alloc ?_ _ | with_reducible refine New.drewN ?_ _ | with_reducible refine New.drew ?_ | with_reducible refine New.setCell ?_ (by first | omega | (simp; done) | (simp; omega)) _ | with_reducible refine New.tail (by assumption) ?_))).mono ?_
            rintro _ w10 ⟨rfl, hn10⟩
            have hn11 : New W9 w10 := hkt.trans hn10
            have m3 := fun w' (hn : New w10 w') => k3 w' (hn11.trans hn)
            have m5 := fun w' (hn : New w10 w') => k5 w' (hn11.trans hn)
            have m0 := fun w' (hn : New w10 w') => hc0 w' (hn11.trans hn)
            have m1 := fun w' (hn : New w10 w') => hc1 w' (hn11.trans hn)
            have I0 := fun w' (hn : New w10 w') => H0 w' (hn11.trans hn)
            have I1 := fun w' (hn : New w10 w') => H1 w' (hn11.trans hn)
            have J0 := fun w' (hn : New w10 w') => T0 w' (hn11.trans hn)
            have J1 := fun w' (hn : New w10 w') => T1 w' (hn11.trans hn)
            have hkB := hkA.trans hn11
            clear k3 k5 hc0 hc1 H0 H1 T0 T1 HC hkA hn10 hkt
            go_upto_region 20 with fail
            go_cut [13, 14] (fun s13 s14 wx => ∃ g, s13 = .pointer (some ⟨g, 0, none⟩) ∧ s14 = .bool a4 ∧ Has wx g #[.int .i64 a1, .int .i64 a2, .int .i64 a3] 53 ∧ New w10 wx)
            case first =>
              go_region_held3 (fun w' => New w10 w') ((repeat (first | with_reducible exact New.refl _ | with_reducible assumption | with_reducible refine New.alloc ?_ _ | with_reducible refine New.drewN ?_ _ | with_reducible refine New.drew ?_ | with_reducible refine New.setCell ?_ (by first | omega | (simp; done) | (simp; omega)) _ | with_reducible refine New.tail (by assumption) ?_))) (first | (go_at_call 41; refine (I0 _ (by repeat (first | with_reducible exact New.refl _ | with_reducible assumption | with_reducible refine New.alloc ?_ _ | with_reducible refine New.drewN ?_ _ | with_reducible refine New.drew ?_ | with_reducible refine New.setCell ?_ (by first | omega | (simp; done) | (simp; omega)) _ | with_reducible refine New.tail (by assumption) ?_))).mono ?_; rintro _ ws ⟨rfl, hns⟩; have hks : New w10 ws := New.tail hns (by repeat (first | with_reducible exact New.refl _ | with_reducible assumption | with_reducible refine New.alloc ?_ _ | with_reducible refine New.drewN ?_ _ | with_reducible refine New.drew ?_ | with_reducible refine New.setCell ?_ (by first | omega | (simp; done) | (simp; omega)) _ | with_reducible refine New.tail (by assumption) ?_)); (first | (have hh := Has.keep (Has.new _ _ _) hns; (first | have hq := Has.at5 hh | have hq := Has.at3 hh | have hq := Has.at2 hh | have hq := Has.at1 hh)) | (have hh := Has.keep (Has.new _ _ _).drew hns; (first | have hq := Has.at5 hh | have hq := Has.at3 hh | have hq := Has.at2 hh | have hq := Has.at1 hh)) | (have hh := Has.keep (Has.new _ _ _).drew.drew hns; (first | have hq := Has.at5 hh | have hq := Has.at3 hh | have hq := Has.at2 hh | have hq := Has.at1 hh)) | (have hh := Has.keep (by assumption) hns; (first | have hq := Has.at5 hh | have hq := Has.at3 hh | have hq := Has.at2 hh | have hq := Has.at1 hh)) | skip); have hzs := hns.size; (try simp only [World.size_alloc, World.size_drew, World.size_setCell] at hzs)) | (go_at_call 44; refine (J0 _ (by repeat (first | with_reducible exact New.refl _ | with_reducible assumption | with_reducible refine New.alloc ?_ _ | with_reducible refine New.drewN ?_ _ | with_reducible refine New.drew ?_ | with_reducible refine New.setCell ?_ (by first | omega | (simp; done) | (simp; omega)) _ | with_reducible refine New.tail (by assumption) ?_))).mono ?_; rintro _ wp ⟨rfl, hnp⟩; have hkp : New w10 wp := New.tail hnp (by repeat (first | with_reducible exact New.refl _ | with_reducible assumption | with_reducible refine New.alloc ?_ _ | with_reducible refine New.drewN ?_ _ | with_reducible refine New.drew ?_ | with_reducible refine New.setCell ?_ (by first | omega | (simp; done) | (simp; omega)) _ | with_reducible refine New.tail (by assumption) ?_)); (first | (have hh := Has.keep (Has.new _ _ _) hnp; (first | have hq := Has.at5 hh | have hq := Has.at3 hh | have hq := Has.at2 hh | have hq := Has.at1 hh)) | (have hh := Has.keep (Has.new _ _ _).drew hnp; (first | have hq := Has.at5 hh | have hq := Has.at3 hh | have hq := Has.at2 hh | have hq := Has.at1 hh)) | (have hh := Has.keep (Has.new _ _ _).drew.drew hnp; (first | have hq := Has.at5 hh | have hq := Has.at3 hh | have hq := Has.at2 hh | have hq := Has.at1 hh)) | (have hh := Has.keep (by assumption) hnp; (first | have hq := Has.at5 hh | have hq := Has.at3 hh | have hq := Has.at2 hh | have hq := Has.at1 hh)) | skip); have hzp := hnp.size; (try simp only [World.size_alloc, World.size_drew, World.size_setCell] at hzp)))
              all_goals
                go_wp2_with fail
                go_meet
                exact ⟨_, rfl, rfl, (by repeat (first | with_reducible exact Has.new _ _ _ | with_reducible assumption | with_reducible refine Has.drew ?_ | with_reducible refine Has.drewN ?_ _ | with_reducible apply Has.set1 | with_reducible apply Has.set2 | with_reducible apply Has.set3 | with_reducible apply Has.set5 | with_reducible refine Has.keep ?_ (by assumption))), (by repeat (first | with_reducible exact New.refl _ | with_reducible assumption | with_reducible refine New.alloc ?_ _ | with_reducible refine New.drewN ?_ _ | with_reducible refine New.drew ?_ | with_reducible refine New.setCell ?_ (by first | omega | (simp; done) | (simp; omega)) _ | with_reducible refine New.tail (by assumption) ?_))⟩
            case rest =>
              obtain ⟨g13, rfl, rfl, h13, hnX⟩ := hcut
              obtain ⟨wB, rfl⟩ : ∃ wB, wB = wc := ⟨_, rfl⟩
              have n3 := fun w' (hn : New wB w') => m3 w' (hnX.trans hn)
              have n5 := fun w' (hn : New wB w') => m5 w' (hnX.trans hn)
              have n1 := fun w' (hn : New wB w') => m1 w' (hnX.trans hn)
              have K1 := fun w' (hn : New wB w') => I1 w' (hnX.trans hn)
              have M1 := fun w' (hn : New wB w') => J1 w' (hnX.trans hn)
              have hkC := hkB.trans hnX
              clear m3 m5 m0 m1 I0 I1 J0 J1 hkB hnX
              go_upto_region 21 with fail
              go_cut [15, 16] (fun s15 s16 wx => ∃ g, s15 = .pointer (some ⟨g, 0, none⟩) ∧ s16 = .bool b4 ∧ Has wx g #[.int .i64 b1, .int .i64 b2', .int .i64 b3] 53 ∧ New wB wx)
              case first =>
                go_region_held3 (fun w' => New wB w') ((repeat (first | with_reducible exact New.refl _ | with_reducible assumption | with_reducible refine New.alloc ?_ _ | with_reducible refine New.drewN ?_ _ | with_reducible refine New.drew ?_ | with_reducible refine New.setCell ?_ (by first | omega | (simp; done) | (simp; omega)) _ | with_reducible refine New.tail (by assumption) ?_))) (first | (go_at_call 42; refine (K1 _ (by repeat (first | with_reducible exact New.refl _ | with_reducible assumption | with_reducible refine New.alloc ?_ _ | with_reducible refine New.drewN ?_ _ | with_reducible refine New.drew ?_ | with_reducible refine New.setCell ?_ (by first | omega | (simp; done) | (simp; omega)) _ | with_reducible refine New.tail (by assumption) ?_))).mono ?_; rintro _ ws ⟨rfl, hns⟩; have hks : New wB ws := New.tail hns (by repeat (first | with_reducible exact New.refl _ | with_reducible assumption | with_reducible refine New.alloc ?_ _ | with_reducible refine New.drewN ?_ _ | with_reducible refine New.drew ?_ | with_reducible refine New.setCell ?_ (by first | omega | (simp; done) | (simp; omega)) _ | with_reducible refine New.tail (by assumption) ?_)); (first | (have hh := Has.keep (Has.new _ _ _) hns; (first | have hq := Has.at5 hh | have hq := Has.at3 hh | have hq := Has.at2 hh | have hq := Has.at1 hh)) | (have hh := Has.keep (Has.new _ _ _).drew hns; (first | have hq := Has.at5 hh | have hq := Has.at3 hh | have hq := Has.at2 hh | have hq := Has.at1 hh)) | (have hh := Has.keep (Has.new _ _ _).drew.drew hns; (first | have hq := Has.at5 hh | have hq := Has.at3 hh | have hq := Has.at2 hh | have hq := Has.at1 hh)) | (have hh := Has.keep (by assumption) hns; (first | have hq := Has.at5 hh | have hq := Has.at3 hh | have hq := Has.at2 hh | have hq := Has.at1 hh)) | skip); have hzs := hns.size; (try simp only [World.size_alloc, World.size_drew, World.size_setCell] at hzs)) | (go_at_call 44; refine (M1 _ (by repeat (first | with_reducible exact New.refl _ | with_reducible assumption | with_reducible refine New.alloc ?_ _ | with_reducible refine New.drewN ?_ _ | with_reducible refine New.drew ?_ | with_reducible refine New.setCell ?_ (by first | omega | (simp; done) | (simp; omega)) _ | with_reducible refine New.tail (by assumption) ?_))).mono ?_; rintro _ wp ⟨rfl, hnp⟩; have hkp : New wB wp := New.tail hnp (by repeat (first | with_reducible exact New.refl _ | with_reducible assumption | with_reducible refine New.alloc ?_ _ | with_reducible refine New.drewN ?_ _ | with_reducible refine New.drew ?_ | with_reducible refine New.setCell ?_ (by first | omega | (simp; done) | (simp; omega)) _ | with_reducible refine New.tail (by assumption) ?_)); (first | (have hh := Has.keep (Has.new _ _ _) hnp; (first | have hq := Has.at5 hh | have hq := Has.at3 hh | have hq := Has.at2 hh | have hq := Has.at1 hh)) | (have hh := Has.keep (Has.new _ _ _).drew hnp; (first | have hq := Has.at5 hh | have hq := Has.at3 hh | have hq := Has.at2 hh | have hq := Has.at1 hh)) | (have hh := Has.keep (Has.new _ _ _).drew.drew hnp; (first | have hq := Has.at5 hh | have hq := Has.at3 hh | have hq := Has.at2 hh | have hq := Has.at1 hh)) | (have hh := Has.keep (by assumption) hnp; (first | have hq := Has.at5 hh | have hq := Has.at3 hh | have hq := Has.at2 hh | have hq := Has.at1 hh)) | skip); have hzp := hnp.size; (try simp only [World.size_alloc, World.size_drew, World.size_setCell] at hzp)))
                all_goals
                  go_wp2_with fail
                  go_meet
                  exact ⟨_, rfl, rfl, (by repeat (first | with_reducible exact Has.new _ _ _ | with_reducible assumption | with_reducible refine Has.drew ?_ | with_reducible refine Has.drewN ?_ _ | with_reducible apply Has.set1 | with_reducible apply Has.set2 | with_reducible apply Has.set3 | with_reducible apply Has.set5 | with_reducible refine Has.keep ?_ (by assumption))), (by repeat (first | with_reducible exact New.refl _ | with_reducible assumption | with_reducible refine New.alloc ?_ _ | with_reducible refine New.drewN ?_ _ | with_reducible refine New.drew ?_ | with_reducible refine New.setCell ?_ (by first | omega | (simp; done) | (simp; omega)) _ | with_reducible refine New.tail (by assumption) ?_))⟩
              case rest =>
                obtain ⟨g15, rfl, rfl, h15, hnY⟩ := hcut
                have p5 := fun w' (hn : New wc w') => n5 w' (hnY.trans hn)
                have c13 := (h13.keep hnY).cells3
                have c15 := h15.cells3
                have hkD := hkC.trans hnY
                clear n3 n5 n1 K1 M1 h13 h15 hkC
                go_wp2_with fail
                go_region_held3 (fun w' => New wc w') ((repeat (first | with_reducible exact New.refl _ | with_reducible assumption | with_reducible refine New.alloc ?_ _ | with_reducible refine New.drewN ?_ _ | with_reducible refine New.drew ?_ | with_reducible refine New.setCell ?_ (by first | omega | (simp; done) | (simp; omega)) _ | with_reducible refine New.tail (by assumption) ?_))) (first | (go_at_call 49; refine (HWA _).mono ?_; rintro _ wt ⟨rfl, hnt⟩; have hkt : New wc wt := (by repeat (first | with_reducible exact New.refl _ | with_reducible assumption | with_reducible refine New.alloc ?_ _ | with_reducible refine New.drewN ?_ _ | with_reducible refine New.drew ?_ | with_reducible refine New.setCell ?_ (by first | omega | (simp; done) | (simp; omega)) _ | with_reducible refine New.tail (by assumption) ?_))))
                go_wp2_with fail
                go_ret
                exact ⟨rfl, hkD.trans hkt⟩

set_option maxRecDepth 100000 in
theorem fnStepsWay_lifted (os : Os) (started : os.Started) (H : Type) (enc : TypeId × Value → H) :
    ReturnsInHanded {} Tryd.checked os 13 .any (fun w args => (Rows.fnStepsWaySpec.pre enc Tryd.prog Tryd.f13 [] false w args ∧ laidMetH Tryd.prog laidL w) ∧ sizedMet enc Tryd.prog Tryd.f13 (OpenSpec.ofChange Rows.fnStepsWaySpec) false w args)
      (Rows.fnStepsWaySpec.post enc Tryd.prog Tryd.f13 false true false false) := by
  refine returnsInHanded_of_change_and (C := Tryd.checked) (X := fun w _ => laidMetH Tryd.prog laidL w) (fun _ _ _ hh h => h.of_heap hh) own started (by kernel_rfl) Tryd.func13
    (ChangeSpec.witness_shaped (enc := enc) (C := Tryd.checked) (os := os) (X := fun w _ => laidMetH Tryd.prog laidL w) false (World.doorLaid Tryd.prog 400 os) #[.slice none 0 0] 8 rfl (World.shaped_of_RefB (by kernel_rfl) (by kernel_rfl)) (by kernel_rfl) (by kernel_rfl) (by kernel_rfl) (laidL_met os _)) ?_
  intro W base args ds gs before hval0 hW _ _ hL _
  have hval : ∀ (j : Nat) t v, Tryd.f13.params[j]? = some t → args[j]? = some v → Value.okWide Tryd.prog W .any base t v := hval0
  have hW' := hW
  obtain ⟨p, q, hA0, hV, rfl, hfz, hnd⟩ := hW
  have hA : DataW.TrodAll enc Tryd.prog W 0 (fun _ => true) true Tryd.f13.params.toList args.toList ds p := hA0
  have hlt : ∀ x ∈ p ++ q, x.block < W.heap.size := fun x hx => hW'.lt x hx
  rw [Tryd.params13] at hA hval
  obtain ⟨v0, d0, rfl, rfl, h0⟩ := trodAll_one hA
  clear hA0 hval0
  have hL : laidMetH Tryd.prog laidL W := hL
  obtain ⟨A, n, cap, rfl, hB, hc, hn⟩ := open_bytes (hval 0 _ _ rfl rfl) h0
  refine (lawFnStepsWay_walk A n cap W hB hc hn (tab_of_laid hL)).mono fun e W' ⟨he, hg⟩ => ?_
  subst he
  exact ⟨_, rfl, law_post laidOut hW' rfl ⟨rfl, rfl, rfl⟩ (by kernel_rfl) rfl Tryd.underlying4 hg⟩

theorem fnStepsWay_over : Rows.fnStepsWayRow.holds Tryd.pinned (OpenSpec.ofChange Rows.fnStepsWaySpec) :=
  OpenClaim.holds_of_wide 13 Tryd.f13 rfl rfl rfl rfl rfl rfl rfl ⟨rfl, rfl, rfl, rfl, rfl⟩ rfl rfl rfl rfl rfl (by kernel_rfl) Tryd.func13 (by kernel_rfl)
    (of_decide_eq_true (by kernel_rfl)) (by unfold Func.isWrapper; first | (rw [if_pos (by decide +kernel)]; kernel_rfl) | (rw [if_neg (by decide +kernel)]; exact ⟨rfl, rfl⟩))
    (fun os started H enc _ => fnStepsWay_lifted os started H enc)

/-- The given statement. -/
theorem fnStepsWay_holds : Rows.FnStepsWayCardSaid :=
  Claim7.holds_tied_plain_at .later [] [.data, .data, .data] true Rows.fnStepsWayCard.stood.harness Rows.fnStepsWayCard.stood.looks
    fnStepsWay_over (fun _ h => by cases h) (by kernel_rfl) (fun _ h => by cases h) fnStepsWay_row_tie rfl ⟨rfl, rfl⟩ (by kernel_rfl) rfl
    (fun f fn hf hfn => by
      obtain rfl : f = 13 := Option.some.inj ((show Tryd.prog.funcNamed "loop.example/cavesurvey/laws.FnStepsWay" = some 13 by kernel_rfl).symm.trans hf) |>.symm
      obtain rfl : fn = Tryd.f13 := (Option.some.inj (Tryd.func13.symm.trans hfn)).symm
      exact ⟨by kernel_rfl, fun j t ht => by
        rw [Tryd.params13] at ht
        have hm : t ∈ Tryd.f13.params.toList := by rw [Tryd.params13]; simpa using Array.mem_of_getElem? ht
        have hall : (Tryd.f13.params.toList.all fun u => !Tryd.prog.wantsStandIn u) = true := by kernel_rfl
        exact (show Tryd.prog.wantsStandIn t = false by simpa using List.all_eq_true.1 hall t hm)⟩)
    (by kernel_rfl)

#print axioms fnStepsWay_holds
end Go.Proofs.YtgcloaimolajjaaDoor
