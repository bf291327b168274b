/- FnLoopSteps: whatever the code is, the law returns true and leaves it as it was. No condition. -/
import Derived.Test.YtgcloaimolajjaaDoorDrawR
import Derived.Test.YtgcloaimolajjaaDoorFnS
import Derived.Test.YtgcloaimolajjaaDoorWay
namespace Go.Proofs.YtgcloaimolajjaaDoor
open Go.ChangeShapes Go.WideShapes Go.ChangeAt Go.RowKit Go.Deep Go.Joins
set_option linter.all false
theorem ls_ok {st : Int} {L : List Lg} {v : Int} (h : lsOk st L v = true) : svB st L = true ∧ 0 ≤ v ∧ v < L.length ∧ v ∉ tlL st L := by
  unfold lsOk at h
  rw [Bool.and_eq_true, Bool.and_eq_true, ixB_t] at h
  refine ⟨h.1.1, h.1.2.1, h.1.2.2, fun hm => ?_⟩
  rw [hasB_mem.2 hm] at h
  simp at h
theorem ls_fact {st : Int} {L : List Lg} {v : Int} {S : List St} (hS : lsS st L v = S) (h : lsOk st L v = true) : ∃ k : Nat, S.length = k + 2 ∧ k ≤ 8 ∧ (S.map St.i).Nodup ∧ (∀ x ∈ S, 0 ≤ x.i ∧ x.i < L.length) ∧ soB st L S = true ∧ (∀ h0 : 0 < S.length, sBeg L S[0] = sEnd L (S[S.length - 1]'(by omega))) ∧
    swB st L S (stE L) = miF st L v (stE L) Lg.e ∧ swB st L S (stN L) = miF st L v (stN L) Lg.n ∧ swB st L S (stU L) = miF st L v (stU L) Lg.u := by
  obtain ⟨hv, v0, v1, hm⟩ := ls_ok h
  subst hS
  rw [lsS_yes h]
  obtain ⟨n, rfl⟩ := svB_nat hv
  obtain ⟨j, rfl⟩ := Int.eq_ofNat_of_zero_le v0
  have hj : j < L.length := by omega
  obtain ⟨c1, c2, c3⟩ := (legsOk_of hv).leg (j := j) hj
  obtain ⟨R, hR⟩ := tw_leg hv hj
  rw [(tw_ok hR).1]
  have hRl := twS_len n L (legAt L j).t (legAt L j).f
  rw [(tw_ok hR).1] at hRl
  have hwk : Wk L ((j : Int) :: tlL n L) (legAt L j).f (⟨j, false⟩ :: R) (legAt L j).f := ⟨List.mem_cons_self .., rfl, wk_mono (fun i hi => List.mem_cons_of_mem _ hi) hR.2.2.2.1⟩
  have hT : ∀ i ∈ (j : Int) :: tlL n L, 0 ≤ i ∧ i < L.length := fun i hi => by
    rcases List.mem_cons.1 hi with rfl | hi
    · exact ⟨v0, v1⟩
    · exact tl_mem hi
  have hso := wk_so hv hwk hT
  have hne : R ≠ [] := by
    rintro rfl
    exact c3 (hR.2.2.2.1 : (legAt L j).t = (legAt L j).f).symm
  have hR1 : 0 < R.length := by cases R with | nil => exact absurd rfl hne | cons a b => simp
  have hsum : ∀ G, SmG G L → swB n L (⟨j, false⟩ :: R) (stG G L) = miF n L j (stG G L) G := fun G hG => by
    rw [swB_ok _ hso, sum_wt hG (by rw [List.length_cons]; omega), mi_plc hv hG hj]
    show (if false then - G (legAt L j) else G (legAt L j)) + wt (fun i => G (legAt L i)) R = _
    rw [wk_wt (plc_tree hv hG) hR.2.2.2.1]
    simp
    omega
  refine ⟨R.length - 1, by rw [List.length_cons]; omega, by omega, ?_, fun x hx => hT _ (wk_mem hwk x hx), hso, fun h0 => ?_, hsum _ (smE hv), hsum _ (smN hv), hsum _ (smU hv)⟩
  · rw [List.map_cons, List.nodup_cons]
    refine ⟨fun hc => ?_, hR.2.2.2.2⟩
    rw [List.mem_map] at hc
    obtain ⟨y, hy, e⟩ := hc
    exact hm (by have := wk_mem hR.2.2.2.1 y hy; rw [e] at this; exact this)
  · obtain ⟨e1, e2⟩ := (wk_chain hwk).2 h0
    rw [e1, e2]
set_option maxHeartbeats 4000000 in
set_option maxRecDepth 100000 in
theorem lawFnLoopSteps_walk (A : Option Addr) (n cap : Nat) (w : World) (hB : Bytes w A n) (hc : n ≤ cap) (hn : n ≤ maxLen) (ht : Tab w) :
    Calls Tryd.prog 14 #[.slice A n cap] w fun r w' => r = .returned (.bool true) ∧ New w w' := by
  by_cases hbig : (1048576 : Int) < (n : Int)
  · go_enter Tryd.func14, Tryd.ntmps14
    go_wp2_with fail
    go_ret
    exact ⟨rfl, New.refl _⟩
  have HT := Lib.hid ht
  clear ht
  go_enter Tryd.func14, Tryd.ntmps14
  go_wp2_with fail
  refine (drawLoopSteps_any A n cap _ hB hc hn).mono ?_
  rintro _ w1 ⟨st, B, L, cp, v, rfl, ⟨hcp, s0, s1, hlen, hsm⟩, hL, hn1⟩
  clear hsm hB hc hn
  go_upto_region 4 with fail
  have h3 := Has.new w1 #[.int .i64 st, .slice B L.length cp] 25
  have hk : New w (w1.alloc (.cells #[.int .i64 st, .slice B L.length cp] 25)) := (by repeat (first | with_reducible exact New.refl _ | with_reducible assumption | with_reducible refine New.alloc ?_ _ | with_reducible refine New.drewN ?_ _ | with_reducible refine New.drew ?_ | with_reducible refine New.setCell ?_ (by first | omega | (simp; done) | (simp; omega)) _ | with_reducible refine New.tail (by assumption) ?_))
  have hL3 := hL.keep ((New.refl w1).alloc (.cells #[.int .i64 st, .slice B L.length cp] 25))
  generalize (w1.alloc (.cells #[.int .i64 st, .slice B L.length cp] 25)) = W1 at *
  have c3 := h3.cells2
  clear hL hn1
  have H3 : ∀ w', New W1 w' → Calls Tryd.prog 18 #[] w' fun r w'' => r = .returned (.bool true) ∧ New w' w'' := fun w' hn => alive_any w' (HT.out.keep (hk.trans hn))
  have H1 : ∀ w', New W1 w' → Calls Tryd.prog 58 #[.agg #[.int .i64 st, .slice B L.length cp], .int .i64 v] w' fun r w'' => ∃ C c, r = .returned (.tuple #[.slice C (lsS st L v).length c, .bool (lsOk st L v)]) ∧ FSteps w' w'' C (lsS st L v) ∧ New w' w'' := fun w' hn => implLoopSteps_any st v B cp L w' (hL3.keep hn) (by omega)
  have H2 : ∀ w', New W1 w' → Calls Tryd.prog 59 #[.agg #[.int .i64 st, .slice B L.length cp], .int .i64 v] w' fun r w'' => ∃ C c, r = .returned (.tuple #[.slice C (lsS st L v).length c, .bool (lsOk st L v)]) ∧ FSteps w' w'' C (lsS st L v) ∧ New w' w'' := fun w' hn => specLoopSteps_any st v B cp L w' (hL3.keep hn) (by omega)
  have HM : ∀ w', New W1 w' → Calls Tryd.prog 46 #[.agg #[.int .i64 st, .slice B L.length cp], .int .i64 v] w' fun r w'' => r = .returned (.tuple #[.agg #[.int .i64 (miF st L v (stE L) Lg.e), .int .i64 (miF st L v (stN L) Lg.n), .int .i64 (miF st L v (stU L) Lg.u)], .bool (miOk st L v)]) ∧ New w' w'' := fun w' hn => implMisclosure_any st v B cp L w' (hL3.keep hn) (by omega)
  have hSl := lsS_len st L v
  cases ok : lsOk st L v
  · rw [lsS_no ok, ok] at H1 H2
    simp only [List.length_nil] at H1 H2
    clear HM hSl ok hL3 h3
    go_wp2_with fail
    refine (H1 _ (by repeat (first | with_reducible exact New.refl _ | with_reducible assumption | with_reducible refine New.alloc ?_ _ | with_reducible refine New.drewN ?_ _ | with_reducible refine New.drew ?_ | with_reducible refine New.setCell ?_ (by first | omega | (simp; done) | (simp; omega)) _ | with_reducible refine New.tail (by assumption) ?_))).mono ?_
    rintro _ w2 ⟨C, c, rfl, hF, hn2⟩
    go_wp2_with fail
    refine (H2 _ (by repeat (first | with_reducible exact New.refl _ | with_reducible assumption | with_reducible refine New.alloc ?_ _ | with_reducible refine New.drewN ?_ _ | with_reducible refine New.drew ?_ | with_reducible refine New.setCell ?_ (by first | omega | (simp; done) | (simp; omega)) _ | with_reducible refine New.tail (by assumption) ?_))).mono ?_
    rintro _ w3 ⟨C', c', rfl, hG, hn3⟩
    go_wp2_with fail
    refine (sameSteps_same C C' c c' [] _ (hF.reads.keep hn3) hG.reads (by simp)).mono ?_
    rintro _ w4 ⟨rfl, hn4⟩
    have hk3 := (hn2.trans hn3).trans hn4
    clear hn2 hn3 hn4 hF hG
    have H9 := H3 w4 hk3
    go_wp2_with fail
    refine H9.mono ?_
    rintro _ w6 ⟨rfl, hn6⟩
    go_wp2_with fail
    go_ret
    exact ⟨rfl, hk.trans (by repeat (first | with_reducible exact New.refl _ | with_reducible assumption | with_reducible refine New.alloc ?_ _ | with_reducible refine New.drewN ?_ _ | with_reducible refine New.drew ?_ | with_reducible refine New.setCell ?_ (by first | omega | (simp; done) | (simp; omega)) _ | with_reducible refine New.tail (by assumption) ?_))⟩
  · obtain ⟨i0, hi, hz, hs, hb⟩ := info_parts infoInt
    obtain ⟨S, hS⟩ : ∃ S, lsS st L v = S := ⟨_, rfl⟩
    obtain ⟨kk, hkl, hk8, f1, f2, f3, f4, f5, f6, f7⟩ := ls_fact hS ok
    rw [hS, ok] at H1 H2
    rw [hS] at hSl
    have hfix : ∃ (x1 x2 x3 : Int) (mo : Bool), miF st L v (stE L) Lg.e = x1 ∧ miF st L v (stN L) Lg.n = x2 ∧ miF st L v (stU L) Lg.u = x3 ∧ miOk st L v = mo := ⟨_, _, _, _, rfl, rfl, rfl, rfl⟩
    obtain ⟨x1, x2, x3, mo, e1, e2, e3, e4⟩ := hfix
    rw [e1, e2, e3, e4] at HM
    rw [e1] at f5
    rw [e2] at f6
    rw [e3] at f7
    have HKL := Lib.hid hkl
    clear hkl
    have F1 := Lib.hid f1
    have F2 := Lib.hid f2
    have F4 := Lib.hid f4
    have FW := Lib.hid (And.intro f3 (And.intro f5 (And.intro f6 f7)))
    have q2 := way_eql
    clear hS ok e1 e2 e3 e4 f1 f2 f3 f4 f5 f6 f7 H3 h3
    go_wp2_with fail
    refine (H1 _ (by repeat (first | with_reducible exact New.refl _ | with_reducible assumption | with_reducible refine New.alloc ?_ _ | with_reducible refine New.drewN ?_ _ | with_reducible refine New.drew ?_ | with_reducible refine New.setCell ?_ (by first | omega | (simp; done) | (simp; omega)) _ | with_reducible refine New.tail (by assumption) ?_))).mono ?_
    rintro _ w2 ⟨C, c, rfl, hF, hn2⟩
    go_wp2_with fail
    refine (H2 _ (by repeat (first | with_reducible exact New.refl _ | with_reducible assumption | with_reducible refine New.alloc ?_ _ | with_reducible refine New.drewN ?_ _ | with_reducible refine New.drew ?_ | with_reducible refine New.setCell ?_ (by first | omega | (simp; done) | (simp; omega)) _ | with_reducible refine New.tail (by assumption) ?_))).mono ?_
    rintro _ w3 ⟨C', c', rfl, hG, hn3⟩
    go_wp2_with fail
    refine (sameSteps_same C C' c c' S _ (hF.reads.keep hn3) hG.reads (by omega)).mono ?_
    rintro _ w4 ⟨rfl, hn4⟩
    have hk4 : New W1 w4 := (hn2.trans hn3).trans hn4
    have hI := hF.reads.keep (hn3.trans hn4)
    have hL4 := hL3.keep hk4
    have c4 := fun w' (hn : New w4 w') => c3 w' (hk4.trans hn)
    have hkw := hk.trans hk4
    clear hn2 hn3 hn4 hF hG H1 H2 hL3 c3
    go_wp2_with fail
    go_loopw [9, 10] (fun v i wr => ∃ k : Nat, k ≤ S.length ∧ i = .int .i64 k ∧ New w4 wr ∧ wr.ownsRow w4.heap.size 3 1 v k ((usedL S k).map (Value.int .i64))) (fun _ i _ => S.length - (intOf i).toNat)
    case atStart => exact ⟨0, Nat.zero_le _, rfl, (by repeat (first | with_reducible exact New.refl _ | with_reducible assumption | with_reducible refine New.alloc ?_ _ | with_reducible refine New.drewN ?_ _ | with_reducible refine New.drew ?_ | with_reducible refine New.setCell ?_ (by first | omega | (simp; done) | (simp; omega)) _ | with_reducible refine New.tail (by assumption) ?_)), World.ownsRow_made w4 #[] 0 (Nat.le_refl _) (by simp) rfl⟩
    case round =>
      obtain ⟨k, hk', rfl, hw, hown⟩ := hrel
      by_cases hlt : k < S.length
      · obtain ⟨b2, off2, xi, xb, e1, hg, hc⟩ := hI.at_ hlt
        have hul := usedL_len (S := S) (k := k) (by omega)
        have hno := usedL_no F1.out hlt hg
        have hsu := usedL_succ hlt hg
        obtain ⟨D, d, hD, hf⟩ := FInts.of_own (w0 := w4) (show wr.ownsRow w4.heap.size 3 1 _ (usedL S k).length ((usedL S k).map (Value.int .i64)) by rw [hul]; exact hown) (Nat.le_refl _)
        rw [hul] at hD
        subst hD e1
        have HU := fun w' => fun (hn : New wr w') => hasInt_any D d (usedL S k) xi w' (hf.reads.keep hn) (by omega)
        rw [hul, hno] at HU
        have HSU := Lib.hid hsu
        have q3 : (0 : Int) ≤ (k : Int) := by omega
        have q4 : (k : Int) < (S.length : Int) := by omega
        have hsz := hw.size
        clear hul hno hsu hg hf
        go_wp2_with fail
        refine (HU _ (by repeat (first | with_reducible exact New.refl _ | with_reducible assumption | with_reducible refine New.alloc ?_ _ | with_reducible refine New.drewN ?_ _ | with_reducible refine New.drew ?_ | with_reducible refine New.setCell ?_ (by first | omega | (simp; done) | (simp; omega)) _ | with_reducible refine New.tail (by assumption) ?_))).mono ?_
        rintro _ w5 ⟨rfl, rfl⟩
        go_wp2_with (at_builtin; refine wpList_append_own _ rfl _ _ 30 rfl w4.heap.size 3 i0 (.int .i64 0) 1 8 Tryd.underlying30 hi hz hs hb rfl (by decide) _ _ _ rfl (hown.alloc _) ⟨wr.heap.size, 0, none⟩ 1 1 [.int .i64 xi] rfl rfl (one_new _ _ _) (one_oneCell _) (by unfold maxLen; omega) (by omega) (by simp; omega) ?_; intro v' w1 hown' hgrow _)
        have hnew : New w4 w1 := (hw.alloc _).grown hgrow (fun j hj => (hown.lt j hj).1)
        go_wp2_with fail
        go_roundw
        case rel => exact ⟨k + 1, by omega, by go_num, hnew, by rw [HSU.out, List.map_append]; exact hown'⟩
        case measure => simp [intOf]; omega
      · obtain rfl : k = S.length := by omega
        have f3 := fun w' (hn : New wr w') => c4 w' (hw.trans hn)
        have hLr := hL4.keep hw
        have hIr := hI.keep hw
        have HSW : ∀ w', New wr w' → Calls Tryd.prog 54 #[.agg #[.int .i64 st, .slice B L.length cp], .slice C S.length c] w' fun r w'' => r = .returned (.tuple #[.agg #[.int .i64 x1, .int .i64 x2, .int .i64 x3], .bool true]) ∧ New w' w'' := fun w' hn => by
          have := implStepsWay_any st B C cp c L S w' (hLr.keep hn) (hIr.keep hn) (by omega) (by omega)
          rwa [FW.out.1, FW.out.2.1, FW.out.2.2.1, FW.out.2.2.2] at this
        have hkr := hkw.trans hw
        have hn4 : New W1 wr := hk4.trans hw
        have hkl := HKL.out
        clear HKL
        obtain ⟨b2, off2, xi, xb, e1, hg, hc⟩ := hIr.at_ (show 0 < S.length by omega)
        obtain ⟨b3, off3, yi, yb, e2, hg', hc'⟩ := hIr.at_ (show S.length - 1 < S.length by omega)
        obtain ⟨a0, a1⟩ := F2.out _ (List.getElem_mem (show 0 < S.length by omega))
        obtain ⟨b0, b1⟩ := F2.out _ (List.getElem_mem (show S.length - 1 < S.length by omega))
        have hbe := F4.out (by omega)
        rw [hg] at a0 a1
        rw [hg'] at b0 b1
        rw [hg, hg'] at hbe
        simp only at a0 a1 b0 b1
        obtain ⟨xn, rfl⟩ := Int.eq_ofNat_of_zero_le a0
        obtain ⟨yn, rfl⟩ := Int.eq_ofNat_of_zero_le b0
        have HST : ∀ w', New wr w' → Calls Tryd.prog 41 #[.agg #[.int .i64 st, .slice B L.length cp], .agg #[.int .i64 xn, .bool xb]] w' fun r w'' => r = .returned (.int .i64 (sBeg L ⟨xn, xb⟩)) ∧ New w' w'' := fun w' hn => start_any st B cp L xn xb w' (hLr.keep hn) (by omega)
        have HEN : ∀ w', New wr w' → Calls Tryd.prog 42 #[.agg #[.int .i64 st, .slice B L.length cp], .agg #[.int .i64 yn, .bool yb]] w' fun r w'' => r = .returned (.int .i64 (sEnd L ⟨yn, yb⟩)) ∧ New w' w'' := fun w' hn => end_any st B cp L yn yb w' (hLr.keep hn) (by omega)
        obtain ⟨z, hzz⟩ : ∃ z, sEnd L ⟨yn, yb⟩ = z := ⟨_, rfl⟩
        have hbe' : sBeg L ⟨xn, xb⟩ = z := hbe.trans hzz
        rw [hbe'] at HST
        rw [hzz] at HEN
        rw [e1] at e2
        simp only [Option.some.injEq, Addr.mk.injEq, and_true] at e2
        obtain ⟨rfl, rfl⟩ := e2
        subst e1
        obtain ⟨kp, hkp⟩ : ∃ kp, S.length - 1 = kp := ⟨_, rfl⟩
        rw [hkp] at hc'
        simp only [Nat.zero_mul, Nat.add_zero] at hc
        obtain ⟨m, hm⟩ : ∃ m, S.length = m := ⟨_, rfl⟩
        rw [hm] at HSW hkl ⊢
        have q3 : IntKind.i64.wrap ((m : Int) - 1) = (kp : Int) := by rw [IntKind.wrap_i64]; omega
        have q4 : (0 : Int) ≤ (kp : Int) := by omega
        have q5 : (kp : Int) < (m : Int) := by omega
        have q6 : (0 : Int) < (m : Int) := by omega
        have q6' : 0 < m := by omega
        have q7 : decide ((1 : Int) < (m : Int)) = true := by simp; omega
        have q8 : decide (1 < m) = true := by simp; omega
        have q9 : (z == z) = true := by simp
        have HMr := fun w' (hn : New wr w') => HM w' (hn4.trans hn)
        clear HM hLr hIr hL4 hI c4 hg hg' hbe hbe' hzz a0 a1 b0 b1 hkp hm hkl hSl F1 F2 F4 FW hown hw hlt hk' hk4 hkw hn4
        go_wp2_with fail
        refine (HSW _ (by repeat (first | with_reducible exact New.refl _ | with_reducible assumption | with_reducible refine New.alloc ?_ _ | with_reducible refine New.drewN ?_ _ | with_reducible refine New.drew ?_ | with_reducible refine New.setCell ?_ (by first | omega | (simp; done) | (simp; omega)) _ | with_reducible refine New.tail (by assumption) ?_))).mono ?_
        rintro _ w6 ⟨rfl, hn6⟩
        go_upto_region 18 with fail
        have h7 := Has.new w6 #[.int .i64 x1, .int .i64 x2, .int .i64 x3] 53
        have hn7 : New wr (w6.alloc (.cells #[.int .i64 x1, .int .i64 x2, .int .i64 x3] 53)) := hn6.alloc _
        generalize (w6.alloc (.cells #[.int .i64 x1, .int .i64 x2, .int .i64 x3] 53)) = W7 at *
        have c7 := h7.cells3
        clear hn6 h7
        go_wp2_with fail
        refine (HMr _ (by repeat (first | with_reducible exact New.refl _ | with_reducible assumption | with_reducible refine New.alloc ?_ _ | with_reducible refine New.drewN ?_ _ | with_reducible refine New.drew ?_ | with_reducible refine New.setCell ?_ (by first | omega | (simp; done) | (simp; omega)) _ | with_reducible refine New.tail (by assumption) ?_))).mono ?_
        rintro _ w8 ⟨rfl, hn8⟩
        go_upto_region 19 with fail
        have h9 := Has.new w8 #[.int .i64 x1, .int .i64 x2, .int .i64 x3] 53
        have hn9 : New W7 (w8.alloc (.cells #[.int .i64 x1, .int .i64 x2, .int .i64 x3] 53)) := hn8.alloc _
        generalize (w8.alloc (.cells #[.int .i64 x1, .int .i64 x2, .int .i64 x3] 53)) = W9 at *
        have c9 := h9.cells3
        have d7 := fun w' (hn : New W9 w') => c7 w' (hn9.trans hn)
        have hnr : New wr W9 := hn7.trans hn9
        have d3 := fun w' (hn : New W9 w') => f3 w' (hnr.trans hn)
        have d1 := fun w' (hn : New W9 w') => hc w' (hnr.trans hn)
        have d2 := fun w' (hn : New W9 w') => hc' w' (hnr.trans hn)
        have HS2 := fun w' (hn : New W9 w') => HST w' (hnr.trans hn)
        have HE2 := fun w' (hn : New W9 w') => HEN w' (hnr.trans hn)
        have hkz := hkr.trans hnr
        clear hn8 h9 c7 hn7 hn9 f3 hc hc' HST HEN HMr HSW hnr hkr
        go_region_held3 (fun w' => New W9 w') ((repeat (first | with_reducible exact New.refl _ | with_reducible assumption | with_reducible refine New.alloc ?_ _ | with_reducible refine New.drewN ?_ _ | with_reducible refine New.drew ?_ | with_reducible refine New.setCell ?_ (by first | omega | (simp; done) | (simp; omega)) _ | with_reducible refine New.tail (by assumption) ?_))) (first | (go_at_call 41; refine (HS2 _ (by repeat (first | with_reducible exact New.refl _ | with_reducible assumption | with_reducible refine New.alloc ?_ _ | with_reducible refine New.drewN ?_ _ | with_reducible refine New.drew ?_ | with_reducible refine New.setCell ?_ (by first | omega | (simp; done) | (simp; omega)) _ | with_reducible refine New.tail (by assumption) ?_))).mono ?_; rintro _ wA ⟨rfl, hnA⟩) | (go_at_call 42; refine (HE2 _ (by repeat (first | with_reducible exact New.refl _ | with_reducible assumption | with_reducible refine New.alloc ?_ _ | with_reducible refine New.drewN ?_ _ | with_reducible refine New.drew ?_ | with_reducible refine New.setCell ?_ (by first | omega | (simp; done) | (simp; omega)) _ | with_reducible refine New.tail (by assumption) ?_))).mono ?_; rintro _ wB ⟨rfl, hnB⟩))
        go_wp2_with fail
        go_ret
        exact ⟨rfl, hkz.trans (by repeat (first | with_reducible exact New.refl _ | with_reducible assumption | with_reducible refine New.alloc ?_ _ | with_reducible refine New.drewN ?_ _ | with_reducible refine New.drew ?_ | with_reducible refine New.setCell ?_ (by first | omega | (simp; done) | (simp; omega)) _ | with_reducible refine New.tail (by assumption) ?_))⟩

set_option maxRecDepth 100000 in
theorem fnLoopSteps_lifted (os : Os) (started : os.Started) (H : Type) (enc : TypeId × Value → H) :
    ReturnsInHanded {} Tryd.checked os 14 .any (fun w args => (Rows.fnLoopStepsSpec.pre enc Tryd.prog Tryd.f14 [] false w args ∧ laidMetH Tryd.prog laidL w) ∧ sizedMet enc Tryd.prog Tryd.f14 (OpenSpec.ofChange Rows.fnLoopStepsSpec) false w args)
      (Rows.fnLoopStepsSpec.post enc Tryd.prog Tryd.f14 false true false false) := by
  refine returnsInHanded_of_change_and (C := Tryd.checked) (X := fun w _ => laidMetH Tryd.prog laidL w) (fun _ _ _ hh h => h.of_heap hh) own started (by kernel_rfl) Tryd.func14
    (ChangeSpec.witness_shaped (enc := enc) (C := Tryd.checked) (os := os) (X := fun w _ => laidMetH Tryd.prog laidL w) false (World.doorLaid Tryd.prog 400 os) #[.slice none 0 0] 8 rfl (World.shaped_of_RefB (by kernel_rfl) (by kernel_rfl)) (by kernel_rfl) (by kernel_rfl) (by kernel_rfl) (laidL_met os _)) ?_
  intro W base args ds gs before hval0 hW _ _ hL _
  have hval : ∀ (j : Nat) t v, Tryd.f14.params[j]? = some t → args[j]? = some v → Value.okWide Tryd.prog W .any base t v := hval0
  have hW' := hW
  obtain ⟨p, q, hA0, hV, rfl, hfz, hnd⟩ := hW
  have hA : DataW.TrodAll enc Tryd.prog W 0 (fun _ => true) true Tryd.f14.params.toList args.toList ds p := hA0
  have hlt : ∀ x ∈ p ++ q, x.block < W.heap.size := fun x hx => hW'.lt x hx
  rw [Tryd.params14] at hA hval
  obtain ⟨v0, d0, rfl, rfl, h0⟩ := trodAll_one hA
  clear hA0 hval0
  have hL : laidMetH Tryd.prog laidL W := hL
  obtain ⟨A, n, cap, rfl, hB, hc, hn⟩ := open_bytes (hval 0 _ _ rfl rfl) h0
  refine (lawFnLoopSteps_walk A n cap W hB hc hn (tab_of_laid hL)).mono fun e W' ⟨he, hg⟩ => ?_
  subst he
  exact ⟨_, rfl, law_post laidOut hW' rfl ⟨rfl, rfl, rfl⟩ (by kernel_rfl) rfl Tryd.underlying4 hg⟩

theorem fnLoopSteps_over : Rows.fnLoopStepsRow.holds Tryd.pinned (OpenSpec.ofChange Rows.fnLoopStepsSpec) :=
  OpenClaim.holds_of_wide 14 Tryd.f14 rfl rfl rfl rfl rfl rfl rfl ⟨rfl, rfl, rfl, rfl, rfl⟩ rfl rfl rfl rfl rfl (by kernel_rfl) Tryd.func14 (by kernel_rfl)
    (of_decide_eq_true (by kernel_rfl)) (by unfold Func.isWrapper; first | (rw [if_pos (by decide +kernel)]; kernel_rfl) | (rw [if_neg (by decide +kernel)]; exact ⟨rfl, rfl⟩))
    (fun os started H enc _ => fnLoopSteps_lifted os started H enc)

/-- The given statement. -/
theorem fnLoopSteps_holds : Rows.FnLoopStepsCardSaid :=
  Claim7.holds_tied_plain_at .later [] [.data, .data, .data] true Rows.fnLoopStepsCard.stood.harness Rows.fnLoopStepsCard.stood.looks
    fnLoopSteps_over (fun _ h => by cases h) (by kernel_rfl) (fun _ h => by cases h) fnLoopSteps_row_tie rfl ⟨rfl, rfl⟩ (by kernel_rfl) rfl
    (fun f fn hf hfn => by
      obtain rfl : f = 14 := Option.some.inj ((show Tryd.prog.funcNamed "loop.example/cavesurvey/laws.FnLoopSteps" = some 14 by kernel_rfl).symm.trans hf) |>.symm
      obtain rfl : fn = Tryd.f14 := (Option.some.inj (Tryd.func14.symm.trans hfn)).symm
      exact ⟨by kernel_rfl, fun j t ht => by
        rw [Tryd.params14] at ht
        have hm : t ∈ Tryd.f14.params.toList := by rw [Tryd.params14]; simpa using Array.mem_of_getElem? ht
        have hall : (Tryd.f14.params.toList.all fun u => !Tryd.prog.wantsStandIn u) = true := by kernel_rfl
        exact (show Tryd.prog.wantsStandIn t = false by simpa using List.all_eq_true.1 hall t hm)⟩)
    (by kernel_rfl)

#print axioms fnLoopSteps_holds
end Go.Proofs.YtgcloaimolajjaaDoor
