/- FnStepsOk: whatever the code is, the law returns true and leaves it as it was. No condition. -/
import Derived.Test.YtgcloaimolajjaaDoorDrawStp
import Derived.Test.YtgcloaimolajjaaDoorFnH
namespace Go.Proofs.YtgcloaimolajjaaDoor
open Go.ChangeShapes Go.WideShapes Go.ChangeAt Go.RowKit Go.Deep Go.Joins
set_option linter.all false
theorem StepsAt.take {w : World} {A : Option Addr} {S : List St} (h : StepsAt w A S) (m : Nat) : StepsAt w A (S.take m) := fun hne => by
  obtain ⟨b, off, e, hb, hc⟩ := h (by rintro rfl; simp at hne)
  refine ⟨b, off, e, hb, fun k g hk => hc k g ?_⟩
  rw [List.getElem?_take] at hk
  split at hk
  · exact hk
  · cases hk
theorem back_succ {S : List St} {t i : Nat} (h : i + t + 1 = S.length) {xi : Int} {xb : Bool} (hx : S[i]'(by omega) = ⟨xi, xb⟩) : (backS S).take (t + 1) = (backS S).take t ++ [⟨xi, !xb⟩] := by
  have ht : t < (backS S).length := by rw [backS_len]; omega
  rw [List.take_add_one, List.getElem?_eq_getElem ht]
  have g : ∀ j (hj : j < (backS S).length) (hj' : S.length - 1 - j < S.length), (backS S)[j] = flip S[S.length - 1 - j] := fun j hj hj' => by
    unfold backS at hj ⊢
    simp [List.getElem_reverse]
  have e : S.length - 1 - t = i := by omega
  have : (backS S)[t] = flip (S[i]'(by omega)) := by
    rw [g t ht (by omega)]
    congr 1
    exact getElem_congr_idx e
  rw [this, hx]
  rfl
set_option maxHeartbeats 4000000 in
set_option maxRecDepth 100000 in
theorem lawFnStepsOk_walk (A : Option Addr) (n cap : Nat) (w : World) (hB : Bytes w A n) (hc : n ≤ cap) (hn : n ≤ maxLen) (ht : Tab w) :
    Calls Tryd.prog 5 #[.slice A n cap] w fun r w' => r = .returned (.bool true) ∧ New w w' := by
  by_cases hbig : (1048576 : Int) < (n : Int)
  · go_enter Tryd.func5, Tryd.ntmps5
    go_wp2_with fail
    go_ret
    exact ⟨rfl, New.refl _⟩
  have HT := Lib.hid ht
  clear ht
  go_enter Tryd.func5, Tryd.ntmps5
  go_wp2_with fail
  refine (drawStepsOk_any A n cap _ hB hc hn).mono ?_
  rintro _ w1 ⟨st, B, L, cp, C, S, c, rfl, ⟨hcp, s0, s1, hlen, hsm⟩, ⟨hS9, hSc⟩, hL, hS, hn1⟩
  clear hsm hB hc hn
  go_upto_region 4 with fail
  have h3 := Has.new w1 #[.int .i64 st, .slice B L.length cp] 25
  have hk : New w (w1.alloc (.cells #[.int .i64 st, .slice B L.length cp] 25)) := (by repeat (first | with_reducible exact New.refl _ | with_reducible assumption | with_reducible refine New.alloc ?_ _ | with_reducible refine New.drewN ?_ _ | with_reducible refine New.drew ?_ | with_reducible refine New.setCell ?_ (by first | omega | (simp; done) | (simp; omega)) _ | with_reducible refine New.tail (by assumption) ?_))
  have hL3 := hL.keep ((New.refl w1).alloc (.cells #[.int .i64 st, .slice B L.length cp] 25))
  have hS3 := hS.keep ((New.refl w1).alloc (.cells #[.int .i64 st, .slice B L.length cp] 25))
  generalize (w1.alloc (.cells #[.int .i64 st, .slice B L.length cp] 25)) = W1 at *
  have c3 := h3.cells2
  clear hL hS hn1
  have H3 : ∀ w', New W1 w' → Calls Tryd.prog 18 #[] w' fun r w'' => r = .returned (.bool true) ∧ New w' w'' := fun w' hn => alive_any w' (HT.out.keep (hk.trans hn))
  have H1 : ∀ w', New W1 w' → Calls Tryd.prog 24 #[.agg #[.int .i64 st, .slice B L.length cp], .slice C S.length c] w' fun r w'' => r = .returned (.bool (soB st L S)) ∧ New w' w'' := fun w' hn => implStepsOk_any st B C cp c L S w' (hL3.keep hn) (hS3.keep hn) (by omega) (by omega)
  have H2 : ∀ w', New W1 w' → Calls Tryd.prog 25 #[.agg #[.int .i64 st, .slice B L.length cp], .slice C S.length c] w' fun r w'' => r = .returned (.bool (soB st L S)) ∧ New w' w'' := fun w' hn => specStepsOk_any st B C cp c L S w' (hL3.keep hn) (hS3.keep hn) (by omega) (by omega)
  cases ok : soB st L S
  · rw [ok] at H1 H2
    clear hL3 hS3 h3 ok
    go_wp2_with fail
    refine (H1 _ (by repeat (first | with_reducible exact New.refl _ | with_reducible assumption | with_reducible refine New.alloc ?_ _ | with_reducible refine New.drewN ?_ _ | with_reducible refine New.drew ?_ | with_reducible refine New.setCell ?_ (by first | omega | (simp; done) | (simp; omega)) _ | with_reducible refine New.tail (by assumption) ?_))).mono ?_
    rintro _ w2 ⟨rfl, hn2⟩
    go_wp2_with fail
    refine (H2 _ (by repeat (first | with_reducible exact New.refl _ | with_reducible assumption | with_reducible refine New.alloc ?_ _ | with_reducible refine New.drewN ?_ _ | with_reducible refine New.drew ?_ | with_reducible refine New.setCell ?_ (by first | omega | (simp; done) | (simp; omega)) _ | with_reducible refine New.tail (by assumption) ?_))).mono ?_
    rintro _ w3 ⟨rfl, hn3⟩
    have hk3 := hn2.trans hn3
    clear hn2 hn3
    go_wp2_with fail
    refine (H3 _ (by repeat (first | with_reducible exact New.refl _ | with_reducible assumption | with_reducible refine New.alloc ?_ _ | with_reducible refine New.drewN ?_ _ | with_reducible refine New.drew ?_ | with_reducible refine New.setCell ?_ (by first | omega | (simp; done) | (simp; omega)) _ | with_reducible refine New.tail (by assumption) ?_))).mono ?_
    rintro _ w4 ⟨rfl, hn4⟩
    go_wp2_with fail
    go_ret
    exact ⟨rfl, hk.trans (by repeat (first | with_reducible exact New.refl _ | with_reducible assumption | with_reducible refine New.alloc ?_ _ | with_reducible refine New.drewN ?_ _ | with_reducible refine New.drew ?_ | with_reducible refine New.setCell ?_ (by first | omega | (simp; done) | (simp; omega)) _ | with_reducible refine New.tail (by assumption) ?_))⟩
  · rw [ok] at H1 H2
    obtain ⟨i0, hi, hz, hs, hby⟩ := info_parts infoStep
    have F1 := Lib.hid (so_back ok)
    have F2 := Lib.hid (so_take ok (S.length / 2))
    clear ok H3 h3
    go_wp2_with fail
    refine (H1 _ (by repeat (first | with_reducible exact New.refl _ | with_reducible assumption | with_reducible refine New.alloc ?_ _ | with_reducible refine New.drewN ?_ _ | with_reducible refine New.drew ?_ | with_reducible refine New.setCell ?_ (by first | omega | (simp; done) | (simp; omega)) _ | with_reducible refine New.tail (by assumption) ?_))).mono ?_
    rintro _ w2 ⟨rfl, hn2⟩
    go_wp2_with fail
    refine (H2 _ (by repeat (first | with_reducible exact New.refl _ | with_reducible assumption | with_reducible refine New.alloc ?_ _ | with_reducible refine New.drewN ?_ _ | with_reducible refine New.drew ?_ | with_reducible refine New.setCell ?_ (by first | omega | (simp; done) | (simp; omega)) _ | with_reducible refine New.tail (by assumption) ?_))).mono ?_
    rintro _ w3 ⟨rfl, hn3⟩
    have hk3 : New W1 w3 := hn2.trans hn3
    have hL4 := hL3.keep hk3
    have hS4 := hS3.keep hk3
    have c4 := fun w' (hn : New w3 w') => c3 w' (hk3.trans hn)
    have hkw := hk.trans hk3
    have t0 : IntKind.i64.wrap ((S.length : Int) - 1) = (S.length : Int) - 1 := by rw [IntKind.wrap_i64]; omega
    clear hn2 hn3 H1 H2 c3 hL3 hS3 hk
    go_wp2_with fail
    go_loopw [6, 7] (fun v i wr => ∃ t : Nat, t ≤ S.length ∧ i = .int .i64 ((S.length : Int) - 1 - t) ∧ New w3 wr ∧ wr.ownsRow w3.heap.size 40 2 v t (stC ((backS S).take t))) (fun _ i _ => (intOf i + 1).toNat)
    case atStart => exact ⟨0, Nat.zero_le _, by simp, (by repeat (first | with_reducible exact New.refl _ | with_reducible assumption | with_reducible refine New.alloc ?_ _ | with_reducible refine New.drewN ?_ _ | with_reducible refine New.drew ?_ | with_reducible refine New.setCell ?_ (by first | omega | (simp; done) | (simp; omega)) _ | with_reducible refine New.tail (by assumption) ?_)), World.ownsRow_made w3 #[] 0 (Nat.le_refl _) (by simp) rfl⟩
    case round =>
      obtain ⟨t, ht, rfl, hw, hown⟩ := hrel
      clear t0
      by_cases hlt : t < S.length
      · obtain ⟨i, hi'⟩ : ∃ i, i + t + 1 = S.length := ⟨S.length - 1 - t, by omega⟩
        have e : (S.length : Int) - 1 - t = (i : Int) := by omega
        rw [e]
        obtain ⟨b2, off2, xi, xb, e1, hg, hc⟩ := hS4.at_ (show i < S.length by omega)
        have HBK := Lib.hid (back_succ hi' hg)
        have HI := Lib.hid hi'
        subst e1
        have q1 : (0 : Int) ≤ (i : Int) := by omega
        have q2 : (i : Int) < (S.length : Int) := by omega
        have q3 : IntKind.i64.wrap ((i : Int) - 1) = (i : Int) - 1 := by rw [IntKind.wrap_i64]; omega
        have hsz := hw.size
        clear hg hi' e
        go_wp2_with fail
        go_region_held3 (fun w' => New w3 w') ((repeat (first | with_reducible exact New.refl _ | with_reducible assumption | with_reducible refine New.alloc ?_ _ | with_reducible refine New.drewN ?_ _ | with_reducible refine New.drew ?_ | with_reducible refine New.setCell ?_ (by first | omega | (simp; done) | (simp; omega)) _ | with_reducible refine New.tail (by assumption) ?_))) (first | (refine step_own (by rfl) _ _ 35 (by rfl) w3.heap.size 40 i0 (.agg #[.int .i64 0, .bool false]) 2 16 Tryd.underlying35 hi hz hs hby rfl (by decide) _ t _ (by rfl) (own_new hown (by repeat (first | with_reducible exact New.refl _ | with_reducible assumption | with_reducible refine New.alloc ?_ _ | with_reducible refine New.drewN ?_ _ | with_reducible refine New.drew ?_ | with_reducible refine New.setCell ?_ (by first | omega | (simp; done) | (simp; omega)) _ | with_reducible refine New.tail (by assumption) ?_))) ⟨wr.heap.size, 0, none⟩ 1 1 [.int .i64 xi, .bool (!xb)] (by rfl) (by rfl) (two_new _ _ _ _) (stC_one [⟨xi, !xb⟩]) (by unfold maxLen; omega) (by omega) (by simp; omega) ?_; intro v' wE hown' hgrow _; have hnE : New w3 wE := New.grown (show New w3 ((wr.drew).alloc (.cells #[.int .i64 xi, .bool (!xb)] 40)) from (by repeat (first | with_reducible exact New.refl _ | with_reducible assumption | with_reducible refine New.alloc ?_ _ | with_reducible refine New.drewN ?_ _ | with_reducible refine New.drew ?_ | with_reducible refine New.setCell ?_ (by first | omega | (simp; done) | (simp; omega)) _ | with_reducible refine New.tail (by assumption) ?_))) hgrow (fun j hj => (hown.lt j hj).1)))
        go_wp2_with fail
        go_roundw
        case rel => exact ⟨t + 1, by omega, by have := HI.out; (first | (congr 1; omega) | (congr 1; done) | (simp; omega)), (by repeat (first | with_reducible exact New.refl _ | with_reducible assumption | with_reducible refine New.alloc ?_ _ | with_reducible refine New.drewN ?_ _ | with_reducible refine New.drew ?_ | with_reducible refine New.setCell ?_ (by first | omega | (simp; done) | (simp; omega)) _ | with_reducible refine New.tail (by assumption) ?_)), by rw [HBK.out, stC_snoc]; exact hown'⟩
        case measure => first | (simp [intOf]; done) | (simp [intOf]; omega)
      · obtain rfl : t = S.length := by omega
        have e : (S.length : Int) - 1 - S.length = -1 := by omega
        rw [e]
        have hbl : (backS S).take S.length = backS S := by rw [← backS_len S, List.take_length]
        rw [hbl, ← backS_len S] at hown
        obtain ⟨D, d, hD, hf⟩ := FSteps.of_own (w0 := w3) hown (Nat.le_refl _)
        subst hD
        have HBL := Lib.hid (backS_len S)
        have hLr := hL4.keep hw
        have hSr := hS4.keep hw
        have HA : ∀ w', New wr w' → Calls Tryd.prog 24 #[.agg #[.int .i64 st, .slice B L.length cp], .slice D (backS S).length d] w' fun r w'' => r = .returned (.bool true) ∧ New w' w'' := fun w' hn => by
          have := implStepsOk_any st B D cp d L (backS S) w' (hLr.keep hn) (hf.reads.keep hn) (by omega) (by have := HBL.out; omega)
          rwa [F1.out] at this
        obtain ⟨h, hh⟩ : ∃ h, S.length / 2 = h := ⟨_, rfl⟩
        have HC : ∀ w', New wr w' → Calls Tryd.prog 24 #[.agg #[.int .i64 st, .slice B L.length cp], .slice C h c] w' fun r w'' => r = .returned (.bool true) ∧ New w' w'' := fun w' hn => by
          have := implStepsOk_any st B C cp c L (S.take (S.length / 2)) w' (hLr.keep hn) ((hSr.take _).keep hn) (by omega) (by rw [List.length_take]; omega)
          rwa [F2.out, List.length_take, Nat.min_eq_left (by omega), hh] at this
        have f4 := fun w' (hn : New wr w') => c4 w' (hw.trans hn)
        have hkr := hkw.trans hw
        rw [HBL.out] at HA ⊢
        have t1 : (S.length : Int) / 2 = (h : Int) := by omega
        have t2 : (0 : Int) ≤ (h : Int) := by omega
        have t3 : (h : Int) ≤ (c : Int) := by omega
        have t4 : (0 : Int) ≤ (S.length : Int) := by omega
        have t7 : IntKind.i64.wrap (h : Int) = (h : Int) := by rw [IntKind.wrap_i64]; omega
        have t6 : Int.tdiv (S.length : Int) 2 = (h : Int) := by rw [Int.tdiv_eq_ediv_of_nonneg t4]; exact t1
        clear F1 F2 hbl hown hf HBL hLr hSr hL4 hS4 c4 hw hlt ht e
        cases C
        all_goals
          go_wp2_with fail
          go_region_held3 (fun w' => New wr w') ((repeat (first | with_reducible exact New.refl _ | with_reducible assumption | with_reducible refine New.alloc ?_ _ | with_reducible refine New.drewN ?_ _ | with_reducible refine New.drew ?_ | with_reducible refine New.setCell ?_ (by first | omega | (simp; done) | (simp; omega)) _ | with_reducible refine New.tail (by assumption) ?_))) (first | (go_at_call 24; with_reducible refine (HA _ (by repeat (first | with_reducible exact New.refl _ | with_reducible assumption | with_reducible refine New.alloc ?_ _ | with_reducible refine New.drewN ?_ _ | with_reducible refine New.drew ?_ | with_reducible refine New.setCell ?_ (by first | omega | (simp; done) | (simp; omega)) _ | with_reducible refine New.tail (by assumption) ?_))).mono ?_; rintro _ w6 ⟨rfl, hn6⟩) | (go_at_call 24; with_reducible refine (HC _ (by repeat (first | with_reducible exact New.refl _ | with_reducible assumption | with_reducible refine New.alloc ?_ _ | with_reducible refine New.drewN ?_ _ | with_reducible refine New.drew ?_ | with_reducible refine New.setCell ?_ (by first | omega | (simp; done) | (simp; omega)) _ | with_reducible refine New.tail (by assumption) ?_))).mono ?_; rintro _ w7 ⟨rfl, hn7⟩))
          go_wp2_with fail
          go_ret
          exact ⟨rfl, hkr.trans (by repeat (first | with_reducible exact New.refl _ | with_reducible assumption | with_reducible refine New.alloc ?_ _ | with_reducible refine New.drewN ?_ _ | with_reducible refine New.drew ?_ | with_reducible refine New.setCell ?_ (by first | omega | (simp; done) | (simp; omega)) _ | with_reducible refine New.tail (by assumption) ?_))⟩

set_option maxRecDepth 100000 in
theorem fnStepsOk_lifted (os : Os) (started : os.Started) (H : Type) (enc : TypeId × Value → H) :
    ReturnsInHanded {} Tryd.checked os 5 .any (fun w args => (Rows.fnStepsOkSpec.pre enc Tryd.prog Tryd.f5 [] false w args ∧ laidMetH Tryd.prog laidL w) ∧ sizedMet enc Tryd.prog Tryd.f5 (OpenSpec.ofChange Rows.fnStepsOkSpec) false w args)
      (Rows.fnStepsOkSpec.post enc Tryd.prog Tryd.f5 false true false false) := by
  refine returnsInHanded_of_change_and (C := Tryd.checked) (X := fun w _ => laidMetH Tryd.prog laidL w) (fun _ _ _ hh h => h.of_heap hh) own started (by kernel_rfl) Tryd.func5
    (ChangeSpec.witness_shaped (enc := enc) (C := Tryd.checked) (os := os) (X := fun w _ => laidMetH Tryd.prog laidL w) false (World.doorLaid Tryd.prog 400 os) #[.slice none 0 0] 8 rfl (World.shaped_of_RefB (by kernel_rfl) (by kernel_rfl)) (by kernel_rfl) (by kernel_rfl) (by kernel_rfl) (laidL_met os _)) ?_
  intro W base args ds gs before hval0 hW _ _ hL _
  have hval : ∀ (j : Nat) t v, Tryd.f5.params[j]? = some t → args[j]? = some v → Value.okWide Tryd.prog W .any base t v := hval0
  have hW' := hW
  obtain ⟨p, q, hA0, hV, rfl, hfz, hnd⟩ := hW
  have hA : DataW.TrodAll enc Tryd.prog W 0 (fun _ => true) true Tryd.f5.params.toList args.toList ds p := hA0
  have hlt : ∀ x ∈ p ++ q, x.block < W.heap.size := fun x hx => hW'.lt x hx
  rw [Tryd.params5] at hA hval
  obtain ⟨v0, d0, rfl, rfl, h0⟩ := trodAll_one hA
  clear hA0 hval0
  have hL : laidMetH Tryd.prog laidL W := hL
  obtain ⟨A, n, cap, rfl, hB, hc, hn⟩ := open_bytes (hval 0 _ _ rfl rfl) h0
  refine (lawFnStepsOk_walk A n cap W hB hc hn (tab_of_laid hL)).mono fun e W' ⟨he, hg⟩ => ?_
  subst he
  exact ⟨_, rfl, law_post laidOut hW' rfl ⟨rfl, rfl, rfl⟩ (by kernel_rfl) rfl Tryd.underlying4 hg⟩

theorem fnStepsOk_over : Rows.fnStepsOkRow.holds Tryd.pinned (OpenSpec.ofChange Rows.fnStepsOkSpec) :=
  OpenClaim.holds_of_wide 5 Tryd.f5 rfl rfl rfl rfl rfl rfl rfl ⟨rfl, rfl, rfl, rfl, rfl⟩ rfl rfl rfl rfl rfl (by kernel_rfl) Tryd.func5 (by kernel_rfl)
    (of_decide_eq_true (by kernel_rfl)) (by unfold Func.isWrapper; first | (rw [if_pos (by decide +kernel)]; kernel_rfl) | (rw [if_neg (by decide +kernel)]; exact ⟨rfl, rfl⟩))
    (fun os started H enc _ => fnStepsOk_lifted os started H enc)

/-- The given statement. -/
theorem fnStepsOk_holds : Rows.FnStepsOkCardSaid :=
  Claim7.holds_tied_plain_at .later [] [.data, .data, .data] true Rows.fnStepsOkCard.stood.harness Rows.fnStepsOkCard.stood.looks
    fnStepsOk_over (fun _ h => by cases h) (by kernel_rfl) (fun _ h => by cases h) fnStepsOk_row_tie rfl ⟨rfl, rfl⟩ (by kernel_rfl) rfl
    (fun f fn hf hfn => by
      obtain rfl : f = 5 := Option.some.inj ((show Tryd.prog.funcNamed "loop.example/cavesurvey/laws.FnStepsOk" = some 5 by kernel_rfl).symm.trans hf) |>.symm
      obtain rfl : fn = Tryd.f5 := (Option.some.inj (Tryd.func5.symm.trans hfn)).symm
      exact ⟨by kernel_rfl, fun j t ht => by
        rw [Tryd.params5] at ht
        have hm : t ∈ Tryd.f5.params.toList := by rw [Tryd.params5]; simpa using Array.mem_of_getElem? ht
        have hall : (Tryd.f5.params.toList.all fun u => !Tryd.prog.wantsStandIn u) = true := by kernel_rfl
        exact (show Tryd.prog.wantsStandIn t = false by simpa using List.all_eq_true.1 hall t hm)⟩)
    (by kernel_rfl)

#print axioms fnStepsOk_holds
end Go.Proofs.YtgcloaimolajjaaDoor
