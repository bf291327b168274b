/- FnTreeLegs: whatever the code is, the law returns true and leaves it as it was. No condition. -/
import Derived.Test.YtgcloaimolajjaaDoorDrawQ
import Derived.Test.YtgcloaimolajjaaDoorFnH
namespace Go.Proofs.YtgcloaimolajjaaDoor
open Go.ChangeShapes Go.WideShapes Go.ChangeAt Go.RowKit Go.Deep Go.Joins
set_option linter.all false
theorem tl_asc_of {st : Int} {L : List Lg} {T : List Int} (h : tlL st L = T) : ∀ k (hk : k + 1 < T.length), T[k] < T[k + 1] := by
  subst h
  exact tl_asc st L
theorem tl_fact {st : Int} {L : List Lg} (h : svB st L = true) : ∀ k (hk : k < (tlL st L).length), ∃ i : Nat, (tlL st L)[k]? = some (i : Int) ∧ i < L.length := fun k hk => by
  have := tl_mem (List.getElem_mem hk)
  refine ⟨(tlL st L)[k].toNat, ?_, by omega⟩
  rw [List.getElem?_eq_getElem hk]
  congr 1
  omega
theorem tl_pick_all {st : Int} {L : List Lg} (h : svB st L = true) : (pickL L (tlL st L)).length = (tlL st L).length ∧ svB st (pickL L (tlL st L)) = true := by
  refine ⟨?_, sv_pick h⟩
  obtain ⟨n, rfl⟩ := svB_nat h
  rw [tlL_ok h]
  exact pickL_len _ (Nat.le_refl _)
set_option maxHeartbeats 4000000 in
set_option maxRecDepth 100000 in
theorem lawFnTreeLegs_walk (A : Option Addr) (n cap : Nat) (w : World) (hB : Bytes w A n) (hc : n ≤ cap) (hn : n ≤ maxLen) (ht : Tab w) :
    Calls Tryd.prog 8 #[.slice A n cap] w fun r w' => r = .returned (.bool true) ∧ New w w' := by
  by_cases hbig : (1048576 : Int) < (n : Int)
  · go_enter Tryd.func8, Tryd.ntmps8
    go_wp2_with fail
    go_ret
    exact ⟨rfl, New.refl _⟩
  have HT := Lib.hid ht
  clear ht
  go_enter Tryd.func8, Tryd.ntmps8
  go_wp2_with fail
  refine (drawTreeLegs_any A n cap _ hB hc hn).mono ?_
  rintro _ w1 ⟨st, B, L, cp, rfl, ⟨hcp, s0, s1, hlen, hsm⟩, hL, hn1⟩
  clear hsm hB hc hn
  go_upto_region 4 with fail
  have h3 := Has.new w1 #[.int .i64 st, .slice B L.length cp] 25
  have hk : New w (w1.alloc (.cells #[.int .i64 st, .slice B L.length cp] 25)) := (by repeat (first | with_reducible exact New.refl _ | with_reducible assumption | with_reducible refine New.alloc ?_ _ | with_reducible refine New.drewN ?_ _ | with_reducible refine New.drew ?_ | with_reducible refine New.setCell ?_ (by first | omega | (simp; done) | (simp; omega)) _ | with_reducible refine New.tail (by assumption) ?_))
  have hL3 := hL.keep ((New.refl w1).alloc (.cells #[.int .i64 st, .slice B L.length cp] 25))
  generalize (w1.alloc (.cells #[.int .i64 st, .slice B L.length cp] 25)) = W1 at *
  have c3 := h3.cells2
  clear hL hn1
  have H3 : ∀ w', New W1 w' → Calls Tryd.prog 18 #[] w' fun r w'' => r = .returned (.bool true) ∧ New w' w'' := fun w' hn => alive_any w' (HT.out.keep (hk.trans hn))
  have H1 : ∀ w', New W1 w' → Calls Tryd.prog 32 #[.agg #[.int .i64 st, .slice B L.length cp]] w' fun r w'' => ∃ C c, r = .returned (.slice C (tlL st L).length c) ∧ FInts w' w'' C (tlL st L) ∧ New w' w'' := fun w' hn => implTreeLegs_any st B cp L w' (hL3.keep hn) (by omega)
  have H2 : ∀ w', New W1 w' → Calls Tryd.prog 34 #[.agg #[.int .i64 st, .slice B L.length cp]] w' fun r w'' => ∃ C c, r = .returned (.slice C (tlL st L).length c) ∧ FInts w' w'' C (tlL st L) ∧ New w' w'' := fun w' hn => specTreeLegs_any st B cp L w' (hL3.keep hn) (by omega)
  have H4 : ∀ w', New W1 w' → Calls Tryd.prog 17 #[.agg #[.int .i64 st, .slice B L.length cp]] w' fun r w'' => r = .returned (.bool (svB st L)) ∧ New w' w'' := fun w' hn => specSurveyValid_any st B cp L w' (hL3.keep hn) (by omega)
  have H5 : ∀ w', New W1 w' → Calls Tryd.prog 20 #[.agg #[.int .i64 st, .slice B L.length cp]] w' fun r w'' => ∃ C c, r = .returned (.slice C (prL st L).length c) ∧ FInts w' w'' C (prL st L) ∧ New w' w'' := fun w' hn => implParts_any st B cp L w' (hL3.keep hn) (by omega)
  have hTl := tlL_le st L
  have hPl := prL_le st L
  cases ok : svB st L
  · rw [tlL_no ok] at H1 H2
    rw [ok] at H4
    simp only [List.length_nil] at H1 H2
    clear hL3 h3 ok hTl hPl H5
    go_wp2_with fail
    refine (H1 _ (by repeat (first | with_reducible exact New.refl _ | with_reducible assumption | with_reducible refine New.alloc ?_ _ | with_reducible refine New.drewN ?_ _ | with_reducible refine New.drew ?_ | with_reducible refine New.setCell ?_ (by first | omega | (simp; done) | (simp; omega)) _ | with_reducible refine New.tail (by assumption) ?_))).mono ?_
    rintro _ w2 ⟨C, c, rfl, hF, hn2⟩
    go_wp2_with fail
    refine (H2 _ (by repeat (first | with_reducible exact New.refl _ | with_reducible assumption | with_reducible refine New.alloc ?_ _ | with_reducible refine New.drewN ?_ _ | with_reducible refine New.drew ?_ | with_reducible refine New.setCell ?_ (by first | omega | (simp; done) | (simp; omega)) _ | with_reducible refine New.tail (by assumption) ?_))).mono ?_
    rintro _ w3 ⟨C', c', rfl, hG, hn3⟩
    go_wp2_with fail
    refine (sameInts_same C C' c c' [] _ (hF.reads.keep hn3) hG.reads (by simp)).mono ?_
    rintro _ w4 ⟨rfl, hn4⟩
    have hk3 := (hn2.trans hn3).trans hn4
    clear hn2 hn3 hn4 hF hG
    go_wp2_with fail
    refine (H4 _ (by repeat (first | with_reducible exact New.refl _ | with_reducible assumption | with_reducible refine New.alloc ?_ _ | with_reducible refine New.drewN ?_ _ | with_reducible refine New.drew ?_ | with_reducible refine New.setCell ?_ (by first | omega | (simp; done) | (simp; omega)) _ | with_reducible refine New.tail (by assumption) ?_))).mono ?_
    rintro _ w5 ⟨rfl, hn5⟩
    go_wp2_with fail
    refine (H3 _ (by repeat (first | with_reducible exact New.refl _ | with_reducible assumption | with_reducible refine New.alloc ?_ _ | with_reducible refine New.drewN ?_ _ | with_reducible refine New.drew ?_ | with_reducible refine New.setCell ?_ (by first | omega | (simp; done) | (simp; omega)) _ | with_reducible refine New.tail (by assumption) ?_))).mono ?_
    rintro _ w6 ⟨rfl, hn6⟩
    go_wp2_with fail
    go_ret
    exact ⟨rfl, hk.trans (by repeat (first | with_reducible exact New.refl _ | with_reducible assumption | with_reducible refine New.alloc ?_ _ | with_reducible refine New.drewN ?_ _ | with_reducible refine New.drew ?_ | with_reducible refine New.setCell ?_ (by first | omega | (simp; done) | (simp; omega)) _ | with_reducible refine New.tail (by assumption) ?_))⟩
  · rw [ok] at H4
    obtain ⟨i0, hi, hz, hs, hby⟩ := info_parts infoLeg
    have F1 := Lib.hid (tl_fact ok)
    have F3 := Lib.hid (pr_pick ok)
    have F4 := Lib.hid (lm_pick ok)
    have F6 := Lib.hid (tl_pick_all ok)
    obtain ⟨T, hT⟩ : ∃ T, tlL st L = T := ⟨_, rfl⟩
    obtain ⟨P, hP⟩ : ∃ P, prL st L = P := ⟨_, rfl⟩
    have F5 := Lib.hid (tl_asc_of hT)
    rw [hT] at H1 H2 F1 F3 F4 F6 hTl
    rw [hP] at H5 F3 hPl
    clear hT hP ok H3
    go_wp2_with fail
    refine (H1 _ (by repeat (first | with_reducible exact New.refl _ | with_reducible assumption | with_reducible refine New.alloc ?_ _ | with_reducible refine New.drewN ?_ _ | with_reducible refine New.drew ?_ | with_reducible refine New.setCell ?_ (by first | omega | (simp; done) | (simp; omega)) _ | with_reducible refine New.tail (by assumption) ?_))).mono ?_
    rintro _ w2 ⟨C, c, rfl, hF, hn2⟩
    go_wp2_with fail
    refine (H2 _ (by repeat (first | with_reducible exact New.refl _ | with_reducible assumption | with_reducible refine New.alloc ?_ _ | with_reducible refine New.drewN ?_ _ | with_reducible refine New.drew ?_ | with_reducible refine New.setCell ?_ (by first | omega | (simp; done) | (simp; omega)) _ | with_reducible refine New.tail (by assumption) ?_))).mono ?_
    rintro _ w3 ⟨C', c', rfl, hG, hn3⟩
    go_wp2_with fail
    refine (sameInts_same C C' c c' T _ (hF.reads.keep hn3) hG.reads (by omega)).mono ?_
    rintro _ w4 ⟨rfl, hn4⟩
    have hk3 := (hn2.trans hn3).trans hn4
    have hI3 := hF.reads.keep (hn3.trans hn4)
    clear hn2 hn3 hn4 hF hG H1 H2
    go_wp2_with fail
    refine (H4 _ (by repeat (first | with_reducible exact New.refl _ | with_reducible assumption | with_reducible refine New.alloc ?_ _ | with_reducible refine New.drewN ?_ _ | with_reducible refine New.drew ?_ | with_reducible refine New.setCell ?_ (by first | omega | (simp; done) | (simp; omega)) _ | with_reducible refine New.tail (by assumption) ?_))).mono ?_
    rintro _ w5 ⟨rfl, hn5⟩
    have hk5 : New W1 w5 := hk3.trans hn5
    have hI := hI3.keep hn5
    have hL5 := hL3.keep hk5
    have c5 := fun w' (hn : New w5 w') => c3 w' (hk5.trans hn)
    clear hk3 hn5 hI3 H4 c3 hL3 h3
    go_wp2_with fail
    go_loopw [5, 6] (fun v i wr => ∃ k : Nat, k ≤ T.length ∧ i = .int .i64 k ∧ New w5 wr ∧ wr.ownsRow w5.heap.size 34 5 v k (lgC (pickL L (T.take k)))) (fun _ i _ => T.length - (intOf i).toNat)
    case atStart => exact ⟨0, Nat.zero_le _, rfl, (by repeat (first | with_reducible exact New.refl _ | with_reducible assumption | with_reducible refine New.alloc ?_ _ | with_reducible refine New.drewN ?_ _ | with_reducible refine New.drew ?_ | with_reducible refine New.setCell ?_ (by first | omega | (simp; done) | (simp; omega)) _ | with_reducible refine New.tail (by assumption) ?_)), World.ownsRow_made w5 #[] 0 (Nat.le_refl _) (by simp) rfl⟩
    case round =>
      obtain ⟨k, hk', rfl, hw, hown⟩ := hrel
      by_cases hlt : k < T.length
      · obtain ⟨i, e1, e2⟩ := F1.out k hlt
        obtain ⟨b, off, f, t, e, n', u, hA, hg, hcl⟩ := hL5.at_ e2
        obtain ⟨b2, off2, x1, hA2, hx1, hc2⟩ := hI.at_ hlt
        rw [List.getElem?_eq_getElem hlt, hx1] at e1
        obtain rfl := Option.some.inj e1
        have hpk : pickL L (T.take (k + 1)) = pickL L (T.take k) ++ [⟨f, t, e, n', u⟩] := pickL_ok (i := i) (by rw [List.getElem?_eq_getElem hlt, hx1]) (by rw [List.getElem?_eq_getElem e2, hg])
        have HPK := Lib.hid hpk
        subst hA hA2
        have q1 : (0 : Int) ≤ (k : Int) := by omega
        have q2 : (k : Int) < (T.length : Int) := by omega
        have q3 : (0 : Int) ≤ (i : Int) := by omega
        have q4 : (i : Int) < (L.length : Int) := by omega
        have hsz := hw.size
        clear hg hx1 hpk hI hL5 H5
        go_wp2_with fail
        go_region_held3 (fun w' => New w5 w') ((repeat (first | with_reducible exact New.refl _ | with_reducible assumption | with_reducible refine New.alloc ?_ _ | with_reducible refine New.drewN ?_ _ | with_reducible refine New.drew ?_ | with_reducible refine New.setCell ?_ (by first | omega | (simp; done) | (simp; omega)) _ | with_reducible refine New.tail (by assumption) ?_))) (first | (refine step_own (by rfl) _ _ 23 (by rfl) w5.heap.size 34 i0 (.agg #[.int .i64 0, .int .i64 0, .int .i64 0, .int .i64 0, .int .i64 0]) 5 40 Tryd.underlying23 hi hz hs hby rfl (by decide) _ k _ (by rfl) (own_new hown (by repeat (first | with_reducible exact New.refl _ | with_reducible assumption | with_reducible refine New.alloc ?_ _ | with_reducible refine New.drewN ?_ _ | with_reducible refine New.drew ?_ | with_reducible refine New.setCell ?_ (by first | omega | (simp; done) | (simp; omega)) _ | with_reducible refine New.tail (by assumption) ?_))) ⟨wr.heap.size, 0, none⟩ 1 1 [.int .i64 f, .int .i64 t, .int .i64 e, .int .i64 n', .int .i64 u] (by rfl) (by rfl) (five_news _ _ _ _ _ _ _) (by intro u hu; simp at hu; rcases hu with rfl | rfl | rfl | rfl | rfl <;> rfl) (by unfold maxLen; omega) (by omega) (by simp; omega) ?_; intro v' wE hown' hgrow _; have hnE : New w5 wE := New.grown (show New w5 ((wr.drew).alloc (.cells #[.int .i64 f, .int .i64 t, .int .i64 e, .int .i64 n', .int .i64 u] 34)) from (by repeat (first | with_reducible exact New.refl _ | with_reducible assumption | with_reducible refine New.alloc ?_ _ | with_reducible refine New.drewN ?_ _ | with_reducible refine New.drew ?_ | with_reducible refine New.setCell ?_ (by first | omega | (simp; done) | (simp; omega)) _ | with_reducible refine New.tail (by assumption) ?_))) hgrow (fun j hj => (hown.lt j hj).1)))
        go_wp2_with fail
        go_roundw
        case rel => exact ⟨k + 1, by omega, by go_num, (by repeat (first | with_reducible exact New.refl _ | with_reducible assumption | with_reducible refine New.alloc ?_ _ | with_reducible refine New.drewN ?_ _ | with_reducible refine New.drew ?_ | with_reducible refine New.setCell ?_ (by first | omega | (simp; done) | (simp; omega)) _ | with_reducible refine New.tail (by assumption) ?_)), by rw [HPK.out, lgC_snoc]; exact hown'⟩
        case measure => simp [intOf]; omega
      · obtain rfl : k = T.length := by omega
        rw [List.take_length] at hown
        have F7 := F6.out
        obtain ⟨M, hM⟩ : ∃ M, pickL L T = M := ⟨_, rfl⟩
        rw [hM] at hown F3 F4 F7
        obtain ⟨hMl, hMv⟩ := F7
        rw [← hMl] at hown
        obtain ⟨D, d, rfl, hd, hLM, -⟩ := legs_own hown
        have hkr := hk5.trans hw
        have hIr := hI.keep hw
        have hLr := hL5.keep hw
        have HML := Lib.hid hMl
        clear hown hI hL5 hlt hk' hM hMl
        go_upto_region 15 with fail
        have h7 := Has.new wr #[.int .i64 st, .slice D M.length d] 25
        have hn7 : New wr (wr.alloc (.cells #[.int .i64 st, .slice D M.length d] 25)) := (New.refl wr).alloc _
        have hLX := hLM.keep hn7
        have hLY := hLr.keep hn7
        have hIY := hIr.keep hn7
        have c7 := fun w' (hn : New (wr.alloc (.cells #[.int .i64 st, .slice D M.length d] 25)) w') => c5 w' (hw.trans (hn7.trans hn))
        have hkX := hkr.trans hn7
        generalize (wr.alloc (.cells #[.int .i64 st, .slice D M.length d] 25)) = WX at *
        have c8 := h7.cells2
        have HA : ∀ w', New WX w' → Calls Tryd.prog 20 #[.agg #[.int .i64 st, .slice D M.length d]] w' fun r w'' => ∃ C c, r = .returned (.slice C P.length c) ∧ FInts w' w'' C P ∧ New w' w'' := fun w' hn => by
          have := implParts_any st D d M w' (hLX.keep hn) (by have := HML.out; omega)
          rwa [F3.out] at this
        have HB : ∀ w', New WX w' → Calls Tryd.prog 20 #[.agg #[.int .i64 st, .slice B L.length cp]] w' fun r w'' => ∃ C c, r = .returned (.slice C P.length c) ∧ FInts w' w'' C P ∧ New w' w'' := fun w' hn => H5 w' (hkX.trans hn)
        have HC : ∀ w', New WX w' → Calls Tryd.prog 30 #[.agg #[.int .i64 st, .slice D M.length d]] w' fun r w'' => r = .returned (.int .i64 0) ∧ New w' w'' := fun w' hn => by
          have := implLoopsMany_any st D d M w' (hLX.keep hn) (by have := HML.out; omega)
          rwa [F4.out] at this
        clear H5 c5 hw hLM hLX hLY hLr hIr hkr h7 hn7
        go_region_held3 (fun w' => New WX w') ((repeat (first | with_reducible exact New.refl _ | with_reducible assumption | with_reducible refine New.alloc ?_ _ | with_reducible refine New.drewN ?_ _ | with_reducible refine New.drew ?_ | with_reducible refine New.setCell ?_ (by first | omega | (simp; done) | (simp; omega)) _ | with_reducible refine New.tail (by assumption) ?_))) (first | (go_at_call 20; with_reducible refine (HA _ (by repeat (first | with_reducible exact New.refl _ | with_reducible assumption | with_reducible refine New.alloc ?_ _ | with_reducible refine New.drewN ?_ _ | with_reducible refine New.drew ?_ | with_reducible refine New.setCell ?_ (by first | omega | (simp; done) | (simp; omega)) _ | with_reducible refine New.tail (by assumption) ?_))).mono ?_; rintro _ w6 ⟨C1, c1, rfl, hF6, hn6⟩) | (go_at_call 20; with_reducible refine (HB _ (by repeat (first | with_reducible exact New.refl _ | with_reducible assumption | with_reducible refine New.alloc ?_ _ | with_reducible refine New.drewN ?_ _ | with_reducible refine New.drew ?_ | with_reducible refine New.setCell ?_ (by first | omega | (simp; done) | (simp; omega)) _ | with_reducible refine New.tail (by assumption) ?_))).mono ?_; rintro _ w7 ⟨C2, c2, rfl, hF7, hn7⟩) | (go_at_call 21; refine (sameInts_same C1 C2 c1 c2 P _ (hF6.reads.keep (by repeat (first | with_reducible exact New.refl _ | with_reducible assumption | with_reducible refine New.alloc ?_ _ | with_reducible refine New.drewN ?_ _ | with_reducible refine New.drew ?_ | with_reducible refine New.setCell ?_ (by first | omega | (simp; done) | (simp; omega)) _ | with_reducible refine New.tail (by assumption) ?_))) (hF7.reads.keep (by repeat (first | with_reducible exact New.refl _ | with_reducible assumption | with_reducible refine New.alloc ?_ _ | with_reducible refine New.drewN ?_ _ | with_reducible refine New.drew ?_ | with_reducible refine New.setCell ?_ (by first | omega | (simp; done) | (simp; omega)) _ | with_reducible refine New.tail (by assumption) ?_))) (by omega)).mono ?_; rintro _ w8 ⟨rfl, hn8⟩) | (go_at_call 30; refine (HC _ (by repeat (first | with_reducible exact New.refl _ | with_reducible assumption | with_reducible refine New.alloc ?_ _ | with_reducible refine New.drewN ?_ _ | with_reducible refine New.drew ?_ | with_reducible refine New.setCell ?_ (by first | omega | (simp; done) | (simp; omega)) _ | with_reducible refine New.tail (by assumption) ?_))).mono ?_; rintro _ w9 ⟨rfl, hn9⟩) | (go_at_call 35; refine (ascend_any _ _ T _ (hIY.keep (by repeat (first | with_reducible exact New.refl _ | with_reducible assumption | with_reducible refine New.alloc ?_ _ | with_reducible refine New.drewN ?_ _ | with_reducible refine New.drew ?_ | with_reducible refine New.setCell ?_ (by first | omega | (simp; done) | (simp; omega)) _ | with_reducible refine New.tail (by assumption) ?_))) (by omega) F5.out).mono ?_; rintro _ wA ⟨rfl, hnA⟩))
        go_wp2_with fail
        go_ret
        exact ⟨rfl, hk.trans (hkX.trans (by repeat (first | with_reducible exact New.refl _ | with_reducible assumption | with_reducible refine New.alloc ?_ _ | with_reducible refine New.drewN ?_ _ | with_reducible refine New.drew ?_ | with_reducible refine New.setCell ?_ (by first | omega | (simp; done) | (simp; omega)) _ | with_reducible refine New.tail (by assumption) ?_)))⟩

set_option maxRecDepth 100000 in
theorem fnTreeLegs_lifted (os : Os) (started : os.Started) (H : Type) (enc : TypeId × Value → H) :
    ReturnsInHanded {} Tryd.checked os 8 .any (fun w args => (Rows.fnTreeLegsSpec.pre enc Tryd.prog Tryd.f8 [] false w args ∧ laidMetH Tryd.prog laidL w) ∧ sizedMet enc Tryd.prog Tryd.f8 (OpenSpec.ofChange Rows.fnTreeLegsSpec) false w args)
      (Rows.fnTreeLegsSpec.post enc Tryd.prog Tryd.f8 false true false false) := by
  refine returnsInHanded_of_change_and (C := Tryd.checked) (X := fun w _ => laidMetH Tryd.prog laidL w) (fun _ _ _ hh h => h.of_heap hh) own started (by kernel_rfl) Tryd.func8
    (ChangeSpec.witness_shaped (enc := enc) (C := Tryd.checked) (os := os) (X := fun w _ => laidMetH Tryd.prog laidL w) false (World.doorLaid Tryd.prog 400 os) #[.slice none 0 0] 8 rfl (World.shaped_of_RefB (by kernel_rfl) (by kernel_rfl)) (by kernel_rfl) (by kernel_rfl) (by kernel_rfl) (laidL_met os _)) ?_
  intro W base args ds gs before hval0 hW _ _ hL _
  have hval : ∀ (j : Nat) t v, Tryd.f8.params[j]? = some t → args[j]? = some v → Value.okWide Tryd.prog W .any base t v := hval0
  have hW' := hW
  obtain ⟨p, q, hA0, hV, rfl, hfz, hnd⟩ := hW
  have hA : DataW.TrodAll enc Tryd.prog W 0 (fun _ => true) true Tryd.f8.params.toList args.toList ds p := hA0
  have hlt : ∀ x ∈ p ++ q, x.block < W.heap.size := fun x hx => hW'.lt x hx
  rw [Tryd.params8] at hA hval
  obtain ⟨v0, d0, rfl, rfl, h0⟩ := trodAll_one hA
  clear hA0 hval0
  have hL : laidMetH Tryd.prog laidL W := hL
  obtain ⟨A, n, cap, rfl, hB, hc, hn⟩ := open_bytes (hval 0 _ _ rfl rfl) h0
  refine (lawFnTreeLegs_walk A n cap W hB hc hn (tab_of_laid hL)).mono fun e W' ⟨he, hg⟩ => ?_
  subst he
  exact ⟨_, rfl, law_post laidOut hW' rfl ⟨rfl, rfl, rfl⟩ (by kernel_rfl) rfl Tryd.underlying4 hg⟩

theorem fnTreeLegs_over : Rows.fnTreeLegsRow.holds Tryd.pinned (OpenSpec.ofChange Rows.fnTreeLegsSpec) :=
  OpenClaim.holds_of_wide 8 Tryd.f8 rfl rfl rfl rfl rfl rfl rfl ⟨rfl, rfl, rfl, rfl, rfl⟩ rfl rfl rfl rfl rfl (by kernel_rfl) Tryd.func8 (by kernel_rfl)
    (of_decide_eq_true (by kernel_rfl)) (by unfold Func.isWrapper; first | (rw [if_pos (by decide +kernel)]; kernel_rfl) | (rw [if_neg (by decide +kernel)]; exact ⟨rfl, rfl⟩))
    (fun os started H enc _ => fnTreeLegs_lifted os started H enc)

/-- The given statement. -/
theorem fnTreeLegs_holds : Rows.FnTreeLegsCardSaid :=
  Claim7.holds_tied_plain_at .later [] [.data, .data, .data] true Rows.fnTreeLegsCard.stood.harness Rows.fnTreeLegsCard.stood.looks
    fnTreeLegs_over (fun _ h => by cases h) (by kernel_rfl) (fun _ h => by cases h) fnTreeLegs_row_tie rfl ⟨rfl, rfl⟩ (by kernel_rfl) rfl
    (fun f fn hf hfn => by
      obtain rfl : f = 8 := Option.some.inj ((show Tryd.prog.funcNamed "loop.example/cavesurvey/laws.FnTreeLegs" = some 8 by kernel_rfl).symm.trans hf) |>.symm
      obtain rfl : fn = Tryd.f8 := (Option.some.inj (Tryd.func8.symm.trans hfn)).symm
      exact ⟨by kernel_rfl, fun j t ht => by
        rw [Tryd.params8] at ht
        have hm : t ∈ Tryd.f8.params.toList := by rw [Tryd.params8]; simpa using Array.mem_of_getElem? ht
        have hall : (Tryd.f8.params.toList.all fun u => !Tryd.prog.wantsStandIn u) = true := by kernel_rfl
        exact (show Tryd.prog.wantsStandIn t = false by simpa using List.all_eq_true.1 hall t hm)⟩)
    (by kernel_rfl)

#print axioms fnTreeLegs_holds
end Go.Proofs.YtgcloaimolajjaaDoor
