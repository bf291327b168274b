/- FnTreePlace: whatever the code is, the law returns true and leaves it as it was. No condition. -/
import Derived.Test.YtgcloaimolajjaaDoorDrawR
import Derived.Test.YtgcloaimolajjaaDoorFnH
import Derived.Test.YtgcloaimolajjaaDoorFnP2
import Derived.Test.YtgcloaimolajjaaDoorEq
import Derived.Test.YtgcloaimolajjaaDoorWay
namespace Go.Proofs.YtgcloaimolajjaaDoor
open Go.ChangeShapes Go.WideShapes Go.ChangeAt Go.RowKit Go.Deep Go.Joins
set_option linter.all false
theorem tp_or (st : Int) (L : List Lg) (v : Int) : (tpB st L v = false ∧ ∀ F, tpF st L v F = 0) ∨ (tpB st L v = true ∧ svB st L = true ∧ 0 ≤ v ∧ v < st) := by
  cases h : tpOk st L v
  · exact .inl ⟨tpB_no h, fun F => tpF_no F h⟩
  · unfold tpOk at h
    rw [Bool.and_eq_true, ixB_t] at h
    obtain ⟨hv, h0, h1⟩ := h
    obtain ⟨n, rfl⟩ := svB_nat hv
    obtain ⟨S, -, -, hb, -⟩ := plc_wt hv (v := v) ⟨h0, h1⟩
    exact .inr ⟨hb, hv, h0, h1⟩
theorem tp_fact1 {st : Int} {L : List Lg} (h : svB st L = true) {T : List Int} (hT : tlL st L = T) : ∀ k (hk : k < T.length), ∃ i : Nat, T[k]? = some (i : Int) ∧ i < L.length ∧ miF st L i (stE L) Lg.e = 0 ∧ miF st L i (stN L) Lg.n = 0 ∧ miF st L i (stU L) Lg.u = 0 ∧ miOk st L i = true := fun k hk => by
  subst hT
  have hm := List.getElem_mem hk
  have := tl_mem hm
  obtain ⟨n, rfl⟩ := svB_nat h
  obtain ⟨i, hi⟩ := Int.eq_ofNat_of_zero_le this.1
  rw [hi] at hm this
  exact ⟨i, by rw [List.getElem?_eq_getElem hk, hi], by omega, mi_tree h (smE h) hm, mi_tree h (smN h) hm, mi_tree h (smU h) hm, mi_ok h (by omega)⟩
theorem tp_fact2 {st : Int} {L : List Lg} (h : svB st L = true) {P : List Int} (hP : prL st L = P) {v : Int} (h0 : 0 ≤ v) (h1 : v < st) : ∃ (j : Nat) (r : Int), v = (j : Int) ∧ j < P.length ∧ P[j]? = some r ∧ (r = v → tpF st L v (stE L) = 0 ∧ tpF st L v (stN L) = 0 ∧ tpF st L v (stU L) = 0) := by
  subst hP
  have hl := pr_len h
  have hr := pr_at h h0 h1
  refine ⟨v.toNat, _, by omega, by omega, hr, fun e => ?_⟩
  obtain ⟨n, rfl⟩ := svB_nat h
  rw [prL_ok h] at e
  exact ⟨plc_least h ⟨h0, h1⟩ (smE h) e, plc_least h ⟨h0, h1⟩ (smN h) e, plc_least h ⟨h0, h1⟩ (smU h) e⟩
set_option maxHeartbeats 4000000 in
set_option maxRecDepth 100000 in
theorem lawFnTreePlace_walk (A : Option Addr) (n cap : Nat) (w : World) (hB : Bytes w A n) (hc : n ≤ cap) (hn : n ≤ maxLen) (ht : Tab w) :
    Calls Tryd.prog 10 #[.slice A n cap] w fun r w' => r = .returned (.bool true) ∧ New w w' := by
  by_cases hbig : (1048576 : Int) < (n : Int)
  · go_enter Tryd.func10, Tryd.ntmps10
    go_wp2_with fail
    go_ret
    exact ⟨rfl, New.refl _⟩
  have HT := Lib.hid ht
  clear ht
  go_enter Tryd.func10, Tryd.ntmps10
  go_wp2_with fail
  refine (drawTreePlace_any A n cap _ hB hc hn).mono ?_
  rintro _ w1 ⟨st, B, L, cp, v, rfl, ⟨hcp, s0, s1, hlen, hsm⟩, hL, hn1⟩
  clear hsm hB hc hn
  go_upto_region 4 with fail
  have h3 := Has.new w1 #[.int .i64 st, .slice B L.length cp] 25
  have hk : New w (w1.alloc (.cells #[.int .i64 st, .slice B L.length cp] 25)) := (by repeat (first | with_reducible exact New.refl _ | with_reducible assumption | with_reducible refine New.alloc ?_ _ | with_reducible refine New.drewN ?_ _ | with_reducible refine New.drew ?_ | with_reducible refine New.setCell ?_ (by first | omega | (simp; done) | (simp; omega)) _ | with_reducible refine New.tail (by assumption) ?_))
  have hL3 := hL.keep ((New.refl w1).alloc (.cells #[.int .i64 st, .slice B L.length cp] 25))
  generalize (w1.alloc (.cells #[.int .i64 st, .slice B L.length cp] 25)) = W1 at *
  have c3 := h3.cells2
  clear hL hn1
  have H3 : ∀ w', New W1 w' → Calls Tryd.prog 18 #[] w' fun r w'' => r = .returned (.bool true) ∧ New w' w'' := fun w' hn => alive_any w' (HT.out.keep (hk.trans hn))
  have H1 : ∀ w', New W1 w' → Calls Tryd.prog 44 #[.agg #[.int .i64 st, .slice B L.length cp], .int .i64 v] w' fun r w'' => r = .returned (.tuple #[.agg #[.int .i64 (tpF st L v (stE L)), .int .i64 (tpF st L v (stN L)), .int .i64 (tpF st L v (stU L))], .bool (tpB st L v)]) ∧ New w' w'' := fun w' hn => implTreePlace_any st v B cp L w' (hL3.keep hn) (by omega)
  have H2 : ∀ w', New W1 w' → Calls Tryd.prog 45 #[.agg #[.int .i64 st, .slice B L.length cp], .int .i64 v] w' fun r w'' => r = .returned (.tuple #[.agg #[.int .i64 (tpF st L v (stE L)), .int .i64 (tpF st L v (stN L)), .int .i64 (tpF st L v (stU L))], .bool (tpB st L v)]) ∧ New w' w'' := fun w' hn => specTreePlace_any st v B cp L w' (hL3.keep hn) (by omega)
  have H5 : ∀ w', New W1 w' → Calls Tryd.prog 32 #[.agg #[.int .i64 st, .slice B L.length cp]] w' fun r w'' => ∃ C c, r = .returned (.slice C (tlL st L).length c) ∧ FInts w' w'' C (tlL st L) ∧ New w' w'' := fun w' hn => implTreeLegs_any st B cp L w' (hL3.keep hn) (by omega)
  have H6 : ∀ w', New W1 w' → Calls Tryd.prog 20 #[.agg #[.int .i64 st, .slice B L.length cp]] w' fun r w'' => ∃ C c, r = .returned (.slice C (prL st L).length c) ∧ FInts w' w'' C (prL st L) ∧ New w' w'' := fun w' hn => implParts_any st B cp L w' (hL3.keep hn) (by omega)
  have HM : ∀ w' (i : Int), New W1 w' → Calls Tryd.prog 46 #[.agg #[.int .i64 st, .slice B L.length cp], .int .i64 i] w' fun r w'' => r = .returned (.tuple #[.agg #[.int .i64 (miF st L i (stE L) Lg.e), .int .i64 (miF st L i (stN L) Lg.n), .int .i64 (miF st L i (stU L) Lg.u)], .bool (miOk st L i)]) ∧ New w' w'' := fun w' i hn => implMisclosure_any st i B cp L w' (hL3.keep hn) (by omega)
  have hTl := tlL_le st L
  have hPl := prL_le st L
  have hor := tp_or st L v
  have q1 := way_neq
  have q2 := way_eql
  have hfix : ∃ (x1 x2 x3 : Int) (ok : Bool), tpF st L v (stE L) = x1 ∧ tpF st L v (stN L) = x2 ∧ tpF st L v (stU L) = x3 ∧ tpB st L v = ok := ⟨_, _, _, _, rfl, rfl, rfl, rfl⟩
  obtain ⟨x1, x2, x3, ok, e1, e2, e3, e4⟩ := hfix
  rw [e1, e2, e3, e4] at H1 H2
  have HE := Lib.hid (And.intro e1 (And.intro e2 e3))
  have HO : Hid ((ok = false ∧ x1 = 0 ∧ x2 = 0 ∧ x3 = 0) ∨ (ok = true ∧ svB st L = true ∧ 0 ≤ v ∧ v < st)) := by
    rcases hor with ⟨h1, h2⟩ | h
    · exact .inl ⟨e4.symm.trans h1, e1.symm.trans (h2 _), e2.symm.trans (h2 _), e3.symm.trans (h2 _)⟩
    · exact .inr ⟨e4.symm.trans h.1, h.2⟩
  clear hor e1 e2 e3 e4 h3
  go_wp2_with fail
  refine (H1 _ (by repeat (first | with_reducible exact New.refl _ | with_reducible assumption | with_reducible refine New.alloc ?_ _ | with_reducible refine New.drewN ?_ _ | with_reducible refine New.drew ?_ | with_reducible refine New.setCell ?_ (by first | omega | (simp; done) | (simp; omega)) _ | with_reducible refine New.tail (by assumption) ?_))).mono ?_
  rintro _ w2 ⟨rfl, hn2⟩
  go_upto_region 5 with fail
  have h5 := Has.new w2 #[.int .i64 x1, .int .i64 x2, .int .i64 x3] 53
  have hn5 : New W1 (w2.alloc (.cells #[.int .i64 x1, .int .i64 x2, .int .i64 x3] 53)) := hn2.alloc _
  generalize (w2.alloc (.cells #[.int .i64 x1, .int .i64 x2, .int .i64 x3] 53)) = W5 at *
  have c5 := h5.cells3
  clear hn2 h5
  go_wp2_with fail
  refine (H2 _ (by repeat (first | with_reducible exact New.refl _ | with_reducible assumption | with_reducible refine New.alloc ?_ _ | with_reducible refine New.drewN ?_ _ | with_reducible refine New.drew ?_ | with_reducible refine New.setCell ?_ (by first | omega | (simp; done) | (simp; omega)) _ | with_reducible refine New.tail (by assumption) ?_))).mono ?_
  rintro _ w6 ⟨rfl, hn6⟩
  go_upto_region 6 with fail
  have h7 := Has.new w6 #[.int .i64 x1, .int .i64 x2, .int .i64 x3] 53
  have hn7 : New W5 (w6.alloc (.cells #[.int .i64 x1, .int .i64 x2, .int .i64 x3] 53)) := hn6.alloc _
  generalize (w6.alloc (.cells #[.int .i64 x1, .int .i64 x2, .int .i64 x3] 53)) = W7 at *
  have c7 := h7.cells3
  have d5 := fun w' (hn : New W7 w') => c5 w' (hn7.trans hn)
  have hn8 : New W1 W7 := hn5.trans hn7
  have d3 := fun w' (hn : New W7 w') => c3 w' (hn8.trans hn)
  have hkk := hk.trans hn8
  clear hn6 h7 c5 c3 hn5 hn7 H1 H2
  rcases HO.out with ⟨rfl, rfl, rfl, rfl⟩ | ⟨rfl, hv, v0, v1⟩
  · have H9 := H3 W7 hn8
    clear HM H5 H6 HE HO hL3
    go_wp2_with fail
    refine H9.mono ?_
    rintro _ w9 ⟨rfl, hn9⟩
    go_wp2_with fail
    go_ret
    exact ⟨rfl, hkk.trans (by repeat (first | with_reducible exact New.refl _ | with_reducible assumption | with_reducible refine New.alloc ?_ _ | with_reducible refine New.drewN ?_ _ | with_reducible refine New.drew ?_ | with_reducible refine New.setCell ?_ (by first | omega | (simp; done) | (simp; omega)) _ | with_reducible refine New.tail (by assumption) ?_))⟩
  · obtain ⟨T, hT⟩ : ∃ T, tlL st L = T := ⟨_, rfl⟩
    obtain ⟨P, hP⟩ : ∃ P, prL st L = P := ⟨_, rfl⟩
    have F1 := Lib.hid (tp_fact1 hv hT)
    obtain ⟨j, r, rfl, hj, hr, hz⟩ := tp_fact2 hv hP v0 v1
    have hPs := pr_len hv
    rw [hT] at H5 hTl
    rw [hP] at H6 hPl hPs
    rw [HE.out.1, HE.out.2.1, HE.out.2.2] at hz
    have HR := Lib.hid hr
    have HZ := Lib.hid hz
    subst hPs
    clear hT hP hv v0 v1 H3 HE HO hr hz
    go_wp2_with fail
    refine (H5 _ (by repeat (first | with_reducible exact New.refl _ | with_reducible assumption | with_reducible refine New.alloc ?_ _ | with_reducible refine New.drewN ?_ _ | with_reducible refine New.drew ?_ | with_reducible refine New.setCell ?_ (by first | omega | (simp; done) | (simp; omega)) _ | with_reducible refine New.tail (by assumption) ?_))).mono ?_
    rintro _ w8 ⟨C, c, rfl, hF, hn9⟩
    have hI := hF.reads
    have hn10 : New W1 w8 := hn8.trans hn9
    have g3 := fun w' (hn : New w8 w') => d3 w' (hn9.trans hn)
    have g5 := fun w' (hn : New w8 w') => d5 w' (hn9.trans hn)
    have hk8 := hkk.trans hn9
    clear hF d3 d5 hn9 hn8 H5 c7 hkk hL3
    go_wp2_with fail
    go_loopw [10] (fun i wr => ∃ k : Nat, k ≤ T.length ∧ i = .int .i64 k ∧ New w8 wr) (fun i _ => T.length - (intOf i).toNat)
    case atStart => exact ⟨0, Nat.zero_le _, rfl, New.refl _⟩
    case round =>
      obtain ⟨k, hk', rfl, hw⟩ := hrel
      by_cases hlt : k < T.length
      · obtain ⟨i, e1, e2, e3, e4, e5, e6⟩ := F1.out k hlt
        obtain ⟨b2, off2, y1, hA2, hy1, hc2⟩ := hI.at_ hlt
        rw [List.getElem?_eq_getElem hlt, hy1] at e1
        obtain rfl := Option.some.inj e1
        subst hA2
        have HMi : ∀ w', New wr w' → Calls Tryd.prog 46 #[.agg #[.int .i64 (P.length : Int), .slice B L.length cp], .int .i64 (i : Int)] w' fun r w'' => r = .returned (.tuple #[.agg #[.int .i64 0, .int .i64 0, .int .i64 0], .bool true]) ∧ New w' w'' := fun w' hn => by
          have := HM w' i (hn10.trans (hw.trans hn))
          rwa [e3, e4, e5, e6] at this
        have q3 : (0 : Int) ≤ (k : Int) := by omega
        have q4 : (k : Int) < (T.length : Int) := by omega
        clear HM e3 e4 e5 e6 hy1 hI
        have hsz := hw.size
        go_upto_region 14 with fail
        go_cut [11, 12] (fun s11 s12 wx => ∃ g, s11 = .pointer (some ⟨g, 0, none⟩) ∧ s12 = .bool true ∧ Has wx g #[.int .i64 0, .int .i64 0, .int .i64 0] 53 ∧ New w8 wx)
        case first =>
          go_region_with (first | (go_at_call 46; refine (HMi _ (by repeat (first | with_reducible exact New.refl _ | with_reducible assumption | with_reducible refine New.alloc ?_ _ | with_reducible refine New.drewN ?_ _ | with_reducible refine New.drew ?_ | with_reducible refine New.setCell ?_ (by first | omega | (simp; done) | (simp; omega)) _ | with_reducible refine New.tail (by assumption) ?_))).mono ?_; rintro e w1 ⟨rfl, hn⟩; have hkC : New w8 w1 := New.tail hn (by repeat (first | with_reducible exact New.refl _ | with_reducible assumption | with_reducible refine New.alloc ?_ _ | with_reducible refine New.drewN ?_ _ | with_reducible refine New.drew ?_ | with_reducible refine New.setCell ?_ (by first | omega | (simp; done) | (simp; omega)) _ | with_reducible refine New.tail (by assumption) ?_)); (first | (have hh := Has.keep (Has.new _ _ _) hn; (first | have hq := Has.at5 hh | have hq := Has.at3 hh | have hq := Has.at2 hh | have hq := Has.at1 hh)) | (have hh := Has.keep (Has.new _ _ _).drew hn; (first | have hq := Has.at5 hh | have hq := Has.at3 hh | have hq := Has.at2 hh | have hq := Has.at1 hh)) | (have hh := Has.keep (by assumption) hn; (first | have hq := Has.at5 hh | have hq := Has.at3 hh | have hq := Has.at2 hh | have hq := Has.at1 hh)) | skip); have hz := hn.size; (try simp only [World.size_alloc, World.size_drew, World.size_setCell] at hz)))
          all_goals
            go_wp2_with fail
            go_meet
            exact ⟨_, rfl, rfl, (by repeat (first | with_reducible exact Has.new _ _ _ | with_reducible assumption | with_reducible refine Has.drew ?_ | with_reducible refine Has.drewN ?_ _ | with_reducible apply Has.set1 | with_reducible apply Has.set2 | with_reducible apply Has.set3 | with_reducible apply Has.set5 | with_reducible refine Has.keep ?_ (by assumption))), (by repeat (first | with_reducible exact New.refl _ | with_reducible assumption | with_reducible refine New.alloc ?_ _ | with_reducible refine New.drewN ?_ _ | with_reducible refine New.drew ?_ | with_reducible refine New.setCell ?_ (by first | omega | (simp; done) | (simp; omega)) _ | with_reducible refine New.tail (by assumption) ?_))⟩
        case rest =>
          obtain ⟨g, rfl, rfl, hg, hnX⟩ := hcut
          have cX := hg.at3
          go_wp2_with fail
          go_roundw
          case rel => exact ⟨k + 1, by omega, by go_num, (by repeat (first | with_reducible exact New.refl _ | with_reducible assumption | with_reducible refine New.alloc ?_ _ | with_reducible refine New.drewN ?_ _ | with_reducible refine New.drew ?_ | with_reducible refine New.setCell ?_ (by first | omega | (simp; done) | (simp; omega)) _ | with_reducible refine New.tail (by assumption) ?_))⟩
          case measure => simp [intOf]; omega
      · obtain rfl : k = T.length := by omega
        have f3 := fun w' (hn : New wr w') => g3 w' (hw.trans hn)
        have f5 := fun w' (hn : New wr w') => g5 w' (hw.trans hn)
        have H7 := H6 wr (hn10.trans hw)
        have hkr := hk8.trans hw
        clear H6 g3 g5 hI hlt hw HM F1
        go_wp2_with fail
        refine H7.mono ?_
        rintro _ w9 ⟨D, d, rfl, hG, hn9⟩
        obtain ⟨b3, off3, y, hA3, hy, hc3⟩ := hG.reads.at_ hj
        have hrr := HR.out
        rw [List.getElem?_eq_getElem hj, hy] at hrr
        obtain rfl := Option.some.inj hrr
        subst hA3
        have q3 : (0 : Int) ≤ (j : Int) := by omega
        have q4 : (j : Int) < (P.length : Int) := by omega
        have q5 : ((P.length : Int) == (P.length : Int)) = true := by simp
        clear hy HR hG
        by_cases hrj : y = (j : Int)
        · obtain ⟨rfl, rfl, rfl⟩ := HZ.out hrj
          subst hrj
          have q6 : ((j : Int) != (j : Int)) = false := by simp
          go_wp2_with fail
          go_ret
          exact ⟨rfl, hkr.trans (by repeat (first | with_reducible exact New.refl _ | with_reducible assumption | with_reducible refine New.alloc ?_ _ | with_reducible refine New.drewN ?_ _ | with_reducible refine New.drew ?_ | with_reducible refine New.setCell ?_ (by first | omega | (simp; done) | (simp; omega)) _ | with_reducible refine New.tail (by assumption) ?_))⟩
        · have q6 : (y != (j : Int)) = true := by simpa using hrj
          clear hrj HZ
          go_wp2_with fail
          go_ret
          exact ⟨rfl, hkr.trans (by repeat (first | with_reducible exact New.refl _ | with_reducible assumption | with_reducible refine New.alloc ?_ _ | with_reducible refine New.drewN ?_ _ | with_reducible refine New.drew ?_ | with_reducible refine New.setCell ?_ (by first | omega | (simp; done) | (simp; omega)) _ | with_reducible refine New.tail (by assumption) ?_))⟩

set_option maxRecDepth 100000 in
theorem fnTreePlace_lifted (os : Os) (started : os.Started) (H : Type) (enc : TypeId × Value → H) :
    ReturnsInHanded {} Tryd.checked os 10 .any (fun w args => (Rows.fnTreePlaceSpec.pre enc Tryd.prog Tryd.f10 [] false w args ∧ laidMetH Tryd.prog laidL w) ∧ sizedMet enc Tryd.prog Tryd.f10 (OpenSpec.ofChange Rows.fnTreePlaceSpec) false w args)
      (Rows.fnTreePlaceSpec.post enc Tryd.prog Tryd.f10 false true false false) := by
  refine returnsInHanded_of_change_and (C := Tryd.checked) (X := fun w _ => laidMetH Tryd.prog laidL w) (fun _ _ _ hh h => h.of_heap hh) own started (by kernel_rfl) Tryd.func10
    (ChangeSpec.witness_shaped (enc := enc) (C := Tryd.checked) (os := os) (X := fun w _ => laidMetH Tryd.prog laidL w) false (World.doorLaid Tryd.prog 400 os) #[.slice none 0 0] 8 rfl (World.shaped_of_RefB (by kernel_rfl) (by kernel_rfl)) (by kernel_rfl) (by kernel_rfl) (by kernel_rfl) (laidL_met os _)) ?_
  intro W base args ds gs before hval0 hW _ _ hL _
  have hval : ∀ (j : Nat) t v, Tryd.f10.params[j]? = some t → args[j]? = some v → Value.okWide Tryd.prog W .any base t v := hval0
  have hW' := hW
  obtain ⟨p, q, hA0, hV, rfl, hfz, hnd⟩ := hW
  have hA : DataW.TrodAll enc Tryd.prog W 0 (fun _ => true) true Tryd.f10.params.toList args.toList ds p := hA0
  have hlt : ∀ x ∈ p ++ q, x.block < W.heap.size := fun x hx => hW'.lt x hx
  rw [Tryd.params10] at hA hval
  obtain ⟨v0, d0, rfl, rfl, h0⟩ := trodAll_one hA
  clear hA0 hval0
  have hL : laidMetH Tryd.prog laidL W := hL
  obtain ⟨A, n, cap, rfl, hB, hc, hn⟩ := open_bytes (hval 0 _ _ rfl rfl) h0
  refine (lawFnTreePlace_walk A n cap W hB hc hn (tab_of_laid hL)).mono fun e W' ⟨he, hg⟩ => ?_
  subst he
  exact ⟨_, rfl, law_post laidOut hW' rfl ⟨rfl, rfl, rfl⟩ (by kernel_rfl) rfl Tryd.underlying4 hg⟩

theorem fnTreePlace_over : Rows.fnTreePlaceRow.holds Tryd.pinned (OpenSpec.ofChange Rows.fnTreePlaceSpec) :=
  OpenClaim.holds_of_wide 10 Tryd.f10 rfl rfl rfl rfl rfl rfl rfl ⟨rfl, rfl, rfl, rfl, rfl⟩ rfl rfl rfl rfl rfl (by kernel_rfl) Tryd.func10 (by kernel_rfl)
    (of_decide_eq_true (by kernel_rfl)) (by unfold Func.isWrapper; first | (rw [if_pos (by decide +kernel)]; kernel_rfl) | (rw [if_neg (by decide +kernel)]; exact ⟨rfl, rfl⟩))
    (fun os started H enc _ => fnTreePlace_lifted os started H enc)

/-- The given statement. -/
theorem fnTreePlace_holds : Rows.FnTreePlaceCardSaid :=
  Claim7.holds_tied_plain_at .later [] [.data, .data, .data] true Rows.fnTreePlaceCard.stood.harness Rows.fnTreePlaceCard.stood.looks
    fnTreePlace_over (fun _ h => by cases h) (by kernel_rfl) (fun _ h => by cases h) fnTreePlace_row_tie rfl ⟨rfl, rfl⟩ (by kernel_rfl) rfl
    (fun f fn hf hfn => by
      obtain rfl : f = 10 := Option.some.inj ((show Tryd.prog.funcNamed "loop.example/cavesurvey/laws.FnTreePlace" = some 10 by kernel_rfl).symm.trans hf) |>.symm
      obtain rfl : fn = Tryd.f10 := (Option.some.inj (Tryd.func10.symm.trans hfn)).symm
      exact ⟨by kernel_rfl, fun j t ht => by
        rw [Tryd.params10] at ht
        have hm : t ∈ Tryd.f10.params.toList := by rw [Tryd.params10]; simpa using Array.mem_of_getElem? ht
        have hall : (Tryd.f10.params.toList.all fun u => !Tryd.prog.wantsStandIn u) = true := by kernel_rfl
        exact (show Tryd.prog.wantsStandIn t = false by simpa using List.all_eq_true.1 hall t hm)⟩)
    (by kernel_rfl)

#print axioms fnTreePlace_holds
end Go.Proofs.YtgcloaimolajjaaDoor
