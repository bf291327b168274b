/- FnMisclosure: whatever the code is, the law returns true and leaves it as it was. No condition. -/
import Derived.Test.YtgcloaimolajjaaDoorDrawR
import Derived.Test.YtgcloaimolajjaaDoorFnH
import Derived.Test.YtgcloaimolajjaaDoorFnP3
import Derived.Test.YtgcloaimolajjaaDoorFnRow
import Derived.Test.YtgcloaimolajjaaDoorEq
import Derived.Test.YtgcloaimolajjaaDoorWay
namespace Go.Proofs.YtgcloaimolajjaaDoor
open Go.ChangeShapes Go.WideShapes Go.ChangeAt Go.RowKit Go.Deep Go.Joins
set_option linter.all false
theorem mi_or (st : Int) (L : List Lg) (v : Int) : (miOk st L v = false ∧ ∀ F G, miF st L v F G = 0) ∨ (miOk st L v = true ∧ svB st L = true ∧ 0 ≤ v ∧ v < L.length) := by
  cases h : miOk st L v
  · exact .inl ⟨rfl, fun F G => miF_no F G h⟩
  · unfold miOk at h
    rw [Bool.and_eq_true, ixB_t] at h
    exact .inr ⟨rfl, h.1, h.2.1, h.2.2⟩
theorem mi_fact {st : Int} {L : List Lg} {j : Nat} (hj : j < L.length) (hv : svB st L = true) (hm : (j : Int) ∉ tlL st L) (ht : miOk st (farL L j) j = true) :
    ad (miF st L j (stE L) Lg.e) 1 = miF st (farL L j) j (stE (farL L j)) Lg.e ∧ ad (miF st L j (stN L) Lg.n) 0 = miF st (farL L j) j (stN (farL L j)) Lg.n ∧ ad (miF st L j (stU L) Lg.u) 0 = miF st (farL L j) j (stU (farL L j)) Lg.u := by
  unfold miOk at ht
  rw [Bool.and_eq_true] at ht
  obtain ⟨n, rfl⟩ := svB_nat hv
  exact mi_far hj hv ht.1 hm
theorem mi_zero {st : Int} {L : List Lg} {j : Nat} (hv : svB st L = true) (hm : (j : Int) ∈ tlL st L) : miF st L j (stE L) Lg.e = 0 ∧ miF st L j (stN L) Lg.n = 0 ∧ miF st L j (stU L) Lg.u = 0 := by
  obtain ⟨n, rfl⟩ := svB_nat hv
  exact ⟨mi_tree hv (smE hv) hm, mi_tree hv (smN hv) hm, mi_tree hv (smU hv) hm⟩
set_option maxHeartbeats 4000000 in
set_option maxRecDepth 100000 in
theorem lawFnMisclosure_walk (A : Option Addr) (n cap : Nat) (w : World) (hB : Bytes w A n) (hc : n ≤ cap) (hn : n ≤ maxLen) (ht : Tab w) :
    Calls Tryd.prog 11 #[.slice A n cap] w fun r w' => r = .returned (.bool true) ∧ New w w' := by
  by_cases hbig : (1048576 : Int) < (n : Int)
  · go_enter Tryd.func11, Tryd.ntmps11
    go_wp2_with fail
    go_ret
    exact ⟨rfl, New.refl _⟩
  have HT := Lib.hid ht
  clear ht
  go_enter Tryd.func11, Tryd.ntmps11
  go_wp2_with fail
  refine (drawMisclosure_any A n cap _ hB hc hn).mono ?_
  rintro _ w1 ⟨st, B, L, cp, v, rfl, ⟨hcp, s0, s1, hlen, hsm⟩, hL, hn1⟩
  clear hsm hB hc hn
  go_upto_region 4 with fail
  have h3 := Has.new w1 #[.int .i64 st, .slice B L.length cp] 25
  have hk : New w (w1.alloc (.cells #[.int .i64 st, .slice B L.length cp] 25)) := (by repeat (first | with_reducible exact New.refl _ | with_reducible assumption | with_reducible refine New.alloc ?_ _ | with_reducible refine New.drewN ?_ _ | with_reducible refine New.drew ?_ | with_reducible refine New.setCell ?_ (by first | omega | (simp; done) | (simp; omega)) _ | with_reducible refine New.tail (by assumption) ?_))
  have hL3 := hL.keep ((New.refl w1).alloc (.cells #[.int .i64 st, .slice B L.length cp] 25))
  generalize (w1.alloc (.cells #[.int .i64 st, .slice B L.length cp] 25)) = W1 at *
  have c3 := h3.cells2
  clear hL hn1
  have H3 : ∀ w', New W1 w' → Calls Tryd.prog 18 #[] w' fun r w'' => r = .returned (.bool true) ∧ New w' w'' := fun w' hn => alive_any w' (HT.out.keep (hk.trans hn))
  have H1 : ∀ w', New W1 w' → Calls Tryd.prog 46 #[.agg #[.int .i64 st, .slice B L.length cp], .int .i64 v] w' fun r w'' => r = .returned (.tuple #[.agg #[.int .i64 (miF st L v (stE L) Lg.e), .int .i64 (miF st L v (stN L) Lg.n), .int .i64 (miF st L v (stU L) Lg.u)], .bool (miOk st L v)]) ∧ New w' w'' := fun w' hn => implMisclosure_any st v B cp L w' (hL3.keep hn) (by omega)
  have H2 : ∀ w', New W1 w' → Calls Tryd.prog 48 #[.agg #[.int .i64 st, .slice B L.length cp], .int .i64 v] w' fun r w'' => r = .returned (.tuple #[.agg #[.int .i64 (miF st L v (stE L) Lg.e), .int .i64 (miF st L v (stN L) Lg.n), .int .i64 (miF st L v (stU L) Lg.u)], .bool (miOk st L v)]) ∧ New w' w'' := fun w' hn => specMisclosure_any st v B cp L w' (hL3.keep hn) (by omega)
  have H5 : ∀ w', New W1 w' → Calls Tryd.prog 32 #[.agg #[.int .i64 st, .slice B L.length cp]] w' fun r w'' => ∃ C c, r = .returned (.slice C (tlL st L).length c) ∧ FInts w' w'' C (tlL st L) ∧ New w' w'' := fun w' hn => implTreeLegs_any st B cp L w' (hL3.keep hn) (by omega)
  have hTl := tlL_le st L
  have hor := mi_or st L v
  have q1 := way_neq
  have q2 := way_eql
  have hfix : ∃ (x1 x2 x3 : Int) (ok : Bool), miF st L v (stE L) Lg.e = x1 ∧ miF st L v (stN L) Lg.n = x2 ∧ miF st L v (stU L) Lg.u = x3 ∧ miOk st L v = ok := ⟨_, _, _, _, rfl, rfl, rfl, rfl⟩
  obtain ⟨x1, x2, x3, ok, e1, e2, e3, e4⟩ := hfix
  rw [e1, e2, e3, e4] at H1 H2
  have HE := Lib.hid (And.intro e1 (And.intro e2 e3))
  have HO : Hid ((ok = false ∧ x1 = 0 ∧ x2 = 0 ∧ x3 = 0) ∨ (ok = true ∧ svB st L = true ∧ 0 ≤ v ∧ v < L.length)) := by
    rcases hor with ⟨h1, h2⟩ | h
    · exact .inl ⟨e4.symm.trans h1, e1.symm.trans (h2 _ _), e2.symm.trans (h2 _ _), e3.symm.trans (h2 _ _)⟩
    · exact .inr ⟨e4.symm.trans h.1, h.2⟩
  clear hor e1 e2 e3 e4 h3
  go_wp2_with fail
  refine (H1 _ (by repeat (first | with_reducible exact New.refl _ | with_reducible assumption | with_reducible refine New.alloc ?_ _ | with_reducible refine New.drewN ?_ _ | with_reducible refine New.drew ?_ | with_reducible refine New.setCell ?_ (by first | omega | (simp; done) | (simp; omega)) _ | with_reducible refine New.tail (by assumption) ?_))).mono ?_
  rintro _ w2 ⟨rfl, hn2⟩
  go_upto_region 5 with fail
  have h5 := Has.new w2 #[.int .i64 x1, .int .i64 x2, .int .i64 x3] 53
  have hn5 : New W1 (w2.alloc (.cells #[.int .i64 x1, .int .i64 x2, .int .i64 x3] 53)) := hn2.alloc _
  generalize (w2.alloc (.cells #[.int .i64 x1, .int .i64 x2, .int .i64 x3] 53)) = W5 at *
  have c5 := h5.cells3
  clear hn2 h5
  go_wp2_with fail
  refine (H2 _ (by repeat (first | with_reducible exact New.refl _ | with_reducible assumption | with_reducible refine New.alloc ?_ _ | with_reducible refine New.drewN ?_ _ | with_reducible refine New.drew ?_ | with_reducible refine New.setCell ?_ (by first | omega | (simp; done) | (simp; omega)) _ | with_reducible refine New.tail (by assumption) ?_))).mono ?_
  rintro _ w6 ⟨rfl, hn6⟩
  go_upto_region 6 with fail
  have h7 := Has.new w6 #[.int .i64 x1, .int .i64 x2, .int .i64 x3] 53
  have hn7 : New W5 (w6.alloc (.cells #[.int .i64 x1, .int .i64 x2, .int .i64 x3] 53)) := hn6.alloc _
  generalize (w6.alloc (.cells #[.int .i64 x1, .int .i64 x2, .int .i64 x3] 53)) = W7 at *
  have c7 := h7.cells3
  have d5 := fun w' (hn : New W7 w') => c5 w' (hn7.trans hn)
  have hn8 : New W1 W7 := hn5.trans hn7
  have d3 := fun w' (hn : New W7 w') => c3 w' (hn8.trans hn)
  have hkk := hk.trans hn8
  clear hn6 h7 c5 c3 hn5 hn7 H1 H2
  rcases HO.out with ⟨rfl, rfl, rfl, rfl⟩ | ⟨rfl, hv, v0, v1⟩
  · have H9 := H3 W7 hn8
    clear H5 HE HO hL3
    go_wp2_with fail
    refine H9.mono ?_
    rintro _ w9 ⟨rfl, hn9⟩
    go_wp2_with fail
    go_ret
    exact ⟨rfl, hkk.trans (by repeat (first | with_reducible exact New.refl _ | with_reducible assumption | with_reducible refine New.alloc ?_ _ | with_reducible refine New.drewN ?_ _ | with_reducible refine New.drew ?_ | with_reducible refine New.setCell ?_ (by first | omega | (simp; done) | (simp; omega)) _ | with_reducible refine New.tail (by assumption) ?_))⟩
  · obtain ⟨i0, hi, hz, hs, hby⟩ := info_parts infoLeg
    obtain ⟨j, rfl⟩ := Int.eq_ofNat_of_zero_le v0
    have hj : j < L.length := by omega
    have hj0 := hj
    obtain ⟨b, off, rfl, -⟩ := hL3 (by rintro rfl; simp at hj)
    have hLc := hL3.keep hn8
    have hlg := lgC_len L
    obtain ⟨m, hm⟩ : ∃ m, L.length = m := ⟨_, rfl⟩
    have HV := Lib.hid hv
    have H5' := H5
    rw [hm] at hlg hj hlen hcp d3 ⊢
    have HMM := Lib.hid hm
    have hsv1 := (svB_true hv).1
    have hsv2 := (svB_true hv).2.1
    clear H3 HO hv v0 v1 H5'
    go_upto_region 10 with fail
    clear c7
    have hm1 : (W7.drew.alloc (.cells #[] 34)).ownsRow W7.heap.size 34 5 (.slice (some ⟨W7.heap.size, 0, none⟩) 0 0) 0 [] := World.ownsRow_made W7.drew #[] 0 (Nat.le_refl _) (by simp) rfl
    have hm2 : ((W7.drew.alloc (.cells #[.int .i64 0, .slice none 0 0] 25)).alloc (.cells #[] 34)).ownsRow W7.heap.size 34 5 (.slice (some ⟨W7.heap.size + 1, 0, none⟩) 0 0) 0 [] := by
      have := World.ownsRow_made (w := (W7.drew.alloc (.cells #[.int .i64 0, .slice none 0 0] 25))) (base := W7.heap.size) (e := 34) (size := 5) #[] 0 (by simp) (by simp) rfl
      simpa using this
    have hN0 : New W7 W7.drew := (New.refl W7).drew
    have hNX1 : New W7 (W7.drew.alloc (.cells #[] 34)) := hN0.alloc _
    have hNX2 : New W7 ((W7.drew.alloc (.cells #[] 34)).alloc (.cells #[.int .i64 0, .slice none 0 0] 25)) := (hN0.alloc _).alloc _
    have hNX3 : New W7 ((W7.drew.alloc (.cells #[.int .i64 0, .slice none 0 0] 25)).alloc (.cells #[] 34)) := (hN0.alloc _).alloc _
    have hmX1 := hm1
    have hmX2 : ((W7.drew.alloc (.cells #[] 34)).alloc (.cells #[.int .i64 0, .slice none 0 0] 25)).ownsRow W7.heap.size 34 5 (.slice (some ⟨W7.heap.size, 0, none⟩) 0 0) 0 [] := hm1.alloc _
    have hmX3 := hm2
    have hLX1 := hLc.keep hNX1
    have hLX2 := hLc.keep hNX2
    have hLX3 := hLc.keep hNX3
    have h9a : Has ((W7.drew.alloc (.cells #[.int .i64 0, .slice none 0 0] 25)).alloc (.cells #[] 34)) W7.heap.size #[.int .i64 0, .slice none 0 0] 25 := (Has.new W7.drew #[.int .i64 0, .slice none 0 0] 25).alloc _
    have h9b : Has ((W7.drew.alloc (.cells #[] 34)).alloc (.cells #[.int .i64 0, .slice none 0 0] 25)) (W7.heap.size + 1) #[.int .i64 0, .slice none 0 0] 25 := by
      have := Has.new (W7.drew.alloc (.cells #[] 34)) #[.int .i64 0, .slice none 0 0] 25
      simpa using this
    clear hm1 hm2
    go_cut [9] (fun s9 wx => ∃ (g9 gA cA : Nat) (csA : Array Value), s9 = .pointer (some ⟨g9, 0, none⟩) ∧ Has wx g9 #[.int .i64 st, .slice (some ⟨gA, 0, none⟩) m cA] 25 ∧ Has wx gA csA 34 ∧ W7.heap.size ≤ gA ∧ m ≤ cA ∧ (∀ (k : Nat) (q : Lg), L[k]? = some q → LegIn csA k q) ∧ New W7 wx)
    case first =>
      go_region_held3 (fun w' => New W7 w') ((repeat (first | with_reducible exact New.refl _ | with_reducible assumption | with_reducible refine New.alloc ?_ _ | with_reducible refine New.drewN ?_ _ | with_reducible refine New.drew ?_ | with_reducible refine New.setCell ?_ (by first | omega | (simp; done) | (simp; omega)) _ | with_reducible refine New.tail (by assumption) ?_))) (first | (refine step_own (by rfl) _ _ 23 (by rfl) W7.heap.size 34 i0 (.agg #[.int .i64 0, .int .i64 0, .int .i64 0, .int .i64 0, .int .i64 0]) 5 40 Tryd.underlying23 hi hz hs hby rfl (by decide) _ 0 [] (by rfl) hmX1 ⟨b, off, none⟩ m cp (lgC L) (by rfl) hlg (legs_news hLX1) (lgC_one L) (by unfold maxLen; omega) (by omega) hNX1.size ?_; intro v' wE hown' hgrow _; have hnE : New W7 wE := New.grown hNX1 hgrow (fun jj hjj => (hmX1.lt jj hjj).1); obtain ⟨gA, cA, csA, rfl, hgA, hHA, hcA, hIA⟩ := row_in (L := L) (by simpa using hown') (by omega)) | (refine step_own (by rfl) _ _ 23 (by rfl) W7.heap.size 34 i0 (.agg #[.int .i64 0, .int .i64 0, .int .i64 0, .int .i64 0, .int .i64 0]) 5 40 Tryd.underlying23 hi hz hs hby rfl (by decide) _ 0 [] (by rfl) hmX2 ⟨b, off, none⟩ m cp (lgC L) (by rfl) hlg (legs_news hLX2) (lgC_one L) (by unfold maxLen; omega) (by omega) hNX2.size ?_; intro v' wE hown' hgrow _; have hnE : New W7 wE := New.grown hNX2 hgrow (fun jj hjj => (hmX2.lt jj hjj).1); obtain ⟨gA, cA, csA, rfl, hgA, hHA, hcA, hIA⟩ := row_in (L := L) (by simpa using hown') (by omega); have hh := Has.grown h9b hgrow (by simp [Value.ownBlock]); have c9 := hh.at2) | (refine step_own (by rfl) _ _ 23 (by rfl) W7.heap.size 34 i0 (.agg #[.int .i64 0, .int .i64 0, .int .i64 0, .int .i64 0, .int .i64 0]) 5 40 Tryd.underlying23 hi hz hs hby rfl (by decide) _ 0 [] (by rfl) hmX3 ⟨b, off, none⟩ m cp (lgC L) (by rfl) hlg (legs_news hLX3) (lgC_one L) (by unfold maxLen; omega) (by omega) hNX3.size ?_; intro v' wE hown' hgrow _; have hnE : New W7 wE := New.grown hNX3 hgrow (fun jj hjj => (hmX3.lt jj hjj).1); obtain ⟨gA, cA, csA, rfl, hgA, hHA, hcA, hIA⟩ := row_in (L := L) (by simpa using hown') (by omega); have hh := Has.grown h9a hgrow (by simp [Value.ownBlock]); have c9 := hh.at2))
      all_goals
        go_wp2_with fail
        go_meet
        first
          | exact ⟨_, gA, cA, csA, rfl, Has.new _ _ _, hHA.alloc _, hgA, by have := HMM.out; omega, hIA, hnE.alloc _⟩
          | (have hne9 : gA ≠ W7.heap.size := (legs_of_in hHA hIA).ne2 hh (by rintro rfl; simp at hj0) _ rfl; exact ⟨_, gA, cA, csA, rfl, hh.set2, (hHA.far (p := ⟨W7.heap.size, 0, none⟩) hne9 _).far (p := ⟨W7.heap.size, 1, none⟩) hne9 _, hgA, by have := HMM.out; omega, hIA, (hnE.setCell (p := ⟨W7.heap.size, 0, none⟩) (by simp) _).setCell (p := ⟨W7.heap.size, 1, none⟩) (by simp) _⟩)
          | (have hne9 : gA ≠ W7.heap.size + 1 := (legs_of_in hHA hIA).ne2 hh (by rintro rfl; simp at hj0) _ rfl; exact ⟨_, gA, cA, csA, rfl, hh.set2, (hHA.far (p := ⟨W7.heap.size + 1, 0, none⟩) hne9 _).far (p := ⟨W7.heap.size + 1, 1, none⟩) hne9 _, hgA, by have := HMM.out; omega, hIA, (hnE.setCell (p := ⟨W7.heap.size + 1, 0, none⟩) (by simp) _).setCell (p := ⟨W7.heap.size + 1, 1, none⟩) (by simp) _⟩)
    case rest =>
      obtain ⟨g9, gA, cA, csA, rfl, h9, hA, hgA, hcA, hIA, hnX⟩ := hcut
      have hjL : j < L.length := by have := HMM.out; omega
      have hsm := smE HV.out (j : Int)
      obtain ⟨e0, he0⟩ : ∃ e0, (legAt L j).e = e0 := ⟨_, rfl⟩
      have hcell := (hIA j _ (List.getElem?_eq_getElem hjL)).2.2.1
      rw [← legAt_get hjL, he0] at hcell
      rw [he0] at hsm
      have hfar := far_in hjL hIA
      rw [he0] at hfar
      have cR := (hA.cells (j * 5 + 2) wc (New.refl wc)).trans hcell
      have cF := hA.free (j * 5 + 2)
      have c9 := h9.at2
      have t1 : IntKind.i64.wrap (e0 + 1) = e0 + 1 := by rw [IntKind.wrap_i64]; omega
      have t2 : (0 : Int) ≤ (j : Int) := by omega
      have t3 : (j : Int) < (m : Int) := by omega
      have hne9 : gA ≠ g9 := (legs_of_in hA hIA).ne2 h9 (by rintro rfl; simp at hjL) _ rfl
      clear hLX1 hLX2 hLX3 hmX1 hmX2 hmX3 hNX1 hNX2 hNX3 h9a h9b hN0 hcell
      go_wp2_with fail
      go_cut [] (fun wx => Has wx g9 #[.int .i64 st, .slice (some ⟨gA, 0, none⟩) m cA] 25 ∧ Has wx gA (csA.setIfInBounds (j * 5 + 2) (.int .i64 (e0 + 1))) 34 ∧ New W7 wx)
      case first =>
        go_region_with (fail)
        all_goals
          go_wp2_with fail
          go_meet
          exact ⟨(h9.keep (New.refl wc).drew).far (p := ⟨gA, j * 5 + 2, none⟩) hne9.symm _, (hA.keep (New.refl wc).drew).set (j * 5 + 2) (.int .i64 (e0 + 1)), hnX.drew.setCell (p := ⟨gA, j * 5 + 2, none⟩) hgA _⟩
      case rest =>
        obtain ⟨h9, hA, hnX⟩ := hcut
        have hLF := legs_of_in hA hfar
        have hTF : (farL L j).length = m := by rw [far_len]; exact HMM.out
        have HF := fun w' (hn : New wc w') => implMisclosure_any st (j : Int) (some ⟨gA, 0, none⟩) cA (farL L j) w' (hLF.keep hn) (by omega)
        rw [hTF] at HF
        have hfix : ∃ (y1 y2 y3 : Int) (can : Bool), miF st (farL L j) j (stE (farL L j)) Lg.e = y1 ∧ miF st (farL L j) j (stN (farL L j)) Lg.n = y2 ∧ miF st (farL L j) j (stU (farL L j)) Lg.u = y3 ∧ miOk st (farL L j) j = can := ⟨_, _, _, _, rfl, rfl, rfl, rfl⟩
        obtain ⟨y1, y2, y3, can, f1, f2, f3, f4⟩ := hfix
        rw [f1, f2, f3, f4] at HF
        obtain ⟨T, hT⟩ : ∃ T, tlL st L = T := ⟨_, rfl⟩
        have HZ : Hid ((j : Int) ∈ T → x1 = 0 ∧ x2 = 0 ∧ x3 = 0) := fun hm => by
          rw [← hT] at hm
          have := mi_zero HV.out hm
          rw [HE.out.1, HE.out.2.1, HE.out.2.2] at this
          exact this
        have HY : Hid ((j : Int) ∉ T → can = true → ad x1 1 = y1 ∧ ad x2 0 = y2 ∧ ad x3 0 = y3) := fun hm hc => by
          rw [← hT] at hm
          have := mi_fact hjL HV.out hm (f4.trans hc)
          rw [HE.out.1, HE.out.2.1, HE.out.2.2, f1, f2, f3] at this
          exact this
        have H5c := fun w' (hn : New wc w') => H5 w' (hn8.trans (hnX.trans hn))
        rw [HMM.out, hT] at H5c
        rw [hT] at hTl
        have k3 := fun w' (hn : New wc w') => d3 w' (hnX.trans hn)
        have k5 := fun w' (hn : New wc w') => d5 w' (hnX.trans hn)
        have k9 := h9.cells2
        have hkc := hkk.trans hnX
        clear f1 f2 f3 f4 hT hLF hTF hA h9 H5 d3 d5 hfar cR cF c9 t1 hsm he0 hIA hgA hcA hne9 hnX hLc hL3 hlg HE HV hkk hn8
        go_wp2_with fail
        refine (HF _ (by repeat (first | with_reducible exact New.refl _ | with_reducible assumption | with_reducible refine New.alloc ?_ _ | with_reducible refine New.drewN ?_ _ | with_reducible refine New.drew ?_ | with_reducible refine New.setCell ?_ (by first | omega | (simp; done) | (simp; omega)) _ | with_reducible refine New.tail (by assumption) ?_))).mono ?_
        rintro _ w8 ⟨rfl, hnA⟩
        go_upto_region 13 with fail
        have h10 := Has.new w8 #[.int .i64 y1, .int .i64 y2, .int .i64 y3] 53
        have hn10 : New wc (w8.alloc (.cells #[.int .i64 y1, .int .i64 y2, .int .i64 y3] 53)) := hnA.alloc _
        generalize (w8.alloc (.cells #[.int .i64 y1, .int .i64 y2, .int .i64 y3] 53)) = W10 at *
        have c10 := h10.cells3
        clear hnA h10
        go_wp2_with fail
        refine (H5c _ (by repeat (first | with_reducible exact New.refl _ | with_reducible assumption | with_reducible refine New.alloc ?_ _ | with_reducible refine New.drewN ?_ _ | with_reducible refine New.drew ?_ | with_reducible refine New.setCell ?_ (by first | omega | (simp; done) | (simp; omega)) _ | with_reducible refine New.tail (by assumption) ?_))).mono ?_
        rintro _ w11 ⟨D, d, rfl, hG, hn11⟩
        go_wp2_with fail
        refine (hasInt_any D d T j w11 hG.reads (by omega)).mono ?_
        rintro _ w12 ⟨rfl, rfl⟩
        have m5 := fun w' (hn : New w11 w') => k5 w' ((hn10.trans hn11).trans hn)
        have m10 := fun w' (hn : New w11 w') => c10 w' (hn11.trans hn)
        have hkz := hkc.trans (hn10.trans hn11)
        clear k3 k5 k9 c10 HF H5c hG hkc hn10 hn11
        cases hany : T.any (· == (j : Int))
        · have hnm : (j : Int) ∉ T := fun hm => by
            have : T.any (· == (j : Int)) = true := List.any_eq_true.2 ⟨_, hm, by simp⟩
            rw [hany] at this
            cases this
          have HY2 := HY.out hnm
          clear HY HZ hany hnm
          cases can
          · clear HY2
            go_wp2_with fail
            refine wp_region_held_drew (S := fun w' => New w11 w') (by kernel_rfl) (by repeat (first | with_reducible exact New.refl _ | with_reducible assumption | with_reducible refine New.alloc ?_ _ | with_reducible refine New.drewN ?_ _ | with_reducible refine New.drew ?_ | with_reducible refine New.setCell ?_ (by first | omega | (simp; done) | (simp; omega)) _ | with_reducible refine New.tail (by assumption) ?_)) (fun hHeld => ?_)
            refine wpAnyH_take (i := 0) (v := ?_) rfl (by kernel_rfl) (by kernel_rfl) (by kernel_rfl) (fun _ _ _ h => h) (Or.inl ⟨by rfl, ?_⟩) (by assumption) ?_; rotate_left; (intro w hSw; (try dsimp only at hSw); go_simp; (try with_reducible rfl)); (try simp only [Act.put, List.setIfInBounds_toArray, List.set_cons_zero, List.set_cons_succ, List.getElem_toArray, List.getElem_cons_zero, List.getElem_cons_succ])
            refine wpAnyH_take (i := 1) (v := ?_) rfl (by kernel_rfl) (by kernel_rfl) (by kernel_rfl) (fun _ _ _ h => h) (Or.inl ⟨by rfl, ?_⟩) (by assumption) ?_; rotate_left; (intro w hSw; (try dsimp only at hSw); go_simp; (try with_reducible rfl)); (try simp only [Act.put, List.setIfInBounds_toArray, List.set_cons_zero, List.set_cons_succ, List.getElem_toArray, List.getElem_cons_zero, List.getElem_cons_succ])
            refine wpAnyH_take (i := 2) (v := ?_) rfl (by kernel_rfl) (by kernel_rfl) (by kernel_rfl) (fun _ _ _ h => h) (Or.inl ⟨by rfl, ?_⟩) (by assumption) ?_; rotate_left; (intro w hSw; (try dsimp only at hSw); go_simp; (try with_reducible rfl)); (try simp only [Act.put, List.setIfInBounds_toArray, List.set_cons_zero, List.set_cons_succ, List.getElem_toArray, List.getElem_cons_zero, List.getElem_cons_succ])
            refine wpAnyH_take (i := 3) rfl (by kernel_rfl) (by kernel_rfl) (by kernel_rfl) (fun _ _ _ h => h) (Or.inr ⟨by rfl, rfl⟩) (by assumption) ?_; (try simp only [Act.put, List.setIfInBounds_toArray, List.set_cons_zero, List.set_cons_succ, List.getElem_toArray, List.getElem_cons_zero, List.getElem_cons_succ])
            refine wpAnyH_take (i := 4) rfl (by kernel_rfl) (by kernel_rfl) (by kernel_rfl) (fun _ _ _ h => h) (Or.inr ⟨by rfl, rfl⟩) (by assumption) ?_; (try simp only [Act.put, List.setIfInBounds_toArray, List.set_cons_zero, List.set_cons_succ, List.getElem_toArray, List.getElem_cons_zero, List.getElem_cons_succ])
            refine wpAnyH_take (i := 5) rfl (by kernel_rfl) (by kernel_rfl) (by kernel_rfl) (fun _ _ _ h => h) (Or.inr ⟨by rfl, rfl⟩) (by assumption) ?_; (try simp only [Act.put, List.setIfInBounds_toArray, List.set_cons_zero, List.set_cons_succ, List.getElem_toArray, List.getElem_cons_zero, List.getElem_cons_succ])
            refine wpAnyH_take (i := 6) rfl (by kernel_rfl) (by kernel_rfl) (by kernel_rfl) (fun _ _ _ h => h) (Or.inr ⟨by rfl, rfl⟩) (by assumption) ?_; (try simp only [Act.put, List.setIfInBounds_toArray, List.set_cons_zero, List.set_cons_succ, List.getElem_toArray, List.getElem_cons_zero, List.getElem_cons_succ])
            refine wpAnyH_take (i := 7) rfl (by kernel_rfl) (by kernel_rfl) (by kernel_rfl) (fun _ _ _ h => h) (Or.inr ⟨by rfl, rfl⟩) (by assumption) ?_; (try simp only [Act.put, List.setIfInBounds_toArray, List.set_cons_zero, List.set_cons_succ, List.getElem_toArray, List.getElem_cons_zero, List.getElem_cons_succ])
            refine wpAnyH_take (i := 8) (v := ?_) rfl (by kernel_rfl) (by kernel_rfl) (by kernel_rfl) (fun _ _ _ h => h) (Or.inl ⟨by rfl, ?_⟩) (by assumption) ?_; rotate_left; (intro w hSw; (try dsimp only at hSw); go_simp; (try with_reducible rfl)); (try simp only [Act.put, List.setIfInBounds_toArray, List.set_cons_zero, List.set_cons_succ, List.getElem_toArray, List.getElem_cons_zero, List.getElem_cons_succ])
            refine wpAnyH_take (i := 9) (v := ?_) rfl (by kernel_rfl) (by kernel_rfl) (by kernel_rfl) (fun _ _ _ h => h) (Or.inl ⟨by rfl, ?_⟩) (by assumption) ?_; rotate_left; (intro w hSw; (try dsimp only at hSw); go_simp; (try with_reducible rfl)); (try simp only [Act.put, List.setIfInBounds_toArray, List.set_cons_zero, List.set_cons_succ, List.getElem_toArray, List.getElem_cons_zero, List.getElem_cons_succ])
            refine wpAnyH_done (by kernel_rfl) ?_ _
            go_wp2_with fail
            go_ret
            exact ⟨rfl, hkz.trans (by repeat (first | with_reducible exact New.refl _ | with_reducible assumption | with_reducible refine New.alloc ?_ _ | with_reducible refine New.drewN ?_ _ | with_reducible refine New.drew ?_ | with_reducible refine New.setCell ?_ (by first | omega | (simp; done) | (simp; omega)) _ | with_reducible refine New.tail (by assumption) ?_))⟩
          · obtain ⟨a1, a2, a3⟩ := HY2 rfl
            have H6 := fun w => implWayAdd_any x1 x2 x3 1 0 0 w
            rw [a1, a2, a3] at H6
            clear HY2 a1 a2 a3
            go_wp2_with fail
            go_region_held3 (fun w' => New w11 w') ((repeat (first | with_reducible exact New.refl _ | with_reducible assumption | with_reducible refine New.alloc ?_ _ | with_reducible refine New.drewN ?_ _ | with_reducible refine New.drew ?_ | with_reducible refine New.setCell ?_ (by first | omega | (simp; done) | (simp; omega)) _ | with_reducible refine New.tail (by assumption) ?_))) (first | (go_at_call 49; refine (H6 _).mono ?_; rintro _ wC ⟨rfl, hnC⟩))
            go_wp2_with fail
            go_ret
            exact ⟨rfl, hkz.trans (by repeat (first | with_reducible exact New.refl _ | with_reducible assumption | with_reducible refine New.alloc ?_ _ | with_reducible refine New.drewN ?_ _ | with_reducible refine New.drew ?_ | with_reducible refine New.setCell ?_ (by first | omega | (simp; done) | (simp; omega)) _ | with_reducible refine New.tail (by assumption) ?_))⟩
        · have hmm : (j : Int) ∈ T := by
            rw [List.any_eq_true] at hany
            obtain ⟨z, hz, he⟩ := hany
            obtain rfl : z = (j : Int) := by simpa using he
            exact hz
          obtain ⟨rfl, rfl, rfl⟩ := HZ.out hmm
          clear HY HZ hany hmm
          go_wp2_with fail
          go_ret
          exact ⟨rfl, hkz.trans (by repeat (first | with_reducible exact New.refl _ | with_reducible assumption | with_reducible refine New.alloc ?_ _ | with_reducible refine New.drewN ?_ _ | with_reducible refine New.drew ?_ | with_reducible refine New.setCell ?_ (by first | omega | (simp; done) | (simp; omega)) _ | with_reducible refine New.tail (by assumption) ?_))⟩

set_option maxRecDepth 100000 in
theorem fnMisclosure_lifted (os : Os) (started : os.Started) (H : Type) (enc : TypeId × Value → H) :
    ReturnsInHanded {} Tryd.checked os 11 .any (fun w args => (Rows.fnMisclosureSpec.pre enc Tryd.prog Tryd.f11 [] false w args ∧ laidMetH Tryd.prog laidL w) ∧ sizedMet enc Tryd.prog Tryd.f11 (OpenSpec.ofChange Rows.fnMisclosureSpec) false w args)
      (Rows.fnMisclosureSpec.post enc Tryd.prog Tryd.f11 false true false false) := by
  refine returnsInHanded_of_change_and (C := Tryd.checked) (X := fun w _ => laidMetH Tryd.prog laidL w) (fun _ _ _ hh h => h.of_heap hh) own started (by kernel_rfl) Tryd.func11
    (ChangeSpec.witness_shaped (enc := enc) (C := Tryd.checked) (os := os) (X := fun w _ => laidMetH Tryd.prog laidL w) false (World.doorLaid Tryd.prog 400 os) #[.slice none 0 0] 8 rfl (World.shaped_of_RefB (by kernel_rfl) (by kernel_rfl)) (by kernel_rfl) (by kernel_rfl) (by kernel_rfl) (laidL_met os _)) ?_
  intro W base args ds gs before hval0 hW _ _ hL _
  have hval : ∀ (j : Nat) t v, Tryd.f11.params[j]? = some t → args[j]? = some v → Value.okWide Tryd.prog W .any base t v := hval0
  have hW' := hW
  obtain ⟨p, q, hA0, hV, rfl, hfz, hnd⟩ := hW
  have hA : DataW.TrodAll enc Tryd.prog W 0 (fun _ => true) true Tryd.f11.params.toList args.toList ds p := hA0
  have hlt : ∀ x ∈ p ++ q, x.block < W.heap.size := fun x hx => hW'.lt x hx
  rw [Tryd.params11] at hA hval
  obtain ⟨v0, d0, rfl, rfl, h0⟩ := trodAll_one hA
  clear hA0 hval0
  have hL : laidMetH Tryd.prog laidL W := hL
  obtain ⟨A, n, cap, rfl, hB, hc, hn⟩ := open_bytes (hval 0 _ _ rfl rfl) h0
  refine (lawFnMisclosure_walk A n cap W hB hc hn (tab_of_laid hL)).mono fun e W' ⟨he, hg⟩ => ?_
  subst he
  exact ⟨_, rfl, law_post laidOut hW' rfl ⟨rfl, rfl, rfl⟩ (by kernel_rfl) rfl Tryd.underlying4 hg⟩

theorem fnMisclosure_over : Rows.fnMisclosureRow.holds Tryd.pinned (OpenSpec.ofChange Rows.fnMisclosureSpec) :=
  OpenClaim.holds_of_wide 11 Tryd.f11 rfl rfl rfl rfl rfl rfl rfl ⟨rfl, rfl, rfl, rfl, rfl⟩ rfl rfl rfl rfl rfl (by kernel_rfl) Tryd.func11 (by kernel_rfl)
    (of_decide_eq_true (by kernel_rfl)) (by unfold Func.isWrapper; first | (rw [if_pos (by decide +kernel)]; kernel_rfl) | (rw [if_neg (by decide +kernel)]; exact ⟨rfl, rfl⟩))
    (fun os started H enc _ => fnMisclosure_lifted os started H enc)

/-- The given statement. -/
theorem fnMisclosure_holds : Rows.FnMisclosureCardSaid :=
  Claim7.holds_tied_plain_at .later [] [.data, .data, .data] true Rows.fnMisclosureCard.stood.harness Rows.fnMisclosureCard.stood.looks
    fnMisclosure_over (fun _ h => by cases h) (by kernel_rfl) (fun _ h => by cases h) fnMisclosure_row_tie rfl ⟨rfl, rfl⟩ (by kernel_rfl) rfl
    (fun f fn hf hfn => by
      obtain rfl : f = 11 := Option.some.inj ((show Tryd.prog.funcNamed "loop.example/cavesurvey/laws.FnMisclosure" = some 11 by kernel_rfl).symm.trans hf) |>.symm
      obtain rfl : fn = Tryd.f11 := (Option.some.inj (Tryd.func11.symm.trans hfn)).symm
      exact ⟨by kernel_rfl, fun j t ht => by
        rw [Tryd.params11] at ht
        have hm : t ∈ Tryd.f11.params.toList := by rw [Tryd.params11]; simpa using Array.mem_of_getElem? ht
        have hall : (Tryd.f11.params.toList.all fun u => !Tryd.prog.wantsStandIn u) = true := by kernel_rfl
        exact (show Tryd.prog.wantsStandIn t = false by simpa using List.all_eq_true.1 hall t hm)⟩)
    (by kernel_rfl)

#print axioms fnMisclosure_holds
end Go.Proofs.YtgcloaimolajjaaDoor
