/- FnCloses: whatever the code is, the law returns true and leaves it as it was. No condition. -/
import Derived.Test.YtgcloaimolajjaaDoorDrawQ
import Derived.Test.YtgcloaimolajjaaDoorFnH
import Derived.Test.YtgcloaimolajjaaDoorFnP2
import Derived.Test.YtgcloaimolajjaaDoorEq
import Derived.Test.YtgcloaimolajjaaDoorWay
namespace Go.Proofs.YtgcloaimolajjaaDoor
open Go.ChangeShapes Go.WideShapes Go.ChangeAt Go.RowKit Go.Deep Go.Joins
set_option linter.all false
theorem cl_fact {st : Int} {L : List Lg} (h : svB st L = true) {T : List Int} (hT : tlL st L = T) : ∀ k (hk : k < T.length), ∃ i : Nat, T[k]? = some (i : Int) ∧ i < L.length := fun k hk => by
  subst hT
  have := tl_mem (List.getElem_mem hk)
  refine ⟨(tlL st L)[k].toNat, ?_, by omega⟩
  rw [List.getElem?_eq_getElem hk]
  congr 1
  omega
theorem cl_fact2 {st : Int} {L : List Lg} (h : svB st L = true) {T : List Int} (hT : tlL st L = T) : (pickL L T).length = T.length ∧ clB st (pickL L T) = true := by
  subst hT
  refine ⟨?_, cl_pick h⟩
  obtain ⟨n, rfl⟩ := svB_nat h
  rw [tlL_ok h]
  exact pickL_len _ (Nat.le_refl _)
theorem fit_at {st : Int} {L : List Lg} {k : Nat} (hk : k < L.length) {f t e n u : Int} (hg : L[k] = ⟨f, t, e, n, u⟩) {x1 x2 x3 y1 y2 y3 : Int} (h1 : tpF st L f (stE L) = x1) (h2 : tpF st L f (stN L) = x2) (h3 : tpF st L f (stU L) = x3) (h4 : tpF st L t (stE L) = y1) (h5 : tpF st L t (stN L) = y2) (h6 : tpF st L t (stU L) = y3) :
    decide (ad x1 e = y1 ∧ ad x2 n = y2 ∧ ad x3 u = y3) = fitB st L k := by
  subst h1 h2 h3 h4 h5 h6
  unfold fitB
  rw [legAt_get hk, hg]
  rw [Bool.eq_iff_iff]
  simp [and_assoc]
theorem all_succ (f : Nat → Bool) (k : Nat) : (List.range (k + 1)).all f = ((List.range k).all f && f k) := by
  rw [List.range_succ, List.all_append]; simp
set_option maxHeartbeats 4000000 in
set_option maxRecDepth 100000 in
theorem lawFnCloses_walk (A : Option Addr) (n cap : Nat) (w : World) (hB : Bytes w A n) (hc : n ≤ cap) (hn : n ≤ maxLen) (ht : Tab w) :
    Calls Tryd.prog 12 #[.slice A n cap] w fun r w' => r = .returned (.bool true) ∧ New w w' := by
  by_cases hbig : (1048576 : Int) < (n : Int)
  · go_enter Tryd.func12, Tryd.ntmps12
    go_wp2_with fail
    go_ret
    exact ⟨rfl, New.refl _⟩
  have HT := Lib.hid ht
  clear ht
  go_enter Tryd.func12, Tryd.ntmps12
  go_wp2_with fail
  refine (drawCloses_any A n cap _ hB hc hn).mono ?_
  rintro _ w1 ⟨st, B, L, cp, rfl, ⟨hcp, s0, s1, hlen, hsm⟩, hL, hn1⟩
  clear hsm hB hc hn
  go_upto_region 4 with fail
  have h3 := Has.new w1 #[.int .i64 st, .slice B L.length cp] 25
  have hk : New w (w1.alloc (.cells #[.int .i64 st, .slice B L.length cp] 25)) := (by repeat (first | with_reducible exact New.refl _ | with_reducible assumption | with_reducible refine New.alloc ?_ _ | with_reducible refine New.drewN ?_ _ | with_reducible refine New.drew ?_ | with_reducible refine New.setCell ?_ (by first | omega | (simp; done) | (simp; omega)) _ | with_reducible refine New.tail (by assumption) ?_))
  have hL3 := hL.keep ((New.refl w1).alloc (.cells #[.int .i64 st, .slice B L.length cp] 25))
  generalize (w1.alloc (.cells #[.int .i64 st, .slice B L.length cp] 25)) = W1 at *
  have c3 := h3.cells2
  clear hL hn1
  have H3 : ∀ w', New W1 w' → Calls Tryd.prog 18 #[] w' fun r w'' => r = .returned (.bool true) ∧ New w' w'' := fun w' hn => alive_any w' (HT.out.keep (hk.trans hn))
  have H1 : ∀ w', New W1 w' → Calls Tryd.prog 51 #[.agg #[.int .i64 st, .slice B L.length cp]] w' fun r w'' => r = .returned (.bool (clB st L)) ∧ New w' w'' := fun w' hn => implCloses_any st B cp L w' (hL3.keep hn) (by omega)
  have H2 : ∀ w', New W1 w' → Calls Tryd.prog 52 #[.agg #[.int .i64 st, .slice B L.length cp]] w' fun r w'' => r = .returned (.bool (clB st L)) ∧ New w' w'' := fun w' hn => specCloses_any st B cp L w' (hL3.keep hn) (by omega)
  have H4 : ∀ w', New W1 w' → Calls Tryd.prog 17 #[.agg #[.int .i64 st, .slice B L.length cp]] w' fun r w'' => r = .returned (.bool (svB st L)) ∧ New w' w'' := fun w' hn => specSurveyValid_any st B cp L w' (hL3.keep hn) (by omega)
  have H5 : ∀ w', New W1 w' → Calls Tryd.prog 32 #[.agg #[.int .i64 st, .slice B L.length cp]] w' fun r w'' => ∃ C c, r = .returned (.slice C (tlL st L).length c) ∧ FInts w' w'' C (tlL st L) ∧ New w' w'' := fun w' hn => implTreeLegs_any st B cp L w' (hL3.keep hn) (by omega)
  have HP : ∀ w' v, New W1 w' → Calls Tryd.prog 44 #[.agg #[.int .i64 st, .slice B L.length cp], .int .i64 v] w' fun r w'' => r = .returned (.tuple #[.agg #[.int .i64 (tpF st L v (stE L)), .int .i64 (tpF st L v (stN L)), .int .i64 (tpF st L v (stU L))], .bool (tpB st L v)]) ∧ New w' w'' := fun w' v hn => implTreePlace_any st v B cp L w' (hL3.keep hn) (by omega)
  have hTl := tlL_le st L
  cases ok : svB st L
  · rw [clB_no ok] at H1 H2
    rw [ok] at H4
    clear hL3 h3 ok hTl H5 HP
    go_wp2_with fail
    refine (H1 _ (by repeat (first | with_reducible exact New.refl _ | with_reducible assumption | with_reducible refine New.alloc ?_ _ | with_reducible refine New.drewN ?_ _ | with_reducible refine New.drew ?_ | with_reducible refine New.setCell ?_ (by first | omega | (simp; done) | (simp; omega)) _ | with_reducible refine New.tail (by assumption) ?_))).mono ?_
    rintro _ w2 ⟨rfl, hn2⟩
    go_wp2_with fail
    refine (H2 _ (by repeat (first | with_reducible exact New.refl _ | with_reducible assumption | with_reducible refine New.alloc ?_ _ | with_reducible refine New.drewN ?_ _ | with_reducible refine New.drew ?_ | with_reducible refine New.setCell ?_ (by first | omega | (simp; done) | (simp; omega)) _ | with_reducible refine New.tail (by assumption) ?_))).mono ?_
    rintro _ w3 ⟨rfl, hn3⟩
    have hk3 := hn2.trans hn3
    clear hn2 hn3
    go_wp2_with fail
    refine (H4 _ (by repeat (first | with_reducible exact New.refl _ | with_reducible assumption | with_reducible refine New.alloc ?_ _ | with_reducible refine New.drewN ?_ _ | with_reducible refine New.drew ?_ | with_reducible refine New.setCell ?_ (by first | omega | (simp; done) | (simp; omega)) _ | with_reducible refine New.tail (by assumption) ?_))).mono ?_
    rintro _ w5 ⟨rfl, hn5⟩
    go_wp2_with fail
    refine (H3 _ (by repeat (first | with_reducible exact New.refl _ | with_reducible assumption | with_reducible refine New.alloc ?_ _ | with_reducible refine New.drewN ?_ _ | with_reducible refine New.drew ?_ | with_reducible refine New.setCell ?_ (by first | omega | (simp; done) | (simp; omega)) _ | with_reducible refine New.tail (by assumption) ?_))).mono ?_
    rintro _ w6 ⟨rfl, hn6⟩
    go_wp2_with fail
    go_ret
    exact ⟨rfl, hk.trans (by repeat (first | with_reducible exact New.refl _ | with_reducible assumption | with_reducible refine New.alloc ?_ _ | with_reducible refine New.drewN ?_ _ | with_reducible refine New.drew ?_ | with_reducible refine New.setCell ?_ (by first | omega | (simp; done) | (simp; omega)) _ | with_reducible refine New.tail (by assumption) ?_))⟩
  · rw [ok] at H4
    obtain ⟨i0, hi, hz, hs, hby⟩ := info_parts infoLeg
    have F8 := Lib.hid (fit_all ok)
    obtain ⟨cl, hcl⟩ : ∃ cl, clB st L = cl := ⟨_, rfl⟩
    rw [hcl] at H1 H2 F8
    obtain ⟨T, hT⟩ : ∃ T, tlL st L = T := ⟨_, rfl⟩
    have F1 := Lib.hid (cl_fact ok hT)
    have F6 := Lib.hid (cl_fact2 ok hT)
    rw [hT] at H5 hTl
    clear hT ok H3 hcl
    have q0 := way_eql
    go_wp2_with fail
    refine (H1 _ (by repeat (first | with_reducible exact New.refl _ | with_reducible assumption | with_reducible refine New.alloc ?_ _ | with_reducible refine New.drewN ?_ _ | with_reducible refine New.drew ?_ | with_reducible refine New.setCell ?_ (by first | omega | (simp; done) | (simp; omega)) _ | with_reducible refine New.tail (by assumption) ?_))).mono ?_
    rintro _ w2 ⟨rfl, hn2⟩
    go_wp2_with fail
    refine (H2 _ (by repeat (first | with_reducible exact New.refl _ | with_reducible assumption | with_reducible refine New.alloc ?_ _ | with_reducible refine New.drewN ?_ _ | with_reducible refine New.drew ?_ | with_reducible refine New.setCell ?_ (by first | omega | (simp; done) | (simp; omega)) _ | with_reducible refine New.tail (by assumption) ?_))).mono ?_
    rintro _ w3 ⟨rfl, hn3⟩
    have t1 : (cl != cl) = false := by simp
    have hk3 := hn2.trans hn3
    clear hn2 hn3 H1 H2
    go_wp2_with fail
    refine (H4 _ (by repeat (first | with_reducible exact New.refl _ | with_reducible assumption | with_reducible refine New.alloc ?_ _ | with_reducible refine New.drewN ?_ _ | with_reducible refine New.drew ?_ | with_reducible refine New.setCell ?_ (by first | omega | (simp; done) | (simp; omega)) _ | with_reducible refine New.tail (by assumption) ?_))).mono ?_
    rintro _ w5 ⟨rfl, hn5⟩
    have hk5 : New W1 w5 := hk3.trans hn5
    have hL5 := hL3.keep hk5
    have c5 := fun w' (hn : New w5 w') => c3 w' (hk5.trans hn)
    clear hk3 hn5 H4 c3 hL3 h3 t1
    go_wp2_with fail
    go_loopw [5, 6] (fun v i wr => ∃ k : Nat, k ≤ L.length ∧ i = .int .i64 k ∧ New w5 wr ∧ v = .bool ((List.range k).all (fitB st L))) (fun _ i _ => L.length - (intOf i).toNat)
    case atStart => exact ⟨0, Nat.zero_le _, rfl, (by repeat (first | with_reducible exact New.refl _ | with_reducible assumption | with_reducible refine New.alloc ?_ _ | with_reducible refine New.drewN ?_ _ | with_reducible refine New.drew ?_ | with_reducible refine New.setCell ?_ (by first | omega | (simp; done) | (simp; omega)) _ | with_reducible refine New.tail (by assumption) ?_)), rfl⟩
    case round =>
      obtain ⟨k, hk', rfl, hw, rfl⟩ := hrel
      by_cases hlt : k < L.length
      · obtain ⟨b, off, f, t, e, n', u, hA, hg, hcl⟩ := hL5.at_ hlt
        subst hA
        have q1 : (0 : Int) ≤ (k : Int) := by omega
        have q2 : (k : Int) < (L.length : Int) := by omega
        obtain ⟨x1, hx1⟩ : ∃ x, tpF st L f (stE L) = x := ⟨_, rfl⟩
        obtain ⟨x2, hx2⟩ : ∃ x, tpF st L f (stN L) = x := ⟨_, rfl⟩
        obtain ⟨x3, hx3⟩ : ∃ x, tpF st L f (stU L) = x := ⟨_, rfl⟩
        obtain ⟨y1, hy1⟩ : ∃ x, tpF st L t (stE L) = x := ⟨_, rfl⟩
        obtain ⟨y2, hy2⟩ : ∃ x, tpF st L t (stN L) = x := ⟨_, rfl⟩
        obtain ⟨y3, hy3⟩ : ∃ x, tpF st L t (stU L) = x := ⟨_, rfl⟩
        have HX := fun w' => HP w' f
        have HY := fun w' => HP w' t
        rw [hx1, hx2, hx3] at HX
        rw [hy1, hy2, hy3] at HY
        have HFT := Lib.hid (fit_at hlt hg hx1 hx2 hx3 hy1 hy2 hy3)
        obtain ⟨al, hal⟩ : ∃ al, (List.range k).all (fitB st L) = al := ⟨_, rfl⟩
        have HAL := Lib.hid hal
        rw [hal]
        clear hx1 hx2 hx3 hy1 hy2 hy3 hg HP H5 hL5 hal
        go_upto_region 14 with fail
        have h7 := Has.new wr #[.int .i64 f, .int .i64 t, .int .i64 e, .int .i64 n', .int .i64 u] 34
        have hn7 : New w5 (wr.alloc (.cells #[.int .i64 f, .int .i64 t, .int .i64 e, .int .i64 n', .int .i64 u] 34)) := hw.alloc _
        generalize (wr.alloc (.cells #[.int .i64 f, .int .i64 t, .int .i64 e, .int .i64 n', .int .i64 u] 34)) = W7 at *
        have c7 := h7.cells5
        go_wp2_with fail
        refine (HX _ (hk5.trans (by repeat (first | with_reducible exact New.refl _ | with_reducible assumption | with_reducible refine New.alloc ?_ _ | with_reducible refine New.drewN ?_ _ | with_reducible refine New.drew ?_ | with_reducible refine New.setCell ?_ (by first | omega | (simp; done) | (simp; omega)) _ | with_reducible refine New.tail (by assumption) ?_)))).mono ?_
        rintro _ w8 ⟨rfl, hn8⟩
        go_upto_region 15 with fail
        have h9 := Has.new w8 #[.int .i64 x1, .int .i64 x2, .int .i64 x3] 53
        have hn9 : New W7 (w8.alloc (.cells #[.int .i64 x1, .int .i64 x2, .int .i64 x3] 53)) := hn8.alloc _
        generalize (w8.alloc (.cells #[.int .i64 x1, .int .i64 x2, .int .i64 x3] 53)) = W9 at *
        have c9 := h9.cells3
        have hn9' : New w5 W9 := hn7.trans hn9
        clear hn8 h7 h9
        go_wp2_with fail
        refine (HY _ (hk5.trans (hn7.trans (by repeat (first | with_reducible exact New.refl _ | with_reducible assumption | with_reducible refine New.alloc ?_ _ | with_reducible refine New.drewN ?_ _ | with_reducible refine New.drew ?_ | with_reducible refine New.setCell ?_ (by first | omega | (simp; done) | (simp; omega)) _ | with_reducible refine New.tail (by assumption) ?_))))).mono ?_
        rintro _ wA ⟨rfl, hnA⟩
        go_upto_region 16 with fail
        have hB := Has.new wA #[.int .i64 y1, .int .i64 y2, .int .i64 y3] 53
        have hnB : New W9 (wA.alloc (.cells #[.int .i64 y1, .int .i64 y2, .int .i64 y3] 53)) := hnA.alloc _
        generalize (wA.alloc (.cells #[.int .i64 y1, .int .i64 y2, .int .i64 y3] 53)) = WB at *
        have cB := hB.cells3
        have d7 := fun w' (hn : New WB w') => c7 w' ((hn9.trans hnB).trans hn)
        have d9 := fun w' (hn : New WB w') => c9 w' (hnB.trans hn)
        have hnZ : New w5 WB := (hn7.trans hn9).trans hnB
        clear hnA hB c7 c9 HX HY
        cases al
        · refine wp_region_held_drew (S := fun w' => New WB w') (by kernel_rfl) (by repeat (first | with_reducible exact New.refl _ | with_reducible assumption | with_reducible refine New.alloc ?_ _ | with_reducible refine New.drewN ?_ _ | with_reducible refine New.drew ?_ | with_reducible refine New.setCell ?_ (by first | omega | (simp; done) | (simp; omega)) _ | with_reducible refine New.tail (by assumption) ?_)) (fun hHeld => ?_)
          refine wpAnyH_take (i := 0) rfl (by kernel_rfl) (by kernel_rfl) (by kernel_rfl) (fun _ _ _ h => h) (Or.inl ⟨by rfl, fun _ _ => by rfl⟩) (by assumption) ?_; (try simp only [Act.put, List.setIfInBounds_toArray, List.set_cons_zero, List.set_cons_succ, List.getElem_toArray, List.getElem_cons_zero, List.getElem_cons_succ])
          refine wpAnyH_take (i := 1) rfl (by kernel_rfl) (by kernel_rfl) (by kernel_rfl) (fun _ _ _ h => h) (Or.inl ⟨by rfl, fun _ _ => by rfl⟩) (by assumption) ?_; (try simp only [Act.put, List.setIfInBounds_toArray, List.set_cons_zero, List.set_cons_succ, List.getElem_toArray, List.getElem_cons_zero, List.getElem_cons_succ])
          refine wpAnyH_take (i := 2) rfl (by kernel_rfl) (by kernel_rfl) (by kernel_rfl) (fun _ _ _ h => h) (Or.inr ⟨by rfl, rfl⟩) (by assumption) ?_; (try simp only [Act.put, List.setIfInBounds_toArray, List.set_cons_zero, List.set_cons_succ, List.getElem_toArray, List.getElem_cons_zero, List.getElem_cons_succ])
          refine wpAnyH_take (i := 3) rfl (by kernel_rfl) (by kernel_rfl) (by kernel_rfl) (fun _ _ _ h => h) (Or.inr ⟨by rfl, rfl⟩) (by assumption) ?_; (try simp only [Act.put, List.setIfInBounds_toArray, List.set_cons_zero, List.set_cons_succ, List.getElem_toArray, List.getElem_cons_zero, List.getElem_cons_succ])
          refine wpAnyH_take (i := 4) rfl (by kernel_rfl) (by kernel_rfl) (by kernel_rfl) (fun _ _ _ h => h) (Or.inr ⟨by rfl, rfl⟩) (by assumption) ?_; (try simp only [Act.put, List.setIfInBounds_toArray, List.set_cons_zero, List.set_cons_succ, List.getElem_toArray, List.getElem_cons_zero, List.getElem_cons_succ])
          refine wpAnyH_take (i := 5) rfl (by kernel_rfl) (by kernel_rfl) (by kernel_rfl) (fun _ _ _ h => h) (Or.inr ⟨by rfl, rfl⟩) (by assumption) ?_; (try simp only [Act.put, List.setIfInBounds_toArray, List.set_cons_zero, List.set_cons_succ, List.getElem_toArray, List.getElem_cons_zero, List.getElem_cons_succ])
          refine wpAnyH_take (i := 6) rfl (by kernel_rfl) (by kernel_rfl) (by kernel_rfl) (fun _ _ _ h => h) (Or.inr ⟨by rfl, rfl⟩) (by assumption) ?_; (try simp only [Act.put, List.setIfInBounds_toArray, List.set_cons_zero, List.set_cons_succ, List.getElem_toArray, List.getElem_cons_zero, List.getElem_cons_succ])
          refine wpAnyH_take (i := 7) rfl (by kernel_rfl) (by kernel_rfl) (by kernel_rfl) (fun _ _ _ h => h) (Or.inr ⟨by rfl, rfl⟩) (by assumption) ?_; (try simp only [Act.put, List.setIfInBounds_toArray, List.set_cons_zero, List.set_cons_succ, List.getElem_toArray, List.getElem_cons_zero, List.getElem_cons_succ])
          refine wpAnyH_take (i := 8) rfl (by kernel_rfl) (by kernel_rfl) (by kernel_rfl) (fun _ _ _ h => h) (Or.inr ⟨by rfl, rfl⟩) (by assumption) ?_; (try simp only [Act.put, List.setIfInBounds_toArray, List.set_cons_zero, List.set_cons_succ, List.getElem_toArray, List.getElem_cons_zero, List.getElem_cons_succ])
          refine wpAnyH_take (i := 9) rfl (by kernel_rfl) (by kernel_rfl) (by kernel_rfl) (fun _ _ _ h => h) (Or.inr ⟨by rfl, rfl⟩) (by assumption) ?_; (try simp only [Act.put, List.setIfInBounds_toArray, List.set_cons_zero, List.set_cons_succ, List.getElem_toArray, List.getElem_cons_zero, List.getElem_cons_succ])
          refine wpAnyH_take (i := 10) rfl (by kernel_rfl) (by kernel_rfl) (by kernel_rfl) (fun _ _ _ h => h) (Or.inr ⟨by rfl, rfl⟩) (by assumption) ?_; (try simp only [Act.put, List.setIfInBounds_toArray, List.set_cons_zero, List.set_cons_succ, List.getElem_toArray, List.getElem_cons_zero, List.getElem_cons_succ])
          refine wpAnyH_take (i := 11) rfl (by kernel_rfl) (by kernel_rfl) (by kernel_rfl) (fun _ _ _ h => h) (Or.inr ⟨by rfl, rfl⟩) (by assumption) ?_; (try simp only [Act.put, List.setIfInBounds_toArray, List.set_cons_zero, List.set_cons_succ, List.getElem_toArray, List.getElem_cons_zero, List.getElem_cons_succ])
          refine wpAnyH_take (i := 12) rfl (by kernel_rfl) (by kernel_rfl) (by kernel_rfl) (fun _ _ _ h => h) (Or.inr ⟨by rfl, rfl⟩) (by assumption) ?_; (try simp only [Act.put, List.setIfInBounds_toArray, List.set_cons_zero, List.set_cons_succ, List.getElem_toArray, List.getElem_cons_zero, List.getElem_cons_succ])
          refine wpAnyH_take (i := 13) rfl (by kernel_rfl) (by kernel_rfl) (by kernel_rfl) (fun _ _ _ h => h) (Or.inl ⟨by rfl, fun _ _ => by rfl⟩) (by assumption) ?_; (try simp only [Act.put, List.setIfInBounds_toArray, List.set_cons_zero, List.set_cons_succ, List.getElem_toArray, List.getElem_cons_zero, List.getElem_cons_succ])
          refine wpAnyH_take (i := 14) rfl (by kernel_rfl) (by kernel_rfl) (by kernel_rfl) (fun _ _ _ h => h) (Or.inl ⟨by rfl, fun _ _ => by rfl⟩) (by assumption) ?_; (try simp only [Act.put, List.setIfInBounds_toArray, List.set_cons_zero, List.set_cons_succ, List.getElem_toArray, List.getElem_cons_zero, List.getElem_cons_succ])
          refine wpAnyH_done (by kernel_rfl) ?_ _
          go_wp2_with fail
          go_roundw
          case rel => exact ⟨k + 1, by omega, by go_num, hnZ.trans (by repeat (first | with_reducible exact New.refl _ | with_reducible assumption | with_reducible refine New.alloc ?_ _ | with_reducible refine New.drewN ?_ _ | with_reducible refine New.drew ?_ | with_reducible refine New.setCell ?_ (by first | omega | (simp; done) | (simp; omega)) _ | with_reducible refine New.tail (by assumption) ?_)), by rw [all_succ, HAL.out]; rfl⟩
          case measure => simp [intOf]; omega
        · have H6 := fun w => implWayAdd_any x1 x2 x3 e n' u w
          go_region_held3 (fun w' => New WB w') ((repeat (first | with_reducible exact New.refl _ | with_reducible assumption | with_reducible refine New.alloc ?_ _ | with_reducible refine New.drewN ?_ _ | with_reducible refine New.drew ?_ | with_reducible refine New.setCell ?_ (by first | omega | (simp; done) | (simp; omega)) _ | with_reducible refine New.tail (by assumption) ?_))) (first | (go_at_call 49; refine (H6 _).mono ?_; rintro _ wC ⟨rfl, hnC⟩))
          go_wp2_with fail
          go_roundw
          case rel => exact ⟨k + 1, by omega, by go_num, hnZ.trans (by repeat (first | with_reducible exact New.refl _ | with_reducible assumption | with_reducible refine New.alloc ?_ _ | with_reducible refine New.drewN ?_ _ | with_reducible refine New.drew ?_ | with_reducible refine New.setCell ?_ (by first | omega | (simp; done) | (simp; omega)) _ | with_reducible refine New.tail (by assumption) ?_)), by rw [all_succ, HAL.out, Bool.true_and, ← HFT.out, Bool.decide_and, Bool.decide_and]⟩
          case measure => simp [intOf]; omega
      · obtain rfl : k = L.length := by omega
        rw [F8.out]
        have hkr := hk5.trans hw
        have c6 := fun w' (hn : New wr w') => c5 w' (hw.trans hn)
        have hLr := hL5.keep hw
        obtain ⟨wo, hwo⟩ : ∃ wo : World, wo = wr := ⟨_, rfl⟩
        subst hwo
        clear hL5 hlt hk' hw c5 hk5 HP q0
        go_wp2_with fail
        refine (H5 _ (by repeat (first | with_reducible exact New.refl _ | with_reducible assumption | with_reducible refine New.alloc ?_ _ | with_reducible refine New.drewN ?_ _ | with_reducible refine New.drew ?_ | with_reducible refine New.setCell ?_ (by first | omega | (simp; done) | (simp; omega)) _ | with_reducible refine New.tail (by assumption) ?_))).mono ?_
        rintro _ w7 ⟨C, c, rfl, hF, hn7⟩
        have hI := hF.reads
        have hL7 := hLr.keep hn7
        have c7 := fun w' (hn : New w7 w') => c6 w' (hn7.trans hn)
        have hk7 : New W1 w7 := hkr.trans hn7
        clear hLr c6 hn7 hF H5 hkr
        go_wp2_with fail
        go_loopw [13, 14] (fun v i wr => ∃ k : Nat, k ≤ T.length ∧ i = .int .i64 k ∧ New w7 wr ∧ wr.ownsRow w7.heap.size 34 5 v k (lgC (pickL L (T.take k)))) (fun _ i _ => T.length - (intOf i).toNat)
        case atStart => exact ⟨0, Nat.zero_le _, rfl, (by repeat (first | with_reducible exact New.refl _ | with_reducible assumption | with_reducible refine New.alloc ?_ _ | with_reducible refine New.drewN ?_ _ | with_reducible refine New.drew ?_ | with_reducible refine New.setCell ?_ (by first | omega | (simp; done) | (simp; omega)) _ | with_reducible refine New.tail (by assumption) ?_)), World.ownsRow_made w7 #[] 0 (Nat.le_refl _) (by simp) rfl⟩
        case round =>
          obtain ⟨k, hk', rfl, hw, hown⟩ := hrel
          by_cases hlt : k < T.length
          · obtain ⟨i, e1, e2⟩ := F1.out k hlt
            obtain ⟨b, off, f, t, e, n', u, hA, hg, hcl⟩ := hL7.at_ e2
            obtain ⟨b2, off2, x1, hA2, hx1, hc2⟩ := hI.at_ hlt
            rw [List.getElem?_eq_getElem hlt, hx1] at e1
            obtain rfl := Option.some.inj e1
            have hpk : pickL L (T.take (k + 1)) = pickL L (T.take k) ++ [⟨f, t, e, n', u⟩] := pickL_ok (i := i) (by rw [List.getElem?_eq_getElem hlt, hx1]) (by rw [List.getElem?_eq_getElem e2, hg])
            have HPK := Lib.hid hpk
            subst hA hA2
            have q1 : (0 : Int) ≤ (k : Int) := by omega
            have q2 : (k : Int) < (T.length : Int) := by omega
            have q3 : (0 : Int) ≤ (i : Int) := by omega
            have q4 : (i : Int) < (L.length : Int) := by omega
            have q5 : decide ((i : Int) < 0) = false := by simp
            have q6 : decide ((L.length : Int) ≤ (i : Int)) = false := by simp; omega
            have q7 : decide (L.length ≤ i) = false := by simp; omega
            have q8 : ¬ (i : Int) < 0 := by omega
            have hsz := hw.size
            clear hg hx1 hpk hI hL7
            go_wp2_with fail
            go_quiet (fail)
            go_wp2_with fail
            go_region_held3 (fun w' => New w7 w') ((repeat (first | with_reducible exact New.refl _ | with_reducible assumption | with_reducible refine New.alloc ?_ _ | with_reducible refine New.drewN ?_ _ | with_reducible refine New.drew ?_ | with_reducible refine New.setCell ?_ (by first | omega | (simp; done) | (simp; omega)) _ | with_reducible refine New.tail (by assumption) ?_))) (first | (refine step_own (by rfl) _ _ 23 (by rfl) w7.heap.size 34 i0 (.agg #[.int .i64 0, .int .i64 0, .int .i64 0, .int .i64 0, .int .i64 0]) 5 40 Tryd.underlying23 hi hz hs hby rfl (by decide) _ k _ (by rfl) (own_new hown (by repeat (first | with_reducible exact New.refl _ | with_reducible assumption | with_reducible refine New.alloc ?_ _ | with_reducible refine New.drewN ?_ _ | with_reducible refine New.drew ?_ | with_reducible refine New.setCell ?_ (by first | omega | (simp; done) | (simp; omega)) _ | with_reducible refine New.tail (by assumption) ?_))) ⟨wr.heap.size, 0, none⟩ 1 1 [.int .i64 f, .int .i64 t, .int .i64 e, .int .i64 n', .int .i64 u] (by rfl) (by rfl) (five_news _ _ _ _ _ _ _) (by intro u hu; simp at hu; rcases hu with rfl | rfl | rfl | rfl | rfl <;> rfl) (by unfold maxLen; omega) (by omega) (by simp; omega) ?_; intro v' wE hown' hgrow _; have hnE : New w7 wE := New.grown (show New w7 (((wr.drewN nq).drew).alloc (.cells #[.int .i64 f, .int .i64 t, .int .i64 e, .int .i64 n', .int .i64 u] 34)) from (by repeat (first | with_reducible exact New.refl _ | with_reducible assumption | with_reducible refine New.alloc ?_ _ | with_reducible refine New.drewN ?_ _ | with_reducible refine New.drew ?_ | with_reducible refine New.setCell ?_ (by first | omega | (simp; done) | (simp; omega)) _ | with_reducible refine New.tail (by assumption) ?_))) hgrow (fun j hj => (hown.lt j hj).1)))
            go_wp2_with fail
            go_roundw
            case rel => exact ⟨k + 1, by omega, by go_num, (by repeat (first | with_reducible exact New.refl _ | with_reducible assumption | with_reducible refine New.alloc ?_ _ | with_reducible refine New.drewN ?_ _ | with_reducible refine New.drew ?_ | with_reducible refine New.setCell ?_ (by first | omega | (simp; done) | (simp; omega)) _ | with_reducible refine New.tail (by assumption) ?_)), by rw [HPK.out, lgC_snoc]; exact hown'⟩
            case measure => simp [intOf]; omega
          · obtain rfl : k = T.length := by omega
            rw [List.take_length] at hown
            have F7 := F6.out
            obtain ⟨M, hM⟩ : ∃ M, pickL L T = M := ⟨_, rfl⟩
            rw [hM] at hown F7
            obtain ⟨hMl, hMv⟩ := F7
            rw [← hMl] at hown
            obtain ⟨D, d, rfl, hd, hLM, -⟩ := legs_own hown
            have HML := Lib.hid hMl
            have H9 : ∀ w', New wr w' → Calls Tryd.prog 51 #[.agg #[.int .i64 st, .slice D M.length d]] w' fun r w'' => r = .returned (.bool true) ∧ New w' w'' := fun w' hn => by
              have := implCloses_any st D d M w' (hLM.keep hn) (by have := HML.out; omega)
              rwa [hMv] at this
            have c8 := fun w' (hn : New wr w') => c7 w' (hw.trans hn)
            have t9 : (cl == cl) = true := by simp
            have hkr := hk7.trans hw
            clear hown hI hlt hk' hM hMl hLM hMv c7 hL7 F1
            go_wp2_with fail
            refine (H9 _ (by repeat (first | with_reducible exact New.refl _ | with_reducible assumption | with_reducible refine New.alloc ?_ _ | with_reducible refine New.drewN ?_ _ | with_reducible refine New.drew ?_ | with_reducible refine New.setCell ?_ (by first | omega | (simp; done) | (simp; omega)) _ | with_reducible refine New.tail (by assumption) ?_))).mono ?_
            rintro _ w9 ⟨rfl, hn9⟩
            go_wp2_with fail
            go_ret
            exact ⟨rfl, hk.trans (hkr.trans (by repeat (first | with_reducible exact New.refl _ | with_reducible assumption | with_reducible refine New.alloc ?_ _ | with_reducible refine New.drewN ?_ _ | with_reducible refine New.drew ?_ | with_reducible refine New.setCell ?_ (by first | omega | (simp; done) | (simp; omega)) _ | with_reducible refine New.tail (by assumption) ?_)))⟩

set_option maxRecDepth 100000 in
theorem fnCloses_lifted (os : Os) (started : os.Started) (H : Type) (enc : TypeId × Value → H) :
    ReturnsInHanded {} Tryd.checked os 12 .any (fun w args => (Rows.fnClosesSpec.pre enc Tryd.prog Tryd.f12 [] false w args ∧ laidMetH Tryd.prog laidL w) ∧ sizedMet enc Tryd.prog Tryd.f12 (OpenSpec.ofChange Rows.fnClosesSpec) false w args)
      (Rows.fnClosesSpec.post enc Tryd.prog Tryd.f12 false true false false) := by
  refine returnsInHanded_of_change_and (C := Tryd.checked) (X := fun w _ => laidMetH Tryd.prog laidL w) (fun _ _ _ hh h => h.of_heap hh) own started (by kernel_rfl) Tryd.func12
    (ChangeSpec.witness_shaped (enc := enc) (C := Tryd.checked) (os := os) (X := fun w _ => laidMetH Tryd.prog laidL w) false (World.doorLaid Tryd.prog 400 os) #[.slice none 0 0] 8 rfl (World.shaped_of_RefB (by kernel_rfl) (by kernel_rfl)) (by kernel_rfl) (by kernel_rfl) (by kernel_rfl) (laidL_met os _)) ?_
  intro W base args ds gs before hval0 hW _ _ hL _
  have hval : ∀ (j : Nat) t v, Tryd.f12.params[j]? = some t → args[j]? = some v → Value.okWide Tryd.prog W .any base t v := hval0
  have hW' := hW
  obtain ⟨p, q, hA0, hV, rfl, hfz, hnd⟩ := hW
  have hA : DataW.TrodAll enc Tryd.prog W 0 (fun _ => true) true Tryd.f12.params.toList args.toList ds p := hA0
  have hlt : ∀ x ∈ p ++ q, x.block < W.heap.size := fun x hx => hW'.lt x hx
  rw [Tryd.params12] at hA hval
  obtain ⟨v0, d0, rfl, rfl, h0⟩ := trodAll_one hA
  clear hA0 hval0
  have hL : laidMetH Tryd.prog laidL W := hL
  obtain ⟨A, n, cap, rfl, hB, hc, hn⟩ := open_bytes (hval 0 _ _ rfl rfl) h0
  refine (lawFnCloses_walk A n cap W hB hc hn (tab_of_laid hL)).mono fun e W' ⟨he, hg⟩ => ?_
  subst he
  exact ⟨_, rfl, law_post laidOut hW' rfl ⟨rfl, rfl, rfl⟩ (by kernel_rfl) rfl Tryd.underlying4 hg⟩

theorem fnCloses_over : Rows.fnClosesRow.holds Tryd.pinned (OpenSpec.ofChange Rows.fnClosesSpec) :=
  OpenClaim.holds_of_wide 12 Tryd.f12 rfl rfl rfl rfl rfl rfl rfl ⟨rfl, rfl, rfl, rfl, rfl⟩ rfl rfl rfl rfl rfl (by kernel_rfl) Tryd.func12 (by kernel_rfl)
    (of_decide_eq_true (by kernel_rfl)) (by unfold Func.isWrapper; first | (rw [if_pos (by decide +kernel)]; kernel_rfl) | (rw [if_neg (by decide +kernel)]; exact ⟨rfl, rfl⟩))
    (fun os started H enc _ => fnCloses_lifted os started H enc)

/-- The given statement. -/
theorem fnCloses_holds : Rows.FnClosesCardSaid :=
  Claim7.holds_tied_plain_at .later [] [.data, .data, .data] true Rows.fnClosesCard.stood.harness Rows.fnClosesCard.stood.looks
    fnCloses_over (fun _ h => by cases h) (by kernel_rfl) (fun _ h => by cases h) fnCloses_row_tie rfl ⟨rfl, rfl⟩ (by kernel_rfl) rfl
    (fun f fn hf hfn => by
      obtain rfl : f = 12 := Option.some.inj ((show Tryd.prog.funcNamed "loop.example/cavesurvey/laws.FnCloses" = some 12 by kernel_rfl).symm.trans hf) |>.symm
      obtain rfl : fn = Tryd.f12 := (Option.some.inj (Tryd.func12.symm.trans hfn)).symm
      exact ⟨by kernel_rfl, fun j t ht => by
        rw [Tryd.params12] at ht
        have hm : t ∈ Tryd.f12.params.toList := by rw [Tryd.params12]; simpa using Array.mem_of_getElem? ht
        have hall : (Tryd.f12.params.toList.all fun u => !Tryd.prog.wantsStandIn u) = true := by kernel_rfl
        exact (show Tryd.prog.wantsStandIn t = false by simpa using List.all_eq_true.1 hall t hm)⟩)
    (by kernel_rfl)

#print axioms fnCloses_holds
end Go.Proofs.YtgcloaimolajjaaDoor
