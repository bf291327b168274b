/- Drawn legs. -/
import Derived.Test.YtmdeekojioeomaaDoorDrawL
namespace Go.Proofs.YtmdeekojioeomaaDoor
open Go.RowKit
set_option linter.all false
def smallB (x : Int) : Prop := -1000 ≤ x ∧ x ≤ 1000
/-- The reader, the leg that is made, the cell of the result: all stand. -/
def LegSt (w0 w : World) (rb b g : Nat) (f t e n u : Int) : Prop := Only rb w0 w ∧ Rd w rb b ∧ Has w w0.heap.size #[.int .i64 0, .int .i64 0, .int .i64 0, .int .i64 0, .int .i64 0] 24 ∧ Has w g #[.int .i64 f, .int .i64 t, .int .i64 e, .int .i64 n, .int .i64 u] 24
theorem LegSt.only {w0 w w' : World} {rb b g : Nat} {f t e n u : Int} (h : LegSt w0 w rb b g f t e n u) (ho : Only rb w w') {b' : Nat} (hr : Rd w' rb b') (h1 : rb < w0.heap.size) (h2 : rb < g) : LegSt w0 w' rb b' g f t e n u :=
  ⟨h.1.trans ho, hr, h.2.2.1.only ho (by omega), h.2.2.2.only ho (by omega)⟩
theorem LegSt.set {w0 w : World} {rb b g : Nat} {f t e n u : Int} (h : LegSt w0 w rb b g f t e n u) (h1 : rb < w0.heap.size) (h2 : w0.heap.size < g) :
    (∀ v, LegSt w0 (w.setCell ⟨g, 0, none⟩ (.int .i64 v)) rb b g v t e n u) ∧ (∀ v, LegSt w0 (w.setCell ⟨g, 1, none⟩ (.int .i64 v)) rb b g f v e n u) ∧ (∀ v, LegSt w0 (w.setCell ⟨g, 2, none⟩ (.int .i64 v)) rb b g f t v n u) := by
  obtain ⟨o, r, a, c⟩ := h
  refine ⟨fun v => ⟨o.setNew (p := ⟨g, 0, none⟩) (by simp; omega) _, r.far (p := ⟨g, 0, none⟩) (by simp; omega) _, a.far (p := ⟨g, 0, none⟩) (by simp; omega) _, ?_⟩, fun v => ⟨o.setNew (p := ⟨g, 1, none⟩) (by simp; omega) _, r.far (p := ⟨g, 1, none⟩) (by simp; omega) _, a.far (p := ⟨g, 1, none⟩) (by simp; omega) _, ?_⟩, fun v => ⟨o.setNew (p := ⟨g, 2, none⟩) (by simp; omega) _, r.far (p := ⟨g, 2, none⟩) (by simp; omega) _, a.far (p := ⟨g, 2, none⟩) (by simp; omega) _, ?_⟩⟩
  · simpa using c.set 0 (.int .i64 v)
  · simpa using c.set 1 (.int .i64 v)
  · simpa using c.set 2 (.int .i64 v)
theorem LegSt.new {w0 w w' : World} {rb b g : Nat} {f t e n u : Int} (h : LegSt w0 w rb b g f t e n u) (hn : New w w') : LegSt w0 w' rb b g f t e n u :=
  ⟨h.1.trans (Only.of_new hn), h.2.1.keep hn, h.2.2.1.keep hn, h.2.2.2.keep hn⟩
theorem LegSt.le {w0 w : World} {rb b b' g : Nat} {f t e n u : Int} (h : LegSt w0 w rb b g f t e n u) (hb : b ≤ b') : LegSt w0 w rb b' g f t e n u := ⟨h.1, h.2.1.le hb, h.2.2.1, h.2.2.2⟩
theorem max_cases (st : Int) : max st 1 = if 1 ≤ st then st else 1 := by split <;> omega
set_option maxHeartbeats 4000000 in
theorem l20Leg_any (rb b : Nat) (st n : Int) (w : World) (hr : Rd w rb b) (hb : b ≤ 1000000000) (hs : -1000 ≤ st ∧ st ≤ 999) (hn : n ≤ 1000) :
    Calls Tryd.prog 21 #[.pointer (some ⟨rb, 0, none⟩), .int .i64 st, .int .i64 n] w fun r w' => ∃ f t e nn u : Int, r = .returned (.agg #[.int .i64 f, .int .i64 t, .int .i64 e, .int .i64 nn, .int .i64 u]) ∧ (smallB f ∧ smallB t ∧ smallB e ∧ smallB nn ∧ smallB u) ∧ Only rb w w' ∧ Rd w' rb (b + 20) := by
  have hlt := hr.lt
  have h1 := Has.new w #[.int .i64 0, .int .i64 0, .int .i64 0, .int .i64 0, .int .i64 0] 24
  have ho := Only.alloc (Only.refl rb w) (Obj.cells #[.int .i64 0, .int .i64 0, .int .i64 0, .int .i64 0, .int .i64 0] 24)
  have hr1 := hr.keep ((New.refl w).alloc (Obj.cells #[.int .i64 0, .int .i64 0, .int .i64 0, .int .i64 0, .int .i64 0] 24))
  clear hr
  by_cases hst : 1 ≤ st
  all_goals
    go_enter Tryd.func21, Tryd.ntmps21
    go_upto_region 1 with fail
    generalize (w.alloc (Obj.cells #[.int .i64 0, .int .i64 0, .int .i64 0, .int .i64 0, .int .i64 0] 24)) = W0 at *
    go_wp2_with fail
    refine (pick_any rb _ _ _ hr1 (by omega) (by omega)).mono ?_
    rintro e w1 ⟨f, rfl, f0, f1, o1, r1⟩
    have f2 := f1 (by omega)
    have hA1 := h1.only o1 (by omega)
    have hO1 := ho.trans o1
    clear f1 o1 h1 ho hr1
    go_wp2_with fail
    refine (pick_any rb _ _ _ r1 (by omega) (by omega)).mono ?_
    rintro e w2 ⟨e, rfl, e0, e1, o2, r2⟩
    have e2 := e1 (by omega)
    have hA2 := hA1.only o2 (by omega)
    have hO2 := hO1.trans o2
    clear e1 o2 hA1 hO1 r1
    go_wp2_with fail
    refine (pick_any rb _ _ _ r2 (by omega) (by omega)).mono ?_
    rintro _ w3 ⟨nn, rfl, n0, n1, o3, r3⟩
    have n2 := n1 (by omega)
    have hA3 := hA2.only o3 (by omega)
    have hO3 := hO2.trans o3
    clear n1 o3 hA2 hO2 r2
    go_wp2_with fail
    refine (pick_any rb _ _ _ r3 (by omega) (by omega)).mono ?_
    rintro _ w4 ⟨u, rfl, u0, u1, o4, r4⟩
    have u2 := u1 (by omega)
    have hA4 := hA3.only o4 (by omega)
    have hO4 := hO3.trans o4
    have hlt4 := hA4.lt
    clear u1 o4 hA3 hO3 r3
    go_upto_region 2 with fail
    have hL : LegSt w (w4.alloc (.cells #[.int .i64 f, .int .i64 0, .int .i64 (e - 12), .int .i64 (nn - 12), .int .i64 (u - 5)] 24)) rb (b + 4) w4.heap.size f 0 (e - 12) (nn - 12) (u - 5) :=
      ⟨hO4.alloc _, r4.keep ((New.refl _).alloc _), hA4.alloc _, Has.new _ _ _⟩
    generalize (w4.alloc (.cells #[.int .i64 f, .int .i64 0, .int .i64 (e - 12), .int .i64 (nn - 12), .int .i64 (u - 5)] 24)) = W5 at *
    obtain ⟨g, hg⟩ : ∃ g, w4.heap.size = g := ⟨_, rfl⟩
    rw [hg] at hlt4 hL ⊢
    clear hA4 hO4 r4 hg
    go_wp2_with fail
    refine (pick_any rb _ _ _ hL.2.1 (by omega) (by omega)).mono ?_
    rintro _ w5 ⟨t, rfl, t0, t1, o5, r5⟩
    have t2 := t1 (by omega)
    have hL5 := hL.only o5 r5 hlt (by omega)
    have c5 := hL5.2.2.2.at5
    clear t1 o5 hL r5
    go_upto_region 3 with fail
    have hL6 := (hL5.set hlt (by omega)).2.1 t
    generalize (w5.setCell ⟨g, 1, none⟩ (.int .i64 t)) = W6 at *
    clear hL5 c5
    have c6 := hL6.2.2.2.at5
    have Hft := Lib.hid (And.intro (And.intro f0 f2) (And.intro t0 t2))
    go_upto_if 31 with fail
    go_cut [] (fun wx => ∃ t' : Int, -1000 ≤ t' ∧ t' ≤ 1000 ∧ LegSt w wx rb (b + 4 + 1) g f t' (e - 12) (nn - 12) (u - 5))
    case first =>
      by_cases htf : t = f
      · go_wp2_with fail
        go_meet
        refine ⟨_, ?_, ?_, (hL6.set hlt (by omega)).2.1 _⟩
        · first | omega | (have := Int.emod_nonneg (f + 1) (show st ≠ 0 by omega); omega)
        · first | omega | (have := Int.emod_lt_of_pos (f + 1) (show 0 < st by omega); omega)
      · have htf' : (t == f) = false := by simpa using htf
        first
          | (exfalso; have := Hft.out; omega)
          | (go_wp2_with fail
             go_meet
             exact ⟨t, by have := Hft.out; omega, by have := Hft.out; omega, hL6⟩)
    case rest =>
      obtain ⟨t', ht0, ht1, hL⟩ := hcut
      clear hL6 c6
      have hs0 : smallB f ∧ smallB t' ∧ smallB (e - 12) ∧ smallB (nn - 12) ∧ smallB (u - 5) := by unfold smallB; have := Hft.out; omega
      go_wp2_with fail
      refine (odd_any rb _ _ _ hL.2.1 (by omega) (by omega)).mono ?_
      rintro _ w7 ⟨v, rfl, o7, r7⟩
      have hL7 := hL.only o7 r7 hlt (by omega)
      clear hL o7 r7
      go_upto_if 41 with fail
      go_cut [] (fun wx => ∃ f t e n u : Int, (smallB f ∧ smallB t ∧ smallB e ∧ smallB n ∧ smallB u) ∧ LegSt w wx rb (b + 20) g f t e n u)
      case first =>
        cases v
        · go_wp2_with fail
          go_meet
          exact ⟨_, _, _, _, _, hs0, hL7.le (by omega)⟩
        · go_wp2_with fail
          refine (pick_any rb _ _ _ hL7.2.1 (by omega) (by omega)).mono ?_
          rintro _ w8 ⟨k, rfl, k0, k1, o8, r8⟩
          have k2 := k1 (by omega)
          have hL8 := hL7.only o8 r8 hlt (by omega)
          have c8 := hL8.2.2.2.at5
          clear k1 o8 hL7 r8
          by_cases hk0 : k = 0
          · subst hk0
            go_wp2_with fail
            go_meet
            exact ⟨_, _, _, _, _, ⟨hs0.1, hs0.1, hs0.2.2⟩, ((hL8.set hlt (by omega)).2.1 _).le (by omega)⟩
          by_cases hk1 : k = 1
          · subst hk1
            have hz8 := hL8.2.1.lt
            have h9 := Has.new w8 #[.int .i64 (-1), .int .i64 st] 3
            have hL9 := hL8.new ((New.refl w8).alloc (.cells #[.int .i64 (-1), .int .i64 st] 3))
            have hg9 := hL8.2.2.2.lt
            go_upto_region 11 with fail
            go_wp2_with fail
            refine (pick_any rb _ _ _ hL9.2.1 (by omega) (by omega)).mono ?_
            rintro _ w9 ⟨j, rfl, j0, j1, o9, r9⟩
            have j2 := j1 (by omega)
            have hL10 := hL9.only o9 r9 hlt (by omega)
            have h10 := (h9.only o9 (by omega)).at2
            have c10 := hL10.2.2.2.at5
            clear c8 h9 hL9 o9 r9 j1
            have hj : j = 0 ∨ j = 1 := by omega
            rcases hj with rfl | rfl
            · go_wp2_with fail
              go_meet
              exact ⟨_, _, _, _, _, ⟨by unfold smallB; omega, hs0.2⟩, ((hL10.set hlt (by omega)).1 _).le (by omega)⟩
            · go_wp2_with fail
              go_meet
              exact ⟨_, _, _, _, _, ⟨by unfold smallB; omega, hs0.2⟩, ((hL10.set hlt (by omega)).1 _).le (by omega)⟩
          · have hz8 := hL8.2.1.lt
            have h9 := Has.new w8 #[.int .i64 (-100), .int .i64 100] 3
            have hL9 := hL8.new ((New.refl w8).alloc (.cells #[.int .i64 (-100), .int .i64 100] 3))
            have hg9 := hL8.2.2.2.lt
            have hk0' : (k == 0) = false := by simpa using hk0
            have hk1' : (k == 1) = false := by simpa using hk1
            go_wp2_with fail
            refine (pick_any rb _ _ _ hL9.2.1 (by omega) (by omega)).mono ?_
            rintro _ w9 ⟨j, rfl, j0, j1, o9, r9⟩
            have j2 := j1 (by omega)
            have hL10 := hL9.only o9 r9 hlt (by omega)
            have h10 := (h9.only o9 (by omega)).at2
            have c10 := hL10.2.2.2.at5
            clear c8 h9 hL9 o9 r9 j1
            have hj : j = 0 ∨ j = 1 := by omega
            rcases hj with rfl | rfl
            · go_wp2_with fail
              go_meet
              exact ⟨_, _, _, _, _, ⟨hs0.1, hs0.2.1, by unfold smallB; omega, hs0.2.2.2⟩, ((hL10.set hlt (by omega)).2.2 _).le (by omega)⟩
            · go_wp2_with fail
              go_meet
              exact ⟨_, _, _, _, _, ⟨hs0.1, hs0.2.1, by unfold smallB; omega, hs0.2.2.2⟩, ((hL10.set hlt (by omega)).2.2 _).le (by omega)⟩
      case rest =>
        obtain ⟨F, T, E, N, U, hsm, hLf⟩ := hcut
        have c11 := hLf.2.2.2.at5
        have c12 := hLf.2.2.1.at5
        have c13 := (hLf.2.2.1.set5 (y0 := .int .i64 F) (y1 := .int .i64 T) (y2 := .int .i64 E) (y3 := .int .i64 N) (y4 := .int .i64 U)).at5
        have r13 := ((((hLf.2.1.far (p := ⟨w.heap.size, 0, none⟩) hlt (.int .i64 F)).far (p := ⟨w.heap.size, 1, none⟩) hlt (.int .i64 T)).far (p := ⟨w.heap.size, 2, none⟩) hlt (.int .i64 E)).far (p := ⟨w.heap.size, 3, none⟩) hlt (.int .i64 N)).far (p := ⟨w.heap.size, 4, none⟩) hlt (.int .i64 U)
        have o13 := ((((hLf.1.setNew (p := ⟨w.heap.size, 0, none⟩) (Nat.le_refl _) (.int .i64 F)).setNew (p := ⟨w.heap.size, 1, none⟩) (Nat.le_refl _) (.int .i64 T)).setNew (p := ⟨w.heap.size, 2, none⟩) (Nat.le_refl _) (.int .i64 E)).setNew (p := ⟨w.heap.size, 3, none⟩) (Nat.le_refl _) (.int .i64 N)).setNew (p := ⟨w.heap.size, 4, none⟩) (Nat.le_refl _) (.int .i64 U)
        go_wp2_with fail
        exact bodyPost_ret (v := .agg #[.int .i64 F, .int .i64 T, .int .i64 E, .int .i64 N, .int .i64 U]) (by simp [results, Tryd.results21, go_sem, c13]) rfl ⟨_, _, _, _, _, rfl, hsm, o13, r13⟩
set_option maxHeartbeats 1000000 in
theorem drawLegText_any (A : Option Addr) (n cap : Nat) (w : World) (hB : Bytes w A n) (hc : n ≤ cap) (hn : n ≤ maxLen) :
    Calls Tryd.prog 8 #[.slice A n cap] w fun r w' => ∃ f t e nn u : Int, r = .returned (.agg #[.int .i64 f, .int .i64 t, .int .i64 e, .int .i64 nn, .int .i64 u]) ∧ (smallB f ∧ smallB t ∧ smallB e ∧ smallB nn ∧ smallB u) ∧ New w w' := by
  have h1 := Has.new w #[.int .i64 0, .int .i64 0, .int .i64 0, .int .i64 0, .int .i64 0] 24
  have hk : New w (w.alloc (Obj.cells #[.int .i64 0, .int .i64 0, .int .i64 0, .int .i64 0, .int .i64 0] 24)) := (by repeat (first | with_reducible exact New.refl _ | with_reducible assumption | with_reducible refine New.alloc ?_ _ | with_reducible refine New.drewN ?_ _ | with_reducible refine New.drew ?_ | with_reducible refine New.setCell ?_ (by first | omega | (simp; done) | (simp; omega)) _ | with_reducible refine New.tail (by assumption) ?_))
  have hz : w.heap.size + 1 ≤ (w.alloc (Obj.cells #[.int .i64 0, .int .i64 0, .int .i64 0, .int .i64 0, .int .i64 0] 24)).heap.size := by simp
  go_enter Tryd.func8, Tryd.ntmps8
  go_upto_region 1 with fail
  generalize (w.alloc (Obj.cells #[.int .i64 0, .int .i64 0, .int .i64 0, .int .i64 0, .int .i64 0] 24)) = W0 at *
  go_wp2_with fail
  refine (l20Open_any A n cap _ (hB.keep hk) hc hn).mono ?_
  rintro e w1 ⟨rfl, hn1, hr1⟩
  have h3 := h1.keep hn1
  have hk1 := hk.trans hn1
  clear h1 hn1
  go_wp2_with fail
  refine (l20Leg_any _ _ _ _ _ hr1 (by omega) (by omega) (by omega)).mono ?_
  rintro _ w2 ⟨F, T, E, N, U, rfl, hsm, ho2, hr2⟩
  have h5 := h3.only ho2 (by omega)
  have hk2 := hk1.onlyTo ho2 (by omega)
  have c5 := h5.at5
  have c6 := (h5.set5 (y0 := .int .i64 F) (y1 := .int .i64 T) (y2 := .int .i64 E) (y3 := .int .i64 N) (y4 := .int .i64 U)).at5
  clear h3 hk1 ho2 hr1 hr2 h5
  go_wp2_with fail
  exact bodyPost_ret (v := .agg #[.int .i64 F, .int .i64 T, .int .i64 E, .int .i64 N, .int .i64 U]) (by simp [results, Tryd.results8, go_sem, c6]) rfl ⟨_, _, _, _, _, rfl, hsm, (by repeat (first | with_reducible exact New.refl _ | with_reducible assumption | with_reducible refine New.alloc ?_ _ | with_reducible refine New.drewN ?_ _ | with_reducible refine New.drew ?_ | with_reducible refine New.setCell ?_ (by first | omega | (simp; done) | (simp; omega)) _ | with_reducible refine New.tail (by assumption) ?_))⟩
end Go.Proofs.YtmdeekojioeomaaDoor
