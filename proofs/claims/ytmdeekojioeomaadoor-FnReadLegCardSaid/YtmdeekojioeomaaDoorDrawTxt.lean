/- The drawn text of a leg. -/
import Derived.Test.YtmdeekojioeomaaDoorDrawLeg
import Derived.Test.YtmdeekojioeomaaDoorNum
namespace Go.Proofs.YtmdeekojioeomaaDoor
open Go.RowKit
set_option linter.all false
set_option maxHeartbeats 1000000 in
theorem odd0_any (rb : Nat) (w : World) : Calls Tryd.prog 39 #[.pointer (some ⟨rb, 0, none⟩), .int .i64 0] w fun r w' => r = .returned (.bool false) ∧ w = w' := by
  go_enter Tryd.func39, Tryd.ntmps39
  go_wp2_with fail
  go_ret
  exact ⟨rfl, rfl⟩
theorem next_mod {f st : Int} (h0 : 0 ≤ f) (h1 : f < st) (h2 : 2 ≤ st) : 0 ≤ (f + 1) % st ∧ (f + 1) % st < st ∧ (f + 1) % st ≠ f := by
  refine ⟨Int.emod_nonneg _ (by omega), Int.emod_lt_of_pos _ (by omega), ?_⟩
  rcases (by omega : f + 1 < st ∨ f + 1 = st) with h | h
  · rw [Int.emod_eq_of_lt (by omega) h]; omega
  · rw [h, Int.emod_self]; omega
set_option maxHeartbeats 4000000 in
theorem l20LegOk_any (rb b : Nat) (st : Int) (w : World) (hr : Rd w rb b) (hb : b ≤ 1000000000) (hst2 : 2 ≤ st) (hs : st ≤ 6) :
    Calls Tryd.prog 21 #[.pointer (some ⟨rb, 0, none⟩), .int .i64 st, .int .i64 0] w fun r w' => ∃ f t e nn u : Int, r = .returned (.agg #[.int .i64 f, .int .i64 t, .int .i64 e, .int .i64 nn, .int .i64 u]) ∧ legB 6 f t e nn u = true ∧ Only rb w w' ∧ Rd w' rb (b + 20) := by
  have hlt := hr.lt
  have hst : 1 ≤ st := by omega
  have h1 := Has.new w #[.int .i64 0, .int .i64 0, .int .i64 0, .int .i64 0, .int .i64 0] 24
  have ho := Only.alloc (Only.refl rb w) (Obj.cells #[.int .i64 0, .int .i64 0, .int .i64 0, .int .i64 0, .int .i64 0] 24)
  have hr1 := hr.keep ((New.refl w).alloc (Obj.cells #[.int .i64 0, .int .i64 0, .int .i64 0, .int .i64 0, .int .i64 0] 24))
  clear hr
  go_enter Tryd.func21, Tryd.ntmps21
  go_upto_region 1 with fail
  generalize (w.alloc (Obj.cells #[.int .i64 0, .int .i64 0, .int .i64 0, .int .i64 0, .int .i64 0] 24)) = W0 at *
  go_wp2_with fail
  refine (pick_any rb _ _ _ hr1 (by omega) (by omega)).mono ?_
  rintro e w1 ⟨f, rfl, f0, f1, o1, r1⟩
  have f2 := f1 (by omega)
  have hA1 := h1.only o1 (by omega)
  have hO1 := ho.trans o1
  clear f1 o1 h1 ho hr1
  go_wp2_with fail
  refine (pick_any rb _ _ _ r1 (by omega) (by omega)).mono ?_
  rintro e w2 ⟨e, rfl, e0, e1, o2, r2⟩
  have e2 := e1 (by omega)
  have hA2 := hA1.only o2 (by omega)
  have hO2 := hO1.trans o2
  clear e1 o2 hA1 hO1 r1
  go_wp2_with fail
  refine (pick_any rb _ _ _ r2 (by omega) (by omega)).mono ?_
  rintro _ w3 ⟨nn, rfl, n0, n1, o3, r3⟩
  have n2 := n1 (by omega)
  have hA3 := hA2.only o3 (by omega)
  have hO3 := hO2.trans o3
  clear n1 o3 hA2 hO2 r2
  go_wp2_with fail
  refine (pick_any rb _ _ _ r3 (by omega) (by omega)).mono ?_
  rintro _ w4 ⟨u, rfl, u0, u1, o4, r4⟩
  have u2 := u1 (by omega)
  have hA4 := hA3.only o4 (by omega)
  have hO4 := hO3.trans o4
  have hlt4 := hA4.lt
  clear u1 o4 hA3 hO3 r3
  go_upto_region 2 with fail
  have hL : LegSt w (w4.alloc (.cells #[.int .i64 f, .int .i64 0, .int .i64 (e - 12), .int .i64 (nn - 12), .int .i64 (u - 5)] 24)) rb (b + 4) w4.heap.size f 0 (e - 12) (nn - 12) (u - 5) :=
    ⟨hO4.alloc _, r4.keep ((New.refl _).alloc _), hA4.alloc _, Has.new _ _ _⟩
  generalize (w4.alloc (.cells #[.int .i64 f, .int .i64 0, .int .i64 (e - 12), .int .i64 (nn - 12), .int .i64 (u - 5)] 24)) = W5 at *
  obtain ⟨g, hg⟩ : ∃ g, w4.heap.size = g := ⟨_, rfl⟩
  rw [hg] at hlt4 hL ⊢
  clear hA4 hO4 r4 hg
  go_wp2_with fail
  refine (pick_any rb _ _ _ hL.2.1 (by omega) (by omega)).mono ?_
  rintro _ w5 ⟨t, rfl, t0, t1, o5, r5⟩
  have t2 := t1 (by omega)
  have hL5 := hL.only o5 r5 hlt (by omega)
  have c5 := hL5.2.2.2.at5
  clear t1 o5 hL r5
  go_upto_region 3 with fail
  have hL6 := (hL5.set hlt (by omega)).2.1 t
  generalize (w5.setCell ⟨g, 1, none⟩ (.int .i64 t)) = W6 at *
  clear hL5 c5
  have c6 := hL6.2.2.2.at5
  have f3 : f < st := by omega
  have t3 : t < st := by omega
  have HM := Lib.hid (next_mod f0 f3 hst2)
  have HX : Hid (max st 1 = st) := by show _ = _; omega
  go_upto_if 31 with fail
  go_cut [] (fun wx => ∃ t' : Int, 0 ≤ t' ∧ t' < st ∧ f ≠ t' ∧ LegSt w wx rb (b + 4 + 1) g f t' (e - 12) (nn - 12) (u - 5))
  case first =>
    by_cases htf : t = f
    · go_wp2_with fail
      go_meet
      refine ⟨_, ?_, ?_, ?_, (hL6.set hlt (by omega)).2.1 _⟩
      · rw [HX.out]; exact HM.out.1
      · rw [HX.out]; exact HM.out.2.1
      · rw [HX.out]; exact fun h => HM.out.2.2 h.symm
    · have htf' : (t == f) = false := by simpa using htf
      go_wp2_with fail
      go_meet
      exact ⟨t, t0, t3, fun h => htf h.symm, hL6⟩
  case rest =>
    obtain ⟨t', ht0, ht1, hne, hL⟩ := hcut
    clear hL6 c6 HM HX t3
    have hv : legB 6 f t' (e - 12) (nn - 12) (u - 5) = true := legB_t.2 (by omega)
    go_wp2_with fail
    refine (odd0_any rb _).mono ?_
    rintro _ _ ⟨rfl, rfl⟩
    have hLf : LegSt w wc rb (b + 20) g f t' (e - 12) (nn - 12) (u - 5) := hL.le (by omega)
    clear hL
    obtain ⟨E, hE⟩ : ∃ E, e - 12 = E := ⟨_, rfl⟩
    obtain ⟨N, hN⟩ : ∃ N, nn - 12 = N := ⟨_, rfl⟩
    obtain ⟨U, hU⟩ : ∃ U, u - 5 = U := ⟨_, rfl⟩
    rw [hE, hN, hU] at hLf hv
    have c11 := hLf.2.2.2.at5
    have c12 := hLf.2.2.1.at5
    have c13 := (hLf.2.2.1.set5 (y0 := .int .i64 f) (y1 := .int .i64 t') (y2 := .int .i64 E) (y3 := .int .i64 N) (y4 := .int .i64 U)).at5
    have r13 := ((((hLf.2.1.far (p := ⟨w.heap.size, 0, none⟩) hlt (.int .i64 f)).far (p := ⟨w.heap.size, 1, none⟩) hlt (.int .i64 t')).far (p := ⟨w.heap.size, 2, none⟩) hlt (.int .i64 E)).far (p := ⟨w.heap.size, 3, none⟩) hlt (.int .i64 N)).far (p := ⟨w.heap.size, 4, none⟩) hlt (.int .i64 U)
    have o13 := ((((hLf.1.setNew (p := ⟨w.heap.size, 0, none⟩) (Nat.le_refl _) (.int .i64 f)).setNew (p := ⟨w.heap.size, 1, none⟩) (Nat.le_refl _) (.int .i64 t')).setNew (p := ⟨w.heap.size, 2, none⟩) (Nat.le_refl _) (.int .i64 E)).setNew (p := ⟨w.heap.size, 3, none⟩) (Nat.le_refl _) (.int .i64 N)).setNew (p := ⟨w.heap.size, 4, none⟩) (Nat.le_refl _) (.int .i64 U)
    clear hE hN hU
    go_wp2_with fail
    exact bodyPost_ret (v := .agg #[.int .i64 f, .int .i64 t', .int .i64 E, .int .i64 N, .int .i64 U]) (by simp [results, Tryd.results21, go_sem, c13]) rfl ⟨_, _, _, _, _, rfl, hv, o13, r13⟩
theorem ltx_size {f t e n u : Int} (hv : legB 6 f t e n u = true) : 1 ≤ (ltx f t e n u).size ∧ (ltx f t e n u).size ≤ 30 := by
  obtain ⟨-, -, f0, f1, t0, t1, -, e0, e1, n0, n1, u0, u1⟩ := legB_t.1 hv
  have z1 := tx_size f (by omega) (by omega)
  have z2 := tx_size t (by omega) (by omega)
  have z3 := wtx_size e n u ⟨e0, e1⟩ ⟨n0, n1⟩ ⟨u0, u1⟩
  have z4 : (⟨#[62]⟩ : ByteArray).size = 1 := rfl
  have z5 : (⟨#[58]⟩ : ByteArray).size = 1 := rfl
  rw [ltx_ok hv]
  simp only [ByteArray.size_append]
  omega
theorem pick5 {j : Int} (h0 : 0 ≤ j) (h : j < 5) : ∃ (k : Nat) (x : ByteArray), j = k ∧ k < 5 ∧ x.size ≤ 1 ∧ (#[.string ⟨#[]⟩, .string ⟨#[48]⟩, .string ⟨#[45]⟩, .string ⟨#[44]⟩, .string ⟨#[62]⟩] : Array Value)[k]? = some (.string x) ∧ [Value.string ⟨#[]⟩, .string ⟨#[48]⟩, .string ⟨#[45]⟩, .string ⟨#[44]⟩, .string ⟨#[62]⟩][k]? = some (.string x) ∧ ∀ h : k < ([Value.string ⟨#[]⟩, .string ⟨#[48]⟩, .string ⟨#[45]⟩, .string ⟨#[44]⟩, .string ⟨#[62]⟩] : List Value).length, [Value.string ⟨#[]⟩, .string ⟨#[48]⟩, .string ⟨#[45]⟩, .string ⟨#[44]⟩, .string ⟨#[62]⟩][k]'h = .string x := by
  rcases (by omega : j = 0 ∨ j = 1 ∨ j = 2 ∨ j = 3 ∨ j = 4) with rfl | rfl | rfl | rfl | rfl
  · exact ⟨0, _, rfl, by decide, by decide, rfl, rfl, fun _ => rfl⟩
  · exact ⟨1, _, rfl, by decide, by decide, rfl, rfl, fun _ => rfl⟩
  · exact ⟨2, _, rfl, by decide, by decide, rfl, rfl, fun _ => rfl⟩
  · exact ⟨3, _, rfl, by decide, by decide, rfl, rfl, fun _ => rfl⟩
  · exact ⟨4, _, rfl, by decide, by decide, rfl, rfl, fun _ => rfl⟩
set_option maxHeartbeats 4000000 in
theorem drawReadLeg_any (A : Option Addr) (n cap : Nat) (w : World) (hB : Bytes w A n) (hc : n ≤ cap) (hn : n ≤ maxLen) :
    Calls Tryd.prog 16 #[.slice A n cap] w fun r w' => ∃ s : ByteArray, r = .returned (.string s) ∧ s.size ≤ 100 ∧ New w w' := by
  go_enter Tryd.func16, Tryd.ntmps16
  go_wp2_with fail
  refine (l20Open_any A n cap _ hB hc hn).mono ?_
  rintro _ w1 ⟨rfl, hn1, hr1⟩
  obtain ⟨rb, hrb⟩ : ∃ rb, w.heap.size = rb := ⟨_, rfl⟩
  rw [hrb] at hr1 ⊢
  clear hB hc hn
  go_wp2_with fail
  refine (l20LegOk_any rb _ 6 _ hr1 (by omega) (by omega) (by omega)).mono ?_
  rintro _ w2 ⟨f, t, e, nn, u, rfl, hv, o2, r2⟩
  go_wp2_with fail
  refine (specLegText_any f t e nn u _).mono ?_
  rintro _ w3 ⟨rfl, hn3⟩
  have hz := ltx_size hv
  obtain ⟨X, hX⟩ : ∃ X, ltx f t e nn u = X := ⟨_, rfl⟩
  rw [hX] at hz ⊢
  have r3 := r2.keep hn3
  have hk3 : New w w3 := (hn1.onlyTo o2 (by omega)).trans hn3
  clear hX hn1 hr1 hn3 o2 r2 hv
  go_wp2_with fail
  refine (pick_any rb _ _ _ r3 (by omega) (by omega)).mono ?_
  rintro _ w4 ⟨v, rfl, v0, v1, o4, r4⟩
  have hk4 : New w w4 := hk3.onlyTo o4 (by omega)
  clear r3 hk3 o4 v1
  by_cases hv0 : v = 0
  · subst hv0
    go_wp2_with fail
    refine (pick_any rb _ _ _ r4 (by omega) (by omega)).mono ?_
    rintro _ w5 ⟨k, rfl, k0, k1, o5, r5⟩
    have k2 := k1 (by omega)
    obtain ⟨kn, rfl⟩ := Int.eq_ofNat_of_zero_le k0
    have hk5 : New w w5 := hk4.onlyTo o5 (by omega)
    have hr5 := fun w' (hn : New w5 w') => r5.keep hn
    have hk6 : kn < X.size := by omega
    clear r4 hk4 o5 k1 r5 v0 k0
    go_upto_region 5 with fail
    have hlt5 := (hr5 w5 (New.refl _)).lt
    have hwl : w.heap.size ≤ rb := by omega
    have hk10 : kn ≤ X.size := by omega
    obtain ⟨m, hm⟩ : ∃ m, kn + 1 = m := ⟨_, rfl⟩
    have hw1 : IntKind.i64.wrap ((kn : Int) + 1) = (m : Int) := by rw [IntKind.wrap_i64]; omega
    have hw3 : IntKind.i64.wrap (m : Int) = (m : Int) := by rw [IntKind.wrap_i64]; omega
    have hw2 : (kn : Int) + 1 = (m : Int) := by omega
    have hmX : m ≤ X.size := by omega
    have Hm := Lib.hid hm
    clear hm
    go_region_law (first | (go_simp; go_at_call 35; refine (pick_any rb _ _ _ (hr5 _ (by repeat (first | with_reducible exact New.refl _ | with_reducible assumption | with_reducible refine New.alloc ?_ _ | with_reducible refine New.drewN ?_ _ | with_reducible refine New.drew ?_ | with_reducible refine New.setCell ?_ (by first | omega | (simp; done) | (simp; omega)) _ | with_reducible refine New.tail (by assumption) ?_))) (by omega) (by omega)).mono ?_; rintro _ w6 ⟨j, rfl, j0, j1, o6, r6⟩; have hk7 : New w w6 := New.onlyTo (by repeat (first | with_reducible exact New.refl _ | with_reducible assumption | with_reducible refine New.alloc ?_ _ | with_reducible refine New.drewN ?_ _ | with_reducible refine New.drew ?_ | with_reducible refine New.setCell ?_ (by first | omega | (simp; done) | (simp; omega)) _ | with_reducible refine New.tail (by assumption) ?_)) o6 hwl; obtain ⟨jn, x, rfl, hj5, hxz, hx2, hx3, hx4⟩ := pick5 j0 (j1 (by omega)); have q1 : ¬ 9223372036854775807 < kn + x.size := (by omega); have q2 : ¬ 9223372036854775807 < kn + x.size + (X.size - m) := (by omega); (first | (have hh := ((Has.new _ _ _).only o6 (by (first | omega | (simp; omega) | (simp; done)))).cells jn w6 (New.refl _); rw [hx2] at hh) | (have hh := ((Has.new _ _ _).drew.only o6 (by (first | omega | (simp; omega) | (simp; done)))).cells jn w6 (New.refl _); rw [hx2] at hh) | (have hh := ((Has.new _ _ _).drew.drew.only o6 (by (first | omega | (simp; omega) | (simp; done)))).cells jn w6 (New.refl _); rw [hx2] at hh) | (have hh := ((Has.new _ _ _).drew.drew.drew.only o6 (by (first | omega | (simp; omega) | (simp; done)))).cells jn w6 (New.refl _); rw [hx2] at hh) | skip)))
    all_goals
      go_wp2_with fail
      go_ret
      exact ⟨_, rfl, by simp only [ByteArray.size_append, ByteArray.size_extract]; omega, (by repeat (first | with_reducible exact New.refl _ | with_reducible assumption | with_reducible refine New.alloc ?_ _ | with_reducible refine New.drewN ?_ _ | with_reducible refine New.drew ?_ | with_reducible refine New.setCell ?_ (by first | omega | (simp; done) | (simp; omega)) _ | with_reducible refine New.tail (by assumption) ?_))⟩
  · have hv0' : (v == 0) = false := by simpa using hv0
    go_wp2_with fail
    go_ret
    exact ⟨_, rfl, by omega, hk4⟩
end Go.Proofs.YtmdeekojioeomaaDoor
