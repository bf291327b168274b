/- Contracts of l1Number and LegText of the reference. -/
import Derived.Test.YtmdeekojioeomaaDoorText
import Derived.Laws.IdiomStrings
namespace Go.Proofs.YtmdeekojioeomaaDoor
open Go.RowKit
set_option linter.all false
/-- The text of one digit. -/
def digC (x : Nat) : ByteArray := ⟨#[UInt8.ofNat (48 + x)]⟩
theorem digC_size (x : Nat) : (digC x).size = 1 := rfl
theorem tx_dig : ∀ d : Fin 10, tx (d.val : Int) = digC d.val := by decide +kernel
theorem tx_two : ∀ d : Fin 100, 10 ≤ d.val → tx (d.val : Int) = tx ((d.val / 10 : Nat) : Int) ++ digC (d.val % 10) := by decide +kernel
theorem tx_neg : ∀ d : Fin 100, 0 < d.val → tx (-(d.val : Int)) = ⟨#[45]⟩ ++ tx (d.val : Int) := by decide +kernel
theorem one_text (x : Nat) (hx : x < 10) (W : World) (b : Nat) (h : W.cell? ⟨b, 0, none⟩ = some (.int .u8 (48 + (x : Int)))) :
    (convert 22 9 (.slice (some ⟨b, 0, none⟩) 1 1)).run Tryd.prog W = .ok (.string (digC x)) W :=
  run_convert_bytes_back W 22 9 5 ⟨b, 0, none⟩ 1 [UInt8.ofNat (48 + x)] Tryd.underlying22 Tryd.underlying5 Tryd.underlying9 (fun j hj => by
    have hj0 : j = 0 := by simpa using hj
    subst hj0
    have e : (⟨b, 0, none⟩ : Addr).add 0 = ⟨b, 0, none⟩ := by unfold Addr.add; simp
    rw [e, h]
    simp
    omega)
set_option maxHeartbeats 1000000 in
set_option maxRecDepth 100000 in
theorem l1Dig_any (d : Nat) (hd : d < 10) (w : World) : Calls Tryd.prog 27 #[.int .i64 d] w fun r w' => r = .returned (.string (tx d)) ∧ New w w' := by
  have h0 : ¬ (d : Int) < 0 := by omega
  have h1 : (d : Int) < 10 := by omega
  have HT := Lib.hid (tx_dig ⟨d, hd⟩)
  have qC := one_text d hd
  have c1 := (Has.new w #[.int .u8 (48 + (d : Int))] 5).at1
  go_enter Tryd.func27, Tryd.ntmps27
  go_wp2_with fail
  go_ret
  exact ⟨by rw [HT.out]; rfl, (by repeat (first | with_reducible exact New.refl _ | with_reducible assumption | with_reducible refine New.alloc ?_ _ | with_reducible refine New.drewN ?_ _ | with_reducible refine New.drew ?_ | with_reducible refine New.setCell ?_ (by first | omega | (simp; done) | (simp; omega)) _ | with_reducible refine New.tail (by assumption) ?_))⟩
set_option maxHeartbeats 1000000 in
set_option maxRecDepth 100000 in
theorem l1Two_any (d : Nat) (hd : d < 100) (w : World) : Calls Tryd.prog 27 #[.int .i64 d] w fun r w' => r = .returned (.string (tx d)) ∧ New w w' := by
  by_cases hlt : d < 10
  · exact l1Dig_any d hlt w
  · have h0 : ¬ (d : Int) < 0 := by omega
    have h1 : ¬ (d : Int) < 10 := by omega
    have HT := Lib.hid (tx_two ⟨d, hd⟩ (by simp; omega))
    obtain ⟨q, hq⟩ : ∃ q, d / 10 = q := ⟨_, rfl⟩
    obtain ⟨r, hr⟩ : ∃ r, d % 10 = r := ⟨_, rfl⟩
    have e1 : Int.tdiv (d : Int) 10 = (q : Int) := by rw [← hq]; rfl
    have e2 : Int.tmod (d : Int) 10 = (r : Int) := by rw [← hr]; rfl
    have e3 : (d : Int) / 10 = (q : Int) := by omega
    have e4 : (d : Int) % 10 = (r : Int) := by omega
    have hds := digC_size r
    have v1 : IntKind.i64.wrap (q : Int) = (q : Int) := by rw [IntKind.wrap_i64]; omega
    have v2 : IntKind.i64.wrap (48 + (r : Int)) = 48 + (r : Int) := by rw [IntKind.wrap_i64]; omega
    have v3 : IntKind.u8.wrap (48 + (r : Int)) = 48 + (r : Int) := by first | (rw [IntKind.wrap_u8]; omega) | (simp [IntKind.wrap]; omega)
    have hr10 : r < 10 := by omega
    have qC := one_text r hr10
    have hQ := fun w => l1Dig_any q (by omega) w
    have hz := tx_size q (by omega) (by omega)
    simp only [hq, hr] at HT
    obtain ⟨Q, hQQ⟩ : ∃ Q, tx (q : Int) = Q := ⟨_, rfl⟩
    rw [hQQ] at hQ HT hz
    have s1 : ¬ (9223372036854775807 < Q.size + 1) := by omega
    clear hq hr hQQ
    go_enter Tryd.func27, Tryd.ntmps27
    go_wp2_with fail
    go_region_law (first | (go_simp; go_at_call 27; with_reducible refine (hQ _).mono ?_; rintro _ w1 ⟨rfl, hn⟩; have hk : New w w1 := New.tail hn (by repeat (first | with_reducible exact New.refl _ | with_reducible assumption | with_reducible refine New.alloc ?_ _ | with_reducible refine New.drewN ?_ _ | with_reducible refine New.drew ?_ | with_reducible refine New.setCell ?_ (by first | omega | (simp; done) | (simp; omega)) _ | with_reducible refine New.tail (by assumption) ?_)); (first | (have hh := (Has.keep (Has.new _ _ _) hn).at1) | (have hh := (Has.keep (Has.new _ _ _).drew hn).at1) | skip)))
    all_goals
      go_wp2_with fail
      go_ret
      exact ⟨by rw [HT.out]; rfl, (by repeat (first | with_reducible exact New.refl _ | with_reducible assumption | with_reducible refine New.alloc ?_ _ | with_reducible refine New.drewN ?_ _ | with_reducible refine New.drew ?_ | with_reducible refine New.setCell ?_ (by first | omega | (simp; done) | (simp; omega)) _ | with_reducible refine New.tail (by assumption) ?_))⟩
set_option maxHeartbeats 1000000 in
set_option maxRecDepth 100000 in
theorem l1Number_any (n : Int) (w : World) (h0 : -99 ≤ n) (h1 : n ≤ 99) : Calls Tryd.prog 27 #[.int .i64 n] w fun r w' => r = .returned (.string (tx n)) ∧ New w w' := by
  by_cases hneg : n < 0
  · obtain ⟨d, rfl⟩ : ∃ d : Nat, n = -(d : Int) := ⟨n.natAbs, by omega⟩
    have hd : d < 100 := by omega
    have HT := Lib.hid (tx_neg ⟨d, hd⟩ (by simp; omega))
    have hQ := fun w => l1Two_any d hd w
    have hz := tx_size d (by omega) (by omega)
    obtain ⟨Q, hQQ⟩ : ∃ Q, tx (d : Int) = Q := ⟨_, rfl⟩
    simp only at HT
    rw [hQQ] at hQ HT hz
    have s1 : ¬ (9223372036854775807 < 1 + Q.size) := by omega
    have hne : ((-(d : Int)) == (d : Int)) = false := by simp; omega
    have hd0 : -(d : Int) < 0 := by omega
    have hd1 : (0 : Int) < (d : Int) := by omega
    clear hQQ hneg
    go_enter Tryd.func27, Tryd.ntmps27
    go_wp2_with fail
    refine (hQ _).mono ?_
    rintro _ w1 ⟨rfl, hn⟩
    go_wp2_with fail
    go_ret
    exact ⟨by rw [HT.out]; rfl, hn⟩
  · obtain ⟨d, rfl⟩ := Int.eq_ofNat_of_zero_le (show 0 ≤ n by omega)
    exact l1Two_any d (by omega) w
set_option maxHeartbeats 1000000 in
set_option maxRecDepth 100000 in
theorem specLegText_any (f t e n u : Int) (w : World) :
    Calls Tryd.prog 10 #[.agg #[.int .i64 f, .int .i64 t, .int .i64 e, .int .i64 n, .int .i64 u]] w fun r w' => r = .returned (.string (ltx f t e n u)) ∧ New w w' := by
  have h1 : New w (w.alloc (Obj.cells #[.int .i64 f, .int .i64 t, .int .i64 e, .int .i64 n, .int .i64 u] 24)) := (by repeat (first | with_reducible exact New.refl _ | with_reducible assumption | with_reducible refine New.alloc ?_ _ | with_reducible refine New.drewN ?_ _ | with_reducible refine New.drew ?_ | with_reducible refine New.setCell ?_ (by first | omega | (simp; done) | (simp; omega)) _ | with_reducible refine New.tail (by assumption) ?_))
  have h2 := Has.new w #[.int .i64 f, .int .i64 t, .int .i64 e, .int .i64 n, .int .i64 u] 24
  cases hv : legB 6 f t e n u
  · have HX := Lib.hid (ltx_no hv)
    have HV := Lib.hid hv
    clear hv
    go_enter Tryd.func10, Tryd.ntmps10
    go_upto_region 1 with fail
    generalize (w.alloc (Obj.cells #[.int .i64 f, .int .i64 t, .int .i64 e, .int .i64 n, .int .i64 u] 24)) = W0 at *
    have c2 := h2.cells5
    clear h2
    go_wp2_with fail
    refine (specLegValid_any _ _ _ _ _ _ _).mono ?_
    rw [HV.out]
    rintro e w1 ⟨rfl, hn1⟩
    go_wp2_with fail
    rw [HX.out]
    go_ret
    exact ⟨rfl, h1.trans hn1⟩
  · have HX := Lib.hid (ltx_ok hv)
    have HV := Lib.hid hv
    obtain ⟨-, -, f0, f1, t0, t1, -, e0, e1, n0, n1, u0, u1⟩ := legB_t.1 hv
    have HF := fun w => l1Number_any f w (by omega) (by omega)
    have HG := fun w => l1Number_any t w (by omega) (by omega)
    have HE := fun w => l1Number_any e w (by omega) (by omega)
    have HN := fun w => l1Number_any n w (by omega) (by omega)
    have HU := fun w => l1Number_any u w (by omega) (by omega)
    have z1 := tx_size f (by omega) (by omega)
    have z2 := tx_size t (by omega) (by omega)
    have z3 := tx_size e (by omega) (by omega)
    have z4 := tx_size n (by omega) (by omega)
    have z5 := tx_size u (by omega) (by omega)
    unfold wtx at HX
    obtain ⟨F, hF⟩ : ∃ x, tx f = x := ⟨_, rfl⟩
    obtain ⟨G, hG⟩ : ∃ x, tx t = x := ⟨_, rfl⟩
    obtain ⟨E, hE⟩ : ∃ x, tx e = x := ⟨_, rfl⟩
    obtain ⟨N, hN⟩ : ∃ x, tx n = x := ⟨_, rfl⟩
    obtain ⟨U, hU⟩ : ∃ x, tx u = x := ⟨_, rfl⟩
    rw [hF] at HF z1
    rw [hG] at HG z2
    rw [hE] at HE z3
    rw [hN] at HN z4
    rw [hU] at HU z5
    rw [hF, hG, hE, hN, hU] at HX
    have HX2 : Hid (ltx f t e n u = F ++ ⟨#[62]⟩ ++ G ++ ⟨#[58]⟩ ++ E ++ ⟨#[44]⟩ ++ N ++ ⟨#[44]⟩ ++ U) := by
      show _ = _
      rw [HX.out]
      simp only [ByteArray.append_assoc]
    have s1 : ¬ (9223372036854775807 < F.size + 1) := by omega
    have s2 : ¬ (9223372036854775807 < F.size + 1 + G.size) := by omega
    have s3 : ¬ (9223372036854775807 < F.size + 1 + G.size + 1) := by omega
    have s4 : ¬ (9223372036854775807 < F.size + 1 + G.size + 1 + E.size) := by omega
    have s5 : ¬ (9223372036854775807 < F.size + 1 + G.size + 1 + E.size + 1) := by omega
    have s6 : ¬ (9223372036854775807 < F.size + 1 + G.size + 1 + E.size + 1 + N.size) := by omega
    have s7 : ¬ (9223372036854775807 < F.size + 1 + G.size + 1 + E.size + 1 + N.size + 1) := by omega
    have s8 : ¬ (9223372036854775807 < F.size + 1 + G.size + 1 + E.size + 1 + N.size + 1 + U.size) := by omega
    rw [HX2.out]
    clear hv hF hG hE hN hU f0 f1 t0 t1 e0 e1 n0 n1 u0 u1 HX
    go_enter Tryd.func10, Tryd.ntmps10
    go_upto_region 1 with fail
    generalize (w.alloc (Obj.cells #[.int .i64 f, .int .i64 t, .int .i64 e, .int .i64 n, .int .i64 u] 24)) = W0 at *
    have c2 := h2.cells5
    clear h2
    go_wp2_with fail
    refine (specLegValid_any _ _ _ _ _ _ _).mono ?_
    rw [HV.out]
    rintro _ w1 ⟨rfl, hn1⟩
    have c3 := fun w' hn => c2 w' (hn1.trans hn)
    clear c2
    go_wp2_with fail
    go_region_held3 (fun w' => New w1 w') ((repeat (first | with_reducible exact New.refl _ | with_reducible assumption | with_reducible refine New.alloc ?_ _ | with_reducible refine New.drewN ?_ _ | with_reducible refine New.drew ?_ | with_reducible refine New.setCell ?_ (by first | omega | (simp; done) | (simp; omega)) _ | with_reducible refine New.tail (by assumption) ?_))) (first | (go_at_call 27; (first | with_reducible refine (HF _).mono ?_ | with_reducible refine (HG _).mono ?_ | with_reducible refine (HE _).mono ?_ | with_reducible refine (HN _).mono ?_ | with_reducible refine (HU _).mono ?_); rintro _ x1 ⟨rfl, hx1⟩))
    all_goals
      go_wp2_with fail
      go_ret
      exact ⟨rfl, h1.trans (hn1.trans (by repeat (first | with_reducible exact New.refl _ | with_reducible assumption | with_reducible refine New.alloc ?_ _ | with_reducible refine New.drewN ?_ _ | with_reducible refine New.drew ?_ | with_reducible refine New.setCell ?_ (by first | omega | (simp; done) | (simp; omega)) _ | with_reducible refine New.tail (by assumption) ?_)))⟩
end Go.Proofs.YtmdeekojioeomaaDoor
