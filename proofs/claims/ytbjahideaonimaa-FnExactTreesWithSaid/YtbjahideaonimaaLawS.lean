/- Contracts of the laws' own helpers on surveys: toSurvey, eqSurvey, szSurvey. -/
import Derived.Test.YtbjahideaonimaaSurv
namespace Go.Proofs.Ytbjahideaonimaa
open Go.RowKit
set_option linter.all false
theorem infoLeg : (Try.prog.info? 61).map (fun i => (i.zero, i.size, i.bytes)) = some (some (.agg #[.int .i64 0, .int .i64 0, .int .i64 0, .int .i64 0, .int .i64 0]), 5, 40) := by kernel_rfl
theorem makeLegs (n : Nat) (hn : n ≤ 1099511627776) : ∀ w : World, (Instr.makeSlice 31 (.int .i64 (n : Int)) (.int .i64 (n : Int))).run Try.prog w =
    .ok (.slice (some ⟨w.heap.size, 0, none⟩) n n) (w.alloc (.cells (madeCells #[.int .i64 0, .int .i64 0, .int .i64 0, .int .i64 0, .int .i64 0] (n * 5)) 61)) := by
  intro w
  obtain ⟨i0, hi, hz, hs, hb⟩ := info_parts infoLeg
  have h := run_make (P := Try.prog) w 31 61 i0 _ Try.underlying31 hi hz .i64 .i64 n n (by omega) (by omega) (by rw [hb]; omega) (by omega)
  rw [hs] at h
  simp only [Int.toNat_natCast] at h
  exact h
set_option maxHeartbeats 1000000 in
theorem toLegS_any (A : Option Addr) (cap : Nat) (L : List Lg) (w : World) (hL : LegsAt w A L) (hm : L.length ≤ 1099511627776) :
    Calls Try.prog 26 #[.slice A L.length cap] w fun r w' => ∃ g, r = .returned (.slice (some ⟨g, 0, none⟩) L.length L.length) ∧ w.heap.size ≤ g ∧ LegBlk w' g L ∧ New w w' := by
  have hmk := makeLegs L.length hm
  go_enter Try.func26, Try.ntmps26
  go_wp2_with fail
  go_loopw [4] (fun i wr => ∃ k : Nat, k ≤ L.length ∧ i = .int .i64 k ∧ New w wr ∧ ∃ cs : Array Value, Has wr w.heap.size cs 61 ∧ cs.size = L.length * 5 ∧ ∀ (j : Nat) (q : Lg), j < k → L[j]? = some q → LegIn cs j q)
    (fun i _ => L.length - (intOf i).toNat)
  case atStart => exact ⟨0, Nat.zero_le _, rfl, (by repeat (first | with_reducible exact New.refl _ | with_reducible assumption | with_reducible refine New.alloc ?_ _ | with_reducible refine New.drewN ?_ _ | with_reducible refine New.drew ?_ | with_reducible refine New.setCell ?_ (by first | omega | (simp; done) | (simp; omega)) _ | with_reducible refine New.tail (by assumption) ?_)), _, Has.new _ _ _, by rw [size_madeCells], fun j q h => absurd h (Nat.not_lt_zero _)⟩
  case round =>
    obtain ⟨k, hk, rfl, hw, cs, hcs, hsz, hin⟩ := hrel
    have Hin := Lib.hid hin
    have Hsz := Lib.hid hsz
    clear hin
    by_cases hlt : k < L.length
    · obtain ⟨b, off, f, t, e, n, u, hA, hg, hc⟩ := (hL.keep hw).at_ hlt
      subst hA
      have HG := Lib.hid hg
      clear hg hmk
      obtain ⟨x0, hx0⟩ : ∃ x, cs[k * 5]? = some x := ⟨_, Array.getElem?_eq_getElem (by omega)⟩
      obtain ⟨x1, hx1⟩ : ∃ x, cs[k * 5 + 1]? = some x := ⟨_, Array.getElem?_eq_getElem (by omega)⟩
      obtain ⟨x2, hx2⟩ : ∃ x, cs[k * 5 + 2]? = some x := ⟨_, Array.getElem?_eq_getElem (by omega)⟩
      obtain ⟨x3, hx3⟩ : ∃ x, cs[k * 5 + 3]? = some x := ⟨_, Array.getElem?_eq_getElem (by omega)⟩
      obtain ⟨x4, hx4⟩ : ∃ x, cs[k * 5 + 4]? = some x := ⟨_, Array.getElem?_eq_getElem (by omega)⟩
      have k0 := fun w' hn => (hcs.cells (k * 5) w' hn).trans hx0
      have k1 := fun w' hn => (hcs.cells (k * 5 + 1) w' hn).trans hx1
      have k2 := fun w' hn => (hcs.cells (k * 5 + 2) w' hn).trans hx2
      have k3 := fun w' hn => (hcs.cells (k * 5 + 3) w' hn).trans hx3
      have k4 := fun w' hn => (hcs.cells (k * 5 + 4) w' hn).trans hx4
      have kf := fun i => hcs.frees i
      clear hx0 hx1 hx2 hx3 hx4 hsz
      go_wp2_with (go_at_call 45; refine (toLeg_any _ _ _ _ _ _).mono ?_; rintro e w1 ⟨rfl, hn⟩)
      go_roundw
      case rel =>
        refine ⟨k + 1, by omega, by go_num, ?_, put5 cs k (.int .i64 f) (.int .i64 t) (.int .i64 e) (.int .i64 n) (.int .i64 u), ?_, ?_, ?_⟩
        · exact New.put5 (hn.tail hw) (Nat.le_refl _) k _ _ _ _ _
        · exact Has.put5 (hcs.keep hn) k _ _ _ _ _
        · rw [put5_size]; exact Hsz.out
        · exact legIn_put5 (q := ⟨f, t, e, n, u⟩) hlt Hsz.out HG.out Hin.out
      case measure => simp [intOf]; omega
    · go_wp2_with fail
      go_ret
      exact ⟨_, rfl, Nat.le_refl _, ⟨cs, hcs, Hsz.out, fun j q hq => Hin.out j q (by have := (List.getElem?_eq_some_iff.1 hq).1; omega) hq⟩, hw⟩
set_option maxHeartbeats 1000000 in
theorem toSurvey_any (st : Int) (A : Option Addr) (cap : Nat) (L : List Lg) (w : World) (hL : LegsAt w A L) (hm : L.length ≤ 1099511627776) :
    Calls Try.prog 10 #[.agg #[.int .i64 st, .slice A L.length cap]] w fun r w' => ∃ g, r = .returned (.agg #[.int .i64 st, .slice (some ⟨g, 0, none⟩) L.length L.length]) ∧ w.heap.size ≤ g ∧ LegBlk w' g L ∧ New w w' := by
  have h1 : New w (((w.alloc (Obj.cells #[.int .i64 st, .slice A L.length cap] 24)).alloc (Obj.cells #[.int .i64 0, .slice none 0 0] 33)).alloc (Obj.cells #[.int .i64 st, .slice none 0 0] 33)) := (by repeat (first | with_reducible exact New.refl _ | with_reducible assumption | with_reducible refine New.alloc ?_ _ | with_reducible refine New.drewN ?_ _ | with_reducible refine New.drew ?_ | with_reducible refine New.setCell ?_ (by first | omega | (simp; done) | (simp; omega)) _ | with_reducible refine New.tail (by assumption) ?_))
  have h2 := ((Has.new w #[.int .i64 st, .slice A L.length cap] 24).alloc (Obj.cells #[.int .i64 0, .slice none 0 0] 33)).alloc (Obj.cells #[.int .i64 st, .slice none 0 0] 33)
  have h3 := (Has.new (w.alloc (Obj.cells #[.int .i64 st, .slice A L.length cap] 24)) #[.int .i64 0, .slice none 0 0] 33).alloc (Obj.cells #[.int .i64 st, .slice none 0 0] 33)
  have h4 := Has.new ((w.alloc (Obj.cells #[.int .i64 st, .slice A L.length cap] 24)).alloc (Obj.cells #[.int .i64 0, .slice none 0 0] 33)) #[.int .i64 st, .slice none 0 0] 33
  simp only [World.size_alloc] at h3 h4
  have hL' := hL.keep h1
  go_enter Try.func10, Try.ntmps10
  go_upto_region 3 with fail
  generalize (((w.alloc (Obj.cells #[.int .i64 st, .slice A L.length cap] 24)).alloc (Obj.cells #[.int .i64 0, .slice none 0 0] 33)).alloc (Obj.cells #[.int .i64 st, .slice none 0 0] 33)) = W0 at *
  have c2 := h2.cells2
  have c3 := h3.cells2
  have c4 := h4.cells2
  have f3 := h3.frees
  have f4 := h4.frees
  have hz := h1.size
  go_wp2_with (go_at_call 26; refine (toLegS_any _ _ _ _ hL' hm).mono ?_; rintro e w1 ⟨g, rfl, hg, hb, hn⟩)
  have hlt4 := h4.lt
  have hne1 : g ≠ w.heap.size + 1 + 1 := by omega
  have hne2 : g ≠ w.heap.size + 1 := by omega
  refine bodyPost_ret (v := .agg #[.int .i64 st, .slice (some ⟨g, 0, none⟩) L.length L.length]) (by simp [results, Try.results10, go_sem, c3, hn]) rfl ⟨g, rfl, by omega, ((hb.far hne1 _).far hne2 _).far hne2 _, ?_⟩
  exact (((hn.tail h1).setCell (p := ⟨w.heap.size + 1 + 1, 1, none⟩) (by simp; omega) _).setCell (p := ⟨w.heap.size + 1, 0, none⟩) (by simp) _).setCell (p := ⟨w.heap.size + 1, 1, none⟩) (by simp) _
theorem szLegS_any (A : Option Addr) (n cap : Nat) (left : Int) (w : World) (h0 : 0 ≤ left) (h1 : left ≤ 1099511627776) (hn : n ≤ maxLen) :
    Calls Try.prog 22 #[.slice A n cap, .int .i64 left] w fun r w' => r = .returned (.int .i64 (if left < n then -1 else left - n)) ∧ w = w' := by
  have hn' : (n : Int) ≤ 9223372036854775807 := by unfold maxLen at hn; omega
  by_cases h : left < (n : Int)
  · have h' : left - (n : Int) < 0 := by omega
    go_enter Try.func22, Try.ntmps22
    go_wp2
    go_ret
    exact ⟨rfl, rfl⟩
  · have h' : ¬ left - (n : Int) < 0 := by omega
    go_enter Try.func22, Try.ntmps22
    go_wp2
    go_ret
    exact ⟨rfl, rfl⟩
theorem szSurvey_any (st : Int) (A : Option Addr) (n cap : Nat) (w : World) (hn : n ≤ maxLen) :
    Calls Try.prog 7 #[.agg #[.int .i64 st, .slice A n cap], .int .i64 1048576] w fun r w' => r = .returned (.int .i64 (if (1048576 : Int) < n then -1 else 1048576 - n)) ∧ New w w' := by
  by_cases h : (1048576 : Int) < (n : Int)
  · go_enter Try.func7, Try.ntmps7
    go_wp2_with (go_at_call 22; refine (szLegS_any _ _ _ _ _ (by omega) (by omega) hn).mono ?_; rw [if_pos h]; rintro e w1 ⟨rfl, rfl⟩)
    go_ret
    exact ⟨rfl, (by repeat (first | with_reducible exact New.refl _ | with_reducible assumption | with_reducible refine New.alloc ?_ _ | with_reducible refine New.drewN ?_ _ | with_reducible refine New.drew ?_ | with_reducible refine New.setCell ?_ (by first | omega | (simp; done) | (simp; omega)) _ | with_reducible refine New.tail (by assumption) ?_))⟩
  · have h' : ¬ (1048576 : Int) - (n : Int) < 0 := by omega
    go_enter Try.func7, Try.ntmps7
    go_wp2_with (go_at_call 22; refine (szLegS_any _ _ _ _ _ (by omega) (by omega) hn).mono ?_; rw [if_neg h]; rintro e w1 ⟨rfl, rfl⟩)
    go_ret
    exact ⟨rfl, (by repeat (first | with_reducible exact New.refl _ | with_reducible assumption | with_reducible refine New.alloc ?_ _ | with_reducible refine New.drewN ?_ _ | with_reducible refine New.drew ?_ | with_reducible refine New.setCell ?_ (by first | omega | (simp; done) | (simp; omega)) _ | with_reducible refine New.tail (by assumption) ?_))⟩
set_option maxHeartbeats 1000000 in
theorem eqLegS_same (A B : Option Addr) (ca cb : Nat) (L : List Lg) (w : World) (hA : LegsAt w A L) (hB : LegsAt w B L) (hm : L.length ≤ 1099511627776) :
    Calls Try.prog 30 #[.slice A L.length ca, .slice B L.length cb] w fun r w' => r = .returned (.bool true) ∧ New w w' := by
  go_enter Try.func30, Try.ntmps30
  go_wp2_with fail
  go_loopw [5] (fun i wr => ∃ k : Nat, k ≤ L.length ∧ i = .int .i64 k ∧ New w wr) (fun i _ => L.length - (intOf i).toNat)
  case atStart => exact ⟨0, Nat.zero_le _, rfl, New.refl _⟩
  case round =>
    obtain ⟨k, hk, rfl, hw⟩ := hrel
    by_cases hlt : k < L.length
    · obtain ⟨b, off, f, t, e, n, u, e1, hg, hc⟩ := (hA.keep hw).at_ hlt
      obtain ⟨b', off', f', t', e', n', u', e2, hg', hc'⟩ := (hB.keep hw).at_ hlt
      rw [hg] at hg'
      obtain ⟨rfl, rfl, rfl, rfl, rfl⟩ := Lg.mk.inj hg'
      subst e1 e2
      clear hg hg' hA hB
      have hk0 : (0 : Int) ≤ (k : Int) := by omega
      have hk1 : (k : Int) < (L.length : Int) := by omega
      go_wp2_with fail
      go_region_held3 (fun w' => New wr w') ((repeat (first | with_reducible exact New.refl _ | with_reducible assumption | with_reducible refine New.alloc ?_ _ | with_reducible refine New.drewN ?_ _ | with_reducible refine New.drew ?_ | with_reducible refine New.setCell ?_ (by first | omega | (simp; done) | (simp; omega)) _ | with_reducible refine New.tail (by assumption) ?_))) (first | (go_at_call 48; refine (eqLeg_refl _ _ _ _ _ _).mono ?_; rintro e w1 ⟨rfl, hn⟩))
      go_wp2_with fail
      go_roundw
      case rel => exact ⟨k + 1, by omega, by go_num, hw.trans (by repeat (first | with_reducible exact New.refl _ | with_reducible assumption | with_reducible refine New.alloc ?_ _ | with_reducible refine New.drewN ?_ _ | with_reducible refine New.drew ?_ | with_reducible refine New.setCell ?_ (by first | omega | (simp; done) | (simp; omega)) _ | with_reducible refine New.tail (by assumption) ?_))⟩
      case measure => simp [intOf]; omega
    · go_wp2_with fail
      go_ret
      exact ⟨rfl, hw⟩
set_option maxHeartbeats 1000000 in
theorem eqSurvey_same (st : Int) (A B : Option Addr) (ca cb : Nat) (L : List Lg) (w : World) (hA : LegsAt w A L) (hB : LegsAt w B L) (hm : L.length ≤ 1099511627776) :
    Calls Try.prog 13 #[.agg #[.int .i64 st, .slice A L.length ca], .agg #[.int .i64 st, .slice B L.length cb]] w fun r w' => r = .returned (.bool true) ∧ New w w' := by
  have h1 : New w ((w.alloc (Obj.cells #[.int .i64 st, .slice A L.length ca] 33)).alloc (Obj.cells #[.int .i64 st, .slice B L.length cb] 33)) := (by repeat (first | with_reducible exact New.refl _ | with_reducible assumption | with_reducible refine New.alloc ?_ _ | with_reducible refine New.drewN ?_ _ | with_reducible refine New.drew ?_ | with_reducible refine New.setCell ?_ (by first | omega | (simp; done) | (simp; omega)) _ | with_reducible refine New.tail (by assumption) ?_))
  have hA' := hA.keep h1
  have hB' := hB.keep h1
  go_enter Try.func13, Try.ntmps13
  go_wp2_with (go_at_call 30; refine (eqLegS_same _ _ _ _ _ _ hA' hB' hm).mono ?_; rintro e w1 ⟨rfl, hn⟩)
  go_ret
  exact ⟨rfl, h1.trans hn⟩
end Go.Proofs.Ytbjahideaonimaa
