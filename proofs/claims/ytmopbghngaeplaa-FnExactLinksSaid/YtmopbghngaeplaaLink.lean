/- Contracts of addLink and Links (program and reference). -/
import Derived.Test.YtmopbghngaeplaaLinkP
namespace Go.Proofs.Ytmopbghngaeplaa
open Go.RowKit
set_option linter.all false
/-- One place of such a matrix: how it reads, and what a store there does. -/
theorem FMat.spot {w0 w : World} {g n : Nat} {f : Nat → Nat → Int} (hF : FMat w0 w (some ⟨g, 0, none⟩) (sq n f)) {c r : Nat} (hc : c < n) (hr : r < n) :
    ∃ gk cc, (∀ w', New w w' → w'.cell? ⟨g, c, none⟩ = some (.slice (some ⟨gk, 0, none⟩) n cc)) ∧ (∀ w', New w w' → w'.cell? ⟨gk, r, none⟩ = some (.int .i64 (f c r))) ∧ (∀ (i : Nat) w', New w w' → w'.frozen? ⟨gk, i, none⟩ = false) ∧ w0.heap.size ≤ gk ∧
      ∀ v, FMat w0 (w.setCell ⟨gk, r, none⟩ (.int .i64 v)) (some ⟨g, 0, none⟩) (sq n (upd f c r v)) := by
  have hne : sq n f ≠ [] := fun e => by have := congrArg List.length e; rw [sq_length] at this; simp at this; omega
  obtain ⟨g', cs, Gs, eg, f1, f2, f3, f4, f5, f6⟩ := hF hne
  have eg' : g = g' := by simpa using eg
  subst eg'
  obtain ⟨gq, hGq⟩ : ∃ gq, Gs[c]? = some gq := ⟨_, List.getElem?_eq_getElem (by rw [f4, sq_length]; exact hc)⟩
  obtain ⟨p1, p2, c2, -, p3⟩ := f6 c _ gq (sq_row _ _ _ hc) hGq
  refine ⟨gq, c2, fun w' hn => ?_, p2.cell (by simp [hr]), p2.free, by omega, fun v => ?_⟩
  · rw [f2.cells c w' hn, p3]; simp
  · have hst := FMat.store (w0 := w0) f1 f2 f3 f4 f5 f6 hGq (sq_row _ _ _ hc) r v
    rw [sq_set _ _ _ _ _ hc hr] at hst
    exact hst
theorem ix_nat {a : Int} {n : Nat} (h0 : 0 < a) (h1 : a ≤ n) (hn : n ≤ 1000) : (0 : Int) ≤ (ix a : Int) ∧ (ix a : Int) < (n : Int) ∧ ix a < n ∧ IntKind.i64.wrap (a - 1) = (ix a : Int) := by
  unfold ix
  refine ⟨by omega, by omega, by omega, ?_⟩
  rw [IntKind.wrap_i64]
  omega
theorem ok_facts' {st : Int} {g : Lg} (h : Lg.ok st g = true) : 0 ≤ g.f ∧ g.f < st ∧ 0 ≤ g.t ∧ g.t < st := by
  have := legB_t.1 h
  omega
set_option maxHeartbeats 2000000 in
theorem addLink_any (g n cp : Nat) (f : Nat → Nat → Int) (a b : Int) (w0 w : World) (hF : FMat w0 w (some ⟨g, 0, none⟩) (sq n f)) (ha0 : 0 ≤ a) (ha1 : a ≤ n) (hb0 : 0 ≤ b) (hb1 : b ≤ n) (hf : Bd f 1000) (hn : n ≤ 1000) (hnw : New w0 w) :
    Calls Try.prog 67 #[.slice (some ⟨g, 0, none⟩) n cp, .int .i64 a, .int .i64 b, .int .i64 1] w fun e w' => e = .returned (.tuple #[]) ∧ FMat w0 w' (some ⟨g, 0, none⟩) (sq n (lnk f a b)) ∧ New w0 w' := by
  have hF0 := hF
  have hN0 := hnw
  have hB0 := hf
  clear hF hnw hf
  by_cases ha : 0 < a
  · obtain ⟨x0, x1, x2, x3⟩ := ix_nat ha ha1 hn
    obtain ⟨x, hx⟩ : ∃ x, ix a = x := ⟨_, rfl⟩
    rw [hx] at x0 x1 x2 x3
    have HX := Lib.hid hx
    by_cases hb : 0 < b
    · obtain ⟨y0, y1, y2, y3⟩ := ix_nat hb hb1 hn
      obtain ⟨y, hy⟩ : ∃ y, ix b = y := ⟨_, rfl⟩
      rw [hy] at y0 y1 y2 y3
      have HL : Hid (lnk f a b = adF (adF (adF (adF f x x 1) y y 1) x y (-1)) y x (-1)) := by
        show _ = _
        unfold lnk
        try simp only
        rw [if_pos ha, if_pos hb, if_pos ⟨ha, hb⟩, hx, hy]
      clear hx hy
      go_enter Try.func67, Try.ntmps67
      obtain ⟨g0, cc0, r0a, r0b, r0c, r0d, r0e⟩ := hF0.spot x2 x2
      have hv0 := hB0 x x
      obtain ⟨v0, hvv0⟩ : ∃ v, f x x = v := ⟨_, rfl⟩
      have hF1 := r0e (v0 + 1)
      have hN1 : New w0 (w.setCell ⟨g0, x, none⟩ (.int .i64 (v0 + 1))) := hN0.setCell r0d _
      have hB1 := hB0.adF x x 1 (by omega)
      have hE1 : upd f x x (v0 + 1) = adF f x x 1 := by unfold adF; rw [hvv0]
      rw [hE1] at hF1
      rw [hvv0] at hv0 r0b
      obtain ⟨f1, hf1⟩ : ∃ h, adF f x x 1 = h := ⟨_, rfl⟩
      rw [hf1] at hF1 hB1
      have HH1 := Lib.hid hf1
      clear r0e hvv0 hE1 hf1
      go_upto_region 2 with fail
      generalize (w.setCell ⟨g0, x, none⟩ (.int .i64 (v0 + 1))) = W1 at *
      clear r0a r0b r0c hF0 hB0 hN0
      obtain ⟨g1, cc1, r1a, r1b, r1c, r1d, r1e⟩ := hF1.spot y2 y2
      have hv1 := hB1 y y
      obtain ⟨v1, hvv1⟩ : ∃ v, f1 y y = v := ⟨_, rfl⟩
      have hF2 := r1e (v1 + 1)
      have hN2 : New w0 (W1.setCell ⟨g1, y, none⟩ (.int .i64 (v1 + 1))) := hN1.setCell r1d _
      have hB2 := hB1.adF y y 1 (by omega)
      have hE2 : upd f1 y y (v1 + 1) = adF f1 y y 1 := by unfold adF; rw [hvv1]
      rw [hE2] at hF2
      rw [hvv1] at hv1 r1b
      obtain ⟨f2, hf2⟩ : ∃ h, adF f1 y y 1 = h := ⟨_, rfl⟩
      rw [hf2] at hF2 hB2
      have HH2 := Lib.hid hf2
      clear r1e hvv1 hE2 hf2
      go_upto_region 4 with fail
      generalize (W1.setCell ⟨g1, y, none⟩ (.int .i64 (v1 + 1))) = W2 at *
      clear r1a r1b r1c hF1 hB1 hN1
      obtain ⟨g2, cc2, r2a, r2b, r2c, r2d, r2e⟩ := hF2.spot x2 y2
      have hv2 := hB2 x y
      obtain ⟨v2, hvv2⟩ : ∃ v, f2 x y = v := ⟨_, rfl⟩
      have hF3 := r2e (v2 - 1)
      have hN3 : New w0 (W2.setCell ⟨g2, y, none⟩ (.int .i64 (v2 - 1))) := hN2.setCell r2d _
      have hB3 := hB2.adF x y (-1) (by omega)
      have hE3 : upd f2 x y (v2 - 1) = adF f2 x y (-1) := by unfold adF; rw [hvv2]; rfl
      rw [hE3] at hF3
      rw [hvv2] at hv2 r2b
      obtain ⟨f3, hf3⟩ : ∃ h, adF f2 x y (-1) = h := ⟨_, rfl⟩
      rw [hf3] at hF3 hB3
      have HH3 := Lib.hid hf3
      clear r2e hvv2 hE3 hf3
      go_upto_region 6 with fail
      generalize (W2.setCell ⟨g2, y, none⟩ (.int .i64 (v2 - 1))) = W3 at *
      clear r2a r2b r2c hF2 hB2 hN2
      obtain ⟨g3, cc3, r3a, r3b, r3c, r3d, r3e⟩ := hF3.spot y2 x2
      have hv3 := hB3 y x
      obtain ⟨v3, hvv3⟩ : ∃ v, f3 y x = v := ⟨_, rfl⟩
      have hF4 := r3e (v3 - 1)
      have hN4 : New w0 (W3.setCell ⟨g3, x, none⟩ (.int .i64 (v3 - 1))) := hN3.setCell r3d _
      have hB4 := hB3.adF y x (-1) (by omega)
      have hE4 : upd f3 y x (v3 - 1) = adF f3 y x (-1) := by unfold adF; rw [hvv3]; rfl
      rw [hE4] at hF4
      rw [hvv3] at hv3 r3b
      obtain ⟨f4, hf4⟩ : ∃ h, adF f3 y x (-1) = h := ⟨_, rfl⟩
      rw [hf4] at hF4 hB4
      have HH4 := Lib.hid hf4
      clear r3e hvv3 hE4 hf4
      go_wp2_with fail
      generalize (W3.setCell ⟨g3, x, none⟩ (.int .i64 (v3 - 1))) = W4 at *
      clear r3a r3b r3c hF3 hB3 hN3
      go_end0
      exact ⟨rfl, by rw [HL.out, HH1.out, HH2.out, HH3.out, HH4.out]; exact hF4, hN4⟩
    · have hbn : ¬ 0 < b := hb
      have HL : Hid (lnk f a b = adF f x x 1) := by
        show _ = _
        unfold lnk
        try simp only
        rw [if_pos ha, if_neg hb, if_neg (fun e => hb e.2), hx]
      clear hx
      go_enter Try.func67, Try.ntmps67
      obtain ⟨g0, cc0, r0a, r0b, r0c, r0d, r0e⟩ := hF0.spot x2 x2
      have hv0 := hB0 x x
      obtain ⟨v0, hvv0⟩ : ∃ v, f x x = v := ⟨_, rfl⟩
      have hF1 := r0e (v0 + 1)
      have hN1 : New w0 (w.setCell ⟨g0, x, none⟩ (.int .i64 (v0 + 1))) := hN0.setCell r0d _
      have hB1 := hB0.adF x x 1 (by omega)
      have hE1 : upd f x x (v0 + 1) = adF f x x 1 := by unfold adF; rw [hvv0]
      rw [hE1] at hF1
      rw [hvv0] at hv0 r0b
      obtain ⟨f1, hf1⟩ : ∃ h, adF f x x 1 = h := ⟨_, rfl⟩
      rw [hf1] at hF1 hB1
      have HH1 := Lib.hid hf1
      clear r0e hvv0 hE1 hf1
      go_wp2_with fail
      generalize (w.setCell ⟨g0, x, none⟩ (.int .i64 (v0 + 1))) = W1 at *
      clear r0a r0b r0c hF0 hB0 hN0
      go_end0
      exact ⟨rfl, by rw [HL.out, HH1.out]; exact hF1, hN1⟩
  · by_cases hb : 0 < b
    · obtain ⟨y0, y1, y2, y3⟩ := ix_nat hb hb1 hn
      obtain ⟨y, hy⟩ : ∃ y, ix b = y := ⟨_, rfl⟩
      rw [hy] at y0 y1 y2 y3
      have HL : Hid (lnk f a b = adF f y y 1) := by
        show _ = _
        unfold lnk
        try simp only
        rw [if_neg ha, if_pos hb, if_neg (fun e => ha e.1), hy]
      clear hy
      go_enter Try.func67, Try.ntmps67
      obtain ⟨g0, cc0, r0a, r0b, r0c, r0d, r0e⟩ := hF0.spot y2 y2
      have hv0 := hB0 y y
      obtain ⟨v0, hvv0⟩ : ∃ v, f y y = v := ⟨_, rfl⟩
      have hF1 := r0e (v0 + 1)
      have hN1 : New w0 (w.setCell ⟨g0, y, none⟩ (.int .i64 (v0 + 1))) := hN0.setCell r0d _
      have hB1 := hB0.adF y y 1 (by omega)
      have hE1 : upd f y y (v0 + 1) = adF f y y 1 := by unfold adF; rw [hvv0]
      rw [hE1] at hF1
      rw [hvv0] at hv0 r0b
      obtain ⟨f1, hf1⟩ : ∃ h, adF f y y 1 = h := ⟨_, rfl⟩
      rw [hf1] at hF1 hB1
      have HH1 := Lib.hid hf1
      clear r0e hvv0 hE1 hf1
      go_wp2_with fail
      generalize (w.setCell ⟨g0, y, none⟩ (.int .i64 (v0 + 1))) = W1 at *
      clear r0a r0b r0c hF0 hB0 hN0
      go_end0
      exact ⟨rfl, by rw [HL.out, HH1.out]; exact hF1, hN1⟩
    · have HL : Hid (lnk f a b = f) := by
        show _ = _
        unfold lnk
        try simp only
        rw [if_neg ha, if_neg hb, if_neg (fun e => ha e.1)]
      go_enter Try.func67, Try.ntmps67
      go_wp2_with fail
      go_end0
      exact ⟨rfl, by rw [HL.out]; exact hF0, hN0⟩
theorem implLinks_no (st : Int) (A : Option Addr) (cap : Nat) (L : List Lg) (w : World) (hL : LegsAt w A L) (hm : L.length ≤ 1099511627776) (hv : svB st L = false) :
    Calls Try.prog 50 #[.agg #[.int .i64 st, .slice A L.length cap]] w fun r w' => r = .returned (.slice none 0 0) ∧ New w w' := by
  have h1 : New w (w.alloc (Obj.cells #[.int .i64 st, .slice A L.length cap] 53)) := (by repeat (first | with_reducible exact New.refl _ | with_reducible assumption | with_reducible refine New.alloc ?_ _ | with_reducible refine New.drewN ?_ _ | with_reducible refine New.drew ?_ | with_reducible refine New.setCell ?_ (by first | omega | (simp; done) | (simp; omega)) _ | with_reducible refine New.tail (by assumption) ?_))
  have hL' := hL.keep h1
  go_enter Try.func50, Try.ntmps50
  go_wp2_with (go_at_call 35; refine (implSurveyValid_any _ _ _ _ _ hL' hm).mono ?_; rw [hv]; rintro e w1 ⟨rfl, hn⟩)
  go_ret
  exact ⟨rfl, h1.trans hn⟩
set_option maxHeartbeats 1000000 in
theorem implLinks_ok (m : Nat) (n : Int) (A : Option Addr) (cap : Nat) (L : List Lg) (w : World) (hnm : n = m + 1) (hL : LegsAt w A L) (hv : svB n L = true) :
    Calls Try.prog 50 #[.agg #[.int .i64 n, .slice A L.length cap]] w fun r w' => ∃ g, r = .returned (.slice (some ⟨g, 0, none⟩) m m) ∧ FMat w w' (some ⟨g, 0, none⟩) (sq m (linkF L)) ∧ New w w' := by
  obtain ⟨b1, b2, b3, b4⟩ := svB_true hv
  have HV := Lib.hid hv
  have HB := Lib.hid b4
  have hw1 : IntKind.i64.wrap (n - 1) = (m : Int) := by rw [IntKind.wrap_i64]; omega
  have h1 : New w (w.alloc (Obj.cells #[.int .i64 n, .slice A L.length cap] 53)) := (by repeat (first | with_reducible exact New.refl _ | with_reducible assumption | with_reducible refine New.alloc ?_ _ | with_reducible refine New.drewN ?_ _ | with_reducible refine New.drew ?_ | with_reducible refine New.setCell ?_ (by first | omega | (simp; done) | (simp; omega)) _ | with_reducible refine New.tail (by assumption) ?_))
  have h2 := Has.new w #[.int .i64 n, .slice A L.length cap] 53
  have hL' := hL.keep h1
  have hnm1 : n - 1 = (m : Int) := by omega
  have HNM := Lib.hid hnm
  have hm5 : m ≤ 5 := by omega
  clear b4 hv hnm hw1
  go_enter Try.func50, Try.ntmps50
  go_upto_region 1 with fail
  generalize (w.alloc (Obj.cells #[.int .i64 n, .slice A L.length cap] 53)) = W0 at *
  have c2 := h2.cells2
  clear h2
  go_wp2_with fail
  refine (implSurveyValid_any _ _ _ _ _ hL' (by omega)).mono ?_
  rw [HV.out]
  rintro e w1 ⟨rfl, hn1⟩
  go_wp2_with fail
  refine (squareOf_any m _ (by omega)).mono ?_
  rintro e w2 ⟨g, rfl, hF, hn2⟩
  have hk2 : New W0 w2 := hn1.trans hn2
  clear hnm1
  go_wp2_with fail
  go_loopw [16] (fun i wr => ∃ k : Nat, k ≤ L.length ∧ i = .int .i64 k ∧ New W0 wr ∧ FMat W0 wr (some ⟨g, 0, none⟩) (sq m (linkF (L.take k)))) (fun i _ => L.length - (intOf i).toNat)
  case atStart => exact ⟨0, Nat.zero_le _, rfl, hk2, hF.older hn1.size⟩
  case round =>
    obtain ⟨k, hk, rfl, hw, hFk⟩ := hrel
    by_cases hlt : k < L.length
    · have hok := ok_facts' (HB.out L[k] (List.getElem_mem hlt))
      have hbd := (linkF_bd (L.take k)).mono (C := 1000) (by simp; omega)
      have hsn := linkF_snoc L k hlt
      obtain ⟨b, off, f, t, e, nn, u, hA, hg, hc⟩ := (hL'.keep hw).at_ hlt
      rw [hg] at hok hsn
      simp only at hok hsn
      have HSN := Lib.hid hsn
      obtain ⟨o1, o2, o3, o4⟩ := hok
      have hk0 : (0 : Int) ≤ (k : Int) := by omega
      have hk1 : (k : Int) < (L.length : Int) := by omega
      have HBD := Lib.hid hbd
      have hf2 : f ≤ (m : Int) := by have := HNM.out; omega
      have ht2 : t ≤ (m : Int) := by have := HNM.out; omega
      subst hA
      clear hg hsn hbd
      go_wp2_with fail
      refine (addLink_any _ _ _ _ _ _ W0 _ (hFk.keep (by repeat (first | with_reducible exact New.refl _ | with_reducible assumption | with_reducible refine New.alloc ?_ _ | with_reducible refine New.drewN ?_ _ | with_reducible refine New.drew ?_ | with_reducible refine New.setCell ?_ (by first | omega | (simp; done) | (simp; omega)) _ | with_reducible refine New.tail (by assumption) ?_))) o1 hf2 o3 ht2 HBD.out (by omega) (by repeat (first | with_reducible exact New.refl _ | with_reducible assumption | with_reducible refine New.alloc ?_ _ | with_reducible refine New.drewN ?_ _ | with_reducible refine New.drew ?_ | with_reducible refine New.setCell ?_ (by first | omega | (simp; done) | (simp; omega)) _ | with_reducible refine New.tail (by assumption) ?_))).mono ?_
      rintro e9 w3 ⟨rfl, hF3, hn3⟩
      go_wp2_with fail
      go_roundw
      case rel => exact ⟨k + 1, by omega, by go_num, hn3, by rw [HSN.out]; exact hF3⟩
      case measure => simp [intOf]; omega
    · obtain rfl : k = L.length := by omega
      rw [List.take_length] at hFk
      go_wp2_with fail
      go_ret
      exact ⟨g, rfl, hFk.older h1.size, h1.trans hw⟩
theorem implLinks_any (st : Int) (A : Option Addr) (cap : Nat) (L : List Lg) (w : World) (hL : LegsAt w A L) (hm : L.length ≤ 1099511627776) :
    Calls Try.prog 50 #[.agg #[.int .i64 st, .slice A L.length cap]] w fun r w' => ∃ B cp, r = .returned (.slice B (linksM st L).length cp) ∧ FMat w w' B (linksM st L) ∧ New w w' := by
  cases hv : svB st L
  · rw [linksM_no hv]
    exact (implLinks_no st A cap L w hL hm hv).mono fun e w' ⟨h1, h2⟩ => ⟨none, 0, h1, FMat.nil, h2⟩
  · have h1 := (svB_true hv).1
    rw [linksM_ok hv, sq_length]
    exact (implLinks_ok (st - 1).toNat st A cap L w (by omega) hL hv).mono fun e w' ⟨g, h1, h2, h3⟩ => ⟨_, _, h1, h2, h3⟩
def rowL (m : Nat) (h : Nat → Int) : List Int := (List.range m).map h
theorem rowL_len (m : Nat) (h : Nat → Int) : (rowL m h).length = m := by simp [rowL]
theorem rowL_get (m : Nat) (h : Nat → Int) (r : Nat) (hr : r < m) : (rowL m h)[r]? = some (h r) := by simp [rowL, hr]
theorem rowL_set (m : Nat) (h : Nat → Int) (r : Nat) (d : Int) (v : Int) (hv : v = h r + d) : (rowL m h).set r v = rowL m (ad1 h r d) := by
  apply List.ext_getElem?
  intro i
  by_cases hi : i < m
  · rw [List.getElem?_set, rowL_len, rowL_get _ _ _ hi, rowL_get _ _ _ hi]
    unfold ad1
    by_cases e : r = i
    · subst e; rw [if_pos rfl, if_pos hi, if_pos rfl, hv]
    · rw [if_neg e, if_neg (fun h => e h.symm)]
  · rw [List.getElem?_eq_none (by rw [List.length_set, rowL_len]; omega), List.getElem?_eq_none (by rw [rowL_len]; omega)]
theorem rowL_zero (m : Nat) : rowL m (fun _ => 0) = List.replicate m 0 := by
  apply List.ext_getElem?
  intro i
  by_cases hi : i < m
  · rw [rowL_get _ _ _ hi, List.getElem?_replicate, if_pos hi]
  · rw [List.getElem?_eq_none (by rw [rowL_len]; omega), List.getElem?_eq_none (by simp; omega)]
theorem rowF_bd {st : Int} {L : List Lg} (h : ∀ g ∈ L, Lg.ok st g = true) (c r : Nat) : -(4 * L.length) ≤ rowF ((c : Int) + 1) L r ∧ rowF ((c : Int) + 1) L r ≤ 4 * L.length := by
  rw [← linkF_row h c]
  exact linkF_bd L c r
set_option maxHeartbeats 4000000 in
theorem specLinks_ok (m : Nat) (n : Int) (A : Option Addr) (cap : Nat) (L : List Lg) (w : World) (hnm : n = m + 1) (hL : LegsAt w A L) (hv : svB n L = true) :
    Calls Try.prog 49 #[.agg #[.int .i64 n, .slice A L.length cap]] w fun r w' => ∃ B cp, r = .returned (.slice B m cp) ∧ MatC w' B (sq m (linkF L)) ∧ New w w' := by
  obtain ⟨i1, ki, kz, ks, kb⟩ := info_parts infoRow
  obtain ⟨b1, b2, b3, b4⟩ := svB_true hv
  have HV := Lib.hid hv
  have HB := Lib.hid b4
  have h1 : New w (w.alloc (Obj.cells #[.int .i64 n, .slice A L.length cap] 53)) := (by repeat (first | with_reducible exact New.refl _ | with_reducible assumption | with_reducible refine New.alloc ?_ _ | with_reducible refine New.drewN ?_ _ | with_reducible refine New.drew ?_ | with_reducible refine New.setCell ?_ (by first | omega | (simp; done) | (simp; omega)) _ | with_reducible refine New.tail (by assumption) ?_))
  have h2 := Has.new w #[.int .i64 n, .slice A L.length cap] 53
  have hL' := hL.keep h1
  have HNM := Lib.hid hnm
  have hm5 : m ≤ 5 := by omega
  subst hnm
  have hmk := makeInts m (by omega)
  clear b4 hv
  go_enter Try.func49, Try.ntmps49
  go_upto_region 1 with fail
  generalize (w.alloc (Obj.cells #[.int .i64 ((m : Int) + 1), .slice A L.length cap] 53)) = W0 at *
  have c2 := h2.cells2
  clear h2
  go_wp2_with fail
  go_loopw [4, 3] (fun i v wr => ∃ k : Nat, k ≤ m ∧ i = .int .i64 (k + 1) ∧ New W0 wr ∧ ∃ rs : List Value, wr.ownsRow W0.heap.size 58 1 v k rs ∧ Hid (∀ j, j < k → ∃ gj, rs[j]? = some (.slice (some ⟨gj, 0, none⟩) m m) ∧ Ints wr gj (rowL m (rowF ((j : Int) + 1) L)))) (fun i _ _ => (m + 1) - (intOf i).toNat)
  case atStart => exact ⟨0, Nat.zero_le _, rfl, (by repeat (first | with_reducible exact New.refl _ | with_reducible assumption | with_reducible refine New.alloc ?_ _ | with_reducible refine New.drewN ?_ _ | with_reducible refine New.drew ?_ | with_reducible refine New.setCell ?_ (by first | omega | (simp; done) | (simp; omega)) _ | with_reducible refine New.tail (by assumption) ?_)), [], World.ownsRow_made W0 #[] 0 (Nat.le_refl _) (by simp) rfl, fun j h => absurd h (Nat.not_lt_zero _)⟩
  case round =>
    obtain ⟨k, hk, rfl, hw, rs, hown, Hrs⟩ := hrel
    by_cases hlt : k < m
    · have hlt' : (k : Int) + 1 < (m : Int) + 1 := by omega
      have hk0 : (0 : Int) ≤ (k : Int) := by omega
      have hk1 : (k : Int) < (m : Int) := by omega
      have c3 := fun w' (hn : New wr w') => c2 w' (hw.trans hn)
      go_wp2_with fail
      refine (specSurveyValid_any _ _ _ _ _ (hL'.keep hw) (by omega)).mono ?_
      rw [HV.out]
      rintro e w1 ⟨rfl, hn1⟩
      have hw1 := hw.trans hn1
      have hown1 := own_new hown hn1
      have Hrs1 : Hid (∀ j, j < k → ∃ gj, rs[j]? = some (.slice (some ⟨gj, 0, none⟩) m m) ∧ Ints w1 gj (rowL m (rowF ((j : Int) + 1) L))) := fun j hj => by
        obtain ⟨gj, a, b⟩ := Hrs.out j hj
        exact ⟨gj, a, b.keep hn1⟩
      have c4 := fun w' (hn : New w1 w') => c2 w' (hw1.trans hn)
      clear hn1 hown Hrs hw c3
      go_wp2_with fail
      have hw2 : New w1 (w1.alloc (Obj.cells (madeCells #[Value.int .i64 0] m) 3)) := (by repeat (first | with_reducible exact New.refl _ | with_reducible assumption | with_reducible refine New.alloc ?_ _ | with_reducible refine New.drewN ?_ _ | with_reducible refine New.drew ?_ | with_reducible refine New.setCell ?_ (by first | omega | (simp; done) | (simp; omega)) _ | with_reducible refine New.tail (by assumption) ?_))
      have hI2 := Ints.made w1 m
      rw [← rowL_zero] at hI2
      obtain ⟨gr, hgr⟩ : ∃ g, w1.heap.size = g := ⟨_, rfl⟩
      have hgr1 : w1.heap.size ≤ gr := by omega
      rw [hgr] at hI2 ⊢
      generalize (w1.alloc (Obj.cells (madeCells #[Value.int .i64 0] m) 3)) = W2 at *
      clear hgr
      go_loopw [6] (fun i wi => ∃ q : Nat, q ≤ L.length ∧ i = .int .i64 q ∧ New w1 wi ∧ Ints wi gr (rowL m (rowF ((k : Int) + 1) (L.take q)))) (fun i _ => L.length - (intOf i).toNat)
      case atStart => exact ⟨0, Nat.zero_le _, rfl, hw2, hI2⟩
      case round =>
        clear hI2 hw2
        obtain ⟨q, hq, rfl, hwi, hI⟩ := hrel
        by_cases hql : q < L.length
        · have hok := ok_facts' (HB.out L[q] (List.getElem_mem hql))
          have hne := (legB_t.1 (HB.out L[q] (List.getElem_mem hql))).2.2.2.2.2.2.1
          have hsn := rowF_snoc ((k : Int) + 1) L q hql
          have hbd : ∀ r, -36 ≤ rowF ((k : Int) + 1) (L.take q) r ∧ rowF ((k : Int) + 1) (L.take q) r ≤ 36 := fun r => by
            have := rowF_bd (L := L.take q) (fun g hg => HB.out g (List.mem_of_mem_take hg)) k r
            simp at this
            omega
          obtain ⟨b, off, f, t, e, nn, u, hA, hg, hc⟩ := (hL'.keep (hw1.trans hwi)).at_ hql
          rw [hg] at hok hsn hne
          simp only at hok hsn hne
          obtain ⟨o1, o2, o3, o4⟩ := hok
          obtain ⟨h, hh⟩ : ∃ h, rowF ((k : Int) + 1) (L.take q) = h := ⟨_, rfl⟩
          rw [hh] at hI hsn hbd
          have HSN := Lib.hid hsn
          have HBD := Lib.hid hbd
          have hq0 : (0 : Int) ≤ (q : Int) := by omega
          have hq1 : (q : Int) < (L.length : Int) := by omega
          have c4 := fun w' (hn : New wr w') => c4 w' (hwi.trans hn)
          subst hA
          clear hg hsn hbd hh
          have hX : New wr (wr.alloc (Obj.cells #[.int .i64 f, .int .i64 t, .int .i64 e, .int .i64 nn, .int .i64 u] 34)) := (by repeat (first | with_reducible exact New.refl _ | with_reducible assumption | with_reducible refine New.alloc ?_ _ | with_reducible refine New.drewN ?_ _ | with_reducible refine New.drew ?_ | with_reducible refine New.setCell ?_ (by first | omega | (simp; done) | (simp; omega)) _ | with_reducible refine New.tail (by assumption) ?_))
          have h7 := Has.new wr #[.int .i64 f, .int .i64 t, .int .i64 e, .int .i64 nn, .int .i64 u] 34
          have hz7 := hI.lt
          have hzw := hwi.size
          go_upto_region 10 with fail
          obtain ⟨g7, hg7⟩ : ∃ g, wr.heap.size = g := ⟨_, rfl⟩
          have hg71 : w1.heap.size ≤ g7 := by omega
          have hg72 : gr < g7 := by omega
          rw [hg7] at h7 ⊢
          generalize (wr.alloc (Obj.cells #[.int .i64 f, .int .i64 t, .int .i64 e, .int .i64 nn, .int .i64 u] 34)) = W3 at *
          have c7 := h7.cells5
          have f7 := h7.frees
          clear hg7 hz7 hzw
          by_cases hta : t = (k : Int) + 1
          · subst hta
            have t1 : ((k : Int) + 1 == (k : Int) + 1) = true := by simp
            have hfa : f ≠ (k : Int) + 1 := by omega
            go_upto_region 12 with (go_at_call 21; refine (specLegBack_any _ _ _ _ _ _).mono ?_; rintro e9 w4 ⟨rfl, hn4⟩)
            have hX4 := hX.trans hn4
            have h74 := Has.set5 (y0 := .int .i64 ((k : Int) + 1)) (y1 := .int .i64 f) (y2 := .int .i64 (ng e)) (y3 := .int .i64 (ng nn)) (y4 := .int .i64 (ng u)) (h7.keep hn4)
            have hI3 := (((((hI.keep hX4).far (p := ⟨g7, 0, none⟩) (by simp; omega) (.int .i64 ((k : Int) + 1))).far (p := ⟨g7, 1, none⟩) (by simp; omega) (.int .i64 f)).far (p := ⟨g7, 2, none⟩) (by simp; omega) (.int .i64 (ng e))).far (p := ⟨g7, 3, none⟩) (by simp; omega) (.int .i64 (ng nn))).far (p := ⟨g7, 4, none⟩) (by simp; omega) (.int .i64 (ng u))
            have hw5 : New w1 (((((w4.setCell ⟨g7, 0, none⟩ (.int .i64 ((k : Int) + 1))).setCell ⟨g7, 1, none⟩ (.int .i64 f)).setCell ⟨g7, 2, none⟩ (.int .i64 (ng e))).setCell ⟨g7, 3, none⟩ (.int .i64 (ng nn))).setCell ⟨g7, 4, none⟩ (.int .i64 (ng u))) :=
              (((((hwi.trans hX4).setCell (p := ⟨g7, 0, none⟩) (by simp; omega) _).setCell (p := ⟨g7, 1, none⟩) (by simp; omega) _).setCell (p := ⟨g7, 2, none⟩) (by simp; omega) _).setCell (p := ⟨g7, 3, none⟩) (by simp; omega) _).setCell (p := ⟨g7, 4, none⟩) (by simp; omega) _
            generalize (((((w4.setCell ⟨g7, 0, none⟩ (.int .i64 ((k : Int) + 1))).setCell ⟨g7, 1, none⟩ (.int .i64 f)).setCell ⟨g7, 2, none⟩ (.int .i64 (ng e))).setCell ⟨g7, 3, none⟩ (.int .i64 (ng nn))).setCell ⟨g7, 4, none⟩ (.int .i64 (ng u))) = W5 at *
            have c9 := h74.cells5
            have hv1 := HBD.out k
            obtain ⟨v1, hv1e⟩ : ∃ v, h k = v := ⟨_, rfl⟩
            have ck := hI3.cell (rowL_get m h k hlt)
            rw [hv1e] at hv1 ck
            have hI4 := hI3.set k (v1 + 1)
            rw [rowL_set m h k 1 (v1 + 1) (by rw [hv1e])] at hI4
            have fk := hI3.free
            have hw6 := hw5.setCell (p := ⟨gr, k, none⟩) (by simp; omega) (.int .i64 (v1 + 1))
            have h76 := h74.far (p := ⟨gr, k, none⟩) (by simp; omega) (.int .i64 (v1 + 1))
            have hix : ix ((k : Int) + 1) = k := by unfold ix; omega
            have HV1 := Lib.hid hv1e
            have HIX := Lib.hid hix
            clear hv1e hix c4 hc
            go_upto_region 14 with fail
            clear c9 ck fk
            generalize (W5.setCell ⟨gr, k, none⟩ (.int .i64 (v1 + 1))) = W6 at *
            have c9 := h76.cells5
            by_cases ho : 0 < f
            · obtain ⟨y0, y1, y2, y3⟩ := ix_nat ho (n := m) (by omega) (by omega)
              obtain ⟨y, hy⟩ : ∃ y, ix f = y := ⟨_, rfl⟩
              rw [hy] at y0 y1 y2 y3
              have hyk : y ≠ k := by rw [← hy]; unfold ix; omega
              have hst : stp ((k : Int) + 1) f ((k : Int) + 1) h = ad1 (ad1 h k 1) y (-1) := by
                unfold stp
                rw [if_pos rfl, if_pos ho, HIX.out, hy]
              have HST := Lib.hid hst
              have hv2 := HBD.out y
              obtain ⟨v2, hv2e⟩ : ∃ v, h y = v := ⟨_, rfl⟩
              have cy := hI4.cell (rowL_get m (ad1 h k 1) y y2)
              have e1 : ad1 h k 1 y = v2 := by unfold ad1; rw [if_neg hyk, hv2e]
              rw [hv2e] at hv2
              rw [e1] at cy
              have hI5 := hI4.set y (v2 - 1)
              rw [rowL_set m (ad1 h k 1) y (-1) (v2 - 1) (by rw [e1]; rfl)] at hI5
              have HI5 := Lib.hid hI5
              have fy := hI4.free
              have gy := cy W6 (New.refl _)
              have gf := fy y W6 (New.refl _)
              obtain ⟨d0, d1, -⟩ := c9 W6 (New.refl _)
              have hw7 := Lib.hid (hw6.setCell (p := ⟨gr, y, none⟩) (by simp; omega) (.int .i64 (v2 - 1)))
              clear hst hv2e e1 hI5 hy cy fy c9 hyk
              go_wp2_with fail
              go_region
              all_goals
                go_wp2_with fail
                go_roundw
                case rel => exact ⟨q + 1, by omega, by go_num, hw7.out.drew, by rw [HSN.out, HST.out]; exact HI5.out.keep ((New.refl _).drew)⟩
                case measure => simp [intOf]; omega
            · have hst : stp ((k : Int) + 1) f ((k : Int) + 1) h = ad1 h k 1 := by
                unfold stp
                rw [if_pos rfl, if_neg ho, HIX.out]
              have HST := Lib.hid hst
              clear hst
              go_wp2_with fail
              go_roundw
              case rel => exact ⟨q + 1, by omega, by go_num, hw6, by rw [HSN.out, HST.out]; exact hI4⟩
              case measure => simp [intOf]; omega
          by_cases hfa : f = (k : Int) + 1
          · have t1 : (t == (k : Int) + 1) = false := by simpa using hta
            subst hfa
            have t2 : ((k : Int) + 1 == (k : Int) + 1) = true := by simp
            have h74 := h7
            have hI3 := hI.keep hX
            have hw5 := hwi.trans hX
            go_upto_region 12 with fail
            have c9 := h74.cells5
            have hv1 := HBD.out k
            obtain ⟨v1, hv1e⟩ : ∃ v, h k = v := ⟨_, rfl⟩
            have ck := hI3.cell (rowL_get m h k hlt)
            rw [hv1e] at hv1 ck
            have hI4 := hI3.set k (v1 + 1)
            rw [rowL_set m h k 1 (v1 + 1) (by rw [hv1e])] at hI4
            have fk := hI3.free
            have hw6 := hw5.setCell (p := ⟨gr, k, none⟩) (by simp; omega) (.int .i64 (v1 + 1))
            have h76 := h74.far (p := ⟨gr, k, none⟩) (by simp; omega) (.int .i64 (v1 + 1))
            have hix : ix ((k : Int) + 1) = k := by unfold ix; omega
            have HV1 := Lib.hid hv1e
            have HIX := Lib.hid hix
            clear hv1e hix c4 hc
            go_upto_region 14 with fail
            clear c9 ck fk
            generalize (W3.setCell ⟨gr, k, none⟩ (.int .i64 (v1 + 1))) = W6 at *
            have c9 := h76.cells5
            by_cases ho : 0 < t
            · obtain ⟨y0, y1, y2, y3⟩ := ix_nat ho (n := m) (by omega) (by omega)
              obtain ⟨y, hy⟩ : ∃ y, ix t = y := ⟨_, rfl⟩
              rw [hy] at y0 y1 y2 y3
              have hyk : y ≠ k := by rw [← hy]; unfold ix; omega
              have hst : stp ((k : Int) + 1) ((k : Int) + 1) t h = ad1 (ad1 h k 1) y (-1) := by
                unfold stp
                rw [if_neg hta, if_pos rfl, if_pos ho, HIX.out, hy]
              have HST := Lib.hid hst
              have hv2 := HBD.out y
              obtain ⟨v2, hv2e⟩ : ∃ v, h y = v := ⟨_, rfl⟩
              have cy := hI4.cell (rowL_get m (ad1 h k 1) y y2)
              have e1 : ad1 h k 1 y = v2 := by unfold ad1; rw [if_neg hyk, hv2e]
              rw [hv2e] at hv2
              rw [e1] at cy
              have hI5 := hI4.set y (v2 - 1)
              rw [rowL_set m (ad1 h k 1) y (-1) (v2 - 1) (by rw [e1]; rfl)] at hI5
              have HI5 := Lib.hid hI5
              have fy := hI4.free
              have gy := cy W6 (New.refl _)
              have gf := fy y W6 (New.refl _)
              obtain ⟨d0, d1, -⟩ := c9 W6 (New.refl _)
              have hw7 := Lib.hid (hw6.setCell (p := ⟨gr, y, none⟩) (by simp; omega) (.int .i64 (v2 - 1)))
              clear hst hv2e e1 hI5 hy cy fy c9 hyk
              go_wp2_with fail
              go_region
              all_goals
                go_wp2_with fail
                go_roundw
                case rel => exact ⟨q + 1, by omega, by go_num, hw7.out.drew, by rw [HSN.out, HST.out]; exact HI5.out.keep ((New.refl _).drew)⟩
                case measure => simp [intOf]; omega
            · have hst : stp ((k : Int) + 1) ((k : Int) + 1) t h = ad1 h k 1 := by
                unfold stp
                rw [if_neg hta, if_pos rfl, if_neg ho, HIX.out]
              have HST := Lib.hid hst
              clear hst
              go_wp2_with fail
              go_roundw
              case rel => exact ⟨q + 1, by omega, by go_num, hw6, by rw [HSN.out, HST.out]; exact hI4⟩
              case measure => simp [intOf]; omega
          · have t1 : (t == (k : Int) + 1) = false := by simpa using hta
            have t2 : (f == (k : Int) + 1) = false := by simpa using hfa
            have hst : stp ((k : Int) + 1) f t h = h := by
              unfold stp
              rw [if_neg hta, if_neg hfa]
            have HST := Lib.hid hst
            clear hst
            go_wp2_with fail
            go_roundw
            case rel => exact ⟨q + 1, by omega, by go_num, hwi.trans hX, by rw [HSN.out, HST.out]; exact hI.keep hX⟩
            case measure => simp [intOf]; omega
        · obtain rfl : q = L.length := by omega
          rw [List.take_length] at hI
          have hown2 := own_new hown1 hwi
          have hlen := hown2.1
          clear hown1
          go_wp2_with (at_builtin; refine wpList_append_own _ rfl _ _ 41 rfl W0.heap.size 58 i1 (.slice none 0 0) 1 24 Try.underlying41 ki kz ks kb rfl (by decide) _ _ _ rfl (hown2.alloc _) ⟨wr.heap.size, 0, none⟩ 1 1 [.slice (some ⟨gr, 0, none⟩) m m] rfl rfl (one_new _ _ _) (slice_oneCell _ _ _) (by unfold maxLen; omega) (by omega) (by have := hwi.size; have := hw1.size; simp; omega) ?_; intro v' w5 hown' hgrow _)
          have hnew : New W0 w5 := ((hw1.trans hwi).alloc _).grown hgrow (fun j hj => (hown2.lt j hj).1)
          have hI6 := (hI.keep ((New.refl wr).alloc (.cells #[.slice (some ⟨gr, 0, none⟩) m m] 58))).grown hgrow (own_ne (hown2.alloc _) (hI.keep ((New.refl wr).alloc (.cells #[.slice (some ⟨gr, 0, none⟩) m m] 58))) (by decide))
          have hrows : Hid (∀ j, j < k + 1 → ∃ gj, (rs ++ [Value.slice (some ⟨gr, 0, none⟩) m m])[j]? = some (.slice (some ⟨gj, 0, none⟩) m m) ∧ Ints w5 gj (rowL m (rowF ((j : Int) + 1) L))) := fun j hj => by
            rcases Nat.lt_or_ge j k with hjk | hjk
            · obtain ⟨gj, a, b⟩ := Hrs1.out j hjk
              refine ⟨gj, by rw [List.getElem?_append_left (by omega)]; exact a, ?_⟩
              have hb2 := (b.keep hwi).keep ((New.refl wr).alloc (.cells #[.slice (some ⟨gr, 0, none⟩) m m] 58))
              exact hb2.grown hgrow (own_ne (hown2.alloc _) hb2 (by decide))
            · obtain rfl : j = k := by omega
              refine ⟨gr, ?_, hI6⟩
              rw [List.getElem?_append_right (by omega)]
              have e0 : j - rs.length = 0 := by omega
              rw [e0]
              rfl
          clear hI hI6 hown2 hgrow hlen
          go_wp2_with fail
          go_roundw
          case rel => exact ⟨k + 1, by omega, by go_num, hnew, _, hown', hrows⟩
          case measure => simp [intOf]; omega
    · obtain rfl : k = m := by omega
      have hnlt : ¬ (k : Int) + 1 < (k : Int) + 1 := by omega
      have hlen := hown.1
      have c3 := fun w' (hn : New wr w') => c2 w' (hw.trans hn)
      have hfin : ∃ B cp, u3 = .slice B k cp ∧ MatC wr B (sq k (linkF L)) := by
        rcases hown.2 with ⟨rfl, h0⟩ | ⟨g, cp, cur, rfl, hg, hh, hcp, _, hsz, htk⟩
        · subst h0; exact ⟨none, 0, rfl, fun h => absurd rfl h⟩
        · refine ⟨_, cp, rfl, fun _ => ⟨g, 0, rfl, Has.lt (cs := cur) (T := 58) hh, fun j r hj => ?_⟩⟩
          have hjl := (List.getElem?_eq_some_iff.1 hj).1
          rw [sq_length] at hjl
          rw [sq_row _ _ _ hjl] at hj
          simp only [Option.some.injEq] at hj
          obtain ⟨gj, a, b⟩ := Hrs.out j hjl
          rw [← linkF_row HB.out] at b
          have hrl : r.length = k := by rw [← hj]; simp
          refine ⟨some ⟨gj, 0, none⟩, k, by omega, ?_, by rw [← hj]; exact b.reads⟩
          rw [Nat.zero_add, Has.cells (cs := cur) (T := 58) hh j wr (New.refl wr), hrl, ← a, ← htk, List.getElem?_take, if_pos (by omega)]
          simp
      obtain ⟨B, cp, hB, hMt⟩ := hfin
      subst hB
      clear hown Hrs hlen
      go_wp2_with fail
      go_ret
      exact ⟨B, ⟨cp, rfl⟩, hMt, h1.trans hw⟩
set_option maxHeartbeats 1000000 in
theorem specLinks_no (st : Int) (A : Option Addr) (cap : Nat) (L : List Lg) (w : World) (hL : LegsAt w A L) (hm : L.length ≤ 1099511627776) (hv : svB st L = false) :
    Calls Try.prog 49 #[.agg #[.int .i64 st, .slice A L.length cap]] w fun r w' => ∃ g, r = .returned (.slice (some ⟨g, 0, none⟩) 0 0) ∧ New w w' := by
  have h1 : New w (w.alloc (Obj.cells #[.int .i64 st, .slice A L.length cap] 53)) := (by repeat (first | with_reducible exact New.refl _ | with_reducible assumption | with_reducible refine New.alloc ?_ _ | with_reducible refine New.drewN ?_ _ | with_reducible refine New.drew ?_ | with_reducible refine New.setCell ?_ (by first | omega | (simp; done) | (simp; omega)) _ | with_reducible refine New.tail (by assumption) ?_))
  have h2 := Has.new w #[.int .i64 st, .slice A L.length cap] 53
  have hL' := hL.keep h1
  have HV := Lib.hid hv
  clear hv
  by_cases h0 : 1 < st
  · go_enter Try.func49, Try.ntmps49
    go_upto_region 1 with fail
    generalize (w.alloc (Obj.cells #[.int .i64 st, .slice A L.length cap] 53)) = W0 at *
    have c2 := h2.cells2
    clear h2
    go_wp2_with fail
    refine wp_loop_rounds 1 ?_
    rw [rounds_succ]
    go_wp2_with fail
    refine (specSurveyValid_any _ _ _ _ _ (hL'.keep (by repeat (first | with_reducible exact New.refl _ | with_reducible assumption | with_reducible refine New.alloc ?_ _ | with_reducible refine New.drewN ?_ _ | with_reducible refine New.drew ?_ | with_reducible refine New.setCell ?_ (by first | omega | (simp; done) | (simp; omega)) _ | with_reducible refine New.tail (by assumption) ?_))) hm).mono ?_
    rw [HV.out]
    rintro e w1 ⟨rfl, hn1⟩
    go_wp2_with fail
    go_ret
    exact ⟨_, rfl, h1.trans (((New.refl W0).alloc _).trans hn1)⟩
  · go_enter Try.func49, Try.ntmps49
    go_upto_region 1 with fail
    generalize (w.alloc (Obj.cells #[.int .i64 st, .slice A L.length cap] 53)) = W0 at *
    have c2 := h2.cells2
    clear h2
    go_wp2_with fail
    refine wp_loop_rounds 1 ?_
    rw [rounds_succ]
    go_wp2_with fail
    go_ret
    exact ⟨⟨_, rfl⟩, h1.alloc _⟩
theorem specLinks_any (st : Int) (A : Option Addr) (cap : Nat) (L : List Lg) (w : World) (hL : LegsAt w A L) (hm : L.length ≤ 1099511627776) :
    Calls Try.prog 49 #[.agg #[.int .i64 st, .slice A L.length cap]] w fun r w' => ∃ B cp, r = .returned (.slice B (linksM st L).length cp) ∧ MatC w' B (linksM st L) ∧ New w w' := by
  cases hv : svB st L
  · rw [linksM_no hv]
    exact (specLinks_no st A cap L w hL hm hv).mono fun e w' ⟨g, h1, h2⟩ => ⟨_, 0, h1, fun h => absurd rfl h, h2⟩
  · have h1 := (svB_true hv).1
    rw [linksM_ok hv, sq_length]
    exact specLinks_ok (st - 1).toNat st A cap L w (by omega) hL hv
end Go.Proofs.Ytmopbghngaeplaa
