/- Contracts of addLink and Links (program and reference). -/
import Derived.Test.YtbjahideaonimaaLinkP
namespace Go.Proofs.Ytbjahideaonimaa
open Go.RowKit
set_option linter.all false
/-- One place of such a matrix: how it reads, and what a store there does. -/
theorem FMat.spot {w0 w : World} {g n : Nat} {f : Nat → Nat → Int} (hF : FMat w0 w (some ⟨g, 0, none⟩) (sq n f)) {c r : Nat} (hc : c < n) (hr : r < n) :
    ∃ gk cc, (∀ w', New w w' → w'.cell? ⟨g, c, none⟩ = some (.slice (some ⟨gk, 0, none⟩) n cc)) ∧ (∀ w', New w w' → w'.cell? ⟨gk, r, none⟩ = some (.int .i64 (f c r))) ∧ (∀ (i : Nat) w', New w w' → w'.frozen? ⟨gk, i, none⟩ = false) ∧ w0.heap.size ≤ gk ∧
      ∀ v, FMat w0 (w.setCell ⟨gk, r, none⟩ (.int .i64 v)) (some ⟨g, 0, none⟩) (sq n (upd f c r v)) := by
  have hne : sq n f ≠ [] := fun e => by have := congrArg List.length e; rw [sq_length] at this; simp at this; omega
  obtain ⟨g', cs, Gs, eg, f1, f2, f3, f4, f5, f6⟩ := hF hne
  have eg' : g = g' := by simpa using eg
  subst eg'
  obtain ⟨gq, hGq⟩ : ∃ gq, Gs[c]? = some gq := ⟨_, List.getElem?_eq_getElem (by rw [f4, sq_length]; exact hc)⟩
  obtain ⟨p1, p2, c2, -, p3⟩ := f6 c _ gq (sq_row _ _ _ hc) hGq
  refine ⟨gq, c2, fun w' hn => ?_, p2.cell (by simp [hr]), p2.free, by omega, fun v => ?_⟩
  · rw [f2.cells c w' hn, p3]; simp
  · have hst := FMat.store (w0 := w0) f1 f2 f3 f4 f5 f6 hGq (sq_row _ _ _ hc) r v
    rw [sq_set _ _ _ _ _ hc hr] at hst
    exact hst
theorem ix_nat {a : Int} {n : Nat} (h0 : 0 < a) (h1 : a ≤ n) (hn : n ≤ 1000) : (0 : Int) ≤ (ix a : Int) ∧ (ix a : Int) < (n : Int) ∧ ix a < n ∧ IntKind.i64.wrap (a - 1) = (ix a : Int) := by
  unfold ix
  refine ⟨by omega, by omega, by omega, ?_⟩
  rw [IntKind.wrap_i64]
  omega
theorem ok_facts' {st : Int} {g : Lg} (h : Lg.ok st g = true) : 0 ≤ g.f ∧ g.f < st ∧ 0 ≤ g.t ∧ g.t < st := by
  have := legB_t.1 h
  omega
set_option maxHeartbeats 2000000 in
theorem addLink_any (g n cp : Nat) (f : Nat → Nat → Int) (a b : Int) (w0 w : World) (hF : FMat w0 w (some ⟨g, 0, none⟩) (sq n f)) (ha0 : 0 ≤ a) (ha1 : a ≤ n) (hb0 : 0 ≤ b) (hb1 : b ≤ n) (hf : Bd f 1000) (hn : n ≤ 1000) (hnw : New w0 w) :
    Calls Try.prog 58 #[.slice (some ⟨g, 0, none⟩) n cp, .int .i64 a, .int .i64 b, .int .i64 1] w fun e w' => e = .returned (.tuple #[]) ∧ FMat w0 w' (some ⟨g, 0, none⟩) (sq n (lnk f a b)) ∧ New w0 w' := by
  have hF0 := hF
  have hN0 := hnw
  have hB0 := hf
  clear hF hnw hf
  by_cases ha : 0 < a
  · obtain ⟨x0, x1, x2, x3⟩ := ix_nat ha ha1 hn
    obtain ⟨x, hx⟩ : ∃ x, ix a = x := ⟨_, rfl⟩
    rw [hx] at x0 x1 x2 x3
    have HX := Lib.hid hx
    by_cases hb : 0 < b
    · obtain ⟨y0, y1, y2, y3⟩ := ix_nat hb hb1 hn
      obtain ⟨y, hy⟩ : ∃ y, ix b = y := ⟨_, rfl⟩
      rw [hy] at y0 y1 y2 y3
      have HL : Hid (lnk f a b = adF (adF (adF (adF f x x 1) y y 1) x y (-1)) y x (-1)) := by
        show _ = _
        unfold lnk
        try simp only
        rw [if_pos ha, if_pos hb, if_pos ⟨ha, hb⟩, hx, hy]
      clear hx hy
      go_enter Try.func58, Try.ntmps58
      obtain ⟨g0, cc0, r0a, r0b, r0c, r0d, r0e⟩ := hF0.spot x2 x2
      have hv0 := hB0 x x
      obtain ⟨v0, hvv0⟩ : ∃ v, f x x = v := ⟨_, rfl⟩
      have hF1 := r0e (v0 + 1)
      have hN1 : New w0 (w.setCell ⟨g0, x, none⟩ (.int .i64 (v0 + 1))) := hN0.setCell r0d _
      have hB1 := hB0.adF x x 1 (by omega)
      have hE1 : upd f x x (v0 + 1) = adF f x x 1 := by unfold adF; rw [hvv0]
      rw [hE1] at hF1
      rw [hvv0] at hv0 r0b
      obtain ⟨f1, hf1⟩ : ∃ h, adF f x x 1 = h := ⟨_, rfl⟩
      rw [hf1] at hF1 hB1
      have HH1 := Lib.hid hf1
      clear r0e hvv0 hE1 hf1
      go_upto_region 2 with fail
      generalize (w.setCell ⟨g0, x, none⟩ (.int .i64 (v0 + 1))) = W1 at *
      clear r0a r0b r0c hF0 hB0 hN0
      obtain ⟨g1, cc1, r1a, r1b, r1c, r1d, r1e⟩ := hF1.spot y2 y2
      have hv1 := hB1 y y
      obtain ⟨v1, hvv1⟩ : ∃ v, f1 y y = v := ⟨_, rfl⟩
      have hF2 := r1e (v1 + 1)
      have hN2 : New w0 (W1.setCell ⟨g1, y, none⟩ (.int .i64 (v1 + 1))) := hN1.setCell r1d _
      have hB2 := hB1.adF y y 1 (by omega)
      have hE2 : upd f1 y y (v1 + 1) = adF f1 y y 1 := by unfold adF; rw [hvv1]
      rw [hE2] at hF2
      rw [hvv1] at hv1 r1b
      obtain ⟨f2, hf2⟩ : ∃ h, adF f1 y y 1 = h := ⟨_, rfl⟩
      rw [hf2] at hF2 hB2
      have HH2 := Lib.hid hf2
      clear r1e hvv1 hE2 hf2
      go_upto_region 4 with fail
      generalize (W1.setCell ⟨g1, y, none⟩ (.int .i64 (v1 + 1))) = W2 at *
      clear r1a r1b r1c hF1 hB1 hN1
      obtain ⟨g2, cc2, r2a, r2b, r2c, r2d, r2e⟩ := hF2.spot x2 y2
      have hv2 := hB2 x y
      obtain ⟨v2, hvv2⟩ : ∃ v, f2 x y = v := ⟨_, rfl⟩
      have hF3 := r2e (v2 - 1)
      have hN3 : New w0 (W2.setCell ⟨g2, y, none⟩ (.int .i64 (v2 - 1))) := hN2.setCell r2d _
      have hB3 := hB2.adF x y (-1) (by omega)
      have hE3 : upd f2 x y (v2 - 1) = adF f2 x y (-1) := by unfold adF; rw [hvv2]; rfl
      rw [hE3] at hF3
      rw [hvv2] at hv2 r2b
      obtain ⟨f3, hf3⟩ : ∃ h, adF f2 x y (-1) = h := ⟨_, rfl⟩
      rw [hf3] at hF3 hB3
      have HH3 := Lib.hid hf3
      clear r2e hvv2 hE3 hf3
      go_upto_region 6 with fail
      generalize (W2.setCell ⟨g2, y, none⟩ (.int .i64 (v2 - 1))) = W3 at *
      clear r2a r2b r2c hF2 hB2 hN2
      obtain ⟨g3, cc3, r3a, r3b, r3c, r3d, r3e⟩ := hF3.spot y2 x2
      have hv3 := hB3 y x
      obtain ⟨v3, hvv3⟩ : ∃ v, f3 y x = v := ⟨_, rfl⟩
      have hF4 := r3e (v3 - 1)
      have hN4 : New w0 (W3.setCell ⟨g3, x, none⟩ (.int .i64 (v3 - 1))) := hN3.setCell r3d _
      have hB4 := hB3.adF y x (-1) (by omega)
      have hE4 : upd f3 y x (v3 - 1) = adF f3 y x (-1) := by unfold adF; rw [hvv3]; rfl
      rw [hE4] at hF4
      rw [hvv3] at hv3 r3b
      obtain ⟨f4, hf4⟩ : ∃ h, adF f3 y x (-1) = h := ⟨_, rfl⟩
      rw [hf4] at hF4 hB4
      have HH4 := Lib.hid hf4
      clear r3e hvv3 hE4 hf4
      go_wp2_with fail
      generalize (W3.setCell ⟨g3, x, none⟩ (.int .i64 (v3 - 1))) = W4 at *
      clear r3a r3b r3c hF3 hB3 hN3
      go_end0
      exact ⟨rfl, by rw [HL.out, HH1.out, HH2.out, HH3.out, HH4.out]; exact hF4, hN4⟩
    · have hbn : ¬ 0 < b := hb
      have HL : Hid (lnk f a b = adF f x x 1) := by
        show _ = _
        unfold lnk
        try simp only
        rw [if_pos ha, if_neg hb, if_neg (fun e => hb e.2), hx]
      clear hx
      go_enter Try.func58, Try.ntmps58
      obtain ⟨g0, cc0, r0a, r0b, r0c, r0d, r0e⟩ := hF0.spot x2 x2
      have hv0 := hB0 x x
      obtain ⟨v0, hvv0⟩ : ∃ v, f x x = v := ⟨_, rfl⟩
      have hF1 := r0e (v0 + 1)
      have hN1 : New w0 (w.setCell ⟨g0, x, none⟩ (.int .i64 (v0 + 1))) := hN0.setCell r0d _
      have hB1 := hB0.adF x x 1 (by omega)
      have hE1 : upd f x x (v0 + 1) = adF f x x 1 := by unfold adF; rw [hvv0]
      rw [hE1] at hF1
      rw [hvv0] at hv0 r0b
      obtain ⟨f1, hf1⟩ : ∃ h, adF f x x 1 = h := ⟨_, rfl⟩
      rw [hf1] at hF1 hB1
      have HH1 := Lib.hid hf1
      clear r0e hvv0 hE1 hf1
      go_wp2_with fail
      generalize (w.setCell ⟨g0, x, none⟩ (.int .i64 (v0 + 1))) = W1 at *
      clear r0a r0b r0c hF0 hB0 hN0
      go_end0
      exact ⟨rfl, by rw [HL.out, HH1.out]; exact hF1, hN1⟩
  · by_cases hb : 0 < b
    · obtain ⟨y0, y1, y2, y3⟩ := ix_nat hb hb1 hn
      obtain ⟨y, hy⟩ : ∃ y, ix b = y := ⟨_, rfl⟩
      rw [hy] at y0 y1 y2 y3
      have HL : Hid (lnk f a b = adF f y y 1) := by
        show _ = _
        unfold lnk
        try simp only
        rw [if_neg ha, if_pos hb, if_neg (fun e => ha e.1), hy]
      clear hy
      go_enter Try.func58, Try.ntmps58
      obtain ⟨g0, cc0, r0a, r0b, r0c, r0d, r0e⟩ := hF0.spot y2 y2
      have hv0 := hB0 y y
      obtain ⟨v0, hvv0⟩ : ∃ v, f y y = v := ⟨_, rfl⟩
      have hF1 := r0e (v0 + 1)
      have hN1 : New w0 (w.setCell ⟨g0, y, none⟩ (.int .i64 (v0 + 1))) := hN0.setCell r0d _
      have hB1 := hB0.adF y y 1 (by omega)
      have hE1 : upd f y y (v0 + 1) = adF f y y 1 := by unfold adF; rw [hvv0]
      rw [hE1] at hF1
      rw [hvv0] at hv0 r0b
      obtain ⟨f1, hf1⟩ : ∃ h, adF f y y 1 = h := ⟨_, rfl⟩
      rw [hf1] at hF1 hB1
      have HH1 := Lib.hid hf1
      clear r0e hvv0 hE1 hf1
      go_wp2_with fail
      generalize (w.setCell ⟨g0, y, none⟩ (.int .i64 (v0 + 1))) = W1 at *
      clear r0a r0b r0c hF0 hB0 hN0
      go_end0
      exact ⟨rfl, by rw [HL.out, HH1.out]; exact hF1, hN1⟩
    · have HL : Hid (lnk f a b = f) := by
        show _ = _
        unfold lnk
        try simp only
        rw [if_neg ha, if_neg hb, if_neg (fun e => ha e.1)]
      go_enter Try.func58, Try.ntmps58
      go_wp2_with fail
      go_end0
      exact ⟨rfl, by rw [HL.out]; exact hF0, hN0⟩
theorem implLinks_no (st : Int) (A : Option Addr) (cap : Nat) (L : List Lg) (w : World) (hL : LegsAt w A L) (hm : L.length ≤ 1099511627776) (hv : svB st L = false) :
    Calls Try.prog 52 #[.agg #[.int .i64 st, .slice A L.length cap]] w fun r w' => r = .returned (.slice none 0 0) ∧ New w w' := by
  have h1 : New w (w.alloc (Obj.cells #[.int .i64 st, .slice A L.length cap] 33)) := (by repeat (first | with_reducible exact New.refl _ | with_reducible assumption | with_reducible refine New.alloc ?_ _ | with_reducible refine New.drewN ?_ _ | with_reducible refine New.drew ?_ | with_reducible refine New.setCell ?_ (by first | omega | (simp; done) | (simp; omega)) _ | with_reducible refine New.tail (by assumption) ?_))
  have hL' := hL.keep h1
  go_enter Try.func52, Try.ntmps52
  go_wp2_with (go_at_call 28; refine (implSurveyValid_any _ _ _ _ _ hL' hm).mono ?_; rw [hv]; rintro e w1 ⟨rfl, hn⟩)
  go_ret
  exact ⟨rfl, h1.trans hn⟩
set_option maxHeartbeats 1000000 in
theorem implLinks_ok (m : Nat) (n : Int) (A : Option Addr) (cap : Nat) (L : List Lg) (w : World) (hnm : n = m + 1) (hL : LegsAt w A L) (hv : svB n L = true) :
    Calls Try.prog 52 #[.agg #[.int .i64 n, .slice A L.length cap]] w fun r w' => ∃ g, r = .returned (.slice (some ⟨g, 0, none⟩) m m) ∧ FMat w w' (some ⟨g, 0, none⟩) (sq m (linkF L)) ∧ New w w' := by
  obtain ⟨b1, b2, b3, b4⟩ := svB_true hv
  have HV := Lib.hid hv
  have HB := Lib.hid b4
  have hw1 : IntKind.i64.wrap (n - 1) = (m : Int) := by rw [IntKind.wrap_i64]; omega
  have h1 : New w (w.alloc (Obj.cells #[.int .i64 n, .slice A L.length cap] 33)) := (by repeat (first | with_reducible exact New.refl _ | with_reducible assumption | with_reducible refine New.alloc ?_ _ | with_reducible refine New.drewN ?_ _ | with_reducible refine New.drew ?_ | with_reducible refine New.setCell ?_ (by first | omega | (simp; done) | (simp; omega)) _ | with_reducible refine New.tail (by assumption) ?_))
  have h2 := Has.new w #[.int .i64 n, .slice A L.length cap] 33
  have hL' := hL.keep h1
  have hnm1 : n - 1 = (m : Int) := by omega
  have HNM := Lib.hid hnm
  have hm5 : m ≤ 5 := by omega
  clear b4 hv hnm hw1
  go_enter Try.func52, Try.ntmps52
  go_upto_region 1 with fail
  generalize (w.alloc (Obj.cells #[.int .i64 n, .slice A L.length cap] 33)) = W0 at *
  have c2 := h2.cells2
  clear h2
  go_wp2_with fail
  refine (implSurveyValid_any _ _ _ _ _ hL' (by omega)).mono ?_
  rw [HV.out]
  rintro e w1 ⟨rfl, hn1⟩
  go_wp2_with fail
  refine (squareOf_any m _ (by omega)).mono ?_
  rintro e w2 ⟨g, rfl, hF, hn2⟩
  have hk2 : New W0 w2 := hn1.trans hn2
  clear hnm1
  go_wp2_with fail
  go_loopw [16] (fun i wr => ∃ k : Nat, k ≤ L.length ∧ i = .int .i64 k ∧ New W0 wr ∧ FMat W0 wr (some ⟨g, 0, none⟩) (sq m (linkF (L.take k)))) (fun i _ => L.length - (intOf i).toNat)
  case atStart => exact ⟨0, Nat.zero_le _, rfl, hk2, hF.older hn1.size⟩
  case round =>
    obtain ⟨k, hk, rfl, hw, hFk⟩ := hrel
    by_cases hlt : k < L.length
    · have hok := ok_facts' (HB.out L[k] (List.getElem_mem hlt))
      have hbd := (linkF_bd (L.take k)).mono (C := 1000) (by simp; omega)
      have hsn := linkF_snoc L k hlt
      obtain ⟨b, off, f, t, e, nn, u, hA, hg, hc⟩ := (hL'.keep hw).at_ hlt
      rw [hg] at hok hsn
      simp only at hok hsn
      have HSN := Lib.hid hsn
      obtain ⟨o1, o2, o3, o4⟩ := hok
      have hk0 : (0 : Int) ≤ (k : Int) := by omega
      have hk1 : (k : Int) < (L.length : Int) := by omega
      have HBD := Lib.hid hbd
      have hf2 : f ≤ (m : Int) := by have := HNM.out; omega
      have ht2 : t ≤ (m : Int) := by have := HNM.out; omega
      subst hA
      clear hg hsn hbd
      go_wp2_with fail
      refine (addLink_any _ _ _ _ _ _ W0 _ (hFk.keep (by repeat (first | with_reducible exact New.refl _ | with_reducible assumption | with_reducible refine New.alloc ?_ _ | with_reducible refine New.drewN ?_ _ | with_reducible refine New.drew ?_ | with_reducible refine New.setCell ?_ (by first | omega | (simp; done) | (simp; omega)) _ | with_reducible refine New.tail (by assumption) ?_))) o1 hf2 o3 ht2 HBD.out (by omega) (by repeat (first | with_reducible exact New.refl _ | with_reducible assumption | with_reducible refine New.alloc ?_ _ | with_reducible refine New.drewN ?_ _ | with_reducible refine New.drew ?_ | with_reducible refine New.setCell ?_ (by first | omega | (simp; done) | (simp; omega)) _ | with_reducible refine New.tail (by assumption) ?_))).mono ?_
      rintro e9 w3 ⟨rfl, hF3, hn3⟩
      go_wp2_with fail
      go_roundw
      case rel => exact ⟨k + 1, by omega, by go_num, hn3, by rw [HSN.out]; exact hF3⟩
      case measure => simp [intOf]; omega
    · obtain rfl : k = L.length := by omega
      rw [List.take_length] at hFk
      go_wp2_with fail
      go_ret
      exact ⟨g, rfl, hFk.older h1.size, h1.trans hw⟩
theorem implLinks_any (st : Int) (A : Option Addr) (cap : Nat) (L : List Lg) (w : World) (hL : LegsAt w A L) (hm : L.length ≤ 1099511627776) :
    Calls Try.prog 52 #[.agg #[.int .i64 st, .slice A L.length cap]] w fun r w' => ∃ B cp, r = .returned (.slice B (linksM st L).length cp) ∧ FMat w w' B (linksM st L) ∧ New w w' := by
  cases hv : svB st L
  · rw [linksM_no hv]
    exact (implLinks_no st A cap L w hL hm hv).mono fun e w' ⟨h1, h2⟩ => ⟨none, 0, h1, FMat.nil, h2⟩
  · have h1 := (svB_true hv).1
    rw [linksM_ok hv, sq_length]
    exact (implLinks_ok (st - 1).toNat st A cap L w (by omega) hL hv).mono fun e w' ⟨g, h1, h2, h3⟩ => ⟨_, _, h1, h2, h3⟩
def rowL (m : Nat) (h : Nat → Int) : List Int := (List.range m).map h
theorem rowL_len (m : Nat) (h : Nat → Int) : (rowL m h).length = m := by simp [rowL]
theorem rowL_get (m : Nat) (h : Nat → Int) (r : Nat) (hr : r < m) : (rowL m h)[r]? = some (h r) := by simp [rowL, hr]
theorem rowL_set (m : Nat) (h : Nat → Int) (r : Nat) (d : Int) (v : Int) (hv : v = h r + d) : (rowL m h).set r v = rowL m (ad1 h r d) := by
  apply List.ext_getElem?
  intro i
  by_cases hi : i < m
  · rw [List.getElem?_set, rowL_len, rowL_get _ _ _ hi, rowL_get _ _ _ hi]
    unfold ad1
    by_cases e : r = i
    · subst e; rw [if_pos rfl, if_pos hi, if_pos rfl, hv]
    · rw [if_neg e, if_neg (fun h => e h.symm)]
  · rw [List.getElem?_eq_none (by rw [List.length_set, rowL_len]; omega), List.getElem?_eq_none (by rw [rowL_len]; omega)]
theorem rowL_zero (m : Nat) : rowL m (fun _ => 0) = List.replicate m 0 := by
  apply List.ext_getElem?
  intro i
  by_cases hi : i < m
  · rw [rowL_get _ _ _ hi, List.getElem?_replicate, if_pos hi]
  · rw [List.getElem?_eq_none (by rw [rowL_len]; omega), List.getElem?_eq_none (by simp; omega)]
theorem rowF_bd {st : Int} {L : List Lg} (h : ∀ g ∈ L, Lg.ok st g = true) (c r : Nat) : -(4 * L.length) ≤ rowF ((c : Int) + 1) L r ∧ rowF ((c : Int) + 1) L r ≤ 4 * L.length := by
  rw [← linkF_row h c]
  exact linkF_bd L c r
end Go.Proofs.Ytbjahideaonimaa
