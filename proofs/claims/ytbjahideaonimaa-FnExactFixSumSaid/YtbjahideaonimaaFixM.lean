/- Contracts of FixMiss (program and reference). -/
import Derived.Test.YtbjahideaonimaaFix
import Derived.Test.YtbjahideaonimaaLeg
namespace Go.Proofs.Ytbjahideaonimaa
open Go.RowKit
set_option linter.all false
/-- Only the result's block gr has turned, and it still holds three cells. -/
def ResW (gr : Nat) (W w' : World) : Prop := Only gr W w' ∧ ∃ y0 y1 y2, Has w' gr #[y0, y1, y2] 43
theorem ResW.start {gr : Nat} {W : World} {y0 y1 y2 : Value} (h : Has W gr #[y0, y1, y2] 43) : ResW gr W W := ⟨Only.refl _ _, _, _, _, h⟩
theorem ResW.drew {gr : Nat} {W w' : World} (h : ResW gr W w') : ResW gr W w'.drew := ⟨h.1.drew, h.2⟩
theorem ResW.tail {gr : Nat} {W x w' : World} (hn : New x w') (h : ResW gr W x) : ResW gr W w' := ⟨h.1.trans (Only.of_new hn), by
  obtain ⟨y0, y1, y2, h2⟩ := h.2
  exact ⟨y0, y1, y2, h2.keep hn⟩⟩
theorem ResW.set0 {gr : Nat} {W w' : World} (h : ResW gr W w') (v : Value) : ResW gr W (w'.setCell ⟨gr, 0, none⟩ v) := ⟨h.1.setCell rfl _, by
  obtain ⟨y0, y1, y2, h2⟩ := h.2
  exact ⟨v, y1, y2, h2.set 0 v⟩⟩
theorem ResW.set1 {gr : Nat} {W w' : World} (h : ResW gr W w') (v : Value) : ResW gr W (w'.setCell ⟨gr, 1, none⟩ v) := ⟨h.1.setCell rfl _, by
  obtain ⟨y0, y1, y2, h2⟩ := h.2
  exact ⟨y0, v, y2, h2.set 1 v⟩⟩
theorem ResW.set2 {gr : Nat} {W w' : World} (h : ResW gr W w') (v : Value) : ResW gr W (w'.setCell ⟨gr, 2, none⟩ v) := ⟨h.1.setCell rfl _, by
  obtain ⟨y0, y1, y2, h2⟩ := h.2
  exact ⟨y0, y1, v, h2.set 2 v⟩⟩
/-- What a cell of the result holds. -/
def resC (gr i : Nat) (w : World) : Value := (w.cell? ⟨gr, i, none⟩).getD (.bool false)
theorem ResW.cells {gr : Nat} {W : World} : ∀ w', ResW gr W w' → w'.cell? ⟨gr, 0, none⟩ = some (resC gr 0 w') ∧ w'.cell? ⟨gr, 1, none⟩ = some (resC gr 1 w') ∧ w'.cell? ⟨gr, 2, none⟩ = some (resC gr 2 w') := fun w' h => by
  obtain ⟨y0, y1, y2, h2⟩ := h.2
  obtain ⟨a, b, c, _⟩ := h2.at3
  unfold resC
  rw [a, b, c]
  exact ⟨rfl, rfl, rfl⟩
theorem ResW.frees {gr : Nat} {W : World} : ∀ (i : Nat) w', ResW gr W w' → w'.frozen? ⟨gr, i, none⟩ = false := fun i w' h => by
  obtain ⟨y0, y1, y2, h2⟩ := h.2
  exact h2.free i
theorem Has.resCells3 {W : World} {b gr : Nat} {v0 v1 v2 : Value} {T : TypeId} (h : Has W b #[v0, v1, v2] T) (hne : b ≠ gr) : ∀ w', ResW gr W w' → w'.cell? ⟨b, 0, none⟩ = some v0 ∧ w'.cell? ⟨b, 1, none⟩ = some v1 ∧ w'.cell? ⟨b, 2, none⟩ = some v2 := fun w' hr => (h.only hr.1 hne).cells3 w' (New.refl _)
theorem Has.resCells5 {W : World} {b gr : Nat} {v0 v1 v2 v3 v4 : Value} {T : TypeId} (h : Has W b #[v0, v1, v2, v3, v4] T) (hne : b ≠ gr) : ∀ w', ResW gr W w' → w'.cell? ⟨b, 0, none⟩ = some v0 ∧ w'.cell? ⟨b, 1, none⟩ = some v1 ∧ w'.cell? ⟨b, 2, none⟩ = some v2 ∧ w'.cell? ⟨b, 3, none⟩ = some v3 ∧ w'.cell? ⟨b, 4, none⟩ = some v4 := fun w' hr => (h.only hr.1 hne).cells5 w' (New.refl _)

theorem Only.cell {g : Nat} {W w' : World} (ho : Only g W w') {b : Nat} (hb : b < W.heap.size) (hne : b ≠ g) (i : Nat) : w'.cell? ⟨b, i, none⟩ = W.cell? ⟨b, i, none⟩ := by
  unfold World.cell?
  rw [ho.block b hb (by simpa using hne)]
def wyAt (N : List Wy) (i : Int) : Wy := N.getD i.toNat ⟨0, 0, 0⟩
theorem wyAt_get {N : List Wy} {j : Nat} (h : j < N.length) : wyAt N (j : Int) = N[j] := by
  unfold wyAt
  rw [Int.toNat_natCast, List.getD_eq_getElem?_getD, List.getElem?_eq_getElem h, Option.getD_some]
/-- By how much a leg misses, in one direction, times the denominator. -/
def fmG (L : List Lg) (dn : Int) (N : List Wy) (i : Int) (G : Lg → Int) (H : Wy → Int) : Int := ad (ad (mu (G (legAt L i)) dn) (H (wyAt N (legAt L i).f))) (mu (H (wyAt N (legAt L i).t)) (-1))
def fmB (st : Int) (L : List Lg) (dn : Int) (N : List Wy) (i : Int) : Bool := fvB st L dn N && ixB i L.length
def fmF (st : Int) (L : List Lg) (dn : Int) (N : List Wy) (i : Int) (G : Lg → Int) (H : Wy → Int) : Int := if fmB st L dn N i then fmG L dn N i G H else 0
theorem fmB_no1 {st : Int} {L : List Lg} {dn : Int} {N : List Wy} {i : Int} (h : fvB st L dn N = false) : fmB st L dn N i = false := by simp [fmB, h]
theorem fmB_no2 {st : Int} {L : List Lg} {dn : Int} {N : List Wy} {i : Int} (h : ixB i L.length = false) : fmB st L dn N i = false := by simp [fmB, h]
theorem fmB_yes {st : Int} {L : List Lg} {dn : Int} {N : List Wy} {i : Int} (h1 : fvB st L dn N = true) (h : ixB i L.length = true) : fmB st L dn N i = true := by simp [fmB, h1, h]
theorem fmF_no {st : Int} {L : List Lg} {dn : Int} {N : List Wy} {i : Int} (G : Lg → Int) (H : Wy → Int) (h : fmB st L dn N i = false) : fmF st L dn N i G H = 0 := by simp [fmF, h]
theorem fmF_yes {st : Int} {L : List Lg} {dn : Int} {N : List Wy} {i : Int} (G : Lg → Int) (H : Wy → Int) (h : fmB st L dn N i = true) : fmF st L dn N i G H = fmG L dn N i G H := by simp [fmF, h]
set_option maxHeartbeats 4000000 in
theorem implFixMiss_ok (st : Int) (j : Nat) (A B : Option Addr) (cap cb : Nat) (L : List Lg) (dn : Int) (N : List Wy) (w : World) (hL : LegsAt w A L) (hN : WaysAt w B N) (hv : fvB st L dn N = true) (hj : j < L.length) :
    Calls Try.prog 16 #[.agg #[.int .i64 st, .slice A L.length cap], .agg #[.int .i64 dn, .slice B N.length cb], .int .i64 j] w fun r w' => r = .returned (.tuple #[.agg #[.int .i64 (fmG L dn N j Lg.e Wy.e), .int .i64 (fmG L dn N j Lg.n Wy.n), .int .i64 (fmG L dn N j Lg.u Wy.u)], .bool true]) ∧ New w w' := by
  obtain ⟨hsv, hdn, hln, hall⟩ := fvB_true hv
  obtain ⟨b1, b2, b3, b4⟩ := svB_true hsv
  have HV := Lib.hid hv
  have HI : Hid (ixB (j : Int) L.length = true) := ixB_t.2 (by omega)
  have h1 : New w (((w.alloc (Obj.cells #[.int .i64 st, .slice A L.length cap] 33)).alloc (Obj.cells #[.int .i64 dn, .slice B N.length cb] 37)).alloc (Obj.cells #[.int .i64 0, .int .i64 0, .int .i64 0] 43)) := (by repeat (first | with_reducible exact New.refl _ | with_reducible assumption | with_reducible refine New.alloc ?_ _ | with_reducible refine New.drewN ?_ _ | with_reducible refine New.drew ?_ | with_reducible refine New.setCell ?_ (by first | omega | (simp; done) | (simp; omega)) _ | with_reducible refine New.tail (by assumption) ?_))
  have h2 := ((Has.new w #[.int .i64 st, .slice A L.length cap] 33).alloc (Obj.cells #[.int .i64 dn, .slice B N.length cb] 37)).alloc (Obj.cells #[.int .i64 0, .int .i64 0, .int .i64 0] 43)
  have h3 := (Has.new (w.alloc (Obj.cells #[.int .i64 st, .slice A L.length cap] 33)) #[.int .i64 dn, .slice B N.length cb] 37).alloc (Obj.cells #[.int .i64 0, .int .i64 0, .int .i64 0] 43)
  have h4 := Has.new ((w.alloc (Obj.cells #[.int .i64 st, .slice A L.length cap] 33)).alloc (Obj.cells #[.int .i64 dn, .slice B N.length cb] 37)) #[.int .i64 0, .int .i64 0, .int .i64 0] 43
  simp only [World.size_alloc] at h3 h4
  have hL' := hL.keep h1
  have hN' := hN.keep h1
  have hj0 : (0 : Int) ≤ (j : Int) := by omega
  have hj1 : (j : Int) < (L.length : Int) := by omega
  obtain ⟨bL, oL, f, t, e, nn, u, hA, hg, hc⟩ := hL'.at_ hj
  have hla : legAt L j = ⟨f, t, e, nn, u⟩ := (legAt_get hj).trans hg
  have hok := b4 _ (List.getElem_mem hj)
  rw [hg] at hok
  have hb := legB_t.1 hok
  simp only at hb
  obtain ⟨fi, rfl⟩ := Int.eq_ofNat_of_zero_le (show 0 ≤ f by omega)
  obtain ⟨ti, rfl⟩ := Int.eq_ofNat_of_zero_le (show 0 ≤ t by omega)
  have hf : fi < N.length := by omega
  have ht : ti < N.length := by omega
  have hf1 : (fi : Int) < (N.length : Int) := by omega
  have ht1 : (ti : Int) < (N.length : Int) := by omega
  obtain ⟨bN, oN, e1, n1, u1, hB, hg1, hc1⟩ := hN'.at_ hf
  obtain ⟨bN2, oN2, e2, n2, u2, hB2, hg2, hc2⟩ := hN'.at_ ht
  have m1 : fmG L dn N j Lg.e Wy.e = ad (ad (mu e dn) e1) (mu e2 (-1)) := by unfold fmG; rw [hla]; simp only; rw [wyAt_get hf, wyAt_get ht, hg1, hg2]
  have m2 : fmG L dn N j Lg.n Wy.n = ad (ad (mu nn dn) n1) (mu n2 (-1)) := by unfold fmG; rw [hla]; simp only; rw [wyAt_get hf, wyAt_get ht, hg1, hg2]
  have m3 : fmG L dn N j Lg.u Wy.u = ad (ad (mu u dn) u1) (mu u2 (-1)) := by unfold fmG; rw [hla]; simp only; rw [wyAt_get hf, wyAt_get ht, hg1, hg2]
  rw [m1, m2, m3]
  obtain ⟨b0, o0, hB0, hb0, -⟩ := hN (by rintro rfl; simp at hf)
  subst hA
  subst hB
  obtain ⟨rfl, rfl⟩ : bN = b0 ∧ oN = o0 := by simpa using hB0
  obtain ⟨rfl, rfl⟩ : bN = bN2 ∧ oN = oN2 := by simpa using hB2
  clear hB0 m1 m2 m3 hg hg1 hg2 hla hok hb hB2 b4 hall hv hsv hL hN
  have hmL : L.length ≤ 1099511627776 := by omega
  have hmN : N.length ≤ 1099511627776 := by omega
  clear hln
  go_enter Try.func16, Try.ntmps16
  go_upto_region 1 with fail
  generalize (((w.alloc (Obj.cells #[.int .i64 st, .slice (some ⟨bL, oL, none⟩) L.length cap] 33)).alloc (Obj.cells #[.int .i64 dn, .slice (some ⟨bN, oN, none⟩) N.length cb] 37)).alloc (Obj.cells #[.int .i64 0, .int .i64 0, .int .i64 0] 43)) = W0 at *
  have c2 := h2.cells2
  have c3 := h3.cells2
  go_wp2_with fail
  refine (implFixValid_any _ _ _ _ _ _ _ _ _ hL' hN' hmL hmN).mono ?_
  rw [HV.out]
  rintro _ w1 ⟨rfl, hn1⟩
  have d2 := fun w' (hn : New w1 w') => c2 w' (hn1.trans hn)
  have d3 := fun w' (hn : New w1 w') => c3 w' (hn1.trans hn)
  have g0 := fun w' (hn : New w1 w') => hc w' (hn1.trans hn)
  clear c2 c3 hc
  go_upto_region 4 with (go_at_call 35; refine (isIndex_any _ _ _).mono ?_; rw [HI.out]; rintro _ w2 ⟨rfl, rfl⟩)
  have hk2 : New w1 (w1.alloc (.cells #[.int .i64 fi, .int .i64 ti, .int .i64 e, .int .i64 nn, .int .i64 u] 61)) := (by repeat (first | with_reducible exact New.refl _ | with_reducible assumption | with_reducible refine New.alloc ?_ _ | with_reducible refine New.drewN ?_ _ | with_reducible refine New.drew ?_ | with_reducible refine New.setCell ?_ (by first | omega | (simp; done) | (simp; omega)) _ | with_reducible refine New.tail (by assumption) ?_))
  have h8 := Has.new w1 #[.int .i64 fi, .int .i64 ti, .int .i64 e, .int .i64 nn, .int .i64 u] 61
  have hz8 : w.heap.size + 1 + 1 < w1.heap.size := by have := h4.lt; have := hn1.size; omega
  obtain ⟨g8, hg8⟩ : ∃ g, w1.heap.size = g := ⟨_, rfl⟩
  rw [hg8] at h8 hz8 ⊢
  generalize (w1.alloc (.cells #[.int .i64 fi, .int .i64 ti, .int .i64 e, .int .i64 nn, .int .i64 u] 61)) = W2 at *
  have hk02 := hn1.trans hk2
  have d4 := fun w' (hn : New W2 w') => d2 w' (hk2.trans hn)
  have d5 := fun w' (hn : New W2 w') => d3 w' (hk2.trans hn)
  have c8 := h8.cells5
  have k1 := fun w' (hn : New W2 w') => hc1 w' (hk02.trans hn)
  clear d2 d3 g0 hg8
  go_cut [9] (fun s9 wx => ∃ g, s9 = .pointer (some ⟨g, 0, none⟩) ∧ W2.heap.size ≤ g ∧ Has wx g #[.int .i64 (ad (mu e dn) e1), .int .i64 (ad (mu nn dn) n1), .int .i64 (ad (mu u dn) u1)] 43 ∧ New W2 wx)
  case first =>
    go_region_held3 (fun w' => New W2 w') ((repeat (first | with_reducible exact New.refl _ | with_reducible assumption | with_reducible refine New.alloc ?_ _ | with_reducible refine New.drewN ?_ _ | with_reducible refine New.drew ?_ | with_reducible refine New.setCell ?_ (by first | omega | (simp; done) | (simp; omega)) _ | with_reducible refine New.tail (by assumption) ?_))) (first | (go_at_call 38; refine (legWay_any _ _ _ _ _ _).mono ?_; rintro e w1 ⟨rfl, hn⟩; (first | (have hh := Has.keep (Has.new _ _ _) hn; (first | have hq := Has.at5 hh | have hq := Has.at3 hh | have hq := Has.at2 hh | have hq := Has.at1 hh)) | (have hh := Has.keep (Has.new _ _ _).drew hn; (first | have hq := Has.at5 hh | have hq := Has.at3 hh | have hq := Has.at2 hh | have hq := Has.at1 hh)) | (have hh := Has.keep (by assumption) hn; (first | have hq := Has.at5 hh | have hq := Has.at3 hh | have hq := Has.at2 hh | have hq := Has.at1 hh)) | skip); have hz := hn.size; (try simp only [World.size_alloc, World.size_drew, World.size_setCell] at hz)) | (go_at_call 37; refine (implWayTimes_any _ _ _ _ _).mono ?_; rintro e w1 ⟨rfl, hn⟩; (first | (have hh := Has.keep (Has.new _ _ _) hn; (first | have hq := Has.at5 hh | have hq := Has.at3 hh | have hq := Has.at2 hh | have hq := Has.at1 hh)) | (have hh := Has.keep (Has.new _ _ _).drew hn; (first | have hq := Has.at5 hh | have hq := Has.at3 hh | have hq := Has.at2 hh | have hq := Has.at1 hh)) | (have hh := Has.keep (by assumption) hn; (first | have hq := Has.at5 hh | have hq := Has.at3 hh | have hq := Has.at2 hh | have hq := Has.at1 hh)) | skip); have hz := hn.size; (try simp only [World.size_alloc, World.size_drew, World.size_setCell] at hz)) | (go_at_call 36; refine (implWayAdd_any _ _ _ _ _ _ _).mono ?_; rintro e w1 ⟨rfl, hn⟩; (first | (have hh := Has.keep (Has.new _ _ _) hn; (first | have hq := Has.at5 hh | have hq := Has.at3 hh | have hq := Has.at2 hh | have hq := Has.at1 hh)) | (have hh := Has.keep (Has.new _ _ _).drew hn; (first | have hq := Has.at5 hh | have hq := Has.at3 hh | have hq := Has.at2 hh | have hq := Has.at1 hh)) | (have hh := Has.keep (by assumption) hn; (first | have hq := Has.at5 hh | have hq := Has.at3 hh | have hq := Has.at2 hh | have hq := Has.at1 hh)) | skip); have hz := hn.size; (try simp only [World.size_alloc, World.size_drew, World.size_setCell] at hz)))
    all_goals
      go_wp2_with fail
      go_meet
      exact ⟨_, rfl, by have := New.size (show New W2 _ from (by repeat (first | with_reducible exact New.refl _ | with_reducible assumption | with_reducible refine New.alloc ?_ _ | with_reducible refine New.drewN ?_ _ | with_reducible refine New.drew ?_ | with_reducible refine New.setCell ?_ (by first | omega | (simp; done) | (simp; omega)) _ | with_reducible refine New.tail (by assumption) ?_))); (first | omega | (simp at this ⊢; omega) | (simp; omega) | simp), (by repeat (first | with_reducible exact Has.new _ _ _ | with_reducible assumption | with_reducible refine Has.drew ?_ | with_reducible refine Has.drewN ?_ _ | with_reducible apply Has.set1 | with_reducible apply Has.set2 | with_reducible apply Has.set3 | with_reducible apply Has.set5 | with_reducible refine Has.keep ?_ (by assumption))), (by repeat (first | with_reducible exact New.refl _ | with_reducible assumption | with_reducible refine New.alloc ?_ _ | with_reducible refine New.drewN ?_ _ | with_reducible refine New.drew ?_ | with_reducible refine New.setCell ?_ (by first | omega | (simp; done) | (simp; omega)) _ | with_reducible refine New.tail (by assumption) ?_))⟩
  case rest =>
    obtain ⟨g9, rfl, hz9, h9, hk4⟩ := hcut
    obtain ⟨W4, rfl⟩ : ∃ W, W = wc := ⟨_, rfl⟩
    have hkW : New w W4 := h1.trans (hk02.trans hk4)
    have hr := h4.keep (hk02.trans hk4)
    have hzA := h3.lt
    have hzB := h4.lt
    have hzC := hk02.size
    obtain ⟨gr, hgr⟩ : ∃ g, w.heap.size + 1 + 1 = g := ⟨_, rfl⟩
    have hgw : w.heap.size ≤ gr := by omega
    have hgf : w.heap.size + 1 ≠ gr := by omega
    rw [hgr] at hr hz8 hzB ⊢
    have cA := (h8.keep hk4).resCells5 (gr := gr) (by omega)
    have cB := h9.resCells3 (gr := gr) (by omega)
    have cF := fun w' (hR : ResW gr W4 w') => ((h3.keep (hk02.trans hk4)).only hR.1 hgf).cells2 w' (New.refl w')
    have hbg : bN ≠ gr := by omega
    have hbl : bN < W4.heap.size := by have := hkW.size; omega
    have k2 := hc2 W4 (hk02.trans hk4)
    have kN := fun w' (hR : ResW gr W4 w') => And.intro ((hR.1.cell hbl hbg _).trans k2.1) (And.intro ((hR.1.cell hbl hbg _).trans k2.2.1) ((hR.1.cell hbl hbg _).trans k2.2.2))
    have cr := ResW.cells (gr := gr) (W := W4)
    have fr := ResW.frees (gr := gr) (W := W4)
    clear d4 d5 c8 k1 k2 hc1 hc2 h2 h3 h4 h8 h9 hgr hzA hzB hzC hz8 hz9 hbg hbl hL' hN' h1 hn1 hk2 hk02 hk4
    go_upto_region 5 with fail
    go_region_held3 (fun w' => ResW gr W4 w') ((repeat (first | with_reducible exact ResW.start (by assumption) | with_reducible assumption | with_reducible refine ResW.drew ?_ | with_reducible refine ResW.set0 ?_ _ | with_reducible refine ResW.set1 ?_ _ | with_reducible refine ResW.set2 ?_ _ | with_reducible refine ResW.tail (by assumption) ?_))) (first | (go_at_call 36; refine (implWayAdd_any _ _ _ _ _ _ _).mono ?_; rintro _ x2 ⟨rfl, hx2⟩) | (go_at_call 37; refine (implWayTimes_any _ _ _ _ _).mono ?_; rintro _ x3 ⟨rfl, hx3⟩))
    go_wp2_with fail
    have hxx : ResW gr W4 x2 := by repeat (first | with_reducible exact ResW.start (by assumption) | with_reducible assumption | with_reducible refine ResW.drew ?_ | with_reducible refine ResW.set0 ?_ _ | with_reducible refine ResW.set1 ?_ _ | with_reducible refine ResW.set2 ?_ _ | with_reducible refine ResW.tail (by assumption) ?_)
    have c0 := cr x2 hxx
    have hfin := ResW.set2 (ResW.set1 (ResW.set0 hxx (.int .i64 (ad (ad (mu e dn) e1) (mu e2 (-1))))) (.int .i64 (ad (ad (mu nn dn) n1) (mu n2 (-1))))) (.int .i64 (ad (ad (mu u dn) u1) (mu u2 (-1))))
    clear cr cA cB cF kN fr
    exact bodyPost_ret (v := .tuple #[.agg #[.int .i64 (ad (ad (mu e dn) e1) (mu e2 (-1))), .int .i64 (ad (ad (mu nn dn) n1) (mu n2 (-1))), .int .i64 (ad (ad (mu u dn) u1) (mu u2 (-1)))], .bool true]) (by simp [results, Try.results16, go_sem, c0]) rfl ⟨rfl, New.only hkW hfin.1 hgw⟩
set_option maxHeartbeats 4000000 in
theorem specFixMiss_ok (st : Int) (j : Nat) (A B : Option Addr) (cap cb : Nat) (L : List Lg) (dn : Int) (N : List Wy) (w : World) (hL : LegsAt w A L) (hN : WaysAt w B N) (hv : fvB st L dn N = true) (hj : j < L.length) :
    Calls Try.prog 15 #[.agg #[.int .i64 st, .slice A L.length cap], .agg #[.int .i64 dn, .slice B N.length cb], .int .i64 j] w fun r w' => r = .returned (.tuple #[.agg #[.int .i64 (fmG L dn N j Lg.e Wy.e), .int .i64 (fmG L dn N j Lg.n Wy.n), .int .i64 (fmG L dn N j Lg.u Wy.u)], .bool true]) ∧ New w w' := by
  obtain ⟨hsv, hdn, hln, hall⟩ := fvB_true hv
  obtain ⟨b1, b2, b3, b4⟩ := svB_true hsv
  have HV := Lib.hid hv
  have HI : Hid (inB (j : Int) 0 ((L.length : Int) - 1) = true) := inB_t.2 (by omega)
  have HW : Hid (IntKind.i64.wrap ((L.length : Int) - 1) = (L.length : Int) - 1) := by show _ = _; rw [IntKind.wrap_i64]; omega
  have h1 : New w (((w.alloc (Obj.cells #[.int .i64 st, .slice A L.length cap] 33)).alloc (Obj.cells #[.int .i64 dn, .slice B N.length cb] 37)).alloc (Obj.cells #[.int .i64 0, .int .i64 0, .int .i64 0] 43)) := (by repeat (first | with_reducible exact New.refl _ | with_reducible assumption | with_reducible refine New.alloc ?_ _ | with_reducible refine New.drewN ?_ _ | with_reducible refine New.drew ?_ | with_reducible refine New.setCell ?_ (by first | omega | (simp; done) | (simp; omega)) _ | with_reducible refine New.tail (by assumption) ?_))
  have h2 := ((Has.new w #[.int .i64 st, .slice A L.length cap] 33).alloc (Obj.cells #[.int .i64 dn, .slice B N.length cb] 37)).alloc (Obj.cells #[.int .i64 0, .int .i64 0, .int .i64 0] 43)
  have h3 := (Has.new (w.alloc (Obj.cells #[.int .i64 st, .slice A L.length cap] 33)) #[.int .i64 dn, .slice B N.length cb] 37).alloc (Obj.cells #[.int .i64 0, .int .i64 0, .int .i64 0] 43)
  have h4 := Has.new ((w.alloc (Obj.cells #[.int .i64 st, .slice A L.length cap] 33)).alloc (Obj.cells #[.int .i64 dn, .slice B N.length cb] 37)) #[.int .i64 0, .int .i64 0, .int .i64 0] 43
  simp only [World.size_alloc] at h3 h4
  have hL' := hL.keep h1
  have hN' := hN.keep h1
  have hj0 : (0 : Int) ≤ (j : Int) := by omega
  have hj1 : (j : Int) < (L.length : Int) := by omega
  obtain ⟨bL, oL, f, t, e, nn, u, hA, hg, hc⟩ := hL'.at_ hj
  have hla : legAt L j = ⟨f, t, e, nn, u⟩ := (legAt_get hj).trans hg
  have hok := b4 _ (List.getElem_mem hj)
  rw [hg] at hok
  have hb := legB_t.1 hok
  simp only at hb
  obtain ⟨fi, rfl⟩ := Int.eq_ofNat_of_zero_le (show 0 ≤ f by omega)
  obtain ⟨ti, rfl⟩ := Int.eq_ofNat_of_zero_le (show 0 ≤ t by omega)
  have hf : fi < N.length := by omega
  have ht : ti < N.length := by omega
  have hf1 : (fi : Int) < (N.length : Int) := by omega
  have ht1 : (ti : Int) < (N.length : Int) := by omega
  obtain ⟨bN, oN, e1, n1, u1, hB, hg1, hc1⟩ := hN'.at_ hf
  obtain ⟨bN2, oN2, e2, n2, u2, hB2, hg2, hc2⟩ := hN'.at_ ht
  have m1 : fmG L dn N j Lg.e Wy.e = ad (ad (mu e dn) e1) (mu e2 (-1)) := by unfold fmG; rw [hla]; simp only; rw [wyAt_get hf, wyAt_get ht, hg1, hg2]
  have m2 : fmG L dn N j Lg.n Wy.n = ad (ad (mu nn dn) n1) (mu n2 (-1)) := by unfold fmG; rw [hla]; simp only; rw [wyAt_get hf, wyAt_get ht, hg1, hg2]
  have m3 : fmG L dn N j Lg.u Wy.u = ad (ad (mu u dn) u1) (mu u2 (-1)) := by unfold fmG; rw [hla]; simp only; rw [wyAt_get hf, wyAt_get ht, hg1, hg2]
  rw [m1, m2, m3]
  obtain ⟨b0, o0, hB0, hb0, -⟩ := hN (by rintro rfl; simp at hf)
  subst hA
  subst hB
  obtain ⟨rfl, rfl⟩ : bN = b0 ∧ oN = o0 := by simpa using hB0
  obtain ⟨rfl, rfl⟩ : bN = bN2 ∧ oN = oN2 := by simpa using hB2
  clear hB0 m1 m2 m3 hg hg1 hg2 hla hok hb hB2 b4 hall hv hsv hL hN
  have hmL : L.length ≤ 1099511627776 := by omega
  have hmN : N.length ≤ 1099511627776 := by omega
  clear hln
  go_enter Try.func15, Try.ntmps15
  go_upto_region 1 with fail
  generalize (((w.alloc (Obj.cells #[.int .i64 st, .slice (some ⟨bL, oL, none⟩) L.length cap] 33)).alloc (Obj.cells #[.int .i64 dn, .slice (some ⟨bN, oN, none⟩) N.length cb] 37)).alloc (Obj.cells #[.int .i64 0, .int .i64 0, .int .i64 0] 43)) = W0 at *
  have c2 := h2.cells2
  have c3 := h3.cells2
  go_wp2_with fail
  refine (specFixValid_any _ _ _ _ _ _ _ _ _ hL' hN' hmL hmN).mono ?_
  rw [HV.out]
  rintro _ w1 ⟨rfl, hn1⟩
  have d2 := fun w' (hn : New w1 w') => c2 w' (hn1.trans hn)
  have d3 := fun w' (hn : New w1 w') => c3 w' (hn1.trans hn)
  have g0 := fun w' (hn : New w1 w') => hc w' (hn1.trans hn)
  clear c2 c3 hc
  go_upto_region 4 with (go_at_call 25; refine (l1In_any _ _ _ _).mono ?_; (first | rw [HI.out] | rw [HW.out, HI.out]); rintro _ w2 ⟨rfl, rfl⟩)
  have hk2 : New w1 (w1.alloc (.cells #[.int .i64 fi, .int .i64 ti, .int .i64 e, .int .i64 nn, .int .i64 u] 61)) := (by repeat (first | with_reducible exact New.refl _ | with_reducible assumption | with_reducible refine New.alloc ?_ _ | with_reducible refine New.drewN ?_ _ | with_reducible refine New.drew ?_ | with_reducible refine New.setCell ?_ (by first | omega | (simp; done) | (simp; omega)) _ | with_reducible refine New.tail (by assumption) ?_))
  have h8 := Has.new w1 #[.int .i64 fi, .int .i64 ti, .int .i64 e, .int .i64 nn, .int .i64 u] 61
  have hz8 : w.heap.size + 1 + 1 < w1.heap.size := by have := h4.lt; have := hn1.size; omega
  obtain ⟨g8, hg8⟩ : ∃ g, w1.heap.size = g := ⟨_, rfl⟩
  rw [hg8] at h8 hz8 ⊢
  generalize (w1.alloc (.cells #[.int .i64 fi, .int .i64 ti, .int .i64 e, .int .i64 nn, .int .i64 u] 61)) = W2 at *
  have hk02 := hn1.trans hk2
  have hkW : New w W2 := h1.trans hk02
  have hr := h4.keep hk02
  have hzA := h3.lt
  have hzB := h4.lt
  have hzC := hk02.size
  obtain ⟨gr, hgr⟩ : ∃ g, w.heap.size + 1 + 1 = g := ⟨_, rfl⟩
  have hgw : w.heap.size ≤ gr := by omega
  have hgf : w.heap.size + 1 ≠ gr := by omega
  rw [hgr] at hr hz8 hzB ⊢
  have cA := h8.resCells5 (gr := gr) (by omega)
  have cF := fun w' (hR : ResW gr W2 w') => ((h3.keep hk02).only hR.1 hgf).cells2 w' (New.refl w')
  have hbg : bN ≠ gr := by omega
  have hbl : bN < W2.heap.size := by have := hkW.size; omega
  have k1 := hc1 W2 hk02
  have k2 := hc2 W2 hk02
  have kM := fun w' (hR : ResW gr W2 w') => And.intro ((hR.1.cell hbl hbg _).trans k1.1) (And.intro ((hR.1.cell hbl hbg _).trans k1.2.1) ((hR.1.cell hbl hbg _).trans k1.2.2))
  have kN := fun w' (hR : ResW gr W2 w') => And.intro ((hR.1.cell hbl hbg _).trans k2.1) (And.intro ((hR.1.cell hbl hbg _).trans k2.2.1) ((hR.1.cell hbl hbg _).trans k2.2.2))
  have cr := ResW.cells (gr := gr) (W := W2)
  have fr := ResW.frees (gr := gr) (W := W2)
  clear d2 d3 g0 k1 k2 hc1 hc2 h2 h3 h4 h8 hg8 hgr hzA hzB hzC hz8 hbg hbl hL' hN' h1 hn1 hk2 hk02
  go_region_held3 (fun w' => ResW gr W2 w') ((repeat (first | with_reducible exact ResW.start (by assumption) | with_reducible assumption | with_reducible refine ResW.drew ?_ | with_reducible refine ResW.set0 ?_ _ | with_reducible refine ResW.set1 ?_ _ | with_reducible refine ResW.set2 ?_ _ | with_reducible refine ResW.tail (by assumption) ?_))) (first | (go_at_call 34; refine (l1Way_any _ _ _ _ _ _).mono ?_; rintro _ x1 ⟨rfl, hx1⟩) | (go_at_call 32; refine (specWayAdd_any _ _ _ _ _ _ _).mono ?_; rintro _ x2 ⟨rfl, hx2⟩) | (go_at_call 33; refine (specWayTimes_any _ _ _ _ _).mono ?_; rintro _ x3 ⟨rfl, hx3⟩))
  go_wp2_with fail
  have hxx : ResW gr W2 x2 := by repeat (first | with_reducible exact ResW.start (by assumption) | with_reducible assumption | with_reducible refine ResW.drew ?_ | with_reducible refine ResW.set0 ?_ _ | with_reducible refine ResW.set1 ?_ _ | with_reducible refine ResW.set2 ?_ _ | with_reducible refine ResW.tail (by assumption) ?_)
  have c0 := cr x2 hxx
  have hfin := ResW.set2 (ResW.set1 (ResW.set0 hxx (.int .i64 (ad (ad (mu e dn) e1) (mu e2 (-1))))) (.int .i64 (ad (ad (mu nn dn) n1) (mu n2 (-1))))) (.int .i64 (ad (ad (mu u dn) u1) (mu u2 (-1))))
  clear cr cA cF kM kN fr
  exact bodyPost_ret (v := .tuple #[.agg #[.int .i64 (ad (ad (mu e dn) e1) (mu e2 (-1))), .int .i64 (ad (ad (mu nn dn) n1) (mu n2 (-1))), .int .i64 (ad (ad (mu u dn) u1) (mu u2 (-1)))], .bool true]) (by simp [results, Try.results15, go_sem, c0]) rfl ⟨rfl, New.only hkW hfin.1 hgw⟩
set_option maxHeartbeats 2000000 in
theorem implFixMiss_bad (st ix : Int) (A B : Option Addr) (cap cb : Nat) (L : List Lg) (dn : Int) (N : List Wy) (w : World) (hL : LegsAt w A L) (hN : WaysAt w B N) (hm : L.length ≤ 1099511627776) (hmn : N.length ≤ 1099511627776) (h : fvB st L dn N = false ∨ (fvB st L dn N = true ∧ ixB ix L.length = false)) :
    Calls Try.prog 16 #[.agg #[.int .i64 st, .slice A L.length cap], .agg #[.int .i64 dn, .slice B N.length cb], .int .i64 ix] w fun r w' => r = .returned (.tuple #[.agg #[.int .i64 0, .int .i64 0, .int .i64 0], .bool false]) ∧ New w w' := by
  have h1 : New w (((w.alloc (Obj.cells #[.int .i64 st, .slice A L.length cap] 33)).alloc (Obj.cells #[.int .i64 dn, .slice B N.length cb] 37)).alloc (Obj.cells #[.int .i64 0, .int .i64 0, .int .i64 0] 43)) := (by repeat (first | with_reducible exact New.refl _ | with_reducible assumption | with_reducible refine New.alloc ?_ _ | with_reducible refine New.drewN ?_ _ | with_reducible refine New.drew ?_ | with_reducible refine New.setCell ?_ (by first | omega | (simp; done) | (simp; omega)) _ | with_reducible refine New.tail (by assumption) ?_))
  have h2 := ((Has.new w #[.int .i64 st, .slice A L.length cap] 33).alloc (Obj.cells #[.int .i64 dn, .slice B N.length cb] 37)).alloc (Obj.cells #[.int .i64 0, .int .i64 0, .int .i64 0] 43)
  have h3 := (Has.new (w.alloc (Obj.cells #[.int .i64 st, .slice A L.length cap] 33)) #[.int .i64 dn, .slice B N.length cb] 37).alloc (Obj.cells #[.int .i64 0, .int .i64 0, .int .i64 0] 43)
  have h4 := Has.new ((w.alloc (Obj.cells #[.int .i64 st, .slice A L.length cap] 33)).alloc (Obj.cells #[.int .i64 dn, .slice B N.length cb] 37)) #[.int .i64 0, .int .i64 0, .int .i64 0] 43
  simp only [World.size_alloc] at h3 h4
  have hL' := hL.keep h1
  have hN' := hN.keep h1
  rcases h with h | ⟨hv, h⟩
  · have HV := Lib.hid h
    clear h
    go_enter Try.func16, Try.ntmps16
    go_upto_region 1 with fail
    generalize (((w.alloc (Obj.cells #[.int .i64 st, .slice A L.length cap] 33)).alloc (Obj.cells #[.int .i64 dn, .slice B N.length cb] 37)).alloc (Obj.cells #[.int .i64 0, .int .i64 0, .int .i64 0] 43)) = W0 at *
    have c2 := h2.cells2
    have c3 := h3.cells2
    clear h2 h3
    go_wp2_with fail
    refine (implFixValid_any _ _ _ _ _ _ _ _ _ hL' hN' hm hmn).mono ?_
    rw [HV.out]
    rintro _ w1 ⟨rfl, hn1⟩
    have c5 := h4.keep hn1 |>.cells3
    have f5 := h4.keep hn1 |>.frees
    go_wp2_with fail
    exact bodyPost_ret (v := .tuple #[.agg #[.int .i64 0, .int .i64 0, .int .i64 0], .bool false]) (by simp [results, Try.results16, go_sem, c5]) rfl ⟨rfl, New.setCell (New.setCell (New.setCell (h1.trans hn1) (p := ⟨w.heap.size + 1 + 1, 0, none⟩) (by simp; omega) _) (p := ⟨w.heap.size + 1 + 1, 1, none⟩) (by simp; omega) _) (p := ⟨w.heap.size + 1 + 1, 2, none⟩) (by simp; omega) _⟩
  · have HV := Lib.hid hv
    have H := Lib.hid h
    clear h hv
    go_enter Try.func16, Try.ntmps16
    go_upto_region 1 with fail
    generalize (((w.alloc (Obj.cells #[.int .i64 st, .slice A L.length cap] 33)).alloc (Obj.cells #[.int .i64 dn, .slice B N.length cb] 37)).alloc (Obj.cells #[.int .i64 0, .int .i64 0, .int .i64 0] 43)) = W0 at *
    have c2 := h2.cells2
    have c3 := h3.cells2
    clear h2 h3
    go_wp2_with fail
    refine (implFixValid_any _ _ _ _ _ _ _ _ _ hL' hN' hm hmn).mono ?_
    rw [HV.out]
    rintro _ w1 ⟨rfl, hn1⟩
    have c5 := h4.keep hn1 |>.cells3
    have f5 := h4.keep hn1 |>.frees
    go_wp2_with (go_at_call 35; refine (isIndex_any _ _ _).mono ?_; rw [H.out]; rintro _ w2 ⟨rfl, rfl⟩)
    exact bodyPost_ret (v := .tuple #[.agg #[.int .i64 0, .int .i64 0, .int .i64 0], .bool false]) (by simp [results, Try.results16, go_sem, c5]) rfl ⟨rfl, New.setCell (New.setCell (New.setCell (h1.trans hn1) (p := ⟨w.heap.size + 1 + 1, 0, none⟩) (by simp; omega) _) (p := ⟨w.heap.size + 1 + 1, 1, none⟩) (by simp; omega) _) (p := ⟨w.heap.size + 1 + 1, 2, none⟩) (by simp; omega) _⟩
theorem implFixMiss_any (st : Int) (A B : Option Addr) (cap cb : Nat) (L : List Lg) (dn : Int) (N : List Wy) (ix : Int) (w : World) (hL : LegsAt w A L) (hN : WaysAt w B N) (hm : L.length ≤ 1099511627776) (hmn : N.length ≤ 1099511627776) :
    Calls Try.prog 16 #[.agg #[.int .i64 st, .slice A L.length cap], .agg #[.int .i64 dn, .slice B N.length cb], .int .i64 ix] w fun r w' => r = .returned (.tuple #[.agg #[.int .i64 (fmF st L dn N ix Lg.e Wy.e), .int .i64 (fmF st L dn N ix Lg.n Wy.n), .int .i64 (fmF st L dn N ix Lg.u Wy.u)], .bool (fmB st L dn N ix)]) ∧ New w w' := by
  cases hv : fvB st L dn N
  · have h := fmB_no1 (i := ix) hv
    rw [fmF_no _ _ h, fmF_no _ _ h, fmF_no _ _ h, h]
    exact implFixMiss_bad st ix A B cap cb L dn N w hL hN hm hmn (.inl hv)
  · cases hi : ixB ix L.length
    · have h := fmB_no2 (st := st) (dn := dn) (N := N) hi
      rw [fmF_no _ _ h, fmF_no _ _ h, fmF_no _ _ h, h]
      exact implFixMiss_bad st ix A B cap cb L dn N w hL hN hm hmn (.inr ⟨hv, hi⟩)
    · have h := fmB_yes hv hi
      rw [fmF_yes _ _ h, fmF_yes _ _ h, fmF_yes _ _ h, h]
      obtain ⟨x0, x1⟩ := ixB_t.1 hi
      obtain ⟨j, rfl⟩ := Int.eq_ofNat_of_zero_le x0
      exact implFixMiss_ok st j A B cap cb L dn N w hL hN hv (by omega)
set_option maxHeartbeats 2000000 in
theorem specFixMiss_bad (st ix : Int) (A B : Option Addr) (cap cb : Nat) (L : List Lg) (dn : Int) (N : List Wy) (w : World) (hL : LegsAt w A L) (hN : WaysAt w B N) (hm : L.length ≤ 1099511627776) (hmn : N.length ≤ 1099511627776) (h : fvB st L dn N = false ∨ (fvB st L dn N = true ∧ ixB ix L.length = false)) :
    Calls Try.prog 15 #[.agg #[.int .i64 st, .slice A L.length cap], .agg #[.int .i64 dn, .slice B N.length cb], .int .i64 ix] w fun r w' => r = .returned (.tuple #[.agg #[.int .i64 0, .int .i64 0, .int .i64 0], .bool false]) ∧ New w w' := by
  have h1 : New w (((w.alloc (Obj.cells #[.int .i64 st, .slice A L.length cap] 33)).alloc (Obj.cells #[.int .i64 dn, .slice B N.length cb] 37)).alloc (Obj.cells #[.int .i64 0, .int .i64 0, .int .i64 0] 43)) := (by repeat (first | with_reducible exact New.refl _ | with_reducible assumption | with_reducible refine New.alloc ?_ _ | with_reducible refine New.drewN ?_ _ | with_reducible refine New.drew ?_ | with_reducible refine New.setCell ?_ (by first | omega | (simp; done) | (simp; omega)) _ | with_reducible refine New.tail (by assumption) ?_))
  have h2 := ((Has.new w #[.int .i64 st, .slice A L.length cap] 33).alloc (Obj.cells #[.int .i64 dn, .slice B N.length cb] 37)).alloc (Obj.cells #[.int .i64 0, .int .i64 0, .int .i64 0] 43)
  have h3 := (Has.new (w.alloc (Obj.cells #[.int .i64 st, .slice A L.length cap] 33)) #[.int .i64 dn, .slice B N.length cb] 37).alloc (Obj.cells #[.int .i64 0, .int .i64 0, .int .i64 0] 43)
  have h4 := Has.new ((w.alloc (Obj.cells #[.int .i64 st, .slice A L.length cap] 33)).alloc (Obj.cells #[.int .i64 dn, .slice B N.length cb] 37)) #[.int .i64 0, .int .i64 0, .int .i64 0] 43
  simp only [World.size_alloc] at h3 h4
  have hL' := hL.keep h1
  have hN' := hN.keep h1
  rcases h with h | ⟨hv, h⟩
  · have HV := Lib.hid h
    clear h
    go_enter Try.func15, Try.ntmps15
    go_upto_region 1 with fail
    generalize (((w.alloc (Obj.cells #[.int .i64 st, .slice A L.length cap] 33)).alloc (Obj.cells #[.int .i64 dn, .slice B N.length cb] 37)).alloc (Obj.cells #[.int .i64 0, .int .i64 0, .int .i64 0] 43)) = W0 at *
    have c2 := h2.cells2
    have c3 := h3.cells2
    clear h2 h3
    go_wp2_with fail
    refine (specFixValid_any _ _ _ _ _ _ _ _ _ hL' hN' hm hmn).mono ?_
    rw [HV.out]
    rintro _ w1 ⟨rfl, hn1⟩
    have c5 := h4.keep hn1 |>.cells3
    have f5 := h4.keep hn1 |>.frees
    go_wp2_with fail
    exact bodyPost_ret (v := .tuple #[.agg #[.int .i64 0, .int .i64 0, .int .i64 0], .bool false]) (by simp [results, Try.results15, go_sem, c5]) rfl ⟨rfl, New.setCell (New.setCell (New.setCell (h1.trans hn1) (p := ⟨w.heap.size + 1 + 1, 0, none⟩) (by simp; omega) _) (p := ⟨w.heap.size + 1 + 1, 1, none⟩) (by simp; omega) _) (p := ⟨w.heap.size + 1 + 1, 2, none⟩) (by simp; omega) _⟩
  · have HV := Lib.hid hv
    have h : inB ix 0 ((L.length : Int) - 1) = false := by rw [inB_f]; have := ixB_f.1 h; omega
    have HW : Hid (IntKind.i64.wrap ((L.length : Int) - 1) = (L.length : Int) - 1) := by show _ = _; rw [IntKind.wrap_i64]; omega
    have H := Lib.hid h
    clear h hv
    go_enter Try.func15, Try.ntmps15
    go_upto_region 1 with fail
    generalize (((w.alloc (Obj.cells #[.int .i64 st, .slice A L.length cap] 33)).alloc (Obj.cells #[.int .i64 dn, .slice B N.length cb] 37)).alloc (Obj.cells #[.int .i64 0, .int .i64 0, .int .i64 0] 43)) = W0 at *
    have c2 := h2.cells2
    have c3 := h3.cells2
    clear h2 h3
    go_wp2_with fail
    refine (specFixValid_any _ _ _ _ _ _ _ _ _ hL' hN' hm hmn).mono ?_
    rw [HV.out]
    rintro _ w1 ⟨rfl, hn1⟩
    have c5 := h4.keep hn1 |>.cells3
    have f5 := h4.keep hn1 |>.frees
    go_wp2_with (go_at_call 25; refine (l1In_any _ _ _ _).mono ?_; (first | rw [H.out] | rw [HW.out, H.out]); rintro _ w2 ⟨rfl, rfl⟩)
    exact bodyPost_ret (v := .tuple #[.agg #[.int .i64 0, .int .i64 0, .int .i64 0], .bool false]) (by simp [results, Try.results15, go_sem, c5]) rfl ⟨rfl, New.setCell (New.setCell (New.setCell (h1.trans hn1) (p := ⟨w.heap.size + 1 + 1, 0, none⟩) (by simp; omega) _) (p := ⟨w.heap.size + 1 + 1, 1, none⟩) (by simp; omega) _) (p := ⟨w.heap.size + 1 + 1, 2, none⟩) (by simp; omega) _⟩
theorem specFixMiss_any (st : Int) (A B : Option Addr) (cap cb : Nat) (L : List Lg) (dn : Int) (N : List Wy) (ix : Int) (w : World) (hL : LegsAt w A L) (hN : WaysAt w B N) (hm : L.length ≤ 1099511627776) (hmn : N.length ≤ 1099511627776) :
    Calls Try.prog 15 #[.agg #[.int .i64 st, .slice A L.length cap], .agg #[.int .i64 dn, .slice B N.length cb], .int .i64 ix] w fun r w' => r = .returned (.tuple #[.agg #[.int .i64 (fmF st L dn N ix Lg.e Wy.e), .int .i64 (fmF st L dn N ix Lg.n Wy.n), .int .i64 (fmF st L dn N ix Lg.u Wy.u)], .bool (fmB st L dn N ix)]) ∧ New w w' := by
  cases hv : fvB st L dn N
  · have h := fmB_no1 (i := ix) hv
    rw [fmF_no _ _ h, fmF_no _ _ h, fmF_no _ _ h, h]
    exact specFixMiss_bad st ix A B cap cb L dn N w hL hN hm hmn (.inl hv)
  · cases hi : ixB ix L.length
    · have h := fmB_no2 (st := st) (dn := dn) (N := N) hi
      rw [fmF_no _ _ h, fmF_no _ _ h, fmF_no _ _ h, h]
      exact specFixMiss_bad st ix A B cap cb L dn N w hL hN hm hmn (.inr ⟨hv, hi⟩)
    · have h := fmB_yes hv hi
      rw [fmF_yes _ _ h, fmF_yes _ _ h, fmF_yes _ _ h, h]
      obtain ⟨x0, x1⟩ := ixB_t.1 hi
      obtain ⟨j, rfl⟩ := Int.eq_ofNat_of_zero_le x0
      exact specFixMiss_ok st j A B cap cb L dn N w hL hN hv (by omega)
end Go.Proofs.Ytbjahideaonimaa
