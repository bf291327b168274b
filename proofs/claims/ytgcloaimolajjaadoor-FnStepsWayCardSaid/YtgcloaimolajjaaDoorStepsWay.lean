/- Contracts of StepsWay (program and reference). -/
import Derived.Test.YtgcloaimolajjaaDoorSteps
import Derived.Deep.RegionWith
namespace Go.Proofs.YtgcloaimolajjaaDoor
open Go.RowKit
set_option linter.all false
def stE (L : List Lg) (x : St) : Int := bk x.b (ng (legAt L x.i).e) (legAt L x.i).e
def stN (L : List Lg) (x : St) : Int := bk x.b (ng (legAt L x.i).n) (legAt L x.i).n
def stU (L : List Lg) (x : St) : Int := bk x.b (ng (legAt L x.i).u) (legAt L x.i).u
def sumF (F : St → Int) (S : List St) (k : Nat) : Int := (S.take k).foldl (fun a x => ad a (F x)) 0
theorem sumF_succ {F : St → Int} {S : List St} {k : Nat} (hk : k < S.length) {x : St} (hx : S[k] = x) : sumF F S (k + 1) = ad (sumF F S k) (F x) := by
  unfold sumF
  rw [List.take_add_one, List.getElem?_eq_getElem hk, hx, List.foldl_append]
  rfl
theorem mu_neg (e : Int) : mu e (-1) = ng e := by unfold mu ng; rw [Int.mul_neg, Int.mul_one]
/-- What StepsWay returns. -/
def swB (st : Int) (L : List Lg) (S : List St) (F : St → Int) : Int := if soB st L S then sumF F S S.length else 0
theorem swB_no {st : Int} {L : List Lg} {S : List St} (F : St → Int) (h : soB st L S = false) : swB st L S F = 0 := by simp [swB, h]
theorem swB_ok {st : Int} {L : List Lg} {S : List St} (F : St → Int) (h : soB st L S = true) : swB st L S F = sumF F S S.length := by simp [swB, h]
theorem soB_step {st : Int} {L : List Lg} {S : List St} (h : soB st L S = true) {k : Nat} (hk : k < S.length) {x : St} (hx : S[k] = x) : 0 ≤ x.i ∧ x.i < L.length := by
  unfold soB at h
  simp only [Bool.and_eq_true] at h
  have := chainB_all h.2 k hk
  rw [stepOkB_at hk hx] at this
  simp only [Bool.and_eq_true, decide_eq_true_eq] at this
  exact this.1
set_option maxHeartbeats 4000000 in
theorem implStepsWay_any (st : Int) (A B : Option Addr) (cap cb : Nat) (L : List Lg) (S : List St) (w : World) (hL : LegsAt w A L) (hS : StepsAt w B S) (hm : L.length ≤ 1099511627776) (hms : S.length ≤ 1099511627776) :
    Calls Tryd.prog 54 #[.agg #[.int .i64 st, .slice A L.length cap], .slice B S.length cb] w fun r w' => r = .returned (.tuple #[.agg #[.int .i64 (swB st L S (stE L)), .int .i64 (swB st L S (stN L)), .int .i64 (swB st L S (stU L))], .bool (soB st L S)]) ∧ New w w' := by
  have h1 : New w ((w.alloc (Obj.cells #[.int .i64 st, .slice A L.length cap] 25)).alloc (Obj.cells #[.int .i64 0, .int .i64 0, .int .i64 0] 53)) := (by repeat (first | with_reducible exact New.refl _ | with_reducible assumption | with_reducible refine New.alloc ?_ _ | with_reducible refine New.drewN ?_ _ | with_reducible refine New.drew ?_ | with_reducible refine New.setCell ?_ (by first | omega | (simp; done) | (simp; omega)) _ | with_reducible refine New.tail (by assumption) ?_))
  have h2 := (Has.new w #[.int .i64 st, .slice A L.length cap] 25).alloc (Obj.cells #[.int .i64 0, .int .i64 0, .int .i64 0] 53)
  have h3 := Has.new (w.alloc (Obj.cells #[.int .i64 st, .slice A L.length cap] 25)) #[.int .i64 0, .int .i64 0, .int .i64 0] 53
  simp only [World.size_alloc] at h3
  have hL' := hL.keep h1
  have hS' := hS.keep h1
  cases hv : soB st L S
  · have HE := Lib.hid (swB_no (stE L) hv)
    have HN := Lib.hid (swB_no (stN L) hv)
    have HU := Lib.hid (swB_no (stU L) hv)
    rw [HE.out, HN.out, HU.out]
    go_enter Tryd.func54, Tryd.ntmps54
    go_upto_region 1 with fail
    generalize ((w.alloc (Obj.cells #[.int .i64 st, .slice A L.length cap] 25)).alloc (Obj.cells #[.int .i64 0, .int .i64 0, .int .i64 0] 53)) = W0 at *
    have c2 := h2.cells2
    have c3 := h3.cells3
    have f3 := h3.frees
    clear h2
    go_wp2_with (go_at_call 24; refine (implStepsOk_any _ _ _ _ _ _ _ _ hL' hS' hm hms).mono ?_; rw [hv]; rintro e w1 ⟨rfl, hn⟩; have hk : New W0 w1 := New.tail hn (by repeat (first | with_reducible exact New.refl _ | with_reducible assumption | with_reducible refine New.alloc ?_ _ | with_reducible refine New.drewN ?_ _ | with_reducible refine New.drew ?_ | with_reducible refine New.setCell ?_ (by first | omega | (simp; done) | (simp; omega)) _ | with_reducible refine New.tail (by assumption) ?_)))
    have hlt := h3.lt
    exact bodyPost_ret (v := .tuple #[.agg #[.int .i64 0, .int .i64 0, .int .i64 0], .bool false]) (by simp [results, Tryd.results54, go_sem, c3, hk]) rfl ⟨rfl, New.setCell (New.setCell (New.setCell (h1.trans hk) (p := ⟨w.heap.size + 1, 0, none⟩) (by simp) _) (p := ⟨w.heap.size + 1, 1, none⟩) (by simp) _) (p := ⟨w.heap.size + 1, 2, none⟩) (by simp) _⟩
  · have HE := Lib.hid (swB_ok (stE L) hv)
    have HN := Lib.hid (swB_ok (stN L) hv)
    have HU := Lib.hid (swB_ok (stU L) hv)
    have HV := Lib.hid hv
    go_enter Tryd.func54, Tryd.ntmps54
    go_upto_region 1 with fail
    generalize ((w.alloc (Obj.cells #[.int .i64 st, .slice A L.length cap] 25)).alloc (Obj.cells #[.int .i64 0, .int .i64 0, .int .i64 0] 53)) = W0 at *
    have c2 := h2.cells2
    clear h2
    go_wp2_with (go_at_call 24; refine (implStepsOk_any _ _ _ _ _ _ _ _ hL' hS' hm hms).mono ?_; rw [HV.out]; rintro e w1 ⟨rfl, hn⟩; have hk : New W0 w1 := New.tail hn (by repeat (first | with_reducible exact New.refl _ | with_reducible assumption | with_reducible refine New.alloc ?_ _ | with_reducible refine New.drewN ?_ _ | with_reducible refine New.drew ?_ | with_reducible refine New.setCell ?_ (by first | omega | (simp; done) | (simp; omega)) _ | with_reducible refine New.tail (by assumption) ?_)))
    clear hv
    have hsz1 := hk.size
    go_loopw [18] (fun i wr => ∃ k : Nat, k ≤ S.length ∧ i = .int .i64 k ∧ New W0 wr ∧ Has wr w1.heap.size #[.int .i64 (sumF (stE L) S k), .int .i64 (sumF (stN L) S k), .int .i64 (sumF (stU L) S k)] 53) (fun i _ => S.length - (intOf i).toNat)
    case atStart => exact ⟨0, Nat.zero_le _, rfl, (by repeat (first | with_reducible exact New.refl _ | with_reducible assumption | with_reducible refine New.alloc ?_ _ | with_reducible refine New.drewN ?_ _ | with_reducible refine New.drew ?_ | with_reducible refine New.setCell ?_ (by first | omega | (simp; done) | (simp; omega)) _ | with_reducible refine New.tail (by assumption) ?_)), Has.new _ _ _⟩
    case round =>
      obtain ⟨k, hk', rfl, hw, hsum⟩ := hrel
      by_cases hlt : k < S.length
      · obtain ⟨bS, oS, xi, xb, hB, hx, cs⟩ := (hS'.keep hw).at_ hlt
        have hxx := hx
        obtain ⟨hi0, hi1⟩ := soB_step HV.out hlt hx
        simp only at hi0 hi1
        obtain ⟨j, rfl⟩ := Int.eq_ofNat_of_zero_le hi0
        have hj : j < L.length := by omega
        have hl := legAt_get hj
        obtain ⟨bL, oL, f, t, e, nn, u, hA, hg, hc⟩ := (hL'.keep hw).at_ hj
        rw [hg] at hl
        have hE := sumF_succ (F := stE L) hlt hx
        have hN := sumF_succ (F := stN L) hlt hx
        have hU := sumF_succ (F := stU L) hlt hx
        have eE : stE L ⟨j, xb⟩ = bk xb (ng e) e := by unfold stE; rw [hl]
        have eN : stN L ⟨j, xb⟩ = bk xb (ng nn) nn := by unfold stN; rw [hl]
        have eU : stU L ⟨j, xb⟩ = bk xb (ng u) u := by unfold stU; rw [hl]
        rw [eE] at hE
        rw [eN] at hN
        rw [eU] at hU
        obtain ⟨s0, hs0⟩ : ∃ x, sumF (stE L) S k = x := ⟨_, rfl⟩
        obtain ⟨s1, hs1⟩ : ∃ x, sumF (stN L) S k = x := ⟨_, rfl⟩
        obtain ⟨s2, hs2⟩ : ∃ x, sumF (stU L) S k = x := ⟨_, rfl⟩
        rw [hs0] at hsum hE
        rw [hs1] at hsum hN
        rw [hs2] at hsum hU
        have KE := Lib.hid hE
        have KN := Lib.hid hN
        have KU := Lib.hid hU
        subst hA hB
        have cW := fun w' (hn : New wr w') => c2 w' (hw.trans hn)
        have c6 := hsum.cells3
        have f6 := hsum.frees
        have hk0 : (0 : Int) ≤ (k : Int) := by omega
        have hj0 : (0 : Int) ≤ (j : Int) := by omega
        clear hx hxx hl hg hE hN hU eE eN eU hs0 hs1 hs2 c2 hL hS
        go_upto_region 8 with fail
        have hX : New wr ((wr.alloc (Obj.cells #[.int .i64 j, .bool xb] 40)).alloc (Obj.cells #[.int .i64 f, .int .i64 t, .int .i64 e, .int .i64 nn, .int .i64 u] 34)) := (by repeat (first | with_reducible exact New.refl _ | with_reducible assumption | with_reducible refine New.alloc ?_ _ | with_reducible refine New.drewN ?_ _ | with_reducible refine New.drew ?_ | with_reducible refine New.setCell ?_ (by first | omega | (simp; done) | (simp; omega)) _ | with_reducible refine New.tail (by assumption) ?_))
        have h8 := (Has.new wr #[.int .i64 j, .bool xb] 40).alloc (Obj.cells #[.int .i64 f, .int .i64 t, .int .i64 e, .int .i64 nn, .int .i64 u] 34)
        have h9 := Has.new (wr.alloc (Obj.cells #[.int .i64 j, .bool xb] 40)) #[.int .i64 f, .int .i64 t, .int .i64 e, .int .i64 nn, .int .i64 u] 34
        simp only [World.size_alloc] at h9
        have hsX := hsum.keep hX
        have hwl := hw.size
        have hsl := hsum.lt
        generalize ((wr.alloc (Obj.cells #[.int .i64 j, .bool xb] 40)).alloc (Obj.cells #[.int .i64 f, .int .i64 t, .int .i64 e, .int .i64 nn, .int .i64 u] 34)) = W1 at *
        have hW1 : New W0 W1 := hw.trans hX
        have c8 := h8.cells2
        have c9 := h9.cells5
        have f9 := h9.frees
        clear c6 f6 cs cW hc hsum
        cases xb
        · go_upto_region 10 with fail
          have hs2 := hsX
          have h92 := h9
          clear c8 c9 f9 h8
          have hkW : New W0 W1 := hW1
          have c6 := hs2.cells3
          have f6 := hs2.frees
          have c9 := h92.cells5
          clear h92
          go_region_with (first | (go_at_call 78; refine (legWay_any _ _ _ _ _ _).mono ?_; rintro e1 x1 ⟨rfl, hn1⟩; have hkx1 : New W1 x1 := New.tail hn1 (by repeat (first | with_reducible exact New.refl _ | with_reducible assumption | with_reducible refine New.alloc ?_ _ | with_reducible refine New.drewN ?_ _ | with_reducible refine New.drew ?_ | with_reducible refine New.setCell ?_ (by first | omega | (simp; done) | (simp; omega)) _ | with_reducible refine New.tail (by assumption) ?_))) | (go_at_call 49; refine (implWayAdd_any _ _ _ _ _ _ _).mono ?_; rintro e2 x2 ⟨rfl, hn2⟩; have hkx2 : New W1 x2 := New.tail hn2 (by repeat (first | with_reducible exact New.refl _ | with_reducible assumption | with_reducible refine New.alloc ?_ _ | with_reducible refine New.drewN ?_ _ | with_reducible refine New.drew ?_ | with_reducible refine New.setCell ?_ (by first | omega | (simp; done) | (simp; omega)) _ | with_reducible refine New.tail (by assumption) ?_))))
          all_goals
            go_wp2_with fail
            go_roundw
            case rel => exact ⟨k + 1, by omega, by go_num, New.setCell (New.setCell (New.setCell (hkW.trans (by assumption)) (p := ⟨w1.heap.size, 0, none⟩) hsz1 _) (p := ⟨w1.heap.size, 1, none⟩) hsz1 _) (p := ⟨w1.heap.size, 2, none⟩) hsz1 _, by rw [KE.out, KN.out, KU.out]; exact Has.set3 (hs2.keep (by assumption))⟩
            case measure => simp [intOf]; omega
        · go_upto_region 10 with (go_at_call 82; refine (implLegBack_any _ _ _ _ _ _).mono ?_; rintro e9 w9 ⟨rfl, hn9⟩)
          have h92 := Has.set5 (y0 := .int .i64 t) (y1 := .int .i64 f) (y2 := .int .i64 (ng e)) (y3 := .int .i64 (ng nn)) (y4 := .int .i64 (ng u)) (h9.keep hn9)
          have hs2 := (((((hsX.keep hn9).far (p := ⟨wr.heap.size + 1, 0, none⟩) (by simp; omega) (.int .i64 t)).far (p := ⟨wr.heap.size + 1, 1, none⟩) (by simp; omega) (.int .i64 f)).far (p := ⟨wr.heap.size + 1, 2, none⟩) (by simp; omega) (.int .i64 (ng e))).far (p := ⟨wr.heap.size + 1, 3, none⟩) (by simp; omega) (.int .i64 (ng nn))).far (p := ⟨wr.heap.size + 1, 4, none⟩) (by simp; omega) (.int .i64 (ng u))
          have hkW : New W0 (((((w9.setCell ⟨wr.heap.size + 1, 0, none⟩ (.int .i64 t)).setCell ⟨wr.heap.size + 1, 1, none⟩ (.int .i64 f)).setCell ⟨wr.heap.size + 1, 2, none⟩ (.int .i64 (ng e))).setCell ⟨wr.heap.size + 1, 3, none⟩ (.int .i64 (ng nn))).setCell ⟨wr.heap.size + 1, 4, none⟩ (.int .i64 (ng u))) :=
            (((((hW1.trans hn9).setCell (p := ⟨wr.heap.size + 1, 0, none⟩) (by simp; omega) _).setCell (p := ⟨wr.heap.size + 1, 1, none⟩) (by simp; omega) _).setCell (p := ⟨wr.heap.size + 1, 2, none⟩) (by simp; omega) _).setCell (p := ⟨wr.heap.size + 1, 3, none⟩) (by simp; omega) _).setCell (p := ⟨wr.heap.size + 1, 4, none⟩) (by simp; omega) _
          generalize (((((w9.setCell ⟨wr.heap.size + 1, 0, none⟩ (.int .i64 t)).setCell ⟨wr.heap.size + 1, 1, none⟩ (.int .i64 f)).setCell ⟨wr.heap.size + 1, 2, none⟩ (.int .i64 (ng e))).setCell ⟨wr.heap.size + 1, 3, none⟩ (.int .i64 (ng nn))).setCell ⟨wr.heap.size + 1, 4, none⟩ (.int .i64 (ng u))) = W2 at *
          clear c8 c9 f9 h8 h9 hsX
          have c6 := hs2.cells3
          have f6 := hs2.frees
          have c9 := h92.cells5
          clear h92
          go_region_with (first | (go_at_call 78; refine (legWay_any _ _ _ _ _ _).mono ?_; rintro e1 x1 ⟨rfl, hn1⟩; have hkx1 : New W2 x1 := New.tail hn1 (by repeat (first | with_reducible exact New.refl _ | with_reducible assumption | with_reducible refine New.alloc ?_ _ | with_reducible refine New.drewN ?_ _ | with_reducible refine New.drew ?_ | with_reducible refine New.setCell ?_ (by first | omega | (simp; done) | (simp; omega)) _ | with_reducible refine New.tail (by assumption) ?_))) | (go_at_call 49; refine (implWayAdd_any _ _ _ _ _ _ _).mono ?_; rintro e2 x2 ⟨rfl, hn2⟩; have hkx2 : New W2 x2 := New.tail hn2 (by repeat (first | with_reducible exact New.refl _ | with_reducible assumption | with_reducible refine New.alloc ?_ _ | with_reducible refine New.drewN ?_ _ | with_reducible refine New.drew ?_ | with_reducible refine New.setCell ?_ (by first | omega | (simp; done) | (simp; omega)) _ | with_reducible refine New.tail (by assumption) ?_))))
          all_goals
            go_wp2_with fail
            go_roundw
            case rel => exact ⟨k + 1, by omega, by go_num, New.setCell (New.setCell (New.setCell (hkW.trans (by assumption)) (p := ⟨w1.heap.size, 0, none⟩) hsz1 _) (p := ⟨w1.heap.size, 1, none⟩) hsz1 _) (p := ⟨w1.heap.size, 2, none⟩) hsz1 _, by rw [KE.out, KN.out, KU.out]; exact Has.set3 (hs2.keep (by assumption))⟩
            case measure => simp [intOf]; omega
      · obtain rfl : k = S.length := by omega
        have c3 := h3.cells3
        have f3 := h3.frees
        have c6 := hsum.cells3 _ (New.refl _)
        go_wp2_with fail
        have hlt := h3.lt
        exact bodyPost_ret (v := .tuple #[.agg #[.int .i64 (sumF (stE L) S S.length), .int .i64 (sumF (stN L) S S.length), .int .i64 (sumF (stU L) S S.length)], .bool true]) (by simp [results, Tryd.results54, go_sem, c3, hw]) rfl ⟨by rw [HE.out, HN.out, HU.out], New.setCell (New.setCell (New.setCell (h1.trans hw) (p := ⟨w.heap.size + 1, 0, none⟩) (by simp) _) (p := ⟨w.heap.size + 1, 1, none⟩) (by simp) _) (p := ⟨w.heap.size + 1, 2, none⟩) (by simp) _⟩
set_option maxHeartbeats 4000000 in
theorem specStepsWay_any (st : Int) (A B : Option Addr) (cap cb : Nat) (L : List Lg) (S : List St) (w : World) (hL : LegsAt w A L) (hS : StepsAt w B S) (hm : L.length ≤ 1099511627776) (hms : S.length ≤ 1099511627776) :
    Calls Tryd.prog 55 #[.agg #[.int .i64 st, .slice A L.length cap], .slice B S.length cb] w fun r w' => r = .returned (.tuple #[.agg #[.int .i64 (swB st L S (stE L)), .int .i64 (swB st L S (stN L)), .int .i64 (swB st L S (stU L))], .bool (soB st L S)]) ∧ New w w' := by
  have h1 : New w ((w.alloc (Obj.cells #[.int .i64 st, .slice A L.length cap] 25)).alloc (Obj.cells #[.int .i64 0, .int .i64 0, .int .i64 0] 53)) := (by repeat (first | with_reducible exact New.refl _ | with_reducible assumption | with_reducible refine New.alloc ?_ _ | with_reducible refine New.drewN ?_ _ | with_reducible refine New.drew ?_ | with_reducible refine New.setCell ?_ (by first | omega | (simp; done) | (simp; omega)) _ | with_reducible refine New.tail (by assumption) ?_))
  have h2 := (Has.new w #[.int .i64 st, .slice A L.length cap] 25).alloc (Obj.cells #[.int .i64 0, .int .i64 0, .int .i64 0] 53)
  have h3 := Has.new (w.alloc (Obj.cells #[.int .i64 st, .slice A L.length cap] 25)) #[.int .i64 0, .int .i64 0, .int .i64 0] 53
  simp only [World.size_alloc] at h3
  have hL' := hL.keep h1
  have hS' := hS.keep h1
  cases hv : soB st L S
  · have HE := Lib.hid (swB_no (stE L) hv)
    have HN := Lib.hid (swB_no (stN L) hv)
    have HU := Lib.hid (swB_no (stU L) hv)
    rw [HE.out, HN.out, HU.out]
    go_enter Tryd.func55, Tryd.ntmps55
    go_upto_region 1 with fail
    generalize ((w.alloc (Obj.cells #[.int .i64 st, .slice A L.length cap] 25)).alloc (Obj.cells #[.int .i64 0, .int .i64 0, .int .i64 0] 53)) = W0 at *
    have c2 := h2.cells2
    have c3 := h3.cells3
    have f3 := h3.frees
    clear h2
    go_upto_region 2 with fail
    have h6 := Has.new W0 #[.int .i64 0, .int .i64 0, .int .i64 0] 53
    have hk0 : New W0 (W0.alloc (Obj.cells #[.int .i64 0, .int .i64 0, .int .i64 0] 53)) := (by repeat (first | with_reducible exact New.refl _ | with_reducible assumption | with_reducible refine New.alloc ?_ _ | with_reducible refine New.drewN ?_ _ | with_reducible refine New.drew ?_ | with_reducible refine New.setCell ?_ (by first | omega | (simp; done) | (simp; omega)) _ | with_reducible refine New.tail (by assumption) ?_))
    generalize (W0.alloc (Obj.cells #[.int .i64 0, .int .i64 0, .int .i64 0] 53)) = W1 at *
    have c6 := h6.cells3
    go_wp2_with (go_at_call 25; refine (specStepsOk_any _ _ _ _ _ _ _ _ (hL'.keep hk0) (hS'.keep hk0) hm hms).mono ?_; rw [hv]; rintro e w1 ⟨rfl, hn1⟩; have hk : New W0 w1 := hk0.trans hn1)
    have hlt := h3.lt
    exact bodyPost_ret (v := .tuple #[.agg #[.int .i64 0, .int .i64 0, .int .i64 0], .bool false]) (by simp [results, Tryd.results55, go_sem, c3, hk]) rfl ⟨rfl, New.setCell (New.setCell (New.setCell (h1.trans hk) (p := ⟨w.heap.size + 1, 0, none⟩) (by simp) _) (p := ⟨w.heap.size + 1, 1, none⟩) (by simp) _) (p := ⟨w.heap.size + 1, 2, none⟩) (by simp) _⟩
  · have HE := Lib.hid (swB_ok (stE L) hv)
    have HN := Lib.hid (swB_ok (stN L) hv)
    have HU := Lib.hid (swB_ok (stU L) hv)
    have HV := Lib.hid hv
    go_enter Tryd.func55, Tryd.ntmps55
    go_upto_region 1 with fail
    generalize ((w.alloc (Obj.cells #[.int .i64 st, .slice A L.length cap] 25)).alloc (Obj.cells #[.int .i64 0, .int .i64 0, .int .i64 0] 53)) = W0 at *
    have c2 := h2.cells2
    clear h2
    go_upto_region 2 with fail
    have h6 := Has.new W0 #[.int .i64 0, .int .i64 0, .int .i64 0] 53
    have hk0 : New W0 (W0.alloc (Obj.cells #[.int .i64 0, .int .i64 0, .int .i64 0] 53)) := (by repeat (first | with_reducible exact New.refl _ | with_reducible assumption | with_reducible refine New.alloc ?_ _ | with_reducible refine New.drewN ?_ _ | with_reducible refine New.drew ?_ | with_reducible refine New.setCell ?_ (by first | omega | (simp; done) | (simp; omega)) _ | with_reducible refine New.tail (by assumption) ?_))
    generalize (W0.alloc (Obj.cells #[.int .i64 0, .int .i64 0, .int .i64 0] 53)) = W1 at *
    go_wp2_with (go_at_call 25; refine (specStepsOk_any _ _ _ _ _ _ _ _ (hL'.keep hk0) (hS'.keep hk0) hm hms).mono ?_; rw [HV.out]; rintro e w1 ⟨rfl, hn1⟩; have hk : New W0 w1 := hk0.trans hn1)
    have h61 := h6.keep hn1
    clear hv h6 hn1 hk0
    go_loopw [7] (fun i wr => ∃ k : Nat, k ≤ S.length ∧ i = .int .i64 k ∧ New W0 wr ∧ Has wr W0.heap.size #[.int .i64 (sumF (stE L) S k), .int .i64 (sumF (stN L) S k), .int .i64 (sumF (stU L) S k)] 53) (fun i _ => S.length - (intOf i).toNat)
    case atStart => exact ⟨0, Nat.zero_le _, rfl, hk, h61⟩
    case round =>
      obtain ⟨k, hk', rfl, hw, hsum⟩ := hrel
      by_cases hlt : k < S.length
      · obtain ⟨bS, oS, xi, xb, hB, hx, cs⟩ := (hS'.keep hw).at_ hlt
        have hxx := hx
        obtain ⟨hi0, hi1⟩ := soB_step HV.out hlt hx
        simp only at hi0 hi1
        obtain ⟨j, rfl⟩ := Int.eq_ofNat_of_zero_le hi0
        have hj : j < L.length := by omega
        have hl := legAt_get hj
        obtain ⟨bL, oL, f, t, e, nn, u, hA, hg, hc⟩ := (hL'.keep hw).at_ hj
        rw [hg] at hl
        have hE := sumF_succ (F := stE L) hlt hx
        have hN := sumF_succ (F := stN L) hlt hx
        have hU := sumF_succ (F := stU L) hlt hx
        have eE : stE L ⟨j, xb⟩ = bk xb (ng e) e := by unfold stE; rw [hl]
        have eN : stN L ⟨j, xb⟩ = bk xb (ng nn) nn := by unfold stN; rw [hl]
        have eU : stU L ⟨j, xb⟩ = bk xb (ng u) u := by unfold stU; rw [hl]
        rw [eE] at hE
        rw [eN] at hN
        rw [eU] at hU
        obtain ⟨s0, hs0⟩ : ∃ x, sumF (stE L) S k = x := ⟨_, rfl⟩
        obtain ⟨s1, hs1⟩ : ∃ x, sumF (stN L) S k = x := ⟨_, rfl⟩
        obtain ⟨s2, hs2⟩ : ∃ x, sumF (stU L) S k = x := ⟨_, rfl⟩
        rw [hs0] at hsum hE
        rw [hs1] at hsum hN
        rw [hs2] at hsum hU
        have KE := Lib.hid hE
        have KN := Lib.hid hN
        have KU := Lib.hid hU
        subst hA hB
        have cW := fun w' (hn : New wr w') => c2 w' (hw.trans hn)
        have hk0 : (0 : Int) ≤ (k : Int) := by omega
        have hj0 : (0 : Int) ≤ (j : Int) := by omega
        have hk1 : (k : Int) < (S.length : Int) := by omega
        have hj1 : (j : Int) < (L.length : Int) := by omega
        clear hx hxx hl hg hE hN hU eE eN eU hs0 hs1 hs2 c2 hL hS
        go_upto_region 7 with fail
        go_cut [8] (fun s8 wx => ∃ g, s8 = .pointer (some ⟨g, 0, none⟩) ∧ Has wx g #[.int .i64 e, .int .i64 nn, .int .i64 u] 53 ∧ New wr wx ∧ wr.heap.size ≤ g)
        case first =>
          clear hsum
          go_region_held3 (fun w' => New wr w') ((repeat (first | with_reducible exact New.refl _ | with_reducible assumption | with_reducible refine New.alloc ?_ _ | with_reducible refine New.drewN ?_ _ | with_reducible refine New.drew ?_ | with_reducible refine New.setCell ?_ (by first | omega | (simp; done) | (simp; omega)) _ | with_reducible refine New.tail (by assumption) ?_))) (first | (go_at_call 80; refine (l1Way_any _ _ _ _ _ _).mono ?_; rintro e w1 ⟨rfl, hn⟩; (first | (have hh := Has.keep (Has.new _ _ _) hn; (first | have hq := Has.at5 hh | have hq := Has.at3 hh | have hq := Has.at2 hh | have hq := Has.at1 hh)) | (have hh := Has.keep (Has.new _ _ _).drew hn; (first | have hq := Has.at5 hh | have hq := Has.at3 hh | have hq := Has.at2 hh | have hq := Has.at1 hh)) | (have hh := Has.keep (by assumption) hn; (first | have hq := Has.at5 hh | have hq := Has.at3 hh | have hq := Has.at2 hh | have hq := Has.at1 hh)) | skip); have hz := hn.size; (try simp only [World.size_alloc, World.size_drew, World.size_setCell] at hz)))
          all_goals (go_wp2_with fail; go_meet; exact ⟨_, rfl, (by repeat (first | with_reducible exact Has.new _ _ _ | with_reducible assumption | with_reducible refine Has.drew ?_ | with_reducible refine Has.drewN ?_ _ | with_reducible apply Has.set1 | with_reducible apply Has.set2 | with_reducible apply Has.set3 | with_reducible apply Has.set5 | with_reducible refine Has.keep ?_ (by assumption))), (by repeat (first | with_reducible exact New.refl _ | with_reducible assumption | with_reducible refine New.alloc ?_ _ | with_reducible refine New.drewN ?_ _ | with_reducible refine New.drew ?_ | with_reducible refine New.setCell ?_ (by first | omega | (simp; done) | (simp; omega)) _ | with_reducible refine New.tail (by assumption) ?_)), by first | omega | (simp; done) | (simp; omega)⟩)
        case rest =>
          obtain ⟨g8, rfl, h8, hX, hg8⟩ := hcut
          have hsX := hsum.keep hX
          have hwl := hw.size
          have hsl := hsum.lt
          have hW1 : New W0 wc := hw.trans hX
          have csX := fun w' (hn : New wc w') => cs w' (hX.trans hn)
          have c8 := h8.cells3
          have f8 := h8.frees
          clear cs cW hc hsum
          cases xb
          · go_upto_region 10 with fail
            have c6 := hsX.cells3
            have f6 := hsX.frees
            go_wp2_with (go_at_call 79; refine (specWayAdd_any _ _ _ _ _ _ _).mono ?_; rintro e2 x2 ⟨rfl, hn2⟩)
            go_roundw
            case rel => exact ⟨k + 1, by omega, by go_num, New.setCell (New.setCell (New.setCell (hW1.trans (by assumption)) (p := ⟨W0.heap.size, 0, none⟩) (Nat.le_refl _) _) (p := ⟨W0.heap.size, 1, none⟩) (Nat.le_refl _) _) (p := ⟨W0.heap.size, 2, none⟩) (Nat.le_refl _) _, by rw [KE.out, KN.out, KU.out]; exact Has.set3 (hsX.keep (by assumption))⟩
            case measure => simp [intOf]; omega
          · go_upto_region 10 with (go_at_call 81; refine (specWayTimes_any _ _ _ _ _).mono ?_; rw [mu_neg, mu_neg, mu_neg]; rintro e9 w9 ⟨rfl, hn9⟩)
            have h82 := Has.set3 (y0 := .int .i64 (ng e)) (y1 := .int .i64 (ng nn)) (y2 := .int .i64 (ng u)) (h8.keep hn9)
            have hs2 := (((hsX.keep hn9).far (p := ⟨g8, 0, none⟩) (by simp; omega) (.int .i64 (ng e))).far (p := ⟨g8, 1, none⟩) (by simp; omega) (.int .i64 (ng nn))).far (p := ⟨g8, 2, none⟩) (by simp; omega) (.int .i64 (ng u))
            have hkW : New W0 (((w9.setCell ⟨g8, 0, none⟩ (.int .i64 (ng e))).setCell ⟨g8, 1, none⟩ (.int .i64 (ng nn))).setCell ⟨g8, 2, none⟩ (.int .i64 (ng u))) :=
              (((hW1.trans hn9).setCell (p := ⟨g8, 0, none⟩) (by simp; omega) _).setCell (p := ⟨g8, 1, none⟩) (by simp; omega) _).setCell (p := ⟨g8, 2, none⟩) (by simp; omega) _
            generalize (((w9.setCell ⟨g8, 0, none⟩ (.int .i64 (ng e))).setCell ⟨g8, 1, none⟩ (.int .i64 (ng nn))).setCell ⟨g8, 2, none⟩ (.int .i64 (ng u))) = W2 at *
            clear c8 f8 h8 csX hsX
            have c6 := hs2.cells3
            have f6 := hs2.frees
            have c8 := h82.cells3
            go_wp2_with (go_at_call 79; refine (specWayAdd_any _ _ _ _ _ _ _).mono ?_; rintro e2 x2 ⟨rfl, hn2⟩)
            go_roundw
            case rel => exact ⟨k + 1, by omega, by go_num, New.setCell (New.setCell (New.setCell (hkW.trans (by assumption)) (p := ⟨W0.heap.size, 0, none⟩) (Nat.le_refl _) _) (p := ⟨W0.heap.size, 1, none⟩) (Nat.le_refl _) _) (p := ⟨W0.heap.size, 2, none⟩) (Nat.le_refl _) _, by rw [KE.out, KN.out, KU.out]; exact Has.set3 (hs2.keep (by assumption))⟩
            case measure => simp [intOf]; omega
      · obtain rfl : k = S.length := by omega
        have c3 := h3.cells3
        have f3 := h3.frees
        have c6 := hsum.cells3 _ (New.refl _)
        go_wp2_with fail
        have hlt := h3.lt
        exact bodyPost_ret (v := .tuple #[.agg #[.int .i64 (sumF (stE L) S S.length), .int .i64 (sumF (stN L) S S.length), .int .i64 (sumF (stU L) S S.length)], .bool true]) (by simp [results, Tryd.results55, go_sem, c3, hw]) rfl ⟨by rw [HE.out, HN.out, HU.out], New.setCell (New.setCell (New.setCell (h1.trans hw) (p := ⟨w.heap.size + 1, 0, none⟩) (by simp) _) (p := ⟨w.heap.size + 1, 1, none⟩) (by simp) _) (p := ⟨w.heap.size + 1, 2, none⟩) (by simp) _⟩
end Go.Proofs.YtgcloaimolajjaaDoor
