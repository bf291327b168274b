/- Contracts of Misclosure (program and reference). -/
import Derived.Test.YtgcloaimolajjaaDoorPlace
namespace Go.Proofs.YtgcloaimolajjaaDoor
open Go.RowKit
set_option linter.all false
/-- Only the result's block gr has turned, and it still holds three cells. -/
def ResW (gr : Nat) (W w' : World) : Prop := Only gr W w' ∧ ∃ y0 y1 y2, Has w' gr #[y0, y1, y2] 53
theorem ResW.start {gr : Nat} {W : World} {y0 y1 y2 : Value} (h : Has W gr #[y0, y1, y2] 53) : ResW gr W W := ⟨Only.refl _ _, _, _, _, h⟩
theorem ResW.drew {gr : Nat} {W w' : World} (h : ResW gr W w') : ResW gr W w'.drew := ⟨h.1.drew, h.2⟩
theorem ResW.tail {gr : Nat} {W x w' : World} (hn : New x w') (h : ResW gr W x) : ResW gr W w' := ⟨h.1.trans (Only.of_new hn), by
  obtain ⟨y0, y1, y2, h2⟩ := h.2
  exact ⟨y0, y1, y2, h2.keep hn⟩⟩
theorem ResW.set0 {gr : Nat} {W w' : World} (h : ResW gr W w') (v : Value) : ResW gr W (w'.setCell ⟨gr, 0, none⟩ v) := ⟨h.1.setCell rfl _, by
  obtain ⟨y0, y1, y2, h2⟩ := h.2
  exact ⟨v, y1, y2, h2.set 0 v⟩⟩
theorem ResW.set1 {gr : Nat} {W w' : World} (h : ResW gr W w') (v : Value) : ResW gr W (w'.setCell ⟨gr, 1, none⟩ v) := ⟨h.1.setCell rfl _, by
  obtain ⟨y0, y1, y2, h2⟩ := h.2
  exact ⟨y0, v, y2, h2.set 1 v⟩⟩
theorem ResW.set2 {gr : Nat} {W w' : World} (h : ResW gr W w') (v : Value) : ResW gr W (w'.setCell ⟨gr, 2, none⟩ v) := ⟨h.1.setCell rfl _, by
  obtain ⟨y0, y1, y2, h2⟩ := h.2
  exact ⟨y0, y1, v, h2.set 2 v⟩⟩
/-- What a cell of the result holds. -/
def resC (gr i : Nat) (w : World) : Value := (w.cell? ⟨gr, i, none⟩).getD (.bool false)
theorem ResW.cells {gr : Nat} {W : World} : ∀ w', ResW gr W w' → w'.cell? ⟨gr, 0, none⟩ = some (resC gr 0 w') ∧ w'.cell? ⟨gr, 1, none⟩ = some (resC gr 1 w') ∧ w'.cell? ⟨gr, 2, none⟩ = some (resC gr 2 w') := fun w' h => by
  obtain ⟨y0, y1, y2, h2⟩ := h.2
  obtain ⟨a, b, c, _⟩ := h2.at3
  unfold resC
  rw [a, b, c]
  exact ⟨rfl, rfl, rfl⟩
theorem ResW.frees {gr : Nat} {W : World} : ∀ (i : Nat) w', ResW gr W w' → w'.frozen? ⟨gr, i, none⟩ = false := fun i w' h => by
  obtain ⟨y0, y1, y2, h2⟩ := h.2
  exact h2.free i
theorem Has.resCells3 {W : World} {b gr : Nat} {v0 v1 v2 : Value} {T : TypeId} (h : Has W b #[v0, v1, v2] T) (hne : b ≠ gr) : ∀ w', ResW gr W w' → w'.cell? ⟨b, 0, none⟩ = some v0 ∧ w'.cell? ⟨b, 1, none⟩ = some v1 ∧ w'.cell? ⟨b, 2, none⟩ = some v2 := fun w' hr => (h.only hr.1 hne).cells3 w' (New.refl _)
theorem Has.resCells5 {W : World} {b gr : Nat} {v0 v1 v2 v3 v4 : Value} {T : TypeId} (h : Has W b #[v0, v1, v2, v3, v4] T) (hne : b ≠ gr) : ∀ w', ResW gr W w' → w'.cell? ⟨b, 0, none⟩ = some v0 ∧ w'.cell? ⟨b, 1, none⟩ = some v1 ∧ w'.cell? ⟨b, 2, none⟩ = some v2 ∧ w'.cell? ⟨b, 3, none⟩ = some v3 ∧ w'.cell? ⟨b, 4, none⟩ = some v4 := fun w' hr => (h.only hr.1 hne).cells5 w' (New.refl _)
/-- By how much a leg misses, in one direction. -/
noncomputable def miG (st : Int) (L : List Lg) (i : Int) (F : St → Int) (G : Lg → Int) : Int := ad (ad (tpF st L (legAt L i).f F) (G (legAt L i))) (mu (tpF st L (legAt L i).t F) (-1))
def miOk (st : Int) (L : List Lg) (i : Int) : Bool := svB st L && ixB i L.length
noncomputable def miF (st : Int) (L : List Lg) (i : Int) (F : St → Int) (G : Lg → Int) : Int := if miOk st L i then miG st L i F G else 0
theorem miOk_no1 {st : Int} {L : List Lg} {v : Int} (h : svB st L = false) : miOk st L v = false := by simp [miOk, h]
theorem miOk_no2 {st : Int} {L : List Lg} {v : Int} (h : ixB v L.length = false) : miOk st L v = false := by simp [miOk, h]
theorem miOk_yes {st : Int} {L : List Lg} {v : Int} (h1 : svB st L = true) (h : ixB v L.length = true) : miOk st L v = true := by simp [miOk, h1, h]
theorem miF_no {st : Int} {L : List Lg} {v : Int} (F : St → Int) (G : Lg → Int) (h : miOk st L v = false) : miF st L v F G = 0 := by simp [miF, h]
theorem miF_yes {st : Int} {L : List Lg} {v : Int} (F : St → Int) (G : Lg → Int) (h : miOk st L v = true) : miF st L v F G = miG st L v F G := by simp [miF, h]
set_option maxHeartbeats 4000000 in
theorem implMisclosure_ok (n j : Nat) (A : Option Addr) (cap : Nat) (L : List Lg) (w : World) (hL : LegsAt w A L) (hv : svB n L = true) (hj : j < L.length) :
    Calls Tryd.prog 46 #[.agg #[.int .i64 n, .slice A L.length cap], .int .i64 j] w fun r w' => r = .returned (.tuple #[.agg #[.int .i64 (miG n L j (stE L) Lg.e), .int .i64 (miG n L j (stN L) Lg.n), .int .i64 (miG n L j (stU L) Lg.u)], .bool true]) ∧ New w w' := by
  obtain ⟨b1, b2, b3, b4⟩ := svB_true hv
  have HV := Lib.hid hv
  have HI : Hid (ixB (j : Int) L.length = true) := ixB_t.2 (by omega)
  have h1 : New w ((w.alloc (Obj.cells #[.int .i64 n, .slice A L.length cap] 25)).alloc (Obj.cells #[.int .i64 0, .int .i64 0, .int .i64 0] 53)) := (by repeat (first | with_reducible exact New.refl _ | with_reducible assumption | with_reducible refine New.alloc ?_ _ | with_reducible refine New.drewN ?_ _ | with_reducible refine New.drew ?_ | with_reducible refine New.setCell ?_ (by first | omega | (simp; done) | (simp; omega)) _ | with_reducible refine New.tail (by assumption) ?_))
  have h2 := (Has.new w #[.int .i64 n, .slice A L.length cap] 25).alloc (Obj.cells #[.int .i64 0, .int .i64 0, .int .i64 0] 53)
  have h3 := Has.new (w.alloc (Obj.cells #[.int .i64 n, .slice A L.length cap] 25)) #[.int .i64 0, .int .i64 0, .int .i64 0] 53
  simp only [World.size_alloc] at h3
  have hL' := hL.keep h1
  have hj0 : (0 : Int) ≤ (j : Int) := by omega
  have hj1 : (j : Int) < (L.length : Int) := by omega
  have hla := legAt_get hj
  obtain ⟨b, off, f, t, e, nn, u, hA, hg, hc⟩ := hL'.at_ hj
  rw [hg] at hla
  obtain ⟨E1, hE1⟩ : ∃ x, tpF n L f (stE L) = x := ⟨_, rfl⟩
  obtain ⟨N1, hN1⟩ : ∃ x, tpF n L f (stN L) = x := ⟨_, rfl⟩
  obtain ⟨U1, hU1⟩ : ∃ x, tpF n L f (stU L) = x := ⟨_, rfl⟩
  obtain ⟨E2, hE2⟩ : ∃ x, tpF n L t (stE L) = x := ⟨_, rfl⟩
  obtain ⟨N2, hN2⟩ : ∃ x, tpF n L t (stN L) = x := ⟨_, rfl⟩
  obtain ⟨U2, hU2⟩ : ∃ x, tpF n L t (stU L) = x := ⟨_, rfl⟩
  have m1 : miG n L j (stE L) Lg.e = ad (ad E1 e) (mu E2 (-1)) := by unfold miG; rw [hla, hE1, hE2]
  have m2 : miG n L j (stN L) Lg.n = ad (ad N1 nn) (mu N2 (-1)) := by unfold miG; rw [hla, hN1, hN2]
  have m3 : miG n L j (stU L) Lg.u = ad (ad U1 u) (mu U2 (-1)) := by unfold miG; rw [hla, hU1, hU2]
  rw [m1, m2, m3]
  have HP1 := Lib.hid (And.intro hE1 (And.intro hN1 hU1))
  have HP2 := Lib.hid (And.intro hE2 (And.intro hN2 hU2))
  subst hA
  clear b4 hv hla hg hE1 hN1 hU1 hE2 hN2 hU2 m1 m2 m3
  go_enter Tryd.func46, Tryd.ntmps46
  go_upto_region 1 with fail
  generalize ((w.alloc (Obj.cells #[.int .i64 n, .slice (some ⟨b, off, none⟩) L.length cap] 25)).alloc (Obj.cells #[.int .i64 0, .int .i64 0, .int .i64 0] 53)) = W0 at *
  have c2 := h2.cells2
  clear h2
  go_wp2_with fail
  refine (implSurveyValid_any _ _ _ _ _ hL' (by omega)).mono ?_
  rw [HV.out]
  rintro e9 w1 ⟨rfl, hn1⟩
  go_upto_region 3 with (go_at_call 71; refine (isIndex_any _ _ _).mono ?_; rw [HI.out]; rintro e9 w2 ⟨rfl, rfl⟩)
  have c3 := fun w' (hn : New w1 w') => c2 w' (hn1.trans hn)
  have hc3 := fun w' (hn : New w1 w') => hc w' (hn1.trans hn)
  clear c2 hc
  go_upto_region 4 with fail
  have hk2 : New w1 (w1.alloc (Obj.cells #[.int .i64 f, .int .i64 t, .int .i64 e, .int .i64 nn, .int .i64 u] 34)) := (by repeat (first | with_reducible exact New.refl _ | with_reducible assumption | with_reducible refine New.alloc ?_ _ | with_reducible refine New.drewN ?_ _ | with_reducible refine New.drew ?_ | with_reducible refine New.setCell ?_ (by first | omega | (simp; done) | (simp; omega)) _ | with_reducible refine New.tail (by assumption) ?_))
  have h8 := Has.new w1 #[.int .i64 f, .int .i64 t, .int .i64 e, .int .i64 nn, .int .i64 u] 34
  have hz8 : w.heap.size + 1 < w1.heap.size := by have := h3.lt; have := hn1.size; omega
  obtain ⟨g8, hg8⟩ : ∃ g, w1.heap.size = g := ⟨_, rfl⟩
  rw [hg8] at h8 hz8 ⊢
  generalize (w1.alloc (Obj.cells #[.int .i64 f, .int .i64 t, .int .i64 e, .int .i64 nn, .int .i64 u] 34)) = W2 at *
  have c8 := h8.cells5
  have c4 := fun w' (hn : New W2 w') => c3 w' (hk2.trans hn)
  have hL2 := hL'.keep (hn1.trans hk2)
  clear c3 hc3 hg8
  go_wp2_with fail
  refine (implTreePlace_any _ _ _ _ _ _ hL2 (by omega)).mono ?_
  rw [HP1.out.1, HP1.out.2.1, HP1.out.2.2]
  rintro e9 w3 ⟨rfl, hn3⟩
  go_upto_region 5 with fail
  have hk3 : New W2 (w3.alloc (Obj.cells #[.int .i64 E1, .int .i64 N1, .int .i64 U1] 53)) := hn3.alloc _
  have h9 := Has.new w3 #[.int .i64 E1, .int .i64 N1, .int .i64 U1] 53
  have hz9a : W2.heap.size ≤ w3.heap.size := hn3.size
  obtain ⟨g9, hg9⟩ : ∃ g, w3.heap.size = g := ⟨_, rfl⟩
  rw [hg9] at h9 hz9a ⊢
  generalize (w3.alloc (Obj.cells #[.int .i64 E1, .int .i64 N1, .int .i64 U1] 53)) = W3 at *
  have c5 := fun w' (hn : New W3 w') => c4 w' (hk3.trans hn)
  have c8' := fun w' (hn : New W3 w') => c8 w' (hk3.trans hn)
  have hL3 := hL2.keep hk3
  clear c4 c8 hg9 hn3
  go_wp2_with fail
  refine (implTreePlace_any _ _ _ _ _ _ hL3 (by omega)).mono ?_
  rw [HP2.out.1, HP2.out.2.1, HP2.out.2.2]
  rintro e9 w4 ⟨rfl, hn4⟩
  go_upto_region 6 with fail
  have hk4 : New W3 (w4.alloc (Obj.cells #[.int .i64 E2, .int .i64 N2, .int .i64 U2] 53)) := hn4.alloc _
  have h10 := Has.new w4 #[.int .i64 E2, .int .i64 N2, .int .i64 U2] 53
  have hz10a : W3.heap.size ≤ w4.heap.size := hn4.size
  obtain ⟨g10, hg10⟩ : ∃ g, w4.heap.size = g := ⟨_, rfl⟩
  rw [hg10] at h10 hz10a ⊢
  generalize (w4.alloc (Obj.cells #[.int .i64 E2, .int .i64 N2, .int .i64 U2] 53)) = W4 at *
  have hkW : New w W4 := h1.trans (hn1.trans (hk2.trans (hk3.trans hk4)))
  have hr := h3.keep (hn1.trans (hk2.trans (hk3.trans hk4)))
  have hz0 := h3.lt
  have hz1 := hn1.size
  have hz2 := hk2.size
  have hz3 := hk3.size
  have hz9 : w.heap.size + 1 < g9 := by have := hz9a; omega
  have hz10 : w.heap.size + 1 < g10 := by have := hz10a; omega
  obtain ⟨gr, hgr⟩ : ∃ g, w.heap.size + 1 = g := ⟨_, rfl⟩
  have hgw : w.heap.size ≤ gr := by omega
  rw [hgr] at hr hz8 hz9 hz10 ⊢
  have cA := (h8.keep (hk3.trans hk4)).resCells5 (gr := gr) (by omega)
  have cB := (h9.keep hk4).resCells3 (gr := gr) (by omega)
  have cC := h10.resCells3 (gr := gr) (by omega)
  have cr := ResW.cells (gr := gr) (W := W4)
  have fr := ResW.frees (gr := gr) (W := W4)
  clear c5 c8' hg10 hn4 h9 h10 hL2 hL3 hL' h1 hn1 hk2 hk3 hk4 h3 h8 hgr hz0 hz1 hz2 hz3 hz8 hz9 hz10 hz9a hz10a
  go_region_held3 (fun w' => ResW gr W4 w') ((repeat (first | with_reducible exact ResW.start (by assumption) | with_reducible assumption | with_reducible refine ResW.drew ?_ | with_reducible refine ResW.set0 ?_ _ | with_reducible refine ResW.set1 ?_ _ | with_reducible refine ResW.set2 ?_ _ | with_reducible refine ResW.tail (by assumption) ?_))) (first | (go_at_call 78; refine (legWay_any _ _ _ _ _ _).mono ?_; rintro e1 x1 ⟨rfl, hx1⟩) | (go_at_call 49; refine (implWayAdd_any _ _ _ _ _ _ _).mono ?_; rintro e2 x2 ⟨rfl, hx2⟩) | (go_at_call 56; refine (implWayTimes_any _ _ _ _ _).mono ?_; rintro e3 x3 ⟨rfl, hx3⟩))
  go_wp2_with fail
  have hxx : ResW gr W4 x2 := by repeat (first | with_reducible exact ResW.start (by assumption) | with_reducible assumption | with_reducible refine ResW.drew ?_ | with_reducible refine ResW.set0 ?_ _ | with_reducible refine ResW.set1 ?_ _ | with_reducible refine ResW.set2 ?_ _ | with_reducible refine ResW.tail (by assumption) ?_)
  have c0 := cr x2 hxx
  have hfin := ResW.set2 (ResW.set1 (ResW.set0 hxx (.int .i64 (ad (ad E1 e) (mu E2 (-1))))) (.int .i64 (ad (ad N1 nn) (mu N2 (-1))))) (.int .i64 (ad (ad U1 u) (mu U2 (-1))))
  clear cr cA cB cC fr
  exact bodyPost_ret (v := .tuple #[.agg #[.int .i64 (ad (ad E1 e) (mu E2 (-1))), .int .i64 (ad (ad N1 nn) (mu N2 (-1))), .int .i64 (ad (ad U1 u) (mu U2 (-1)))], .bool true]) (by simp [results, Tryd.results46, go_sem, c0]) rfl ⟨rfl, New.only hkW hfin.1 hgw⟩
set_option maxHeartbeats 1000000 in
theorem implMisclosure_bad (st v : Int) (A : Option Addr) (cap : Nat) (L : List Lg) (w : World) (hL : LegsAt w A L) (hm : L.length ≤ 1099511627776) (h : svB st L = false ∨ (svB st L = true ∧ ixB v L.length = false)) :
    Calls Tryd.prog 46 #[.agg #[.int .i64 st, .slice A L.length cap], .int .i64 v] w fun r w' => r = .returned (.tuple #[.agg #[.int .i64 0, .int .i64 0, .int .i64 0], .bool false]) ∧ New w w' := by
  have h1 : New w ((w.alloc (Obj.cells #[.int .i64 st, .slice A L.length cap] 25)).alloc (Obj.cells #[.int .i64 0, .int .i64 0, .int .i64 0] 53)) := (by repeat (first | with_reducible exact New.refl _ | with_reducible assumption | with_reducible refine New.alloc ?_ _ | with_reducible refine New.drewN ?_ _ | with_reducible refine New.drew ?_ | with_reducible refine New.setCell ?_ (by first | omega | (simp; done) | (simp; omega)) _ | with_reducible refine New.tail (by assumption) ?_))
  have h2 := (Has.new w #[.int .i64 st, .slice A L.length cap] 25).alloc (Obj.cells #[.int .i64 0, .int .i64 0, .int .i64 0] 53)
  have h3 := Has.new (w.alloc (Obj.cells #[.int .i64 st, .slice A L.length cap] 25)) #[.int .i64 0, .int .i64 0, .int .i64 0] 53
  simp only [World.size_alloc] at h3
  have hL' := hL.keep h1
  rcases h with h | ⟨hv, h⟩
  · have H := Lib.hid h
    clear h
    go_enter Tryd.func46, Tryd.ntmps46
    go_upto_region 1 with fail
    generalize ((w.alloc (Obj.cells #[.int .i64 st, .slice A L.length cap] 25)).alloc (Obj.cells #[.int .i64 0, .int .i64 0, .int .i64 0] 53)) = W0 at *
    have c2 := h2.cells2
    clear h2
    go_wp2_with fail
    refine (implSurveyValid_any _ _ _ _ _ hL' hm).mono ?_
    rw [H.out]
    rintro e w1 ⟨rfl, hn1⟩
    have c5 := h3.keep hn1 |>.cells3
    have f5 := h3.keep hn1 |>.frees
    go_wp2_with fail
    exact bodyPost_ret (v := .tuple #[.agg #[.int .i64 0, .int .i64 0, .int .i64 0], .bool false]) (by simp [results, Tryd.results46, go_sem, c5]) rfl ⟨rfl, New.setCell (New.setCell (New.setCell (h1.trans hn1) (p := ⟨w.heap.size + 1, 0, none⟩) (by simp) _) (p := ⟨w.heap.size + 1, 1, none⟩) (by simp) _) (p := ⟨w.heap.size + 1, 2, none⟩) (by simp) _⟩
  · obtain ⟨b1, b2, b3, b4⟩ := svB_true hv
    have H := Lib.hid h
    have HV := Lib.hid hv
    clear h hv b4
    go_enter Tryd.func46, Tryd.ntmps46
    go_upto_region 1 with fail
    generalize ((w.alloc (Obj.cells #[.int .i64 st, .slice A L.length cap] 25)).alloc (Obj.cells #[.int .i64 0, .int .i64 0, .int .i64 0] 53)) = W0 at *
    have c2 := h2.cells2
    clear h2
    go_wp2_with fail
    refine (implSurveyValid_any _ _ _ _ _ hL' hm).mono ?_
    rw [HV.out]
    rintro e w1 ⟨rfl, hn1⟩
    have c5 := h3.keep hn1 |>.cells3
    have f5 := h3.keep hn1 |>.frees
    go_wp2_with (go_at_call 71; refine (isIndex_any _ _ _).mono ?_; rw [H.out]; rintro e w2 ⟨rfl, rfl⟩)
    exact bodyPost_ret (v := .tuple #[.agg #[.int .i64 0, .int .i64 0, .int .i64 0], .bool false]) (by simp [results, Tryd.results46, go_sem, c5]) rfl ⟨rfl, New.setCell (New.setCell (New.setCell (h1.trans hn1) (p := ⟨w.heap.size + 1, 0, none⟩) (by simp) _) (p := ⟨w.heap.size + 1, 1, none⟩) (by simp) _) (p := ⟨w.heap.size + 1, 2, none⟩) (by simp) _⟩


theorem implMisclosure_any (st v : Int) (A : Option Addr) (cap : Nat) (L : List Lg) (w : World) (hL : LegsAt w A L) (hm : L.length ≤ 1099511627776) :
    Calls Tryd.prog 46 #[.agg #[.int .i64 st, .slice A L.length cap], .int .i64 v] w fun r w' => r = .returned (.tuple #[.agg #[.int .i64 (miF st L v (stE L) Lg.e), .int .i64 (miF st L v (stN L) Lg.n), .int .i64 (miF st L v (stU L) Lg.u)], .bool (miOk st L v)]) ∧ New w w' := by
  cases hv : svB st L
  · have h := miOk_no1 (v := v) hv
    rw [miF_no _ _ h, miF_no _ _ h, miF_no _ _ h, h]
    exact implMisclosure_bad st v A cap L w hL hm (.inl hv)
  · cases hi : ixB v L.length
    · have h := miOk_no2 (st := st) hi
      rw [miF_no _ _ h, miF_no _ _ h, miF_no _ _ h, h]
      exact implMisclosure_bad st v A cap L w hL hm (.inr ⟨hv, hi⟩)
    · have h := miOk_yes hv hi
      rw [miF_yes _ _ h, miF_yes _ _ h, miF_yes _ _ h, h]
      obtain ⟨n, rfl⟩ := svB_nat hv
      have hi2 := ixB_t.1 hi
      obtain ⟨v, rfl⟩ := Int.eq_ofNat_of_zero_le hi2.1
      exact implMisclosure_ok n v A cap L w hL hv (by omega)
set_option maxHeartbeats 4000000 in
theorem specMisclosure_ok (n j : Nat) (A : Option Addr) (cap : Nat) (L : List Lg) (w : World) (hL : LegsAt w A L) (hv : svB n L = true) (hj : j < L.length) :
    Calls Tryd.prog 48 #[.agg #[.int .i64 n, .slice A L.length cap], .int .i64 j] w fun r w' => r = .returned (.tuple #[.agg #[.int .i64 (miG n L j (stE L) Lg.e), .int .i64 (miG n L j (stN L) Lg.n), .int .i64 (miG n L j (stU L) Lg.u)], .bool true]) ∧ New w w' := by
  obtain ⟨b1, b2, b3, b4⟩ := svB_true hv
  have HV := Lib.hid hv
  have HI : Hid (inB (j : Int) 0 ((L.length : Int) - 1) = true) := inB_t.2 (by omega)
  have h1 : New w ((w.alloc (Obj.cells #[.int .i64 n, .slice A L.length cap] 25)).alloc (Obj.cells #[.int .i64 0, .int .i64 0, .int .i64 0] 53)) := (by repeat (first | with_reducible exact New.refl _ | with_reducible assumption | with_reducible refine New.alloc ?_ _ | with_reducible refine New.drewN ?_ _ | with_reducible refine New.drew ?_ | with_reducible refine New.setCell ?_ (by first | omega | (simp; done) | (simp; omega)) _ | with_reducible refine New.tail (by assumption) ?_))
  have h2 := (Has.new w #[.int .i64 n, .slice A L.length cap] 25).alloc (Obj.cells #[.int .i64 0, .int .i64 0, .int .i64 0] 53)
  have h3 := Has.new (w.alloc (Obj.cells #[.int .i64 n, .slice A L.length cap] 25)) #[.int .i64 0, .int .i64 0, .int .i64 0] 53
  simp only [World.size_alloc] at h3
  have hL' := hL.keep h1
  have hj0 : (0 : Int) ≤ (j : Int) := by omega
  have hj1 : (j : Int) < (L.length : Int) := by omega
  have hla := legAt_get hj
  obtain ⟨b, off, f, t, e, nn, u, hA, hg, hc⟩ := hL'.at_ hj
  rw [hg] at hla
  obtain ⟨E1, hE1⟩ : ∃ x, tpF n L f (stE L) = x := ⟨_, rfl⟩
  obtain ⟨N1, hN1⟩ : ∃ x, tpF n L f (stN L) = x := ⟨_, rfl⟩
  obtain ⟨U1, hU1⟩ : ∃ x, tpF n L f (stU L) = x := ⟨_, rfl⟩
  obtain ⟨E2, hE2⟩ : ∃ x, tpF n L t (stE L) = x := ⟨_, rfl⟩
  obtain ⟨N2, hN2⟩ : ∃ x, tpF n L t (stN L) = x := ⟨_, rfl⟩
  obtain ⟨U2, hU2⟩ : ∃ x, tpF n L t (stU L) = x := ⟨_, rfl⟩
  have m1 : miG n L j (stE L) Lg.e = ad (ad E1 e) (mu E2 (-1)) := by unfold miG; rw [hla, hE1, hE2]
  have m2 : miG n L j (stN L) Lg.n = ad (ad N1 nn) (mu N2 (-1)) := by unfold miG; rw [hla, hN1, hN2]
  have m3 : miG n L j (stU L) Lg.u = ad (ad U1 u) (mu U2 (-1)) := by unfold miG; rw [hla, hU1, hU2]
  rw [m1, m2, m3]
  have HP1 := Lib.hid (And.intro hE1 (And.intro hN1 hU1))
  have HP2 := Lib.hid (And.intro hE2 (And.intro hN2 hU2))
  subst hA
  clear b4 hv hla hg hE1 hN1 hU1 hE2 hN2 hU2 m1 m2 m3
  go_enter Tryd.func48, Tryd.ntmps48
  go_upto_region 1 with fail
  generalize ((w.alloc (Obj.cells #[.int .i64 n, .slice (some ⟨b, off, none⟩) L.length cap] 25)).alloc (Obj.cells #[.int .i64 0, .int .i64 0, .int .i64 0] 53)) = W0 at *
  have c2 := h2.cells2
  clear h2
  go_wp2_with fail
  refine (specSurveyValid_any _ _ _ _ _ hL' (by omega)).mono ?_
  rw [HV.out]
  rintro e9 w1 ⟨rfl, hn1⟩
  go_upto_region 3 with (go_at_call 64; refine (l1In_any _ _ _ _).mono ?_; rw [HI.out]; rintro e9 w2 ⟨rfl, rfl⟩)
  have c3 := fun w' (hn : New w1 w') => c2 w' (hn1.trans hn)
  have hc3 := fun w' (hn : New w1 w') => hc w' (hn1.trans hn)
  clear c2 hc
  go_upto_region 4 with fail
  have hk2 : New w1 (w1.alloc (Obj.cells #[.int .i64 f, .int .i64 t, .int .i64 e, .int .i64 nn, .int .i64 u] 34)) := (by repeat (first | with_reducible exact New.refl _ | with_reducible assumption | with_reducible refine New.alloc ?_ _ | with_reducible refine New.drewN ?_ _ | with_reducible refine New.drew ?_ | with_reducible refine New.setCell ?_ (by first | omega | (simp; done) | (simp; omega)) _ | with_reducible refine New.tail (by assumption) ?_))
  have h8 := Has.new w1 #[.int .i64 f, .int .i64 t, .int .i64 e, .int .i64 nn, .int .i64 u] 34
  have hz8 : w.heap.size + 1 < w1.heap.size := by have := h3.lt; have := hn1.size; omega
  obtain ⟨g8, hg8⟩ : ∃ g, w1.heap.size = g := ⟨_, rfl⟩
  rw [hg8] at h8 hz8 ⊢
  generalize (w1.alloc (Obj.cells #[.int .i64 f, .int .i64 t, .int .i64 e, .int .i64 nn, .int .i64 u] 34)) = W2 at *
  have c8 := h8.cells5
  have c4 := fun w' (hn : New W2 w') => c3 w' (hk2.trans hn)
  have hL2 := hL'.keep (hn1.trans hk2)
  clear c3 hc3 hg8
  go_wp2_with fail
  refine (specTreePlace_any _ _ _ _ _ _ hL2 (by omega)).mono ?_
  rw [HP1.out.1, HP1.out.2.1, HP1.out.2.2]
  rintro e9 w3 ⟨rfl, hn3⟩
  go_upto_region 5 with fail
  have hk3 : New W2 (w3.alloc (Obj.cells #[.int .i64 E1, .int .i64 N1, .int .i64 U1] 53)) := hn3.alloc _
  have h9 := Has.new w3 #[.int .i64 E1, .int .i64 N1, .int .i64 U1] 53
  have hz9a : W2.heap.size ≤ w3.heap.size := hn3.size
  obtain ⟨g9, hg9⟩ : ∃ g, w3.heap.size = g := ⟨_, rfl⟩
  rw [hg9] at h9 hz9a ⊢
  generalize (w3.alloc (Obj.cells #[.int .i64 E1, .int .i64 N1, .int .i64 U1] 53)) = W3 at *
  have c5 := fun w' (hn : New W3 w') => c4 w' (hk3.trans hn)
  have c8' := fun w' (hn : New W3 w') => c8 w' (hk3.trans hn)
  have hL3 := hL2.keep hk3
  clear c4 c8 hg9 hn3
  go_wp2_with fail
  refine (specTreePlace_any _ _ _ _ _ _ hL3 (by omega)).mono ?_
  rw [HP2.out.1, HP2.out.2.1, HP2.out.2.2]
  rintro e9 w4 ⟨rfl, hn4⟩
  go_upto_region 6 with fail
  have hk4 : New W3 (w4.alloc (Obj.cells #[.int .i64 E2, .int .i64 N2, .int .i64 U2] 53)) := hn4.alloc _
  have h10 := Has.new w4 #[.int .i64 E2, .int .i64 N2, .int .i64 U2] 53
  have hz10a : W3.heap.size ≤ w4.heap.size := hn4.size
  obtain ⟨g10, hg10⟩ : ∃ g, w4.heap.size = g := ⟨_, rfl⟩
  rw [hg10] at h10 hz10a ⊢
  generalize (w4.alloc (Obj.cells #[.int .i64 E2, .int .i64 N2, .int .i64 U2] 53)) = W4 at *
  have hkW : New w W4 := h1.trans (hn1.trans (hk2.trans (hk3.trans hk4)))
  have hr := h3.keep (hn1.trans (hk2.trans (hk3.trans hk4)))
  have hz0 := h3.lt
  have hz1 := hn1.size
  have hz2 := hk2.size
  have hz3 := hk3.size
  have hz9 : w.heap.size + 1 < g9 := by have := hz9a; omega
  have hz10 : w.heap.size + 1 < g10 := by have := hz10a; omega
  obtain ⟨gr, hgr⟩ : ∃ g, w.heap.size + 1 = g := ⟨_, rfl⟩
  have hgw : w.heap.size ≤ gr := by omega
  rw [hgr] at hr hz8 hz9 hz10 ⊢
  have cA := (h8.keep (hk3.trans hk4)).resCells5 (gr := gr) (by omega)
  have cB := (h9.keep hk4).resCells3 (gr := gr) (by omega)
  have cC := h10.resCells3 (gr := gr) (by omega)
  have cr := ResW.cells (gr := gr) (W := W4)
  have fr := ResW.frees (gr := gr) (W := W4)
  clear c5 c8' hg10 hn4 h9 h10 hL2 hL3 hL' h1 hn1 hk2 hk3 hk4 h3 h8 hgr hz0 hz1 hz2 hz3 hz8 hz9 hz10 hz9a hz10a
  go_region_held3 (fun w' => ResW gr W4 w') ((repeat (first | with_reducible exact ResW.start (by assumption) | with_reducible assumption | with_reducible refine ResW.drew ?_ | with_reducible refine ResW.set0 ?_ _ | with_reducible refine ResW.set1 ?_ _ | with_reducible refine ResW.set2 ?_ _ | with_reducible refine ResW.tail (by assumption) ?_))) (first | (go_at_call 80; refine (l1Way_any _ _ _ _ _ _).mono ?_; rintro e1 x1 ⟨rfl, hx1⟩) | (go_at_call 79; refine (specWayAdd_any _ _ _ _ _ _ _).mono ?_; rintro e2 x2 ⟨rfl, hx2⟩) | (go_at_call 81; refine (specWayTimes_any _ _ _ _ _).mono ?_; rintro e3 x3 ⟨rfl, hx3⟩))
  go_wp2_with fail
  have hxx : ResW gr W4 x2 := by repeat (first | with_reducible exact ResW.start (by assumption) | with_reducible assumption | with_reducible refine ResW.drew ?_ | with_reducible refine ResW.set0 ?_ _ | with_reducible refine ResW.set1 ?_ _ | with_reducible refine ResW.set2 ?_ _ | with_reducible refine ResW.tail (by assumption) ?_)
  have c0 := cr x2 hxx
  have hfin := ResW.set2 (ResW.set1 (ResW.set0 hxx (.int .i64 (ad (ad E1 e) (mu E2 (-1))))) (.int .i64 (ad (ad N1 nn) (mu N2 (-1))))) (.int .i64 (ad (ad U1 u) (mu U2 (-1))))
  clear cr cA cB cC fr
  exact bodyPost_ret (v := .tuple #[.agg #[.int .i64 (ad (ad E1 e) (mu E2 (-1))), .int .i64 (ad (ad N1 nn) (mu N2 (-1))), .int .i64 (ad (ad U1 u) (mu U2 (-1)))], .bool true]) (by simp [results, Tryd.results48, go_sem, c0]) rfl ⟨rfl, New.only hkW hfin.1 hgw⟩
set_option maxHeartbeats 1000000 in
theorem specMisclosure_bad (st v : Int) (A : Option Addr) (cap : Nat) (L : List Lg) (w : World) (hL : LegsAt w A L) (hm : L.length ≤ 1099511627776) (h : svB st L = false ∨ (svB st L = true ∧ inB v 0 ((L.length : Int) - 1) = false)) :
    Calls Tryd.prog 48 #[.agg #[.int .i64 st, .slice A L.length cap], .int .i64 v] w fun r w' => r = .returned (.tuple #[.agg #[.int .i64 0, .int .i64 0, .int .i64 0], .bool false]) ∧ New w w' := by
  have h1 : New w ((w.alloc (Obj.cells #[.int .i64 st, .slice A L.length cap] 25)).alloc (Obj.cells #[.int .i64 0, .int .i64 0, .int .i64 0] 53)) := (by repeat (first | with_reducible exact New.refl _ | with_reducible assumption | with_reducible refine New.alloc ?_ _ | with_reducible refine New.drewN ?_ _ | with_reducible refine New.drew ?_ | with_reducible refine New.setCell ?_ (by first | omega | (simp; done) | (simp; omega)) _ | with_reducible refine New.tail (by assumption) ?_))
  have h2 := (Has.new w #[.int .i64 st, .slice A L.length cap] 25).alloc (Obj.cells #[.int .i64 0, .int .i64 0, .int .i64 0] 53)
  have h3 := Has.new (w.alloc (Obj.cells #[.int .i64 st, .slice A L.length cap] 25)) #[.int .i64 0, .int .i64 0, .int .i64 0] 53
  simp only [World.size_alloc] at h3
  have hL' := hL.keep h1
  rcases h with h | ⟨hv, h⟩
  · have H := Lib.hid h
    clear h
    go_enter Tryd.func48, Tryd.ntmps48
    go_upto_region 1 with fail
    generalize ((w.alloc (Obj.cells #[.int .i64 st, .slice A L.length cap] 25)).alloc (Obj.cells #[.int .i64 0, .int .i64 0, .int .i64 0] 53)) = W0 at *
    have c2 := h2.cells2
    clear h2
    go_wp2_with fail
    refine (specSurveyValid_any _ _ _ _ _ hL' hm).mono ?_
    rw [H.out]
    rintro e w1 ⟨rfl, hn1⟩
    have c5 := h3.keep hn1 |>.cells3
    have f5 := h3.keep hn1 |>.frees
    go_wp2_with fail
    exact bodyPost_ret (v := .tuple #[.agg #[.int .i64 0, .int .i64 0, .int .i64 0], .bool false]) (by simp [results, Tryd.results48, go_sem, c5]) rfl ⟨rfl, New.setCell (New.setCell (New.setCell (h1.trans hn1) (p := ⟨w.heap.size + 1, 0, none⟩) (by simp) _) (p := ⟨w.heap.size + 1, 1, none⟩) (by simp) _) (p := ⟨w.heap.size + 1, 2, none⟩) (by simp) _⟩
  · obtain ⟨b1, b2, b3, b4⟩ := svB_true hv
    have H := Lib.hid h
    have HV := Lib.hid hv
    clear h hv b4
    go_enter Tryd.func48, Tryd.ntmps48
    go_upto_region 1 with fail
    generalize ((w.alloc (Obj.cells #[.int .i64 st, .slice A L.length cap] 25)).alloc (Obj.cells #[.int .i64 0, .int .i64 0, .int .i64 0] 53)) = W0 at *
    have c2 := h2.cells2
    clear h2
    go_wp2_with fail
    refine (specSurveyValid_any _ _ _ _ _ hL' hm).mono ?_
    rw [HV.out]
    rintro e w1 ⟨rfl, hn1⟩
    have c5 := h3.keep hn1 |>.cells3
    have f5 := h3.keep hn1 |>.frees
    go_wp2_with (go_at_call 64; refine (l1In_any _ _ _ _).mono ?_; rw [H.out]; rintro e w2 ⟨rfl, rfl⟩)
    exact bodyPost_ret (v := .tuple #[.agg #[.int .i64 0, .int .i64 0, .int .i64 0], .bool false]) (by simp [results, Tryd.results48, go_sem, c5]) rfl ⟨rfl, New.setCell (New.setCell (New.setCell (h1.trans hn1) (p := ⟨w.heap.size + 1, 0, none⟩) (by simp) _) (p := ⟨w.heap.size + 1, 1, none⟩) (by simp) _) (p := ⟨w.heap.size + 1, 2, none⟩) (by simp) _⟩


theorem specMisclosure_any (st v : Int) (A : Option Addr) (cap : Nat) (L : List Lg) (w : World) (hL : LegsAt w A L) (hm : L.length ≤ 1099511627776) :
    Calls Tryd.prog 48 #[.agg #[.int .i64 st, .slice A L.length cap], .int .i64 v] w fun r w' => r = .returned (.tuple #[.agg #[.int .i64 (miF st L v (stE L) Lg.e), .int .i64 (miF st L v (stN L) Lg.n), .int .i64 (miF st L v (stU L) Lg.u)], .bool (miOk st L v)]) ∧ New w w' := by
  cases hv : svB st L
  · have h := miOk_no1 (v := v) hv
    rw [miF_no _ _ h, miF_no _ _ h, miF_no _ _ h, h]
    exact specMisclosure_bad st v A cap L w hL hm (.inl hv)
  · cases hi : ixB v L.length
    · have h := miOk_no2 (st := st) hi
      rw [miF_no _ _ h, miF_no _ _ h, miF_no _ _ h, h]
      exact specMisclosure_bad st v A cap L w hL hm (.inr ⟨hv, by rw [← ix_in]; exact hi⟩)
    · have h := miOk_yes hv hi
      rw [miF_yes _ _ h, miF_yes _ _ h, miF_yes _ _ h, h]
      obtain ⟨n, rfl⟩ := svB_nat hv
      have hi2 := ixB_t.1 hi
      obtain ⟨v, rfl⟩ := Int.eq_ofNat_of_zero_le hi2.1
      exact specMisclosure_ok n v A cap L w hL hv (by omega)
end Go.Proofs.YtgcloaimolajjaaDoor
