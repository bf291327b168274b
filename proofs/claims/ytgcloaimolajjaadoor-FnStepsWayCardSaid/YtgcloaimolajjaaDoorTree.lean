/- Contracts of TreeLegs (program and reference). -/
import Derived.Test.YtgcloaimolajjaaDoorSParts
namespace Go.Proofs.YtgcloaimolajjaaDoor
open Go.RowKit
set_option linter.all false
/-- What TreeLegs returns. -/
def tlL (st : Int) (L : List Lg) : List Int := if svB st L then treeL st.toNat L L.length else []
theorem tlL_no {st : Int} {L : List Lg} (h : svB st L = false) : tlL st L = [] := by simp [tlL, h]
theorem tlL_ok {n : Nat} {L : List Lg} (h : svB n L = true) : tlL n L = treeL n L L.length := by simp [tlL, h]
theorem tlL_le (st : Int) (L : List Lg) : (tlL st L).length ≤ 9 := by
  unfold tlL
  split
  · rename_i h; have := svB_true h; have := treeL_len st.toNat L L.length; omega
  · simp
set_option maxHeartbeats 1000000 in
theorem implTreeLegs_ok (n : Nat) (A : Option Addr) (cap : Nat) (L : List Lg) (w : World) (hL : LegsAt w A L) (hv : svB n L = true) :
    Calls Tryd.prog 32 #[.agg #[.int .i64 n, .slice A L.length cap]] w fun r w' => ∃ B cp, r = .returned (.slice B (treeL n L L.length).length cp) ∧ FInts w w' B (treeL n L L.length) ∧ New w w' := by
  obtain ⟨i0, hi, hz, hs, hb⟩ := info_parts infoInt
  obtain ⟨b1, b2, b3, b4⟩ := svB_true hv
  have h1 : New w (w.alloc (Obj.cells #[.int .i64 n, .slice A L.length cap] 25)) := (by repeat (first | with_reducible exact New.refl _ | with_reducible assumption | with_reducible refine New.alloc ?_ _ | with_reducible refine New.drewN ?_ _ | with_reducible refine New.drew ?_ | with_reducible refine New.setCell ?_ (by first | omega | (simp; done) | (simp; omega)) _ | with_reducible refine New.tail (by assumption) ?_))
  have h2 := Has.new w #[.int .i64 n, .slice A L.length cap] 25
  have hL' := hL.keep h1
  have B4 := Lib.hid b4
  clear b4
  go_enter Tryd.func32, Tryd.ntmps32
  go_upto_region 1 with fail
  generalize (w.alloc (Obj.cells #[.int .i64 n, .slice A L.length cap] 25)) = W0 at *
  have c2 := h2.cells2
  clear h2
  go_wp2_with (first | (go_at_call 16; refine (implSurveyValid_any _ _ _ _ _ hL' (by omega)).mono ?_; rintro e w1 ⟨rfl, hn⟩; have hk : New W0 w1 := New.tail hn (by repeat (first | with_reducible exact New.refl _ | with_reducible assumption | with_reducible refine New.alloc ?_ _ | with_reducible refine New.drewN ?_ _ | with_reducible refine New.drew ?_ | with_reducible refine New.setCell ?_ (by first | omega | (simp; done) | (simp; omega)) _ | with_reducible refine New.tail (by assumption) ?_))) | (go_at_call 66; refine (ownParts_any _ _ (by omega)).mono ?_; rintro e w2 ⟨g, rfl, hg, hI, hn2⟩; have hk2 : New W0 w2 := New.tail hn2 (by assumption)))
  have hgl := hI.lt
  go_loopw [16, 4, 5] (fun i v _ wr => ∃ k : Nat, k ≤ L.length ∧ i = .int .i64 k ∧ New W0 wr ∧ Ints wr g (partsL n (L.take k)) ∧ wr.ownsRow w2.heap.size 3 1 v (treeL n L k).length ((treeL n L k).map (Value.int .i64)) ∧ w2.heap.size ≤ wr.heap.size) (fun i _ _ _ => L.length - (intOf i).toNat)
  case atStart => exact ⟨0, Nat.zero_le _, rfl, hk2, hI, World.ownsRow_nil _ _ _ _, Nat.le_refl _⟩
  case round =>
    obtain ⟨k, hk', rfl, hw, hp, hown, hsz⟩ := hrel
    by_cases hlt : k < L.length
    · have hLk : L[k]? = some L[k] := List.getElem?_eq_getElem hlt
      have Hs := Lib.hid (partsL_take n L k L[k] hLk)
      have hse := sepB_at (n := n) hLk
      have hf := ok_facts (B4.out L[k] (List.getElem_mem hlt))
      have htl := treeL_len n L k
      obtain ⟨b, off, f, t, e, nn, u, hA, hg', hc⟩ := (hL'.keep hw).at_ hlt
      rw [hg'] at hf Hs hse
      simp only at hf hse
      obtain ⟨hf1, hf2, hf3, hf4, -⟩ := hf
      obtain ⟨f, rfl⟩ := Int.eq_ofNat_of_zero_le hf1
      obtain ⟨t, rfl⟩ := Int.eq_ofNat_of_zero_le hf3
      subst hA
      cases hsep : (lab (partsL n (L.take k)) f != lab (partsL n (L.take k)) t)
      · have Ht := Lib.hid (treeL_no (hse.trans hsep))
        have HS := Lib.hid hsep
        clear hg' c2 hse hLk hsep
        go_wp2_with (go_at_call 67; refine (joinParts_m _ _ _ _ _ _ _ (partsL_length _ _) (hp.keep (by repeat (first | with_reducible exact New.refl _ | with_reducible assumption | with_reducible refine New.alloc ?_ _ | with_reducible refine New.drewN ?_ _ | with_reducible refine New.drew ?_ | with_reducible refine New.setCell ?_ (by first | omega | (simp; done) | (simp; omega)) _ | with_reducible refine New.tail (by assumption) ?_))) (by omega) (by omega) (by omega)).mono ?_; rw [HS.out]; rintro e w3 ⟨rfl, ho, hj⟩)
        go_roundw
        case rel => exact ⟨k + 1, by omega, by go_num, New.only (by repeat (first | with_reducible exact New.refl _ | with_reducible assumption | with_reducible refine New.alloc ?_ _ | with_reducible refine New.drewN ?_ _ | with_reducible refine New.drew ?_ | with_reducible refine New.setCell ?_ (by first | omega | (simp; done) | (simp; omega)) _ | with_reducible refine New.tail (by assumption) ?_)) ho (by have := hk.size; omega), by rw [Hs.out]; exact hj, by rw [Ht.out]; exact (hown.alloc _).kept ho (.inr (fun e => by have := (hown.lt g e).1; omega)), by have := ho.size; simp at this; omega⟩
        case measure => simp [intOf]; omega
      · have Ht := Lib.hid (treeL_yes (hse.trans hsep))
        have HS := Lib.hid hsep
        clear hg' c2 hse hLk hsep
        go_upto_region 9 with (go_at_call 67; refine (joinParts_m _ _ _ _ _ _ _ (partsL_length _ _) (hp.keep (by repeat (first | with_reducible exact New.refl _ | with_reducible assumption | with_reducible refine New.alloc ?_ _ | with_reducible refine New.drewN ?_ _ | with_reducible refine New.drew ?_ | with_reducible refine New.setCell ?_ (by first | omega | (simp; done) | (simp; omega)) _ | with_reducible refine New.tail (by assumption) ?_))) (by omega) (by omega) (by omega)).mono ?_; rw [HS.out]; rintro e w3 ⟨rfl, ho, hj⟩)
        have hown3 := (hown.alloc (Obj.cells #[.int .i64 f, .int .i64 t, .int .i64 e, .int .i64 nn, .int .i64 u] 34)).kept ho (.inr (fun e => by have := (hown.lt g e).1; omega))
        have hw3 : New W0 w3 := New.only (by repeat (first | with_reducible exact New.refl _ | with_reducible assumption | with_reducible refine New.alloc ?_ _ | with_reducible refine New.drewN ?_ _ | with_reducible refine New.drew ?_ | with_reducible refine New.setCell ?_ (by first | omega | (simp; done) | (simp; omega)) _ | with_reducible refine New.tail (by assumption) ?_)) ho (by have := hk.size; omega)
        have hsz3 : w2.heap.size ≤ w3.heap.size := by have := ho.size; simp at this; omega
        clear hown ho hp hw
        go_wp2_with (at_builtin; refine wpList_append_own _ rfl _ _ 30 rfl w2.heap.size 3 i0 (.int .i64 0) 1 8 Tryd.underlying30 hi hz hs hb rfl (by decide) _ _ _ rfl (hown3.alloc _) ⟨w3.heap.size, 0, none⟩ 1 1 [.int .i64 k] rfl rfl (one_new _ _ _) (one_oneCell _) (by unfold maxLen; omega) (by omega) (by simp; omega) ?_; intro v' w5 hown' hgrow _)
        have hg5 : ∀ j, Value.ownBlock _ = some j → w2.heap.size ≤ j := fun j hj => (hown3.lt j hj).1
        have hnew : New W0 w5 := (hw3.alloc _).grown hgrow (fun j hj => by have := hg5 j hj; have := hk2.size; omega)
        have hj5 := (hj.keep ((New.refl w3).alloc _)).grown hgrow (fun e => by have := hg5 g e; omega)
        have hsz5 : w2.heap.size ≤ w5.heap.size := by have := hgrow.size; simp at this; omega
        go_wp2_with fail
        go_roundw
        case rel => exact ⟨k + 1, by omega, by go_num, hnew, by rw [Hs.out]; exact hj5, by rw [Ht.out, List.map_append, List.length_append]; exact hown', hsz5⟩
        case measure => simp [intOf]; omega
    · obtain rfl : k = L.length := by omega
      go_wp2_with fail
      go_ret
      obtain ⟨B, cp, rfl, hf⟩ := FInts.of_own (w0 := w) hown (by have := h1.size; have := hk2.size; omega)
      exact ⟨B, cp, rfl, hf, h1.trans hw⟩
theorem implTreeLegs_no (st : Int) (A : Option Addr) (cap : Nat) (L : List Lg) (w : World) (hL : LegsAt w A L) (hm : L.length ≤ 1099511627776) (hv : svB st L = false) :
    Calls Tryd.prog 32 #[.agg #[.int .i64 st, .slice A L.length cap]] w fun r w' => r = .returned (.slice none 0 0) ∧ New w w' := by
  have h1 : New w (w.alloc (Obj.cells #[.int .i64 st, .slice A L.length cap] 25)) := (by repeat (first | with_reducible exact New.refl _ | with_reducible assumption | with_reducible refine New.alloc ?_ _ | with_reducible refine New.drewN ?_ _ | with_reducible refine New.drew ?_ | with_reducible refine New.setCell ?_ (by first | omega | (simp; done) | (simp; omega)) _ | with_reducible refine New.tail (by assumption) ?_))
  have hL' := hL.keep h1
  go_enter Tryd.func32, Tryd.ntmps32
  go_wp2_with (go_at_call 16; refine (implSurveyValid_any _ _ _ _ _ hL' hm).mono ?_; rintro e w1 ⟨rfl, hn⟩)
  go_ret
  exact ⟨rfl, h1.trans hn⟩
theorem implTreeLegs_any (st : Int) (A : Option Addr) (cap : Nat) (L : List Lg) (w : World) (hL : LegsAt w A L) (hm : L.length ≤ 1099511627776) :
    Calls Tryd.prog 32 #[.agg #[.int .i64 st, .slice A L.length cap]] w fun r w' => ∃ B cp, r = .returned (.slice B (tlL st L).length cp) ∧ FInts w w' B (tlL st L) ∧ New w w' := by
  cases hv : svB st L
  · rw [tlL_no hv]
    exact (implTreeLegs_no st A cap L w hL hm hv).mono fun e w' ⟨h1, h2⟩ => ⟨_, _, h1, FInts.nil, h2⟩
  · obtain ⟨n, rfl⟩ := svB_nat hv
    rw [tlL_ok hv]
    exact implTreeLegs_ok n A cap L w hL hv
theorem specTreeLegs_no (st : Int) (A : Option Addr) (cap : Nat) (L : List Lg) (w : World) (hL : LegsAt w A L) (hm : L.length ≤ 1099511627776) (hv : svB st L = false) :
    Calls Tryd.prog 34 #[.agg #[.int .i64 st, .slice A L.length cap]] w fun r w' => ∃ B cp, r = .returned (.slice B 0 cp) ∧ New w w' := by
  have h1 : New w (w.alloc (Obj.cells #[.int .i64 st, .slice A L.length cap] 25)) := (by repeat (first | with_reducible exact New.refl _ | with_reducible assumption | with_reducible refine New.alloc ?_ _ | with_reducible refine New.drewN ?_ _ | with_reducible refine New.drew ?_ | with_reducible refine New.setCell ?_ (by first | omega | (simp; done) | (simp; omega)) _ | with_reducible refine New.tail (by assumption) ?_))
  have h2 := Has.new w #[.int .i64 st, .slice A L.length cap] 25
  have hL' := hL.keep h1
  by_cases hlen : 0 < L.length
  · have hlen' : (0 : Int) < (L.length : Int) := by omega
    go_enter Tryd.func34, Tryd.ntmps34
    go_upto_region 1 with fail
    generalize (w.alloc (Obj.cells #[.int .i64 st, .slice A L.length cap] 25)) = W0 at *
    have c2 := h2.cells2
    clear h2
    go_wp2_with fail
    refine wp_loop_rounds 1 ?_
    rw [rounds_succ]
    go_wp2_with (go_at_call 17; refine (specSurveyValid_any _ _ _ _ _ (hL'.keep (by repeat (first | with_reducible exact New.refl _ | with_reducible assumption | with_reducible refine New.alloc ?_ _ | with_reducible refine New.drewN ?_ _ | with_reducible refine New.drew ?_ | with_reducible refine New.setCell ?_ (by first | omega | (simp; done) | (simp; omega)) _ | with_reducible refine New.tail (by assumption) ?_))) hm).mono ?_; rw [hv]; rintro e w1 ⟨rfl, hn⟩)
    go_ret
    exact ⟨_, _, rfl, h1.trans (by repeat (first | with_reducible exact New.refl _ | with_reducible assumption | with_reducible refine New.alloc ?_ _ | with_reducible refine New.drewN ?_ _ | with_reducible refine New.drew ?_ | with_reducible refine New.setCell ?_ (by first | omega | (simp; done) | (simp; omega)) _ | with_reducible refine New.tail (by assumption) ?_))⟩
  · have hlen' : ¬ (0 : Int) < (L.length : Int) := by omega
    go_enter Tryd.func34, Tryd.ntmps34
    go_upto_region 1 with fail
    generalize (w.alloc (Obj.cells #[.int .i64 st, .slice A L.length cap] 25)) = W0 at *
    have c2 := h2.cells2
    clear h2
    go_wp2_with fail
    refine wp_loop_rounds 1 ?_
    rw [rounds_succ]
    go_wp2_with fail
    go_ret
    exact ⟨_, _, rfl, h1.trans (by repeat (first | with_reducible exact New.refl _ | with_reducible assumption | with_reducible refine New.alloc ?_ _ | with_reducible refine New.drewN ?_ _ | with_reducible refine New.drew ?_ | with_reducible refine New.setCell ?_ (by first | omega | (simp; done) | (simp; omega)) _ | with_reducible refine New.tail (by assumption) ?_))⟩
set_option maxHeartbeats 1000000 in
theorem specTreeLegs_ok (n : Nat) (A : Option Addr) (cap : Nat) (L : List Lg) (w : World) (hL : LegsAt w A L) (hv : svB n L = true) :
    Calls Tryd.prog 34 #[.agg #[.int .i64 n, .slice A L.length cap]] w fun r w' => ∃ B cp, r = .returned (.slice B (treeL n L L.length).length cp) ∧ FInts w w' B (treeL n L L.length) ∧ New w w' := by
  obtain ⟨i0, hi, hz, hs, hb⟩ := info_parts infoInt
  obtain ⟨b1, b2, b3, b4⟩ := svB_true hv
  have h1 : New w (w.alloc (Obj.cells #[.int .i64 n, .slice A L.length cap] 25)) := (by repeat (first | with_reducible exact New.refl _ | with_reducible assumption | with_reducible refine New.alloc ?_ _ | with_reducible refine New.drewN ?_ _ | with_reducible refine New.drew ?_ | with_reducible refine New.setCell ?_ (by first | omega | (simp; done) | (simp; omega)) _ | with_reducible refine New.tail (by assumption) ?_))
  have h2 := Has.new w #[.int .i64 n, .slice A L.length cap] 25
  have hL' := hL.keep h1
  have B4 := Lib.hid b4
  clear b4
  go_enter Tryd.func34, Tryd.ntmps34
  go_upto_region 1 with fail
  generalize (w.alloc (Obj.cells #[.int .i64 n, .slice A L.length cap] 25)) = W0 at *
  have c2 := h2.cells2
  clear h2
  go_wp2_with fail
  go_loopw [4, 3] (fun i v wr => ∃ k : Nat, k ≤ L.length ∧ i = .int .i64 k ∧ New W0 wr ∧ wr.ownsRow W0.heap.size 3 1 v (treeL n L k).length ((treeL n L k).map (Value.int .i64))) (fun i _ _ => L.length - (intOf i).toNat)
  case atStart => exact ⟨0, Nat.zero_le _, rfl, (by repeat (first | with_reducible exact New.refl _ | with_reducible assumption | with_reducible refine New.alloc ?_ _ | with_reducible refine New.drewN ?_ _ | with_reducible refine New.drew ?_ | with_reducible refine New.setCell ?_ (by first | omega | (simp; done) | (simp; omega)) _ | with_reducible refine New.tail (by assumption) ?_)), World.ownsRow_made W0 #[] 0 (Nat.le_refl _) (by simp) rfl⟩
  case round =>
    obtain ⟨k, hk', rfl, hw, hown⟩ := hrel
    by_cases hlt : k < L.length
    · have hLk : L[k]? = some L[k] := List.getElem?_eq_getElem hlt
      have hse := sepB_at (n := n) hLk
      have hf := ok_facts (B4.out L[k] (List.getElem_mem hlt))
      have htl := treeL_len n L k
      have hlt' : (k : Int) < (L.length : Int) := by omega
      have hk0 : (0 : Int) ≤ (k : Int) := by omega
      obtain ⟨b, off, f, t, e, nn, u, hA, hg', hc⟩ := (hL'.keep hw).at_ hlt
      rw [hg'] at hf hse
      simp only at hf hse
      obtain ⟨hf1, hf2, hf3, hf4, -⟩ := hf
      obtain ⟨f, rfl⟩ := Int.eq_ofNat_of_zero_le hf1
      obtain ⟨t, rfl⟩ := Int.eq_ofNat_of_zero_le hf3
      subst hA
      obtain ⟨B, cp, hvs, hF⟩ := FInts.of_own (w0 := W0) hown (Nat.le_refl _)
      subst hvs
      have hpt := parts_tree n L k (by omega)
      have HPT := Lib.hid hpt
      have hll := partsL_length n (L.take k)
      have hlx : (partsL n (L.take k))[f]? = some (lab (partsL n (L.take k)) f) := by
        have := lab_get (l := partsL n (L.take k)) (a := (f : Int)) (by omega) (by rw [hll]; omega)
        simpa using this
      have hly : (partsL n (L.take k))[t]? = some (lab (partsL n (L.take k)) t) := by
        have := lab_get (l := partsL n (L.take k)) (a := (t : Int)) (by omega) (by rw [hll]; omega)
        simpa using this
      obtain ⟨x, hx⟩ : ∃ x, lab (partsL n (L.take k)) f = x := ⟨_, rfl⟩
      obtain ⟨y, hy⟩ : ∃ y, lab (partsL n (L.take k)) t = y := ⟨_, rfl⟩
      rw [hx] at hlx hse
      rw [hy] at hly hse
      have Hlx := Lib.hid hlx
      have Hly := Lib.hid hly
      have Hse := Lib.hid hse
      clear hg' hLk hpt hll hlx hly hx hy hse
      go_wp2_with fail
      refine (specSurveyValid_any _ _ _ _ _ (hL'.keep hw) (by omega)).mono ?_
      rw [hv]
      rintro e w1 ⟨rfl, hn1⟩
      have hk1 : New W0 w1 := hw.trans hn1
      go_wp2_with fail
      refine (l1Parts_any _ _ _ _ _ _ _ _ (hL'.keep hk1) (hF.reads.keep hn1) hv (fun i hi => by have := treeL_mem hi; omega) (by omega)).mono ?_
      rw [HPT.out]
      rintro e w3 ⟨g, cp3, rfl, hg3, hI, hn3⟩
      have hk3 : New wr w3 := hn1.trans hn3
      have hW3 : New W0 w3 := hw.trans hk3
      have cx := hI.cell Hlx.out
      have cy := hI.cell Hly.out
      have hc3 := fun w' (hn : New w3 w') => hc w' (hk3.trans hn)
      have c23 := fun w' (hn : New w3 w') => c2 w' (hW3.trans hn)
      have hf0 : (0 : Int) ≤ (f : Int) := by omega
      have ht0 : (0 : Int) ≤ (t : Int) := by omega
      clear hc c2
      by_cases hxy : x = y
      · subst hxy
        have Ht := Lib.hid (treeL_no (Hse.out.trans (by simp)))
        go_wp2_with fail
        go_quiet (fail)
        go_wp2_with fail
        go_roundw
        case rel => exact ⟨k + 1, by omega, by go_num, (by repeat (first | with_reducible exact New.refl _ | with_reducible assumption | with_reducible refine New.alloc ?_ _ | with_reducible refine New.drewN ?_ _ | with_reducible refine New.drew ?_ | with_reducible refine New.setCell ?_ (by first | omega | (simp; done) | (simp; omega)) _ | with_reducible refine New.tail (by assumption) ?_)), by rw [Ht.out]; exact own_new hown (hk3.drewN nq)⟩
        case measure => simp [intOf]; omega
      · have Ht := Lib.hid (treeL_yes (Hse.out.trans (by simpa using hxy)))
        have hxy' : (x != y) = true := by simpa using hxy
        clear hxy
        go_upto_region 7 with fail
        go_quiet (fail)
        have hown5 := own_new hown (hk3.drewN nq)
        have hW5 := hW3.drewN nq
        go_wp2_with (at_builtin; refine wpList_append_own _ rfl _ _ 30 rfl W0.heap.size 3 i0 (.int .i64 0) 1 8 Tryd.underlying30 hi hz hs hb rfl (by decide) _ _ _ rfl (hown5.alloc _) ⟨w3.heap.size, 0, none⟩ 1 1 [.int .i64 k] rfl rfl (one_new _ _ _) (one_oneCell _) (by unfold maxLen; omega) (by omega) (by have := hW3.size; simp; omega) ?_; intro v' w5 hown' hgrow _)
        have hnew : New W0 w5 := (hW5.alloc _).grown hgrow (fun j hj => (hown5.lt j hj).1)
        go_wp2_with fail
        go_roundw
        case rel => exact ⟨k + 1, by omega, by go_num, hnew, by rw [Ht.out, List.map_append, List.length_append]; exact hown'⟩
        case measure => simp [intOf]; omega
    · obtain rfl : k = L.length := by omega
      have hlt' : ¬ (L.length : Int) < (L.length : Int) := by omega
      go_wp2_with fail
      go_ret
      obtain ⟨B, cp, rfl, hf⟩ := FInts.of_own (w0 := w) hown (by have := h1.size; omega)
      exact ⟨B, ⟨cp, rfl⟩, hf, h1.trans hw⟩
theorem specTreeLegs_any (st : Int) (A : Option Addr) (cap : Nat) (L : List Lg) (w : World) (hL : LegsAt w A L) (hm : L.length ≤ 1099511627776) :
    Calls Tryd.prog 34 #[.agg #[.int .i64 st, .slice A L.length cap]] w fun r w' => ∃ B cp, r = .returned (.slice B (tlL st L).length cp) ∧ FInts w w' B (tlL st L) ∧ New w w' := by
  cases hv : svB st L
  · rw [tlL_no hv]
    exact (specTreeLegs_no st A cap L w hL hm hv).mono fun e w' ⟨A', cp, h1, h2⟩ => ⟨_, _, h1, FInts.nil, h2⟩
  · obtain ⟨n, rfl⟩ := svB_nat hv
    rw [tlL_ok hv]
    exact specTreeLegs_ok n A cap L w hL hv
end Go.Proofs.YtgcloaimolajjaaDoor
