/- Contracts of the laws' helpers that write into a result or an argument and look again: markSurvey, markIntS, heldIntS, eqIntS. -/
import Derived.Test.YtmopbghngaeplaaLawS
import Derived.Test.YtmopbghngaeplaaSParts
namespace Go.Proofs.Ytmopbghngaeplaa
open Go.RowKit
set_option linter.all false
def mkL (k0 : Int) (n : Nat) : List Int := (List.range n).map fun (i : Nat) => k0 + (i : Int)
theorem mkL_length (k0 : Int) (n : Nat) : (mkL k0 n).length = n := by simp [mkL]
theorem mkL_get (k0 : Int) (n k : Nat) (h : k < n) : (mkL k0 n)[k]? = some (k0 + k) := by simp [mkL, h]
/-- The first k entries marked. -/
def mkTo (k0 : Int) (l : List Int) (k : Nat) : List Int := mkL k0 k ++ l.drop k
theorem mkTo_zero (k0 : Int) (l : List Int) : mkTo k0 l 0 = l := by simp [mkTo, mkL]
theorem mkTo_all (k0 : Int) (l : List Int) : mkTo k0 l l.length = mkL k0 l.length := by simp [mkTo]
theorem mkTo_len (k0 : Int) (l : List Int) (k : Nat) (h : k ≤ l.length) : (mkTo k0 l k).length = l.length := by simp [mkTo, mkL_length]; omega
theorem mkTo_set (k0 : Int) (l : List Int) (k : Nat) (h : k < l.length) : (mkTo k0 l k).set k (k0 + k) = mkTo k0 l (k + 1) := by
  unfold mkTo
  rw [List.set_append_right _ _ (by rw [mkL_length]; exact Nat.le_refl _), mkL_length, Nat.sub_self, List.drop_eq_getElem_cons h, List.set_cons_zero]
  have e : mkL k0 (k + 1) = mkL k0 k ++ [k0 + k] := by unfold mkL; rw [List.range_succ, List.map_append]; rfl
  rw [e, List.append_assoc]
  rfl
theorem FInts.keep {w0 w w' : World} {A : Option Addr} {l : List Int} (h : FInts w0 w A l) (hn : New w w') : FInts w0 w' A l := fun hne => by
  obtain ⟨g, e, hg, hi⟩ := h hne
  exact ⟨g, e, hg, hi.keep hn⟩
theorem FInts.only {w0 w w' : World} {A : Option Addr} {l : List Int} {g : Nat} (h : FInts w0 w A l) (ho : Only g w w') (hg : g < w0.heap.size) : FInts w0 w' A l := fun hne => by
  obtain ⟨b, e, hb, hi⟩ := h hne
  exact ⟨b, e, hb, hi.only ho (by omega)⟩
theorem eqIntS_same (A B : Option Addr) (ca cb n : Nat) (l : List Int) (w : World) (hln : l.length = n) (hA : IntsAt w A l) (hB : IntsAt w B l) (hm : n ≤ 1099511627776) :
    Calls Try.prog 46 #[.slice A n ca, .slice B n cb] w fun r w' => r = .returned (.bool true) ∧ New w w' := by
  subst hln
  go_enter Try.func46, Try.ntmps46
  go_wp2_with fail
  go_loopw [5] (fun i wr => ∃ k : Nat, k ≤ l.length ∧ i = .int .i64 k ∧ New w wr) (fun i _ => l.length - (intOf i).toNat)
  case atStart => exact ⟨0, Nat.zero_le _, rfl, New.refl _⟩
  case round =>
    obtain ⟨k, hk, rfl, hw⟩ := hrel
    by_cases hlt : k < l.length
    · obtain ⟨b, off, x, e1, hg, hc⟩ := (hA.keep hw).at_ hlt
      obtain ⟨b', off', x', e2, hg', hc'⟩ := (hB.keep hw).at_ hlt
      rw [hg] at hg'
      subst hg'
      subst e1 e2
      clear hg hA hB
      have hk0 : (0 : Int) ≤ (k : Int) := by omega
      have hk1 : (k : Int) < (l.length : Int) := by omega
      go_wp2_with fail
      go_quiet (fail)
      go_wp2_with fail
      go_roundw
      case rel => exact ⟨k + 1, by omega, by go_num, hw.trans (by repeat (first | with_reducible exact New.refl _ | with_reducible assumption | with_reducible refine New.alloc ?_ _ | with_reducible refine New.drewN ?_ _ | with_reducible refine New.drew ?_ | with_reducible refine New.setCell ?_ (by first | omega | (simp; done) | (simp; omega)) _ | with_reducible refine New.tail (by assumption) ?_))⟩
      case measure => simp [intOf]; omega
    · go_wp2_with fail
      go_ret
      exact ⟨rfl, hw⟩
set_option maxHeartbeats 1000000 in
theorem heldIntS_any (A : Option Addr) (ca n : Nat) (k0 : Int) (w : World) (hA : IntsAt w A (mkL k0 n)) (hm : n ≤ 1099511627776) (h0 : 0 ≤ k0) (h1 : k0 ≤ 1099511627776) :
    Calls Try.prog 48 #[.slice A n ca, .int .i64 k0] w fun r w' => r = .returned (.int .i64 (k0 + n)) ∧ New w w' := by
  have hlen := mkL_length k0 n
  go_enter Try.func48, Try.ntmps48
  go_wp2_with fail
  go_loopw [5, 1] (fun i v wr => ∃ k : Nat, k ≤ n ∧ i = .int .i64 k ∧ v = .int .i64 (k0 + k) ∧ New w wr) (fun i _ _ => n - (intOf i).toNat)
  case atStart => exact ⟨0, Nat.zero_le _, rfl, by simp, New.refl _⟩
  case round =>
    obtain ⟨k, hk, rfl, rfl, hw⟩ := hrel
    by_cases hlt : k < n
    · obtain ⟨b, off, x, e1, hg, hc⟩ := (hA.keep hw).at_ (k := k) (by omega)
      have hx : k0 + (k : Int) = x := by
        have := mkL_get k0 n k hlt
        rw [List.getElem?_eq_getElem (by omega), hg] at this
        simpa using this.symm
      subst hx
      subst e1
      clear hg hA hlen
      have hk0 : (0 : Int) ≤ (k : Int) := by omega
      have hk1 : (k : Int) < (n : Int) := by omega
      go_wp2_with fail
      go_roundw
      case rel => exact ⟨k + 1, by omega, by go_num, by go_num, hw⟩
      case measure => simp [intOf]; omega
    · obtain rfl : k = n := by omega
      go_wp2_with fail
      go_ret
      exact ⟨rfl, hw⟩
set_option maxHeartbeats 1000000 in
theorem markIntS_row (g ca : Nat) (l : List Int) (k0 : Int) (w : World) (h : Ints w g l) (hm : l.length ≤ 1099511627776) (h0 : 0 ≤ k0) (h1 : k0 ≤ 1099511627776) :
    Calls Try.prog 47 #[.slice (some ⟨g, 0, none⟩) l.length ca, .int .i64 k0] w fun r w' => r = .returned (.int .i64 (k0 + l.length)) ∧ Only g w w' ∧ Ints w' g (mkL k0 l.length) := by
  go_enter Try.func47, Try.ntmps47
  go_wp2_with fail
  go_loopw [5, 1] (fun i v wr => ∃ k : Nat, k ≤ l.length ∧ i = .int .i64 k ∧ v = .int .i64 (k0 + k) ∧ Only g w wr ∧ Ints wr g (mkTo k0 l k)) (fun i _ _ => l.length - (intOf i).toNat)
  case atStart => exact ⟨0, Nat.zero_le _, rfl, by simp, Only.refl _ _, by rw [mkTo_zero]; exact h⟩
  case round =>
    obtain ⟨k, hk, rfl, rfl, hw, hi⟩ := hrel
    by_cases hlt : k < l.length
    · have Hset := Lib.hid (mkTo_set k0 l k hlt)
      obtain ⟨x, hx⟩ : ∃ x, (mkTo k0 l k)[k]? = some x := ⟨_, List.getElem?_eq_getElem (by rw [mkTo_len _ _ _ (by omega)]; exact hlt)⟩
      have c1 := hi.cell hx
      have f1 := hi.free
      clear hx
      go_wp2_with fail
      go_roundw
      case rel => exact ⟨k + 1, by omega, by go_num, by go_num, hw.setCell rfl _, by rw [← Hset.out]; exact hi.set k _⟩
      case measure => simp [intOf]; omega
    · obtain rfl : k = l.length := by omega
      go_wp2_with fail
      go_ret
      exact ⟨rfl, hw, by rw [← mkTo_all]; exact hi⟩
theorem markIntS_nil (A : Option Addr) (ca : Nat) (k0 : Int) (w : World) : Calls Try.prog 47 #[.slice A 0 ca, .int .i64 k0] w fun r w' => r = .returned (.int .i64 k0) ∧ w = w' := by
  go_enter Try.func47, Try.ntmps47
  go_wp2_with fail
  refine wp_loop_rounds 1 ?_
  rw [rounds_succ]
  go_wp2_with fail
  go_ret
  exact ⟨rfl, rfl⟩
/-- The marks of a result that is new since w0. -/
theorem markIntS_any (A : Option Addr) (ca n : Nat) (l : List Int) (k0 : Int) (w0 w : World) (hln : l.length = n) (h : FInts w0 w A l) (hn : New w0 w) (hm : n ≤ 1099511627776) (h0 : 0 ≤ k0) (h1 : k0 ≤ 1099511627776) :
    Calls Try.prog 47 #[.slice A n ca, .int .i64 k0] w fun r w' => r = .returned (.int .i64 (k0 + n)) ∧ New w0 w' ∧ FInts w0 w' A (mkL k0 n) := by
  subst hln
  by_cases hl : l = []
  · subst hl
    exact (markIntS_nil A ca k0 w).mono fun e w' ⟨he, hw⟩ => ⟨by simpa using he, by rw [← hw]; exact hn, by intro h; simp [mkL] at h⟩
  · obtain ⟨g, rfl, hg, hi⟩ := h hl
    exact (markIntS_row g ca l k0 w hi hm h0 h1).mono fun e w' ⟨he, ho, hi'⟩ => ⟨he, hn.only ho hg, FInts.mk hg hi'⟩
set_option maxHeartbeats 1000000 in
theorem markLegS_any (g ca n : Nat) (cs : Array Value) (k0 : Int) (w : World) (h : Has w g cs 34) (hsz : cs.size = n * 5) (hm : n ≤ 1099511627776) (h0 : 0 ≤ k0) (h1 : k0 ≤ 1099511627776) :
    Calls Try.prog 68 #[.slice (some ⟨g, 0, none⟩) n ca, .int .i64 k0] w fun r w' => r = .returned (.int .i64 (k0 + 5 * n)) ∧ Only g w w' := by
  have Hsz := Lib.hid hsz
  clear hsz
  go_enter Try.func68, Try.ntmps68
  go_wp2_with fail
  go_loopw [5, 1] (fun i v wr => ∃ k : Nat, k ≤ n ∧ i = .int .i64 k ∧ v = .int .i64 (k0 + 5 * k) ∧ Only g w wr ∧ ∃ cs : Array Value, Has wr g cs 34 ∧ Hid (cs.size = n * 5)) (fun i _ _ => n - (intOf i).toNat)
  case atStart => exact ⟨0, Nat.zero_le _, rfl, by simp, Only.refl _ _, cs, h, Hsz⟩
  case round =>
    obtain ⟨k, hk, rfl, rfl, hw, cs, hcs, hs⟩ := hrel
    by_cases hlt : k < n
    · have hsz := hs.out
      obtain ⟨x0, hx0⟩ : ∃ x, cs[k * 5]? = some x := ⟨_, Array.getElem?_eq_getElem (by omega)⟩
      obtain ⟨x1, hx1⟩ : ∃ x, cs[k * 5 + 1]? = some x := ⟨_, Array.getElem?_eq_getElem (by omega)⟩
      obtain ⟨x2, hx2⟩ : ∃ x, cs[k * 5 + 2]? = some x := ⟨_, Array.getElem?_eq_getElem (by omega)⟩
      obtain ⟨x3, hx3⟩ : ∃ x, cs[k * 5 + 3]? = some x := ⟨_, Array.getElem?_eq_getElem (by omega)⟩
      obtain ⟨x4, hx4⟩ : ∃ x, cs[k * 5 + 4]? = some x := ⟨_, Array.getElem?_eq_getElem (by omega)⟩
      have k0' := (hcs.cells (k * 5) wr (New.refl _)).trans hx0
      have k1 := (hcs.cells (k * 5 + 1) wr (New.refl _)).trans hx1
      have k2 := (hcs.cells (k * 5 + 2) wr (New.refl _)).trans hx2
      have k3 := (hcs.cells (k * 5 + 3) wr (New.refl _)).trans hx3
      have k4 := (hcs.cells (k * 5 + 4) wr (New.refl _)).trans hx4
      have kf := fun i => hcs.free i
      clear hx0 hx1 hx2 hx3 hx4 hsz
      go_wp2_with fail
      go_roundw
      case rel => exact ⟨k + 1, by omega, by go_num, by go_num, ((((hw.setCell rfl _).setCell rfl _).setCell rfl _).setCell rfl _).setCell rfl _, put5 cs k _ _ _ _ _, Has.put5 hcs k _ _ _ _ _, by have := hs.out; exact (put5_size _ _ _ _ _ _ _).trans this⟩
      case measure => simp [intOf]; omega
    · obtain rfl : k = n := by omega
      go_wp2_with fail
      go_ret
      exact ⟨rfl, hw⟩
set_option maxHeartbeats 1000000 in
theorem markSurvey_any (st : Int) (g ca : Nat) (L : List Lg) (k0 : Int) (w : World) (h : LegBlk w g L) (hm : L.length ≤ 1099511627776) (h0 : 0 ≤ k0) (h1 : k0 ≤ 1099511627776) :
    Calls Try.prog 51 #[.agg #[.int .i64 st, .slice (some ⟨g, 0, none⟩) L.length ca], .int .i64 k0] w fun r w' => r = .returned (.int .i64 (k0 + 5 * L.length)) ∧ Only g w w' := by
  obtain ⟨cs, hcs, hsz, -⟩ := h
  have Hsz := Lib.hid hsz
  clear hsz
  have hcs' := hcs.alloc (Obj.cells #[.int .i64 st, .slice (some ⟨g, 0, none⟩) L.length ca] 53)
  have ha : Only g w (w.alloc (Obj.cells #[.int .i64 st, .slice (some ⟨g, 0, none⟩) L.length ca] 53)) := (Only.refl g w).alloc _
  go_enter Try.func51, Try.ntmps51
  go_wp2_with (go_at_call 68; refine (markLegS_any _ _ _ _ _ _ hcs' Hsz.out hm h0 h1).mono ?_; rintro e w1 ⟨rfl, ho⟩)
  go_ret
  exact ⟨rfl, ha.trans ho⟩
theorem New.below {a b c : World} {B : Nat} (h : New a b) (k : Below B b c) (hB : a.heap.size ≤ B) : New a c := Below.trans h (k.mono hB)
/-- The marks of a result that lies beyond block B. -/
theorem markIntS_at (A : Option Addr) (ca n : Nat) (l : List Int) (k0 : Int) (w0 w : World) (hln : l.length = n) (h : FInts w0 w A l) (hn : w0.heap.size ≤ w.heap.size) (hm : n ≤ 1099511627776) (h0 : 0 ≤ k0) (h1 : k0 ≤ 1099511627776) :
    Calls Try.prog 47 #[.slice A n ca, .int .i64 k0] w fun r w' => r = .returned (.int .i64 (k0 + n)) ∧ Below w0.heap.size w w' ∧ FInts w0 w' A (mkL k0 n) := by
  subst hln
  by_cases hl : l = []
  · subst hl
    exact (markIntS_nil A ca k0 w).mono fun e w' ⟨he, hw⟩ => ⟨by simpa using he, by rw [← hw]; exact Below.refl _ _, by intro h; simp [mkL] at h⟩
  · obtain ⟨g, rfl, hg, hi⟩ := h hl
    exact (markIntS_row g ca l k0 w hi hm h0 h1).mono fun e w' ⟨he, ho, hi'⟩ => ⟨he, ho.below hg hn, FInts.mk hg hi'⟩
end Go.Proofs.Ytmopbghngaeplaa
