/- Contracts of Parts, PartsMany, LoopsMany (program and reference). -/
import Derived.Test.YtgcloaimolajjaaDoorInts
namespace Go.Proofs.YtgcloaimolajjaaDoor
open Go.RowKit
set_option linter.all false
theorem svB_true {st : Int} {L : List Lg} (h : svB st L = true) : 1 ≤ st ∧ st ≤ 6 ∧ L.length ≤ 9 ∧ ∀ g ∈ L, Lg.ok st g = true := by
  unfold svB at h
  simp only [Bool.and_eq_true, decide_eq_true_eq, inB_t, List.all_eq_true] at h
  exact ⟨h.1.1.1, h.1.1.2, h.1.2, h.2⟩
theorem ok_facts {n : Nat} {g : Lg} (h : Lg.ok n g = true) : 0 ≤ g.f ∧ g.f < n ∧ 0 ≤ g.t ∧ g.t < n ∧ g.f ≠ g.t := by
  unfold Lg.ok at h
  rw [legB_t] at h
  omega
theorem partsL_length (n : Nat) (L : List Lg) : (partsL n L).length = n := by
  unfold partsL
  suffices ∀ l : List Int, (L.foldl (fun l g => joinL l g.f g.t) l).length = l.length by rw [this, ownL_length]
  induction L with
  | nil => intro l; rfl
  | cons g L ih => intro l; rw [List.foldl_cons, ih, joinL_length]
theorem partsL_take (n : Nat) (L : List Lg) (k : Nat) (g : Lg) (hk : L[k]? = some g) : partsL n (L.take (k + 1)) = joinL (partsL n (L.take k)) g.f g.t := by
  rw [List.take_add_one, hk]
  unfold partsL
  rw [List.foldl_append]
  rfl
set_option maxHeartbeats 1000000 in
theorem implParts_no (st : Int) (A : Option Addr) (cap : Nat) (L : List Lg) (w : World) (hL : LegsAt w A L) (hm : L.length ≤ 1099511627776) (hv : svB st L = false) :
    Calls Tryd.prog 20 #[.agg #[.int .i64 st, .slice A L.length cap]] w fun r w' => r = .returned (.slice none 0 0) ∧ New w w' := by
  have h1 : New w (w.alloc (Obj.cells #[.int .i64 st, .slice A L.length cap] 25)) := (by repeat (first | with_reducible exact New.refl _ | with_reducible assumption | with_reducible refine New.alloc ?_ _ | with_reducible refine New.drewN ?_ _ | with_reducible refine New.drew ?_ | with_reducible refine New.setCell ?_ (by first | omega | (simp; done) | (simp; omega)) _ | with_reducible refine New.tail (by assumption) ?_))
  have hL' := hL.keep h1
  go_enter Tryd.func20, Tryd.ntmps20
  go_wp2_with (go_at_call 16; refine (implSurveyValid_any _ _ _ _ _ hL' hm).mono ?_; rintro e w1 ⟨rfl, hn⟩)
  go_ret
  exact ⟨rfl, h1.trans hn⟩
set_option maxHeartbeats 1000000 in
theorem implParts_ok (n : Nat) (A : Option Addr) (cap : Nat) (L : List Lg) (w : World) (hL : LegsAt w A L) (hv : svB n L = true) :
    Calls Tryd.prog 20 #[.agg #[.int .i64 n, .slice A L.length cap]] w fun r w' => ∃ g, r = .returned (.slice (some ⟨g, 0, none⟩) n n) ∧ w.heap.size ≤ g ∧ Ints w' g (partsL n L) ∧ New w w' := by
  obtain ⟨b1, b2, b3, b4⟩ := svB_true hv
  have h1 : New w (w.alloc (Obj.cells #[.int .i64 n, .slice A L.length cap] 25)) := (by repeat (first | with_reducible exact New.refl _ | with_reducible assumption | with_reducible refine New.alloc ?_ _ | with_reducible refine New.drewN ?_ _ | with_reducible refine New.drew ?_ | with_reducible refine New.setCell ?_ (by first | omega | (simp; done) | (simp; omega)) _ | with_reducible refine New.tail (by assumption) ?_))
  have h2 := Has.new w #[.int .i64 n, .slice A L.length cap] 25
  have hL' := hL.keep h1
  have B4 := Lib.hid b4
  clear b4
  go_enter Tryd.func20, Tryd.ntmps20
  go_upto_region 1 with fail
  generalize (w.alloc (Obj.cells #[.int .i64 n, .slice A L.length cap] 25)) = W0 at *
  have c2 := h2.cells2
  clear h2
  go_wp2_with (first | (go_at_call 16; refine (implSurveyValid_any _ _ _ _ _ hL' (by omega)).mono ?_; rintro e w1 ⟨rfl, hn⟩; have hk : New W0 w1 := New.tail hn (by repeat (first | with_reducible exact New.refl _ | with_reducible assumption | with_reducible refine New.alloc ?_ _ | with_reducible refine New.drewN ?_ _ | with_reducible refine New.drew ?_ | with_reducible refine New.setCell ?_ (by first | omega | (simp; done) | (simp; omega)) _ | with_reducible refine New.tail (by assumption) ?_))) | (go_at_call 66; refine (ownParts_any _ _ (by omega)).mono ?_; rintro e w2 ⟨g, rfl, hg, hi, hn2⟩; have hk2 : New W0 w2 := New.tail hn2 (by assumption)))
  go_loopw [15] (fun i wr => ∃ k : Nat, k ≤ L.length ∧ i = .int .i64 k ∧ New W0 wr ∧ Ints wr g (partsL n (L.take k))) (fun i _ => L.length - (intOf i).toNat)
  case atStart => exact ⟨0, Nat.zero_le _, rfl, hk2, hi⟩
  case round =>
    obtain ⟨k, hk', rfl, hw, hp⟩ := hrel
    by_cases hlt : k < L.length
    · have Hs := Lib.hid (partsL_take n L k L[k] (List.getElem?_eq_getElem hlt))
      have hf := ok_facts (B4.out L[k] (List.getElem_mem hlt))
      obtain ⟨b, off, f, t, e, nn, u, hA, hg', hc⟩ := (hL'.keep hw).at_ hlt
      rw [hg'] at hf Hs
      simp only at hf
      obtain ⟨hf1, hf2, hf3, hf4, -⟩ := hf
      obtain ⟨f, rfl⟩ := Int.eq_ofNat_of_zero_le hf1
      obtain ⟨t, rfl⟩ := Int.eq_ofNat_of_zero_le hf3
      subst hA
      clear hg' c2
      go_wp2_with (go_at_call 67; refine (joinParts_m _ _ _ _ _ _ _ (partsL_length _ _) (hp.keep (by repeat (first | with_reducible exact New.refl _ | with_reducible assumption | with_reducible refine New.alloc ?_ _ | with_reducible refine New.drewN ?_ _ | with_reducible refine New.drew ?_ | with_reducible refine New.setCell ?_ (by first | omega | (simp; done) | (simp; omega)) _ | with_reducible refine New.tail (by assumption) ?_))) (by omega) (by omega) (by omega)).mono ?_; rintro e w3 ⟨rfl, ho, hj⟩)
      go_roundw
      case rel => exact ⟨k + 1, by omega, by go_num, New.only (by repeat (first | with_reducible exact New.refl _ | with_reducible assumption | with_reducible refine New.alloc ?_ _ | with_reducible refine New.drewN ?_ _ | with_reducible refine New.drew ?_ | with_reducible refine New.setCell ?_ (by first | omega | (simp; done) | (simp; omega)) _ | with_reducible refine New.tail (by assumption) ?_)) ho (by have := hk.size; omega), by rw [Hs.out]; exact hj⟩
      case measure => simp [intOf]; omega
    · obtain rfl : k = L.length := by omega
      go_wp2_with fail
      go_ret
      exact ⟨g, rfl, by have := h1.size; have := hk.size; omega, by rw [List.take_length] at hp; exact hp, h1.trans hw⟩
/-- What PartsMany returns. -/
def pmZ (st : Int) (L : List Lg) : Int := if svB st L then (cntL (partsL st.toNat L) st.toNat : Nat) else -1
def lmZ (st : Int) (L : List Lg) : Int := if svB st L then (L.length : Int) - st + pmZ st L else -1
theorem pmZ_no {st : Int} {L : List Lg} (h : svB st L = false) : pmZ st L = -1 := by simp [pmZ, h]
theorem pmZ_ok {n : Nat} {L : List Lg} (h : svB n L = true) : pmZ n L = (cntL (partsL n L) n : Nat) := by simp [pmZ, h]
theorem lmZ_no {st : Int} {L : List Lg} (h : svB st L = false) : lmZ st L = -1 := by simp [lmZ, h]
theorem lmZ_ok {st : Int} {L : List Lg} (h : svB st L = true) : lmZ st L = (L.length : Int) - st + pmZ st L := by simp [lmZ, h]
theorem pmZ_bd (st : Int) (L : List Lg) : -1 ≤ pmZ st L ∧ pmZ st L ≤ 6 := by
  unfold pmZ
  split
  · rename_i h
    have := svB_true h
    have := cntL_le (partsL st.toNat L) st.toNat
    omega
  · omega
theorem svB_nat {st : Int} {L : List Lg} (h : svB st L = true) : ∃ n : Nat, st = n := ⟨st.toNat, by have := (svB_true h).1; omega⟩
set_option maxHeartbeats 1000000 in
theorem implPartsMany_any (st : Int) (A : Option Addr) (cap : Nat) (L : List Lg) (w : World) (hL : LegsAt w A L) (hm : L.length ≤ 1099511627776) :
    Calls Tryd.prog 27 #[.agg #[.int .i64 st, .slice A L.length cap]] w fun r w' => r = .returned (.int .i64 (pmZ st L)) ∧ New w w' := by
  have h1 : New w (w.alloc (Obj.cells #[.int .i64 st, .slice A L.length cap] 25)) := (by repeat (first | with_reducible exact New.refl _ | with_reducible assumption | with_reducible refine New.alloc ?_ _ | with_reducible refine New.drewN ?_ _ | with_reducible refine New.drew ?_ | with_reducible refine New.setCell ?_ (by first | omega | (simp; done) | (simp; omega)) _ | with_reducible refine New.tail (by assumption) ?_))
  have h2 := Has.new w #[.int .i64 st, .slice A L.length cap] 25
  have hL' := hL.keep h1
  cases hv : svB st L
  · go_enter Tryd.func27, Tryd.ntmps27
    go_wp2_with (go_at_call 16; refine (implSurveyValid_any _ _ _ _ _ hL' hm).mono ?_; rintro e w1 ⟨rfl, hn⟩)
    go_ret
    exact ⟨ret_int (pmZ_no hv).symm, h1.trans hn⟩
  · obtain ⟨n, rfl⟩ := svB_nat hv
    have hb := svB_true hv
    have hb2 := hb.2.1
    clear hb
    go_enter Tryd.func27, Tryd.ntmps27
    go_upto_region 1 with fail
    generalize (w.alloc (Obj.cells #[.int .i64 n, .slice A L.length cap] 25)) = W0 at *
    have c2 := h2.cells2
    clear h2
    go_wp2_with (first | (go_at_call 16; refine (implSurveyValid_any _ _ _ _ _ hL' hm).mono ?_; rintro e w1 ⟨rfl, hn⟩; have hk : New W0 w1 := New.tail hn (by repeat (first | with_reducible exact New.refl _ | with_reducible assumption | with_reducible refine New.alloc ?_ _ | with_reducible refine New.drewN ?_ _ | with_reducible refine New.drew ?_ | with_reducible refine New.setCell ?_ (by first | omega | (simp; done) | (simp; omega)) _ | with_reducible refine New.tail (by assumption) ?_))) | (go_at_call 20; refine (implParts_ok _ _ _ _ _ (hL'.keep (by repeat (first | with_reducible exact New.refl _ | with_reducible assumption | with_reducible refine New.alloc ?_ _ | with_reducible refine New.drewN ?_ _ | with_reducible refine New.drew ?_ | with_reducible refine New.setCell ?_ (by first | omega | (simp; done) | (simp; omega)) _ | with_reducible refine New.tail (by assumption) ?_))) hv).mono ?_; rintro e w2 ⟨g, rfl, hg, hi, hn2⟩; have hk2 : New W0 w2 := New.tail hn2 (by assumption)) | (go_at_call 74; refine (countParts_m _ _ _ _ _ (partsL_length _ _) hi.reads (by omega)).mono ?_; rintro e w3 ⟨rfl, hn3⟩))
    go_ret
    exact ⟨ret_int (pmZ_ok hv).symm, h1.trans (New.tail hn3 hk2)⟩
set_option maxHeartbeats 1000000 in
theorem implLoopsMany_any (st : Int) (A : Option Addr) (cap : Nat) (L : List Lg) (w : World) (hL : LegsAt w A L) (hm : L.length ≤ 1099511627776) :
    Calls Tryd.prog 30 #[.agg #[.int .i64 st, .slice A L.length cap]] w fun r w' => r = .returned (.int .i64 (lmZ st L)) ∧ New w w' := by
  have h1 : New w (w.alloc (Obj.cells #[.int .i64 st, .slice A L.length cap] 25)) := (by repeat (first | with_reducible exact New.refl _ | with_reducible assumption | with_reducible refine New.alloc ?_ _ | with_reducible refine New.drewN ?_ _ | with_reducible refine New.drew ?_ | with_reducible refine New.setCell ?_ (by first | omega | (simp; done) | (simp; omega)) _ | with_reducible refine New.tail (by assumption) ?_))
  have h2 := Has.new w #[.int .i64 st, .slice A L.length cap] 25
  have hL' := hL.keep h1
  cases hv : svB st L
  · go_enter Tryd.func30, Tryd.ntmps30
    go_wp2_with (go_at_call 16; refine (implSurveyValid_any _ _ _ _ _ hL' hm).mono ?_; rintro e w1 ⟨rfl, hn⟩)
    go_ret
    exact ⟨ret_int (lmZ_no hv).symm, h1.trans hn⟩
  · obtain ⟨b1, b2, b3, -⟩ := svB_true hv
    have hpb := pmZ_bd st L
    go_enter Tryd.func30, Tryd.ntmps30
    go_upto_region 1 with fail
    generalize (w.alloc (Obj.cells #[.int .i64 st, .slice A L.length cap] 25)) = W0 at *
    have c2 := h2.cells2
    clear h2
    go_wp2_with (go_at_call 16; refine (implSurveyValid_any _ _ _ _ _ hL' hm).mono ?_; rintro e w1 ⟨rfl, hn⟩; have hk : New W0 w1 := New.tail hn (by repeat (first | with_reducible exact New.refl _ | with_reducible assumption | with_reducible refine New.alloc ?_ _ | with_reducible refine New.drewN ?_ _ | with_reducible refine New.drew ?_ | with_reducible refine New.setCell ?_ (by first | omega | (simp; done) | (simp; omega)) _ | with_reducible refine New.tail (by assumption) ?_)))
    go_region_held3 (fun w' => New W0 w') ((repeat (first | with_reducible exact New.refl _ | with_reducible assumption | with_reducible refine New.alloc ?_ _ | with_reducible refine New.drewN ?_ _ | with_reducible refine New.drew ?_ | with_reducible refine New.setCell ?_ (by first | omega | (simp; done) | (simp; omega)) _ | with_reducible refine New.tail (by assumption) ?_))) (first | (go_at_call 27; refine (implPartsMany_any _ _ _ _ _ (hL'.keep (by repeat (first | with_reducible exact New.refl _ | with_reducible assumption | with_reducible refine New.alloc ?_ _ | with_reducible refine New.drewN ?_ _ | with_reducible refine New.drew ?_ | with_reducible refine New.setCell ?_ (by first | omega | (simp; done) | (simp; omega)) _ | with_reducible refine New.tail (by assumption) ?_))) hm).mono ?_; rintro e w2 ⟨rfl, hn⟩))
    go_wp2_with fail
    go_ret
    exact ⟨ret_int (by rw [lmZ_ok hv]; simp only [IntKind.wrap_i64]; omega), h1.trans (by repeat (first | with_reducible exact New.refl _ | with_reducible assumption | with_reducible refine New.alloc ?_ _ | with_reducible refine New.drewN ?_ _ | with_reducible refine New.drew ?_ | with_reducible refine New.setCell ?_ (by first | omega | (simp; done) | (simp; omega)) _ | with_reducible refine New.tail (by assumption) ?_))⟩
end Go.Proofs.YtgcloaimolajjaaDoor
