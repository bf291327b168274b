/- Contracts of TreesAll and TreesWith of the reference. -/
import Derived.Test.YtbjahideaonimaaTrA
import Derived.Test.YtbjahideaonimaaSParts
namespace Go.Proofs.Ytbjahideaonimaa
open Go.RowKit
set_option linter.all false
def goodS (n : Nat) (L : List Lg) (s : Nat) : Bool := goodB n (ownL n) (n - 1) (chS L s)
/-- All trees with numbers below k. -/
def trM (n : Nat) (L : List Lg) (k : Nat) : List (List Int) := ((List.range k).filter (goodS n L)).map fun s => chI s L.length
theorem trM_no {n : Nat} {L : List Lg} {k : Nat} (h : goodS n L k = false) : trM n L (k + 1) = trM n L k := by unfold trM; rw [List.range_succ, List.filter_append]; simp [h]
theorem trM_yes {n : Nat} {L : List Lg} {k : Nat} (h : goodS n L k = true) : trM n L (k + 1) = trM n L k ++ [chI k L.length] := by unfold trM; rw [List.range_succ, List.filter_append]; simp [h]
theorem trM_len (n : Nat) (L : List Lg) (k : Nat) : (trM n L k).length ≤ k := by unfold trM; rw [List.length_map]; exact Nat.le_trans (List.length_filter_le ..) (by simp)
theorem sv_chU {st : Int} {L : List Lg} (h : svB st L = true) (s : Nat) : svB st (chU L s L.length) = true := by
  obtain ⟨a, b, c, d⟩ := svB_true h
  have hm : ∀ g ∈ chU L s L.length, g ∈ L := fun g hg => by rw [← chS_U] at hg; exact chS_mem hg
  refine svB_good a b ?_ fun j hj => d _ (hm _ (List.getElem_mem hj))
  have := chU_I (L := L) (s := s) L.length (Nat.le_refl _)
  have := chI_len s L.length
  omega
theorem good_pm {n : Nat} {L : List Lg} (h : svB n L = true) (s : Nat) : goodS n L s = (decide ((chI s L.length).length = n - 1) && decide (pmZ n (chU L s L.length) = 1)) := by
  rw [pmZ_ok (sv_chU h s)]
  unfold goodS goodB
  rw [chS_U, chU_I _ (Nat.le_refl _)]
  rw [Bool.eq_iff_iff]
  simp only [decide_eq_true_eq, Bool.and_eq_true]
  constructor
  · rintro ⟨a, b⟩; exact ⟨a, by unfold partsL; unfold fj at b; omega⟩
  · rintro ⟨a, b⟩; exact ⟨a, by unfold partsL at b; unfold fj; omega⟩
def RowsIn (w : World) (rs : List Value) (M : List (List Int)) : Prop := ∀ (j : Nat) (I : List Int), M[j]? = some I → ∃ C c, rs[j]? = some (Value.slice C I.length c) ∧ FI w C I
theorem RowsIn.keep {w w' : World} {rs : List Value} {M : List (List Int)} (h : RowsIn w rs M) (hn : New w w') : RowsIn w' rs M := fun j I hj => by
  obtain ⟨C, c, a, b⟩ := h j I hj
  exact ⟨C, c, a, b.keep hn⟩
theorem RowsIn.push {w w' : World} {rs : List Value} {M : List (List Int)} {I : List Int} {C : Option Addr} {c : Nat} (h : RowsIn w rs M) (hl : rs.length = M.length) (hI : FI w C I) {base n : Nat} {v : Value} (ho : w.ownsRow base 68 1 v n rs) (hg : w.grownBy w' v.ownBlock) :
    RowsIn w' (rs ++ [Value.slice C I.length c]) (M ++ [I]) := fun j J hj => by
  rcases Nat.lt_or_ge j M.length with h1 | h1
  · rw [List.getElem?_append_left h1] at hj
    obtain ⟨C', c', a, b⟩ := h j J hj
    exact ⟨C', c', by rw [List.getElem?_append_left (by omega)]; exact a, b.grown ho (by decide) hg⟩
  · rw [List.getElem?_append_right h1] at hj
    rcases Nat.eq_or_lt_of_le h1 with h2 | h2
    · subst h2
      simp at hj
      subst hj
      exact ⟨C, c, by rw [List.getElem?_append_right (by omega), show M.length - rs.length = 0 by omega]; rfl, hI.grown ho (by decide) hg⟩
    · rw [List.getElem?_eq_none (by simp; omega)] at hj; cases hj
theorem RowsIn.mat {w : World} {base n : Nat} {v : Value} {rs : List Value} {M : List (List Int)} (h : RowsIn w rs M) (ho : w.ownsRow base 68 1 v n rs) (hn : n = M.length) : ∃ B cb, v = .slice B M.length cb ∧ MatAt w B M := by
  subst hn
  rcases ho.2 with ⟨rfl, h0⟩ | ⟨g, cap, cur, rfl, hg, hh, hc, hm, hs, ht⟩
  · exact ⟨none, 0, by rw [h0], fun hne => absurd (List.eq_nil_of_length_eq_zero h0) hne⟩
  · refine ⟨_, cap, rfl, fun hne => ⟨g, 0, rfl, Has.lt (cs := cur) (T := 68) hh, fun k r hk => ?_⟩⟩
    obtain ⟨C, c, a, b⟩ := h k r hk
    have hkl := (List.getElem?_eq_some_iff.1 hk).1
    refine ⟨C, c, ?_, b.reads⟩
    rw [Nat.zero_add, Has.cells (cs := cur) (T := 68) hh k w (New.refl w), ← a, ← ht, List.getElem?_take, if_pos (by omega)]
    simp
set_option maxHeartbeats 4000000 in
theorem treesAll_any (n : Nat) (A : Option Addr) (cap : Nat) (L : List Lg) (w : World) (hL : LegsAt w A L) (hv : svB n L = true) :
    Calls Try.prog 39 #[.agg #[.int .i64 n, .slice A L.length cap]] w fun r w' => ∃ B cb, r = .returned (.slice B (trM n L (2 ^ L.length)).length cb) ∧ MatAt w' B (trM n L (2 ^ L.length)) ∧ New w w' := by
  obtain ⟨i1, ki, kz, ks, kb⟩ := info_parts infoRow
  obtain ⟨b1, b2, b3, _⟩ := svB_true hv
  have HV := Lib.hid hv
  have h1 : New w (w.alloc (Obj.cells #[.int .i64 n, .slice A L.length cap] 33)) := (by repeat (first | with_reducible exact New.refl _ | with_reducible assumption | with_reducible refine New.alloc ?_ _ | with_reducible refine New.drewN ?_ _ | with_reducible refine New.drew ?_ | with_reducible refine New.setCell ?_ (by first | omega | (simp; done) | (simp; omega)) _ | with_reducible refine New.tail (by assumption) ?_))
  have h2 := Has.new w #[.int .i64 n, .slice A L.length cap] 33
  have hL' := hL.keep h1
  obtain ⟨N, hN⟩ : ∃ N, 2 ^ L.length = N := ⟨_, rfl⟩
  have hN9 : N ≤ 512 := by rw [← hN]; exact Nat.pow_le_pow_right (by decide : 2 > 0) b3
  have hNI : (2 : Int) ^ L.length = (N : Int) := by rw [← hN]; simp
  rw [hN]
  clear hv hL
  go_enter Try.func39, Try.ntmps39
  go_upto_region 1 with fail
  generalize (w.alloc (Obj.cells #[.int .i64 n, .slice A L.length cap] 33)) = W0 at *
  have c2 := h2.cells2
  go_wp2_with fail
  go_loopw [4, 3, 6] (fun i v _ wr => ∃ (k : Nat) (vv : Value) (rs : List Value), vv = v ∧ k ≤ N ∧ i = .int .i64 k ∧ New W0 wr ∧ wr.ownsRow W0.heap.size 68 1 vv (trM n L k).length rs ∧ Hid (RowsIn wr rs (trM n L k))) (fun i _ _ _ => N - (intOf i).toNat)
  case atStart => exact ⟨0, _, [], rfl, Nat.zero_le _, rfl, (by repeat (first | with_reducible exact New.refl _ | with_reducible assumption | with_reducible refine New.alloc ?_ _ | with_reducible refine New.drewN ?_ _ | with_reducible refine New.drew ?_ | with_reducible refine New.setCell ?_ (by first | omega | (simp; done) | (simp; omega)) _ | with_reducible refine New.tail (by assumption) ?_)), World.ownsRow_made W0 #[] 0 (Nat.le_refl _) (by simp) rfl, (show RowsIn _ _ _ from fun j I h => by simp [trM] at h)⟩
  case round =>
    obtain ⟨k, vv, rs, rfl, hk, rfl, hw, hown, HR⟩ := hrel
    have c4 := fun w' (hn : New wr w') => c2 w' (hw.trans hn)
    by_cases hlt : k < N
    · have hlt' : (k : Int) < (N : Int) := by omega
      clear c2
      go_wp2_with fail
      refine (specSurveyValid_any _ _ _ _ _ (hL'.keep hw) (by omega)).mono ?_
      rw [HV.out]
      rintro _ w1 ⟨rfl, hn1⟩
      go_wp2_with fail
      refine (l2Chosen_any _ _ _ _ _ _ ((hL'.keep hw).keep hn1) (by omega) (by omega)).mono ?_
      rintro _ w2 ⟨B, cb, C, cc, rfl, hcc, hLU, hFI, hn2⟩
      go_upto_region 6 with fail
      have h5 := Has.new w2 #[.int .i64 n, .slice B (chU L k L.length).length cb] 33
      have hk5 : New wr (w2.alloc (.cells #[.int .i64 n, .slice B (chU L k L.length).length cb] 33)) := (hn1.trans hn2).alloc _
      have hLU5 := hLU.keep ((New.refl w2).alloc (.cells #[.int .i64 n, .slice B (chU L k L.length).length cb] 33))
      have hFI5 := hFI.keep ((New.refl w2).alloc (.cells #[.int .i64 n, .slice B (chU L k L.length).length cb] 33))
      generalize (w2.alloc (.cells #[.int .i64 n, .slice B (chU L k L.length).length cb] 33)) = W5 at *
      have hgp := good_pm HV.out k
      have hcl := chI_len k L.length
      have hul := chU_I (L := L) (s := k) L.length (Nat.le_refl _)
      obtain ⟨m, hm⟩ : ∃ m, (chI k L.length).length = m := ⟨_, rfl⟩
      obtain ⟨pm, hpm⟩ : ∃ pm, pmZ n (chU L k L.length) = pm := ⟨_, rfl⟩
      rw [hm] at hgp hcl hcc hul ⊢
      rw [hpm] at hgp
      have HGP := Lib.hid hgp
      have HM := Lib.hid hm
      have HPM := Lib.hid hpm
      have hPM : ∀ w', New W5 w' → Calls Try.prog 50 #[.agg #[.int .i64 n, .slice B m cb]] w' fun r w'' => r = .returned (.int .i64 pm) ∧ New w' w'' := fun w' hn => by
        have := specPartsMany_any (n : Int) B cb (chU L k L.length) w' (hLU5.keep hn) (by omega)
        rw [hpm, hul] at this
        exact this
      have hc4 := (c4 W5 hk5)
      rw [hul] at h5
      have c5 := h5.at2
      clear hgp hm hpm h5 hLU hFI hn1 hn2 hul
      by_cases hmn : m = n - 1
      · have hb : ((m : Int) == (n : Int) - 1) = true := by simp; omega
        have hlr := hown.1
        have hmN := trM_len n L k
        have Hmn := Lib.hid hmn
        clear hmn
        go_wp2_with fail
        refine (hPM _ (New.refl _)).mono ?_
        rintro _ w6 ⟨rfl, hn6⟩
        have hk6 := hk5.trans hn6
        by_cases hp1 : pm = 1
        · subst hp1
          have hgt : goodS n L k = true := by rw [HGP.out, Hmn.out]; simp
          have HT := Lib.hid (trM_yes hgt)
          clear hgt
          have hown6 := own_new hown hk6
          have hFI6 := hFI5.keep hn6
          have HR6 := Lib.hid (HR.out.keep hk6)
          clear hPM hown hFI5
          go_wp2_with (at_builtin; refine wpList_append_own _ rfl _ _ 65 rfl W0.heap.size 68 i1 (.slice none 0 0) 1 24 Try.underlying65 ki kz ks kb rfl (by decide) _ _ _ rfl (hown6.alloc _) ⟨w6.heap.size, 0, none⟩ 1 1 [.slice C m cc] rfl rfl (one_new _ _ _) (slice_oneCell _ _ _) (by unfold maxLen; omega) (by omega) (by have := hw.size; have := hk6.size; simp; omega) ?_; intro v' w7 hown' hgrow _)
          have hnew : New W0 w7 := ((hw.trans hk6).alloc _).grown hgrow (fun j hj => (hown6.lt j hj).1)
          have hRP := RowsIn.push (c := cc) (HR6.out.keep ((New.refl w6).alloc (.cells #[.slice C m cc] 68))) (by omega) (hFI6.keep ((New.refl w6).alloc (.cells #[.slice C m cc] 68))) (hown6.alloc _) hgrow
          have HRP := Lib.hid hRP
          clear hRP hgrow hown6 hFI6 HR6
          go_wp2_with fail
          go_roundw
          case rel => exact ⟨k + 1, _, rs ++ [.slice C m cc], rfl, by omega, by go_num, hnew, by rw [HT.out, List.length_append, List.length_singleton]; exact hown', (show RowsIn _ _ _ by rw [HT.out, ← HM.out]; exact HRP.out)⟩
          case measure => simp [intOf]; omega
        · have hpb : (pm == 1) = false := by simpa using hp1
          have hgf : goodS n L k = false := by rw [HGP.out]; simp [hp1]
          have HT := Lib.hid (trM_no hgf)
          clear hgf hPM hp1
          go_wp2_with fail
          go_roundw
          case rel => exact ⟨k + 1, _, rs, rfl, by omega, by go_num, hw.trans hk6, by rw [HT.out]; exact own_new hown hk6, (show RowsIn _ _ _ by rw [HT.out]; exact HR.out.keep hk6)⟩
          case measure => simp [intOf]; omega
      · have hb : ((m : Int) == (n : Int) - 1) = false := by simp; omega
        have hgf : goodS n L k = false := by rw [HGP.out]; simp [hmn]
        have HT := Lib.hid (trM_no hgf)
        clear hgf
        go_wp2_with fail
        go_roundw
        case rel => exact ⟨k + 1, _, rs, rfl, by omega, by go_num, hw.trans hk5, by rw [HT.out]; exact own_new hown hk5, (show RowsIn _ _ _ by rw [HT.out]; exact HR.out.keep hk5)⟩
        case measure => simp [intOf]; omega
    · obtain rfl : k = N := by omega
      obtain ⟨B, cb, hB, hM⟩ := HR.out.mat hown rfl
      subst hB
      clear hown
      go_wp2_with fail
      go_ret
      exact ⟨B, cb, rfl, hM, h1.trans hw⟩
end Go.Proofs.Ytbjahideaonimaa
