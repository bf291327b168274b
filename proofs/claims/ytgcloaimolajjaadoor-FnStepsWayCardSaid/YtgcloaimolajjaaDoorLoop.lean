/- Contracts of LoopSteps (program and reference), of l1Has and slices.Contains. -/
import Derived.Test.YtgcloaimolajjaaDoorTw
import Derived.Test.YtgcloaimolajjaaDoorSTw
namespace Go.Proofs.YtgcloaimolajjaaDoor
open Go.RowKit
set_option linter.all false
def hasB (l : List Int) (x : Int) : Bool := l.any (· == x)
theorem hasB_yes {l : List Int} {x : Int} {k : Nat} (hk : k < l.length) (h : l[k] = x) : hasB l x = true := by
  unfold hasB; rw [List.any_eq_true]; exact ⟨l[k], List.getElem_mem hk, by simp [h]⟩
theorem hasB_no {l : List Int} {x : Int} (h : ∀ k (hk : k < l.length), l[k] ≠ x) : hasB l x = false := by
  unfold hasB; rw [List.any_eq_false]; intro y hy
  obtain ⟨k, hk, e⟩ := List.mem_iff_getElem.1 hy
  have := h k hk
  rw [e] at this
  simpa using this
theorem hasB_mem {l : List Int} {x : Int} : hasB l x = true ↔ x ∈ l := by
  unfold hasB; rw [List.any_eq_true]
  exact ⟨fun ⟨y, h1, h2⟩ => by simp at h2; rw [← h2]; exact h1, fun h => ⟨x, h, by simp⟩⟩
set_option maxHeartbeats 1000000 in
theorem l1Has_any (A : Option Addr) (cap : Nat) (l : List Int) (x : Int) (w : World) (h : IntsAt w A l) (hm : l.length ≤ 1000) :
    Calls Tryd.prog 86 #[.slice A l.length cap, .int .i64 x] w fun r w' => r = .returned (.bool (hasB l x)) ∧ w = w' := by
  go_enter Tryd.func86, Tryd.ntmps86
  go_wp2_with fail
  go_loop [5] (fun i => ∃ k : Nat, k ≤ l.length ∧ i = .int .i64 k ∧ Hid (∀ j (hj : j < l.length), j < k → l[j] ≠ x)) (fun i => l.length - (intOf i).toNat)
  case atStart => exact ⟨0, Nat.zero_le _, rfl, fun j _ h => absurd h (Nat.not_lt_zero _)⟩
  case round =>
    obtain ⟨k, hk, rfl, HD⟩ := hrel
    by_cases hlt : k < l.length
    · obtain ⟨b, off, y, hA, hy, hc⟩ := h.at_ hlt
      have hc0 := hc w (New.refl w)
      have HY := Lib.hid hy
      have hk0 : (0 : Int) ≤ (k : Int) := by omega
      have hk1 : (k : Int) < (l.length : Int) := by omega
      subst hA
      clear hc hy
      by_cases hyx : y = x
      · have t1 : (y == x) = true := by simpa using hyx
        have HH : Hid (hasB l x = true) := hasB_yes hlt (by rw [HY.out]; exact hyx)
        clear hyx
        go_wp2_with fail
        go_ret
        exact ⟨ret_bool HH.out.symm, rfl⟩
      · have t1 : (y == x) = false := by simpa using hyx
        go_wp2_with fail
        go_round
        case rel => exact ⟨k + 1, by omega, by go_num, fun j hj hjk => by
          rcases Nat.lt_or_ge j k with h1 | h1
          · exact HD.out j hj h1
          · obtain rfl : j = k := by omega
            rw [HY.out]; exact hyx⟩
        case measure => simp [intOf]; omega
    · obtain rfl : k = l.length := by omega
      have HH : Hid (hasB l x = false) := hasB_no fun k hk => HD.out k hk hk
      go_wp2_with fail
      go_ret
      exact ⟨ret_bool HH.out.symm, rfl⟩
def idxZ (l : List Int) (x : Int) : Int := if hasB l x then ((l.findIdx (· == x) : Nat) : Int) else -1
set_option maxHeartbeats 1000000 in
theorem slicesIndex_any (A : Option Addr) (cap : Nat) (l : List Int) (x : Int) (w : World) (h : IntsAt w A l) (hm : l.length ≤ 1000) :
    Calls Tryd.prog 92 #[.slice A l.length cap, .int .i64 x] w fun r w' => r = .returned (.int .i64 (idxZ l x)) ∧ w = w' := by
  go_enter Tryd.func92, Tryd.ntmps92
  go_wp2_with fail
  go_loop [8] (fun i => ∃ k : Nat, k ≤ l.length ∧ i = .int .i64 k ∧ Hid (∀ j (hj : j < l.length), j < k → l[j] ≠ x)) (fun i => l.length - (intOf i).toNat)
  case atStart => exact ⟨0, Nat.zero_le _, rfl, fun j _ h => absurd h (Nat.not_lt_zero _)⟩
  case round =>
    obtain ⟨k, hk, rfl, HD⟩ := hrel
    by_cases hlt : k < l.length
    · obtain ⟨b, off, y, hA, hy, hc⟩ := h.at_ hlt
      have hc0 := hc w (New.refl w)
      have HY := Lib.hid hy
      have hk0 : (0 : Int) ≤ (k : Int) := by omega
      have hk1 : (k : Int) < (l.length : Int) := by omega
      subst hA
      clear hc hy
      by_cases hyx : y = x
      · have t1 : (x == y) = true := by simp [hyx]
        have HH : Hid (idxZ l x = (k : Int)) := by
          have h1 : l.findIdx (· == x) = k := (List.findIdx_eq hlt).2 ⟨by rw [HY.out]; simp [hyx], fun j hj => by simpa using HD.out j (by omega) hj⟩
          show idxZ l x = _
          unfold idxZ
          rw [if_pos (hasB_yes hlt (by rw [HY.out]; exact hyx)), h1]
        clear hyx
        go_wp2_with fail
        go_ret
        exact ⟨ret_int HH.out.symm, rfl⟩
      · have t1 : (x == y) = false := by simp; exact fun e => hyx e.symm
        go_wp2_with fail
        go_round
        case rel => exact ⟨k + 1, by omega, by go_num, fun j hj hjk => by
          rcases Nat.lt_or_ge j k with h1 | h1
          · exact HD.out j hj h1
          · obtain rfl : j = k := by omega
            rw [HY.out]; exact hyx⟩
        case measure => simp [intOf]; omega
    · obtain rfl : k = l.length := by omega
      have HH : Hid (idxZ l x = -1) := by
        show idxZ l x = _
        unfold idxZ
        rw [hasB_no fun k hk => HD.out k hk hk]; rfl
      go_wp2_with fail
      go_ret
      exact ⟨ret_int HH.out.symm, rfl⟩
theorem slicesContains_any (A : Option Addr) (cap : Nat) (l : List Int) (x : Int) (w : World) (h : IntsAt w A l) (hm : l.length ≤ 1000) :
    Calls Tryd.prog 85 #[.slice A l.length cap, .int .i64 x] w fun r w' => r = .returned (.bool (hasB l x)) ∧ w = w' := by
  cases hb : hasB l x
  · have hz : idxZ l x = -1 := by unfold idxZ; rw [hb]; rfl
    have HZ := Lib.hid hz
    clear hz
    go_enter Tryd.func85, Tryd.ntmps85
    go_wp2_with (go_at_call 92; refine (slicesIndex_any _ _ _ _ _ h hm).mono ?_; rw [HZ.out]; rintro e w1 ⟨rfl, rfl⟩)
    go_ret
    exact ⟨rfl, rfl⟩
  · have hz : idxZ l x = ((l.findIdx (· == x) : Nat) : Int) := by unfold idxZ; rw [hb]; rfl
    obtain ⟨m, hm2⟩ : ∃ m, l.findIdx (· == x) = m := ⟨_, rfl⟩
    rw [hm2] at hz
    have HZ := Lib.hid hz
    have hm0 : (0 : Int) ≤ (m : Int) := by omega
    clear hz hm2
    go_enter Tryd.func85, Tryd.ntmps85
    go_wp2_with (go_at_call 92; refine (slicesIndex_any _ _ _ _ _ h hm).mono ?_; rw [HZ.out]; rintro e w1 ⟨rfl, rfl⟩)
    go_ret
    exact ⟨by simp, rfl⟩
def lsOk (st : Int) (L : List Lg) (i : Int) : Bool := svB st L && ixB i L.length && !(hasB (tlL st L) i)
noncomputable def lsS (st : Int) (L : List Lg) (i : Int) : List St := if lsOk st L i then ⟨i, false⟩ :: twS st L (legAt L i).t (legAt L i).f else []
theorem lsOk_no1 {st : Int} {L : List Lg} {v : Int} (h : svB st L = false) : lsOk st L v = false := by simp [lsOk, h]
theorem lsOk_no2 {st : Int} {L : List Lg} {v : Int} (h : ixB v L.length = false) : lsOk st L v = false := by simp [lsOk, h]
theorem lsOk_no3 {st : Int} {L : List Lg} {v : Int} (h : hasB (tlL st L) v = true) : lsOk st L v = false := by simp [lsOk, h]
theorem lsOk_yes {st : Int} {L : List Lg} {v : Int} (h1 : svB st L = true) (h : ixB v L.length = true) (h3 : hasB (tlL st L) v = false) : lsOk st L v = true := by simp [lsOk, h1, h, h3]
theorem lsS_no {st : Int} {L : List Lg} {v : Int} (h : lsOk st L v = false) : lsS st L v = [] := by simp [lsS, h]
theorem lsS_yes {st : Int} {L : List Lg} {v : Int} (h : lsOk st L v = true) : lsS st L v = ⟨v, false⟩ :: twS st L (legAt L v).t (legAt L v).f := by simp [lsS, h]
theorem lsS_len (st : Int) (L : List Lg) (v : Int) : (lsS st L v).length ≤ 10 := by
  unfold lsS
  split
  · have := twS_len st L (legAt L v).t (legAt L v).f; simp; omega
  · simp
set_option maxHeartbeats 2000000 in
theorem implLoopSteps_ok (n j : Nat) (A : Option Addr) (cap : Nat) (L : List Lg) (w : World) (hL : LegsAt w A L) (hv : svB n L = true) (hj : j < L.length) (hh : hasB (tlL n L) j = false) :
    Calls Tryd.prog 58 #[.agg #[.int .i64 n, .slice A L.length cap], .int .i64 j] w fun r w' => ∃ B cp, r = .returned (.tuple #[.slice B (⟨(j : Int), false⟩ :: twS n L (legAt L j).t (legAt L j).f).length cp, .bool true]) ∧ FSteps w w' B (⟨(j : Int), false⟩ :: twS n L (legAt L j).t (legAt L j).f) ∧ New w w' := by
  obtain ⟨i1, ki, kz, ks, kb⟩ := info_parts infoStep
  obtain ⟨b1, b2, b3, b4⟩ := svB_true hv
  obtain ⟨S0, hS0⟩ := tw_leg hv hj
  have hne0 := (legsOk_of hv).leg hj
  have hSne : twS n L (legAt L j).t (legAt L j).f ≠ [] := by
    rw [(tw_ok hS0).1]
    intro e
    rw [e] at hS0
    exact hne0.2.2 (hS0.2.2.2.1 : (legAt L j).t = (legAt L j).f).symm
  have hB := (tw_ok hS0).2
  have hSl := twS_len n L (legAt L j).t (legAt L j).f
  have HV := Lib.hid hv
  have HI : Hid (ixB (j : Int) L.length = true) := ixB_t.2 (by omega)
  have HH := Lib.hid hh
  have h1 : New w (w.alloc (Obj.cells #[.int .i64 n, .slice A L.length cap] 25)) := (by repeat (first | with_reducible exact New.refl _ | with_reducible assumption | with_reducible refine New.alloc ?_ _ | with_reducible refine New.drewN ?_ _ | with_reducible refine New.drew ?_ | with_reducible refine New.setCell ?_ (by first | omega | (simp; done) | (simp; omega)) _ | with_reducible refine New.tail (by assumption) ?_))
  have h2 := Has.new w #[.int .i64 n, .slice A L.length cap] 25
  have hL' := hL.keep h1
  have hla := legAt_get hj
  obtain ⟨b, off, f, t, e, nn, u, hA, hg, hc⟩ := hL'.at_ hj
  rw [hg] at hla
  rw [hla] at hSne hB hSl
  rw [hla]
  simp only at hSne hB hSl ⊢
  obtain ⟨S, hS⟩ : ∃ S, twS n L t f = S := ⟨_, rfl⟩
  rw [hS] at hSne hSl ⊢
  have HS := Lib.hid hS
  have HB := Lib.hid hB
  have HN := Lib.hid hSne
  have hj0 : (0 : Int) ≤ (j : Int) := by omega
  have hj1 : (j : Int) < (L.length : Int) := by omega
  have hTl := tlL_le n L
  subst hA
  clear b4 hS0 hne0 hSne hB hv hh hla hg hS
  go_enter Tryd.func58, Tryd.ntmps58
  go_upto_region 1 with fail
  generalize (w.alloc (Obj.cells #[.int .i64 n, .slice (some ⟨b, off, none⟩) L.length cap] 25)) = W0 at *
  have c2 := h2.cells2
  clear h2
  go_wp2_with fail
  refine (implSurveyValid_any _ _ _ _ _ hL' (by omega)).mono ?_
  rw [HV.out]
  rintro e9 w1 ⟨rfl, hn1⟩
  have c3 := fun w' (hn : New w1 w') => c2 w' (hn1.trans hn)
  have hc3 := fun w' (hn : New w1 w') => hc w' (hn1.trans hn)
  clear c2 hc
  go_wp2_with fail
  refine (isIndex_any _ _ _).mono ?_
  rw [HI.out]
  rintro e9 w2 ⟨rfl, rfl⟩
  go_wp2_with fail
  refine (implTreeLegs_any _ _ _ _ _ (hL'.keep hn1) (by omega)).mono ?_
  rintro e9 w3 ⟨BT, cpT, rfl, hF, hn3⟩
  go_wp2_with fail
  refine (slicesContains_any _ _ _ _ _ hF.reads (by omega)).mono ?_
  rw [HH.out]
  rintro e9 w4 ⟨rfl, rfl⟩
  have c4 := fun w' (hn : New w3 w') => c3 w' (hn3.trans hn)
  have hc4 := fun w' (hn : New w3 w') => hc3 w' (hn3.trans hn)
  have hL3 := hL'.keep (hn1.trans hn3)
  have h3 := h1.trans (hn1.trans hn3)
  clear c3 hc3 hF
  go_upto_region 4 with fail
  have hk4 : New w3 (w3.alloc (Obj.cells #[.int .i64 f, .int .i64 t, .int .i64 e, .int .i64 nn, .int .i64 u] 34)) := (by repeat (first | with_reducible exact New.refl _ | with_reducible assumption | with_reducible refine New.alloc ?_ _ | with_reducible refine New.drewN ?_ _ | with_reducible refine New.drew ?_ | with_reducible refine New.setCell ?_ (by first | omega | (simp; done) | (simp; omega)) _ | with_reducible refine New.tail (by assumption) ?_))
  have h8 := Has.new w3 #[.int .i64 f, .int .i64 t, .int .i64 e, .int .i64 nn, .int .i64 u] 34
  generalize (w3.alloc (Obj.cells #[.int .i64 f, .int .i64 t, .int .i64 e, .int .i64 nn, .int .i64 u] 34)) = W4 at *
  have c8 := h8.cells5
  have c5 := fun w' (hn : New W4 w') => c4 w' (hk4.trans hn)
  have hL4 := hL3.keep hk4
  clear c4 hc4 h8
  go_wp2_with fail
  refine (implTreeWay_any _ _ _ _ _ _ _ hL4 (by omega)).mono ?_
  rw [HS.out, HB.out]
  rintro e9 w5 ⟨B5, cp5, rfl, hF5, hn5⟩
  have hk5 := hk4.trans hn5
  clear c8 c5
  obtain ⟨g5, hB5, hg5, hS5⟩ := hF5 HN.out
  subst hB5
  have hown := World.ownsRow_one w5 (.int .i64 j) (.bool false) 40
  have hS7 := hS5.keep ((New.refl w5).alloc (Obj.cells #[Value.int .i64 j, .bool false] 40))
  clear hF5
  go_wp2_with (at_builtin; refine wpList_append_own _ rfl _ _ 35 rfl w5.heap.size 40 i1 (.agg #[.int .i64 0, .bool false]) 2 16 Tryd.underlying35 ki kz ks kb rfl (by decide) _ _ _ rfl hown ⟨g5, 0, none⟩ S.length cp5 (stC S) rfl (stC_len S) hS7.news (stC_one S) (by unfold maxLen; omega) (by omega) (by simp) ?_; intro v' w7 hown' hgrow hnil)
  have hk7 : New w5 w7 := ((New.refl w5).alloc _).grown hgrow (fun j hj => (hown.lt j hj).1)
  have hE : [Value.int .i64 (j : Int), .bool false] ++ stC S = stC (⟨(j : Int), false⟩ :: S) := (stC_cons S ⟨(j : Int), false⟩).symm
  rw [hE] at hown'
  obtain ⟨-, ⟨-, h0⟩ | ⟨g7, c7, hv7, hg7, hS8⟩⟩ := StepBlk.of_own hown'
  · cases h0
  subst hv7
  clear hE hown hown' hgrow hnil
  go_wp2_with fail
  go_ret2
  exact ⟨some ⟨g7, 0, none⟩, c7, by simp, fun _ => ⟨g7, rfl, by have := (h3.trans hk5).size; omega, hS8⟩, h3.trans (hk5.trans hk7)⟩
theorem implLoopSteps_bad (st v : Int) (A : Option Addr) (cap : Nat) (L : List Lg) (w : World) (hL : LegsAt w A L) (hm : L.length ≤ 1099511627776) (h : svB st L = false ∨ (svB st L = true ∧ ixB v L.length = false) ∨ (svB st L = true ∧ ixB v L.length = true ∧ hasB (tlL st L) v = true)) :
    Calls Tryd.prog 58 #[.agg #[.int .i64 st, .slice A L.length cap], .int .i64 v] w fun r w' => r = .returned (.tuple #[.slice none 0 0, .bool false]) ∧ New w w' := by
  have h1 : New w (w.alloc (Obj.cells #[.int .i64 st, .slice A L.length cap] 25)) := (by repeat (first | with_reducible exact New.refl _ | with_reducible assumption | with_reducible refine New.alloc ?_ _ | with_reducible refine New.drewN ?_ _ | with_reducible refine New.drew ?_ | with_reducible refine New.setCell ?_ (by first | omega | (simp; done) | (simp; omega)) _ | with_reducible refine New.tail (by assumption) ?_))
  have h2 := Has.new w #[.int .i64 st, .slice A L.length cap] 25
  have hL' := hL.keep h1
  rcases h with h | ⟨hv, h⟩ | ⟨hv, hf, h⟩
  · have H := Lib.hid h
    clear h
    go_enter Tryd.func58, Tryd.ntmps58
    go_upto_region 1 with fail
    generalize (w.alloc (Obj.cells #[.int .i64 st, .slice A L.length cap] 25)) = W0 at *
    have c2 := h2.cells2
    clear h2
    go_wp2_with fail
    refine (implSurveyValid_any _ _ _ _ _ hL' hm).mono ?_
    rw [H.out]
    rintro e w1 ⟨rfl, hn1⟩
    go_wp2_with fail
    go_ret2
    exact ⟨rfl, h1.trans hn1⟩
  · obtain ⟨b1, b2, b3, b4⟩ := svB_true hv
    have H := Lib.hid h
    have HV := Lib.hid hv
    clear h hv b4
    go_enter Tryd.func58, Tryd.ntmps58
    go_upto_region 1 with fail
    generalize (w.alloc (Obj.cells #[.int .i64 st, .slice A L.length cap] 25)) = W0 at *
    have c2 := h2.cells2
    clear h2
    go_wp2_with fail
    refine (implSurveyValid_any _ _ _ _ _ hL' hm).mono ?_
    rw [HV.out]
    rintro e w1 ⟨rfl, hn1⟩
    go_wp2_with fail
    refine (isIndex_any _ _ _).mono ?_
    rw [H.out]
    rintro e w2 ⟨rfl, rfl⟩
    go_wp2_with fail
    go_ret2
    exact ⟨rfl, h1.trans hn1⟩
  · obtain ⟨b1, b2, b3, b4⟩ := svB_true hv
    have hTl := tlL_le st L
    have H := Lib.hid h
    have HV := Lib.hid hv
    have HF := Lib.hid hf
    clear h hv hf b4
    go_enter Tryd.func58, Tryd.ntmps58
    go_upto_region 1 with fail
    generalize (w.alloc (Obj.cells #[.int .i64 st, .slice A L.length cap] 25)) = W0 at *
    have c2 := h2.cells2
    clear h2
    go_wp2_with fail
    refine (implSurveyValid_any _ _ _ _ _ hL' hm).mono ?_
    rw [HV.out]
    rintro e w1 ⟨rfl, hn1⟩
    have c3 := fun w' (hn : New w1 w') => c2 w' (hn1.trans hn)
    go_wp2_with fail
    refine (isIndex_any _ _ _).mono ?_
    rw [HF.out]
    rintro e w2 ⟨rfl, rfl⟩
    go_wp2_with fail
    refine (implTreeLegs_any _ _ _ _ _ (hL'.keep hn1) hm).mono ?_
    rintro e9 w3 ⟨BT, cpT, rfl, hF, hn3⟩
    go_wp2_with fail
    refine (slicesContains_any _ _ _ _ _ hF.reads (by omega)).mono ?_
    rw [H.out]
    rintro e9 w4 ⟨rfl, rfl⟩
    go_wp2_with fail
    go_ret2
    exact ⟨rfl, h1.trans (hn1.trans hn3)⟩
theorem implLoopSteps_any (st v : Int) (A : Option Addr) (cap : Nat) (L : List Lg) (w : World) (hL : LegsAt w A L) (hm : L.length ≤ 1099511627776) :
    Calls Tryd.prog 58 #[.agg #[.int .i64 st, .slice A L.length cap], .int .i64 v] w fun r w' => ∃ B cp, r = .returned (.tuple #[.slice B (lsS st L v).length cp, .bool (lsOk st L v)]) ∧ FSteps w w' B (lsS st L v) ∧ New w w' := by
  cases hv : svB st L
  · have h := lsOk_no1 (v := v) hv
    rw [lsS_no h, h]
    exact (implLoopSteps_bad st v A cap L w hL hm (.inl hv)).mono fun e w' ⟨h1, h2⟩ => ⟨none, 0, h1, FSteps.nil, h2⟩
  · cases hi : ixB v L.length
    · have h := lsOk_no2 (st := st) hi
      rw [lsS_no h, h]
      exact (implLoopSteps_bad st v A cap L w hL hm (.inr (.inl ⟨hv, hi⟩))).mono fun e w' ⟨h1, h2⟩ => ⟨none, 0, h1, FSteps.nil, h2⟩
    · cases hh : hasB (tlL st L) v
      · have h := lsOk_yes hv hi hh
        rw [lsS_yes h, h]
        obtain ⟨n, rfl⟩ := svB_nat hv
        have hi2 := ixB_t.1 hi
        obtain ⟨v, rfl⟩ := Int.eq_ofNat_of_zero_le hi2.1
        exact implLoopSteps_ok n v A cap L w hL hv (by omega) hh
      · have h := lsOk_no3 hh
        rw [lsS_no h, h]
        exact (implLoopSteps_bad st v A cap L w hL hm (.inr (.inr ⟨hv, hi, hh⟩))).mono fun e w' ⟨h1, h2⟩ => ⟨none, 0, h1, FSteps.nil, h2⟩
set_option maxHeartbeats 2000000 in
theorem specLoopSteps_ok (n j : Nat) (A : Option Addr) (cap : Nat) (L : List Lg) (w : World) (hL : LegsAt w A L) (hv : svB n L = true) (hj : j < L.length) (hh : hasB (tlL n L) j = false) :
    Calls Tryd.prog 59 #[.agg #[.int .i64 n, .slice A L.length cap], .int .i64 j] w fun r w' => ∃ B cp, r = .returned (.tuple #[.slice B (⟨(j : Int), false⟩ :: twS n L (legAt L j).t (legAt L j).f).length cp, .bool true]) ∧ FSteps w w' B (⟨(j : Int), false⟩ :: twS n L (legAt L j).t (legAt L j).f) ∧ New w w' := by
  obtain ⟨i1, ki, kz, ks, kb⟩ := info_parts infoStep
  obtain ⟨b1, b2, b3, b4⟩ := svB_true hv
  obtain ⟨S0, hS0⟩ := tw_leg hv hj
  have hne0 := (legsOk_of hv).leg hj
  have hSne : twS n L (legAt L j).t (legAt L j).f ≠ [] := by
    rw [(tw_ok hS0).1]
    intro e
    rw [e] at hS0
    exact hne0.2.2 (hS0.2.2.2.1 : (legAt L j).t = (legAt L j).f).symm
  have hB := (tw_ok hS0).2
  have hSl := twS_len n L (legAt L j).t (legAt L j).f
  have HV := Lib.hid hv
  have HI : Hid (inB (j : Int) 0 ((L.length : Int) - 1) = true) := inB_t.2 (by omega)
  have HH := Lib.hid hh
  have h1 : New w (w.alloc (Obj.cells #[.int .i64 n, .slice A L.length cap] 25)) := (by repeat (first | with_reducible exact New.refl _ | with_reducible assumption | with_reducible refine New.alloc ?_ _ | with_reducible refine New.drewN ?_ _ | with_reducible refine New.drew ?_ | with_reducible refine New.setCell ?_ (by first | omega | (simp; done) | (simp; omega)) _ | with_reducible refine New.tail (by assumption) ?_))
  have h2 := Has.new w #[.int .i64 n, .slice A L.length cap] 25
  have hL' := hL.keep h1
  have hla := legAt_get hj
  obtain ⟨b, off, f, t, e, nn, u, hA, hg, hc⟩ := hL'.at_ hj
  rw [hg] at hla
  rw [hla] at hSne hB hSl
  rw [hla]
  simp only at hSne hB hSl ⊢
  obtain ⟨S, hS⟩ : ∃ S, twS n L t f = S := ⟨_, rfl⟩
  rw [hS] at hSne hSl ⊢
  have HS := Lib.hid hS
  have HB := Lib.hid hB
  have HN := Lib.hid hSne
  have hj0 : (0 : Int) ≤ (j : Int) := by omega
  have hj1 : (j : Int) < (L.length : Int) := by omega
  have hTl := tlL_le n L
  subst hA
  clear b4 hS0 hne0 hSne hB hv hh hla hg hS
  go_enter Tryd.func59, Tryd.ntmps59
  go_upto_region 1 with fail
  generalize (w.alloc (Obj.cells #[.int .i64 n, .slice (some ⟨b, off, none⟩) L.length cap] 25)) = W0 at *
  have c2 := h2.cells2
  clear h2
  go_wp2_with fail
  refine (specSurveyValid_any _ _ _ _ _ hL' (by omega)).mono ?_
  rw [HV.out]
  rintro e9 w1 ⟨rfl, hn1⟩
  have c3 := fun w' (hn : New w1 w') => c2 w' (hn1.trans hn)
  have hc3 := fun w' (hn : New w1 w') => hc w' (hn1.trans hn)
  clear c2 hc
  go_wp2_with fail
  refine (l1In_any _ _ _ _).mono ?_
  rw [HI.out]
  rintro e9 w2 ⟨rfl, rfl⟩
  go_wp2_with fail
  refine (specTreeLegs_any _ _ _ _ _ (hL'.keep hn1) (by omega)).mono ?_
  rintro e9 w3 ⟨BT, cpT, rfl, hF, hn3⟩
  go_wp2_with fail
  refine (l1Has_any _ _ _ _ _ hF.reads (by omega)).mono ?_
  rw [HH.out]
  rintro e9 w4 ⟨rfl, rfl⟩
  have c4 := fun w' (hn : New w3 w') => c3 w' (hn3.trans hn)
  have hc4 := fun w' (hn : New w3 w') => hc3 w' (hn3.trans hn)
  have hL3 := hL'.keep (hn1.trans hn3)
  have h3 := h1.trans (hn1.trans hn3)
  clear c3 hc3 hF
  go_wp2_with fail
  go_region_held3 (fun w' => New w3 w') ((repeat (first | with_reducible exact New.refl _ | with_reducible assumption | with_reducible refine New.alloc ?_ _ | with_reducible refine New.drewN ?_ _ | with_reducible refine New.drew ?_ | with_reducible refine New.setCell ?_ (by first | omega | (simp; done) | (simp; omega)) _ | with_reducible refine New.tail (by assumption) ?_))) (first | (go_at_call 38; refine (specTreeWay_any _ _ _ _ _ _ _ (hL3.keep (by repeat (first | with_reducible exact New.refl _ | with_reducible assumption | with_reducible refine New.alloc ?_ _ | with_reducible refine New.drewN ?_ _ | with_reducible refine New.drew ?_ | with_reducible refine New.setCell ?_ (by first | omega | (simp; done) | (simp; omega)) _ | with_reducible refine New.tail (by assumption) ?_))) (by omega)).mono ?_; rw [HS.out, HB.out]; rintro e9 w5 ⟨B5, cp5, rfl, hF5, hn5⟩))
  have hk5 : New w3 w5 := (by repeat (first | with_reducible exact New.refl _ | with_reducible assumption | with_reducible refine New.alloc ?_ _ | with_reducible refine New.drewN ?_ _ | with_reducible refine New.drew ?_ | with_reducible refine New.setCell ?_ (by first | omega | (simp; done) | (simp; omega)) _ | with_reducible refine New.tail (by assumption) ?_))
  clear c4 hc4
  obtain ⟨g5, hB5, hg5, hS5⟩ := hF5 HN.out
  subst hB5
  have hown := World.ownsRow_one w5 (.int .i64 j) (.bool false) 40
  have hS7 := hS5.keep ((New.refl w5).alloc (Obj.cells #[Value.int .i64 j, .bool false] 40))
  clear hF5
  go_wp2_with (at_builtin; refine wpList_append_own _ rfl _ _ 35 rfl w5.heap.size 40 i1 (.agg #[.int .i64 0, .bool false]) 2 16 Tryd.underlying35 ki kz ks kb rfl (by decide) _ _ _ rfl hown ⟨g5, 0, none⟩ S.length cp5 (stC S) rfl (stC_len S) hS7.news (stC_one S) (by unfold maxLen; omega) (by omega) (by simp) ?_; intro v' w7 hown' hgrow hnil)
  have hk7 : New w5 w7 := ((New.refl w5).alloc _).grown hgrow (fun j hj => (hown.lt j hj).1)
  have hE : [Value.int .i64 (j : Int), .bool false] ++ stC S = stC (⟨(j : Int), false⟩ :: S) := (stC_cons S ⟨(j : Int), false⟩).symm
  rw [hE] at hown'
  obtain ⟨-, ⟨-, h0⟩ | ⟨g7, c7, hv7, hg7, hS8⟩⟩ := StepBlk.of_own hown'
  · cases h0
  subst hv7
  clear hE hown hown' hgrow hnil
  go_wp2_with fail
  go_ret2
  exact ⟨some ⟨g7, 0, none⟩, c7, by simp, fun _ => ⟨g7, rfl, by have := (h3.trans hk5).size; omega, hS8⟩, h3.trans (hk5.trans hk7)⟩
theorem specLoopSteps_bad (st v : Int) (A : Option Addr) (cap : Nat) (L : List Lg) (w : World) (hL : LegsAt w A L) (hm : L.length ≤ 1099511627776) (h : svB st L = false ∨ (svB st L = true ∧ inB v 0 ((L.length : Int) - 1) = false) ∨ (svB st L = true ∧ inB v 0 ((L.length : Int) - 1) = true ∧ hasB (tlL st L) v = true)) :
    Calls Tryd.prog 59 #[.agg #[.int .i64 st, .slice A L.length cap], .int .i64 v] w fun r w' => ∃ g, r = .returned (.tuple #[.slice (some ⟨g, 0, none⟩) 0 0, .bool false]) ∧ New w w' := by
  have h1 : New w (w.alloc (Obj.cells #[.int .i64 st, .slice A L.length cap] 25)) := (by repeat (first | with_reducible exact New.refl _ | with_reducible assumption | with_reducible refine New.alloc ?_ _ | with_reducible refine New.drewN ?_ _ | with_reducible refine New.drew ?_ | with_reducible refine New.setCell ?_ (by first | omega | (simp; done) | (simp; omega)) _ | with_reducible refine New.tail (by assumption) ?_))
  have h2 := Has.new w #[.int .i64 st, .slice A L.length cap] 25
  have hL' := hL.keep h1
  rcases h with h | ⟨hv, h⟩ | ⟨hv, hf, h⟩
  · have H := Lib.hid h
    clear h
    go_enter Tryd.func59, Tryd.ntmps59
    go_upto_region 1 with fail
    generalize (w.alloc (Obj.cells #[.int .i64 st, .slice A L.length cap] 25)) = W0 at *
    have c2 := h2.cells2
    clear h2
    go_wp2_with fail
    refine (specSurveyValid_any _ _ _ _ _ hL' hm).mono ?_
    rw [H.out]
    rintro e w1 ⟨rfl, hn1⟩
    go_wp2_with fail
    go_ret2
    exact ⟨_, rfl, (h1.trans hn1).alloc _⟩
  · obtain ⟨b1, b2, b3, b4⟩ := svB_true hv
    have H := Lib.hid h
    have HV := Lib.hid hv
    clear h hv b4
    go_enter Tryd.func59, Tryd.ntmps59
    go_upto_region 1 with fail
    generalize (w.alloc (Obj.cells #[.int .i64 st, .slice A L.length cap] 25)) = W0 at *
    have c2 := h2.cells2
    clear h2
    go_wp2_with fail
    refine (specSurveyValid_any _ _ _ _ _ hL' hm).mono ?_
    rw [HV.out]
    rintro e w1 ⟨rfl, hn1⟩
    go_wp2_with fail
    refine (l1In_any _ _ _ _).mono ?_
    rw [H.out]
    rintro e w2 ⟨rfl, rfl⟩
    go_wp2_with fail
    go_ret2
    exact ⟨_, rfl, (h1.trans hn1).alloc _⟩
  · obtain ⟨b1, b2, b3, b4⟩ := svB_true hv
    have hTl := tlL_le st L
    have H := Lib.hid h
    have HV := Lib.hid hv
    have HF := Lib.hid hf
    clear h hv hf b4
    go_enter Tryd.func59, Tryd.ntmps59
    go_upto_region 1 with fail
    generalize (w.alloc (Obj.cells #[.int .i64 st, .slice A L.length cap] 25)) = W0 at *
    have c2 := h2.cells2
    clear h2
    go_wp2_with fail
    refine (specSurveyValid_any _ _ _ _ _ hL' hm).mono ?_
    rw [HV.out]
    rintro e w1 ⟨rfl, hn1⟩
    have c3 := fun w' (hn : New w1 w') => c2 w' (hn1.trans hn)
    go_wp2_with fail
    refine (l1In_any _ _ _ _).mono ?_
    rw [HF.out]
    rintro e w2 ⟨rfl, rfl⟩
    go_wp2_with fail
    refine (specTreeLegs_any _ _ _ _ _ (hL'.keep hn1) hm).mono ?_
    rintro e9 w3 ⟨BT, cpT, rfl, hF, hn3⟩
    go_wp2_with fail
    refine (l1Has_any _ _ _ _ _ hF.reads (by omega)).mono ?_
    rw [H.out]
    rintro e9 w4 ⟨rfl, rfl⟩
    go_wp2_with fail
    go_ret2
    exact ⟨_, rfl, (h1.trans (hn1.trans hn3)).alloc _⟩
theorem specLoopSteps_any (st v : Int) (A : Option Addr) (cap : Nat) (L : List Lg) (w : World) (hL : LegsAt w A L) (hm : L.length ≤ 1099511627776) :
    Calls Tryd.prog 59 #[.agg #[.int .i64 st, .slice A L.length cap], .int .i64 v] w fun r w' => ∃ B cp, r = .returned (.tuple #[.slice B (lsS st L v).length cp, .bool (lsOk st L v)]) ∧ FSteps w w' B (lsS st L v) ∧ New w w' := by
  cases hv : svB st L
  · have h := lsOk_no1 (v := v) hv
    rw [lsS_no h, h]
    exact (specLoopSteps_bad st v A cap L w hL hm (.inl hv)).mono fun e w' ⟨g, h1, h2⟩ => ⟨_, 0, h1, FSteps.nil, h2⟩
  · cases hi : ixB v L.length
    · have h := lsOk_no2 (st := st) hi
      rw [lsS_no h, h]
      exact (specLoopSteps_bad st v A cap L w hL hm (.inr (.inl ⟨hv, by rw [← ix_in]; exact hi⟩))).mono fun e w' ⟨g, h1, h2⟩ => ⟨_, 0, h1, FSteps.nil, h2⟩
    · cases hh : hasB (tlL st L) v
      · have h := lsOk_yes hv hi hh
        rw [lsS_yes h, h]
        obtain ⟨n, rfl⟩ := svB_nat hv
        have hi2 := ixB_t.1 hi
        obtain ⟨v, rfl⟩ := Int.eq_ofNat_of_zero_le hi2.1
        exact specLoopSteps_ok n v A cap L w hL hv (by omega) hh
      · have h := lsOk_no3 hh
        rw [lsS_no h, h]
        exact (specLoopSteps_bad st v A cap L w hL hm (.inr (.inr ⟨hv, by rw [← ix_in]; exact hi, hh⟩))).mono fun e w' ⟨g, h1, h2⟩ => ⟨_, 0, h1, FSteps.nil, h2⟩
end Go.Proofs.YtgcloaimolajjaaDoor
